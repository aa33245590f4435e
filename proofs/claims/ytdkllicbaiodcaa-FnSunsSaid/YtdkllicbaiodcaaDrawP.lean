/- DrawPond: a valid pond and valid heats. -/
import Derived.Test.YtdkllicbaiodcaaDrawL
namespace Go.Proofs.Ytdkllicbaiodcaa
open Go.ChangeShapes Go.WideShapes Go.ChangeAt Go.RowKit
set_option linter.unusedVariables false

set_option maxHeartbeats 1000000 in
theorem l29Heats_c (g B : Nat) (code : List Int) (w : World) (hC : CurB w g B code) : Calls Try.prog 35 #[.pointer (some ⟨g, 0, none⟩)] w (RowP w g B code (0) (255) 0 8) := by
  have hgl := hC.lt
  have hE := OwnI.empty w
  have hC0 := hC.alloc (.cells #[] 3)
  have hG0 : w.grownBy (w.alloc (.cells #[] 3)) (some g) := World.grownBy_alloc w _ _
  go_enter Try.func35, Try.ntmps35
  go_wp2_with fail
  refine (l01Below_c g B code 9 _ hC0 (by omega) (by omega)).mono ?_
  rintro e w1 ⟨n, rfl, n0, n1, hC1, hg1⟩
  replace hE := hE.cur hg1 hgl
  have hG1 := hG0.trans hg1
  clear hC0 hG0 hg1 hC
  obtain ⟨m, rfl⟩ := Int.eq_ofNat_of_zero_le n0
  go_wp2
  go_loopw [3, 5] (fun s i wr => ∃ (k : Nat) (A1 : Option Addr) (c1 : Nat) (ys : List Int), k ≤ m ∧ i = .int .i64 k ∧ s = .slice A1 ys.length c1 ∧ Hid (ys.length = k) ∧ ys.length ≤ 8 ∧ OwnI wr w.heap.size A1 c1 ys ∧ Hid (∀ y ∈ ys, 0 ≤ y ∧ y ≤ 255) ∧ CurB wr g B code ∧ w.grownBy wr (some g)) (fun _ i _ => m - (intOf i).toNat)
  case atStart => exact ⟨0, _, _, [], Nat.zero_le _, rfl, rfl, rfl, Nat.zero_le _, hE, (fun y hy => by cases hy), hC1, hG1⟩
  case round =>
    clear hE hC1 hG1
    obtain ⟨k, A1, cc, ys, hk, rfl, rfl, hlen, hl2, hO, hall, hC, hG⟩ := hrel
    by_cases hlt : k < m
    · go_wp2_with fail
      refine (l01Below_c g B code (256) _ hC (by omega) (by omega)).mono ?_
      rintro e w2 ⟨x, rfl, x0, x1, hC2, hg2⟩
      have hO2 := hO.cur hg2 hgl
      have hG2 := hG.trans hg2
      have hw2 : w.heap.size ≤ w2.heap.size := hG2.size
      have hone : RdI (w2.alloc (.cells #[.int .i64 (x)] 3)) (w2.alloc (.cells #[.int .i64 (x)] 3)).heap.size (some ⟨w2.heap.size, 0, none⟩) [x] := RdI.of_ints (xs := [x]) (Blk.new _ _ _)
      have hOa := hO2.alloc (.cells #[.int .i64 (x)] 3)
      have hCa := hC2.alloc (.cells #[.int .i64 (x)] 3)
      have hGa := Lib.hid (grownBy_al hG2 (.cells #[.int .i64 (x)] 3))
      have hl3 : ys.length < 8 := by have := hlen.out; omega
      have hl4 := Lib.hid (show ys.length + 1 = k + 1 by have := hlen.out; omega)
      clear hO2 hG2 hG hO hC hC2 hg2
      go_wp2_with (first | (at_builtin; refine wpList_append_rd _ rfl (.tmp 14) (.tmp 17) rfl w.heap.size A1 ys.length cc ys rfl rfl hOa (w2.alloc (.cells #[.int .i64 (x)] 3)).heap.size (some ⟨w2.heap.size, 0, none⟩) 1 1 [x] rfl rfl hone (by simp; omega) (by simp; omega) ?_; intro A' c' w3 hOn hgr hat) | fail)
      have hrow := hOa.row_ge
      go_roundw
      case rel =>
        refine ⟨k + 1, A', c', ys ++ [x], by omega, by go_num, ?_, ?_, ?_, hOn, ?_, hCa.kept hgr (fun k hk => by have := hrow k hk; omega), grownBy_over hGa.out hgr hrow⟩
        · rw [List.length_append]; rfl
        · show (ys ++ [x]).length = k + 1; rw [List.length_append]; exact hl4.out
        · rw [List.length_append]; simp; omega
        · intro y hy
          rcases List.mem_append.1 hy with h | h
          · exact hall.out y h
          · rw [List.mem_singleton.1 h]; exact ⟨by omega, by omega⟩
      case measure => simp [intOf]; omega
    · have hlk : ys.length = m := by have := hlen.out; omega
      have hlk' := Lib.hid hlk
      clear hlk
      go_wp2
      go_ret
      exact ⟨_, _, ys, rfl, hO, by have := hlk'.out; omega, hl2, hall.out, hC, hG⟩

def PondP (w : World) (g B : Nat) (code : List Int) (e : Ending) (w' : World) : Prop :=
  ∃ (s d : Int) (c : Bool), e = .returned (.agg #[.int .i64 s, .int .i64 d, .bool c]) ∧ 1 ≤ s ∧ s ≤ 60 ∧ 0 ≤ d ∧ d ≤ 597 ∧ CurB w' g B code ∧ w.grownBy w' (some g)
set_option maxHeartbeats 1000000 in
theorem l29Pond_c (g B : Nat) (code : List Int) (w : World) (hC : CurB w g B code) : Calls Try.prog 34 #[.pointer (some ⟨g, 0, none⟩)] w (PondP w g B code) := by
  have hC0 := hC.alloc (.cells #[.int .i64 0, .int .i64 0, .bool false] 25)
  have hG0 : w.grownBy (w.alloc (.cells #[.int .i64 0, .int .i64 0, .bool false] 25)) (some g) := World.grownBy_alloc w _ _
  have P := Blk.new w 25 #[.int .i64 0, .int .i64 0, .bool false]
  have hgl := hC.lt
  have hne : some w.heap.size ≠ some g := by intro e; injection e with e; omega
  go_enter Try.func34, Try.ntmps34
  go_wp2_with fail
  refine (l01Below_c g B code 60 _ hC0 (by omega) (by omega)).mono ?_
  rintro e w1 ⟨s, rfl, s0, s1, hC1, hg1⟩
  replace P := P.grown hg1 hne
  replace hG0 := hG0.trans hg1
  go_wp2_with fail
  refine (l01Below_c g B code 200 _ hC1 (by omega) (by omega)).mono ?_
  rintro e w2 ⟨d, rfl, d0, d1, hC2, hg2⟩
  replace P := P.grown hg2 hne
  replace hG0 := hG0.trans hg2
  go_wp2_with fail
  refine (l01Once_c g B code 2 _ hC2 (by omega) (by omega)).mono ?_
  rintro e w3 ⟨c, rfl, hC3, hg3⟩
  replace P := P.grown hg3 hne
  replace hG0 := hG0.trans hg3
  clear hC hC0 hC1 hC2 hg1 hg2 hg3
  obtain ⟨p0, p1, p2, pf0, pf1, pf2, pL⟩ := P.three
  go_wp2
  refine bodyPost_ret (v := .agg #[.int .i64 (1 + s), .int .i64 (3 * d), .bool c]) (by simp [results, Try.results34, go_sem, *]) rfl ⟨1 + s, 3 * d, c, rfl, by omega, by omega, by omega, by omega, ?_, ?_⟩
  · exact ((hC3.put hgl _).put hgl _).put hgl _
  · exact grownBy_put (grownBy_put (grownBy_put hG0 (Nat.le_refl _) _) (Nat.le_refl _) _) (Nat.le_refl _) _

def DrawPondP (w : World) (e : Ending) (w' : World) : Prop :=
  ∃ (s d : Int) (c : Bool) (A : Option Addr) (cp : Nat) (hs : List Int), e = .returned (.tuple #[.agg #[.int .i64 s, .int .i64 d, .bool c], .slice A hs.length cp]) ∧ 1 ≤ s ∧ s ≤ 60 ∧ 0 ≤ d ∧ d ≤ 597 ∧ hs.length ≤ 8 ∧ (∀ y ∈ hs, 0 ≤ y ∧ y ≤ 255) ∧ RdI w' w'.heap.size A hs ∧ Below w.heap.size w w'
set_option maxHeartbeats 2000000 in
theorem drawPond_c (A : Option Addr) (c : Nat) (code : List Int) (w : World) (hr : RdB w w.heap.size A code) (hl : code.length ≤ 1048576) : Calls Try.prog 27 #[.slice A code.length c] w (DrawPondP w) := by
  have P := Blk.new w 25 #[.int .i64 0, .int .i64 0, .bool false]
  have H := (Below.refl w.heap.size w).alloc (Nat.le_refl _) (.cells #[.int .i64 0, .int .i64 0, .bool false] 25)
  have hr0 := hr.below H (Nat.le_refl _)
  have hr1 : RdB (w.alloc (.cells #[.int .i64 0, .int .i64 0, .bool false] 25)) (w.alloc (.cells #[.int .i64 0, .int .i64 0, .bool false] 25)).heap.size A code := hr0.more H.size
  go_enter Try.func27, Try.ntmps27
  go_wp2_with fail
  refine (l01New_c _ _ _ _ hr1 hl).mono ?_
  rintro e w1 ⟨rfl, hC, b⟩
  replace P := P.next b
  replace H := chain H b (Nat.le_refl _)
  have hsz := b.size
  have hcur : (w.alloc (.cells #[.int .i64 0, .int .i64 0, .bool false] 25)).heap.size = w.heap.size + 1 := by simp
  rw [hcur] at hC hsz
  clear b hr0 hr1 hcur
  go_wp2_with fail
  refine (l29Pond_c _ _ code _ hC).mono ?_
  rintro e w2 ⟨s, d, cv, rfl, s0, s1, d0, d1, hC2, hg2⟩
  have hne : some w.heap.size ≠ some (w.heap.size + 1) := by intro e; injection e with e; omega
  replace P := P.grown hg2 hne
  replace H := below_of_grown H hg2 H.size (by omega)
  have hsz2 := hg2.size
  have hlt1 := hC.lt
  clear hg2 hC
  have Q := Blk.new w2 25 #[.int .i64 s, .int .i64 d, .bool cv]
  replace P := P.alloc (.cells #[.int .i64 s, .int .i64 d, .bool cv] 25)
  replace H := H.alloc H.size (.cells #[.int .i64 s, .int .i64 d, .bool cv] 25)
  replace hC2 := hC2.alloc (.cells #[.int .i64 s, .int .i64 d, .bool cv] 25)
  obtain ⟨q0, q1, q2, -, -, -, qL⟩ := Q.three
  go_wp2
  have hnn : w2.heap.size ≠ w.heap.size := by omega
  have hne2 : some w2.heap.size ≠ some (w.heap.size + 1) := by intro e; injection e with e; omega
  go_region_held3 (fun w' => w'.cell? ⟨w2.heap.size, 0, none⟩ = some (.int .i64 s) ∧ w'.cell? ⟨w2.heap.size, 1, none⟩ = some (.int .i64 d) ∧ w'.cell? ⟨w2.heap.size, 2, none⟩ = some (.bool cv))
    ((go_split_ands; refine ⟨?_, ?_, ?_⟩ <;> first | assumption | (with_reducible exact cell_far (cell_far (cell_far (by assumption) hnn) hnn) hnn) | (with_reducible exact World.grownBy.cell hg3 (by assumption) hne2)))
    ((go_at_call 35; refine (l29Heats_c (w.heap.size + 1) (w.heap.size + 1) code _ (by exact hC2)).mono ?_; rintro e w3 ⟨A3, c3, hs, rfl, hO, -, h8, hb, hC3, hg3⟩; (have P3 : Blk w3 w.heap.size 25 #[.int .i64 0, .int .i64 0, .bool false] := Blk.grown (by exact P) hg3 hne); (obtain ⟨p0, p1, p2, pf0, pf1, pf2, pL⟩ := P3.three)))
  all_goals
    have hO' := hO.more (b := w.heap.size + 1) P.lt
    have H3 : Below w.heap.size w w3 := below_of_grown H.drew hg3 H.size (Nat.le_succ _)
    have P3 : Blk w3 w.heap.size 25 #[.int .i64 0, .int .i64 0, .bool false] := Blk.grown (by exact P) hg3 hne
    have O1 := ((hO'.cur (grownBy_set (g := w.heap.size) (i := 0) (.int .i64 s)) (Nat.lt_succ_self _)).cur (grownBy_set (g := w.heap.size) (i := 1) (.int .i64 d)) (Nat.lt_succ_self _)).cur (grownBy_set (g := w.heap.size) (i := 2) (.bool cv)) (Nat.lt_succ_self _)
    have P4 := P3.put3 (.int .i64 s) (.int .i64 d) (.bool cv)
    clear q0 q1 q2 qL Q P3
    try clear p0 p1 p2 pf0 pf1 pf2 pL
    obtain ⟨p0, p1, p2, pf0, pf1, pf2, pL⟩ := P4.three
    go_wp2
    refine bodyPost_ret (v := .tuple #[.agg #[.int .i64 s, .int .i64 d, .bool cv], .slice A3 hs.length c3]) (by simp [results, Try.results27, go_sem, *]) rfl ⟨s, d, cv, A3, c3, hs, rfl, s0, s1, d0, d1, h8, hb, O1.rd, ?_⟩
    exact ((H3.setCell (Nat.le_refl _) _).setCell (Nat.le_refl _) _).setCell (Nat.le_refl _) _
end Go.Proofs.Ytdkllicbaiodcaa
