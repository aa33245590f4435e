/- DrawWatches: valid watches. -/
import Derived.Test.YtcmealoppnpdcaaLaw
import Derived.Test.YtcmealoppnpdcaaOwnS
import Derived.Test.YtcmealoppnpdcaaDrawB
namespace Go.Proofs.Ytcmealoppnpdcaa
open Go.ChangeShapes Go.WideShapes Go.ChangeAt Go.RowKit
set_option linter.unusedVariables false

theorem OwnZ.cur {w w' : World} {base g n c : Nat} {A : Option Addr} {xs : List Int} (h : OwnZ w base A n c xs) (hg : w.grownBy w' (some g)) (hlt : g < base) : OwnZ w' base A n c xs :=
  h.kept hg (fun k e hk => by
    injection hk with hk
    rcases h.form with ⟨e0, _⟩ | ⟨g0, e0, hb, _⟩
    · rw [e0] at e; cases e
    · rw [e0] at e; injection e with e; injection e with e; omega)
theorem OwnZ.row_ge2 {w : World} {base : Nat} {A : Option Addr} {n c : Nat} {zs : List Int} (h : OwnZ w base A n c zs) : ∀ k, (Value.slice A n c).ownBlock = some k → base ≤ k := fun k hk => (World.ownsRow.lt h k hk).1
theorem OwnZ.empty (w : World) : OwnZ (w.alloc (.cells #[] 44)) w.heap.size (some ⟨w.heap.size, 0, none⟩) 0 0 [] := OwnZ.of_blk (zs := []) (Nat.le_refl _) rfl (by unfold maxLen; simp) (Blk.new _ _ _)
theorem OwnZ.block_lt {w : World} {base n c : Nat} {A : Option Addr} {zs : List Int} (h : OwnZ w base A n c zs) : ∀ g, A = some ⟨g, 0, none⟩ → g < w.heap.size := fun g e => by
  rcases h.form with ⟨e0, _⟩ | ⟨g0, e0, _, hlt, _⟩
  · rw [e0] at e; cases e
  · rw [e0] at e; injection e with e; injection e with e; omega
theorem cell_off {w : World} {b o o' : Nat} {v x : Value} (h : w.cell? ⟨b, o, none⟩ = some x) (hne : o ≠ o') : (w.setCell ⟨b, o', none⟩ v).cell? ⟨b, o, none⟩ = some x :=
  (World.cell?_setCell_other w ⟨b, o', none⟩ ⟨b, o, none⟩ v (fun e => hne (by injection e with _ e1; exact e1.symm))).trans h
def goodW (t : Wf) : Prop := ∀ k, k < t.length → 0 ≤ fr t k ∧ fr t k < wt t k ∧ wt t k ≤ 48 ∧ 0 ≤ py t k ∧ py t k ≤ 1000
theorem goodW_snoc {t : Wf} {x y z : Int} (h : goodW t) (x0 : 0 ≤ x) (xy : x < y) (y1 : y ≤ 48) (z0 : 0 ≤ z) (z1 : z ≤ 1000) : goodW (t ++ [(x, y, z)]) := by
  intro k hk
  rw [List.length_append] at hk
  by_cases e : k < t.length
  · have e1 : fr (t ++ [(x, y, z)]) k = fr t k ∧ wt (t ++ [(x, y, z)]) k = wt t k ∧ py (t ++ [(x, y, z)]) k = py t k := by
      simp only [fr, wt, py, List.getD, List.getElem?_append_left e, and_self]
    rw [e1.1, e1.2.1, e1.2.2]
    exact h k e
  · have hkl : k = t.length := by simp at hk; omega
    subst hkl
    have hlast : (t ++ [(x, y, z)])[t.length]? = some (x, y, z) := by simp
    rw [fr_at hlast, wt_at hlast, py_at hlast]
    exact ⟨x0, xy, y1, z0, z1⟩
theorem goodW_ok {t : Wf} (h : goodW t) (hl : t.length ≤ 16) : watB t = true := by
  unfold watB
  simp only [Bool.and_eq_true, decide_eq_true_eq]
  refine ⟨hl, (allAt_iff _ _).2 fun k hk => ?_⟩
  have := h k hk
  unfold watAt
  simp only [Bool.and_eq_true, inB_iff, decide_eq_true_eq]
  omega
def WatP (w : World) (g B : Nat) (code : List Int) (e : Ending) (w' : World) : Prop :=
  ∃ (A : Option Addr) (c : Nat) (t : Wf), e = .returned (.slice A t.length c) ∧ OwnZ w' w.heap.size A t.length c (flat3 t) ∧ watB t = true ∧ t.length ≤ 10 ∧ CurB w' g B code ∧ w.grownBy w' (some g)
set_option maxHeartbeats 4000000 in
theorem l31List_c (g B : Nat) (code : List Int) (w : World) (hC : CurB w g B code) : Calls Try.prog 34 #[.pointer (some ⟨g, 0, none⟩)] w (WatP w g B code) := by
  have hgl := hC.lt
  have hE := OwnZ.empty w
  have hC0 := hC.alloc (.cells #[] 44)
  have hG0 : w.grownBy (w.alloc (.cells #[] 44)) (some g) := World.grownBy_alloc w _ _
  go_enter Try.func34, Try.ntmps34
  go_wp2_with fail
  refine (l01Below_c g B code 9 _ hC0 (by omega) (by omega)).mono ?_
  rintro e w1 ⟨n, rfl, n0, n1, hC1, hg1⟩
  replace hE := hE.cur hg1 hgl
  have hG1 := hG0.trans hg1
  clear hC0 hG0 hg1 hC
  obtain ⟨m, rfl⟩ := Int.eq_ofNat_of_zero_le n0
  go_wp2
  go_loopw [3, 5] (fun s i wr => ∃ (k : Nat) (A1 : Option Addr) (c1 : Nat) (t : Wf), k ≤ m ∧ i = .int .i64 k ∧ s = .slice A1 t.length c1 ∧ Hid (t.length = k) ∧ t.length ≤ 8 ∧ OwnZ wr w.heap.size A1 t.length c1 (flat3 t) ∧ Hid (goodW t) ∧ CurB wr g B code ∧ w.grownBy wr (some g)) (fun _ i _ => m - (intOf i).toNat)
  case atStart => exact ⟨0, _, _, [], Nat.zero_le _, rfl, rfl, rfl, Nat.zero_le _, hE, (fun k hk => by simp at hk), hC1, hG1⟩
  case round =>
    clear hE hC1 hG1
    obtain ⟨k, A1, cc, t, hk, rfl, rfl, hlen, hl8, hO, hgood, hC, hG⟩ := hrel
    by_cases hlt : k < m
    · have hlk : t.length < 8 := by have := hlen.out; omega
      go_wp2_with fail
      refine (l01Below_c g B code 24 _ hC (by omega) (by omega)).mono ?_
      rintro e w2 ⟨x, rfl, x0, x1, hC2, hg2⟩
      have hO2 := hO.cur hg2 hgl
      have hG2 := hG.trans hg2
      clear hO hG hC hg2
      go_wp2_with fail
      refine (l01Below_c g B code 40 _ hC2 (by omega) (by omega)).mono ?_
      rintro e w3 ⟨z, rfl, z0, z1, hC3, hg3⟩
      have hO3 := hO2.cur hg3 hgl
      have hG3 := hG2.trans hg3
      clear hO2 hG2 hC2 hg3
      have hw3 : w.heap.size ≤ w3.heap.size := hG3.size
      have hOlt := Lib.hid hO3.block_lt
      have P := Blk.new w3 44 #[.int .i64 x, .int .i64 0, .int .i64 z]
      replace hC3 := hC3.alloc (.cells #[.int .i64 x, .int .i64 0, .int .i64 z] 44)
      replace hO3 := hO3.alloc (.cells #[.int .i64 x, .int .i64 0, .int .i64 z] 44)
      replace hG3 := grownBy_al hG3 (.cells #[.int .i64 x, .int .i64 0, .int .i64 z] 44)
      have hne : some w3.heap.size ≠ some g := by intro e; injection e with e; omega
      obtain ⟨p0, p1, p2, pf0, pf1, pf2, pL⟩ := P.three
      go_wp2
      go_region_held3 (fun w' => w'.cell? ⟨w3.heap.size, 0, none⟩ = some (.int .i64 x))
        ((first | assumption | (with_reducible exact cell_off (by assumption) (by decide)) | (with_reducible exact World.grownBy.cell hg4 (by assumption) hne)))
        ((go_at_call 36; refine (l01Below_c g B code 12 _ (by exact hC3) (by omega) (by omega)).mono ?_; rintro e w4 ⟨d, rfl, d0, d1, hC4, hg4⟩; (have P4 : Blk w4 w3.heap.size 44 #[.int .i64 x, .int .i64 0, .int .i64 z] := Blk.grown (by exact P) hg4 hne); (obtain ⟨q0, q1, q2, qf0, qf1, qf2, qL⟩ := P4.three)))
      have hww : IntKind.i64.wrap (IntKind.i64.wrap (x + 1) + d) = x + 1 + d := by rw [IntWalk.i64_in (x + 1) (by omega), IntWalk.i64_in _ (by omega)]
      rw [hww]
      replace hg4 : World.grownBy (w3.alloc (.cells #[.int .i64 x, .int .i64 0, .int .i64 z] 44)) w4 (some g) := ⟨hg4.os, hg4.tape, hg4.output, hg4.size, hg4.block⟩
      have hO4 := (hO3.cur hg4 hgl).kept (grownBy_set (g := w3.heap.size) (i := 1) (.int .i64 (x + 1 + d))) (fun k e h => by have := hOlt.out k e; injection h with h; omega)
      have hG4 := grownBy_put (i := 1) (hG3.trans hg4) hw3 (.int .i64 (x + 1 + d))
      have hC5 := hC4.put (i := 1) (show g < w3.heap.size by omega) (.int .i64 (x + 1 + d))
      have P4 : Blk w4 w3.heap.size 44 #[.int .i64 x, .int .i64 0, .int .i64 z] := Blk.grown (by exact P) hg4 hne
      replace P := P4.put3_1 (.int .i64 (x + 1 + d))
      generalize w4.setCell ⟨w3.heap.size, 1, none⟩ (.int .i64 (x + 1 + d)) = w5 at *
      clear P4 q0 q1 q2 qf0 qf1 qf2 qL hO3 hG3 hC3 hC4 hg4 hww
      try clear p0 p1 p2 pf0 pf1 pf2 pL
      obtain ⟨p0, p1, p2, pf0, pf1, pf2, pL⟩ := P.three
      have hw5 : w.heap.size ≤ w5.heap.size := hG4.size
      have hone : RdI (w5.alloc (.cells #[.int .i64 x, .int .i64 (x + 1 + d), .int .i64 z] 44)) (w5.alloc (.cells #[.int .i64 x, .int .i64 (x + 1 + d), .int .i64 z] 44)).heap.size (some ⟨w5.heap.size, 0, none⟩) (flat3 [(x, x + 1 + d, z)]) := RdI.of_ints (xs := flat3 [(x, x + 1 + d, z)]) (Blk.new _ _ _)
      have hOa := hO4.alloc (.cells #[.int .i64 x, .int .i64 (x + 1 + d), .int .i64 z] 44)
      have hCa := hC5.alloc (.cells #[.int .i64 x, .int .i64 (x + 1 + d), .int .i64 z] 44)
      have hGa := Lib.hid (grownBy_al hG4 (.cells #[.int .i64 x, .int .i64 (x + 1 + d), .int .i64 z] 44))
      have hgood' := Lib.hid (goodW_snoc hgood.out x0 (show x < x + 1 + d by omega) (by omega) z0 (show z ≤ 1000 by omega))
      have hl4 := Lib.hid (show t.length + 1 = k + 1 by have := hlen.out; omega)
      have hrow := Lib.hid hOa.row_ge2
      clear hO4 hG4 hC5
      go_wp2_with (first | (at_builtin; refine wpList_append_z _ rfl (.tmp 27) (.tmp 29) rfl w.heap.size A1 t.length cc (flat3 t) rfl hOa (w5.alloc (.cells #[.int .i64 x, .int .i64 (x + 1 + d), .int .i64 z] 44)).heap.size _ 1 1 (flat3 [(x, x + 1 + d, z)]) rfl rfl hone (by omega) (by simp; omega) ?_; intro A' c' w6 hOn hgr hat) | fail)
      go_roundw
      case rel =>
        refine ⟨k + 1, A', c', t ++ [(x, x + 1 + d, z)], by omega, by go_num, ?_, ?_, ?_, ?_, hgood'.out, hCa.kept hgr (fun k hk => by have := hrow.out k hk; omega), grownBy_over hGa.out hgr hrow.out⟩
        · rw [List.length_append]; rfl
        · show (t ++ [(x, x + 1 + d, z)]).length = k + 1; rw [List.length_append]; exact hl4.out
        · rw [List.length_append]; simp; omega
        · rw [List.length_append, flat3_append]; exact hOn
      case measure => simp [intOf]; omega
    · go_wp2_with fail
      refine (l01Once_c g B code 2 _ hC (by omega) (by omega)).mono ?_
      rintro e w2 ⟨o, rfl, hC2, hg2⟩
      have hO2 := hO.cur hg2 hgl
      have hG2 := hG.trans hg2
      clear hO hG hC hg2 hlen
      have hw2 : w.heap.size ≤ w2.heap.size := hG2.size
      cases o
      · go_wp2
        go_ret
        exact ⟨_, _, t, rfl, hO2, goodW_ok hgood.out (by omega), by omega, hC2, hG2⟩
      · have hone : RdI (w2.alloc (.cells #[.int .i64 0, .int .i64 12, .int .i64 30, .int .i64 10, .int .i64 30, .int .i64 50] 44)) (w2.alloc (.cells #[.int .i64 0, .int .i64 12, .int .i64 30, .int .i64 10, .int .i64 30, .int .i64 50] 44)).heap.size (some ⟨w2.heap.size, 0, none⟩) (flat3 [(0, 12, 30), (10, 30, 50)]) := RdI.of_ints (xs := flat3 [(0, 12, 30), (10, 30, 50)]) (Blk.new _ _ _)
        have hOa := hO2.alloc (.cells #[.int .i64 0, .int .i64 12, .int .i64 30, .int .i64 10, .int .i64 30, .int .i64 50] 44)
        have hCa := hC2.alloc (.cells #[.int .i64 0, .int .i64 12, .int .i64 30, .int .i64 10, .int .i64 30, .int .i64 50] 44)
        have hGa := grownBy_al hG2 (.cells #[.int .i64 0, .int .i64 12, .int .i64 30, .int .i64 10, .int .i64 30, .int .i64 50] 44)
        have hrow := Lib.hid hOa.row_ge2
        have hgood' := Lib.hid (goodW_snoc (goodW_snoc hgood.out (x := 0) (y := 12) (z := 30) (by omega) (by omega) (by omega) (by omega) (by omega)) (x := 10) (y := 30) (z := 50) (by omega) (by omega) (by omega) (by omega) (by omega))
        clear hO2 hC2 hG2
        go_wp2_with (first | (at_builtin; refine wpList_append_z _ rfl (.tmp 33) (.tmp 36) rfl w.heap.size A1 t.length cc (flat3 t) rfl hOa (w2.alloc (.cells #[.int .i64 0, .int .i64 12, .int .i64 30, .int .i64 10, .int .i64 30, .int .i64 50] 44)).heap.size _ 2 2 (flat3 [(0, 12, 30), (10, 30, 50)]) rfl rfl hone (by omega) (by simp; omega) ?_; intro A' c' w6 hOn hgr hat) | fail)
        go_ret
        have e2 : (t ++ [((0 : Int), (12 : Int), (30 : Int)), (10, 30, 50)]).length = t.length + 2 := by simp
        have e3 : t ++ [((0 : Int), (12 : Int), (30 : Int)), (10, 30, 50)] = t ++ [(0, 12, 30)] ++ [(10, 30, 50)] := by simp
        refine ⟨A', c', t ++ [(0, 12, 30), (10, 30, 50)], by rw [e2]; rfl, ?_, ?_, by rw [e2]; omega, hCa.kept hgr (fun k hk => by have := hrow.out k hk; omega), grownBy_over hGa hgr hrow.out⟩
        · rw [e2, flat3_append]; exact hOn
        · rw [e3]; exact goodW_ok hgood'.out (by rw [← e3, e2]; omega)
def DrawWatP (w : World) (e : Ending) (w' : World) : Prop :=
  ∃ (A : Option Addr) (c : Nat) (t : Wf), e = .returned (.slice A t.length c) ∧ OwnZ w' w.heap.size A t.length c (flat3 t) ∧ watB t = true ∧ t.length ≤ 10 ∧ Below w.heap.size w w'
theorem drawWat_c (A : Option Addr) (c : Nat) (code : List Int) (w : World) (hr : RdB w w.heap.size A code) (hl : code.length ≤ 1048576) : Calls Try.prog 27 #[.slice A code.length c] w (DrawWatP w) := by
  go_enter Try.func27, Try.ntmps27
  go_wp2_with fail
  refine (l01New_c _ _ _ _ hr hl).mono ?_
  rintro e w1 ⟨rfl, hC, b⟩
  go_wp2_with fail
  refine (l31List_c _ _ code _ hC).mono ?_
  rintro e w2 ⟨A2, c2, t, rfl, hO, ht, h10, hC2, hg2⟩
  go_wp2
  go_ret
  exact ⟨A2, c2, t, rfl, hO.more b.size, ht, h10, below_of_grown b hg2 b.size (Nat.le_refl _)⟩
end Go.Proofs.Ytcmealoppnpdcaa
