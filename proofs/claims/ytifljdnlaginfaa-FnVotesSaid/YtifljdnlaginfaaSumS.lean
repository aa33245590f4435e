/- SumOfShares, the reference's. -/
import Derived.Test.YtifljdnlaginfaaSum
namespace Go.Proofs.Ytifljdnlaginfaa
open Go.ChangeShapes Go.WideShapes Go.ChangeAt Go.RowKit
set_option linter.unusedVariables false

theorem cell_alloc {w : World} {a : Addr} {v : Value} {o : Obj} (h : w.cell? a = some v) : (w.alloc o).cell? a = some v := (World.cell?_alloc_lt w o a (World.block_lt_of_cell? w a h)).trans h
set_option maxHeartbeats 8000000 in
theorem sSum_c (A : Option Addr) (c : Nat) (t : Rf) (w : World) (hr : RdI w w.heap.size A (flat3 t)) (hl : t.length ≤ 1048576) :
    Calls Try.prog 37 #[.slice A t.length c] w fun e w' => RetO (sumR t) e ∧ Below w.heap.size w w' := by
  by_cases h12 : t.length ≤ 12
  · have h12' : ¬ (12 : Int) < (t.length : Int) := by omega
    have hsr := Lib.hid (sumR_short h12)
    have R := (Blk.new w 34 #[.int .i64 0, .int .i64 0]).alloc (.cells #[.int .i64 0, .int .i64 1] 34)
    have P := Blk.new (w.alloc (.cells #[.int .i64 0, .int .i64 0] 34)) 34 #[.int .i64 0, .int .i64 1]
    simp only [World.size_alloc] at P
    have H : Below w.heap.size w ((w.alloc (.cells #[.int .i64 0, .int .i64 0] 34)).alloc (.cells #[.int .i64 0, .int .i64 1] 34)) := (((Below.refl w.heap.size w).alloc (by first | exact Nat.le_refl _ | (simp only [World.size_alloc]; omega)) (.cells #[.int .i64 0, .int .i64 0] 34)).alloc (by first | exact Nat.le_refl _ | (simp only [World.size_alloc]; omega)) (.cells #[.int .i64 0, .int .i64 1] 34))
    go_enter Try.func37, Try.ntmps37
    go_wp2
    go_loopw [5] (fun i wr => ∃ (k : Nat) (p q : Int), k ≤ t.length ∧ i = .int .i64 k ∧ Blk wr w.heap.size 34 #[.int .i64 0, .int .i64 0] ∧ Blk wr (w.heap.size + 1) 34 #[.int .i64 p, .int .i64 q] ∧ Hid (sumK t k = some (p, q)) ∧ Below w.heap.size w wr) (fun i _ => t.length - (intOf i).toNat)
    case atStart => exact ⟨0, 0, 1, Nat.zero_le _, rfl, R, P, rfl, H⟩
    case round =>
      clear R P H
      obtain ⟨k, p, q, hk, rfl, R, P, hs, H⟩ := hrel
      by_cases hlt : k < t.length
      · obtain ⟨g, off, x, y, z, rfl, hg, hc0, hc1, hc2, hx⟩ := (hr.below H (Nat.le_refl _)).at3 hlt
        have hsz := H.size
        have hgw : g < wr.heap.size := Nat.lt_of_lt_of_le hg H.size
        have hPlt := P.lt
        have hltI : (k : Int) < (t.length : Int) := by omega
        obtain ⟨p0, p1, pf0, pf1, pL⟩ := P.two
        have hA := Lib.hid (fun W => sAdd_c p q y z W)
        unfold RetF at hA
        cases hK : adB p q y z
        · rw [hK] at hA
          have hn := Lib.hid (sumK_none t (addO_no hs.out hx.out hK) t.length (by omega))
          clear hK
          have n1 := World.new_ne wr _ p0
          have n2 := World.new_ne wr _ p1
          have n3 := World.new_ne wr _ hc1
          have n4 := World.new_ne wr _ hc2
          go_wp2
          go_region_held3 (fun w' => w'.cell? ⟨w.heap.size + 1, 0, none⟩ = some (.int .i64 p) ∧ w'.cell? ⟨w.heap.size + 1, 1, none⟩ = some (.int .i64 q) ∧ w'.cell? ⟨g, off + k * 3 + 1, none⟩ = some (.int .i64 y) ∧ w'.cell? ⟨g, off + k * 3 + 2, none⟩ = some (.int .i64 z))
            (first | (go_split_ands; refine ⟨?_, ?_, ?_, ?_⟩ <;> first | assumption | exact cell_next b (by assumption) | exact cell_alloc (by assumption) | exact cell_alloc (cell_next b (by assumption)) | go_keep) | go_keep)
            ((go_at_call 47; refine (hA.out _).mono ?_; rintro e w2 ⟨rfl, b⟩; obtain ⟨hc, hf⟩ := bcell b; have hzz := b.size; simp at hzz))
          all_goals
            have R2 : Blk w2 w.heap.size 34 #[.int .i64 0, .int .i64 0] := by
              first
              | exact (Blk.drew R).next b
              | exact (Blk.drew (R.alloc _)).next b
            have P2 : Blk w2 (w.heap.size + 1) 34 #[.int .i64 p, .int .i64 q] := by
              first
              | exact (Blk.drew P).next b
              | exact (Blk.drew (P.alloc _)).next b
            have H2 : Below w.heap.size w w2 := by
              first
              | exact chain H.drew b (Nat.le_refl _)
              | exact chain (H.alloc H.size _).drew b (Nat.le_refl _)
            try (have F2 : Blk w2 wr.heap.size 34 #[.int .i64 0, .int .i64 0] := (Blk.drew (Blk.new wr _ _)).next b; obtain ⟨x0, x1, x2, x3, x4⟩ := F2.two)
            clear p0 p1 pf0 pf1
            obtain ⟨r0, r1, rf0, rf1, rL⟩ := R2.two
            obtain ⟨p0, p1, pf0, pf1, pL⟩ := P2.two
            clear b hc hf hc0 hc1 hc2
            go_wp2
            refine bodyPost_ret (v := .tuple #[.agg #[.int .i64 0, .int .i64 0], .bool false]) (by simp [results, Try.results37, go_sem, *]) rfl ⟨by rw [hsr.out, hn.out]; rfl, ?_⟩
            exact (by go_grown)
        · rw [hK] at hA
          have hn := Lib.hid (addO_yes hs.out hx.out hK)
          clear hK
          unfold fT at hA
          simp only [if_true] at hA
          generalize adT p q y z = T at *
          generalize adU p q y z = U at *
          have n1 := World.new_ne wr _ p0
          have n2 := World.new_ne wr _ p1
          have n3 := World.new_ne wr _ hc1
          have n4 := World.new_ne wr _ hc2
          go_wp2
          go_region_held3 (fun w' => w'.cell? ⟨w.heap.size + 1, 0, none⟩ = some (.int .i64 p) ∧ w'.cell? ⟨w.heap.size + 1, 1, none⟩ = some (.int .i64 q) ∧ w'.cell? ⟨g, off + k * 3 + 1, none⟩ = some (.int .i64 y) ∧ w'.cell? ⟨g, off + k * 3 + 2, none⟩ = some (.int .i64 z))
            (first | (go_split_ands; refine ⟨?_, ?_, ?_, ?_⟩ <;> first | assumption | exact cell_next b (by assumption) | exact cell_alloc (by assumption) | exact cell_alloc (cell_next b (by assumption)) | go_keep) | go_keep)
            ((go_at_call 47; refine (hA.out _).mono ?_; rintro e w2 ⟨rfl, b⟩; obtain ⟨hc, hf⟩ := bcell b; have hzz := b.size; simp at hzz))
          all_goals
            have R2 : Blk w2 w.heap.size 34 #[.int .i64 0, .int .i64 0] := by
              first
              | exact (Blk.drew R).next b
              | exact (Blk.drew (R.alloc _)).next b
            have P2 : Blk w2 (w.heap.size + 1) 34 #[.int .i64 p, .int .i64 q] := by
              first
              | exact (Blk.drew P).next b
              | exact (Blk.drew (P.alloc _)).next b
            have H2 : Below w.heap.size w w2 := by
              first
              | exact chain H.drew b (Nat.le_refl _)
              | exact chain (H.alloc H.size _).drew b (Nat.le_refl _)
            try (have F2 : Blk w2 wr.heap.size 34 #[.int .i64 0, .int .i64 0] := (Blk.drew (Blk.new wr _ _)).next b; obtain ⟨x0, x1, x2, x3, x4⟩ := F2.two)
            clear p0 p1 pf0 pf1
            obtain ⟨r0, r1, rf0, rf1, rL⟩ := R2.two
            obtain ⟨p0, p1, pf0, pf1, pL⟩ := P2.two
            clear b hc hf hc0 hc1 hc2
            go_wp2
            go_roundw
            case rel =>
              refine ⟨k + 1, T, U, by omega, by go_num, ?_, ?_, hn.out, ?_⟩
              · first
                | exact ((R2.far (by simp) _).far (by simp) _).alloc _
                | exact (((R2.far (show w.heap.size ≠ wr.heap.size by omega) _).far (show w.heap.size ≠ wr.heap.size by omega) _).far (by simp) _).far (by simp) _
              · first
                | exact (P2.put2 _ _).alloc _
                | exact ((P2.far (show w.heap.size + 1 ≠ wr.heap.size by omega) _).far (show w.heap.size + 1 ≠ wr.heap.size by omega) _).put2 _ _
              · exact (by go_grown)
            case measure => simp [intOf]; omega
      · obtain rfl : k = t.length := by omega
        obtain ⟨p0, p1, pf0, pf1, pL⟩ := P.two
        obtain ⟨r0, r1, rf0, rf1, rL⟩ := R.two
        go_wp2
        refine bodyPost_ret (v := .tuple #[.agg #[.int .i64 p, .int .i64 q], .bool true]) (by simp [results, Try.results37, go_sem, *]) rfl ⟨by rw [hsr.out, hs.out]; rfl, ?_⟩
        exact (by go_grown)
  · have h12' : (12 : Int) < (t.length : Int) := by omega
    rw [sumR_long h12]
    go_enter Try.func37, Try.ntmps37
    go_wp2
    refine bodyPost_ret (v := .tuple #[.agg #[.int .i64 0, .int .i64 0], .bool false]) (by simp [results, Try.results37, go_sem, *]) rfl ⟨rfl, ?_⟩
    exact (by go_grown)
end Go.Proofs.Ytifljdnlaginfaa
