/- CoverSaves, both. -/
import Derived.Test.YtdkllicbaiodcaaLostS
import Derived.Test.YtdkllicbaiodcaaMem2
namespace Go.Proofs.Ytdkllicbaiodcaa
open Go.ChangeShapes Go.WideShapes Go.ChangeAt Go.RowKit
set_option linter.unusedVariables false

def coverF (s d : Int) (hs : List Int) : Int := if lostF s d false hs < 0 then -1 else lostF s d false hs - lostF s d true hs
theorem lostF_b (s d : Int) (c : Bool) (hs : List Int) : -1 ≤ lostF s d c hs ∧ lostF s d c hs ≤ 5000000 := by
  unfold lostF
  split
  · rename_i h
    simp at h
    have l0 := litF_b s d h.1.1
    have lb := leftF_b s c hs d h.1.1
    have l1 := litF_b s (leftF s c d hs) (pondB_le s d _ h.1.1 lb.1 lb.2)
    have : litF s (leftF s c d hs) ≤ litF s d := by
      unfold litF
      rw [h.1.1, pondB_le s d _ h.1.1 lb.1 lb.2]
      exact Int.mul_le_mul_of_nonneg_left lb.2 (by have := ((pondB_iff _ _).1 h.1.1).1.1; omega)
    omega
  · omega

set_option maxHeartbeats 1000000 in
theorem sCover_c (s d : Int) (c : Bool) (A : Option Addr) (cp : Nat) (hs : List Int) (w : World) (hr : RdI w w.heap.size A hs) (hl : hs.length ≤ 1048576) :
    Calls Try.prog 24 #[.agg #[.int .i64 s, .int .i64 d, .bool c], .slice A hs.length cp] w fun e w' => e = .returned (.int .i64 (coverF s d hs)) ∧ Below w.heap.size w w' := by
  have l0 := lostF_b s d false hs
  have l1 := lostF_b s d true hs
  obtain ⟨W, hW⟩ : ∃ W, W = ((w.alloc (.cells #[.int .i64 s, .int .i64 d, .bool c] 25)).alloc (.cells #[.int .i64 s, .int .i64 d, .bool false] 25)).alloc (.cells #[.int .i64 s, .int .i64 d, .bool true] 25) := ⟨_, rfl⟩
  have H : Below w.heap.size w W := by subst hW; exact (by go_grown)
  have P : Blk W (w.heap.size + 1 + 1) 25 #[.int .i64 s, .int .i64 d, .bool true] := by
    subst hW
    have := Blk.new ((w.alloc (.cells #[.int .i64 s, .int .i64 d, .bool c] 25)).alloc (.cells #[.int .i64 s, .int .i64 d, .bool false] 25)) 25 #[.int .i64 s, .int .i64 d, .bool true]
    simpa using this
  have HW := Lib.hid hW
  clear hW
  by_cases hneg : lostF s d false hs < 0
  · have hf : coverF s d hs = -1 := by unfold coverF; rw [if_pos hneg]
    rw [hf]
    clear hf
    go_enter Try.func24, Try.ntmps24
    go_wp2_with fail
    rw [← HW.out]
    refine (sLost_c _ _ _ _ _ _ _ ((hr.below H (Nat.le_refl _)).more H.size) hl).mono ?_
    rintro e w1 ⟨rfl, b⟩
    replace H := chain H b (Nat.le_refl _)
    clear b
    go_wp2
    go_ret
    exact ⟨rfl, H⟩
  · have hf : coverF s d hs = lostF s d false hs - lostF s d true hs := by unfold coverF; rw [if_neg hneg]
    rw [hf]
    clear hf
    go_enter Try.func24, Try.ntmps24
    go_wp2_with fail
    rw [← HW.out]
    refine (sLost_c _ _ _ _ _ _ _ ((hr.below H (Nat.le_refl _)).more H.size) hl).mono ?_
    rintro e w1 ⟨rfl, b⟩
    replace P := P.next b
    replace H := chain H b (Nat.le_refl _)
    clear b
    obtain ⟨a0, a1, a2, -, -, -, aL⟩ := P.three
    go_wp2_with fail
    refine (sLost_c _ _ _ _ _ _ _ ((hr.below H (Nat.le_refl _)).more H.size) hl).mono ?_
    rintro e w2 ⟨rfl, b⟩
    replace H := chain H b (Nat.le_refl _)
    clear b
    go_wp2
    go_ret
    exact ⟨rfl, H⟩

set_option maxHeartbeats 1000000 in
theorem iCover_c (s d : Int) (c : Bool) (A : Option Addr) (cp : Nat) (hs : List Int) (w : World) (hr : RdI w w.heap.size A hs) (hl : hs.length ≤ 1048576) :
    Calls Try.prog 25 #[.agg #[.int .i64 s, .int .i64 d, .bool c], .slice A hs.length cp] w fun e w' => e = .returned (.int .i64 (coverF s d hs)) ∧ Below w.heap.size w w' := by
  have l0 := lostF_b s d false hs
  have l1 := lostF_b s d true hs
  have B1 : Blk (((w.alloc (.cells #[.int .i64 s, .int .i64 d, .bool c] 25)).alloc (.cells #[.int .i64 s, .int .i64 d, .bool c] 25)).alloc (.cells #[.int .i64 s, .int .i64 d, .bool c] 25)).drew (w.heap.size + 1) 25 #[.int .i64 s, .int .i64 d, .bool c] := by
    have := (Blk.new (w.alloc (.cells #[.int .i64 s, .int .i64 d, .bool c] 25)) 25 #[.int .i64 s, .int .i64 d, .bool c]).alloc (.cells #[.int .i64 s, .int .i64 d, .bool c] 25)
    rw [World.size_alloc] at this
    exact this
  have B2 : Blk (((w.alloc (.cells #[.int .i64 s, .int .i64 d, .bool c] 25)).alloc (.cells #[.int .i64 s, .int .i64 d, .bool c] 25)).alloc (.cells #[.int .i64 s, .int .i64 d, .bool c] 25)).drew (w.heap.size + 1 + 1) 25 #[.int .i64 s, .int .i64 d, .bool c] := by
    have := Blk.new ((w.alloc (.cells #[.int .i64 s, .int .i64 d, .bool c] 25)).alloc (.cells #[.int .i64 s, .int .i64 d, .bool c] 25)) 25 #[.int .i64 s, .int .i64 d, .bool c]
    rw [World.size_alloc, World.size_alloc] at this
    exact this
  go_enter Try.func25, Try.ntmps25
  go_upto_region 1 with fail
  go_cut [5, 6] (fun v5 v6 wx => ∃ g5 g6 : Nat, v5 = .pointer (some ⟨g5, 0, none⟩) ∧ v6 = .pointer (some ⟨g6, 0, none⟩) ∧ w.heap.size ≤ g5 ∧ w.heap.size ≤ g6 ∧ Hid (g5 ≠ g6) ∧ Blk wx g5 25 #[.int .i64 s, .int .i64 d, .bool c] ∧ Blk wx g6 25 #[.int .i64 s, .int .i64 d, .bool c] ∧ Below w.heap.size w wx)
  case first =>
    go_region
    all_goals
      go_wp2_with fail
      go_meet
      refine ⟨_, _, rfl, rfl, by omega, by omega, (show _ ≠ _ by omega), (by first | exact B1 | exact B2), (by first | exact B1 | exact B2), (by go_grown)⟩
  case rest =>
    obtain ⟨g5, g6, rfl, rfl, k5, k6, hne, Q, P, H⟩ := hcut
    obtain ⟨a0, a1, a2, e0, e1, e2, aL⟩ := P.three
    obtain ⟨b0, b1, b2, f0, f1, f2, bL⟩ := Q.three
    have hne1 : ¬ g5 = g6 := hne.out
    have hne2 : ¬ g6 = g5 := fun h => hne.out h.symm
    have P' := (P.far (p := ⟨g5, 2, none⟩) hne2 (.bool false)).put3_2 (.bool true)
    have Q' := (Q.put3_2 (.bool false)).far (p := ⟨g6, 2, none⟩) hne1 (.bool true)
    have H' := (H.setCell (p := ⟨g5, 2, none⟩) k5 (.bool false)).setCell (p := ⟨g6, 2, none⟩) k6 (.bool true)
    clear P Q
    by_cases hneg : lostF s d false hs < 0
    · have hf : coverF s d hs = -1 := by unfold coverF; rw [if_pos hneg]
      have hf' := Lib.hid hf
      clear hf
      go_wp2_with fail
      refine (iLost_c _ _ _ _ _ _ _ ((hr.below H' (Nat.le_refl _)).more H'.size) hl).mono ?_
      rintro e w1 ⟨rfl, b⟩
      replace H := chain H' b (Nat.le_refl _)
      clear b
      go_wp2
      go_ret
      exact ⟨by rw [hf'.out]; rfl, H⟩
    · have hf : coverF s d hs = lostF s d false hs - lostF s d true hs := by unfold coverF; rw [if_neg hneg]
      have hw : IntKind.i64.wrap (lostF s d false hs - lostF s d true hs) = lostF s d false hs - lostF s d true hs := IntWalk.i64_in _ (by omega)
      have hf' := Lib.hid hf
      clear hf
      go_wp2_with fail
      refine (iLost_c _ _ _ _ _ _ _ ((hr.below H' (Nat.le_refl _)).more H'.size) hl).mono ?_
      rintro e w1 ⟨rfl, b⟩
      replace P' := P'.next b
      replace Q' := Q'.next b
      replace H := chain H' b (Nat.le_refl _)
      clear b H' a0 a1 a2 b0 b1 b2 e0 e1 e2 f0 f1 f2 aL bL
      obtain ⟨a0, a1, a2, -, -, -, aL⟩ := P'.three
      obtain ⟨b0, b1, b2, -, -, -, bL⟩ := Q'.three
      go_wp2
      go_region_held3 (fun w' => w'.cell? ⟨g5, 0, none⟩ = some (.int .i64 s) ∧ w'.cell? ⟨g5, 1, none⟩ = some (.int .i64 d) ∧ w'.cell? ⟨g5, 2, none⟩ = some (.bool false) ∧ w'.cell? ⟨g6, 0, none⟩ = some (.int .i64 s) ∧ w'.cell? ⟨g6, 1, none⟩ = some (.int .i64 d) ∧ w'.cell? ⟨g6, 2, none⟩ = some (.bool true) ∧ Below w.heap.size w w')
        ((go_split_ands; refine ⟨?_, ?_, ?_, ?_, ?_, ?_, ?_⟩ <;> first | assumption | exact cell_next b (by assumption) | exact chain (by assumption) b (Nat.le_refl _) | exact Below.drew (by assumption)))
        (first | (go_at_call 22; refine (iLost_c _ _ _ _ _ _ _ (hr.at_world ?_) hl).mono ?_; (go_split_ands; assumption); rintro e w2 ⟨rfl, b⟩))
      go_wp2
      go_ret
      rename_i hh
      exact ⟨by rw [hf'.out]; rfl, hh.2.2.2.2.2.2⟩
end Go.Proofs.Ytdkllicbaiodcaa
