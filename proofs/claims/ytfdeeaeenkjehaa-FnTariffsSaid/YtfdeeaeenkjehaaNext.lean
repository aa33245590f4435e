/- NextPrice and ShareSaves, both. -/
import Derived.Test.YtfdeeaeenkjehaaCost
namespace Go.Proofs.Ytfdeeaeenkjehaa
open Go.ChangeShapes Go.WideShapes Go.ChangeAt Go.RowKit
set_option linter.unusedVariables false

theorem costZ_b (t : Tf) (l : Int) : -1 ≤ costZ t l ∧ costZ t l ≤ 1000000000 ∧ (0 ≤ costZ t l → tariffB t = true ∧ 0 ≤ l ∧ l ≤ topF t ∧ l ≤ 100000 ∧ costZ t l = costP t l t.length) := by
  unfold costZ
  by_cases h : (tariffB t && inB l 0 (topF t)) = true
  · rw [if_pos h]
    simp only [Bool.and_eq_true, inB_iff] at h
    have h1 := costP_b h.1 l t.length (Nat.le_refl _)
    have h2 := tariff_b t h.1
    have h3 := top_b h.1
    exact ⟨by omega, by omega, fun _ => ⟨h.1, by omega, by omega, by omega, rfl⟩⟩
  · rw [if_neg h]
    exact ⟨by omega, by omega, fun h => by omega⟩
def nextZ (t : Tf) (l : Int) : Int := if tariffB t && inB l 0 (topF t - 1) then costZ t (l + 1) - costZ t l else -1
theorem next_no {t : Tf} {l : Int} (h : tariffB t = false ∨ inB l 0 (topF t - 1) = false) : nextZ t l = -1 := by
  unfold nextZ
  rcases h with h | h <;> simp [h]
theorem next_yes {t : Tf} {l : Int} (h : tariffB t = true) (h2 : inB l 0 (topF t - 1) = true) : nextZ t l = costZ t (l + 1) - costZ t l := by
  unfold nextZ
  rw [h, h2]
  rfl
def shareZ (t : Tf) (a b : Int) : Int := if costZ t a < 0 ∨ costZ t b < 0 ∨ costZ t (a + b) < 0 then 0 else costZ t (a + b) - costZ t a - costZ t b
theorem share_no {t : Tf} {a b : Int} (h : costZ t a < 0 ∨ costZ t b < 0 ∨ costZ t (a + b) < 0) : shareZ t a b = 0 := by unfold shareZ; rw [if_pos h]
theorem share_yes {t : Tf} {a b : Int} (h1 : ¬ costZ t a < 0) (h2 : ¬ costZ t b < 0) (h3 : ¬ costZ t (a + b) < 0) : shareZ t a b = costZ t (a + b) - costZ t a - costZ t b := by
  unfold shareZ
  rw [if_neg (by omega)]

set_option maxHeartbeats 1000000 in
theorem sNext_c (A : Option Addr) (c : Nat) (t : Tf) (l : Int) (w : World) (hr : RdI w w.heap.size A (flat2 t)) (hl : t.length ≤ 1048576) :
    Calls Try.prog 16 #[.slice A t.length c, .int .i64 l] w fun e w' => e = .returned (.int .i64 (nextZ t l)) ∧ Below w.heap.size w w' := by
  cases ht : tariffB t
  · rw [next_no (.inl ht)]
    go_enter Try.func16, Try.ntmps16
    go_wp2_with fail
    refine (sTariffOk_c _ _ _ _ hr hl).mono ?_
    rintro e w1 ⟨rfl, b⟩
    go_wp2
    go_ret
    exact ⟨rfl, b⟩
  · have hl1 := (tariff_b t ht).1
    have hl2 := (tariff_b t ht).2.1
    obtain ⟨htop0, htop1⟩ := top_b ht
    cases hin : inB l 0 (topF t - 1)
    · rw [next_no (.inr hin)]
      go_enter Try.func16, Try.ntmps16
      go_wp2_with fail
      refine (sTariffOk_c _ _ _ _ hr hl).mono ?_
      rintro e w1 ⟨rfl, b⟩
      obtain ⟨g, off, rfl, hg, hc⟩ := (hr.below b (Nat.le_refl _)).lastC hl1
      go_wp2_with fail
      refine (l01In_c _ _ _ _).mono ?_
      rintro e w' ⟨rfl, rfl⟩
      go_wp2
      go_ret
      exact ⟨rfl, b⟩
    · rw [next_yes ht hin]
      have l0 := ((inB_iff _ _ _).1 hin).1
      have l1 := ((inB_iff _ _ _).1 hin).2
      obtain ⟨c0, c1, -⟩ := costZ_b t l
      obtain ⟨d0, d1, -⟩ := costZ_b t (l + 1)
      go_enter Try.func16, Try.ntmps16
      go_wp2_with fail
      refine (sTariffOk_c _ _ _ _ hr hl).mono ?_
      rintro e w1 ⟨rfl, H⟩
      obtain ⟨g, off, rfl, hg, hc⟩ := (hr.below H (Nat.le_refl _)).lastC hl1
      go_wp2_with fail
      refine (l01In_c _ _ _ _).mono ?_
      rintro e w' ⟨rfl, rfl⟩
      go_wp2_with fail
      refine (sCostOf_c _ _ _ _ _ (hr.at_world H) hl).mono ?_
      rintro e wn ⟨rfl, b⟩
      replace H := chain H b (Nat.le_refl _)
      clear b
      go_wp2_with fail
      refine (sCostOf_c _ _ _ _ _ (hr.at_world H) hl).mono ?_
      rintro e wn ⟨rfl, b⟩
      replace H := chain H b (Nat.le_refl _)
      clear b
      go_wp2
      go_ret
      exact ⟨rfl, H⟩
set_option maxHeartbeats 1000000 in
theorem iNext_c (A : Option Addr) (c : Nat) (t : Tf) (l : Int) (w : World) (hr : RdI w w.heap.size A (flat2 t)) (hl : t.length ≤ 1048576) :
    Calls Try.prog 17 #[.slice A t.length c, .int .i64 l] w fun e w' => e = .returned (.int .i64 (nextZ t l)) ∧ Below w.heap.size w w' := by
  cases ht : tariffB t
  · rw [next_no (.inl ht)]
    go_enter Try.func17, Try.ntmps17
    go_wp2_with fail
    refine (iTariffOk_c _ _ _ _ hr hl).mono ?_
    rintro e w1 ⟨rfl, b⟩
    go_wp2
    go_ret
    exact ⟨rfl, b⟩
  · have hl1 := (tariff_b t ht).1
    have hl2 := (tariff_b t ht).2.1
    obtain ⟨htop0, htop1⟩ := top_b ht
    cases hin : inB l 0 (topF t - 1)
    · rw [next_no (.inr hin)]
      go_enter Try.func17, Try.ntmps17
      go_wp2_with fail
      refine (iTariffOk_c _ _ _ _ hr hl).mono ?_
      rintro e w1 ⟨rfl, b⟩
      obtain ⟨g, off, rfl, hg, hc⟩ := (hr.below b (Nat.le_refl _)).lastC hl1
      go_wp2_with fail
      refine (within_c _ _ _ _).mono ?_
      rintro e w' ⟨rfl, rfl⟩
      go_wp2
      go_ret
      exact ⟨rfl, b⟩
    · rw [next_yes ht hin]
      have l0 := ((inB_iff _ _ _).1 hin).1
      have l1 := ((inB_iff _ _ _).1 hin).2
      obtain ⟨c0, c1, -⟩ := costZ_b t l
      obtain ⟨d0, d1, -⟩ := costZ_b t (l + 1)
      go_enter Try.func17, Try.ntmps17
      go_wp2_with fail
      refine (iTariffOk_c _ _ _ _ hr hl).mono ?_
      rintro e w1 ⟨rfl, H⟩
      obtain ⟨g, off, rfl, hg, hc⟩ := (hr.below H (Nat.le_refl _)).lastC hl1
      go_wp2_with fail
      refine (within_c _ _ _ _).mono ?_
      rintro e w' ⟨rfl, rfl⟩
      go_wp2_with fail
      refine (iCostOf_c _ _ _ _ _ (hr.at_world H) hl).mono ?_
      rintro e wn ⟨rfl, b⟩
      replace H := chain H b (Nat.le_refl _)
      clear b
      go_wp2_with fail
      refine (iCostOf_c _ _ _ _ _ (hr.at_world H) hl).mono ?_
      rintro e wn ⟨rfl, b⟩
      replace H := chain H b (Nat.le_refl _)
      clear b
      go_wp2
      go_ret
      exact ⟨rfl, H⟩
set_option maxHeartbeats 1000000 in
theorem sShare_c (A : Option Addr) (c : Nat) (t : Tf) (a d : Int) (w : World) (hr : RdI w w.heap.size A (flat2 t)) (hl : t.length ≤ 1048576) :
    Calls Try.prog 18 #[.slice A t.length c, .int .i64 a, .int .i64 d] w fun e w' => e = .returned (.int .i64 (shareZ t a d)) ∧ Below w.heap.size w w' := by
  have H := Below.refl w.heap.size w
  obtain ⟨a0, a1, a2⟩ := costZ_b t a
  obtain ⟨b0, b1, b2⟩ := costZ_b t d
  by_cases h1 : costZ t a < 0
  · rw [share_no (.inl h1)]
    clear a2 b2
    go_enter Try.func18, Try.ntmps18
    go_wp2_with fail
    refine (sCostOf_c _ _ _ _ _ (hr.at_world H) hl).mono ?_
    rintro e wn ⟨rfl, b⟩
    replace H := chain H b (Nat.le_refl _)
    clear b
    go_wp2_with fail
    refine (sCostOf_c _ _ _ _ _ (hr.at_world H) hl).mono ?_
    rintro e wn ⟨rfl, b⟩
    replace H := chain H b (Nat.le_refl _)
    clear b
    go_wp2
    go_ret
    exact ⟨rfl, H⟩
  · by_cases h2 : costZ t d < 0
    · rw [share_no (.inr (.inl h2))]
      clear a2 b2
      go_enter Try.func18, Try.ntmps18
      go_wp2_with fail
      refine (sCostOf_c _ _ _ _ _ (hr.at_world H) hl).mono ?_
      rintro e wn ⟨rfl, b⟩
      replace H := chain H b (Nat.le_refl _)
      clear b
      go_wp2_with fail
      refine (sCostOf_c _ _ _ _ _ (hr.at_world H) hl).mono ?_
      rintro e wn ⟨rfl, b⟩
      replace H := chain H b (Nat.le_refl _)
      clear b
      go_wp2
      go_ret
      exact ⟨rfl, H⟩
    · obtain ⟨-, u0, -, u1, -⟩ := a2 (by omega)
      obtain ⟨-, v0, -, v1, -⟩ := b2 (by omega)
      clear a2 b2
      obtain ⟨d0, d1, -⟩ := costZ_b t (a + d)
      by_cases h3 : costZ t (a + d) < 0
      · rw [share_no (.inr (.inr h3))]
        go_enter Try.func18, Try.ntmps18
        go_wp2_with fail
        refine (sCostOf_c _ _ _ _ _ (hr.at_world H) hl).mono ?_
        rintro e wn ⟨rfl, b⟩
        replace H := chain H b (Nat.le_refl _)
        clear b
        go_wp2_with fail
        refine (sCostOf_c _ _ _ _ _ (hr.at_world H) hl).mono ?_
        rintro e wn ⟨rfl, b⟩
        replace H := chain H b (Nat.le_refl _)
        clear b
        go_wp2_with fail
        refine (sCostOf_c _ _ _ _ _ (hr.at_world H) hl).mono ?_
        rintro e wn ⟨rfl, b⟩
        replace H := chain H b (Nat.le_refl _)
        clear b
        go_wp2
        go_ret
        exact ⟨rfl, H⟩
      · rw [share_yes h1 h2 h3]
        go_enter Try.func18, Try.ntmps18
        go_wp2_with fail
        refine (sCostOf_c _ _ _ _ _ (hr.at_world H) hl).mono ?_
        rintro e wn ⟨rfl, b⟩
        replace H := chain H b (Nat.le_refl _)
        clear b
        go_wp2_with fail
        refine (sCostOf_c _ _ _ _ _ (hr.at_world H) hl).mono ?_
        rintro e wn ⟨rfl, b⟩
        replace H := chain H b (Nat.le_refl _)
        clear b
        go_wp2_with fail
        refine (sCostOf_c _ _ _ _ _ (hr.at_world H) hl).mono ?_
        rintro e wn ⟨rfl, b⟩
        replace H := chain H b (Nat.le_refl _)
        clear b
        go_wp2_with fail
        refine (sCostOf_c _ _ _ _ _ (hr.at_world H) hl).mono ?_
        rintro e wn ⟨rfl, b⟩
        replace H := chain H b (Nat.le_refl _)
        clear b
        skip
        go_wp2
        go_ret
        exact ⟨rfl, H⟩
set_option maxHeartbeats 1000000 in
theorem iShare_c (A : Option Addr) (c : Nat) (t : Tf) (a d : Int) (w : World) (hr : RdI w w.heap.size A (flat2 t)) (hl : t.length ≤ 1048576) :
    Calls Try.prog 19 #[.slice A t.length c, .int .i64 a, .int .i64 d] w fun e w' => e = .returned (.int .i64 (shareZ t a d)) ∧ Below w.heap.size w w' := by
  have H := Below.refl w.heap.size w
  obtain ⟨a0, a1, a2⟩ := costZ_b t a
  obtain ⟨b0, b1, b2⟩ := costZ_b t d
  by_cases h1 : costZ t a < 0
  · rw [share_no (.inl h1)]
    clear a2 b2
    go_enter Try.func19, Try.ntmps19
    go_wp2_with fail
    refine (iCostOf_c _ _ _ _ _ (hr.at_world H) hl).mono ?_
    rintro e wn ⟨rfl, b⟩
    replace H := chain H b (Nat.le_refl _)
    clear b
    go_wp2
    go_ret
    exact ⟨rfl, H⟩
  · by_cases h2 : costZ t d < 0
    · rw [share_no (.inr (.inl h2))]
      clear a2 b2
      go_enter Try.func19, Try.ntmps19
      go_wp2_with fail
      refine (iCostOf_c _ _ _ _ _ (hr.at_world H) hl).mono ?_
      rintro e wn ⟨rfl, b⟩
      replace H := chain H b (Nat.le_refl _)
      clear b
      go_wp2_with fail
      refine (iCostOf_c _ _ _ _ _ (hr.at_world H) hl).mono ?_
      rintro e wn ⟨rfl, b⟩
      replace H := chain H b (Nat.le_refl _)
      clear b
      go_wp2
      go_ret
      exact ⟨rfl, H⟩
    · obtain ⟨-, u0, -, u1, -⟩ := a2 (by omega)
      obtain ⟨-, v0, -, v1, -⟩ := b2 (by omega)
      clear a2 b2
      obtain ⟨d0, d1, -⟩ := costZ_b t (a + d)
      by_cases h3 : costZ t (a + d) < 0
      · rw [share_no (.inr (.inr h3))]
        go_enter Try.func19, Try.ntmps19
        go_wp2_with fail
        refine (iCostOf_c _ _ _ _ _ (hr.at_world H) hl).mono ?_
        rintro e wn ⟨rfl, b⟩
        replace H := chain H b (Nat.le_refl _)
        clear b
        go_wp2_with fail
        refine (iCostOf_c _ _ _ _ _ (hr.at_world H) hl).mono ?_
        rintro e wn ⟨rfl, b⟩
        replace H := chain H b (Nat.le_refl _)
        clear b
        go_wp2_with fail
        refine (iCostOf_c _ _ _ _ _ (hr.at_world H) hl).mono ?_
        rintro e wn ⟨rfl, b⟩
        replace H := chain H b (Nat.le_refl _)
        clear b
        go_wp2
        go_ret
        exact ⟨rfl, H⟩
      · rw [share_yes h1 h2 h3]
        go_enter Try.func19, Try.ntmps19
        go_wp2_with fail
        refine (iCostOf_c _ _ _ _ _ (hr.at_world H) hl).mono ?_
        rintro e wn ⟨rfl, b⟩
        replace H := chain H b (Nat.le_refl _)
        clear b
        go_wp2_with fail
        refine (iCostOf_c _ _ _ _ _ (hr.at_world H) hl).mono ?_
        rintro e wn ⟨rfl, b⟩
        replace H := chain H b (Nat.le_refl _)
        clear b
        go_wp2_with fail
        refine (iCostOf_c _ _ _ _ _ (hr.at_world H) hl).mono ?_
        rintro e wn ⟨rfl, b⟩
        replace H := chain H b (Nat.le_refl _)
        clear b
        go_wp2_with fail
        refine (iCostOf_c _ _ _ _ _ (hr.at_world H) hl).mono ?_
        rintro e wn ⟨rfl, b⟩
        replace H := chain H b (Nat.le_refl _)
        clear b
        go_wp2_with fail
        refine (iCostOf_c _ _ _ _ _ (hr.at_world H) hl).mono ?_
        rintro e wn ⟨rfl, b⟩
        replace H := chain H b (Nat.le_refl _)
        clear b
        go_wp2_with fail
        refine (iCostOf_c _ _ _ _ _ (hr.at_world H) hl).mono ?_
        rintro e wn ⟨rfl, b⟩
        replace H := chain H b (Nat.le_refl _)
        clear b
        go_wp2
        go_ret
        exact ⟨rfl, H⟩
end Go.Proofs.Ytfdeeaeenkjehaa
