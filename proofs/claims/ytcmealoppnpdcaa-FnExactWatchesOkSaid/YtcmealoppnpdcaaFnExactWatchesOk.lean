/- FnExactWatchesOk: the program's WatchesOk returns what the reference's returns. -/
import Derived.Test.YtcmealoppnpdcaaOk
namespace Go.Proofs.Ytcmealoppnpdcaa
open Go.ChangeShapes Go.WideShapes Go.ChangeAt Go.RowKit Go.Joins
set_option linter.unusedVariables false

set_option maxHeartbeats 1000000 in
theorem FnExactWatchesOk_walk (A : Option Addr) (cp : Nat) (t : List (Int × Int × Int)) (w : World) (hm : t.length ≤ maxLen) (hr : RdI w w.heap.size A (flat3 t)) :
    Calls Try.prog 3 #[.slice A t.length cp] w fun e w' => e = .returned (.bool true) ∧ Below w.heap.size w w' := by
  by_cases hl : t.length ≤ 1048576
  · have hz : ¬ (1048576 : Int) - (t.length : Int) < 0 := by omega
    have hif := Lib.hid (if_neg (show ¬ (1048576 : Int) < (t.length : Int) by omega) : (if (1048576 : Int) < (t.length : Int) then (-1 : Int) else 1048576 - (t.length : Int)) = _)
    have hm' := Lib.hid hm
    clear hm
    go_enter Try.func3, Try.ntmps3
    go_wp2_with fail
    refine (szWatchS_c _ _ _ _ _ hm'.out (by omega) (by omega)).mono ?_
    rw [hif.out]
    rintro e w' ⟨rfl, rfl⟩
    go_wp2_with fail
    refine (toWatchS_c _ _ _ _ hr hl).mono ?_
    rintro e w1 ⟨rfl, b, Q⟩
    have H : Below w.heap.size w w1 := b
    have R := RdI.of_ints Q
    clear Q b
    go_wp2_with fail
    refine (sOk_c _ _ t _ R hl).mono ?_
    rintro e wn ⟨rfl, b⟩
    replace H := chain H b (Nat.le_refl _)
    clear R b
    go_wp2_with fail
    refine (toWatchS_c _ _ _ _ (hr.at_world H) hl).mono ?_
    rintro e w2 ⟨rfl, b, Q⟩
    replace H := chain H b (Nat.le_refl _)
    have R := RdI.of_ints Q
    clear Q b
    go_wp2_with fail
    refine (iOk_c _ _ t _ R hl).mono ?_
    rintro e wn ⟨rfl, b⟩
    replace H := chain H b (Nat.le_refl _)
    replace R := R.at_world b
    clear b
    have hn0 : (watB t != watB t) = false := by simp
    go_wp2_with fail
    refine (toWatchS_c _ _ _ _ (hr.at_world H) hl).mono ?_
    rintro e w3 ⟨rfl, b, Q⟩
    replace H := chain H b (Nat.le_refl _)
    replace R := R.at_world b
    have R' := RdI.of_ints Q
    clear Q b
    go_wp2_with fail
    refine (eqWatchS_c _ _ _ _ _ _ _ R R' hl).mono ?_
    rintro e w4 ⟨rfl, b⟩
    replace H := chain H b (Nat.le_refl _)
    clear b
    have he : (t == t) = true := by simp
    go_wp2
    go_ret
    exact ⟨rfl, H⟩
  · have hz : (1048576 : Int) < (t.length : Int) := by omega
    have hif := Lib.hid (if_pos hz : (if (1048576 : Int) < (t.length : Int) then (-1 : Int) else 1048576 - (t.length : Int)) = _)
    have hm' := Lib.hid hm
    clear hm hz
    go_enter Try.func3, Try.ntmps3
    go_wp2_with fail
    refine (szWatchS_c _ _ _ _ _ hm'.out (by omega) (by omega)).mono ?_
    rw [hif.out]
    rintro e w' ⟨rfl, rfl⟩
    go_wp2
    go_ret
    exact ⟨rfl, Below.refl _ _⟩
set_option maxRecDepth 100000 in
theorem FnExactWatchesOk_lifted (os : Os) (started : os.Started) (H : Type) (enc : TypeId × Value → H) :
    ReturnsInHanded {} Try.checked os 3 .any (Rows.fnExactWatchesOkSpec.pre6 enc Try.prog Try.f3 Rows.fnExactWatchesOkRow.domain false) (Rows.fnExactWatchesOkSpec.post enc Try.prog Try.f3 false true false false) := by
  refine returnsInHanded_of_change (C := Try.checked) own_ started (by kernel_rfl) Try.func3
    (ChangeSpec.witness6 (enc := enc) (C := Try.checked) false ⟨#[], #[.slice none 0 0], []⟩ 8 (by kernel_rfl) (by kernel_rfl) (by kernel_rfl) (by kernel_rfl)) ?_
  intro W base args ds gs before hval0 hW hcnd _
  have hval : ∀ (j : Nat) t v, Try.f3.params[j]? = some t → args[j]? = some v → Value.okWide Try.prog W .any base t v := hval0
  have hW' := hW
  obtain ⟨p, q, hA0, hV, rfl, hfz, hnd⟩ := hW
  have hA : DataW.TrodAll enc Try.prog W 0 (fun _ => true) true Try.f3.params.toList args.toList ds p := hA0
  rw [Try.params3] at hA hval
  obtain ⟨v0, vs0, d0, ds0, p0, q0, hargs, rfl, rfl, h0, r0⟩ := trodAll_cons hA
  obtain ⟨rfl, rfl, rfl⟩ := trodAll_nil r0
  obtain rfl : args = #[v0] := by cases args; simp_all
  obtain ⟨rfl, rfl⟩ := trodVars_none hV
  have k0 := h0
  have lt0 : ∀ x ∈ p0, x.block < W.heap.size := by obtain ⟨m, hm⟩ := k0; exact DataW.trod_lt m _ _ _ hm
  obtain ⟨s0, len0, cap0, rfl⟩ := okWide_slice Try.underlying22 (hval 0 22 v0 rfl rfl)
  obtain ⟨x0, rfl, m0, r_0⟩ := open_flat3 Try.underlying22 Try.underlying47 (by kernel_rfl) (by kernel_rfl) rfl rfl rfl h0
  clear hA0 hval0
  refine (FnExactWatchesOk_walk s0 cap0 x0 W m0 r_0).mono fun e W' ⟨he, bel⟩ => ?_
  subst he
  exact ⟨_, rfl, _, _, _, [], _, [], hW', trodAll_mk1 (shut_bool Try.underlying4 _), (trodAll_cons_mk (Below.trod laidOut_ (by kernel_rfl) (of_decide_eq_true (by kernel_rfl)) k0 bel lt0) trodAll_mk0), rfl, bel.frame _, fun h => by cases h⟩

theorem FnExactWatchesOk_over : Rows.fnExactWatchesOkRow.holds Try.pinned (OpenSpec.ofChange Rows.fnExactWatchesOkSpec) :=
  OpenClaim.holds_of_wide 3 Try.f3 rfl rfl rfl rfl rfl rfl rfl ⟨rfl, rfl, rfl, rfl, rfl⟩ rfl rfl rfl rfl rfl (by kernel_rfl) Try.func3 (by kernel_rfl)
    (of_decide_eq_true (by kernel_rfl)) (by unfold Func.isWrapper; first | (rw [if_pos (by decide +kernel)]; kernel_rfl) | (rw [if_neg (by decide +kernel)]; exact ⟨rfl, rfl⟩))
    (fun os started H enc _ => FnExactWatchesOk_lifted os started H enc)

theorem FnExactWatchesOk_proved : Rows.FnExactWatchesOkSaid := FnExactWatchesOk_over
end Go.Proofs.Ytcmealoppnpdcaa
