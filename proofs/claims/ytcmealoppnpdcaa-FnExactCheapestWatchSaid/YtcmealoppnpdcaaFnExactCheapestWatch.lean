/- FnExactCheapestWatch: the program's CheapestWatch returns what the reference's returns. -/
import Derived.Test.YtcmealoppnpdcaaCheapS
namespace Go.Proofs.Ytcmealoppnpdcaa
open Go.ChangeShapes Go.WideShapes Go.ChangeAt Go.RowKit Go.Joins
set_option linter.unusedVariables false

set_option maxHeartbeats 1000000 in
theorem FnExactCheapestWatch_walk (A : Option Addr) (cp : Nat) (t : List (Int × Int × Int)) (a b : Int) (w : World) (hm : t.length ≤ maxLen) (hr : RdI w w.heap.size A (flat3 t)) (w1 : (Lit.int .i64 a).wf = true) (w2 : (Lit.int .i64 b).wf = true) :
    Calls Try.prog 6 #[.slice A t.length cp, .int .i64 a, .int .i64 b] w fun e w' => e = .returned (.bool true) ∧ Below w.heap.size w w' := by
  by_cases hl : t.length ≤ 1048576
  · have hz : ¬ (1048576 : Int) - (t.length : Int) < 0 := by omega
    have hif := Lib.hid (if_neg (show ¬ (1048576 : Int) < (t.length : Int) by omega) : (if (1048576 : Int) < (t.length : Int) then (-1 : Int) else 1048576 - (t.length : Int)) = _)
    have hm' := Lib.hid hm
    clear hm
    go_enter Try.func6, Try.ntmps6
    go_wp2_with fail
    refine (szWatchS_c _ _ _ _ _ hm'.out (by omega) (by omega)).mono ?_
    rw [hif.out]
    rintro e w' ⟨rfl, rfl⟩
    go_wp2_with fail
    refine (toWatchS_c _ _ _ _ hr hl).mono ?_
    rintro e w1 ⟨rfl, b, Q⟩
    have H : Below w.heap.size w w1 := b
    have R := RdI.of_ints Q
    clear Q b
    go_wp2_with fail
    refine (sCheap_c _ _ t a b _ R hl).mono ?_
    rintro e wn ⟨rfl, b⟩
    replace H := chain H b (Nat.le_refl _)
    clear R b
    go_wp2_with fail
    refine (toWatchS_c _ _ _ _ (hr.at_world H) hl).mono ?_
    rintro e w2 ⟨rfl, b, Q⟩
    replace H := chain H b (Nat.le_refl _)
    have R := RdI.of_ints Q
    clear Q b
    go_wp2_with fail
    refine (iCheap_c _ _ t a b _ R hl).mono ?_
    rintro e wn ⟨rfl, b⟩
    replace H := chain H b (Nat.le_refl _)
    replace R := R.at_world b
    clear b
    have hn0 : (cheapZ t a b != cheapZ t a b) = false := by simp
    go_wp2_with fail
    refine (toWatchS_c _ _ _ _ (hr.at_world H) hl).mono ?_
    rintro e w3 ⟨rfl, b, Q⟩
    replace H := chain H b (Nat.le_refl _)
    replace R := R.at_world b
    have R' := RdI.of_ints Q
    clear Q b
    go_wp2_with fail
    refine (eqWatchS_c _ _ _ _ _ _ _ R R' hl).mono ?_
    rintro e w4 ⟨rfl, b⟩
    replace H := chain H b (Nat.le_refl _)
    clear b
    have he : (t == t) = true := by simp
    go_wp2
    go_ret
    exact ⟨rfl, H⟩
  · have hz : (1048576 : Int) < (t.length : Int) := by omega
    have hif := Lib.hid (if_pos hz : (if (1048576 : Int) < (t.length : Int) then (-1 : Int) else 1048576 - (t.length : Int)) = _)
    have hm' := Lib.hid hm
    clear hm hz
    go_enter Try.func6, Try.ntmps6
    go_wp2_with fail
    refine (szWatchS_c _ _ _ _ _ hm'.out (by omega) (by omega)).mono ?_
    rw [hif.out]
    rintro e w' ⟨rfl, rfl⟩
    go_wp2
    go_ret
    exact ⟨rfl, Below.refl _ _⟩
set_option maxRecDepth 100000 in
theorem FnExactCheapestWatch_lifted (os : Os) (started : os.Started) (H : Type) (enc : TypeId × Value → H) :
    ReturnsInHanded {} Try.checked os 6 .any (Rows.fnExactCheapestWatchSpec.pre6 enc Try.prog Try.f6 Rows.fnExactCheapestWatchRow.domain false) (Rows.fnExactCheapestWatchSpec.post enc Try.prog Try.f6 false true false false) := by
  refine returnsInHanded_of_change (C := Try.checked) own_ started (by kernel_rfl) Try.func6
    (ChangeSpec.witness6 (enc := enc) (C := Try.checked) false ⟨#[], #[.slice none 0 0, .int .i64 0, .int .i64 0], []⟩ 8 (by kernel_rfl) (by kernel_rfl) (by kernel_rfl) (by kernel_rfl)) ?_
  intro W base args ds gs before hval0 hW hcnd _
  have hval : ∀ (j : Nat) t v, Try.f6.params[j]? = some t → args[j]? = some v → Value.okWide Try.prog W .any base t v := hval0
  have hW' := hW
  obtain ⟨p, q, hA0, hV, rfl, hfz, hnd⟩ := hW
  have hA : DataW.TrodAll enc Try.prog W 0 (fun _ => true) true Try.f6.params.toList args.toList ds p := hA0
  rw [Try.params6] at hA hval
  obtain ⟨v0, vs0, d0, ds0, p0, q0, hargs, rfl, rfl, h0, r0⟩ := trodAll_cons hA
  obtain ⟨v1, vs1, d1, ds1, p1, q1, rfl, rfl, rfl, h1, r1⟩ := trodAll_cons r0
  obtain ⟨v2, vs2, d2, ds2, p2, q2, rfl, rfl, rfl, h2, r2⟩ := trodAll_cons r1
  obtain ⟨rfl, rfl, rfl⟩ := trodAll_nil r2
  obtain rfl : args = #[v0, v1, v2] := by cases args; simp_all
  obtain ⟨rfl, rfl⟩ := trodVars_none hV
  have k0 := h0
  have lt0 : ∀ x ∈ p0, x.block < W.heap.size := by obtain ⟨m, hm⟩ := k0; exact DataW.trod_lt m _ _ _ hm
  obtain ⟨s0, len0, cap0, rfl⟩ := okWide_slice Try.underlying22 (hval 0 22 v0 rfl rfl)
  obtain ⟨x0, rfl, m0, r_0⟩ := open_flat3 Try.underlying22 Try.underlying47 (by kernel_rfl) (by kernel_rfl) rfl rfl rfl h0
  have k1 := h1
  have lt1 : ∀ x ∈ p1, x.block < W.heap.size := by obtain ⟨m, hm⟩ := k1; exact DataW.trod_lt m _ _ _ hm
  obtain ⟨a1, rfl, rfl, rfl, w1⟩ := open_int Try.underlying3 (hval 1 3 v1 rfl rfl) h1
  have k2 := h2
  have lt2 : ∀ x ∈ p2, x.block < W.heap.size := by obtain ⟨m, hm⟩ := k2; exact DataW.trod_lt m _ _ _ hm
  obtain ⟨a2, rfl, rfl, rfl, w2⟩ := open_int Try.underlying3 (hval 2 3 v2 rfl rfl) h2
  clear hA0 hval0
  refine (FnExactCheapestWatch_walk s0 cap0 x0 a1 a2 W m0 r_0 w1 w2).mono fun e W' ⟨he, bel⟩ => ?_
  subst he
  exact ⟨_, rfl, _, _, _, [], _, [], hW', trodAll_mk1 (shut_bool Try.underlying4 _), (trodAll_cons_mk (Below.trod laidOut_ (by kernel_rfl) (of_decide_eq_true (by kernel_rfl)) k0 bel lt0) (trodAll_cons_mk (Below.trod laidOut_ (by kernel_rfl) (of_decide_eq_true (by kernel_rfl)) k1 bel lt1) (trodAll_cons_mk (Below.trod laidOut_ (by kernel_rfl) (of_decide_eq_true (by kernel_rfl)) k2 bel lt2) trodAll_mk0))), rfl, bel.frame _, fun h => by cases h⟩

theorem FnExactCheapestWatch_over : Rows.fnExactCheapestWatchRow.holds Try.pinned (OpenSpec.ofChange Rows.fnExactCheapestWatchSpec) :=
  OpenClaim.holds_of_wide 6 Try.f6 rfl rfl rfl rfl rfl rfl rfl ⟨rfl, rfl, rfl, rfl, rfl⟩ rfl rfl rfl rfl rfl (by kernel_rfl) Try.func6 (by kernel_rfl)
    (of_decide_eq_true (by kernel_rfl)) (by unfold Func.isWrapper; first | (rw [if_pos (by decide +kernel)]; kernel_rfl) | (rw [if_neg (by decide +kernel)]; exact ⟨rfl, rfl⟩))
    (fun os started H enc _ => FnExactCheapestWatch_lifted os started H enc)

theorem FnExactCheapestWatch_proved : Rows.FnExactCheapestWatchSaid := FnExactCheapestWatch_over
end Go.Proofs.Ytcmealoppnpdcaa
