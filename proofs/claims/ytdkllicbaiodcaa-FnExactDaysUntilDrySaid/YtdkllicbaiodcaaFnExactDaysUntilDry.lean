/- FnExactDaysUntilDry: the program's DaysUntilDry returns what the reference's returns. -/
import Derived.Test.YtdkllicbaiodcaaCover
import Derived.Test.YtdkllicbaiodcaaDays
namespace Go.Proofs.Ytdkllicbaiodcaa
open Go.ChangeShapes Go.WideShapes Go.ChangeAt Go.RowKit Go.Joins
set_option linter.unusedVariables false

set_option maxHeartbeats 400000 in
theorem FnExactDaysUntilDry_walk (s d : Int) (c : Bool) (ht : Int) (w : World) (w0 : (Lit.int .i64 s).wf = true) (w1 : (Lit.int .i64 d).wf = true) (w2 : (Lit.int .i64 ht).wf = true) :
    Calls Try.prog 6 #[.agg #[.int .i64 s, .int .i64 d, .bool c], .int .i64 ht] w fun e w' => e = .returned (.bool true) ∧ Below w.heap.size w w' := by
  have P : Blk (w.alloc (.cells #[.int .i64 s, .int .i64 d, .bool c] 23)) w.heap.size 23 #[.int .i64 s, .int .i64 d, .bool c] := Blk.new _ _ _
  have H : Below w.heap.size w (w.alloc (.cells #[.int .i64 s, .int .i64 d, .bool c] 23)) := (Below.refl _ _).alloc (Nat.le_refl _) _
  go_enter Try.func6, Try.ntmps6
  go_wp2_with fail
  refine (toPond_c _ _ _ _).mono ?_
  rintro e w1 ⟨rfl, b⟩
  replace P := P.next b
  replace H := chain H b (Nat.le_refl _)
  clear b
  try clear a0 a1 a2 aL
  obtain ⟨a0, a1, a2, -, -, -, aL⟩ := P.three
  go_wp2_with fail
  refine (sDays_c _ _ _ _ _).mono ?_
  rintro e w1 ⟨rfl, b⟩
  replace P := P.next b
  replace H := chain H b (Nat.le_refl _)
  clear b
  try clear a0 a1 a2 aL
  obtain ⟨a0, a1, a2, -, -, -, aL⟩ := P.three
  go_wp2_with fail
  refine (toPond_c _ _ _ _).mono ?_
  rintro e w1 ⟨rfl, b⟩
  replace P := P.next b
  replace H := chain H b (Nat.le_refl _)
  clear b
  try clear a0 a1 a2 aL
  obtain ⟨a0, a1, a2, -, -, -, aL⟩ := P.three
  go_wp2_with fail
  refine (iDays_c _ _ _ _ _).mono ?_
  rintro e w1 ⟨rfl, b⟩
  replace P := P.next b
  replace H := chain H b (Nat.le_refl _)
  clear b
  try clear a0 a1 a2 aL
  obtain ⟨a0, a1, a2, -, -, -, aL⟩ := P.three
  have hne : ∀ x : Int, (x != x) = false := fun x => by simp
  go_wp2
  go_ret
  exact ⟨rfl, H⟩
set_option maxRecDepth 100000 in
theorem FnExactDaysUntilDry_lifted (os : Os) (started : os.Started) (H : Type) (enc : TypeId × Value → H) :
    ReturnsInHanded {} Try.checked os 6 .any (Rows.fnExactDaysUntilDrySpec.pre6 enc Try.prog Try.f6 Rows.fnExactDaysUntilDryRow.domain false) (Rows.fnExactDaysUntilDrySpec.post enc Try.prog Try.f6 false true false false) := by
  refine returnsInHanded_of_change (C := Try.checked) own_ started (by kernel_rfl) Try.func6
    (ChangeSpec.witness6 (enc := enc) (C := Try.checked) false ⟨#[], #[.agg #[.int .i64 0, .int .i64 0, .bool false], .int .i64 0], []⟩ 8 (by kernel_rfl) (by kernel_rfl) (by kernel_rfl) (by kernel_rfl)) ?_
  intro W base args ds gs before hval0 hW hcnd _
  have hval : ∀ (j : Nat) t v, Try.f6.params[j]? = some t → args[j]? = some v → Value.okWide Try.prog W .any base t v := hval0
  have hW' := hW
  obtain ⟨p, q, hA0, hV, rfl, hfz, hnd⟩ := hW
  have hA : DataW.TrodAll enc Try.prog W 0 (fun _ => true) true Try.f6.params.toList args.toList ds p := hA0
  rw [Try.params6] at hA hval
  obtain ⟨v0, vs0, d0, ds0, p0, q0, hargs, rfl, rfl, h0, r0⟩ := trodAll_cons hA
  obtain ⟨v1, vs1, d1, ds1, p1, q1, rfl, rfl, rfl, h1, r1⟩ := trodAll_cons r0
  obtain ⟨rfl, rfl, rfl⟩ := trodAll_nil r1
  obtain rfl : args = #[v0, v1] := by cases args; simp_all
  obtain ⟨rfl, rfl⟩ := trodVars_none hV
  have k0 := h0
  have lt0 : ∀ x ∈ p0, x.block < W.heap.size := by obtain ⟨m, hm⟩ := k0; exact DataW.trod_lt m _ _ _ hm
  obtain ⟨c0_0, c0_1, c0_2, y0_0, y0_1, y0_2, m0, rfl, rfl, rfl, hy0_0, hy0_1, hy0_2⟩ := open_agg3 Try.underlying23 (by kernel_rfl) (show Try.prog.cellsOf 23 = 3 by kernel_rfl) (hval 0 23 v0 rfl rfl) h0
  obtain ⟨a0_0, e0_0, rfl, w0_0⟩ := DataW.trod_int Try.underlying3 hy0_0
  simp only [List.cons.injEq, and_true] at e0_0
  subst e0_0
  obtain ⟨a0_1, e0_1, rfl, w0_1⟩ := DataW.trod_int Try.underlying3 hy0_1
  simp only [List.cons.injEq, and_true] at e0_1
  subst e0_1
  obtain ⟨a0_2, e0_2, rfl⟩ := DataW.trod_bool Try.underlying4 hy0_2
  simp only [List.cons.injEq, and_true] at e0_2
  subst e0_2
  have k1 := h1
  have lt1 : ∀ x ∈ p1, x.block < W.heap.size := by obtain ⟨m, hm⟩ := k1; exact DataW.trod_lt m _ _ _ hm
  obtain ⟨a1, rfl, rfl, rfl, w1⟩ := open_int Try.underlying3 (hval 1 3 v1 rfl rfl) h1
  clear hA0 hval0
  refine (FnExactDaysUntilDry_walk a0_0 a0_1 a0_2 a1 W w0_0 w0_1 w1).mono fun e W' ⟨he, bel⟩ => ?_
  subst he
  exact ⟨_, rfl, _, _, _, [], _, [], hW', trodAll_mk1 (shut_bool Try.underlying4 _), (trodAll_cons_mk (Below.trod laidOut_ (by kernel_rfl) (of_decide_eq_true (by kernel_rfl)) k0 bel lt0) (trodAll_cons_mk (Below.trod laidOut_ (by kernel_rfl) (of_decide_eq_true (by kernel_rfl)) k1 bel lt1) trodAll_mk0)), rfl, bel.frame _, fun h => by cases h⟩

theorem FnExactDaysUntilDry_over : Rows.fnExactDaysUntilDryRow.holds Try.pinned (OpenSpec.ofChange Rows.fnExactDaysUntilDrySpec) :=
  OpenClaim.holds_of_wide 6 Try.f6 rfl rfl rfl rfl rfl rfl rfl ⟨rfl, rfl, rfl, rfl, rfl⟩ rfl rfl rfl rfl rfl (by kernel_rfl) Try.func6 (by kernel_rfl)
    (of_decide_eq_true (by kernel_rfl)) (by unfold Func.isWrapper; first | (rw [if_pos (by decide +kernel)]; kernel_rfl) | (rw [if_neg (by decide +kernel)]; exact ⟨rfl, rfl⟩))
    (fun os started H enc _ => FnExactDaysUntilDry_lifted os started H enc)

theorem FnExactDaysUntilDry_proved : Rows.FnExactDaysUntilDrySaid := FnExactDaysUntilDry_over
end Go.Proofs.Ytdkllicbaiodcaa
