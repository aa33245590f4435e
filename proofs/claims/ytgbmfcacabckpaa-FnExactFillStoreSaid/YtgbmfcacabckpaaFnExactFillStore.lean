/- FnExactFillStore: the program's FillStore returns what the reference's returns. -/
import Derived.Test.YtgbmfcacabckpaaFire
namespace Go.Proofs.Ytgbmfcacabckpaa
open Go.ChangeShapes Go.WideShapes Go.ChangeAt Go.RowKit Go.Joins
set_option linter.unusedVariables false

set_option maxHeartbeats 400000 in
theorem FnExactFillStore_walk (r l v n : Int) (w : World) (w0 : (Lit.int .i64 r).wf = true) (w1 : (Lit.int .i64 l).wf = true) (w2 : (Lit.int .i64 v).wf = true) (w3 : (Lit.int .i64 n).wf = true) :
    Calls Try.prog 6 #[.agg #[.int .i64 r, .int .i64 l, .int .i64 v], .int .i64 n] w fun e w' => e = .returned (.bool true) ∧ Below w.heap.size w w' := by
  clear w0 w1 w2 w3
  have P := Blk.new w 25 #[.int .i64 r, .int .i64 l, .int .i64 v]
  have H : Below w.heap.size w (w.alloc (.cells #[.int .i64 r, .int .i64 l, .int .i64 v] 25)) := ((Below.refl w.heap.size w).alloc (by first | exact Nat.le_refl _ | (simp only [World.size_alloc]; omega)) (.cells #[.int .i64 r, .int .i64 l, .int .i64 v] 25))
  go_enter Try.func6, Try.ntmps6
  go_wp2_with fail
  refine (toStore_c _ _ _ _).mono ?_
  rintro e w1 ⟨rfl, b⟩
  replace P := P.next b
  replace H := chain H b (Nat.le_refl _)
  clear b
  try clear p0 p1 p2 pL
  obtain ⟨p0, p1, p2, -, -, -, pL⟩ := P.three
  go_wp2_with fail
  refine (sFillStore_c _ _ _ _ _).mono ?_
  rintro e w2 ⟨rfl, b⟩
  replace P := (P.next b).alloc (.cells #[.int .i64 r, .int .i64 (fillL r l v n), .int .i64 v] 29)
  replace H := (chain H b (Nat.le_refl _)).alloc (chain H b (Nat.le_refl _)).size (.cells #[.int .i64 r, .int .i64 (fillL r l v n), .int .i64 v] 29)
  have Q := Blk.new w2 29 #[.int .i64 r, .int .i64 (fillL r l v n), .int .i64 v]
  clear b p0 p1 p2 pL
  obtain ⟨p0, p1, p2, -, -, -, pL⟩ := P.three
  obtain ⟨q0, q1, q2, -, -, -, qL⟩ := Q.three
  go_wp2_with fail
  refine (toStore_c _ _ _ _).mono ?_
  rintro e w1 ⟨rfl, b⟩
  replace P := P.next b
  replace Q := Q.next b
  replace H := chain H b (Nat.le_refl _)
  clear b
  try clear p0 p1 p2 pL
  obtain ⟨p0, p1, p2, -, -, -, pL⟩ := P.three
  try clear q0 q1 q2 qL
  obtain ⟨q0, q1, q2, -, -, -, qL⟩ := Q.three
  go_wp2_with fail
  refine (iFillStore_c _ _ _ _ _).mono ?_
  rintro e w4 ⟨rfl, b⟩
  replace Q := (Q.next b).alloc (.cells #[.int .i64 r, .int .i64 (fillL r l v n), .int .i64 v] 29)
  replace H := (chain H b (Nat.le_refl _)).alloc (chain H b (Nat.le_refl _)).size (.cells #[.int .i64 r, .int .i64 (fillL r l v n), .int .i64 v] 29)
  clear b p0 p1 p2 pL P q0 q1 q2 qL
  obtain ⟨q0, q1, q2, -, -, -, qL⟩ := Q.three
  go_wp2_with fail
  refine (eqStore_c _ _ _ _).mono ?_
  rintro e w5 ⟨rfl, b⟩
  replace H := chain H b (Nat.le_refl _)
  clear b
  have hne : (fillN r l v n != fillN r l v n) = false := by simp
  go_wp2
  go_ret
  exact ⟨rfl, H⟩
set_option maxRecDepth 100000 in
theorem FnExactFillStore_lifted (os : Os) (started : os.Started) (H : Type) (enc : TypeId × Value → H) :
    ReturnsInHanded {} Try.checked os 6 .any (Rows.fnExactFillStoreSpec.pre6 enc Try.prog Try.f6 Rows.fnExactFillStoreRow.domain false) (Rows.fnExactFillStoreSpec.post enc Try.prog Try.f6 false true false false) := by
  refine returnsInHanded_of_change (C := Try.checked) own_ started (by kernel_rfl) Try.func6
    (ChangeSpec.witness6 (enc := enc) (C := Try.checked) false ⟨#[], #[.agg #[.int .i64 0, .int .i64 0, .int .i64 0], .int .i64 0], []⟩ 8 (by kernel_rfl) (by kernel_rfl) (by kernel_rfl) (by kernel_rfl)) ?_
  intro W base args ds gs before hval0 hW hcnd _
  have hval : ∀ (j : Nat) t v, Try.f6.params[j]? = some t → args[j]? = some v → Value.okWide Try.prog W .any base t v := hval0
  have hW' := hW
  obtain ⟨p, q, hA0, hV, rfl, hfz, hnd⟩ := hW
  have hA : DataW.TrodAll enc Try.prog W 0 (fun _ => true) true Try.f6.params.toList args.toList ds p := hA0
  rw [Try.params6] at hA hval
  obtain ⟨v0, vs0, d0, ds0, p0, q0, hargs, rfl, rfl, h0, r0⟩ := trodAll_cons hA
  obtain ⟨v1, vs1, d1, ds1, p1, q1, rfl, rfl, rfl, h1, r1⟩ := trodAll_cons r0
  obtain ⟨rfl, rfl, rfl⟩ := trodAll_nil r1
  obtain rfl : args = #[v0, v1] := by cases args; simp_all
  obtain ⟨rfl, rfl⟩ := trodVars_none hV
  have k0 := h0
  have lt0 : ∀ x ∈ p0, x.block < W.heap.size := by obtain ⟨m, hm⟩ := k0; exact DataW.trod_lt m _ _ _ hm
  obtain ⟨a0_0, a0_1, a0_2, rfl, w0_0, w0_1, w0_2⟩ := open_store (hval 0 25 v0 rfl rfl) h0
  have k1 := h1
  have lt1 : ∀ x ∈ p1, x.block < W.heap.size := by obtain ⟨m, hm⟩ := k1; exact DataW.trod_lt m _ _ _ hm
  obtain ⟨a1, rfl, rfl, rfl, w1⟩ := open_int Try.underlying3 (hval 1 3 v1 rfl rfl) h1
  clear hA0 hval0
  refine (FnExactFillStore_walk a0_0 a0_1 a0_2 a1 W w0_0 w0_1 w0_2 w1).mono fun e W' ⟨he, bel⟩ => ?_
  subst he
  exact ⟨_, rfl, _, _, _, [], _, [], hW', trodAll_mk1 (shut_bool Try.underlying4 _), (trodAll_cons_mk (Below.trod laidOut_ (by kernel_rfl) (of_decide_eq_true (by kernel_rfl)) k0 bel lt0) (trodAll_cons_mk (Below.trod laidOut_ (by kernel_rfl) (of_decide_eq_true (by kernel_rfl)) k1 bel lt1) trodAll_mk0)), rfl, bel.frame _, fun h => by cases h⟩

theorem FnExactFillStore_over : Rows.fnExactFillStoreRow.holds Try.pinned (OpenSpec.ofChange Rows.fnExactFillStoreSpec) :=
  OpenClaim.holds_of_wide 6 Try.f6 rfl rfl rfl rfl rfl rfl rfl ⟨rfl, rfl, rfl, rfl, rfl⟩ rfl rfl rfl rfl rfl (by kernel_rfl) Try.func6 (by kernel_rfl)
    (of_decide_eq_true (by kernel_rfl)) (by unfold Func.isWrapper; first | (rw [if_pos (by decide +kernel)]; kernel_rfl) | (rw [if_neg (by decide +kernel)]; exact ⟨rfl, rfl⟩))
    (fun os started H enc _ => FnExactFillStore_lifted os started H enc)

theorem FnExactFillStore_proved : Rows.FnExactFillStoreSaid := FnExactFillStore_over
end Go.Proofs.Ytgbmfcacabckpaa
