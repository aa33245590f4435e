/- FnExactCanMeasure: the program's CanMeasure returns what the reference's returns. -/
import Derived.Test.YtdnknddldfihdaaForS
namespace Go.Proofs.Ytdnknddldfihdaa
open Go.ChangeShapes Go.WideShapes Go.ChangeAt Go.RowKit Go.Joins
set_option linter.unusedVariables false

set_option maxHeartbeats 1000000 in
theorem FnExactCanMeasure_walk (A : Option Addr) (cp : Nat) (g : List Int) (v : Int) (w : World) (hr : RdI w w.heap.size A g) (w0 : ∀ n ∈ g, (Lit.int .i64 n).wf = true) (w1 : (Lit.int .i64 v).wf = true) :
    Calls Try.prog 8 #[.slice A g.length cp, .int .i64 v] w fun e w' => e = .returned (.bool true) ∧ Below w.heap.size w w' := by
  clear w0 w1
  obtain ⟨nn, hnn⟩ : ∃ nn, 2197 ≤ nn := ⟨2197, Nat.le_refl _⟩
  by_cases hl : g.length ≤ 1048576
  · have hlb : decide ((1048576 : Int) < (g.length : Int)) = false := by simp; omega
    have hm : g.length ≤ maxLen := by unfold maxLen; omega
    have hm' := Lib.hid hm
    clear hm
    go_enter Try.func8, Try.ntmps8
    go_wp2_with fail
    refine (toIntS_c _ _ _ _ hr hl).mono ?_
    rintro e w1 ⟨rfl, b, Q⟩
    have H : Below w.heap.size w w1 := b
    have R := RdI.of_ints Q
    clear Q b
    go_wp2_with fail
    refine (sCan_c nn hnn _ _ _ _ _ R hl).mono ?_
    rintro e wn ⟨rfl, b⟩
    replace H := chain H b (Nat.le_refl _)
    replace R := R.at_world b
    clear b
    clear R
    go_wp2_with fail
    refine (toIntS_c _ _ _ _ (hr.at_world H) hl).mono ?_
    rintro e w2 ⟨rfl, b, Q⟩
    replace H := chain H b (Nat.le_refl _)
    have R := RdI.of_ints Q
    clear Q b
    go_wp2_with fail
    refine (iCan_c nn hnn _ _ _ _ _ R hl).mono ?_
    rintro e wn ⟨rfl, b⟩
    replace H := chain H b (Nat.le_refl _)
    replace R := R.at_world b
    clear b
    have hne : ∀ x : Int, (x != x) = false := fun x => by simp
    have hnb : ∀ x : Bool, (x != x) = false := fun x => by simp
    go_wp2_with fail
    refine (toIntS_c _ _ _ _ (hr.at_world H) hl).mono ?_
    rintro e w3 ⟨rfl, b, Q⟩
    replace H := chain H b (Nat.le_refl _)
    replace R := R.at_world b
    have R' := RdI.of_ints Q
    clear Q b
    go_wp2_with fail
    refine (eqIntS_c _ _ _ _ _ _ _ R R' hl).mono ?_
    rintro e w4 ⟨rfl, b⟩
    replace H := chain H b (Nat.le_refl _)
    clear b
    have he : (g == g) = true := by simp
    go_wp2
    go_ret
    exact ⟨rfl, H⟩
  · have hlb : decide ((1048576 : Int) < (g.length : Int)) = true := by simp; omega
    go_enter Try.func8, Try.ntmps8
    go_wp2
    go_ret
    exact ⟨rfl, Below.refl _ _⟩
set_option maxRecDepth 100000 in
theorem FnExactCanMeasure_lifted (os : Os) (started : os.Started) (H : Type) (enc : TypeId × Value → H) :
    ReturnsInHanded {} Try.checked os 8 .any (Rows.fnExactCanMeasureSpec.pre6 enc Try.prog Try.f8 Rows.fnExactCanMeasureRow.domain false) (Rows.fnExactCanMeasureSpec.post enc Try.prog Try.f8 false true false false) := by
  refine returnsInHanded_of_change (C := Try.checked) own_ started (by kernel_rfl) Try.func8
    (ChangeSpec.witness6 (enc := enc) (C := Try.checked) false ⟨#[], #[.slice none 0 0, .int .i64 0], []⟩ 8 (by kernel_rfl) (by kernel_rfl) (by kernel_rfl) (by kernel_rfl)) ?_
  intro W base args ds gs before hval0 hW hcnd _
  have hval : ∀ (j : Nat) t v, Try.f8.params[j]? = some t → args[j]? = some v → Value.okWide Try.prog W .any base t v := hval0
  have hW' := hW
  obtain ⟨p, q, hA0, hV, rfl, hfz, hnd⟩ := hW
  have hA : DataW.TrodAll enc Try.prog W 0 (fun _ => true) true Try.f8.params.toList args.toList ds p := hA0
  rw [Try.params8] at hA hval
  obtain ⟨v0, vs0, d0, ds0, p0, q0, hargs, rfl, rfl, h0, r0⟩ := trodAll_cons hA
  obtain ⟨v1, vs1, d1, ds1, p1, q1, rfl, rfl, rfl, h1, r1⟩ := trodAll_cons r0
  obtain ⟨rfl, rfl, rfl⟩ := trodAll_nil r1
  obtain rfl : args = #[v0, v1] := by cases args; simp_all
  obtain ⟨rfl, rfl⟩ := trodVars_none hV
  have k0 := h0
  have lt0 : ∀ x ∈ p0, x.block < W.heap.size := by obtain ⟨m, hm⟩ := k0; exact DataW.trod_lt m _ _ _ hm
  obtain ⟨s0, len0, cap0, rfl⟩ := okWide_slice Try.underlying22 (hval 0 22 v0 rfl rfl)
  obtain ⟨x0, rfl, r_0, w0⟩ : ∃ zs : List Int, len0 = zs.length ∧ RdI W W.heap.size s0 zs ∧ ∀ n ∈ zs, (Lit.int .i64 n).wf = true := by
    obtain ⟨fuel, hf⟩ := h0
    rcases open_ints Try.underlying22 Try.underlying3 (by kernel_rfl) hf with ⟨hcs, _⟩ | ⟨x, l, c, zs, hcs, _, hl, hm, hz, _, hcell, hwz⟩
    · simp [Value.cells] at hcs
      obtain ⟨rfl, rfl, rfl⟩ := hcs
      exact ⟨[], rfl, .inl rfl, by simp⟩
    · simp [Value.cells] at hcs
      obtain ⟨rfl, rfl, rfl⟩ := hcs
      have hlz : len0 ≤ zs.length := by simp only [if_true] at hz; omega
      exact ⟨zs.take len0, by simp; omega, RdI.of_open hcell, fun n hn => hwz n (List.mem_of_mem_take hn)⟩
  have k1 := h1
  have lt1 : ∀ x ∈ p1, x.block < W.heap.size := by obtain ⟨m, hm⟩ := k1; exact DataW.trod_lt m _ _ _ hm
  obtain ⟨a1, rfl, rfl, rfl, w1⟩ := open_int Try.underlying3 (hval 1 3 v1 rfl rfl) h1
  clear hA0 hval0
  refine (FnExactCanMeasure_walk s0 cap0 x0 a1 W r_0 w0 w1).mono fun e W' ⟨he, bel⟩ => ?_
  subst he
  exact ⟨_, rfl, _, _, _, [], _, [], hW', trodAll_mk1 (shut_bool Try.underlying4 _), (trodAll_cons_mk (Below.trod laidOut_ (by kernel_rfl) (of_decide_eq_true (by kernel_rfl)) k0 bel lt0) (trodAll_cons_mk (Below.trod laidOut_ (by kernel_rfl) (of_decide_eq_true (by kernel_rfl)) k1 bel lt1) trodAll_mk0)), rfl, bel.frame _, fun h => by cases h⟩

theorem FnExactCanMeasure_over : Rows.fnExactCanMeasureRow.holds Try.pinned (OpenSpec.ofChange Rows.fnExactCanMeasureSpec) :=
  OpenClaim.holds_of_wide 8 Try.f8 rfl rfl rfl rfl rfl rfl rfl ⟨rfl, rfl, rfl, rfl, rfl⟩ rfl rfl rfl rfl rfl (by kernel_rfl) Try.func8 (by kernel_rfl)
    (of_decide_eq_true (by kernel_rfl)) (by unfold Func.isWrapper; first | (rw [if_pos (by decide +kernel)]; kernel_rfl) | (rw [if_neg (by decide +kernel)]; exact ⟨rfl, rfl⟩))
    (fun os started H enc _ => FnExactCanMeasure_lifted os started H enc)

theorem FnExactCanMeasure_proved : Rows.FnExactCanMeasureSaid := FnExactCanMeasure_over
end Go.Proofs.Ytdnknddldfihdaa
