/- FnExactPassesBoth: the program's PassesBoth returns what the reference's returns. -/
import Derived.Test.YtifljdnlaginfaaBoth
import Derived.Test.YtifljdnlaginfaaOpenR
namespace Go.Proofs.Ytifljdnlaginfaa
open Go.ChangeShapes Go.WideShapes Go.ChangeAt Go.RowKit Go.Joins
set_option linter.unusedVariables false

set_option maxHeartbeats 2000000 in
theorem FnExactPassesBoth_walk (A : Option Addr) (cp : Nat) (t : Rf) (A' : Option Addr) (cp' : Nat) (v : List Int) (w : World) (hm : t.length ≤ maxLen) (hr : RdI w w.heap.size A (flat3 t)) (hv : RdI w w.heap.size A' v) (w1 : ∀ n ∈ v, (Lit.int .i64 n).wf = true) :
    Calls Try.prog 7 #[.slice A t.length cp, .slice A' v.length cp'] w fun e w' => e = .returned (.bool true) ∧ Below w.heap.size w w' := by
  clear w1
  by_cases hvl : v.length ≤ 1048576
  · have hvb : decide ((1048576 : Int) < (v.length : Int)) = false := by simp; omega
    by_cases hl : t.length ≤ 1048576
    · have hz : ¬ (1048576 : Int) - (t.length : Int) < 0 := by omega
      have hif := Lib.hid (if_neg (show ¬ (1048576 : Int) < (t.length : Int) by omega) : (if (1048576 : Int) < (t.length : Int) then (-1 : Int) else 1048576 - (t.length : Int)) = _)
      have hm' := Lib.hid hm
      clear hm
      have hnb : (bothB t v != bothB t v) = false := by simp
      generalize hB : bothB t v = B at hnb
      have hB' := Lib.hid hB
      clear hB
      go_enter Try.func7, Try.ntmps7
      go_wp2_with fail
      refine (szRightS_c _ _ _ _ _ hm'.out (by omega) (by omega)).mono ?_
      rw [hif.out]
      rintro e w' ⟨rfl, rfl⟩
      go_wp2_with fail
      refine (toRightS_c _ _ _ _ hr hl).mono ?_
      rintro e w1 ⟨rfl, b, Q⟩
      have H : Below w.heap.size w w1 := b
      have R := RdI.of_ints Q
      clear Q b
      go_wp2_with fail
      refine (toIntS_c _ _ _ _ (hv.at_world H) hvl).mono ?_
      rintro e w2 ⟨rfl, b, Q⟩
      replace H := chain H b (Nat.le_refl _)
      replace R := R.at_world b
      have V := RdI.of_ints Q
      clear Q b
      go_wp2_with fail
      refine (sBoth_c _ _ _ _ t v _ R hl V hvl).mono ?_
      rw [hB'.out]
      rintro e wn ⟨rfl, b⟩
      replace H := chain H b (Nat.le_refl _)
      clear R V b

      go_wp2_with fail
      refine (toRightS_c _ _ _ _ (hr.at_world H) hl).mono ?_
      rintro e w3 ⟨rfl, b, Q⟩
      replace H := chain H b (Nat.le_refl _)
      have R := RdI.of_ints Q
      try simp only [World.size_alloc] at R
      clear Q b
      go_wp2_with fail
      refine (toIntS_c _ _ _ _ (hv.at_world H) hvl).mono ?_
      rintro e w4 ⟨rfl, b, Q⟩
      replace H := chain H b (Nat.le_refl _)
      replace R := R.at_world b
      have V := RdI.of_ints Q
      clear Q b
      go_wp2_with fail
      refine (iBoth_c _ _ _ _ t v _ R hl V hvl).mono ?_
      rw [hB'.out]
      rintro e w5 ⟨rfl, b⟩
      replace H := chain H b (Nat.le_refl _)
      replace R := R.at_world b
      replace V := V.at_world b
      clear b

      go_wp2_with fail
      refine (toRightS_c _ _ _ _ (hr.at_world H) hl).mono ?_
      rintro e w6 ⟨rfl, b, Q⟩
      replace H := chain H b (Nat.le_refl _)
      replace R := R.at_world b
      replace V := V.at_world b
      have R' := RdI.of_ints Q
      clear Q b
      go_wp2_with fail
      refine (eqRightS_c _ _ _ _ _ _ _ R R' hl).mono ?_
      rintro e w7 ⟨rfl, b⟩
      replace H := chain H b (Nat.le_refl _)
      replace V := V.at_world b
      have he : (t == t) = true := by simp
      clear b R R'
      go_wp2_with fail
      refine (toIntS_c _ _ _ _ (hv.at_world H) hvl).mono ?_
      rintro e w8 ⟨rfl, b, Q⟩
      replace H := chain H b (Nat.le_refl _)
      replace V := V.at_world b
      have V' := RdI.of_ints Q
      clear Q b
      go_wp2_with fail
      refine (eqIntS_c _ _ _ _ _ _ _ V V' hvl).mono ?_
      rintro e w9 ⟨rfl, b⟩
      replace H := chain H b (Nat.le_refl _)
      have hev : (v == v) = true := by simp
      clear b
      go_wp2
      go_ret
      exact ⟨rfl, H⟩
    · have hz : (1048576 : Int) < (t.length : Int) := by omega
      have hif := Lib.hid (if_pos hz : (if (1048576 : Int) < (t.length : Int) then (-1 : Int) else 1048576 - (t.length : Int)) = _)
      have hm' := Lib.hid hm
      clear hm hz
      go_enter Try.func7, Try.ntmps7
      go_wp2_with fail
      refine (szRightS_c _ _ _ _ _ hm'.out (by omega) (by omega)).mono ?_
      rw [hif.out]
      rintro e w' ⟨rfl, rfl⟩
      go_wp2
      go_ret
      exact ⟨rfl, Below.refl _ _⟩
  · have hvb : decide ((1048576 : Int) < (v.length : Int)) = true := by simp; omega
    go_enter Try.func7, Try.ntmps7
    go_wp2
    go_ret
    exact ⟨rfl, Below.refl _ _⟩
set_option maxRecDepth 100000 in
theorem FnExactPassesBoth_lifted (os : Os) (started : os.Started) (H : Type) (enc : TypeId × Value → H) :
    ReturnsInHanded {} Try.checked os 7 .any (Rows.fnExactPassesBothSpec.pre6 enc Try.prog Try.f7 Rows.fnExactPassesBothRow.domain false) (Rows.fnExactPassesBothSpec.post enc Try.prog Try.f7 false true false false) := by
  refine returnsInHanded_of_change (C := Try.checked) own_ started (by kernel_rfl) Try.func7
    (ChangeSpec.witness6 (enc := enc) (C := Try.checked) false ⟨#[], #[.slice none 0 0, .slice none 0 0], []⟩ 8 (by kernel_rfl) (by kernel_rfl) (by kernel_rfl) (by kernel_rfl)) ?_
  intro W base args ds gs before hval0 hW hcnd _
  have hval : ∀ (j : Nat) t v, Try.f7.params[j]? = some t → args[j]? = some v → Value.okWide Try.prog W .any base t v := hval0
  have hW' := hW
  obtain ⟨p, q, hA0, hV, rfl, hfz, hnd⟩ := hW
  have hA : DataW.TrodAll enc Try.prog W 0 (fun _ => true) true Try.f7.params.toList args.toList ds p := hA0
  rw [Try.params7] at hA hval
  obtain ⟨v0, vs0, d0, ds0, p0, q0, hargs, rfl, rfl, h0, r0⟩ := trodAll_cons hA
  obtain ⟨v1, vs1, d1, ds1, p1, q1, rfl, rfl, rfl, h1, r1⟩ := trodAll_cons r0
  obtain ⟨rfl, rfl, rfl⟩ := trodAll_nil r1
  obtain rfl : args = #[v0, v1] := by cases args; simp_all
  obtain ⟨rfl, rfl⟩ := trodVars_none hV
  have k0 := h0
  have lt0 : ∀ x ∈ p0, x.block < W.heap.size := by obtain ⟨m, hm⟩ := k0; exact DataW.trod_lt m _ _ _ hm
  obtain ⟨s0, len0, cap0, rfl⟩ := okWide_slice Try.underlying31 (hval 0 31 v0 rfl rfl)
  obtain ⟨x0, rfl, m0, r_0⟩ := open_flatR Try.underlying31 Try.underlying58 Try.underlying56 (by kernel_rfl) rfl rfl rfl (by kernel_rfl) (by kernel_rfl) rfl rfl rfl rfl h0
  have k1 := h1
  have lt1 : ∀ x ∈ p1, x.block < W.heap.size := by obtain ⟨m, hm⟩ := k1; exact DataW.trod_lt m _ _ _ hm
  obtain ⟨s1, len1, cap1, rfl⟩ := okWide_slice Try.underlying22 (hval 1 22 v1 rfl rfl)
  obtain ⟨x1, rfl, r_1, w1⟩ : ∃ zs : List Int, len1 = zs.length ∧ RdI W W.heap.size s1 zs ∧ ∀ n ∈ zs, (Lit.int .i64 n).wf = true := by
    obtain ⟨fuel, hf⟩ := h1
    rcases open_ints Try.underlying22 Try.underlying3 (by kernel_rfl) hf with ⟨hcs, _⟩ | ⟨x, l, c, zs, hcs, _, hl, hm, hz, _, hcell, hwz⟩
    · simp [Value.cells] at hcs
      obtain ⟨rfl, rfl, rfl⟩ := hcs
      exact ⟨[], rfl, .inl rfl, by simp⟩
    · simp [Value.cells] at hcs
      obtain ⟨rfl, rfl, rfl⟩ := hcs
      have hlz : len1 ≤ zs.length := by simp only [if_true] at hz; omega
      exact ⟨zs.take len1, by simp; omega, RdI.of_open hcell, fun n hn => hwz n (List.mem_of_mem_take hn)⟩
  clear hA0 hval0
  refine (FnExactPassesBoth_walk s0 cap0 x0 s1 cap1 x1 W m0 r_0 r_1 w1).mono fun e W' ⟨he, bel⟩ => ?_
  subst he
  exact ⟨_, rfl, _, _, _, [], _, [], hW', trodAll_mk1 (shut_bool Try.underlying4 _), (trodAll_cons_mk (Below.trod laidOut_ (by kernel_rfl) (of_decide_eq_true (by kernel_rfl)) k0 bel lt0) (trodAll_cons_mk (Below.trod laidOut_ (by kernel_rfl) (of_decide_eq_true (by kernel_rfl)) k1 bel lt1) trodAll_mk0)), rfl, bel.frame _, fun h => by cases h⟩

theorem FnExactPassesBoth_over : Rows.fnExactPassesBothRow.holds Try.pinned (OpenSpec.ofChange Rows.fnExactPassesBothSpec) :=
  OpenClaim.holds_of_wide 7 Try.f7 rfl rfl rfl rfl rfl rfl rfl ⟨rfl, rfl, rfl, rfl, rfl⟩ rfl rfl rfl rfl rfl (by kernel_rfl) Try.func7 (by kernel_rfl)
    (of_decide_eq_true (by kernel_rfl)) (by unfold Func.isWrapper; first | (rw [if_pos (by decide +kernel)]; kernel_rfl) | (rw [if_neg (by decide +kernel)]; exact ⟨rfl, rfl⟩))
    (fun os started H enc _ => FnExactPassesBoth_lifted os started H enc)

theorem FnExactPassesBoth_proved : Rows.FnExactPassesBothSaid := FnExactPassesBoth_over
end Go.Proofs.Ytifljdnlaginfaa
