/- FnExactPeakOf: the program's PeakOf returns what the reference's returns. -/
import Derived.Test.YtkbgifnmcklmiaaPeak
import Derived.Test.YtkbgifnmcklmiaaFldS
namespace Go.Proofs.Ytkbgifnmcklmiaa
open Go.ChangeShapes Go.WideShapes Go.ChangeAt Go.RowKit Go.Joins
set_option linter.unusedVariables false

theorem vals_ws {fs : List Fd} {l : Int} (h : ∀ v ∈ vals fs, (v.2.length : Int) ≤ l) : ∀ f ∈ fs, (f.ws.length : Int) ≤ l := fun f hf => h f.val (List.mem_map_of_mem hf)
set_option maxHeartbeats 2000000 in
theorem FnExactPeakOf_walk (A : Option Addr) (cp : Nat) (fs : List Fd) (A' : Option Addr) (cp' : Nat) (ss : List Int) (w : World) (hm : fs.length ≤ maxLen) (hr : RdF w w.heap.size A fs) (hfl : ∀ f ∈ fs, f.ws.length ≤ maxLen) (hs : RdI w w.heap.size A' ss) (hwf : ∀ n ∈ ss, (Lit.int .i64 n).wf = true) :
    Calls Try.prog 7 #[.slice A fs.length cp, .slice A' ss.length cp'] w fun e w' => e = .returned (.bool true) ∧ Below w.heap.size w w' := by
  clear hwf
  by_cases hsl : ss.length ≤ 1048576
  · have hgt : ¬ (1048576 : Int) < (ss.length : Int) := by omega
    have hz := szFieldS_c A cp fs 1048576 w hr hm hfl (by omega) (by omega)
    rcases szFS_b (vals fs) 1048576 (by omega) with e | ⟨e0, e1, e2, e3⟩
    · rw [e] at hz
      replace hz := Lib.hid hz
      clear hfl e hm
      go_enter Try.func7, Try.ntmps7
      go_wp2_with fail
      refine hz.out.mono ?_
      rintro e w1 ⟨rfl, H⟩
      go_wp2
      go_ret
      exact ⟨rfl, H⟩
    · replace hz := Lib.hid hz
      have hl : fs.length ≤ 1048576 := by rw [vals_length] at e2; omega
      have hfl2 := Lib.hid (show ∀ f ∈ fs, f.ws.length ≤ 1048576 from fun f hf => by have := vals_ws e3 f hf; omega)
      have hneg : ¬ szFS (vals fs) 1048576 < 0 := by omega
      generalize szFS (vals fs) 1048576 = z at *
      clear e0 e1 e2 e3 hfl hm
      have hres : (peakZ (vals fs) ss != peakZ (vals fs) ss) = false := by simp
      go_enter Try.func7, Try.ntmps7
      go_wp2_with fail
      refine hz.out.mono ?_
      rintro e w1 ⟨rfl, H⟩
      go_wp2_with fail
      refine (toFieldS_c A cp fs _ (hr.step H) hl hfl2.out).mono ?_
      rintro e w2 ⟨gs, d, hv, rfl, hg, b⟩
      have hgl : gs.length ≤ 1048576 := by have := congrArg List.length hv; simp at this; omega
      have hgf := Lib.hid (show ∀ f ∈ gs, f.ws.length ≤ 1048576 from len_of hv hfl2.out)
      replace hv := Lib.hid hv
      replace H := chain H b (Nat.le_refl _)
      clear b
      go_wp2_with fail
      refine (toIntS_c A' cp' ss _ (hs.step H) hsl).mono ?_
      rintro e w3 ⟨rfl, b, Q⟩
      have hg2 := hg.step b
      replace H := chain H b (Nat.le_refl _)
      have R := RdI.of_ints Q
      clear b Q hg
      go_wp2_with fail
      refine (sPeak_c _ d gs _ _ ss _ hg2 hgl hgf.out R hsl).mono ?_
      rintro e w4 ⟨rfl, b⟩
      rw [hv.out]
      replace H := chain H b (Nat.le_refl _)
      clear b hg2 R hgf hgl hv
      go_wp2_with fail
      refine (toFieldS_c A cp fs _ (hr.step H) hl hfl2.out).mono ?_
      rintro e w5 ⟨gs, d2, hv, rfl, hg, b⟩
      have hgl : gs.length ≤ 1048576 := by have := congrArg List.length hv; simp at this; omega
      have hgf := Lib.hid (show ∀ f ∈ gs, f.ws.length ≤ 1048576 from len_of hv hfl2.out)
      replace hv := Lib.hid hv
      replace H := chain H b (Nat.le_refl _)
      clear b
      go_wp2_with fail
      refine (toIntS_c A' cp' ss _ (hs.step H) hsl).mono ?_
      rintro e w6 ⟨rfl, b, Q⟩
      replace hg := hg.step b
      replace H := chain H b (Nat.le_refl _)
      have R := RdI.of_ints Q
      clear b Q
      go_wp2_with fail
      refine (iPeak_c _ d2 gs _ _ ss _ hg hgl hgf.out R hsl).mono ?_
      rintro e w7 ⟨rfl, b⟩
      rw [hv.out]
      replace hg := hg.step b
      replace R := R.step b
      replace H := chain H b (Nat.le_refl _)
      clear b
      go_wp2_with fail
      refine (toFieldS_c A cp fs _ (hr.step H) hl hfl2.out).mono ?_
      rintro e w8 ⟨gs2, d3, hv2, rfl, hg2, b⟩
      replace hg := hg.step b
      replace R := R.step b
      replace H := chain H b (Nat.le_refl _)
      clear b
      have heq := Lib.hid (show (vals gs == vals gs2) = true by rw [hv.out, hv2]; simp)
      replace hv2 := Lib.hid hv2
      go_wp2_with fail
      refine (eqFieldS_c _ _ d2 d3 gs gs2 _ hg hg2 hgl hgf.out).mono ?_
      rintro e w9 ⟨rfl, b⟩
      rw [heq.out]
      replace R := R.step b
      replace H := chain H b (Nat.le_refl _)
      clear b hg hg2 heq hv2 hgf hgl
      go_wp2_with fail
      refine (toIntS_c A' cp' ss _ (hs.step H) hsl).mono ?_
      rintro e w10 ⟨rfl, b, Q⟩
      replace R := R.step b
      replace H := chain H b (Nat.le_refl _)
      have R2 := RdI.of_ints Q
      clear b Q
      go_wp2_with fail
      refine (eqIntS_c _ _ _ _ ss ss _ R R2 hsl).mono ?_
      rintro e w11 ⟨rfl, b⟩
      rw [show (ss == ss) = true by simp]
      replace H := chain H b (Nat.le_refl _)
      go_wp2
      go_ret
      exact ⟨rfl, H⟩
  · have hgt : (1048576 : Int) < (ss.length : Int) := by omega
    go_enter Try.func7, Try.ntmps7
    go_wp2
    go_ret
    exact ⟨rfl, Below.refl _ _⟩
set_option maxRecDepth 100000 in
theorem FnExactPeakOf_lifted (os : Os) (started : os.Started) (H : Type) (enc : TypeId × Value → H) :
    ReturnsInHanded {} Try.checked os 7 .any (Rows.fnExactPeakOfSpec.pre6 enc Try.prog Try.f7 Rows.fnExactPeakOfRow.domain false) (Rows.fnExactPeakOfSpec.post enc Try.prog Try.f7 false true false false) := by
  refine returnsInHanded_of_change (C := Try.checked) own_ started (by kernel_rfl) Try.func7
    (ChangeSpec.witness6 (enc := enc) (C := Try.checked) false ⟨#[], #[.slice none 0 0, .slice none 0 0], []⟩ 8 (by kernel_rfl) (by kernel_rfl) (by kernel_rfl) (by kernel_rfl)) ?_
  intro W base args ds gs before hval0 hW hcnd _
  have hval : ∀ (j : Nat) t v, Try.f7.params[j]? = some t → args[j]? = some v → Value.okWide Try.prog W .any base t v := hval0
  have hW' := hW
  obtain ⟨p, q, hA0, hV, rfl, hfz, hnd⟩ := hW
  have hA : DataW.TrodAll enc Try.prog W 0 (fun _ => true) true Try.f7.params.toList args.toList ds p := hA0
  rw [Try.params7] at hA hval
  obtain ⟨v0, vs0, d0, ds0, p0, q0, hargs, rfl, rfl, h0, r0⟩ := trodAll_cons hA
  obtain ⟨v1, vs1, d1, ds1, p1, q1, rfl, rfl, rfl, h1, r1⟩ := trodAll_cons r0
  obtain ⟨rfl, rfl, rfl⟩ := trodAll_nil r1
  obtain rfl : args = #[v0, v1] := by cases args; simp_all
  obtain ⟨rfl, rfl⟩ := trodVars_none hV
  have k0 := h0
  have lt0 : ∀ x ∈ p0, x.block < W.heap.size := by obtain ⟨m, hm⟩ := k0; exact DataW.trod_lt m _ _ _ hm
  obtain ⟨s0, len0, cap0, rfl⟩ := okWide_slice Try.underlying36 (hval 0 36 v0 rfl rfl)
  obtain ⟨x0, rfl, m0, r_0, f_0⟩ := open_flds Try.underlying36 Try.underlying24 (by kernel_rfl) rfl rfl rfl rfl (by kernel_rfl) (by kernel_rfl) h0
  have k1 := h1
  have lt1 : ∀ x ∈ p1, x.block < W.heap.size := by obtain ⟨m, hm⟩ := k1; exact DataW.trod_lt m _ _ _ hm
  obtain ⟨s1, len1, cap1, rfl⟩ := okWide_slice Try.underlying22 (hval 1 22 v1 rfl rfl)
  obtain ⟨x1, rfl, r_1, w1⟩ : ∃ zs : List Int, len1 = zs.length ∧ RdI W W.heap.size s1 zs ∧ ∀ n ∈ zs, (Lit.int .i64 n).wf = true := by
    obtain ⟨fuel, hf⟩ := h1
    rcases open_ints Try.underlying22 Try.underlying3 (by kernel_rfl) hf with ⟨hcs, _⟩ | ⟨x, l, c, zs, hcs, _, hl, hm, hz, _, hcell, hwz⟩
    · simp [Value.cells] at hcs
      obtain ⟨rfl, rfl, rfl⟩ := hcs
      exact ⟨[], rfl, .inl rfl, by simp⟩
    · simp [Value.cells] at hcs
      obtain ⟨rfl, rfl, rfl⟩ := hcs
      have hlz : len1 ≤ zs.length := by simp only [if_true] at hz; omega
      exact ⟨zs.take len1, by simp; omega, RdI.of_open hcell, fun n hn => hwz n (List.mem_of_mem_take hn)⟩
  clear hA0 hval0
  refine (FnExactPeakOf_walk s0 cap0 x0 s1 cap1 x1 W m0 r_0 f_0 r_1 w1).mono fun e W' ⟨he, bel⟩ => ?_
  subst he
  exact ⟨_, rfl, _, _, _, [], _, [], hW', trodAll_mk1 (shut_bool Try.underlying4 _), (trodAll_cons_mk (Below.trod laidOut_ (by kernel_rfl) (of_decide_eq_true (by kernel_rfl)) k0 bel lt0) (trodAll_cons_mk (Below.trod laidOut_ (by kernel_rfl) (of_decide_eq_true (by kernel_rfl)) k1 bel lt1) trodAll_mk0)), rfl, bel.frame _, fun h => by cases h⟩

theorem FnExactPeakOf_over : Rows.fnExactPeakOfRow.holds Try.pinned (OpenSpec.ofChange Rows.fnExactPeakOfSpec) :=
  OpenClaim.holds_of_wide 7 Try.f7 rfl rfl rfl rfl rfl rfl rfl ⟨rfl, rfl, rfl, rfl, rfl⟩ rfl rfl rfl rfl rfl (by kernel_rfl) Try.func7 (by kernel_rfl)
    (of_decide_eq_true (by kernel_rfl)) (by unfold Func.isWrapper; first | (rw [if_pos (by decide +kernel)]; kernel_rfl) | (rw [if_neg (by decide +kernel)]; exact ⟨rfl, rfl⟩))
    (fun os started H enc _ => FnExactPeakOf_lifted os started H enc)

theorem FnExactPeakOf_proved : Rows.FnExactPeakOfSaid := FnExactPeakOf_over
end Go.Proofs.Ytkbgifnmcklmiaa
