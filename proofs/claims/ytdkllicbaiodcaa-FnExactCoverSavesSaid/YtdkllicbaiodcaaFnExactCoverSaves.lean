/- FnExactCoverSaves: the program's CoverSaves returns what the reference's returns. -/
import Derived.Test.YtdkllicbaiodcaaCover
import Derived.Test.YtdkllicbaiodcaaDays
namespace Go.Proofs.Ytdkllicbaiodcaa
open Go.ChangeShapes Go.WideShapes Go.ChangeAt Go.RowKit Go.Joins
set_option linter.unusedVariables false

set_option maxHeartbeats 1000000 in
theorem FnExactCoverSaves_walk (s d : Int) (c : Bool) (A : Option Addr) (cp : Nat) (hs : List Int) (w : World) (w0 : (Lit.int .i64 s).wf = true) (w1 : (Lit.int .i64 d).wf = true) (hr : RdI w w.heap.size A hs) (w2 : ∀ n ∈ hs, (Lit.int .i64 n).wf = true) :
    Calls Try.prog 8 #[.agg #[.int .i64 s, .int .i64 d, .bool c], .slice A hs.length cp] w fun e w' => e = .returned (.bool true) ∧ Below w.heap.size w w' := by
  clear w0 w1 w2
  have P : Blk (w.alloc (.cells #[.int .i64 s, .int .i64 d, .bool c] 23)) w.heap.size 23 #[.int .i64 s, .int .i64 d, .bool c] := Blk.new _ _ _
  have H : Below w.heap.size w (w.alloc (.cells #[.int .i64 s, .int .i64 d, .bool c] 23)) := (Below.refl _ _).alloc (Nat.le_refl _) _
  by_cases hl : hs.length ≤ 1048576
  · have hlb : decide ((1048576 : Int) < (hs.length : Int)) = false := by simp; omega
    go_enter Try.func8, Try.ntmps8
    go_wp2_with fail
    refine (toPond_c _ _ _ _).mono ?_
    rintro e w1 ⟨rfl, b⟩
    replace P := P.next b
    replace H := chain H b (Nat.le_refl _)
    clear b
    try clear a0 a1 a2 aL
    obtain ⟨a0, a1, a2, -, -, -, aL⟩ := P.three
    go_wp2_with fail
    refine (toIntS_c _ _ _ _ (hr.at_world H) hl).mono ?_
    rintro e w1 ⟨rfl, b, Q⟩
    replace P := P.next b
    replace H := chain H b (Nat.le_refl _)
    clear b a0 a1 a2 aL
    obtain ⟨a0, a1, a2, -, -, -, aL⟩ := P.three
    have R := RdI.of_ints Q
    clear Q
    go_wp2_with fail
    refine (sCover_c _ _ _ _ _ _ _ R hl).mono ?_
    rintro e w2 ⟨rfl, b⟩
    replace P := P.next b
    replace H := chain H b (Nat.le_refl _)
    clear b a0 a1 a2 aL R
    obtain ⟨a0, a1, a2, -, -, -, aL⟩ := P.three
    go_wp2_with fail
    refine (toIntS_c _ _ _ _ (hr.at_world H) hl).mono ?_
    rintro e w1 ⟨rfl, b, Q⟩
    replace P := P.next b
    replace H := chain H b (Nat.le_refl _)
    clear b a0 a1 a2 aL
    obtain ⟨a0, a1, a2, -, -, -, aL⟩ := P.three
    have R := RdI.of_ints Q
    clear Q
    go_wp2_with fail
    refine (toPond_c _ _ _ _).mono ?_
    rintro e w3 ⟨rfl, b⟩
    replace H := chain H b (Nat.le_refl _)
    replace R := R.at_world b
    clear b a0 a1 a2 aL P
    go_wp2_with fail
    refine (iCover_c _ _ _ _ _ _ _ R hl).mono ?_
    rintro e w4 ⟨rfl, b⟩
    replace H := chain H b (Nat.le_refl _)
    replace R := R.at_world b
    clear b
    have hne : ∀ x : Int, (x != x) = false := fun x => by simp
    go_wp2_with fail
    refine (toIntS_c _ _ _ _ (hr.at_world H) hl).mono ?_
    rintro e w5 ⟨rfl, b, Q⟩
    replace H := chain H b (Nat.le_refl _)
    replace R := R.at_world b
    have R' := RdI.of_ints Q
    clear Q b
    go_wp2_with fail
    refine (eqIntS_c _ _ _ _ _ _ _ R R' hl).mono ?_
    rintro e w6 ⟨rfl, b⟩
    replace H := chain H b (Nat.le_refl _)
    clear b
    have he : (hs == hs) = true := by simp
    go_wp2
    go_ret
    exact ⟨rfl, H⟩
  · have hlb : decide ((1048576 : Int) < (hs.length : Int)) = true := by simp; omega
    go_enter Try.func8, Try.ntmps8
    go_wp2
    go_ret
    exact ⟨rfl, H⟩
set_option maxRecDepth 100000 in
theorem FnExactCoverSaves_lifted (os : Os) (started : os.Started) (H : Type) (enc : TypeId × Value → H) :
    ReturnsInHanded {} Try.checked os 8 .any (Rows.fnExactCoverSavesSpec.pre6 enc Try.prog Try.f8 Rows.fnExactCoverSavesRow.domain false) (Rows.fnExactCoverSavesSpec.post enc Try.prog Try.f8 false true false false) := by
  refine returnsInHanded_of_change (C := Try.checked) own_ started (by kernel_rfl) Try.func8
    (ChangeSpec.witness6 (enc := enc) (C := Try.checked) false ⟨#[], #[.agg #[.int .i64 0, .int .i64 0, .bool false], .slice none 0 0], []⟩ 8 (by kernel_rfl) (by kernel_rfl) (by kernel_rfl) (by kernel_rfl)) ?_
  intro W base args ds gs before hval0 hW hcnd _
  have hval : ∀ (j : Nat) t v, Try.f8.params[j]? = some t → args[j]? = some v → Value.okWide Try.prog W .any base t v := hval0
  have hW' := hW
  obtain ⟨p, q, hA0, hV, rfl, hfz, hnd⟩ := hW
  have hA : DataW.TrodAll enc Try.prog W 0 (fun _ => true) true Try.f8.params.toList args.toList ds p := hA0
  rw [Try.params8] at hA hval
  obtain ⟨v0, vs0, d0, ds0, p0, q0, hargs, rfl, rfl, h0, r0⟩ := trodAll_cons hA
  obtain ⟨v1, vs1, d1, ds1, p1, q1, rfl, rfl, rfl, h1, r1⟩ := trodAll_cons r0
  obtain ⟨rfl, rfl, rfl⟩ := trodAll_nil r1
  obtain rfl : args = #[v0, v1] := by cases args; simp_all
  obtain ⟨rfl, rfl⟩ := trodVars_none hV
  have k0 := h0
  have lt0 : ∀ x ∈ p0, x.block < W.heap.size := by obtain ⟨m, hm⟩ := k0; exact DataW.trod_lt m _ _ _ hm
  obtain ⟨c0_0, c0_1, c0_2, y0_0, y0_1, y0_2, m0, rfl, rfl, rfl, hy0_0, hy0_1, hy0_2⟩ := open_agg3 Try.underlying23 (by kernel_rfl) (show Try.prog.cellsOf 23 = 3 by kernel_rfl) (hval 0 23 v0 rfl rfl) h0
  obtain ⟨a0_0, e0_0, rfl, w0_0⟩ := DataW.trod_int Try.underlying3 hy0_0
  simp only [List.cons.injEq, and_true] at e0_0
  subst e0_0
  obtain ⟨a0_1, e0_1, rfl, w0_1⟩ := DataW.trod_int Try.underlying3 hy0_1
  simp only [List.cons.injEq, and_true] at e0_1
  subst e0_1
  obtain ⟨a0_2, e0_2, rfl⟩ := DataW.trod_bool Try.underlying4 hy0_2
  simp only [List.cons.injEq, and_true] at e0_2
  subst e0_2
  have k1 := h1
  have lt1 : ∀ x ∈ p1, x.block < W.heap.size := by obtain ⟨m, hm⟩ := k1; exact DataW.trod_lt m _ _ _ hm
  obtain ⟨s1, len1, cap1, rfl⟩ := okWide_slice Try.underlying33 (hval 1 33 v1 rfl rfl)
  obtain ⟨x1, rfl, r_1, w1⟩ : ∃ zs : List Int, len1 = zs.length ∧ RdI W W.heap.size s1 zs ∧ ∀ n ∈ zs, (Lit.int .i64 n).wf = true := by
    obtain ⟨fuel, hf⟩ := h1
    rcases open_ints Try.underlying33 Try.underlying3 (by kernel_rfl) hf with ⟨hcs, _⟩ | ⟨x, l, c, zs, hcs, _, hl, hm, hz, _, hcell, hwz⟩
    · simp [Value.cells] at hcs
      obtain ⟨rfl, rfl, rfl⟩ := hcs
      exact ⟨[], rfl, .inl rfl, by simp⟩
    · simp [Value.cells] at hcs
      obtain ⟨rfl, rfl, rfl⟩ := hcs
      have hlz : len1 ≤ zs.length := by simp only [if_true] at hz; omega
      exact ⟨zs.take len1, by simp; omega, RdI.of_open hcell, fun n hn => hwz n (List.mem_of_mem_take hn)⟩
  clear hA0 hval0
  refine (FnExactCoverSaves_walk a0_0 a0_1 a0_2 s1 cap1 x1 W w0_0 w0_1 r_1 w1).mono fun e W' ⟨he, bel⟩ => ?_
  subst he
  exact ⟨_, rfl, _, _, _, [], _, [], hW', trodAll_mk1 (shut_bool Try.underlying4 _), (trodAll_cons_mk (Below.trod laidOut_ (by kernel_rfl) (of_decide_eq_true (by kernel_rfl)) k0 bel lt0) (trodAll_cons_mk (Below.trod laidOut_ (by kernel_rfl) (of_decide_eq_true (by kernel_rfl)) k1 bel lt1) trodAll_mk0)), rfl, bel.frame _, fun h => by cases h⟩

theorem FnExactCoverSaves_over : Rows.fnExactCoverSavesRow.holds Try.pinned (OpenSpec.ofChange Rows.fnExactCoverSavesSpec) :=
  OpenClaim.holds_of_wide 8 Try.f8 rfl rfl rfl rfl rfl rfl rfl ⟨rfl, rfl, rfl, rfl, rfl⟩ rfl rfl rfl rfl rfl (by kernel_rfl) Try.func8 (by kernel_rfl)
    (of_decide_eq_true (by kernel_rfl)) (by unfold Func.isWrapper; first | (rw [if_pos (by decide +kernel)]; kernel_rfl) | (rw [if_neg (by decide +kernel)]; exact ⟨rfl, rfl⟩))
    (fun os started H enc _ => FnExactCoverSaves_lifted os started H enc)

theorem FnExactCoverSaves_proved : Rows.FnExactCoverSavesSaid := FnExactCoverSaves_over
end Go.Proofs.Ytdkllicbaiodcaa
