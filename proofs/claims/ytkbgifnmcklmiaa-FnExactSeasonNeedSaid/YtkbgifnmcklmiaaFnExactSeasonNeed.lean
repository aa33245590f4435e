/- FnExactSeasonNeed: the program's SeasonNeed returns what the reference's returns. -/
import Derived.Test.YtkbgifnmcklmiaaTo
namespace Go.Proofs.Ytkbgifnmcklmiaa
open Go.ChangeShapes Go.WideShapes Go.ChangeAt Go.RowKit Go.Joins
set_option linter.unusedVariables false

set_option maxHeartbeats 1000000 in
theorem FnExactSeasonNeed_walk (a : Int) (A : Option Addr) (cp : Nat) (ws : List Int) (w : World) (w0 : (Lit.int .i64 a).wf = true) (hm : ws.length ≤ maxLen) (hr : RdI w w.heap.size A ws) :
    Calls Try.prog 6 #[.agg #[.int .i64 a, .slice A ws.length cp]] w fun e w' => e = .returned (.bool true) ∧ Below w.heap.size w w' := by
  have P := Blk.new w 24 #[.int .i64 a, .slice A ws.length cp]
  have H := (Below.refl w.heap.size w).alloc (Nat.le_refl _) (.cells #[.int .i64 a, .slice A ws.length cp] 24)
  obtain ⟨p0, p1, -, -, pL⟩ := P.two
  have hS := Lib.hid (fun W => szField_c a A ws.length cp 1048576 W hm (by omega) (by omega))
  by_cases hl : ws.length ≤ 1048576
  · have hz : ¬ (1048576 : Int) - (ws.length : Int) < 0 := by omega
    have hif := Lib.hid (if_neg (show ¬ (1048576 : Int) < (ws.length : Int) by omega) : (if (1048576 : Int) < (ws.length : Int) then (-1 : Int) else 1048576 - (ws.length : Int)) = _)
    rw [hif.out] at hS
    clear hm
    have haa : (a == a && ws == ws) = true := by simp
    have hn : (seasZ a ws != seasZ a ws) = false := by simp
    go_enter Try.func6, Try.ntmps6
    go_wp2_with fail
    refine (hS.out _).mono ?_
    rintro e w1 ⟨rfl, b⟩
    replace P := P.next b
    replace H := chain H b (Nat.le_refl _)
    clear b
    try clear p0 p1 pL
    obtain ⟨p0, p1, -, -, pL⟩ := P.two
    go_wp2_with fail
    refine (toField_c a A cp ws _ (hr.at_world H) hl).mono ?_
    rintro e w1 ⟨g0, rfl, hg0, Q, b⟩
    replace P := P.next b
    replace H := chain H b (Nat.le_refl _)
    clear b
    try clear p0 p1 pL
    obtain ⟨p0, p1, -, -, pL⟩ := P.two
    have R := RdI.of_ints Q
    clear Q
    go_wp2_with fail
    refine (sSeas_c a _ _ ws _ R hl).mono ?_
    rintro e w1 ⟨rfl, b⟩
    replace P := P.next b
    replace H := chain H b (Nat.le_refl _)
    clear b
    try clear p0 p1 pL
    obtain ⟨p0, p1, -, -, pL⟩ := P.two
    clear R
    go_wp2_with fail
    refine (toField_c a A cp ws _ (hr.at_world H) hl).mono ?_
    rintro e w2 ⟨g1, rfl, hg1, Q, b⟩
    replace P := P.next b
    replace H := chain H b (Nat.le_refl _)
    clear b
    try clear p0 p1 pL
    obtain ⟨p0, p1, -, -, pL⟩ := P.two
    have R := RdI.of_ints Q
    have X := Blk.new w2 27 #[.int .i64 a, .slice (some ⟨g1, 0, none⟩) ws.length ws.length]
    clear Q
    go_wp2_with fail
    replace P := P.alloc (.cells #[.int .i64 a, .slice (some ⟨g1, 0, none⟩) ws.length ws.length] 27)
    replace H := H.alloc H.size (.cells #[.int .i64 a, .slice (some ⟨g1, 0, none⟩) ws.length ws.length] 27)
    replace R := (R.alloc (Nat.le_refl _) (.cells #[.int .i64 a, .slice (some ⟨g1, 0, none⟩) ws.length ws.length] 27)).more (B' := (w2.alloc (.cells #[.int .i64 a, .slice (some ⟨g1, 0, none⟩) ws.length ws.length] 27)).heap.size) (by simp)
    refine (iSeas_c a _ _ ws _ R hl).mono ?_
    rintro e w3 ⟨rfl, b⟩
    replace R := R.at_world b
    replace P := P.next b
    replace X := X.next b
    replace H := chain H b (Nat.le_refl _)
    clear b
    try clear p0 p1 pL
    obtain ⟨p0, p1, -, -, pL⟩ := P.two
    try clear x0 x1 xL
    obtain ⟨x0, x1, -, -, xL⟩ := X.two
    go_wp2
    have HH := Below.refl w3.heap.size w3
    go_region_held3 (fun w' => w'.cell? ⟨w.heap.size, 0, none⟩ = some (.int .i64 a) ∧ w'.cell? ⟨w.heap.size, 1, none⟩ = some (.slice A ws.length cp) ∧ w'.cell? ⟨w2.heap.size, 0, none⟩ = some (.int .i64 a) ∧ w'.cell? ⟨w2.heap.size, 1, none⟩ = some (.slice (some ⟨g1, 0, none⟩) ws.length ws.length) ∧ Below w3.heap.size w3 w')
      ((go_split_ands; refine ⟨?_, ?_, ?_, ?_, ?_⟩ <;> first | assumption | exact cell_next b (by assumption) | exact chain (by assumption) b (Nat.le_refl _) | exact Below.drew (by assumption)))
      (first | (go_at_call 12; refine (toField_c a A cp ws _ (hr.at_world (chain H ?_ (Nat.le_refl _))) hl).mono ?_; (go_split_ands; assumption); rintro e w4 ⟨g2, rfl, hg2, Q, b⟩) | (go_at_call 14; refine (eqField_c a _ _ ws a _ _ ws _ (R.at_world ?_) (RdI.of_ints Q) hl).mono ?_; (go_split_ands; assumption); rintro e w5 ⟨rfl, b⟩))
    go_wp2
    go_ret
    rename_i hh
    exact ⟨rfl, chain H hh.2.2.2.2 (Nat.le_refl _)⟩
  · have hz : (1048576 : Int) < (ws.length : Int) := by omega
    have hif := Lib.hid (if_pos hz : (if (1048576 : Int) < (ws.length : Int) then (-1 : Int) else 1048576 - (ws.length : Int)) = _)
    rw [hif.out] at hS
    clear hm hz
    go_enter Try.func6, Try.ntmps6
    go_wp2_with fail
    refine (hS.out _).mono ?_
    rintro e w1 ⟨rfl, b⟩
    replace H := chain H b (Nat.le_refl _)
    go_wp2
    go_ret
    exact ⟨rfl, H⟩
set_option maxRecDepth 100000 in
theorem FnExactSeasonNeed_lifted (os : Os) (started : os.Started) (H : Type) (enc : TypeId × Value → H) :
    ReturnsInHanded {} Try.checked os 6 .any (Rows.fnExactSeasonNeedSpec.pre6 enc Try.prog Try.f6 Rows.fnExactSeasonNeedRow.domain false) (Rows.fnExactSeasonNeedSpec.post enc Try.prog Try.f6 false true false false) := by
  refine returnsInHanded_of_change (C := Try.checked) own_ started (by kernel_rfl) Try.func6
    (ChangeSpec.witness6 (enc := enc) (C := Try.checked) false ⟨#[], #[.agg #[.int .i64 0, .slice none 0 0]], []⟩ 8 (by kernel_rfl) (by kernel_rfl) (by kernel_rfl) (by kernel_rfl)) ?_
  intro W base args ds gs before hval0 hW hcnd _
  have hval : ∀ (j : Nat) t v, Try.f6.params[j]? = some t → args[j]? = some v → Value.okWide Try.prog W .any base t v := hval0
  have hW' := hW
  obtain ⟨p, q, hA0, hV, rfl, hfz, hnd⟩ := hW
  have hA : DataW.TrodAll enc Try.prog W 0 (fun _ => true) true Try.f6.params.toList args.toList ds p := hA0
  rw [Try.params6] at hA hval
  obtain ⟨v0, vs0, d0, ds0, p0, q0, hargs, rfl, rfl, h0, r0⟩ := trodAll_cons hA
  obtain ⟨rfl, rfl, rfl⟩ := trodAll_nil r0
  obtain rfl : args = #[v0] := by cases args; simp_all
  obtain ⟨rfl, rfl⟩ := trodVars_none hV
  have k0 := h0
  have lt0 : ∀ x ∈ p0, x.block < W.heap.size := by obtain ⟨m, hm⟩ := k0; exact DataW.trod_lt m _ _ _ hm
  obtain ⟨c0_0, c0_1, y0_0, y0_1, m0, rfl, rfl, rfl, hy0_0, hy0_1⟩ := open_agg2 Try.underlying24 (by kernel_rfl) (show Try.prog.cellsOf 24 = 2 by kernel_rfl) (hval 0 24 v0 rfl rfl) h0
  obtain ⟨a0_0, e0_0, rfl, w0_0⟩ := DataW.trod_int Try.underlying3 hy0_0
  simp only [List.cons.injEq, and_true] at e0_0
  subst e0_0
  obtain ⟨s0, cap0, x0, rfl, mx0, r_0⟩ : ∃ (s : Option Addr) (c : Nat) (zs : List Int), c0_1 = .slice s zs.length c ∧ zs.length ≤ maxLen ∧ RdI W W.heap.size s zs := by
    rcases open_ints Try.underlying22 Try.underlying3 (by kernel_rfl) hy0_1 with ⟨hcs, _⟩ | ⟨x, l, c, zs, hcs, _, hl, hm, hz, _, hcell, hwz⟩
    · simp only [List.cons.injEq, and_true] at hcs
      exact ⟨none, 0, [], hcs, Nat.zero_le _, .inl rfl⟩
    · simp only [List.cons.injEq, and_true] at hcs
      have hlz : l ≤ zs.length := by simp only [if_true] at hz; omega
      have e : (zs.take l).length = l := by simp; omega
      exact ⟨some x, c, zs.take l, by rw [e]; exact hcs, by rw [e]; omega, RdI.of_open hcell⟩
  clear hA0 hval0
  refine (FnExactSeasonNeed_walk a0_0 s0 cap0 x0 W w0_0 mx0 r_0).mono fun e W' ⟨he, bel⟩ => ?_
  subst he
  exact ⟨_, rfl, _, _, _, [], _, [], hW', trodAll_mk1 (shut_bool Try.underlying4 _), (trodAll_cons_mk (Below.trod laidOut_ (by kernel_rfl) (of_decide_eq_true (by kernel_rfl)) k0 bel lt0) trodAll_mk0), rfl, bel.frame _, fun h => by cases h⟩

theorem FnExactSeasonNeed_over : Rows.fnExactSeasonNeedRow.holds Try.pinned (OpenSpec.ofChange Rows.fnExactSeasonNeedSpec) :=
  OpenClaim.holds_of_wide 6 Try.f6 rfl rfl rfl rfl rfl rfl rfl ⟨rfl, rfl, rfl, rfl, rfl⟩ rfl rfl rfl rfl rfl (by kernel_rfl) Try.func6 (by kernel_rfl)
    (of_decide_eq_true (by kernel_rfl)) (by unfold Func.isWrapper; first | (rw [if_pos (by decide +kernel)]; kernel_rfl) | (rw [if_neg (by decide +kernel)]; exact ⟨rfl, rfl⟩))
    (fun os started H enc _ => FnExactSeasonNeed_lifted os started H enc)

theorem FnExactSeasonNeed_proved : Rows.FnExactSeasonNeedSaid := FnExactSeasonNeed_over
end Go.Proofs.Ytkbgifnmcklmiaa
