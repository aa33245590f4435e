/- FnExactKeyVoters: the program's KeyVoters returns what the reference's returns. -/
import Derived.Test.YtifljdnlaginfaaKey
namespace Go.Proofs.Ytifljdnlaginfaa
open Go.ChangeShapes Go.WideShapes Go.ChangeAt Go.RowKit Go.Joins
set_option linter.unusedVariables false

set_option maxHeartbeats 2000000 in
theorem FnExactKeyVoters_walk (A : Option Addr) (cp : Nat) (g : List Int) (q : Int) (w : World) (hr : RdI w w.heap.size A g) (w0 : ∀ n ∈ g, (Lit.int .i64 n).wf = true) (w1 : (Lit.int .i64 q).wf = true) :
    Calls Try.prog 5 #[.slice A g.length cp, .int .i64 q] w fun e w' => e = .returned (.bool true) ∧ Below w.heap.size w w' := by
  clear w0 w1
  by_cases hl : g.length ≤ 1048576
  · have hlb : decide ((1048576 : Int) < (g.length : Int)) = false := by simp; omega
    have hm := Lib.hid (show g.length ≤ maxLen by unfold maxLen; omega)
    have hyl := Lib.hid (show (keyL g q).length ≤ g.length from keyL_len g q)
    generalize hys : keyL g q = ys at hyl
    have hys' := Lib.hid hys
    clear hys
    have hly : ys.length ≤ 1048576 := Nat.le_trans hyl.out hl
    have hyy : (ys == ys) = true := by simp
    have hgg : (g == g) = true := by simp
    go_enter Try.func5, Try.ntmps5
    -- the reference
    go_wp2_with fail
    refine (toIntS_c _ _ _ _ hr hl).mono ?_
    rintro e w1 ⟨rfl, b, Q⟩
    have H : Below w.heap.size w w1 := b
    have R := RdI.of_ints Q
    clear Q b
    go_wp2_with fail
    refine (sKey_c _ _ _ _ _ R hl).mono ?_
    rw [hys'.out]
    rintro e w2 ⟨A0, c0, rfl, W, b⟩
    replace H := chain H b (Nat.le_refl _)
    clear R b
    have dW : Hid (∀ gb, A0 = some ⟨gb, 0, none⟩ → gb < w2.heap.size) := fun gb e => by
      rcases W.form with ⟨e0, _⟩ | ⟨g0, e0, _, hlt, _⟩
      · rw [e0] at e; cases e
      · rw [e0] at e; injection e with e; injection e with e; omega
    -- the argument, and the program
    go_wp2_with fail
    refine (toIntS_c _ _ _ _ (hr.at_world H) hl).mono ?_
    rintro e w3 ⟨rfl, b, Q⟩
    have hs2 := H.size
    replace H := chain H b (Nat.le_refl _)
    replace W := W.next b
    have X : OwnI w3 w2.heap.size (some ⟨w2.heap.size, 0, none⟩) g.length g := OwnI.of_blk (Nat.le_refl _) hm.out Q
    have hs3 : w2.heap.size < w3.heap.size := Blk.lt Q
    clear Q b
    go_wp2_with fail
    refine (iKey_c _ _ _ _ _ X.rd hl).mono ?_
    rw [hys'.out]
    rintro e w4 ⟨Ag, cg, rfl, G, b⟩
    replace H := chain H b (Nat.le_refl _)
    replace W := W.next b
    replace X := X.next b
    clear b
    have dG : Hid (∀ gb, Ag = some ⟨gb, 0, none⟩ → w3.heap.size ≤ gb) := fun gb e => by
      rcases G.form with ⟨e0, _⟩ | ⟨g0, e0, hb, _⟩
      · rw [e0] at e; cases e
      · rw [e0] at e; injection e with e; injection e with e; omega
    -- they are alike
    go_wp2_with fail
    refine (eqIntS_c _ _ _ _ _ _ _ G.rd W.rd hly).mono ?_
    rintro e w5 ⟨rfl, b⟩
    replace H := chain H b (Nat.le_refl _)
    replace W := W.next b
    replace X := X.next b
    replace G := G.next b
    clear b
    -- the argument is as it was
    go_wp2_with fail
    refine (toIntS_c _ _ _ _ (hr.at_world H) hl).mono ?_
    rintro e w6 ⟨rfl, b, Q⟩
    replace H := chain H b (Nat.le_refl _)
    replace W := W.next b
    replace X := X.next b
    replace G := G.next b
    have R := RdI.of_ints Q
    clear Q b
    go_wp2_with fail
    refine (eqIntS_c _ _ _ _ _ _ _ X.rd R hl).mono ?_
    rintro e w7 ⟨rfl, b⟩
    replace H := chain H b (Nat.le_refl _)
    replace W := W.next b
    replace X := X.next b
    replace G := G.next b
    clear b R
    -- the argument is written
    go_wp2_with fail
    refine (markIntS_c _ _ _ _ _ _ X (by omega) (by omega) (by omega)).mono ?_
    rintro e w8 ⟨rfl, -, b⟩
    replace W := W.kept b (fun gb e => by have := dW.out gb e; simp only [Value.ownBlock]; intro h; injection h with h; omega)
    replace G := G.kept b (fun gb e => by have := dG.out gb e; simp only [Value.ownBlock]; intro h; injection h with h; omega)
    replace H := H.grown b H.size (fun k hk => by simp only [Value.ownBlock] at hk; injection hk with hk; omega)
    clear b X
    go_wp2_with fail
    refine (eqIntS_c _ _ _ _ _ _ _ G.rd W.rd hly).mono ?_
    rintro e w9 ⟨rfl, b⟩
    replace H := chain H b (Nat.le_refl _)
    replace W := W.next b
    replace G := G.next b
    clear b
    -- the result is written, and read again
    go_wp2_with fail
    refine (markIntS_c _ _ _ _ _ _ G (by omega) (by omega) (by omega)).mono ?_
    rintro e wa ⟨rfl, G', b⟩
    replace W := W.kept b (fun gb e => by
      have h1 := dW.out gb e
      rcases hA : Ag with _ | a
      · simp [Value.ownBlock]
      · rcases G.form with ⟨e0, _⟩ | ⟨g0, e0, _⟩
        · rw [e0] at hA; cases hA
        · have h2 := dG.out g0 e0
          rw [e0] at hA
          injection hA with hA
          subst hA
          simp only [Value.ownBlock]
          intro h; injection h with h; omega)
    replace H := H.grown b H.size (fun k hk => by
      rcases G.form with ⟨e0, _⟩ | ⟨g0, e0, _⟩
      · rw [e0] at hk; simp [Value.ownBlock] at hk
      · have h2 := dG.out g0 e0
        rw [e0] at hk
        simp only [Value.ownBlock] at hk
        injection hk with hk
        omega)
    clear b G
    go_wp2_with fail
    refine (heldIntS_c _ _ _ _ _ G'.rd (by omega) (by omega) (by omega)).mono ?_
    rintro e w' ⟨rfl, rfl⟩
    have hq : ((1 : Int) + (ys.length : Int) != 1 + (ys.length : Int)) = false := by simp
    -- another call
    go_wp2_with fail
    refine (toIntS_c _ _ _ _ (hr.at_world H) hl).mono ?_
    rintro e wb ⟨rfl, b, Q⟩
    replace H := chain H b (Nat.le_refl _)
    replace W := W.next b
    replace G' := G'.next b
    have R := RdI.of_ints Q
    clear Q b
    go_wp2_with fail
    refine (iKey_c _ _ _ _ _ R hl).mono ?_
    rw [hys'.out]
    rintro e wc ⟨Ah, ch, rfl, K, b⟩
    replace H := chain H b (Nat.le_refl _)
    replace W := W.next b
    replace G' := G'.next b
    clear b R
    go_wp2_with fail
    refine (eqIntS_c _ _ _ _ _ _ _ K.rd W.rd hly).mono ?_
    rintro e wd ⟨rfl, b⟩
    replace H := chain H b (Nat.le_refl _)
    replace G' := G'.next b
    clear b K W
    go_wp2_with fail
    refine (heldIntS_c _ _ _ _ _ G'.rd (by omega) (by omega) (by omega)).mono ?_
    rintro e w' ⟨rfl, rfl⟩
    go_wp2
    go_ret
    exact ⟨rfl, H⟩
  · have hlb : decide ((1048576 : Int) < (g.length : Int)) = true := by simp; omega
    go_enter Try.func5, Try.ntmps5
    go_wp2
    go_ret
    exact ⟨rfl, Below.refl _ _⟩
set_option maxRecDepth 100000 in
theorem FnExactKeyVoters_lifted (os : Os) (started : os.Started) (H : Type) (enc : TypeId × Value → H) :
    ReturnsInHanded {} Try.checked os 5 .any (Rows.fnExactKeyVotersSpec.pre6 enc Try.prog Try.f5 Rows.fnExactKeyVotersRow.domain false) (Rows.fnExactKeyVotersSpec.post enc Try.prog Try.f5 false true false false) := by
  refine returnsInHanded_of_change (C := Try.checked) own_ started (by kernel_rfl) Try.func5
    (ChangeSpec.witness6 (enc := enc) (C := Try.checked) false ⟨#[], #[.slice none 0 0, .int .i64 0], []⟩ 8 (by kernel_rfl) (by kernel_rfl) (by kernel_rfl) (by kernel_rfl)) ?_
  intro W base args ds gs before hval0 hW hcnd _
  have hval : ∀ (j : Nat) t v, Try.f5.params[j]? = some t → args[j]? = some v → Value.okWide Try.prog W .any base t v := hval0
  have hW' := hW
  obtain ⟨p, q, hA0, hV, rfl, hfz, hnd⟩ := hW
  have hA : DataW.TrodAll enc Try.prog W 0 (fun _ => true) true Try.f5.params.toList args.toList ds p := hA0
  rw [Try.params5] at hA hval
  obtain ⟨v0, vs0, d0, ds0, p0, q0, hargs, rfl, rfl, h0, r0⟩ := trodAll_cons hA
  obtain ⟨v1, vs1, d1, ds1, p1, q1, rfl, rfl, rfl, h1, r1⟩ := trodAll_cons r0
  obtain ⟨rfl, rfl, rfl⟩ := trodAll_nil r1
  obtain rfl : args = #[v0, v1] := by cases args; simp_all
  obtain ⟨rfl, rfl⟩ := trodVars_none hV
  have k0 := h0
  have lt0 : ∀ x ∈ p0, x.block < W.heap.size := by obtain ⟨m, hm⟩ := k0; exact DataW.trod_lt m _ _ _ hm
  obtain ⟨s0, len0, cap0, rfl⟩ := okWide_slice Try.underlying22 (hval 0 22 v0 rfl rfl)
  obtain ⟨x0, rfl, r_0, w0⟩ : ∃ zs : List Int, len0 = zs.length ∧ RdI W W.heap.size s0 zs ∧ ∀ n ∈ zs, (Lit.int .i64 n).wf = true := by
    obtain ⟨fuel, hf⟩ := h0
    rcases open_ints Try.underlying22 Try.underlying3 (by kernel_rfl) hf with ⟨hcs, _⟩ | ⟨x, l, c, zs, hcs, _, hl, hm, hz, _, hcell, hwz⟩
    · simp [Value.cells] at hcs
      obtain ⟨rfl, rfl, rfl⟩ := hcs
      exact ⟨[], rfl, .inl rfl, by simp⟩
    · simp [Value.cells] at hcs
      obtain ⟨rfl, rfl, rfl⟩ := hcs
      have hlz : len0 ≤ zs.length := by simp only [if_true] at hz; omega
      exact ⟨zs.take len0, by simp; omega, RdI.of_open hcell, fun n hn => hwz n (List.mem_of_mem_take hn)⟩
  have k1 := h1
  have lt1 : ∀ x ∈ p1, x.block < W.heap.size := by obtain ⟨m, hm⟩ := k1; exact DataW.trod_lt m _ _ _ hm
  obtain ⟨a1, rfl, rfl, rfl, w1⟩ := open_int Try.underlying3 (hval 1 3 v1 rfl rfl) h1
  clear hA0 hval0
  refine (FnExactKeyVoters_walk s0 cap0 x0 a1 W r_0 w0 w1).mono fun e W' ⟨he, bel⟩ => ?_
  subst he
  exact ⟨_, rfl, _, _, _, [], _, [], hW', trodAll_mk1 (shut_bool Try.underlying4 _), (trodAll_cons_mk (Below.trod laidOut_ (by kernel_rfl) (of_decide_eq_true (by kernel_rfl)) k0 bel lt0) (trodAll_cons_mk (Below.trod laidOut_ (by kernel_rfl) (of_decide_eq_true (by kernel_rfl)) k1 bel lt1) trodAll_mk0)), rfl, bel.frame _, fun h => by cases h⟩

theorem FnExactKeyVoters_over : Rows.fnExactKeyVotersRow.holds Try.pinned (OpenSpec.ofChange Rows.fnExactKeyVotersSpec) :=
  OpenClaim.holds_of_wide 5 Try.f5 rfl rfl rfl rfl rfl rfl rfl ⟨rfl, rfl, rfl, rfl, rfl⟩ rfl rfl rfl rfl rfl (by kernel_rfl) Try.func5 (by kernel_rfl)
    (of_decide_eq_true (by kernel_rfl)) (by unfold Func.isWrapper; first | (rw [if_pos (by decide +kernel)]; kernel_rfl) | (rw [if_neg (by decide +kernel)]; exact ⟨rfl, rfl⟩))
    (fun os started H enc _ => FnExactKeyVoters_lifted os started H enc)

theorem FnExactKeyVoters_proved : Rows.FnExactKeyVotersSaid := FnExactKeyVoters_over
end Go.Proofs.Ytifljdnlaginfaa
