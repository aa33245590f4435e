/- FnTariffs: a tariff never falls, and two meters are never dearer than one. -/
import Derived.Test.YtfdeeaeenkjehaaDrawT
import Derived.Test.YtfdeeaeenkjehaaLaw
import Derived.Test.YtfdeeaeenkjehaaTail
namespace Go.Proofs.Ytfdeeaeenkjehaa
open Go.ChangeShapes Go.WideShapes Go.ChangeAt Go.RowKit Go.Joins
set_option linter.unusedVariables false

set_option maxRecDepth 100000 in
set_option maxHeartbeats 4000000 in
theorem FnTariffs_walk (A : Option Addr) (cp : Nat) (code : List Int) (w : World) (hm : code.length ≤ maxLen) (hr : RdB w w.heap.size A code) :
    Calls Try.prog 8 #[.slice A code.length cp] w fun e w' => e = .returned (.bool true) ∧ Below w.heap.size w w' := by
  by_cases hl : code.length ≤ 1048576
  · have hd := Lib.hid (show decide ((1048576 : Int) < code.length) = false from decide_eq_false (by omega))
    clear hm
    go_enter Try.func8, Try.ntmps8
    go_wp2_with fail
    refine (big_c _ _ _ _).mono ?_
    rw [hd.out]
    rintro e w' ⟨rfl, rfl⟩
    go_wp2_with fail
    refine (drawTar_c _ _ _ _ hr hl).mono ?_
    rintro e w1 ⟨A1, c1, t, rfl, hO, ht, H⟩
    have R := hO.rd
    obtain ⟨h1, h10, hf⟩ := tariff_b t ht
    have ht' := Lib.hid ht
    have hf' := Lib.hid hf
    obtain ⟨tp0, tp1⟩ := top_b ht
    have hl8 : t.length ≤ 1048576 := by omega
    clear ht hf hO
    obtain ⟨g, off, rfl, hg, hcl⟩ := R.lastC (by omega)
    obtain ⟨T, hT⟩ : ∃ T, topF t = T := ⟨_, rfl⟩
    rw [hT] at tp0 tp1 hcl
    have hT' := Lib.hid hT
    clear hT
    have hr1 := Lib.hid ((hr.below H (Nat.le_refl _)).more H.size)
    go_wp2_with fail
    refine (at_c _ _ _ _ _ hr1.out hl (by omega) (by omega)).mono ?_
    rintro e w' ⟨a', rfl, a0, a1, rfl⟩
    have am0 := Int.emod_nonneg a' (show T + 1 ≠ 0 by omega)
    have am1 := Int.emod_lt_of_pos a' (show (0 : Int) < T + 1 by omega)
    go_wp2_with fail
    obtain ⟨a, ha⟩ : ∃ a, a' % (T + 1) = a := ⟨_, rfl⟩
    rw [ha] at am0 am1 ⊢
    clear a0 a1 ha
    refine (at_c _ _ _ _ _ hr1.out hl (by omega) (by omega)).mono ?_
    rintro e w' ⟨b', rfl, b0, b1, rfl⟩
    have bm0 := Int.emod_nonneg b' (show T - a + 1 ≠ 0 by omega)
    have bm1 := Int.emod_lt_of_pos b' (show (0 : Int) < T - a + 1 by omega)
    go_wp2_with fail
    refine (iCostOf_c _ _ t _ _ R hl8).mono ?_
    rintro e w2 ⟨rfl, b⟩
    replace H := chain H b (Nat.le_refl _)
    replace R := R.at_world b
    clear b hcl
    go_wp2_with fail
    obtain ⟨d, hd2⟩ : ∃ d, b' % (T - a + 1) = d := ⟨_, rfl⟩
    rw [hd2] at bm0 bm1 ⊢
    clear b0 b1 hd2
    obtain ⟨⟨x0, x1⟩, ⟨y0, y1⟩, ⟨z0, z1⟩, hsh⟩ := cost_facts ht'.out am0 bm0 (show a + d ≤ topF t by rw [hT'.out]; omega)
    obtain ⟨l, hlz, l0, l1, ⟨lc0, lc1⟩, l3, l4⟩ := lit_facts ht'.out (m := costZ t a) x0
    have hla := l4 a am0 (by rw [hT'.out]; omega) (Int.le_refl _)
    have hlx : costZ t l = costZ t a := by have := costZ_mono ht'.out am0 hla l1; omega
    have hnx := Lib.hid (fun h => next_facts ht'.out am0 (show a < topF t from h))
    have hsh' := Lib.hid hsh
    have hlz' := Lib.hid hlz
    have hlx' := Lib.hid hlx
    clear hsh hlz hlx l3 l4 lc0 lc1 l0 l1
    obtain ⟨x, hx⟩ : ∃ x, costZ t a = x := ⟨_, rfl⟩
    obtain ⟨y, hy⟩ : ∃ y, costZ t d = y := ⟨_, rfl⟩
    obtain ⟨z, hz⟩ : ∃ z, costZ t (a + d) = z := ⟨_, rfl⟩
    rw [hx] at x0 x1 hlx' hlz' z0 hsh' hnx ⊢
    rw [hy] at y0 y1 z0 hsh'
    rw [hz] at z0 z1 hsh'
    have hy' := Lib.hid hy
    have hz' := Lib.hid hz
    have hx' := Lib.hid hx
    clear hx hy hz
    refine (iCostOf_c _ _ t _ _ R hl8).mono ?_
    rw [hy'.out]
    rintro e w3 ⟨rfl, b⟩
    replace H := chain H b (Nat.le_refl _)
    replace R := R.at_world b
    clear b
    go_wp2_with fail
    refine (iCostOf_c _ _ t _ _ R hl8).mono ?_
    rw [hz'.out]
    rintro e w4 ⟨rfl, b⟩
    replace H := chain H b (Nat.le_refl _)
    replace R := R.at_world b
    clear b
    have hzx : decide (z < x + y) = false := decide_eq_false (by omega)
    have hbn : (z - x - y != z - x - y) = false := by simp
    go_wp2_with fail
    refine (iShare_c _ _ t _ _ _ R hl8).mono ?_
    rw [hsh'.out]
    rintro e w5 ⟨rfl, b⟩
    replace H := chain H b (Nat.le_refl _)
    replace R := R.at_world b
    clear b
    by_cases haT : a < T
    · obtain ⟨p, hp, hc1, hp0, hp1, ⟨hp2, hp3⟩, hp4⟩ := hnx.out (by rw [hT'.out]; exact haT)
      have hp' := Lib.hid hp
      have hc1' := Lib.hid hc1
      have hp4' := Lib.hid hp4
      clear hp hc1 hp4
      go_wp2_with fail
      refine (iNext_c _ _ t _ _ R hl8).mono ?_
      rw [hp'.out]
      rintro e w6 ⟨rfl, b⟩
      replace H := chain H b (Nat.le_refl _)
      replace R := R.at_world b
      clear b
      go_wp2_with fail
      refine (iCostOf_c _ _ t _ _ R hl8).mono ?_
      rw [hc1'.out]
      rintro e w7 ⟨rfl, b⟩
      replace H := chain H b (Nat.le_refl _)
      replace R := R.at_world b
      clear b
      have hbn2 : (x + p != x + p) = false := by simp
      obtain ⟨ux, uy, -, q0, q1, hq⟩ := R.at2C (show 0 < t.length by omega)
      obtain ⟨vx, vy, -, q2, q3, hq2⟩ := R.at2C (show t.length - 1 < t.length by omega)
      simp only [Nat.zero_mul, Nat.add_zero] at q0 q1
      rw [pr_at hq.out] at hp0
      rw [pr_at hq2.out] at hp1
      have hb1 : decide (p < uy) = false := decide_eq_false (by omega)
      have hb2 : decide (vy < p) = false := decide_eq_false (by omega)
      clear hq hq2 q0 q2
      by_cases ha0 : 0 < a
      · have hq5 := hp4'.out ha0
        obtain ⟨q, hq6⟩ : ∃ q, nextZ t (a - 1) = q := ⟨_, rfl⟩
        rw [hq6] at hq5
        have hq6' := Lib.hid hq6
        have hb3 : decide (p < q) = false := decide_eq_false (by omega)
        clear hq6
        go_wp2_with fail
        refine (iNext_c _ _ t _ _ R hl8).mono ?_
        rw [hq6'.out]
        rintro e w8 ⟨rfl, b⟩
        replace H := chain H b (Nat.le_refl _)
        replace R := R.at_world b
        clear b q1 q3
        go_wp2_with fail
        refine (iLit_c _ _ t _ _ R hl8).mono ?_
        rw [hlz'.out]
        rintro e w9 ⟨rfl, b⟩
        replace H := chain H b (Nat.le_refl _)
        replace R := R.at_world b
        clear b
        have hr9 := Lib.hid ((hr.below H (Nat.le_refl _)).more H.size)
        go_wp2_with fail
        refine (at_c _ _ _ _ _ hr9.out hl (by omega) (by omega)).mono ?_
        rintro e w' ⟨m', rfl, m0, m1, rfl⟩
        obtain ⟨n, hnz, n0, n1, ⟨nc0, nc1⟩, n3, -⟩ := lit_facts ht'.out (m := m' * 3) (by omega)
        have hnz' := Lib.hid hnz
        clear hnz
        go_wp2_with fail
        refine (iLit_c _ _ t _ _ R hl8).mono ?_
        rw [hnz'.out]
        rintro e w10 ⟨rfl, b⟩
        replace H := chain H b (Nat.le_refl _)
        replace R := R.at_world b
        clear b
        obtain ⟨cn, hcn⟩ : ∃ cn, costZ t n = cn := ⟨_, rfl⟩
        rw [hcn] at nc0 nc1
        have hcn' := Lib.hid hcn
        have hxx : (x == x) = true := by simp
        rw [hT'.out] at n1 n3
        have hc0 := Lib.hid (costZ_zero ht'.out)
        have hcT := Lib.hid (cost_over (t := t))
        rw [hT'.out] at hcT
        clear hcn
        go_wp2_with fail
        refine (iCostOf_c _ _ t _ _ R hl8).mono ?_
        rw [hlx'.out]
        rintro e w11 ⟨rfl, b⟩
        replace H := chain H b (Nat.le_refl _)
        replace R := R.at_world b
        clear b
        go_wp2_with fail
        refine (iCostOf_c _ _ t _ _ R hl8).mono ?_
        rw [hcn'.out]
        rintro e w12 ⟨rfl, b⟩
        replace H := chain H b (Nat.le_refl _)
        replace R := R.at_world b
        clear b
        by_cases hnT : n = T
        · have hnb : (n == T) = true := beq_iff_eq.2 hnT
          clear n3 hnT
          go_wp2_with fail
          refine (iCostOf_c _ _ t _ _ R hl8).mono ?_
          rw [hc0.out]
          rintro e w14 ⟨rfl, b⟩
          replace H := chain H b (Nat.le_refl _)
          replace R := R.at_world b
          clear b
          go_wp2_with fail
          refine (iCostOf_c _ _ t _ _ R hl8).mono ?_
          rw [hcT.out]
          rintro e w15 ⟨rfl, b⟩
          replace H := chain H b (Nat.le_refl _)
          replace R := R.at_world b
          clear b
          go_wp2_with fail
          refine (iTariffOk_c _ _ t _ R hl8).mono ?_
          rw [ht'.out]
          rintro e w16 ⟨rfl, b⟩
          go_wp2
          go_ret
          exact ⟨rfl, chain H b (Nat.le_refl _)⟩
        · have hnb : (n == T) = false := beq_eq_false_iff_ne.2 hnT
          have hmc : m' * 3 < costZ t (n + 1) := by
            rcases n3 with e | e
            · exact absurd e hnT
            · exact e
          have hcb := (costZ_b t (n + 1)).2.1
          obtain ⟨cm, hcm⟩ : ∃ cm, costZ t (n + 1) = cm := ⟨_, rfl⟩
          rw [hcm] at hmc hcb
          have hcm' := Lib.hid hcm
          clear hcm n3 hnT
          go_wp2_with fail
          refine (iCostOf_c _ _ t _ _ R hl8).mono ?_
          rw [hcm'.out]
          rintro e w13 ⟨rfl, b⟩
          replace H := chain H b (Nat.le_refl _)
          replace R := R.at_world b
          clear b
          go_wp2_with fail
          refine (iCostOf_c _ _ t _ _ R hl8).mono ?_
          rw [hc0.out]
          rintro e w14 ⟨rfl, b⟩
          replace H := chain H b (Nat.le_refl _)
          replace R := R.at_world b
          clear b
          go_wp2_with fail
          refine (iCostOf_c _ _ t _ _ R hl8).mono ?_
          rw [hcT.out]
          rintro e w15 ⟨rfl, b⟩
          replace H := chain H b (Nat.le_refl _)
          replace R := R.at_world b
          clear b
          go_wp2_with fail
          refine (iTariffOk_c _ _ t _ R hl8).mono ?_
          rw [ht'.out]
          rintro e w16 ⟨rfl, b⟩
          go_wp2
          go_ret
          exact ⟨rfl, chain H b (Nat.le_refl _)⟩
      · have hb3 : decide (0 < a) = false := decide_eq_false ha0
        go_wp2_with fail
        refine (iLit_c _ _ t _ _ R hl8).mono ?_
        rw [hlz'.out]
        rintro e w9 ⟨rfl, b⟩
        replace H := chain H b (Nat.le_refl _)
        replace R := R.at_world b
        clear b
        have hr9 := Lib.hid ((hr.below H (Nat.le_refl _)).more H.size)
        go_wp2_with fail
        refine (at_c _ _ _ _ _ hr9.out hl (by omega) (by omega)).mono ?_
        rintro e w' ⟨m', rfl, m0, m1, rfl⟩
        obtain ⟨n, hnz, n0, n1, ⟨nc0, nc1⟩, n3, -⟩ := lit_facts ht'.out (m := m' * 3) (by omega)
        have hnz' := Lib.hid hnz
        clear hnz
        go_wp2_with fail
        refine (iLit_c _ _ t _ _ R hl8).mono ?_
        rw [hnz'.out]
        rintro e w10 ⟨rfl, b⟩
        replace H := chain H b (Nat.le_refl _)
        replace R := R.at_world b
        clear b
        obtain ⟨cn, hcn⟩ : ∃ cn, costZ t n = cn := ⟨_, rfl⟩
        rw [hcn] at nc0 nc1
        have hcn' := Lib.hid hcn
        have hxx : (x == x) = true := by simp
        rw [hT'.out] at n1 n3
        have hc0 := Lib.hid (costZ_zero ht'.out)
        have hcT := Lib.hid (cost_over (t := t))
        rw [hT'.out] at hcT
        clear hcn
        go_wp2_with fail
        refine (iCostOf_c _ _ t _ _ R hl8).mono ?_
        rw [hlx'.out]
        rintro e w11 ⟨rfl, b⟩
        replace H := chain H b (Nat.le_refl _)
        replace R := R.at_world b
        clear b
        go_wp2_with fail
        refine (iCostOf_c _ _ t _ _ R hl8).mono ?_
        rw [hcn'.out]
        rintro e w12 ⟨rfl, b⟩
        replace H := chain H b (Nat.le_refl _)
        replace R := R.at_world b
        clear b
        by_cases hnT : n = T
        · have hnb : (n == T) = true := beq_iff_eq.2 hnT
          clear n3 hnT
          go_wp2_with fail
          refine (iCostOf_c _ _ t _ _ R hl8).mono ?_
          rw [hc0.out]
          rintro e w14 ⟨rfl, b⟩
          replace H := chain H b (Nat.le_refl _)
          replace R := R.at_world b
          clear b
          go_wp2_with fail
          refine (iCostOf_c _ _ t _ _ R hl8).mono ?_
          rw [hcT.out]
          rintro e w15 ⟨rfl, b⟩
          replace H := chain H b (Nat.le_refl _)
          replace R := R.at_world b
          clear b
          go_wp2_with fail
          refine (iTariffOk_c _ _ t _ R hl8).mono ?_
          rw [ht'.out]
          rintro e w16 ⟨rfl, b⟩
          go_wp2
          go_ret
          exact ⟨rfl, chain H b (Nat.le_refl _)⟩
        · have hnb : (n == T) = false := beq_eq_false_iff_ne.2 hnT
          have hmc : m' * 3 < costZ t (n + 1) := by
            rcases n3 with e | e
            · exact absurd e hnT
            · exact e
          have hcb := (costZ_b t (n + 1)).2.1
          obtain ⟨cm, hcm⟩ : ∃ cm, costZ t (n + 1) = cm := ⟨_, rfl⟩
          rw [hcm] at hmc hcb
          have hcm' := Lib.hid hcm
          clear hcm n3 hnT
          go_wp2_with fail
          refine (iCostOf_c _ _ t _ _ R hl8).mono ?_
          rw [hcm'.out]
          rintro e w13 ⟨rfl, b⟩
          replace H := chain H b (Nat.le_refl _)
          replace R := R.at_world b
          clear b
          go_wp2_with fail
          refine (iCostOf_c _ _ t _ _ R hl8).mono ?_
          rw [hc0.out]
          rintro e w14 ⟨rfl, b⟩
          replace H := chain H b (Nat.le_refl _)
          replace R := R.at_world b
          clear b
          go_wp2_with fail
          refine (iCostOf_c _ _ t _ _ R hl8).mono ?_
          rw [hcT.out]
          rintro e w15 ⟨rfl, b⟩
          replace H := chain H b (Nat.le_refl _)
          replace R := R.at_world b
          clear b
          go_wp2_with fail
          refine (iTariffOk_c _ _ t _ R hl8).mono ?_
          rw [ht'.out]
          rintro e w16 ⟨rfl, b⟩
          go_wp2
          go_ret
          exact ⟨rfl, chain H b (Nat.le_refl _)⟩
    · go_wp2_with fail
      refine (iLit_c _ _ t _ _ R hl8).mono ?_
      rw [hlz'.out]
      rintro e w9 ⟨rfl, b⟩
      replace H := chain H b (Nat.le_refl _)
      replace R := R.at_world b
      clear b
      have hr9 := Lib.hid ((hr.below H (Nat.le_refl _)).more H.size)
      go_wp2_with fail
      refine (at_c _ _ _ _ _ hr9.out hl (by omega) (by omega)).mono ?_
      rintro e w' ⟨m', rfl, m0, m1, rfl⟩
      obtain ⟨n, hnz, n0, n1, ⟨nc0, nc1⟩, n3, -⟩ := lit_facts ht'.out (m := m' * 3) (by omega)
      have hnz' := Lib.hid hnz
      clear hnz
      go_wp2_with fail
      refine (iLit_c _ _ t _ _ R hl8).mono ?_
      rw [hnz'.out]
      rintro e w10 ⟨rfl, b⟩
      replace H := chain H b (Nat.le_refl _)
      replace R := R.at_world b
      clear b
      obtain ⟨cn, hcn⟩ : ∃ cn, costZ t n = cn := ⟨_, rfl⟩
      rw [hcn] at nc0 nc1
      have hcn' := Lib.hid hcn
      have hxx : (x == x) = true := by simp
      rw [hT'.out] at n1 n3
      have hc0 := Lib.hid (costZ_zero ht'.out)
      have hcT := Lib.hid (cost_over (t := t))
      rw [hT'.out] at hcT
      clear hcn
      go_wp2_with fail
      refine (iCostOf_c _ _ t _ _ R hl8).mono ?_
      rw [hlx'.out]
      rintro e w11 ⟨rfl, b⟩
      replace H := chain H b (Nat.le_refl _)
      replace R := R.at_world b
      clear b
      go_wp2_with fail
      refine (iCostOf_c _ _ t _ _ R hl8).mono ?_
      rw [hcn'.out]
      rintro e w12 ⟨rfl, b⟩
      replace H := chain H b (Nat.le_refl _)
      replace R := R.at_world b
      clear b
      by_cases hnT : n = T
      · have hnb : (n == T) = true := beq_iff_eq.2 hnT
        clear n3 hnT
        go_wp2_with fail
        refine (iCostOf_c _ _ t _ _ R hl8).mono ?_
        rw [hc0.out]
        rintro e w14 ⟨rfl, b⟩
        replace H := chain H b (Nat.le_refl _)
        replace R := R.at_world b
        clear b
        go_wp2_with fail
        refine (iCostOf_c _ _ t _ _ R hl8).mono ?_
        rw [hcT.out]
        rintro e w15 ⟨rfl, b⟩
        replace H := chain H b (Nat.le_refl _)
        replace R := R.at_world b
        clear b
        go_wp2_with fail
        refine (iTariffOk_c _ _ t _ R hl8).mono ?_
        rw [ht'.out]
        rintro e w16 ⟨rfl, b⟩
        go_wp2
        go_ret
        exact ⟨rfl, chain H b (Nat.le_refl _)⟩
      · have hnb : (n == T) = false := beq_eq_false_iff_ne.2 hnT
        have hmc : m' * 3 < costZ t (n + 1) := by
          rcases n3 with e | e
          · exact absurd e hnT
          · exact e
        have hcb := (costZ_b t (n + 1)).2.1
        obtain ⟨cm, hcm⟩ : ∃ cm, costZ t (n + 1) = cm := ⟨_, rfl⟩
        rw [hcm] at hmc hcb
        have hcm' := Lib.hid hcm
        clear hcm n3 hnT
        go_wp2_with fail
        refine (iCostOf_c _ _ t _ _ R hl8).mono ?_
        rw [hcm'.out]
        rintro e w13 ⟨rfl, b⟩
        replace H := chain H b (Nat.le_refl _)
        replace R := R.at_world b
        clear b
        go_wp2_with fail
        refine (iCostOf_c _ _ t _ _ R hl8).mono ?_
        rw [hc0.out]
        rintro e w14 ⟨rfl, b⟩
        replace H := chain H b (Nat.le_refl _)
        replace R := R.at_world b
        clear b
        go_wp2_with fail
        refine (iCostOf_c _ _ t _ _ R hl8).mono ?_
        rw [hcT.out]
        rintro e w15 ⟨rfl, b⟩
        replace H := chain H b (Nat.le_refl _)
        replace R := R.at_world b
        clear b
        go_wp2_with fail
        refine (iTariffOk_c _ _ t _ R hl8).mono ?_
        rw [ht'.out]
        rintro e w16 ⟨rfl, b⟩
        go_wp2
        go_ret
        exact ⟨rfl, chain H b (Nat.le_refl _)⟩
  · have hd := Lib.hid (show decide ((1048576 : Int) < code.length) = true from decide_eq_true (by omega))
    go_enter Try.func8, Try.ntmps8
    go_wp2_with fail
    refine (big_c _ _ _ _).mono ?_
    rw [hd.out]
    rintro e w' ⟨rfl, rfl⟩
    go_wp2
    go_ret
    exact ⟨rfl, Below.refl _ _⟩
set_option maxRecDepth 100000 in
theorem FnTariffs_lifted (os : Os) (started : os.Started) (H : Type) (enc : TypeId × Value → H) :
    ReturnsInHanded {} Try.checked os 8 .any (Rows.fnTariffsSpec.pre6 enc Try.prog Try.f8 Rows.fnTariffsRow.domain false) (Rows.fnTariffsSpec.post enc Try.prog Try.f8 false true false false) := by
  refine returnsInHanded_of_change (C := Try.checked) own_ started (by kernel_rfl) Try.func8
    (ChangeSpec.witness6 (enc := enc) (C := Try.checked) false ⟨#[], #[.slice none 0 0], []⟩ 8 (by kernel_rfl) (by kernel_rfl) (by kernel_rfl) (by kernel_rfl)) ?_
  intro W base args ds gs before hval0 hW hcnd _
  have hval : ∀ (j : Nat) t v, Try.f8.params[j]? = some t → args[j]? = some v → Value.okWide Try.prog W .any base t v := hval0
  have hW' := hW
  obtain ⟨p, q, hA0, hV, rfl, hfz, hnd⟩ := hW
  have hA : DataW.TrodAll enc Try.prog W 0 (fun _ => true) true Try.f8.params.toList args.toList ds p := hA0
  rw [Try.params8] at hA hval
  obtain ⟨v0, vs0, d0, ds0, p0, q0, hargs, rfl, rfl, h0, r0⟩ := trodAll_cons hA
  obtain ⟨rfl, rfl, rfl⟩ := trodAll_nil r0
  obtain rfl : args = #[v0] := by cases args; simp_all
  obtain ⟨rfl, rfl⟩ := trodVars_none hV
  have k0 := h0
  have lt0 : ∀ x ∈ p0, x.block < W.heap.size := by obtain ⟨m, hm⟩ := k0; exact DataW.trod_lt m _ _ _ hm
  obtain ⟨s0, len0, cap0, rfl⟩ := okWide_slice Try.underlying33 (hval 0 33 v0 rfl rfl)
  obtain ⟨x0, rfl, m0, r_0⟩ : ∃ zs : List Int, len0 = zs.length ∧ zs.length ≤ maxLen ∧ RdB W W.heap.size s0 zs := by
    obtain ⟨fuel, hf⟩ := h0
    rcases open_ints Try.underlying33 Try.underlying5 (by kernel_rfl) hf with ⟨hcs, _⟩ | ⟨x, l, c, zs, hcs, _, hl, hm, hz, _, hcell, hwz⟩
    · simp [Value.cells] at hcs
      obtain ⟨rfl, rfl, rfl⟩ := hcs
      exact ⟨[], rfl, Nat.zero_le _, .inl rfl⟩
    · simp [Value.cells] at hcs
      obtain ⟨rfl, rfl, rfl⟩ := hcs
      have hlz : len0 ≤ zs.length := by simp only [if_true] at hz; omega
      exact ⟨zs.take len0, by simp; omega, by simp; omega, RdB.of_open hcell hwz⟩
  clear hA0 hval0
  refine (FnTariffs_walk s0 cap0 x0 W m0 r_0).mono fun e W' ⟨he, bel⟩ => ?_
  subst he
  exact ⟨_, rfl, _, _, _, [], _, [], hW', trodAll_mk1 (shut_bool Try.underlying4 _), (trodAll_cons_mk (Below.trod laidOut_ (by kernel_rfl) (of_decide_eq_true (by kernel_rfl)) k0 bel lt0) trodAll_mk0), rfl, bel.frame _, fun h => by cases h⟩

theorem FnTariffs_over : Rows.fnTariffsRow.holds Try.pinned (OpenSpec.ofChange Rows.fnTariffsSpec) :=
  OpenClaim.holds_of_wide 8 Try.f8 rfl rfl rfl rfl rfl rfl rfl ⟨rfl, rfl, rfl, rfl, rfl⟩ rfl rfl rfl rfl rfl (by kernel_rfl) Try.func8 (by kernel_rfl)
    (of_decide_eq_true (by kernel_rfl)) (by unfold Func.isWrapper; first | (rw [if_pos (by decide +kernel)]; kernel_rfl) | (rw [if_neg (by decide +kernel)]; exact ⟨rfl, rfl⟩))
    (fun os started H enc _ => FnTariffs_lifted os started H enc)

theorem FnTariffs_proved : Rows.FnTariffsSaid := FnTariffs_over
end Go.Proofs.Ytfdeeaeenkjehaa
