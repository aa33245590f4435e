/- CostOf, both. -/
import Derived.Test.YtfdeeaeenkjehaaOk
namespace Go.Proofs.Ytfdeeaeenkjehaa
open Go.ChangeShapes Go.WideShapes Go.ChangeAt Go.RowKit
set_option linter.unusedVariables false

theorem cost_no {t : Tf} {l : Int} (h : tariffB t = false ∨ inB l 0 (topF t) = false) : costZ t l = -1 := by
  unfold costZ
  rcases h with h | h <;> simp [h]
theorem cost_yes {t : Tf} {l : Int} (h : tariffB t = true) (h2 : inB l 0 (topF t) = true) : costZ t l = costP t l t.length := by
  unfold costZ
  rw [h, h2]
  rfl
theorem costP_succ (t : Tf) (l : Int) (k : Nat) : costP t l (k + 1) = costP t l k + term t l k := rfl
theorem term_lo {t : Tf} {l bs x y : Int} {k : Nat} (hb : base t k = bs) (hx : up t k = x) (hy : pr t k = y) (h : ¬ bs < l) : term t l k = 0 := by
  unfold term
  rw [hb, hx, hy, show max 0 (min l x - bs) = 0 by omega, Int.zero_mul]
theorem term_up {t : Tf} {l bs x y : Int} {k : Nat} (hb : base t k = bs) (hx : up t k = x) (hy : pr t k = y) (h : bs < l) (h1 : x < l) (h2 : bs < x) : term t l k = (x - bs) * y := by
  unfold term
  rw [hb, hx, hy, show max 0 (min l x - bs) = x - bs by omega]
theorem term_mid {t : Tf} {l bs x y : Int} {k : Nat} (hb : base t k = bs) (hx : up t k = x) (hy : pr t k = y) (h : bs < l) (h1 : ¬ x < l) : term t l k = (l - bs) * y := by
  unfold term
  rw [hb, hx, hy, show max 0 (min l x - bs) = l - bs by omega]
theorem flat2_last {t : Tf} (h : 0 < t.length) : t[t.length - 1]? = some (topF t, pr t (t.length - 1)) := by
  have e : t[t.length - 1]? = some (t[t.length - 1]'(by omega)) := List.getElem?_eq_getElem (by omega)
  rw [e]
  unfold topF
  rw [up_at e, pr_at e]
  rfl
theorem RdI.lastC {w : World} {B : Nat} {A : Option Addr} {t : Tf} (h : RdI w B A (flat2 t)) (h0 : 0 < t.length) : ∃ g off, A = some ⟨g, off, none⟩ ∧ g < B ∧ w.cell? ⟨g, off + (t.length - 1) * 2, none⟩ = some (.int .i64 (topF t)) := by
  obtain ⟨g, off, x, y, e, hg, hc0, _, hx⟩ := h.at2 (show t.length - 1 < t.length by omega)
  have := flat2_last h0
  rw [hx.out] at this
  injection this with this
  injection this with this
  rw [this] at hc0
  exact ⟨g, off, e, hg, hc0⟩

theorem i64_add (a b : Int) (h : -9000000000000000000 ≤ a + b ∧ a + b ≤ 9000000000000000000) : IntKind.i64.wrap (a + b) = a + b := IntWalk.i64_in _ (by omega)
theorem i64_sub (a b : Int) (h : -9000000000000000000 ≤ a - b ∧ a - b ≤ 9000000000000000000) : IntKind.i64.wrap (a - b) = a - b := IntWalk.i64_in _ (by omega)
theorem i64_mul (a b : Int) (h : -9000000000000000000 ≤ a * b ∧ a * b ≤ 9000000000000000000) : IntKind.i64.wrap (a * b) = a * b := IntWalk.i64_in _ (by omega)
/-- What a round adds. -/
theorem cost_round {t : Tf} (ht : tariffB t = true) (l : Int) (l0 : 0 ≤ l) {k : Nat} (hk : k < t.length) {x y : Int} (hx : t[k]? = some (x, y)) : (1 ≤ x ∧ x ≤ 100000) ∧ (0 ≤ y ∧ y ≤ 1000) ∧ (0 ≤ base t k ∧ base t k < x) ∧ (0 ≤ costP t l k ∧ costP t l k ≤ 1000000000) ∧ (0 ≤ costP t l (k + 1) ∧ costP t l (k + 1) ≤ 1000000000) ∧ base t (k + 1) = x := by
  obtain ⟨h1, h2, hf⟩ := tariff_b t ht
  have hb := base_b ht (k := k) (by omega)
  have hlt := base_lt ht hk
  have hf := hf k hk
  have c1 := costP_b ht l k (by omega)
  have c2 := costP_b ht l (k + 1) (by omega)
  rw [up_at hx] at hf hlt
  rw [pr_at hx] at hf
  exact ⟨hf.1, hf.2.1, ⟨hb.1, hlt⟩, by omega, by omega, up_at hx⟩
set_option maxHeartbeats 2000000 in
theorem iCostOf_c (A : Option Addr) (c : Nat) (t : Tf) (l : Int) (w : World) (hr : RdI w w.heap.size A (flat2 t)) (hl : t.length ≤ 1048576) :
    Calls Try.prog 15 #[.slice A t.length c, .int .i64 l] w fun e w' => e = .returned (.int .i64 (costZ t l)) ∧ Below w.heap.size w w' := by
  cases ht : tariffB t
  · rw [cost_no (.inl ht)]
    go_enter Try.func15, Try.ntmps15
    go_wp2_with fail
    refine (iTariffOk_c _ _ _ _ hr hl).mono ?_
    rintro e w1 ⟨rfl, b⟩
    go_wp2
    go_ret
    exact ⟨rfl, b⟩
  · have hl1 := (tariff_b t ht).1
    have hl2 := (tariff_b t ht).2.1
    have htop := top_b ht
    obtain ⟨htop0, htop1⟩ := htop
    cases hin : inB l 0 (topF t)
    · rw [cost_no (.inr hin)]
      go_enter Try.func15, Try.ntmps15
      go_wp2_with fail
      refine (iTariffOk_c _ _ _ _ hr hl).mono ?_
      rintro e w1 ⟨rfl, b⟩
      obtain ⟨g, off, rfl, hg, hc⟩ := (hr.below b (Nat.le_refl _)).lastC hl1
      go_wp2_with fail
      refine (within_c _ _ _ _).mono ?_
      rintro e w' ⟨rfl, rfl⟩
      go_wp2
      go_ret
      exact ⟨rfl, b⟩
    · rw [cost_yes ht hin]
      have l0 := ((inB_iff _ _ _).1 hin).1
      have l1 := ((inB_iff _ _ _).1 hin).2
      have ht' := Lib.hid ht
      go_enter Try.func15, Try.ntmps15
      go_wp2_with fail
      refine (iTariffOk_c _ _ _ _ hr hl).mono ?_
      rintro e w1 ⟨rfl, b⟩
      obtain ⟨g, off, rfl, hg, hc⟩ := (hr.below b (Nat.le_refl _)).lastC hl1
      go_wp2_with fail
      refine (within_c _ _ _ _).mono ?_
      rintro e w' ⟨rfl, rfl⟩
      go_wp2
      clear hc hin ht
      go_loopw [5, 6, 26] (fun cst bf i wr => ∃ k : Nat, k ≤ t.length ∧ i = .int .i64 k ∧ cst = .int .i64 (costP t l k) ∧ bf = .int .i64 (base t k) ∧ Below w.heap.size w wr) (fun _ _ i _ => t.length - (intOf i).toNat)
      case atStart => exact ⟨0, Nat.zero_le _, rfl, rfl, rfl, b⟩
      case round =>
        obtain ⟨k, hk, rfl, rfl, rfl, H⟩ := hrel
        by_cases hlt : k < t.length
        · obtain ⟨x, y, -, hc0, hc1, hx⟩ := (hr.below H (Nat.le_refl _)).at2C hlt
          obtain ⟨⟨x0, x1⟩, ⟨y0, y1⟩, ⟨b0, b1⟩, ⟨s0, s1⟩, ⟨s2, s3⟩, hbn⟩ := cost_round ht'.out l l0 hlt hx.out
          have hbn := Lib.hid hbn
          have hsc := Lib.hid (costP_succ t l k)
          by_cases hbl : base t k < l
          · by_cases hxl : x < l
            · have hterm := Lib.hid (term_up rfl (up_at hx.out) (pr_at hx.out) hbl hxl b1)
              have hprod := mul_b (x - base t k) y (by omega) (by omega) y0 y1
              obtain ⟨q0, q1⟩ := hprod
              generalize base t k = bs at *
              generalize costP t l k = cs at *
              go_wp2
              go_roundw
              case rel => exact ⟨k + 1, by omega, by go_num, by rw [hsc.out, hterm.out], by rw [hbn.out], H.alloc H.size _⟩
              case measure => simp [intOf]; omega
            · have hterm := Lib.hid (term_mid rfl (up_at hx.out) (pr_at hx.out) hbl hxl)
              have hprod := mul_b (l - base t k) y (by omega) (by omega) y0 y1
              obtain ⟨q0, q1⟩ := hprod
              generalize base t k = bs at *
              generalize costP t l k = cs at *
              go_wp2
              go_roundw
              case rel => exact ⟨k + 1, by omega, by go_num, by rw [hsc.out, hterm.out], by rw [hbn.out], H.alloc H.size _⟩
              case measure => simp [intOf]; omega
          · have hterm := Lib.hid (term_lo rfl (up_at hx.out) (pr_at hx.out) hbl)
            generalize base t k = bs at *
            generalize hcs : costP t l k = cs at *
            have hcs := Lib.hid hcs
            go_wp2
            go_roundw
            case rel => exact ⟨k + 1, by omega, by go_num, by rw [hsc.out, hterm.out]; go_num, by rw [hbn.out], H.alloc H.size _⟩
            case measure => simp [intOf]; omega
        · obtain rfl : k = t.length := by omega
          go_wp2
          go_ret
          exact ⟨rfl, H⟩

set_option maxHeartbeats 2000000 in
theorem sCostOf_c (A : Option Addr) (c : Nat) (t : Tf) (l : Int) (w : World) (hr : RdI w w.heap.size A (flat2 t)) (hl : t.length ≤ 1048576) :
    Calls Try.prog 14 #[.slice A t.length c, .int .i64 l] w fun e w' => e = .returned (.int .i64 (costZ t l)) ∧ Below w.heap.size w w' := by
  cases ht : tariffB t
  · rw [cost_no (.inl ht)]
    go_enter Try.func14, Try.ntmps14
    go_wp2_with fail
    refine (sTariffOk_c _ _ _ _ hr hl).mono ?_
    rintro e w1 ⟨rfl, b⟩
    go_wp2
    go_ret
    exact ⟨rfl, b⟩
  · have hl1 := (tariff_b t ht).1
    have hl2 := (tariff_b t ht).2.1
    have htop := top_b ht
    obtain ⟨htop0, htop1⟩ := htop
    cases hin : inB l 0 (topF t)
    · rw [cost_no (.inr hin)]
      go_enter Try.func14, Try.ntmps14
      go_wp2_with fail
      refine (sTariffOk_c _ _ _ _ hr hl).mono ?_
      rintro e w1 ⟨rfl, b⟩
      obtain ⟨g, off, rfl, hg, hc⟩ := (hr.below b (Nat.le_refl _)).lastC hl1
      go_wp2_with fail
      refine (l01In_c _ _ _ _).mono ?_
      rintro e w' ⟨rfl, rfl⟩
      go_wp2
      go_ret
      exact ⟨rfl, b⟩
    · rw [cost_yes ht hin]
      have l0 := ((inB_iff _ _ _).1 hin).1
      have l1 := ((inB_iff _ _ _).1 hin).2
      have ht' := Lib.hid ht
      go_enter Try.func14, Try.ntmps14
      go_wp2_with fail
      refine (sTariffOk_c _ _ _ _ hr hl).mono ?_
      rintro e w1 ⟨rfl, b⟩
      obtain ⟨g, off, rfl, hg, hc⟩ := (hr.below b (Nat.le_refl _)).lastC hl1
      go_wp2_with fail
      refine (l01In_c _ _ _ _).mono ?_
      rintro e w' ⟨rfl, rfl⟩
      go_wp2
      clear hc hin ht
      go_loopw [5, 6, 7] (fun cst bf i wr => ∃ k : Nat, k ≤ t.length ∧ i = .int .i64 k ∧ cst = .int .i64 (costP t l k) ∧ bf = .int .i64 (base t k) ∧ Below w.heap.size w wr) (fun _ _ i _ => t.length - (intOf i).toNat)
      case atStart => exact ⟨0, Nat.zero_le _, rfl, rfl, rfl, b⟩
      case round =>
        obtain ⟨k, hk, rfl, rfl, rfl, H⟩ := hrel
        by_cases hlt : k < t.length
        · obtain ⟨x, y, -, hc0, hc1, hx⟩ := (hr.below H (Nat.le_refl _)).at2C hlt
          obtain ⟨⟨x0, x1⟩, ⟨y0, y1⟩, ⟨b0, b1⟩, ⟨s0, s1⟩, ⟨s2, s3⟩, hbn⟩ := cost_round ht'.out l l0 hlt hx.out
          have hbn := Lib.hid hbn
          have hsc := Lib.hid (costP_succ t l k)
          by_cases hbl : base t k < l
          · by_cases hxl : x < l
            · have hterm := Lib.hid (term_up rfl (up_at hx.out) (pr_at hx.out) hbl hxl b1)
              have hprod := mul_b (x - base t k) y (by omega) (by omega) y0 y1
              obtain ⟨q0, q1⟩ := hprod
              have hv : 0 < x - base t k := by omega
              have e1 : IntKind.i64.wrap (x - base t k) = x - base t k := i64_sub _ _ (by omega)
              have e2 : IntKind.i64.wrap ((x - base t k) * y) = (x - base t k) * y := i64_mul _ _ (by omega)
              have e3 : IntKind.i64.wrap (costP t l k + (x - base t k) * y) = costP t l k + (x - base t k) * y := i64_add _ _ (by rw [hsc.out, hterm.out] at s2 s3; omega)
              generalize base t k = bs at *
              generalize costP t l k = cs at *
              go_wp2
              go_quiet (fail)
              go_wp2
              go_roundw
              case rel => exact ⟨k + 1, by omega, by go_num, by rw [hsc.out, hterm.out], by rw [hbn.out], below_drewN H _⟩
              case measure => simp [intOf]; omega
            · have hterm := Lib.hid (term_mid rfl (up_at hx.out) (pr_at hx.out) hbl hxl)
              have hprod := mul_b (l - base t k) y (by omega) (by omega) y0 y1
              obtain ⟨q0, q1⟩ := hprod
              have hv : 0 < l - base t k := by omega
              have e1 : IntKind.i64.wrap (l - base t k) = l - base t k := i64_sub _ _ (by omega)
              have e2 : IntKind.i64.wrap ((l - base t k) * y) = (l - base t k) * y := i64_mul _ _ (by omega)
              have e3 : IntKind.i64.wrap (costP t l k + (l - base t k) * y) = costP t l k + (l - base t k) * y := i64_add _ _ (by rw [hsc.out, hterm.out] at s2 s3; omega)
              generalize base t k = bs at *
              generalize costP t l k = cs at *
              go_wp2
              go_quiet (fail)
              go_wp2
              go_roundw
              case rel => exact ⟨k + 1, by omega, by go_num, by rw [hsc.out, hterm.out], by rw [hbn.out], below_drewN H _⟩
              case measure => simp [intOf]; omega
          · have hterm := Lib.hid (term_lo rfl (up_at hx.out) (pr_at hx.out) hbl)
            have hv : ¬ 0 < l - base t k := by omega
            have hxl : ¬ x < l := by omega
            have e1 : IntKind.i64.wrap (l - base t k) = l - base t k := i64_sub _ _ (by omega)
            have e2 : IntKind.i64.wrap 0 = 0 := rfl
            have e3 : IntKind.i64.wrap (costP t l k) = costP t l k := IntWalk.i64_in _ (by omega)
            generalize base t k = bs at *
            generalize costP t l k = cs at *
            go_wp2
            go_quiet (fail)
            go_wp2
            go_roundw
            case rel => exact ⟨k + 1, by omega, by go_num, by rw [hsc.out, hterm.out]; go_num, by rw [hbn.out], below_drewN H _⟩
            case measure => simp [intOf]; omega
        · obtain rfl : k = t.length := by omega
          go_wp2
          go_ret
          exact ⟨rfl, H⟩
end Go.Proofs.Ytfdeeaeenkjehaa
