/- TariffOk, both. -/
import Derived.Test.YtfdeeaeenkjehaaPlain
import Derived.Test.YtfdeeaeenkjehaaS2
namespace Go.Proofs.Ytfdeeaeenkjehaa
open Go.ChangeShapes Go.WideShapes Go.ChangeAt Go.RowKit
set_option linter.unusedVariables false

theorem tariff_not {t : Tf} (h : inB t.length 1 10 = false) : tariffB t = false := by unfold tariffB; rw [h]; rfl
theorem tariff_yes {t : Tf} (h : inB t.length 1 10 = true) : tariffB t = allAt (stepAt t) t.length := by unfold tariffB; rw [h]; rfl
theorem stepAt_eq {t : Tf} {k : Nat} {x y : Int} (h : t[k]? = some (x, y)) : stepAt t k = (inB x 1 100000 && inB y 0 1000 && (k == 0 || (decide (up t (k - 1) < x) && decide (pr t (k - 1) ≤ y)))) := by
  unfold stepAt
  rw [up_at h, pr_at h]

set_option maxHeartbeats 2000000 in
theorem iTariffOk_c (A : Option Addr) (c : Nat) (t : Tf) (w : World) (hr : RdI w w.heap.size A (flat2 t)) (hl : t.length ≤ 1048576) :
    Calls Try.prog 12 #[.slice A t.length c] w fun e w' => e = .returned (.bool (tariffB t)) ∧ Below w.heap.size w w' := by
  cases hin : inB t.length 1 10
  · rw [tariff_not hin]
    go_enter Try.func12, Try.ntmps12
    go_wp2_with fail
    refine (within_c _ _ _ _).mono ?_
    rintro e w' ⟨rfl, rfl⟩
    go_wp2
    go_ret
    exact ⟨rfl, Below.refl _ _⟩
  · have hf := Lib.hid (tariff_yes hin)
    go_enter Try.func12, Try.ntmps12
    go_wp2_with fail
    refine (within_c _ _ _ _).mono ?_
    rintro e w' ⟨rfl, rfl⟩
    go_wp2
    clear hin
    go_loopw [11] (fun i wr => ∃ k : Nat, k ≤ t.length ∧ i = .int .i64 k ∧ Below w.heap.size w wr ∧ Hid (AllTo (stepAt t) k)) (fun i _ => t.length - (intOf i).toNat)
    case atStart => exact ⟨0, Nat.zero_le _, rfl, Below.refl _ _, AllTo.zero _⟩
    case round =>
      obtain ⟨k, hk, rfl, H, hall⟩ := hrel
      by_cases hlt : k < t.length
      · obtain ⟨g, off, x, y, rfl, hg, hc0, hc1, hx⟩ := (hr.below H (Nat.le_refl _)).at2 hlt
        have hq := Lib.hid (stepAt_eq hx.out)
        cases h1 : inB x 1 100000
        · have hbad := Lib.hid (show stepAt t k = false by rw [hq.out, h1]; rfl)
          go_wp2
          go_quiet ((go_at_call 27; refine Calls.mono (within_c _ _ _ _) ?_; rintro e w' ⟨rfl, rfl⟩; exact ⟨rfl, _, rfl⟩))
          go_wp2
          go_ret
          exact ⟨by rw [hf.out, allAt_not hlt hbad.out]; rfl, below_drewN (H.alloc H.size _) _⟩
        · cases h2 : inB y 0 1000
          · have hbad := Lib.hid (show stepAt t k = false by rw [hq.out, h1, h2]; rfl)
            go_wp2
            go_quiet ((go_at_call 27; refine Calls.mono (within_c _ _ _ _) ?_; rintro e w' ⟨rfl, rfl⟩; exact ⟨rfl, _, rfl⟩))
            go_wp2
            go_ret
            exact ⟨by rw [hf.out, allAt_not hlt hbad.out]; rfl, below_drewN (H.alloc H.size _) _⟩
          · by_cases hk0 : k = 0
            · subst hk0
              have hgood := Lib.hid (show stepAt t 0 = true by rw [hq.out, h1, h2]; rfl)
              simp only [Nat.zero_mul, Nat.add_zero] at hc0 hc1
              go_wp2
              go_quiet ((go_at_call 27; refine Calls.mono (within_c _ _ _ _) ?_; rintro e w' ⟨rfl, rfl⟩; exact ⟨rfl, _, rfl⟩))
              go_wp2
              go_roundw
              case rel => exact ⟨0 + 1, by omega, by go_num, below_drewN (H.alloc H.size _) _, hall.out.succ hgood.out⟩
              case measure => simp [intOf]; omega
            · obtain ⟨m, rfl⟩ : ∃ m, k = m + 1 := ⟨k - 1, by omega⟩
              clear hk0
              have hwm : IntKind.i64.wrap (m : Int) = (m : Int) := IntWalk.i64_in _ (by omega)
              have hml : m < t.length := by omega
              have hgw : g < wr.heap.size := Nat.lt_of_lt_of_le hg H.size
              obtain ⟨x0, y0, -, hd0, hd1, hx0⟩ := (hr.below H (Nat.le_refl _)).at2C (show m < t.length by omega)
              have hq' := Lib.hid (show stepAt t (m + 1) = (inB x 1 100000 && inB y 0 1000 && (decide (x0 < x) && decide (y0 ≤ y))) by rw [hq.out, Nat.add_sub_cancel, up_at hx0.out, pr_at hx0.out]; rfl)
              clear hq
              by_cases h3 : x ≤ x0
              · have hbad := Lib.hid (show stepAt t (m + 1) = false by rw [hq'.out, h1, h2, decide_eq_false (show ¬ x0 < x by omega)]; rfl)
                go_wp2
                go_quiet ((go_at_call 27; refine Calls.mono (within_c _ _ _ _) ?_; rintro e w' ⟨rfl, rfl⟩; exact ⟨rfl, _, rfl⟩))
                go_wp2
                go_ret
                exact ⟨by rw [hf.out, allAt_not hlt hbad.out]; rfl, below_drewN (H.alloc H.size _) _⟩
              · have h3' : x0 < x := by omega
                clear h3
                by_cases h4 : y < y0
                · have hbad := Lib.hid (show stepAt t (m + 1) = false by rw [hq'.out, h1, h2, decide_eq_false (show ¬ y0 ≤ y by omega), Bool.and_false]; rfl)
                  go_wp2
                  go_quiet ((go_at_call 27; refine Calls.mono (within_c _ _ _ _) ?_; rintro e w' ⟨rfl, rfl⟩; exact ⟨rfl, _, rfl⟩))
                  go_wp2
                  go_ret
                  exact ⟨by rw [hf.out, allAt_not hlt hbad.out]; rfl, below_drewN (H.alloc H.size _) _⟩
                · have h4' : y0 ≤ y := by omega
                  clear h4
                  have hgood := Lib.hid (show stepAt t (m + 1) = true by rw [hq'.out, h1, h2, decide_eq_true h3', decide_eq_true h4']; rfl)
                  go_wp2
                  go_quiet ((go_at_call 27; refine Calls.mono (within_c _ _ _ _) ?_; rintro e w' ⟨rfl, rfl⟩; exact ⟨rfl, _, rfl⟩))
                  go_wp2
                  go_roundw
                  case rel => exact ⟨m + 1 + 1, by omega, by go_num, below_drewN (H.alloc H.size _) _, hall.out.succ hgood.out⟩
                  case measure => simp [intOf]; omega
      · go_wp2
        go_ret
        exact ⟨by rw [hf.out, hall.out.all hk hlt]; rfl, H⟩

theorem tariff_bad {t : Tf} (h : allAt (stepAt t) t.length = false) : tariffB t = false := by unfold tariffB; rw [h, Bool.and_false]
theorem tariff_all {t : Tf} (h : allAt (stepAt t) t.length = true) : tariffB t = inB t.length 1 10 := by unfold tariffB; rw [h, Bool.and_true]
set_option maxHeartbeats 2000000 in
theorem sTariffOk_c (A : Option Addr) (c : Nat) (t : Tf) (w : World) (hr : RdI w w.heap.size A (flat2 t)) (hl : t.length ≤ 1048576) :
    Calls Try.prog 10 #[.slice A t.length c] w fun e w' => e = .returned (.bool (tariffB t)) ∧ Below w.heap.size w w' := by
  go_enter Try.func10, Try.ntmps10
  go_wp2
  go_loopw [3] (fun i wr => ∃ k : Nat, k ≤ t.length ∧ i = .int .i64 k ∧ Below w.heap.size w wr ∧ Hid (AllTo (stepAt t) k)) (fun i _ => t.length - (intOf i).toNat)
  case atStart => exact ⟨0, Nat.zero_le _, rfl, Below.refl _ _, AllTo.zero _⟩
  case round =>
    obtain ⟨k, hk, rfl, H, hall⟩ := hrel
    by_cases hlt : k < t.length
    · obtain ⟨g, off, x, y, rfl, hg, hc0, hc1, hx⟩ := (hr.below H (Nat.le_refl _)).at2 hlt
      have hq := Lib.hid (stepAt_eq hx.out)
      cases h1 : inB x 1 100000
      · have hbad := Lib.hid (show stepAt t k = false by rw [hq.out, h1]; rfl)
        go_wp2_with (go_at_call 25; refine (l01In_c _ _ _ _).mono ?_; rintro e w' ⟨rfl, rfl⟩)
        go_ret
        exact ⟨by rw [tariff_bad (allAt_not hlt hbad.out)]; rfl, H⟩
      · cases h2 : inB y 0 1000
        · have hbad := Lib.hid (show stepAt t k = false by rw [hq.out, h1, h2]; rfl)
          go_wp2_with (go_at_call 25; refine (l01In_c _ _ _ _).mono ?_; rintro e w' ⟨rfl, rfl⟩)
          go_ret
          exact ⟨by rw [tariff_bad (allAt_not hlt hbad.out)]; rfl, H⟩
        · by_cases hk0 : k = 0
          · subst hk0
            have hgood := Lib.hid (show stepAt t 0 = true by rw [hq.out, h1, h2]; rfl)
            simp only [Nat.zero_mul, Nat.add_zero] at hc0 hc1
            go_wp2_with (go_at_call 25; refine (l01In_c _ _ _ _).mono ?_; rintro e w' ⟨rfl, rfl⟩)
            go_quiet (fail)
            go_wp2
            go_roundw
            case rel => exact ⟨0 + 1, by omega, by go_num, below_drewN H _, hall.out.succ hgood.out⟩
            case measure => simp [intOf]; omega
          · obtain ⟨m, rfl⟩ : ∃ m, k = m + 1 := ⟨k - 1, by omega⟩
            clear hk0
            have hwm : IntKind.i64.wrap (m : Int) = (m : Int) := IntWalk.i64_in _ (by omega)
            have hml : m < t.length := by omega
            have hlt1 : (m : Int) + 1 < (t.length : Int) := by omega
            have hlt0 : (0 : Int) ≤ (m : Int) + 1 := by omega
            obtain ⟨x0, y0, -, hd0, hd1, hx0⟩ := (hr.below H (Nat.le_refl _)).at2C (show m < t.length by omega)
            have hq' := Lib.hid (show stepAt t (m + 1) = (inB x 1 100000 && inB y 0 1000 && (decide (x0 < x) && decide (y0 ≤ y))) by rw [hq.out, Nat.add_sub_cancel, up_at hx0.out, pr_at hx0.out]; rfl)
            clear hq
            by_cases h3 : x ≤ x0
            · have hbad := Lib.hid (show stepAt t (m + 1) = false by rw [hq'.out, h1, h2, decide_eq_false (show ¬ x0 < x by omega)]; rfl)
              go_wp2_with (go_at_call 25; refine (l01In_c _ _ _ _).mono ?_; rintro e w' ⟨rfl, rfl⟩)
              go_quiet (fail)
              go_wp2
              go_ret
              exact ⟨by rw [tariff_bad (allAt_not hlt hbad.out)]; rfl, below_drewN H _⟩
            · have h3' : x0 < x := by omega
              clear h3
              by_cases h4 : y < y0
              · have hbad := Lib.hid (show stepAt t (m + 1) = false by rw [hq'.out, h1, h2, decide_eq_false (show ¬ y0 ≤ y by omega), Bool.and_false]; rfl)
                go_wp2_with (go_at_call 25; refine (l01In_c _ _ _ _).mono ?_; rintro e w' ⟨rfl, rfl⟩)
                go_quiet (fail)
                go_wp2
                go_ret
                exact ⟨by rw [tariff_bad (allAt_not hlt hbad.out)]; rfl, below_drewN H _⟩
              · have h4' : y0 ≤ y := by omega
                clear h4
                have hgood := Lib.hid (show stepAt t (m + 1) = true by rw [hq'.out, h1, h2, decide_eq_true h3', decide_eq_true h4']; rfl)
                go_wp2_with (go_at_call 25; refine (l01In_c _ _ _ _).mono ?_; rintro e w' ⟨rfl, rfl⟩)
                go_quiet (fail)
                go_wp2
                go_roundw
                case rel => exact ⟨m + 1 + 1, by omega, by go_num, below_drewN H _, hall.out.succ hgood.out⟩
                case measure => simp [intOf]; omega
    · have hta := Lib.hid (tariff_all (hall.out.all hk hlt))
      go_wp2_with (go_at_call 25; refine (l01In_c _ _ _ _).mono ?_; rintro e w' ⟨rfl, rfl⟩)
      go_ret
      exact ⟨by rw [hta.out]; rfl, H⟩
end Go.Proofs.Ytfdeeaeenkjehaa
