/- OffensesOk, both. -/
import Derived.Test.YtclbjpknmcjkmaaPlain
import Derived.Test.YtclbjpknmcjkmaaS3
namespace Go.Proofs.Ytclbjpknmcjkmaa
open Go.ChangeShapes Go.WideShapes Go.ChangeAt Go.RowKit
set_option linter.unusedVariables false

theorem off_long {t : Of} (h : ¬ t.length ≤ 40) : offB t = false := by unfold offB; rw [decide_eq_false h]; rfl
theorem off_short {t : Of} (h : t.length ≤ 40) : offB t = allAt (offAt t) t.length := by unfold offB; rw [decide_eq_true h]; rfl
theorem off_bad {t : Of} (h : allAt (offAt t) t.length = false) : offB t = false := by unfold offB; rw [h, Bool.and_false]
theorem off_all {t : Of} (h : allAt (offAt t) t.length = true) : offB t = decide ((t.length : Int) ≤ 40) := by unfold offB; rw [h, Bool.and_true]; simp; omega
theorem offAt_eq {t : Of} {k : Nat} {x y z : Int} (h : t[k]? = some (x, y, z)) : offAt t k = (inB x 1 999 && inB y 0 1000 && inB z 1 10000 && (k == 0 || decide (dy t (k - 1) ≤ y))) := by
  unfold offAt
  rw [pe_at h, dy_at h, li_at h]

set_option maxHeartbeats 4000000 in
theorem iOk_c (A : Option Addr) (c : Nat) (t : Of) (w : World) (hr : RdI w w.heap.size A (flat3 t)) (hl : t.length ≤ 1048576) :
    Calls Try.prog 27 #[.slice A t.length c] w fun e w' => e = .returned (.bool (offB t)) ∧ Below w.heap.size w w' := by
  by_cases h40 : t.length ≤ 40
  · have h40' : ¬ (40 : Int) < (t.length : Int) := by omega
    go_enter Try.func27, Try.ntmps27
    go_wp2
    go_loopw [10] (fun i wr => ∃ k : Nat, k ≤ t.length ∧ i = .int .i64 k ∧ Below w.heap.size w wr ∧ Hid (AllTo (offAt t) k)) (fun i _ => t.length - (intOf i).toNat)
    case atStart => exact ⟨0, Nat.zero_le _, rfl, Below.refl _ _, AllTo.zero _⟩
    case round =>
      obtain ⟨k, hk, rfl, H, hall⟩ := hrel
      by_cases hlt : k < t.length
      · obtain ⟨g, off, x, y, z, rfl, hg, hc0, hc1, hc2, hx⟩ := (hr.below H (Nat.le_refl _)).at3 hlt
        have hgw : g < wr.heap.size := Nat.lt_of_lt_of_le hg H.size
        have hq := Lib.hid (offAt_eq hx.out)
        cases h1 : inB x 1 999
        · have hbad := Lib.hid (show offAt t k = false by rw [hq.out, h1]; rfl)
          go_wp2
          go_quiet ((go_at_call 31; refine Calls.mono (within_c _ _ _ _) ?_; rintro e w' ⟨rfl, rfl⟩; exact ⟨rfl, _, rfl⟩))
          go_wp2
          go_ret
          exact ⟨by rw [off_bad (allAt_not hlt hbad.out)]; rfl, below_drewN (H.alloc H.size _) _⟩
        · cases h2 : inB y 0 1000
          · have hbad := Lib.hid (show offAt t k = false by rw [hq.out, h1, h2]; rfl)
            go_wp2
            go_quiet ((go_at_call 31; refine Calls.mono (within_c _ _ _ _) ?_; rintro e w' ⟨rfl, rfl⟩; exact ⟨rfl, _, rfl⟩))
            go_wp2
            go_ret
            exact ⟨by rw [off_bad (allAt_not hlt hbad.out)]; rfl, below_drewN (H.alloc H.size _) _⟩
          · by_cases hk0 : k = 0
            · subst hk0
              simp only [Nat.zero_mul, Nat.add_zero] at hc0 hc1 hc2
              cases h3 : inB z 1 10000
              · have hbad := Lib.hid (show offAt t 0 = false by rw [hq.out, h1, h2, h3]; rfl)
                go_wp2
                go_quiet ((go_at_call 31; refine Calls.mono (within_c _ _ _ _) ?_; rintro e w' ⟨rfl, rfl⟩; exact ⟨rfl, _, rfl⟩))
                go_wp2
                go_ret
                exact ⟨by rw [off_bad (allAt_not hlt hbad.out)]; rfl, below_drewN (H.alloc H.size _) _⟩
              · have hgood := Lib.hid (show offAt t 0 = true by rw [hq.out, h1, h2, h3]; rfl)
                go_wp2
                go_quiet ((go_at_call 31; refine Calls.mono (within_c _ _ _ _) ?_; rintro e w' ⟨rfl, rfl⟩; exact ⟨rfl, _, rfl⟩))
                go_wp2
                go_roundw
                case rel => exact ⟨0 + 1, by omega, by go_num, below_drewN (H.alloc H.size _) _, hall.out.succ hgood.out⟩
                case measure => simp [intOf]; omega
            · obtain ⟨m, rfl⟩ : ∃ m, k = m + 1 := ⟨k - 1, by omega⟩
              clear hk0
              have hwm : IntKind.i64.wrap (m : Int) = (m : Int) := IntWalk.i64_in _ (by omega)
              have hml : m < t.length := by omega
              have hlt1 : (m : Int) + 1 < (t.length : Int) := by omega
              have hlt0 : (0 : Int) ≤ (m : Int) + 1 := by omega
              obtain ⟨x0, y0, z0, -, hd0, hd1, hd2, hx0⟩ := (hr.below H (Nat.le_refl _)).at3C (show m < t.length by omega)
              have hq' := Lib.hid (show offAt t (m + 1) = (inB x 1 999 && inB y 0 1000 && inB z 1 10000 && decide (y0 ≤ y)) by rw [hq.out, Nat.add_sub_cancel, dy_at hx0.out]; rfl)
              clear hq hd0 hd2
              cases h3 : inB z 1 10000
              · have hbad := Lib.hid (show offAt t (m + 1) = false by rw [hq'.out, h1, h2, h3]; rfl)
                by_cases h4 : y < y0
                · go_wp2
                  go_quiet ((go_at_call 31; refine Calls.mono (within_c _ _ _ _) ?_; rintro e w' ⟨rfl, rfl⟩; exact ⟨rfl, _, rfl⟩))
                  go_wp2
                  go_ret
                  exact ⟨by rw [off_bad (allAt_not hlt hbad.out)]; rfl, below_drewN (H.alloc H.size _) _⟩
                · have h4' : y0 ≤ y := by omega
                  clear h4
                  go_wp2
                  go_quiet ((go_at_call 31; refine Calls.mono (within_c _ _ _ _) ?_; rintro e w' ⟨rfl, rfl⟩; exact ⟨rfl, _, rfl⟩))
                  go_wp2
                  go_ret
                  exact ⟨by rw [off_bad (allAt_not hlt hbad.out)]; rfl, below_drewN (H.alloc H.size _) _⟩
              · by_cases h4 : y < y0
                · have hbad := Lib.hid (show offAt t (m + 1) = false by rw [hq'.out, h1, h2, h3, decide_eq_false (show ¬ y0 ≤ y by omega)]; rfl)
                  go_wp2
                  go_quiet ((go_at_call 31; refine Calls.mono (within_c _ _ _ _) ?_; rintro e w' ⟨rfl, rfl⟩; exact ⟨rfl, _, rfl⟩))
                  go_wp2
                  go_ret
                  exact ⟨by rw [off_bad (allAt_not hlt hbad.out)]; rfl, below_drewN (H.alloc H.size _) _⟩
                · have h4' : y0 ≤ y := by omega
                  clear h4
                  have hgood := Lib.hid (show offAt t (m + 1) = true by rw [hq'.out, h1, h2, h3, decide_eq_true h4']; rfl)
                  go_wp2
                  go_quiet ((go_at_call 31; refine Calls.mono (within_c _ _ _ _) ?_; rintro e w' ⟨rfl, rfl⟩; exact ⟨rfl, _, rfl⟩))
                  go_wp2
                  go_roundw
                  case rel => exact ⟨m + 1 + 1, by omega, by go_num, below_drewN (H.alloc H.size _) _, hall.out.succ hgood.out⟩
                  case measure => simp [intOf]; omega
      · have hfin := Lib.hid (off_all (hall.out.all hk hlt))
        have hdec := Lib.hid (decide_eq_true (show (t.length : Int) ≤ 40 by omega))
        go_wp2
        go_ret
        exact ⟨by rw [hfin.out, hdec.out]; rfl, H⟩
  · have h40' : (40 : Int) < (t.length : Int) := by omega
    rw [off_long h40]
    go_enter Try.func27, Try.ntmps27
    go_wp2
    go_ret
    exact ⟨rfl, Below.refl _ _⟩
set_option maxHeartbeats 4000000 in
theorem sOk_c (A : Option Addr) (c : Nat) (t : Of) (w : World) (hr : RdI w w.heap.size A (flat3 t)) (hl : t.length ≤ 1048576) :
    Calls Try.prog 28 #[.slice A t.length c] w fun e w' => e = .returned (.bool (offB t)) ∧ Below w.heap.size w w' := by
  go_enter Try.func28, Try.ntmps28
  go_wp2
  go_loopw [3] (fun i wr => ∃ k : Nat, k ≤ t.length ∧ i = .int .i64 k ∧ Below w.heap.size w wr ∧ Hid (AllTo (offAt t) k)) (fun i _ => t.length - (intOf i).toNat)
  case atStart => exact ⟨0, Nat.zero_le _, rfl, Below.refl _ _, AllTo.zero _⟩
  case round =>
    obtain ⟨k, hk, rfl, H, hall⟩ := hrel
    by_cases hlt : k < t.length
    · obtain ⟨g, off, x, y, z, rfl, hg, hc0, hc1, hc2, hx⟩ := (hr.below H (Nat.le_refl _)).at3 hlt
      have hgw : g < wr.heap.size := Nat.lt_of_lt_of_le hg H.size
      have hq := Lib.hid (offAt_eq hx.out)
      cases h1 : inB x 1 999
      · have hbad := Lib.hid (show offAt t k = false by rw [hq.out, h1]; rfl)
        go_wp2
        go_quiet ((go_at_call 29; refine Calls.mono (l01In_c _ _ _ _) ?_; rintro e w' ⟨rfl, rfl⟩; exact ⟨rfl, _, rfl⟩))
        go_wp2
        go_ret
        exact ⟨by rw [off_bad (allAt_not hlt hbad.out)]; rfl, below_drewN (H.alloc H.size _) _⟩
      · cases h2 : inB y 0 1000
        · have hbad := Lib.hid (show offAt t k = false by rw [hq.out, h1, h2]; rfl)
          go_wp2
          go_quiet ((go_at_call 29; refine Calls.mono (l01In_c _ _ _ _) ?_; rintro e w' ⟨rfl, rfl⟩; exact ⟨rfl, _, rfl⟩))
          go_wp2
          go_ret
          exact ⟨by rw [off_bad (allAt_not hlt hbad.out)]; rfl, below_drewN (H.alloc H.size _) _⟩
        · by_cases hk0 : k = 0
          · subst hk0
            simp only [Nat.zero_mul, Nat.add_zero] at hc0 hc1 hc2
            cases h3 : inB z 1 10000
            · have hbad := Lib.hid (show offAt t 0 = false by rw [hq.out, h1, h2, h3]; rfl)
              go_wp2
              go_quiet ((go_at_call 29; refine Calls.mono (l01In_c _ _ _ _) ?_; rintro e w' ⟨rfl, rfl⟩; exact ⟨rfl, _, rfl⟩))
              go_wp2
              go_ret
              exact ⟨by rw [off_bad (allAt_not hlt hbad.out)]; rfl, below_drewN (H.alloc H.size _) _⟩
            · have hgood := Lib.hid (show offAt t 0 = true by rw [hq.out, h1, h2, h3]; rfl)
              go_wp2
              go_quiet ((go_at_call 29; refine Calls.mono (l01In_c _ _ _ _) ?_; rintro e w' ⟨rfl, rfl⟩; exact ⟨rfl, _, rfl⟩))
              go_wp2
              go_roundw
              case rel => exact ⟨0 + 1, by omega, by go_num, below_drewN (H.alloc H.size _) _, hall.out.succ hgood.out⟩
              case measure => simp [intOf]; omega
          · obtain ⟨m, rfl⟩ : ∃ m, k = m + 1 := ⟨k - 1, by omega⟩
            clear hk0
            have hwm : IntKind.i64.wrap (m : Int) = (m : Int) := IntWalk.i64_in _ (by omega)
            have hml : m < t.length := by omega
            have hlt1 : (m : Int) + 1 < (t.length : Int) := by omega
            have hlt0 : (0 : Int) ≤ (m : Int) + 1 := by omega
            obtain ⟨x0, y0, z0, -, hd0, hd1, hd2, hx0⟩ := (hr.below H (Nat.le_refl _)).at3C (show m < t.length by omega)
            have hq' := Lib.hid (show offAt t (m + 1) = (inB x 1 999 && inB y 0 1000 && inB z 1 10000 && decide (y0 ≤ y)) by rw [hq.out, Nat.add_sub_cancel, dy_at hx0.out]; rfl)
            clear hq hd0 hd2
            cases h3 : inB z 1 10000
            · have hbad := Lib.hid (show offAt t (m + 1) = false by rw [hq'.out, h1, h2, h3]; rfl)
              by_cases h4 : y < y0
              · go_wp2
                go_quiet ((go_at_call 29; refine Calls.mono (l01In_c _ _ _ _) ?_; rintro e w' ⟨rfl, rfl⟩; exact ⟨rfl, _, rfl⟩))
                go_wp2
                go_ret
                exact ⟨by rw [off_bad (allAt_not hlt hbad.out)]; rfl, below_drewN (H.alloc H.size _) _⟩
              · have h4' : y0 ≤ y := by omega
                clear h4
                go_wp2
                go_quiet ((go_at_call 29; refine Calls.mono (l01In_c _ _ _ _) ?_; rintro e w' ⟨rfl, rfl⟩; exact ⟨rfl, _, rfl⟩))
                go_wp2
                go_ret
                exact ⟨by rw [off_bad (allAt_not hlt hbad.out)]; rfl, below_drewN (H.alloc H.size _) _⟩
            · by_cases h4 : y < y0
              · have hbad := Lib.hid (show offAt t (m + 1) = false by rw [hq'.out, h1, h2, h3, decide_eq_false (show ¬ y0 ≤ y by omega)]; rfl)
                go_wp2
                go_quiet ((go_at_call 29; refine Calls.mono (l01In_c _ _ _ _) ?_; rintro e w' ⟨rfl, rfl⟩; exact ⟨rfl, _, rfl⟩))
                go_wp2
                go_ret
                exact ⟨by rw [off_bad (allAt_not hlt hbad.out)]; rfl, below_drewN (H.alloc H.size _) _⟩
              · have h4' : y0 ≤ y := by omega
                clear h4
                have hgood := Lib.hid (show offAt t (m + 1) = true by rw [hq'.out, h1, h2, h3, decide_eq_true h4']; rfl)
                go_wp2
                go_quiet ((go_at_call 29; refine Calls.mono (l01In_c _ _ _ _) ?_; rintro e w' ⟨rfl, rfl⟩; exact ⟨rfl, _, rfl⟩))
                go_wp2
                go_roundw
                case rel => exact ⟨m + 1 + 1, by omega, by go_num, below_drewN (H.alloc H.size _) _, hall.out.succ hgood.out⟩
                case measure => simp [intOf]; omega
    · have hfin := Lib.hid (off_all (hall.out.all hk hlt))
      go_wp2
      go_ret
      exact ⟨by rw [hfin.out]; rfl, H⟩
end Go.Proofs.Ytclbjpknmcjkmaa
