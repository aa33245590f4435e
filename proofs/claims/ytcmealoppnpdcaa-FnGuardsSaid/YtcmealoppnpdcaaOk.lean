/- WatchesOk, both. -/
import Derived.Test.YtcmealoppnpdcaaPlain
import Derived.Test.YtcmealoppnpdcaaS3
namespace Go.Proofs.Ytcmealoppnpdcaa
open Go.ChangeShapes Go.WideShapes Go.ChangeAt Go.RowKit
set_option linter.unusedVariables false

theorem wat_long {t : Wf} (h : ¬ t.length ≤ 16) : watB t = false := by unfold watB; rw [decide_eq_false h]; rfl
theorem wat_bad {t : Wf} (h : allAt (watAt t) t.length = false) : watB t = false := by unfold watB; rw [h, Bool.and_false]
theorem wat_all {t : Wf} (h : allAt (watAt t) t.length = true) : watB t = decide ((t.length : Int) ≤ 16) := by unfold watB; rw [h, Bool.and_true]; simp; omega
theorem watAt_eq {t : Wf} {k : Nat} {x y z : Int} (h : t[k]? = some (x, y, z)) : watAt t k = (decide (0 ≤ x) && decide (x < y) && decide (y ≤ 48) && inB z 0 1000) := by
  unfold watAt
  rw [fr_at h, wt_at h, py_at h]
theorem wat_f {t : Wf} {k : Nat} {x y z : Int} (h : t[k]? = some (x, y, z)) (hb : x < 0 ∨ y ≤ x ∨ 48 < y ∨ inB z 0 1000 = false) : watAt t k = false := by
  cases he : watAt t k
  · rfl
  · rw [watAt_eq h] at he
    simp only [Bool.and_eq_true, decide_eq_true_eq] at he
    rcases hb with hb | hb | hb | hb
    · omega
    · omega
    · omega
    · rw [hb] at he; simp at he
theorem wat_t {t : Wf} {k : Nat} {x y z : Int} (h : t[k]? = some (x, y, z)) (h1 : 0 ≤ x) (h2 : x < y) (h3 : y ≤ 48) (h4 : inB z 0 1000 = true) : watAt t k = true := by
  rw [watAt_eq h, decide_eq_true h1, decide_eq_true h2, decide_eq_true h3, h4]
  rfl

set_option maxHeartbeats 4000000 in
theorem iOk_c (A : Option Addr) (c : Nat) (t : Wf) (w : World) (hr : RdI w w.heap.size A (flat3 t)) (hl : t.length ≤ 1048576) :
    Calls Try.prog 12 #[.slice A t.length c] w fun e w' => e = .returned (.bool (watB t)) ∧ Below w.heap.size w w' := by
  by_cases h40 : t.length ≤ 16
  · have h40' : ¬ (16 : Int) < (t.length : Int) := by omega
    go_enter Try.func12, Try.ntmps12
    go_wp2
    go_loopw [10] (fun i wr => ∃ k : Nat, k ≤ t.length ∧ i = .int .i64 k ∧ Below w.heap.size w wr ∧ Hid (AllTo (watAt t) k)) (fun i _ => t.length - (intOf i).toNat)
    case atStart => exact ⟨0, Nat.zero_le _, rfl, Below.refl _ _, AllTo.zero _⟩
    case round =>
      obtain ⟨k, hk, rfl, H, hall⟩ := hrel
      by_cases hlt : k < t.length
      · obtain ⟨g, off, x, y, z, rfl, hg, hc0, hc1, hc2, hx⟩ := (hr.below H (Nat.le_refl _)).at3 hlt
        by_cases h1 : x < 0
        · have hbad := Lib.hid (wat_f hx.out (.inl h1))
          go_wp2_with (go_at_call 31; refine (within_c _ _ _ _).mono ?_; rintro e w' ⟨rfl, rfl⟩)
          go_ret
          exact ⟨by rw [wat_bad (allAt_not hlt hbad.out)]; rfl, H.alloc H.size _⟩
        · by_cases h2 : y ≤ x
          · have hbad := Lib.hid (wat_f hx.out (.inr (.inl h2)))
            go_wp2_with (go_at_call 31; refine (within_c _ _ _ _).mono ?_; rintro e w' ⟨rfl, rfl⟩)
            go_ret
            exact ⟨by rw [wat_bad (allAt_not hlt hbad.out)]; rfl, H.alloc H.size _⟩
          · by_cases h3 : 48 < y
            · have hbad := Lib.hid (wat_f hx.out (.inr (.inr (.inl h3))))
              go_wp2_with (go_at_call 31; refine (within_c _ _ _ _).mono ?_; rintro e w' ⟨rfl, rfl⟩)
              go_ret
              exact ⟨by rw [wat_bad (allAt_not hlt hbad.out)]; rfl, H.alloc H.size _⟩
            · cases h4 : inB z 0 1000
              · have hbad := Lib.hid (wat_f hx.out (.inr (.inr (.inr h4))))
                go_wp2_with (go_at_call 31; refine (within_c _ _ _ _).mono ?_; rintro e w' ⟨rfl, rfl⟩)
                go_ret
                exact ⟨by rw [wat_bad (allAt_not hlt hbad.out)]; rfl, H.alloc H.size _⟩
              · have hgood := Lib.hid (wat_t hx.out (by omega) (by omega) (by omega) h4)
                go_wp2_with (go_at_call 31; refine (within_c _ _ _ _).mono ?_; rintro e w' ⟨rfl, rfl⟩)
                go_roundw
                case rel => exact ⟨k + 1, by omega, by go_num, H.alloc H.size _, hall.out.succ hgood.out⟩
                case measure => simp [intOf]; omega
      · have hfin := Lib.hid (wat_all (hall.out.all hk hlt))
        have hdec := Lib.hid (decide_eq_true (show (t.length : Int) ≤ 16 by omega))
        go_wp2
        go_ret
        exact ⟨by rw [hfin.out, hdec.out]; rfl, H⟩
  · have h40' : (16 : Int) < (t.length : Int) := by omega
    rw [wat_long h40]
    go_enter Try.func12, Try.ntmps12
    go_wp2
    go_ret
    exact ⟨rfl, Below.refl _ _⟩
set_option maxHeartbeats 4000000 in
theorem sOk_c (A : Option Addr) (c : Nat) (t : Wf) (w : World) (hr : RdI w w.heap.size A (flat3 t)) (hl : t.length ≤ 1048576) :
    Calls Try.prog 10 #[.slice A t.length c] w fun e w' => e = .returned (.bool (watB t)) ∧ Below w.heap.size w w' := by
  go_enter Try.func10, Try.ntmps10
  go_wp2
  go_loopw [3] (fun i wr => ∃ k : Nat, k ≤ t.length ∧ i = .int .i64 k ∧ Below w.heap.size w wr ∧ Hid (AllTo (watAt t) k)) (fun i _ => t.length - (intOf i).toNat)
  case atStart => exact ⟨0, Nat.zero_le _, rfl, Below.refl _ _, AllTo.zero _⟩
  case round =>
    obtain ⟨k, hk, rfl, H, hall⟩ := hrel
    by_cases hlt : k < t.length
    · obtain ⟨g, off, x, y, z, rfl, hg, hc0, hc1, hc2, hx⟩ := (hr.below H (Nat.le_refl _)).at3 hlt
      cases h1 : inB y 1 48
      · have hbad := Lib.hid (show watAt t k = false by
          cases he : watAt t k
          · rfl
          · rw [watAt_eq hx.out] at he
            simp only [Bool.and_eq_true, decide_eq_true_eq] at he
            rw [← h1]; exact ((inB_iff _ _ _).2 ⟨by omega, by omega⟩).symm)
        go_wp2_with (go_at_call 29; refine (l01In_c _ _ _ _).mono ?_; rintro e w' ⟨rfl, rfl⟩)
        go_ret
        exact ⟨by rw [wat_bad (allAt_not hlt hbad.out)]; rfl, H.alloc H.size _⟩
      · obtain ⟨y0, y1⟩ := (inB_iff _ _ _).1 h1
        cases h2 : inB x 0 (y - 1)
        · have hbad := Lib.hid (wat_f hx.out (by have := (inB_not _ _ _).1 h2; omega))
          go_wp2_with (go_at_call 29; refine (l01In_c _ _ _ _).mono ?_; rintro e w' ⟨rfl, rfl⟩)
          go_ret
          exact ⟨by rw [wat_bad (allAt_not hlt hbad.out)]; rfl, H.alloc H.size _⟩
        · obtain ⟨x0, x1⟩ := (inB_iff _ _ _).1 h2
          cases h3 : inB z 0 1000
          · have hbad := Lib.hid (wat_f hx.out (.inr (.inr (.inr h3))))
            go_wp2_with (go_at_call 29; refine (l01In_c _ _ _ _).mono ?_; rintro e w' ⟨rfl, rfl⟩)
            go_ret
            exact ⟨by rw [wat_bad (allAt_not hlt hbad.out)]; rfl, H.alloc H.size _⟩
          · have hgood := Lib.hid (wat_t hx.out (by omega) (by omega) (by omega) h3)
            go_wp2_with (go_at_call 29; refine (l01In_c _ _ _ _).mono ?_; rintro e w' ⟨rfl, rfl⟩)
            go_roundw
            case rel => exact ⟨k + 1, by omega, by go_num, H.alloc H.size _, hall.out.succ hgood.out⟩
            case measure => simp [intOf]; omega
    · have hfin := Lib.hid (wat_all (hall.out.all hk hlt))
      go_wp2
      go_ret
      exact ⟨by rw [hfin.out]; rfl, H⟩
end Go.Proofs.Ytcmealoppnpdcaa
