/- RightsOk, the reference's. -/
import Derived.Test.YtifljdnlaginfaaRights
namespace Go.Proofs.Ytifljdnlaginfaa
open Go.ChangeShapes Go.WideShapes Go.ChangeAt Go.RowKit
set_option linter.unusedVariables false

def rightS (t : Rf) (k : Nat) : Bool := inB (ow t k) 1 999 && decide (1 ≤ tp t k) && (k == 0 || decide (ow t (k - 1) < ow t k))
/-- Where the sum is known, all shares are fractions. -/
theorem sum_frac {t : Rf} : ∀ n, (sumK t n).isSome = true → ∀ k, k < n → fracB (tp t k) (bt t k) = true := by
  intro n
  induction n with
  | zero => intro _ k hk; omega
  | succ n ih =>
    intro h k hk
    rw [sumK_succ] at h
    rcases hs : sumK t n with _ | ⟨p, q⟩
    · rw [hs] at h; cases h
    · rw [hs] at h
      by_cases e : k = n
      · subst e
        cases hK : adB p q (tp t k) (bt t k)
        · have : addO (some (p, q)) (tp t k) (bt t k) = none := by show (if adB p q (tp t k) (bt t k) then _ else none) = none; rw [hK]; rfl
          rw [this] at h; cases h
        · unfold adB at hK
          simp only [Bool.and_eq_true] at hK
          exact hK.1.2
      · exact ih (by rw [hs]; rfl) k (by omega)
theorem rights_eq (t : Rf) (h1 : t.length ≤ 12) (hs : (sumR t).isSome = true) : allAt (rightAt t) t.length = allAt (rightS t) t.length := by
  rw [sumR_short h1] at hs
  have hf := sum_frac t.length hs
  rw [Bool.eq_iff_iff, allAt_iff, allAt_iff]
  have he : ∀ k, k < t.length → rightAt t k = rightS t k := by
    intro k hk
    have hb := frac_b (hf k hk)
    unfold rightAt rightS
    rw [hf k hk, Bool.true_and]
    have e : (!(tp t k == 0)) = decide (1 ≤ tp t k) := by
      rw [Bool.eq_iff_iff]
      simp
      omega
    rw [e, Bool.and_assoc, Bool.and_assoc, Bool.and_comm (decide (1 ≤ tp t k))]
  constructor
  · intro h j hj; rw [← he j hj]; exact h j hj
  · intro h j hj; rw [he j hj]; exact h j hj
def rightsS (t : Rf) : Bool := allAt (rightS t) t.length && (inB t.length 1 12 && oneO (sumR t))
theorem rightsS_eq (t : Rf) : rightsS t = rightsB t := by
  unfold rightsS rightsB
  cases h1 : inB t.length 1 12
  · rw [Bool.false_and, Bool.and_false]; rfl
  · cases h2 : oneO (sumR t)
    · rw [Bool.and_false, Bool.and_false, Bool.and_false]
    · have h3 : (sumR t).isSome = true := by unfold oneO at h2; simp only [Bool.and_eq_true] at h2; exact h2.1
      have := (inB_iff _ _ _).1 h1
      rw [rights_eq t (by omega) h3]
      simp

theorem rightS_at {t : Rf} {k : Nat} {x y z : Int} (h : t[k]? = some (x, y, z)) : rightS t k = (inB x 1 999 && decide (1 ≤ y) && (k == 0 || decide (ow t (k - 1) < x))) := by
  unfold rightS
  rw [ow_at h, tp_at h]
theorem rightsS_bad {t : Rf} (h : allAt (rightS t) t.length = false) : rightsB t = false := by rw [← rightsS_eq]; unfold rightsS; rw [h]; rfl
theorem rightsS_all {t : Rf} (h : allAt (rightS t) t.length = true) : rightsB t = (inB t.length 1 12 && oneO (sumR t)) := by rw [← rightsS_eq]; unfold rightsS; rw [h, Bool.true_and]
set_option maxHeartbeats 4000000 in
theorem sRights_c (A : Option Addr) (c : Nat) (t : Rf) (w : World) (hr : RdI w w.heap.size A (flat3 t)) (hl : t.length ≤ 1048576) :
    Calls Try.prog 36 #[.slice A t.length c] w fun e w' => e = .returned (.bool (rightsB t)) ∧ Below w.heap.size w w' := by
  go_enter Try.func36, Try.ntmps36
  go_wp2
  go_loopw [3] (fun i wr => ∃ k : Nat, k ≤ t.length ∧ i = .int .i64 k ∧ Below w.heap.size w wr ∧ Hid (AllTo (rightS t) k)) (fun i _ => t.length - (intOf i).toNat)
  case atStart => exact ⟨0, Nat.zero_le _, rfl, Below.refl _ _, AllTo.zero _⟩
  case round =>
    obtain ⟨k, hk, rfl, H, hall⟩ := hrel
    by_cases hlt : k < t.length
    · obtain ⟨g, off, x, y, z, rfl, hg, hc0, hc1, hc2, hx⟩ := (hr.below H (Nat.le_refl _)).at3 hlt
      have hq := Lib.hid (rightS_at hx.out)
      cases h1 : inB x 1 999
      · have hbad := Lib.hid (show rightS t k = false by rw [hq.out, h1]; rfl)
        have hltI : (k : Int) < (t.length : Int) := by omega
        go_wp2
        go_quiet ((go_at_call 33; refine Calls.mono (l01In_c _ _ _ _) ?_; rintro e w' ⟨rfl, rfl⟩; exact ⟨rfl, _, rfl⟩))
        go_wp2
        go_ret
        exact ⟨by rw [rightsS_bad (allAt_not hlt hbad.out)]; rfl, below_drewN H _⟩
      · by_cases hk0 : k = 0
        · subst hk0
          simp only [Nat.zero_mul, Nat.add_zero] at hc0 hc1 hc2
          by_cases h2 : y < 1
          · have hbad := Lib.hid (show rightS t 0 = false by rw [hq.out, h1, decide_eq_false (show ¬ 1 ≤ y by omega)]; rfl)
            go_wp2
            go_quiet ((go_at_call 33; refine Calls.mono (l01In_c _ _ _ _) ?_; rintro e w' ⟨rfl, rfl⟩; exact ⟨rfl, _, rfl⟩))
            go_wp2
            go_ret
            exact ⟨by rw [rightsS_bad (allAt_not hlt hbad.out)]; rfl, below_drewN H _⟩
          · have hgood := Lib.hid (show rightS t 0 = true by rw [hq.out, h1, decide_eq_true (show 1 ≤ y by omega)]; rfl)
            have hd2 : decide (y < 1) = false := decide_eq_false h2
            clear h2
            go_wp2
            go_quiet ((go_at_call 33; refine Calls.mono (l01In_c _ _ _ _) ?_; rintro e w' ⟨rfl, rfl⟩; exact ⟨rfl, _, rfl⟩))
            go_wp2
            go_roundw
            case rel => exact ⟨0 + 1, by omega, by go_num, below_drewN H _, hall.out.succ hgood.out⟩
            case measure => simp [intOf]; omega
        · obtain ⟨m, rfl⟩ : ∃ m, k = m + 1 := ⟨k - 1, by omega⟩
          clear hk0
          have hwm : IntKind.i64.wrap (m : Int) = (m : Int) := IntWalk.i64_in _ (by omega)
          have hml : m < t.length := by omega
          have hlt1 : (m : Int) + 1 < (t.length : Int) := by omega
          have hlt0 : (0 : Int) ≤ (m : Int) + 1 := by omega
          obtain ⟨x0, y0, z0, -, hd0, hd1, hd2, hx0⟩ := (hr.below H (Nat.le_refl _)).at3C (show m < t.length by omega)
          have hq' := Lib.hid (show rightS t (m + 1) = (inB x 1 999 && decide (1 ≤ y) && decide (x0 < x)) by rw [hq.out, Nat.add_sub_cancel, ow_at hx0.out]; rfl)
          clear hq hd1 hd2
          by_cases h2 : y < 1
          · have hbad := Lib.hid (show rightS t (m + 1) = false by rw [hq'.out, h1, decide_eq_false (show ¬ 1 ≤ y by omega)]; rfl)
            go_wp2
            go_quiet ((go_at_call 33; refine Calls.mono (l01In_c _ _ _ _) ?_; rintro e w' ⟨rfl, rfl⟩; exact ⟨rfl, _, rfl⟩))
            go_wp2
            go_ret
            exact ⟨by rw [rightsS_bad (allAt_not hlt hbad.out)]; rfl, below_drewN H _⟩
          · have hd2 : decide (y < 1) = false := decide_eq_false h2
            have h2' : 1 ≤ y := by omega
            clear h2
            by_cases h3 : x ≤ x0
            · have hbad := Lib.hid (show rightS t (m + 1) = false by rw [hq'.out, h1, decide_eq_true h2', decide_eq_false (show ¬ x0 < x by omega)]; rfl)
              go_wp2
              go_quiet ((go_at_call 33; refine Calls.mono (l01In_c _ _ _ _) ?_; rintro e w' ⟨rfl, rfl⟩; exact ⟨rfl, _, rfl⟩))
              go_wp2
              go_ret
              exact ⟨by rw [rightsS_bad (allAt_not hlt hbad.out)]; rfl, below_drewN H _⟩
            · have hgood := Lib.hid (show rightS t (m + 1) = true by rw [hq'.out, h1, decide_eq_true h2', decide_eq_true (show x0 < x by omega)]; rfl)
              have hd3 : decide (x ≤ x0) = false := decide_eq_false h3
              clear h3
              go_wp2
              go_quiet ((go_at_call 33; refine Calls.mono (l01In_c _ _ _ _) ?_; rintro e w' ⟨rfl, rfl⟩; exact ⟨rfl, _, rfl⟩))
              go_wp2
              go_roundw
              case rel => exact ⟨m + 1 + 1, by omega, by go_num, below_drewN H _, hall.out.succ hgood.out⟩
              case measure => simp [intOf]; omega
    · have hfin := Lib.hid (rightsS_all (hall.out.all hk hlt))
      have hS := Lib.hid (sSum_c A c t wr (hr.at_world H) hl)
      unfold RetO at hS
      cases hin : inB t.length 1 12
      · have hres := Lib.hid (show rightsB t = false by rw [hfin.out, hin]; rfl)
        generalize oT (sumR t) = p at hS
        generalize oU (sumR t) = q at hS
        generalize (sumR t).isSome = o at hS
        go_wp2_with fail
        refine hS.out.mono ?_
        rintro e w1 ⟨rfl, b⟩
        replace H := chain H b (Nat.le_refl _)
        go_wp2_with (go_at_call 33; refine (l01In_c _ _ _ _).mono ?_; rintro e w' ⟨rfl, rfl⟩)
        go_ret
        exact ⟨by rw [hres.out]; rfl, H.alloc H.size _⟩
      · rcases hs : sumR t with _ | ⟨p, q⟩
        · have hres := Lib.hid (show rightsB t = false by rw [hfin.out, hin, hs]; rfl)
          rw [hs] at hS
          have e1 : oT none = 0 := rfl
          have e2 : oU none = 0 := rfl
          rw [e1, e2] at hS
          clear hs e1 e2
          go_wp2_with fail
          refine hS.out.mono ?_
          rintro e w1 ⟨rfl, b⟩
          replace H := chain H b (Nat.le_refl _)
          go_wp2_with (go_at_call 33; refine (l01In_c _ _ _ _).mono ?_; rintro e w' ⟨rfl, rfl⟩)
          go_ret
          exact ⟨by rw [hres.out]; rfl, H.alloc H.size _⟩
        · have hres := Lib.hid (show rightsB t = (p == 1 && q == 1) by rw [hfin.out, hin, hs]; rfl)
          rw [hs] at hS
          have e1 : oT (some (p, q)) = p := rfl
          have e2 : oU (some (p, q)) = q := rfl
          rw [e1, e2] at hS
          clear hs e1 e2
          by_cases hp : p = 1
          · subst hp
            by_cases hq : q = 1
            · subst hq
              go_wp2_with fail
              refine hS.out.mono ?_
              rintro e w1 ⟨rfl, b⟩
              replace H := chain H b (Nat.le_refl _)
              go_wp2_with (go_at_call 33; refine (l01In_c _ _ _ _).mono ?_; rintro e w' ⟨rfl, rfl⟩)
              go_ret
              exact ⟨by rw [hres.out]; rfl, H.alloc H.size _⟩
            · have hqb : (q == 1) = false := beq_eq_false_iff_ne.2 hq
              rw [hqb] at hres
              go_wp2_with fail
              refine hS.out.mono ?_
              rintro e w1 ⟨rfl, b⟩
              replace H := chain H b (Nat.le_refl _)
              go_wp2_with (go_at_call 33; refine (l01In_c _ _ _ _).mono ?_; rintro e w' ⟨rfl, rfl⟩)
              go_ret
              exact ⟨by rw [hres.out]; rfl, H.alloc H.size _⟩
          · have hpb : (p == 1) = false := beq_eq_false_iff_ne.2 hp
            rw [hpb] at hres
            go_wp2_with fail
            refine hS.out.mono ?_
            rintro e w1 ⟨rfl, b⟩
            replace H := chain H b (Nat.le_refl _)
            go_wp2_with (go_at_call 33; refine (l01In_c _ _ _ _).mono ?_; rintro e w' ⟨rfl, rfl⟩)
            go_ret
            exact ⟨by rw [hres.out]; rfl, H.alloc H.size _⟩
end Go.Proofs.Ytifljdnlaginfaa
