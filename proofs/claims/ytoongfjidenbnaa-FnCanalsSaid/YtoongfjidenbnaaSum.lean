/- PoolSum and PoolCount, both. -/
import Derived.Test.YtoongfjidenbnaaPool
namespace Go.Proofs.Ytoongfjidenbnaa
open Go.ChangeShapes Go.WideShapes Go.ChangeAt Go.RowKit
set_option linter.unusedVariables false

theorem groundB_b (g : List Int) (h : groundB g = true) : g.length ≤ 30 ∧ ∀ x ∈ g, 0 ≤ x ∧ x ≤ 100 := by
  unfold groundB at h
  simp only [Bool.and_eq_true, inB_iff, allB_iff] at h
  exact ⟨by omega, h.2⟩
theorem poolZ_at (g : List Int) (k : Nat) (h : groundB g = true) (hk : k < g.length) : poolZ g k = poolF g k := by
  unfold poolZ onB
  have : inB (k : Int) 0 (g.length - 1) = true := (inB_iff _ _ _).2 ⟨by omega, by omega⟩
  rw [h, this]
  rfl
def sumP (g : List Int) : Nat → Int
  | 0 => 0
  | k + 1 => sumP g k + poolF g k
theorem sumP_b (g : List Int) (h : ∀ x ∈ g, 0 ≤ x ∧ x ≤ 100) : ∀ k, k ≤ g.length → -(100 * (k : Int)) ≤ sumP g k ∧ sumP g k ≤ 100 * (k : Int) := by
  intro k
  induction k with
  | zero => intro _; exact ⟨by simp [sumP], by simp [sumP]⟩
  | succ k ih =>
    intro hk
    have := ih (by omega)
    have hp := poolF_b g k (by omega) h
    have e : sumP g (k + 1) = sumP g k + poolF g k := rfl
    rw [e]
    omega
def poolSumZ (g : List Int) : Int := if groundB g then sumP g g.length else -1
def isPool (g : List Int) (k : Nat) : Bool := decide (0 < poolF g k) && (k == 0 || poolF g (k - 1) == 0)
def cntP (g : List Int) : Nat → Nat
  | 0 => 0
  | k + 1 => cntP g k + (if isPool g k then 1 else 0)
theorem cntP_b (g : List Int) : ∀ k, cntP g k ≤ k := by
  intro k
  induction k with
  | zero => exact Nat.le_refl _
  | succ k ih =>
    have e : cntP g (k + 1) = cntP g k + (if isPool g k then 1 else 0) := rfl
    rw [e]
    split <;> omega
def poolCntZ (g : List Int) : Int := if groundB g then (cntP g g.length : Nat) else -1

set_option maxHeartbeats 400000 in
theorem sPoolSum_c (A : Option Addr) (c : Nat) (g : List Int) (w : World) (hr : RdI w w.heap.size A g) (hl : g.length ≤ 1048576) :
    Calls Try.prog 23 #[.slice A g.length c] w fun e w' => e = .returned (.int .i64 (poolSumZ g)) ∧ w = w' := by
  cases hg : groundB g
  · have hf : poolSumZ g = -1 := by unfold poolSumZ; rw [hg]; rfl
    rw [hf]
    clear hf
    go_enter Try.func23, Try.ntmps23
    go_wp2_with fail
    refine (sGroundOk_c _ _ _ _ hr hl).mono ?_
    rintro e w' ⟨rfl, rfl⟩
    go_wp2
    go_ret
    exact ⟨rfl, rfl⟩
  · have hf : poolSumZ g = sumP g g.length := by unfold poolSumZ; rw [hg]; rfl
    rw [hf]
    clear hf
    obtain ⟨h30, hb⟩ := groundB_b g hg
    have hb' := Lib.hid hb
    have hg' := Lib.hid hg
    clear hb
    go_enter Try.func23, Try.ntmps23
    go_wp2_with fail
    refine (sGroundOk_c _ _ _ _ hr hl).mono ?_
    rintro e w' ⟨rfl, rfl⟩
    go_wp2_with fail
    clear hg
    go_loop [3, 4] (fun m i => ∃ k : Nat, k ≤ g.length ∧ i = .int .i64 k ∧ m = .int .i64 (sumP g k)) (fun _ i => g.length - (intOf i).toNat)
    case atStart => exact ⟨0, Nat.zero_le _, rfl, rfl⟩
    case round =>
      obtain ⟨k, hk, rfl, rfl⟩ := hrel
      by_cases hlt : k < g.length
      · have hz := poolZ_at g k hg'.out hlt
        have hp := poolF_b g k hlt hb'.out
        have hs := sumP_b g hb'.out k hk
        have he := Lib.hid (show sumP g (k + 1) = sumP g k + poolF g k from rfl)
        generalize poolF g k = p at *
        generalize sumP g k = sm at *
        go_wp2_with fail
        refine (sPoolAt_c _ _ _ _ _ hr hl).mono ?_
        rintro e w' ⟨rfl, rfl⟩
        go_wp2
        go_round
        case rel => exact ⟨k + 1, by omega, by go_num, by rw [he.out]⟩
        case measure => simp [intOf]; omega
      · obtain rfl : k = g.length := by omega
        go_wp2
        go_ret
        exact ⟨rfl, rfl⟩

set_option maxHeartbeats 400000 in
theorem iPoolSum_c (A : Option Addr) (c : Nat) (g : List Int) (w : World) (hr : RdI w w.heap.size A g) (hl : g.length ≤ 1048576) (hc : g.length ≤ c) (hc2 : c ≤ maxLen) :
    Calls Try.prog 24 #[.slice A g.length c] w fun e w' => e = .returned (.int .i64 (poolSumZ g)) ∧ Below w.heap.size w w' := by
  cases hg : groundB g
  · have hf : poolSumZ g = -1 := by unfold poolSumZ; rw [hg]; rfl
    rw [hf]
    clear hf
    go_enter Try.func24, Try.ntmps24
    go_wp2_with fail
    refine (iGroundOk_c _ _ _ _ hr hl).mono ?_
    rintro e w' ⟨rfl, rfl⟩
    go_wp2
    go_ret
    exact ⟨rfl, Below.refl _ _⟩
  · have hf : poolSumZ g = sumP g g.length := by unfold poolSumZ; rw [hg]; rfl
    rw [hf]
    clear hf
    obtain ⟨h30, hb⟩ := groundB_b g hg
    have hb' := Lib.hid hb
    have hg' := Lib.hid hg
    clear hb
    go_enter Try.func24, Try.ntmps24
    go_wp2_with fail
    refine (iGroundOk_c _ _ _ _ hr hl).mono ?_
    rintro e w' ⟨rfl, rfl⟩
    go_wp2_with fail
    clear hg
    go_loopw [3, 4, 10] (fun m _ i wr => ∃ k : Nat, k ≤ g.length ∧ i = .int .i64 k ∧ m = .int .i64 (sumP g k) ∧ Below w.heap.size w wr) (fun _ _ i _ => g.length - (intOf i).toNat)
    case atStart => exact ⟨0, Nat.zero_le _, rfl, rfl, Below.refl _ _⟩
    case round =>
      obtain ⟨k, hk, rfl, rfl, H⟩ := hrel
      by_cases hlt : k < g.length
      · have hz := poolZ_at g k hg'.out hlt
        have hp := poolF_b g k hlt hb'.out
        have hs := sumP_b g hb'.out k hk
        have he := Lib.hid (show sumP g (k + 1) = sumP g k + poolF g k from rfl)
        generalize poolF g k = p at *
        generalize sumP g k = sm at *
        go_wp2_with fail
        refine (iPoolAt_c _ _ _ _ _ (hr.at_world H) hl hc hc2).mono ?_
        rintro e w1 ⟨rfl, b⟩
        replace H := chain H b (Nat.le_refl _)
        clear b
        go_wp2
        go_roundw
        case rel => exact ⟨k + 1, by omega, by go_num, by rw [he.out], H⟩
        case measure => simp [intOf]; omega
      · obtain rfl : k = g.length := by omega
        go_wp2
        go_ret
        exact ⟨rfl, H⟩

set_option maxHeartbeats 1000000 in
theorem sPoolCount_c (A : Option Addr) (c : Nat) (g : List Int) (w : World) (hr : RdI w w.heap.size A g) (hl : g.length ≤ 1048576) :
    Calls Try.prog 25 #[.slice A g.length c] w fun e w' => e = .returned (.int .i64 (poolCntZ g)) ∧ w = w' := by
  cases hg : groundB g
  · have hf : poolCntZ g = -1 := by unfold poolCntZ; rw [hg]; rfl
    rw [hf]
    clear hf
    go_enter Try.func25, Try.ntmps25
    go_wp2_with fail
    refine (sGroundOk_c _ _ _ _ hr hl).mono ?_
    rintro e w' ⟨rfl, rfl⟩
    go_wp2
    go_ret
    exact ⟨rfl, rfl⟩
  · have hf : poolCntZ g = (cntP g g.length : Nat) := by unfold poolCntZ; rw [hg]; rfl
    rw [hf]
    clear hf
    obtain ⟨h30, hb⟩ := groundB_b g hg
    have hb' := Lib.hid hb
    have hg' := Lib.hid hg
    clear hb
    go_enter Try.func25, Try.ntmps25
    go_wp2_with fail
    refine (sGroundOk_c _ _ _ _ hr hl).mono ?_
    rintro e w' ⟨rfl, rfl⟩
    go_wp2_with fail
    clear hg
    go_loop [3, 4] (fun m i => ∃ k : Nat, k ≤ g.length ∧ i = .int .i64 k ∧ m = .int .i64 (cntP g k : Nat)) (fun _ i => g.length - (intOf i).toNat)
    case atStart => exact ⟨0, Nat.zero_le _, rfl, rfl⟩
    case round =>
      obtain ⟨k, hk, rfl, rfl⟩ := hrel
      by_cases hlt : k < g.length
      · have hz := poolZ_at g k hg'.out hlt
        have hs := cntP_b g k
        have hc1 := Lib.hid (show cntP g (k + 1) = cntP g k + (if isPool g k then 1 else 0) from rfl)
        by_cases hp : 0 < poolF g k
        · by_cases hk0 : k = 0
          · subst hk0
            have hi := Lib.hid (show (if isPool g 0 then 1 else 0) = 1 by unfold isPool; simp [hp])
            generalize poolF g 0 = p at *
            generalize cntP g 0 = sm at *
            have hzz : poolZ g (0 : Int) = p := hz
            clear hz
            go_wp2_with fail
            refine (sPoolAt_c _ _ _ _ _ hr hl).mono ?_
            rintro e w' ⟨rfl, rfl⟩
            go_wp2
            go_round
            case rel => exact ⟨0 + 1, by omega, by go_num, by rw [hc1.out, hi.out]; go_num⟩
            case measure => simp [intOf]; omega
          · have hz0 := poolZ_at g (k - 1) hg'.out (by omega)
            have e1 : ((k - 1 : Nat) : Int) = (k : Int) - 1 := by omega
            rw [e1] at hz0
            have hkb : ((k : Int) == 0) = false := beq_eq_false_iff_ne.2 (by omega)
            clear e1
            by_cases hp0 : poolF g (k - 1) = 0
            · have hi := Lib.hid (show (if isPool g k then 1 else 0) = 1 by unfold isPool; simp [hp, hp0])
              have hpb : (poolF g (k - 1) == 0) = true := beq_iff_eq.2 hp0
              clear hp0
              generalize poolF g (k - 1) = p0 at *
              generalize poolF g k = p at *
              generalize cntP g k = sm at *
              go_wp2_with fail
              refine (sPoolAt_c _ _ _ _ _ hr hl).mono ?_
              rintro e w' ⟨rfl, rfl⟩
              go_wp2_with fail
              refine (sPoolAt_c _ _ _ _ _ hr hl).mono ?_
              rintro e w' ⟨rfl, rfl⟩
              go_wp2
              go_round
              case rel => exact ⟨k + 1, by omega, by go_num, by rw [hc1.out, hi.out]; go_num⟩
              case measure => simp [intOf]; omega
            · have hi := Lib.hid (show (if isPool g k then 1 else 0) = 0 by unfold isPool; simp [hp0, hk0])
              have hpb : (poolF g (k - 1) == 0) = false := beq_eq_false_iff_ne.2 hp0
              clear hp0
              generalize poolF g (k - 1) = p0 at *
              generalize poolF g k = p at *
              generalize cntP g k = sm at *
              go_wp2_with fail
              refine (sPoolAt_c _ _ _ _ _ hr hl).mono ?_
              rintro e w' ⟨rfl, rfl⟩
              go_wp2_with fail
              refine (sPoolAt_c _ _ _ _ _ hr hl).mono ?_
              rintro e w' ⟨rfl, rfl⟩
              go_wp2
              go_round
              case rel => exact ⟨k + 1, by omega, by go_num, by rw [hc1.out, hi.out]; go_num⟩
              case measure => simp [intOf]; omega
        · have hi := Lib.hid (show (if isPool g k then 1 else 0) = 0 by unfold isPool; simp [hp])
          have hd : decide (0 < poolF g k) = false := decide_eq_false hp
          generalize poolF g k = p at *
          generalize cntP g k = sm at *
          go_wp2_with fail
          refine (sPoolAt_c _ _ _ _ _ hr hl).mono ?_
          rintro e w' ⟨rfl, rfl⟩
          go_wp2
          go_round
          case rel => exact ⟨k + 1, by omega, by go_num, by rw [hc1.out, hi.out]; go_num⟩
          case measure => simp [intOf]; omega
      · obtain rfl : k = g.length := by omega
        go_wp2
        go_ret
        exact ⟨rfl, rfl⟩

set_option maxHeartbeats 1000000 in
theorem iPoolCount_c (A : Option Addr) (c : Nat) (g : List Int) (w : World) (hr : RdI w w.heap.size A g) (hl : g.length ≤ 1048576) (hc : g.length ≤ c) (hc2 : c ≤ maxLen) :
    Calls Try.prog 26 #[.slice A g.length c] w fun e w' => e = .returned (.int .i64 (poolCntZ g)) ∧ Below w.heap.size w w' := by
  cases hg : groundB g
  · have hf : poolCntZ g = -1 := by unfold poolCntZ; rw [hg]; rfl
    rw [hf]
    clear hf
    go_enter Try.func26, Try.ntmps26
    go_wp2_with fail
    refine (iGroundOk_c _ _ _ _ hr hl).mono ?_
    rintro e w' ⟨rfl, rfl⟩
    go_wp2
    go_ret
    exact ⟨rfl, Below.refl _ _⟩
  · have hf : poolCntZ g = (cntP g g.length : Nat) := by unfold poolCntZ; rw [hg]; rfl
    rw [hf]
    clear hf
    obtain ⟨h30, hb⟩ := groundB_b g hg
    have hb' := Lib.hid hb
    have hg' := Lib.hid hg
    clear hb
    go_enter Try.func26, Try.ntmps26
    go_wp2_with fail
    refine (iGroundOk_c _ _ _ _ hr hl).mono ?_
    rintro e w' ⟨rfl, rfl⟩
    go_wp2_with fail
    clear hg
    go_loopw [3, 4, 10] (fun m _ i wr => ∃ k : Nat, k ≤ g.length ∧ i = .int .i64 k ∧ m = .int .i64 (cntP g k : Nat) ∧ Below w.heap.size w wr) (fun _ _ i _ => g.length - (intOf i).toNat)
    case atStart => exact ⟨0, Nat.zero_le _, rfl, rfl, Below.refl _ _⟩
    case round =>
      obtain ⟨k, hk, rfl, rfl, H⟩ := hrel
      by_cases hlt : k < g.length
      · have hz := poolZ_at g k hg'.out hlt
        have hs := cntP_b g k
        have hc1 := Lib.hid (show cntP g (k + 1) = cntP g k + (if isPool g k then 1 else 0) from rfl)
        by_cases hp : 0 < poolF g k
        · by_cases hk0 : k = 0
          · subst hk0
            have hi := Lib.hid (show (if isPool g 0 then 1 else 0) = 1 by unfold isPool; simp [hp])
            generalize poolF g 0 = p at *
            generalize cntP g 0 = sm at *
            have hzz : poolZ g (0 : Int) = p := hz
            clear hz
            go_wp2_with fail
            refine (iPoolAt_c _ _ _ _ _ (hr.at_world H) hl hc hc2).mono ?_
            rintro e w1 ⟨rfl, b⟩
            replace H := chain H b (Nat.le_refl _)
            clear b
            go_wp2
            go_roundw
            case rel => exact ⟨0 + 1, by omega, by go_num, by rw [hc1.out, hi.out]; go_num, H⟩
            case measure => simp [intOf]; omega
          · have hz0 := poolZ_at g (k - 1) hg'.out (by omega)
            have e1 : ((k - 1 : Nat) : Int) = (k : Int) - 1 := by omega
            rw [e1] at hz0
            have hkb : ((k : Int) == 0) = false := beq_eq_false_iff_ne.2 (by omega)
            clear e1
            by_cases hp0 : poolF g (k - 1) = 0
            · have hi := Lib.hid (show (if isPool g k then 1 else 0) = 1 by unfold isPool; simp [hp, hp0])
              have hpb : (poolF g (k - 1) == 0) = true := beq_iff_eq.2 hp0
              clear hp0
              generalize poolF g (k - 1) = p0 at *
              generalize poolF g k = p at *
              generalize cntP g k = sm at *
              go_wp2_with fail
              refine (iPoolAt_c _ _ _ _ _ (hr.at_world H) hl hc hc2).mono ?_
              rintro e w1 ⟨rfl, b⟩
              replace H := chain H b (Nat.le_refl _)
              clear b
              go_wp2_with fail
              refine (iPoolAt_c _ _ _ _ _ (hr.at_world H) hl hc hc2).mono ?_
              rintro e w1 ⟨rfl, b⟩
              replace H := chain H b (Nat.le_refl _)
              clear b
              go_wp2
              go_roundw
              case rel => exact ⟨k + 1, by omega, by go_num, by rw [hc1.out, hi.out]; go_num, H⟩
              case measure => simp [intOf]; omega
            · have hi := Lib.hid (show (if isPool g k then 1 else 0) = 0 by unfold isPool; simp [hp0, hk0])
              have hpb : (poolF g (k - 1) == 0) = false := beq_eq_false_iff_ne.2 hp0
              clear hp0
              generalize poolF g (k - 1) = p0 at *
              generalize poolF g k = p at *
              generalize cntP g k = sm at *
              go_wp2_with fail
              refine (iPoolAt_c _ _ _ _ _ (hr.at_world H) hl hc hc2).mono ?_
              rintro e w1 ⟨rfl, b⟩
              replace H := chain H b (Nat.le_refl _)
              clear b
              go_wp2_with fail
              refine (iPoolAt_c _ _ _ _ _ (hr.at_world H) hl hc hc2).mono ?_
              rintro e w1 ⟨rfl, b⟩
              replace H := chain H b (Nat.le_refl _)
              clear b
              go_wp2
              go_roundw
              case rel => exact ⟨k + 1, by omega, by go_num, by rw [hc1.out, hi.out]; go_num, H⟩
              case measure => simp [intOf]; omega
        · have hi := Lib.hid (show (if isPool g k then 1 else 0) = 0 by unfold isPool; simp [hp])
          have hd : decide (0 < poolF g k) = false := decide_eq_false hp
          generalize poolF g k = p at *
          generalize cntP g k = sm at *
          go_wp2_with fail
          refine (iPoolAt_c _ _ _ _ _ (hr.at_world H) hl hc hc2).mono ?_
          rintro e w1 ⟨rfl, b⟩
          replace H := chain H b (Nat.le_refl _)
          clear b
          go_wp2
          go_roundw
          case rel => exact ⟨k + 1, by omega, by go_num, by rw [hc1.out, hi.out]; go_num, H⟩
          case measure => simp [intOf]; omega
      · obtain rfl : k = g.length := by omega
        go_wp2
        go_ret
        exact ⟨rfl, H⟩
end Go.Proofs.Ytoongfjidenbnaa
