/- FlowsTo, both. -/
import Derived.Test.YtoongfjidenbnaaPool
namespace Go.Proofs.Ytoongfjidenbnaa
open Go.ChangeShapes Go.WideShapes Go.ChangeAt Go.RowKit
set_option linter.unusedVariables false

/-- How far water runs to the left. -/
def leftG (g : List Int) : Nat → Nat
  | 0 => 0
  | k + 1 => if g.getD k 0 ≤ g.getD (k + 1) 0 then leftG g k else k + 1
/-- .. and to the right, at most n steps. -/
def rightG (g : List Int) : Nat → Nat → Nat
  | 0, k => k
  | n + 1, k => if k + 1 < g.length ∧ g.getD (k + 1) 0 ≤ g.getD k 0 then rightG g n (k + 1) else k
theorem leftG_b (g : List Int) : ∀ k, leftG g k ≤ k := by
  intro k
  induction k with
  | zero => exact Nat.le_refl _
  | succ k ih =>
    unfold leftG
    split <;> omega
theorem rightG_b (g : List Int) : ∀ n k, k < g.length → k ≤ rightG g n k ∧ rightG g n k < g.length := by
  intro n
  induction n with
  | zero => intro k hk; exact ⟨Nat.le_refl _, hk⟩
  | succ n ih =>
    intro k hk
    unfold rightG
    split
    · rename_i h
      have := ih (k + 1) h.1
      omega
    · exact ⟨Nat.le_refl _, hk⟩
def flowL (g : List Int) (k : Int) : Int := if onB g k then k - (leftG g k.toNat : Nat) else -1
def flowR (g : List Int) (k : Int) : Int := if onB g k then (rightG g g.length k.toNat : Nat) - k else -1

theorem RdI.atC {w : World} {B b off k : Nat} {xs : List Int} (h : RdI w B (some ⟨b, off, none⟩) xs) (hk : k < xs.length) : ∃ x, b < B ∧ w.cell? ⟨b, off + k, none⟩ = some (.int .i64 x) ∧ Hid (xs[k]? = some x) ∧ Hid (xs.drop k = x :: xs.drop (k + 1)) := by
  obtain ⟨b', off', x, hA, h1, h2, h3, h4⟩ := h.at_ hk
  injection hA with hA
  injection hA with e1 e2
  subst e1 e2
  exact ⟨x, h1, h2, h3, h4⟩
theorem leftG_stop (g : List Int) (m : Nat) (x x' : Int) (h : g[m]? = some x) (h' : g[m + 1]? = some x') (hle : ¬ x ≤ x') : leftG g (m + 1) = m + 1 := by
  unfold leftG; rw [getD_of h, getD_of h', if_neg hle]
theorem leftG_go (g : List Int) (m : Nat) (x x' : Int) (h : g[m]? = some x) (h' : g[m + 1]? = some x') (hle : x ≤ x') : leftG g (m + 1) = leftG g m := by
  rw [leftG, getD_of h, getD_of h', if_pos hle]
theorem rightG_end (g : List Int) (f m : Nat) (h : ¬ m + 1 < g.length) : rightG g f m = m := by
  cases f with
  | zero => rfl
  | succ f => unfold rightG; rw [if_neg (fun hh => h hh.1)]
theorem rightG_stop (g : List Int) (f m : Nat) (x x' : Int) (h : g[m]? = some x) (h' : g[m + 1]? = some x') (hle : ¬ x' ≤ x) : rightG g f m = m := by
  cases f with
  | zero => rfl
  | succ f => unfold rightG; rw [getD_of h, getD_of h', if_neg (fun hh => hle hh.2)]
theorem rightG_go (g : List Int) (f m : Nat) (x x' : Int) (h : g[m]? = some x) (h' : g[m + 1]? = some x') (hl : m + 1 < g.length) (hle : x' ≤ x) : rightG g (f + 1) m = rightG g f (m + 1) := by
  rw [rightG, getD_of h, getD_of h', if_pos ⟨hl, hle⟩]

set_option maxHeartbeats 2000000 in
theorem iFlowsTo_c (A : Option Addr) (c : Nat) (g : List Int) (k : Int) (w : World) (hr : RdI w w.heap.size A g) (hl : g.length ≤ 1048576) :
    Calls Try.prog 16 #[.slice A g.length c, .int .i64 k] w fun e w' => e = .returned (.tuple #[.int .i64 (flowL g k), .int .i64 (flowR g k)]) ∧ Below w.heap.size w w' := by
  cases hon : onB g k
  · have hf : flowL g k = -1 := by unfold flowL; rw [hon]; rfl
    have hf2 : flowR g k = -1 := by unfold flowR; rw [hon]; rfl
    rw [hf, hf2]
    clear hf hf2
    go_enter Try.func16, Try.ntmps16
    go_wp2_with fail
    refine (onGround_c _ _ _ _ _ hr hl).mono ?_
    rintro e w' ⟨rfl, rfl⟩
    go_wp2
    go_ret2
    exact ⟨rfl, Below.refl _ _⟩
  · obtain ⟨h0, h1, h30, hb⟩ := onB_b g k hon
    obtain ⟨n, rfl⟩ := Int.eq_ofNat_of_zero_le h0
    have hn : n < g.length := by omega
    have hf : flowL g n = n - (leftG g n : Nat) := by unfold flowL; rw [hon]; rfl
    have hf2 : flowR g n = (rightG g g.length n : Nat) - n := by unfold flowR; rw [hon]; rfl
    rw [hf, hf2]
    clear hf hf2 hb
    obtain ⟨b, off, x0, rfl, -, -, -, -⟩ := hr.at_ hn
    go_enter Try.func16, Try.ntmps16
    go_wp2_with fail
    refine (onGround_c _ _ _ _ _ hr hl).mono ?_
    rintro e w' ⟨rfl, rfl⟩
    go_wp2_with fail
    clear hon
    go_loopw [6] (fun i wr => ∃ j : Nat, j ≤ n ∧ i = .int .i64 j ∧ Below w.heap.size w wr ∧ Hid (leftG g n = leftG g j)) (fun i _ => (intOf i).toNat)
    case atStart => exact ⟨n, Nat.le_refl _, rfl, Below.refl _ _, rfl⟩
    case round =>
      obtain ⟨j, hj, rfl, H, hq⟩ := hrel
      by_cases hp : 0 < j
      · obtain ⟨m, rfl⟩ : ∃ m, j = m + 1 := ⟨j - 1, by omega⟩
        obtain ⟨x, hbb, hc, hx, hd⟩ := (hr.below H (Nat.le_refl _)).atC (show m < g.length by omega)
        obtain ⟨x', hbb', hc', hx', hd'⟩ := (hr.below H (Nat.le_refl _)).atC (show m + 1 < g.length by omega)
        by_cases hle : x ≤ x'
        · go_wp2
          go_quiet (fail)
          go_wp2
          go_roundw
          case rel => exact ⟨m, by omega, by go_num, below_drewN H _, hq.out.trans (leftG_go g m x x' hx.out hx'.out hle)⟩
          case measure => simp [intOf]; try omega
        · have hL := Lib.hid (show leftG g n = m + 1 by rw [hq.out, leftG_stop g m x x' hx.out hx'.out hle])
          have hdl : decide (x ≤ x') = false := decide_eq_false hle
          clear hq
          go_wp2
          go_quiet (fail)
          go_wp2
          go_loopw [7] (fun i wr => ∃ m f : Nat, n ≤ m ∧ m < g.length ∧ g.length ≤ m + f ∧ i = .int .i64 m ∧ Below w.heap.size w wr ∧ Hid (rightG g g.length n = rightG g f m)) (fun i _ => g.length - (intOf i).toNat)
          case atStart => exact ⟨n, g.length, Nat.le_refl _, hn, by omega, rfl, below_drewN H _, rfl⟩
          case round =>
            clear H
            obtain ⟨m, f, hnm, hm, hf, rfl, H, hR⟩ := hrel
            by_cases hp2 : m + 1 < g.length
            · obtain ⟨f, rfl⟩ : ∃ f', f = f' + 1 := ⟨f - 1, by omega⟩
              obtain ⟨x, hbb, hc, hx, hd⟩ := (hr.below H (Nat.le_refl _)).atC (show m < g.length by omega)
              obtain ⟨x', hbb', hc', hx', hd'⟩ := (hr.below H (Nat.le_refl _)).atC hp2
              have hi0 : (0 : Int) ≤ (m : Int) + 1 := by omega
              have hi1 : (m : Int) + 1 < (g.length : Int) := by omega
              have hi2 : (m : Int) < (g.length : Int) - 1 := by omega
              have hw : IntKind.i64.wrap ((m : Int) + 1) = (m : Int) + 1 := IntWalk.i64_in _ (by omega)
              have hw2 : IntKind.i64.wrap ((g.length : Int) - 1) = (g.length : Int) - 1 := IntWalk.i64_in _ (by omega)
              by_cases hle : x' ≤ x
              · go_wp2
                go_quiet (fail)
                go_wp2
                go_roundw
                case rel => exact ⟨m + 1, f, by omega, hp2, by omega, by go_num, below_drewN H _, hR.out.trans (rightG_go g f m x x' hx.out hx'.out hp2 hle)⟩
                case measure => simp [intOf]; try omega
              · have hd2 : decide (x' ≤ x) = false := decide_eq_false hle
                have hstop := Lib.hid (rightG_stop g (f + 1) m x x' hx.out hx'.out hle)
                go_wp2
                go_quiet (fail)
                go_wp2
                go_ret2
                exact ⟨by rw [hL.out, hR.out, hstop.out]; rfl, below_drewN H _⟩
            · have hd1 : decide ((m : Int) + 1 < (g.length : Int)) = false := decide_eq_false (by omega)
              have hd2 : decide ((m : Int) < (g.length : Int) - 1) = false := decide_eq_false (by omega)
              have hw : IntKind.i64.wrap ((m : Int) + 1) = (m : Int) + 1 := IntWalk.i64_in _ (by omega)
              have hw2 : IntKind.i64.wrap ((g.length : Int) - 1) = (g.length : Int) - 1 := IntWalk.i64_in _ (by omega)
              go_wp2
              go_quiet (fail)
              go_wp2
              go_ret2
              exact ⟨by rw [hL.out, hR.out, rightG_end g f m hp2]; rfl, below_drewN H _⟩
      · obtain rfl : j = 0 := by omega
        have hL := Lib.hid (show leftG g n = 0 by rw [hq.out]; rfl)
        clear hq
        go_wp2
        go_quiet (fail)
        go_wp2
        go_loopw [7] (fun i wr => ∃ m f : Nat, n ≤ m ∧ m < g.length ∧ g.length ≤ m + f ∧ i = .int .i64 m ∧ Below w.heap.size w wr ∧ Hid (rightG g g.length n = rightG g f m)) (fun i _ => g.length - (intOf i).toNat)
        case atStart => exact ⟨n, g.length, Nat.le_refl _, hn, by omega, rfl, below_drewN H _, rfl⟩
        case round =>
          clear H
          obtain ⟨m, f, hnm, hm, hf, rfl, H, hR⟩ := hrel
          by_cases hp2 : m + 1 < g.length
          · obtain ⟨f, rfl⟩ : ∃ f', f = f' + 1 := ⟨f - 1, by omega⟩
            obtain ⟨x, hbb, hc, hx, hd⟩ := (hr.below H (Nat.le_refl _)).atC (show m < g.length by omega)
            obtain ⟨x', hbb', hc', hx', hd'⟩ := (hr.below H (Nat.le_refl _)).atC hp2
            have hi0 : (0 : Int) ≤ (m : Int) + 1 := by omega
            have hi1 : (m : Int) + 1 < (g.length : Int) := by omega
            have hi2 : (m : Int) < (g.length : Int) - 1 := by omega
            have hw : IntKind.i64.wrap ((m : Int) + 1) = (m : Int) + 1 := IntWalk.i64_in _ (by omega)
            have hw2 : IntKind.i64.wrap ((g.length : Int) - 1) = (g.length : Int) - 1 := IntWalk.i64_in _ (by omega)
            by_cases hle : x' ≤ x
            · go_wp2
              go_quiet (fail)
              go_wp2
              go_roundw
              case rel => exact ⟨m + 1, f, by omega, hp2, by omega, by go_num, below_drewN H _, hR.out.trans (rightG_go g f m x x' hx.out hx'.out hp2 hle)⟩
              case measure => simp [intOf]; try omega
            · have hd2 : decide (x' ≤ x) = false := decide_eq_false hle
              have hstop := Lib.hid (rightG_stop g (f + 1) m x x' hx.out hx'.out hle)
              go_wp2
              go_quiet (fail)
              go_wp2
              go_ret2
              exact ⟨by rw [hL.out, hR.out, hstop.out]; rfl, below_drewN H _⟩
          · have hd1 : decide ((m : Int) + 1 < (g.length : Int)) = false := decide_eq_false (by omega)
            have hd2 : decide ((m : Int) < (g.length : Int) - 1) = false := decide_eq_false (by omega)
            have hw : IntKind.i64.wrap ((m : Int) + 1) = (m : Int) + 1 := IntWalk.i64_in _ (by omega)
            have hw2 : IntKind.i64.wrap ((g.length : Int) - 1) = (g.length : Int) - 1 := IntWalk.i64_in _ (by omega)
            go_wp2
            go_quiet (fail)
            go_wp2
            go_ret2
            exact ⟨by rw [hL.out, hR.out, rightG_end g f m hp2]; rfl, below_drewN H _⟩

set_option maxHeartbeats 2000000 in
theorem sFlowsTo_c (A : Option Addr) (c : Nat) (g : List Int) (k : Int) (w : World) (hr : RdI w w.heap.size A g) (hl : g.length ≤ 1048576) :
    Calls Try.prog 15 #[.slice A g.length c, .int .i64 k] w fun e w' => e = .returned (.tuple #[.int .i64 (flowL g k), .int .i64 (flowR g k)]) ∧ Below w.heap.size w w' := by
  cases hon : onB g k
  · have hf : flowL g k = -1 := by unfold flowL; rw [hon]; rfl
    have hf2 : flowR g k = -1 := by unfold flowR; rw [hon]; rfl
    rw [hf, hf2]
    clear hf hf2
    unfold onB at hon
    cases hg : groundB g
    · go_enter Try.func15, Try.ntmps15
      go_wp2_with fail
      refine (sGroundOk_c _ _ _ _ hr hl).mono ?_
      rintro e w' ⟨rfl, rfl⟩
      go_wp2
      go_ret2
      exact ⟨rfl, Below.refl _ _⟩
    · have hin : inB k 0 (g.length - 1) = false := by rw [hg, Bool.true_and] at hon; exact hon
      obtain ⟨hp, -⟩ : g.length ≤ 30 ∧ True := ⟨by unfold groundB at hg; simp only [Bool.and_eq_true, inB_iff] at hg; omega, trivial⟩
      clear hon
      go_enter Try.func15, Try.ntmps15
      go_wp2_with fail
      refine (sGroundOk_c _ _ _ _ hr hl).mono ?_
      rintro e w' ⟨rfl, rfl⟩
      go_wp2_with (go_at_call 32; refine (l01In_c _ _ _ _).mono ?_; rintro e w' ⟨rfl, rfl⟩)
      go_ret2
      exact ⟨rfl, Below.refl _ _⟩
  · obtain ⟨h0, h1, h30, hb⟩ := onB_b g k hon
    obtain ⟨n, rfl⟩ := Int.eq_ofNat_of_zero_le h0
    have hn : n < g.length := by omega
    have hf : flowL g n = n - (leftG g n : Nat) := by unfold flowL; rw [hon]; rfl
    have hf2 : flowR g n = (rightG g g.length n : Nat) - n := by unfold flowR; rw [hon]; rfl
    rw [hf, hf2]
    clear hf hf2 hb
    obtain ⟨b, off, x0, rfl, -, -, -, -⟩ := hr.at_ hn
    have hg : groundB g = true := by unfold onB at hon; simp only [Bool.and_eq_true] at hon; exact hon.1
    have hin : inB (n : Int) 0 (g.length - 1) = true := by unfold onB at hon; simp only [Bool.and_eq_true] at hon; exact hon.2
    clear hon
    go_enter Try.func15, Try.ntmps15
    go_wp2_with fail
    refine (sGroundOk_c _ _ _ _ hr hl).mono ?_
    rintro e w' ⟨rfl, rfl⟩
    go_wp2_with (go_at_call 32; refine (l01In_c _ _ _ _).mono ?_; rintro e w' ⟨rfl, rfl⟩)
    clear hg hin
    go_loopw [6] (fun i wr => ∃ j : Nat, j ≤ n ∧ i = .int .i64 j ∧ Below w.heap.size w wr ∧ Hid (leftG g n = leftG g j)) (fun i _ => (intOf i).toNat)
    case atStart => exact ⟨n, Nat.le_refl _, rfl, Below.refl _ _, rfl⟩
    case round =>
      obtain ⟨j, hj, rfl, H, hq⟩ := hrel
      by_cases hp : 0 < j
      · obtain ⟨m, rfl⟩ : ∃ m, j = m + 1 := ⟨j - 1, by omega⟩
        obtain ⟨x, hbb, hc, hx, hd⟩ := (hr.below H (Nat.le_refl _)).atC (show m < g.length by omega)
        obtain ⟨x', hbb', hc', hx', hd'⟩ := (hr.below H (Nat.le_refl _)).atC (show m + 1 < g.length by omega)
        by_cases hle : x ≤ x'
        · go_wp2
          go_quiet (fail)
          go_wp2
          go_roundw
          case rel => exact ⟨m, by omega, by go_num, below_drewN H _, hq.out.trans (leftG_go g m x x' hx.out hx'.out hle)⟩
          case measure => simp [intOf]; try omega
        · have hL := Lib.hid (show leftG g n = m + 1 by rw [hq.out, leftG_stop g m x x' hx.out hx'.out hle])
          have hdl : decide (x ≤ x') = false := decide_eq_false hle
          clear hq
          go_wp2
          go_quiet (fail)
          go_wp2
          go_loopw [7] (fun i wr => ∃ m f : Nat, n ≤ m ∧ m < g.length ∧ g.length ≤ m + f ∧ i = .int .i64 m ∧ Below w.heap.size w wr ∧ Hid (rightG g g.length n = rightG g f m)) (fun i _ => g.length - (intOf i).toNat)
          case atStart => exact ⟨n, g.length, Nat.le_refl _, hn, by omega, rfl, below_drewN H _, rfl⟩
          case round =>
            clear H
            obtain ⟨m, f, hnm, hm, hf, rfl, H, hR⟩ := hrel
            by_cases hp2 : m + 1 < g.length
            · obtain ⟨f, rfl⟩ : ∃ f', f = f' + 1 := ⟨f - 1, by omega⟩
              obtain ⟨x, hbb, hc, hx, hd⟩ := (hr.below H (Nat.le_refl _)).atC (show m < g.length by omega)
              obtain ⟨x', hbb', hc', hx', hd'⟩ := (hr.below H (Nat.le_refl _)).atC hp2
              have hi0 : (0 : Int) ≤ (m : Int) + 1 := by omega
              have hi1 : (m : Int) + 1 < (g.length : Int) := by omega
              have hi2 : (m : Int) < (g.length : Int) - 1 := by omega
              have hw : IntKind.i64.wrap ((m : Int) + 1) = (m : Int) + 1 := IntWalk.i64_in _ (by omega)
              have hw2 : IntKind.i64.wrap ((g.length : Int) - 1) = (g.length : Int) - 1 := IntWalk.i64_in _ (by omega)
              by_cases hle : x' ≤ x
              · go_wp2
                go_quiet (fail)
                go_wp2
                go_roundw
                case rel => exact ⟨m + 1, f, by omega, hp2, by omega, by go_num, below_drewN H _, hR.out.trans (rightG_go g f m x x' hx.out hx'.out hp2 hle)⟩
                case measure => simp [intOf]; try omega
              · have hd2 : decide (x' ≤ x) = false := decide_eq_false hle
                have hstop := Lib.hid (rightG_stop g (f + 1) m x x' hx.out hx'.out hle)
                go_wp2
                go_quiet (fail)
                go_wp2
                go_ret2
                exact ⟨by rw [hL.out, hR.out, hstop.out]; rfl, below_drewN H _⟩
            · have hd1 : decide ((m : Int) + 1 < (g.length : Int)) = false := decide_eq_false (by omega)
              have hd2 : decide ((m : Int) < (g.length : Int) - 1) = false := decide_eq_false (by omega)
              have hw : IntKind.i64.wrap ((m : Int) + 1) = (m : Int) + 1 := IntWalk.i64_in _ (by omega)
              have hw2 : IntKind.i64.wrap ((g.length : Int) - 1) = (g.length : Int) - 1 := IntWalk.i64_in _ (by omega)
              go_wp2
              go_quiet (fail)
              go_wp2
              go_ret2
              exact ⟨by rw [hL.out, hR.out, rightG_end g f m hp2]; rfl, below_drewN H _⟩
      · obtain rfl : j = 0 := by omega
        have hL := Lib.hid (show leftG g n = 0 by rw [hq.out]; rfl)
        clear hq
        go_wp2
        go_quiet (fail)
        go_wp2
        go_loopw [7] (fun i wr => ∃ m f : Nat, n ≤ m ∧ m < g.length ∧ g.length ≤ m + f ∧ i = .int .i64 m ∧ Below w.heap.size w wr ∧ Hid (rightG g g.length n = rightG g f m)) (fun i _ => g.length - (intOf i).toNat)
        case atStart => exact ⟨n, g.length, Nat.le_refl _, hn, by omega, rfl, below_drewN H _, rfl⟩
        case round =>
          clear H
          obtain ⟨m, f, hnm, hm, hf, rfl, H, hR⟩ := hrel
          by_cases hp2 : m + 1 < g.length
          · obtain ⟨f, rfl⟩ : ∃ f', f = f' + 1 := ⟨f - 1, by omega⟩
            obtain ⟨x, hbb, hc, hx, hd⟩ := (hr.below H (Nat.le_refl _)).atC (show m < g.length by omega)
            obtain ⟨x', hbb', hc', hx', hd'⟩ := (hr.below H (Nat.le_refl _)).atC hp2
            have hi0 : (0 : Int) ≤ (m : Int) + 1 := by omega
            have hi1 : (m : Int) + 1 < (g.length : Int) := by omega
            have hi2 : (m : Int) < (g.length : Int) - 1 := by omega
            have hw : IntKind.i64.wrap ((m : Int) + 1) = (m : Int) + 1 := IntWalk.i64_in _ (by omega)
            have hw2 : IntKind.i64.wrap ((g.length : Int) - 1) = (g.length : Int) - 1 := IntWalk.i64_in _ (by omega)
            by_cases hle : x' ≤ x
            · go_wp2
              go_quiet (fail)
              go_wp2
              go_roundw
              case rel => exact ⟨m + 1, f, by omega, hp2, by omega, by go_num, below_drewN H _, hR.out.trans (rightG_go g f m x x' hx.out hx'.out hp2 hle)⟩
              case measure => simp [intOf]; try omega
            · have hd2 : decide (x' ≤ x) = false := decide_eq_false hle
              have hstop := Lib.hid (rightG_stop g (f + 1) m x x' hx.out hx'.out hle)
              go_wp2
              go_quiet (fail)
              go_wp2
              go_ret2
              exact ⟨by rw [hL.out, hR.out, hstop.out]; rfl, below_drewN H _⟩
          · have hd1 : decide ((m : Int) + 1 < (g.length : Int)) = false := decide_eq_false (by omega)
            have hd2 : decide ((m : Int) < (g.length : Int) - 1) = false := decide_eq_false (by omega)
            have hw : IntKind.i64.wrap ((m : Int) + 1) = (m : Int) + 1 := IntWalk.i64_in _ (by omega)
            have hw2 : IntKind.i64.wrap ((g.length : Int) - 1) = (g.length : Int) - 1 := IntWalk.i64_in _ (by omega)
            go_wp2
            go_quiet (fail)
            go_wp2
            go_ret2
            exact ⟨by rw [hL.out, hR.out, rightG_end g f m hp2]; rfl, below_drewN H _⟩

end Go.Proofs.Ytoongfjidenbnaa
