/- Contracts of the small functions of this seat. -/
import Derived.Test.YtdkllicbaiodcaaInts
namespace Go.Proofs.Ytdkllicbaiodcaa
open Go.ChangeShapes Go.WideShapes Go.ChangeAt Go.RowKit
set_option linter.unusedVariables false

def pondB (s d : Int) : Bool := inB s 1 1000 && inB d 0 5000
theorem pondB_iff (s d : Int) : pondB s d = true ↔ (1 ≤ s ∧ s ≤ 1000) ∧ 0 ≤ d ∧ d ≤ 5000 := by simp [pondB, inB_iff]

theorem sPondOk_c (s d : Int) (c : Bool) (w : World) : Calls Try.prog 10 #[.agg #[.int .i64 s, .int .i64 d, .bool c]] w fun e w' => e = .returned (.bool (pondB s d)) ∧ Below w.heap.size w w' := by
  unfold pondB
  cases h : inB s 1 1000
  all_goals
    go_enter Try.func10, Try.ntmps10
    go_wp2_with (go_at_call 29; refine (l01In_c _ _ _ _).mono ?_; rintro e w' ⟨rfl, rfl⟩)
    go_ret
    exact ⟨by simp, (Below.refl _ _).alloc (Nat.le_refl _) _⟩

theorem iPondOk_c (s d : Int) (c : Bool) (w : World) : Calls Try.prog 12 #[.agg #[.int .i64 s, .int .i64 d, .bool c]] w fun e w' => e = .returned (.bool (pondB s d)) ∧ Below w.heap.size w w' := by
  unfold pondB
  cases h : inB s 1 1000
  all_goals
    go_enter Try.func12, Try.ntmps12
    go_wp2_with (go_at_call 30; refine (within_c _ _ _ _).mono ?_; rintro e w' ⟨rfl, rfl⟩)
    go_ret
    exact ⟨by simp, (Below.refl _ _).alloc (Nat.le_refl _) _⟩

theorem toPond_c (s d : Int) (c : Bool) (w : World) : Calls Try.prog 11 #[.agg #[.int .i64 s, .int .i64 d, .bool c]] w fun e w' => e = .returned (.agg #[.int .i64 s, .int .i64 d, .bool c]) ∧ Below w.heap.size w w' := by
  go_enter Try.func11, Try.ntmps11
  go_wp2
  refine bodyPost_ret (v := .agg #[.int .i64 s, .int .i64 d, .bool c]) (by simp [results, Try.results11, go_sem]) rfl ⟨rfl, ?_⟩
  exact (by go_grown)

theorem eqPond_c (s d s' d' : Int) (c c' : Bool) (w : World) : Calls Try.prog 17 #[.agg #[.int .i64 s, .int .i64 d, .bool c], .agg #[.int .i64 s', .int .i64 d', .bool c']] w fun e w' => e = .returned (.bool (s == s' && d == d' && c == c')) ∧ Below w.heap.size w w' := by
  cases h1 : s == s'
  · have g1 : (s != s') = true := by simp [bne, h1]
    go_enter Try.func17, Try.ntmps17
    go_wp2
    go_ret
    exact ⟨by simp, (by go_grown)⟩
  · have g1 : (s != s') = false := by simp [bne, h1]
    cases h2 : d == d'
    · have g2 : (d != d') = true := by simp [bne, h2]
      go_enter Try.func17, Try.ntmps17
      go_wp2
      go_ret
      exact ⟨by simp, (by go_grown)⟩
    · have g2 : (d != d') = false := by simp [bne, h2]
      cases c <;> cases c'
      all_goals
        go_enter Try.func17, Try.ntmps17
        go_wp2
        go_ret
        exact ⟨by simp, (by go_grown)⟩

def lawB (a : Int) : Bool := a == 0
def driedF (c : Bool) (h : Int) : Int := if c then h / 40 else h / 4
theorem driedBy_c (s d h : Int) (c : Bool) (h0 : 0 ≤ h) (h1 : h ≤ 400) (w : World) : Calls Try.prog 31 #[.agg #[.int .i64 s, .int .i64 d, .bool c], .int .i64 h] w fun e w' => e = .returned (.int .i64 (driedF c h)) ∧ Below w.heap.size w w' := by
  cases c
  all_goals
    go_enter Try.func31, Try.ntmps31
    go_wp2
    go_ret
    exact ⟨by simp [driedF], (Below.refl _ _).alloc (Nat.le_refl _) _⟩

def dryF (s d h : Int) (c : Bool) : Int := if pondB s d && inB h 0 400 then max 0 (d - driedF c h) else d
end Go.Proofs.Ytdkllicbaiodcaa
