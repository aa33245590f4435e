/- JugsOk, both. -/
import Derived.Test.YtdnknddldfihdaaMem2
namespace Go.Proofs.Ytdnknddldfihdaa
open Go.ChangeShapes Go.WideShapes Go.ChangeAt Go.RowKit
set_option linter.unusedVariables false

def jugsB (g : List Int) : Bool := inB g.length 1 3 && allB g 1 12

set_option maxHeartbeats 400000 in
theorem sJugsOk_c (A : Option Addr) (c : Nat) (g : List Int) (w : World) (hr : RdI w w.heap.size A g) (hl : g.length ≤ 1048576) :
    Calls Try.prog 10 #[.slice A g.length c] w fun e w' => e = .returned (.bool (jugsB g)) ∧ w = w' := by
  go_enter Try.func10, Try.ntmps10
  go_wp2
  go_loop [3] (fun i => ∃ k : Nat, k ≤ g.length ∧ i = .int .i64 k ∧ Hid (allB g 1 12 = allB (g.drop k) 1 12)) (fun i => g.length - (intOf i).toNat)
  case atStart => exact ⟨0, Nat.zero_le _, rfl, rfl⟩
  case round =>
    obtain ⟨k, hk, rfl, hall⟩ := hrel
    by_cases hlt : k < g.length
    · obtain ⟨b, off, x, rfl, hb, hc, hx, hd⟩ := hr.at_ hlt
      cases hin : inB x 1 12
      · go_wp2_with (go_at_call 33; refine (l01In_c _ _ _ _).mono ?_; rintro e w' ⟨rfl, rfl⟩)
        go_ret
        exact ⟨by unfold jugsB; rw [hall.out, hd.out, allB_cons, hin, Bool.false_and, Bool.and_false]; rfl, rfl⟩
      · go_wp2_with (go_at_call 33; refine (l01In_c _ _ _ _).mono ?_; rintro e w' ⟨rfl, rfl⟩)
        go_round
        case rel => exact ⟨k + 1, by omega, by go_num, by rw [hall.out, hd.out, allB_cons, hin]; exact Bool.true_and _⟩
        case measure => simp [intOf]; omega
    · go_wp2_with (go_at_call 33; refine (l01In_c _ _ _ _).mono ?_; rintro e w' ⟨rfl, rfl⟩)
      go_ret
      exact ⟨by unfold jugsB; rw [hall.out, drop_end g hk hlt, allB_nil, Bool.and_true]; rfl, rfl⟩

theorem iJugsOk_c (A : Option Addr) (c : Nat) (g : List Int) (w : World) (hr : RdI w w.heap.size A g) (hl : g.length ≤ 1048576) :
    Calls Try.prog 12 #[.slice A g.length c] w fun e w' => e = .returned (.bool (jugsB g)) ∧ w = w' := by
  unfold jugsB
  cases hin : inB g.length 1 3
  · go_enter Try.func12, Try.ntmps12
    go_wp2_with (go_at_call 34; refine (within_c _ _ _ _).mono ?_; rintro e w' ⟨rfl, rfl⟩)
    go_ret
    exact ⟨by simp, rfl⟩
  · go_enter Try.func12, Try.ntmps12
    go_wp2_with fail
    refine (within_c _ _ _ _).mono ?_
    rintro e w' ⟨rfl, rfl⟩
    go_wp2_with fail
    refine (allWithin_c _ _ _ _ _ _ hr hl).mono ?_
    rintro e w' ⟨rfl, rfl⟩
    go_wp2
    go_ret
    exact ⟨by simp, rfl⟩

end Go.Proofs.Ytdnknddldfihdaa
