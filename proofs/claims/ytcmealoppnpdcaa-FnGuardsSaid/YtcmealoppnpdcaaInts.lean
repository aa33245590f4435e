/- Contracts of the small functions over ints and slices of ints. -/
import Derived.Test.YtcmealoppnpdcaaMem
namespace Go.Proofs.Ytcmealoppnpdcaa
open Go.ChangeShapes Go.WideShapes Go.ChangeAt Go.RowKit

theorem l01In_c (n lo hi : Int) (w : World) : Calls Try.prog 29 #[.int .i64 n, .int .i64 lo, .int .i64 hi] w fun e w' => e = .returned (.bool (inB n lo hi)) ∧ w = w' := by
  unfold inB
  go_enter Try.func29, Try.ntmps29
  go_wp2
  all_goals (go_ret; exact ⟨by simp [*]; try omega, rfl⟩)
theorem within_c (n lo hi : Int) (w : World) : Calls Try.prog 31 #[.int .i64 n, .int .i64 lo, .int .i64 hi] w fun e w' => e = .returned (.bool (inB n lo hi)) ∧ w = w' := by
  unfold inB
  go_enter Try.func31, Try.ntmps31
  go_wp2
  all_goals (go_ret; exact ⟨by simp [*]; try omega, rfl⟩)

def allB (xs : List Int) (lo hi : Int) : Bool := xs.all fun x => inB x lo hi
theorem allB_iff (xs : List Int) (lo hi : Int) : allB xs lo hi = true ↔ ∀ x ∈ xs, lo ≤ x ∧ x ≤ hi := by simp [allB, inB_iff]
theorem allB_nil (lo hi : Int) : allB [] lo hi = true := rfl
theorem allB_cons (x : Int) (xs : List Int) (lo hi : Int) : allB (x :: xs) lo hi = (inB x lo hi && allB xs lo hi) := rfl

theorem infoInt : (Try.prog.info? 3).map (fun i => (i.zero, i.size, i.bytes)) = some (some (.int .i64 0), 1, 8) := by kernel_rfl

set_option maxHeartbeats 400000 in
theorem eqIntS_c (A A' : Option Addr) (c c' : Nat) (xs ys : List Int) (w : World) (hr : RdI w w.heap.size A xs) (hr' : RdI w w.heap.size A' ys) (hl : xs.length ≤ 1048576) :
    Calls Try.prog 18 #[.slice A xs.length c, .slice A' ys.length c'] w fun e w' => e = .returned (.bool (xs == ys)) ∧ Below w.heap.size w w' := by
  by_cases hlen : xs.length = ys.length
  · have hlb : ((xs.length : Int) != (ys.length : Int)) = false := by simp [hlen]
    have hlen' := Lib.hid hlen
    clear hlen
    go_enter Try.func18, Try.ntmps18
    go_wp2
    go_loopw [5] (fun i wr => ∃ k : Nat, k ≤ xs.length ∧ i = .int .i64 k ∧ Below w.heap.size w wr ∧ Hid ((xs == ys) = (xs.drop k == ys.drop k))) (fun i _ => xs.length - (intOf i).toNat)
    case atStart => exact ⟨0, Nat.zero_le _, rfl, Below.refl _ _, rfl⟩
    case round =>
      obtain ⟨k, hk, rfl, hb, hq⟩ := hrel
      by_cases hlt : k < xs.length
      · have hlt' : k < ys.length := by have := hlen'.out; omega
        obtain ⟨b, off, x, rfl, hbb, hc, hx, hd⟩ := (hr.below hb (Nat.le_refl _)).at_ hlt
        obtain ⟨b', off', x', rfl, hbb', hc', hx', hd'⟩ := (hr'.below hb (Nat.le_refl _)).at_ hlt'
        cases hxx : x == x'
        · have hne : (x != x') = true := by simp [bne, hxx]
          go_wp2
          go_quiet (fail)
          go_wp2
          go_ret
          exact ⟨by rw [hq.out, hd.out, hd'.out, List.cons_beq_cons, hxx]; rfl, below_drewN hb _⟩
        · have hne : (x != x') = false := by simp [bne, hxx]
          go_wp2
          go_quiet (fail)
          go_wp2
          go_roundw
          case rel => exact ⟨k + 1, by omega, by go_num, below_drewN hb _, by rw [hq.out, hd.out, hd'.out, List.cons_beq_cons, hxx]; exact Bool.true_and _⟩
          case measure => simp [intOf]; omega
      · go_wp2
        go_ret
        exact ⟨by rw [hq.out, drop_end xs hk hlt, drop_end ys (by have := hlen'.out; omega) (by have := hlen'.out; omega)]; rfl, hb⟩
  · have hlb : ((xs.length : Int) != (ys.length : Int)) = true := by simp; omega
    have hf : (xs == ys) = false := beq_eq_false_iff_ne.2 (fun h => hlen (by rw [h]))
    rw [hf]
    clear hf
    go_enter Try.func18, Try.ntmps18
    go_wp2
    go_ret
    exact ⟨rfl, Below.refl _ _⟩
end Go.Proofs.Ytcmealoppnpdcaa
