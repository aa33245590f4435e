/- Contracts of the small functions over ints and slices of ints. -/
import Derived.Test.YtdnknddldfihdaaMem
namespace Go.Proofs.Ytdnknddldfihdaa
open Go.ChangeShapes Go.WideShapes Go.ChangeAt Go.RowKit

theorem l01In_c (n lo hi : Int) (w : World) : Calls Try.prog 33 #[.int .i64 n, .int .i64 lo, .int .i64 hi] w fun e w' => e = .returned (.bool (inB n lo hi)) ∧ w = w' := by
  unfold inB
  go_enter Try.func33, Try.ntmps33
  go_wp2
  all_goals (go_ret; exact ⟨by simp [*]; try omega, rfl⟩)
theorem within_c (n lo hi : Int) (w : World) : Calls Try.prog 34 #[.int .i64 n, .int .i64 lo, .int .i64 hi] w fun e w' => e = .returned (.bool (inB n lo hi)) ∧ w = w' := by
  unfold inB
  go_enter Try.func34, Try.ntmps34
  go_wp2
  all_goals (go_ret; exact ⟨by simp [*]; try omega, rfl⟩)

def allB (xs : List Int) (lo hi : Int) : Bool := xs.all fun x => inB x lo hi
theorem allB_iff (xs : List Int) (lo hi : Int) : allB xs lo hi = true ↔ ∀ x ∈ xs, lo ≤ x ∧ x ≤ hi := by simp [allB, inB_iff]
theorem allB_nil (lo hi : Int) : allB [] lo hi = true := rfl
theorem allB_cons (x : Int) (xs : List Int) (lo hi : Int) : allB (x :: xs) lo hi = (inB x lo hi && allB xs lo hi) := rfl

set_option maxHeartbeats 400000 in
theorem allWithin_c (A : Option Addr) (c : Nat) (xs : List Int) (lo hi : Int) (w : World) (hr : RdI w w.heap.size A xs) (hl : xs.length ≤ 1048576) :
    Calls Try.prog 35 #[.slice A xs.length c, .int .i64 lo, .int .i64 hi] w fun e w' => e = .returned (.bool (allB xs lo hi)) ∧ w = w' := by
  go_enter Try.func35, Try.ntmps35
  go_wp2
  go_loop [8, 11] (fun _ i => ∃ k : Nat, k ≤ xs.length ∧ i = .int .i64 k ∧ Hid (allB xs lo hi = allB (xs.drop k) lo hi)) (fun _ i => xs.length - (intOf i).toNat)
  case atStart => exact ⟨0, Nat.zero_le _, rfl, rfl⟩
  case round =>
    obtain ⟨k, hk, rfl, hall⟩ := hrel
    by_cases hlt : k < xs.length
    · obtain ⟨b, off, x, rfl, hb, hc, hx, hd⟩ := hr.at_ hlt
      cases hin : inB x lo hi
      · go_wp2_with (go_at_call 34; refine (within_c _ _ _ _).mono ?_; rintro e w' ⟨rfl, rfl⟩)
        go_ret
        exact ⟨by rw [hall.out, hd.out, allB_cons, hin]; rfl, rfl⟩
      · go_wp2_with (go_at_call 34; refine (within_c _ _ _ _).mono ?_; rintro e w' ⟨rfl, rfl⟩)
        go_round
        case rel => exact ⟨k + 1, by omega, by go_num, by rw [hall.out, hd.out, allB_cons, hin]; exact Bool.true_and _⟩
        case measure => simp [intOf]; omega
    · go_wp2
      go_ret
      exact ⟨by rw [hall.out, drop_end xs hk hlt]; rfl, rfl⟩

theorem infoInt : (Try.prog.info? 3).map (fun i => (i.zero, i.size, i.bytes)) = some (some (.int .i64 0), 1, 8) := by kernel_rfl

set_option maxHeartbeats 400000 in
/-- The copy that a law makes of a slice: a new row. -/
theorem toIntS_c (A : Option Addr) (c : Nat) (xs : List Int) (w : World) (hr : RdI w w.heap.size A xs) (hl : xs.length ≤ 1048576) :
    Calls Try.prog 11 #[.slice A xs.length c] w fun e w' => e = .returned (.slice (some ⟨w.heap.size, 0, none⟩) xs.length xs.length) ∧ Below w.heap.size w w' ∧ Blk w' w.heap.size 3 (ints xs).toArray := by
  have hmk := fun (W : World) => run_make_row' (P := Try.prog) 22 3 (.int .i64 0) 8 Try.underlying22 infoInt rfl .i64 .i64 xs.length (by omega) (by omega) W
  go_enter Try.func11, Try.ntmps11
  go_wp2
  clear hmk
  go_loopw [4] (fun i wr => ∃ k : Nat, k ≤ xs.length ∧ i = .int .i64 k ∧ Below w.heap.size w wr ∧ Blk wr w.heap.size 3 (fillA (ints xs) (.int .i64 0) k)) (fun i _ => xs.length - (intOf i).toNat)
  case atStart => exact ⟨0, Nat.zero_le _, rfl, (Below.refl _ _).alloc (Nat.le_refl _) _, by have := fillA_zero (ints xs) (.int .i64 0); rw [ints_length] at this; rw [← this]; exact Blk.new _ _ _⟩
  case round =>
    obtain ⟨k, hk, rfl, hb, hB⟩ := hrel
    by_cases hlt : k < xs.length
    · obtain ⟨b, off, x, rfl, hbb, hc, hx, hd⟩ := (hr.below hb (Nat.le_refl _)).at_ hlt
      have hcell := (hB.cell k).trans (fillA_at (by simpa using hlt))
      have hfr := hB.frozen k
      go_wp2
      go_roundw
      case rel => exact ⟨k + 1, by omega, by go_num, hb.setCell (Nat.le_refl _) _, by rw [← fillA_set (ints_get hx.out)]; exact hB.set_ k _⟩
      case measure => simp [intOf]; omega
    · obtain rfl : k = xs.length := by omega
      go_wp2
      go_ret
      exact ⟨rfl, hb, by have := fillA_end (ints xs) (.int .i64 0); rw [ints_length] at this; rw [← this]; exact hB⟩

set_option maxHeartbeats 400000 in
theorem eqIntS_c (A A' : Option Addr) (c c' : Nat) (xs ys : List Int) (w : World) (hr : RdI w w.heap.size A xs) (hr' : RdI w w.heap.size A' ys) (hl : xs.length ≤ 1048576) :
    Calls Try.prog 13 #[.slice A xs.length c, .slice A' ys.length c'] w fun e w' => e = .returned (.bool (xs == ys)) ∧ Below w.heap.size w w' := by
  by_cases hlen : xs.length = ys.length
  · have hlb : ((xs.length : Int) != (ys.length : Int)) = false := by simp [hlen]
    have hlen' := Lib.hid hlen
    clear hlen
    go_enter Try.func13, Try.ntmps13
    go_wp2
    go_loopw [5] (fun i wr => ∃ k : Nat, k ≤ xs.length ∧ i = .int .i64 k ∧ Below w.heap.size w wr ∧ Hid ((xs == ys) = (xs.drop k == ys.drop k))) (fun i _ => xs.length - (intOf i).toNat)
    case atStart => exact ⟨0, Nat.zero_le _, rfl, Below.refl _ _, rfl⟩
    case round =>
      obtain ⟨k, hk, rfl, hb, hq⟩ := hrel
      by_cases hlt : k < xs.length
      · have hlt' : k < ys.length := by have := hlen'.out; omega
        obtain ⟨b, off, x, rfl, hbb, hc, hx, hd⟩ := (hr.below hb (Nat.le_refl _)).at_ hlt
        obtain ⟨b', off', x', rfl, hbb', hc', hx', hd'⟩ := (hr'.below hb (Nat.le_refl _)).at_ hlt'
        cases hxx : x == x'
        · have hne : (x != x') = true := by simp [bne, hxx]
          go_wp2
          go_quiet (fail)
          go_wp2
          go_ret
          exact ⟨by rw [hq.out, hd.out, hd'.out, List.cons_beq_cons, hxx]; rfl, below_drewN hb _⟩
        · have hne : (x != x') = false := by simp [bne, hxx]
          go_wp2
          go_quiet (fail)
          go_wp2
          go_roundw
          case rel => exact ⟨k + 1, by omega, by go_num, below_drewN hb _, by rw [hq.out, hd.out, hd'.out, List.cons_beq_cons, hxx]; exact Bool.true_and _⟩
          case measure => simp [intOf]; omega
      · go_wp2
        go_ret
        exact ⟨by rw [hq.out, drop_end xs hk hlt, drop_end ys (by have := hlen'.out; omega) (by have := hlen'.out; omega)]; rfl, hb⟩
  · have hlb : ((xs.length : Int) != (ys.length : Int)) = true := by simp; omega
    have hf : (xs == ys) = false := beq_eq_false_iff_ne.2 (fun h => hlen (by rw [h]))
    rw [hf]
    clear hf
    go_enter Try.func13, Try.ntmps13
    go_wp2
    go_ret
    exact ⟨rfl, Below.refl _ _⟩
end Go.Proofs.Ytdnknddldfihdaa
