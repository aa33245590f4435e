/- The small functions on states: equal, less, the code, has; both. -/
import Derived.Test.YtdnknddldfihdaaPlain
import Derived.Test.YtdnknddldfihdaaOwn2
import Derived.Test.YtdnknddldfihdaaRow
namespace Go.Proofs.Ytdnknddldfihdaa
open Go.ChangeShapes Go.WideShapes Go.ChangeAt Go.RowKit
set_option linter.unusedVariables false

theorem drew2 (w : World) (q n : Nat) : (w.drewN q).drewN n = w.drewN (q + n) := World.drewN_drewN ..
def DrewP (w : World) (v : Value) (e : Ending) (w' : World) : Prop := e = .returned v ∧ ∃ q, w' = w.drewN q
set_option maxHeartbeats 400000 in
theorem equalS_c (A A' : Option Addr) (c c' : Nat) (xs ys : List Int) (w : World) (hr : RdI w w.heap.size A xs) (hr' : RdI w w.heap.size A' ys) (hl : xs.length ≤ 1048576) :
    Calls Try.prog 43 #[.slice A xs.length c, .slice A' ys.length c'] w (DrewP w (.bool (xs == ys))) := by
  by_cases hlen : xs.length = ys.length
  · have hlb : ((xs.length : Int) != (ys.length : Int)) = false := by simp [hlen]
    have hlen' := Lib.hid hlen
    clear hlen
    go_enter Try.func43, Try.ntmps43
    go_wp2
    go_loopw [13] (fun i wr => ∃ k q : Nat, k ≤ xs.length ∧ i = .int .i64 k ∧ wr = w.drewN q ∧ Hid ((xs == ys) = (xs.drop k == ys.drop k))) (fun i _ => xs.length - (intOf i).toNat)
    case atStart => exact ⟨0, 0, Nat.zero_le _, rfl, rfl, rfl⟩
    case round =>
      obtain ⟨k, q, hk, rfl, rfl, hq⟩ := hrel
      by_cases hlt : k < xs.length
      · have hlt' : k < ys.length := by have := hlen'.out; omega
        obtain ⟨b, off, x, rfl, hbb, hc, hx, hd⟩ := hr.at_ hlt
        obtain ⟨b', off', x', rfl, hbb', hc', hx', hd'⟩ := hr'.at_ hlt'
        cases hxx : x == x'
        · have hne : (x != x') = true := by simp [bne, hxx]
          go_wp2
          go_quiet (fail)
          go_wp2
          go_ret
          exact ⟨by rw [hq.out, hd.out, hd'.out, List.cons_beq_cons, hxx]; rfl, _, drew2 _ _ _⟩
        · have hne : (x != x') = false := by simp [bne, hxx]
          go_wp2
          go_quiet (fail)
          go_wp2
          go_roundw
          case rel => exact ⟨k + 1, _, by omega, by go_num, rfl, by rw [hq.out, hd.out, hd'.out, List.cons_beq_cons, hxx]; exact Bool.true_and _⟩
          case measure => simp [intOf]; omega
      · go_wp2
        go_ret
        exact ⟨by rw [hq.out, drop_end xs hk hlt, drop_end ys (by have := hlen'.out; omega) (by have := hlen'.out; omega)]; rfl, _, rfl⟩
  · have hlb : ((xs.length : Int) != (ys.length : Int)) = true := by simp; omega
    have hf : (xs == ys) = false := beq_eq_false_iff_ne.2 (fun h => hlen (by rw [h]))
    rw [hf]
    clear hf
    go_enter Try.func43, Try.ntmps43
    go_wp2
    go_ret
    exact ⟨rfl, 0, rfl⟩
theorem isNaN_c (a : Int) (w : World) : Calls Try.prog 72 #[.int .i64 a] w fun e w' => e = .returned (.bool false) ∧ w = w' := by
  have h : (a != a) = false := by simp
  go_enter Try.func72, Try.ntmps72
  go_wp2
  go_ret
  exact ⟨rfl, rfl⟩
def cmpI (x y : Int) : Int := if x < y then -1 else if y < x then 1 else 0
theorem compare_c (x y : Int) (w : World) : Calls Try.prog 59 #[.int .i64 x, .int .i64 y] w fun e w' => e = .returned (.int .i64 (cmpI x y)) ∧ w = w' := by
  unfold cmpI
  by_cases h1 : x < y
  · rw [if_pos h1]
    go_enter Try.func59, Try.ntmps59
    go_wp2_with (go_at_call 72; refine (isNaN_c _ _).mono ?_; rintro e w' ⟨rfl, rfl⟩)
    go_ret
    exact ⟨rfl, rfl⟩
  · rw [if_neg h1]
    by_cases h2 : y < x
    · rw [if_pos h2]
      go_enter Try.func59, Try.ntmps59
      go_wp2_with (go_at_call 72; refine (isNaN_c _ _).mono ?_; rintro e w' ⟨rfl, rfl⟩)
      go_ret
      exact ⟨rfl, rfl⟩
    · rw [if_neg h2]
      go_enter Try.func59, Try.ntmps59
      go_wp2_with (go_at_call 72; refine (isNaN_c _ _).mono ?_; rintro e w' ⟨rfl, rfl⟩)
      go_ret
      exact ⟨rfl, rfl⟩
theorem cmpL_lt {a b : Int} (ar br : List Int) (h : a < b) : cmpL (a :: ar) (b :: br) = -1 := by rw [cmpL, if_pos h]
theorem cmpL_gt {a b : Int} (ar br : List Int) (h : b < a) : cmpL (a :: ar) (b :: br) = 1 := by rw [cmpL, if_neg (by omega), if_pos h]
theorem cmpL_eq (a : Int) (ar br : List Int) : cmpL (a :: ar) (a :: br) = cmpL ar br := by rw [cmpL, if_neg (by omega), if_neg (by omega)]
theorem cmpL_nil (ys : List Int) (h : 0 < ys.length) : cmpL [] ys = -1 := by cases ys with | nil => cases h | cons => rfl
set_option maxHeartbeats 1000000 in
theorem cmpS_c (A A' : Option Addr) (c c' : Nat) (xs ys : List Int) (w : World) (hr : RdI w w.heap.size A xs) (hr' : RdI w w.heap.size A' ys) (hl : xs.length ≤ 1048576) (hl' : ys.length ≤ 1048576) :
    Calls Try.prog 48 #[.slice A xs.length c, .slice A' ys.length c'] w fun e w' => e = .returned (.int .i64 (cmpL xs ys)) ∧ w = w' := by
  go_enter Try.func48, Try.ntmps48
  go_wp2
  go_loop [11] (fun i => ∃ k : Nat, k ≤ xs.length ∧ k ≤ ys.length ∧ i = .int .i64 k ∧ Hid (cmpL xs ys = cmpL (xs.drop k) (ys.drop k))) (fun i => xs.length - (intOf i).toNat)
  case atStart => exact ⟨0, Nat.zero_le _, Nat.zero_le _, rfl, rfl⟩
  case round =>
    obtain ⟨k, hk, hk2, rfl, hq⟩ := hrel
    by_cases hlt : k < xs.length
    · obtain ⟨b, off, x, rfl, hbb, hc, hx, hd⟩ := hr.at_ hlt
      by_cases hlt2 : k < ys.length
      · have hge : ¬ (ys.length : Int) ≤ (k : Int) := by omega
        obtain ⟨b', off', x', rfl, hbb', hc', hx', hd'⟩ := hr'.at_ hlt2
        have hcm := Lib.hid (compare_c x x' w)
        by_cases h1 : x < x'
        · have h2 : cmpI x x' = -1 := if_pos h1
          rw [h2] at hcm
          clear h2
          go_wp2_with fail
          refine hcm.out.mono ?_
          rintro e w' ⟨rfl, rfl⟩
          go_wp2
          go_ret
          exact ⟨by rw [hq.out, hd.out, hd'.out, cmpL_lt _ _ h1]; rfl, rfl⟩
        · by_cases h3 : x' < x
          · have h2 : cmpI x x' = 1 := by unfold cmpI; rw [if_neg h1, if_pos h3]
            rw [h2] at hcm
            clear h2
            go_wp2_with fail
            refine hcm.out.mono ?_
            rintro e w' ⟨rfl, rfl⟩
            go_wp2
            go_ret
            exact ⟨by rw [hq.out, hd.out, hd'.out, cmpL_gt _ _ h3]; rfl, rfl⟩
          · obtain rfl : x = x' := by omega
            have h2 : cmpI x x = 0 := by unfold cmpI; rw [if_neg h1, if_neg h3]
            rw [h2] at hcm
            clear h2
            go_wp2_with fail
            refine hcm.out.mono ?_
            rintro e w' ⟨rfl, rfl⟩
            go_wp2
            go_round
            case rel => exact ⟨k + 1, by omega, by omega, by go_num, by rw [hq.out, hd.out, hd'.out, cmpL_eq]; rfl⟩
            case measure => simp [intOf]; omega
      · have hge : (ys.length : Int) ≤ (k : Int) := by omega
        go_wp2
        go_ret
        exact ⟨by rw [hq.out, hd.out, drop_end ys hk2 hlt2]; rfl, rfl⟩
    · have hkx : k = xs.length := by omega
      have hq' := Lib.hid (show cmpL xs ys = cmpL [] (ys.drop xs.length) by rw [hq.out, drop_end xs hk hlt, hkx])
      have hkI : ¬ (k : Int) < (xs.length : Int) := by omega
      by_cases hlt2 : xs.length < ys.length
      · have hI : (xs.length : Int) < (ys.length : Int) := by omega
        clear hkx hq
        go_wp2
        go_ret
        exact ⟨by rw [hq'.out, cmpL_nil _ (by simp; omega)]; rfl, rfl⟩
      · have hI : ¬ (xs.length : Int) < (ys.length : Int) := by omega
        clear hq
        go_wp2
        go_ret
        exact ⟨by rw [hq'.out, List.drop_of_length_le (by omega)]; rfl, rfl⟩
set_option maxHeartbeats 400000 in
theorem hasInt_c (A : Option Addr) (c : Nat) (xs : List Int) (v : Int) (w : World) (hr : RdI w w.heap.size A xs) (hl : xs.length ≤ 1048576) :
    Calls Try.prog 40 #[.slice A xs.length c, .int .i64 v] w fun e w' => e = .returned (.bool (hasL xs v)) ∧ w = w' := by
  go_enter Try.func40, Try.ntmps40
  go_wp2
  go_loop [9] (fun i => ∃ k : Nat, k ≤ xs.length ∧ i = .int .i64 k ∧ Hid (hasL xs v = hasL (xs.drop k) v)) (fun i => xs.length - (intOf i).toNat)
  case atStart => exact ⟨0, Nat.zero_le _, rfl, rfl⟩
  case round =>
    obtain ⟨k, hk, rfl, hall⟩ := hrel
    by_cases hlt : k < xs.length
    · obtain ⟨b, off, x, rfl, hb, hc, hx, hd⟩ := hr.at_ hlt
      cases hin : x == v
      · go_wp2
        go_round
        case rel => exact ⟨k + 1, by omega, by go_num, by
          rw [hall.out, hd.out]
          unfold hasL
          rw [List.contains_cons, show (v == x) = false by rw [Bool.eq_false_iff] at hin ⊢; intro h; exact hin (by simpa using (by simpa using h : v = x).symm), Bool.false_or]; rfl⟩
        case measure => simp [intOf]; omega
      · go_wp2
        go_ret
        exact ⟨by
          rw [hall.out, hd.out]
          unfold hasL
          rw [List.contains_cons, show (v == x) = true by simpa using (by simpa using hin : x = v).symm, Bool.true_or]; rfl, rfl⟩
    · go_wp2
      go_ret
      exact ⟨by rw [hall.out, drop_end xs hk hlt]; rfl, rfl⟩
theorem lessL_ne {a b : Int} (ar br : List Int) (h : (a == b) = false) : lessL (a :: ar) (b :: br) = decide (a < b) := by rw [lessL_cons, h]; rfl
theorem lessL_eq {a b : Int} (ar br : List Int) (h : (a == b) = true) : lessL (a :: ar) (b :: br) = lessL ar br := by rw [lessL_cons, h]; rfl
set_option maxHeartbeats 400000 in
theorem lessS_c (A A' : Option Addr) (c c' : Nat) (xs ys : List Int) (w : World) (hr : RdI w w.heap.size A xs) (hr' : RdI w w.heap.size A' ys) (hl : xs.length ≤ 1048576) (hlen : ys.length = xs.length) :
    Calls Try.prog 51 #[.slice A xs.length c, .slice A' ys.length c'] w (DrewP w (.bool (lessL xs ys))) := by
  have hlen' := Lib.hid hlen
  rw [hlen]
  clear hlen
  go_enter Try.func51, Try.ntmps51
  go_wp2
  go_loopw [5] (fun i wr => ∃ k q : Nat, k ≤ xs.length ∧ i = .int .i64 k ∧ wr = w.drewN q ∧ Hid (lessL xs ys = lessL (xs.drop k) (ys.drop k))) (fun i _ => xs.length - (intOf i).toNat)
  case atStart => exact ⟨0, 0, Nat.zero_le _, rfl, rfl, rfl⟩
  case round =>
    obtain ⟨k, q, hk, rfl, rfl, hq⟩ := hrel
    by_cases hlt : k < xs.length
    · have hlt' : k < ys.length := by have := hlen'.out; omega
      obtain ⟨b, off, x, rfl, hbb, hc, hx, hd⟩ := hr.at_ hlt
      obtain ⟨b', off', x', rfl, hbb', hc', hx', hd'⟩ := hr'.at_ hlt'
      cases hxx : x == x'
      · have hne : (x != x') = true := by simp [bne, hxx]
        have hq' := Lib.hid (show lessL xs ys = decide (x < x') by rw [hq.out, hd.out, hd'.out, lessL_ne _ _ hxx])
        clear hq hd hd'
        go_wp2
        go_quiet (fail)
        go_wp2
        go_quiet (fail)
        go_wp2
        go_ret
        exact ⟨by rw [hq'.out]; rfl, _, by rw [drew2, drew2]⟩
      · have hne : (x != x') = false := by simp [bne, hxx]
        go_wp2
        go_quiet (fail)
        go_wp2
        go_roundw
        case rel => exact ⟨k + 1, _, by omega, by go_num, rfl, by rw [hq.out, hd.out, hd'.out, lessL_eq _ _ hxx]; rfl⟩
        case measure => simp [intOf]; omega
    · have hq' := Lib.hid (show lessL xs ys = false by rw [hq.out, drop_end xs hk hlt]; rfl)
      clear hq
      go_wp2
      go_ret
      exact ⟨by rw [hq'.out]; rfl, _, rfl⟩
set_option maxHeartbeats 400000 in
theorem sameS_c (A A' : Option Addr) (c c' : Nat) (xs ys : List Int) (w : World) (hr : RdI w w.heap.size A xs) (hr' : RdI w w.heap.size A' ys) (hl : xs.length ≤ 1048576) (hlen : ys.length = xs.length) :
    Calls Try.prog 50 #[.slice A xs.length c, .slice A' ys.length c'] w (DrewP w (.bool (xs == ys))) := by
  have h1 := Lib.hid (lessS_c A A' c c' xs ys w hr hr' hl hlen)
  have h2 := Lib.hid (fun q => lessS_c A' A c' c ys xs (w.drewN q) hr' hr (by omega) hlen.symm)
  have h3 := Lib.hid (sameL_iff (a := xs) (b := ys) hlen.symm)
  rw [← h3.out]
  unfold sameL
  generalize lessL xs ys = u at h1 ⊢
  generalize lessL ys xs = v at h2 ⊢
  clear h3 hlen
  cases u
  · go_enter Try.func50, Try.ntmps50
    go_wp2_with fail
    refine h1.out.mono ?_
    rintro e w1 ⟨rfl, q, rfl⟩
    go_wp2_with fail
    refine (h2.out q).mono ?_
    rintro e w1 ⟨rfl, q2, rfl⟩
    go_wp2
    go_ret
    exact ⟨rfl, q + q2, rfl⟩
  · go_enter Try.func50, Try.ntmps50
    go_wp2_with fail
    refine h1.out.mono ?_
    rintro e w1 ⟨rfl, q, rfl⟩
    go_wp2
    go_ret
    exact ⟨rfl, q, rfl⟩
def smallI : Nat → Int → Prop
  | 0, v => v = 0
  | 1, v => 0 ≤ v ∧ v ≤ 12
  | 2, v => 0 ≤ v ∧ v ≤ 168
  | _, v => 0 ≤ v ∧ v ≤ 2196
theorem small_next {k : Nat} {v x : Int} (hk : k < 3) (h : smallI k v) (h0 : 0 ≤ x) (h1 : x ≤ 12) : smallI (k + 1) (13 * v + x) ∧ 0 ≤ v ∧ v ≤ 168 := by
  rcases k with _ | _ | _ | k <;> simp only [smallI] at h ⊢ <;> omega
set_option maxHeartbeats 400000 in
theorem codeS_c (A : Option Addr) (c : Nat) (xs : List Int) (w : World) (hr : RdI w w.heap.size A xs) (hl : xs.length ≤ 3) (hx : ∀ x ∈ xs, 0 ≤ x ∧ x ≤ 12) :
    Calls Try.prog 60 #[.slice A xs.length c] w fun e w' => e = .returned (.int .i64 (codeL xs)) ∧ w = w' := by
  have hx' := Lib.hid hx
  clear hx
  go_enter Try.func60, Try.ntmps60
  go_wp2
  go_loop [3, 4] (fun n i => ∃ (k : Nat) (v : Int), k ≤ xs.length ∧ n = .int .i64 v ∧ i = .int .i64 k ∧ Hid (smallI k v) ∧ Hid (codeL xs = (xs.drop k).foldl (fun n x => 13 * n + x) v)) (fun _ i => xs.length - (intOf i).toNat)
  case atStart => exact ⟨0, 0, Nat.zero_le _, rfl, rfl, rfl, rfl⟩
  case round =>
    obtain ⟨k, v, hk, rfl, rfl, hs, hq⟩ := hrel
    by_cases hlt : k < xs.length
    · obtain ⟨b, off, x, rfl, hb, hc, hx, hd⟩ := hr.at_ hlt
      obtain ⟨x0, x1⟩ := hx'.out x (List.mem_of_getElem? hx.out)
      obtain ⟨hs2, v0, v1⟩ := small_next (show k < 3 by omega) hs.out x0 x1
      have hs2 := Lib.hid hs2
      go_wp2
      go_round
      case rel => exact ⟨k + 1, 13 * v + x, by omega, by go_num, by go_num, hs2, by rw [hq.out, hd.out]; rfl⟩
      case measure => simp [intOf]; omega
    · go_wp2
      go_ret
      exact ⟨by rw [hq.out, drop_end xs hk hlt]; rfl, rfl⟩
end Go.Proofs.Ytdnknddldfihdaa
