/- GroundOk, onGround and slices.Max. -/
import Derived.Test.YtoongfjidenbnaaMem2
namespace Go.Proofs.Ytoongfjidenbnaa
open Go.ChangeShapes Go.WideShapes Go.ChangeAt Go.RowKit
set_option linter.unusedVariables false

def groundB (g : List Int) : Bool := inB g.length 1 30 && allB g 0 100

set_option maxHeartbeats 400000 in
theorem sGroundOk_c (A : Option Addr) (c : Nat) (g : List Int) (w : World) (hr : RdI w w.heap.size A g) (hl : g.length ≤ 1048576) :
    Calls Try.prog 11 #[.slice A g.length c] w fun e w' => e = .returned (.bool (groundB g)) ∧ w = w' := by
  go_enter Try.func11, Try.ntmps11
  go_wp2
  go_loop [3] (fun i => ∃ k : Nat, k ≤ g.length ∧ i = .int .i64 k ∧ Hid (allB g 0 100 = allB (g.drop k) 0 100)) (fun i => g.length - (intOf i).toNat)
  case atStart => exact ⟨0, Nat.zero_le _, rfl, rfl⟩
  case round =>
    obtain ⟨k, hk, rfl, hall⟩ := hrel
    by_cases hlt : k < g.length
    · obtain ⟨b, off, x, rfl, hb, hc, hx, hd⟩ := hr.at_ hlt
      cases hin : inB x 0 100
      · go_wp2_with (go_at_call 32; refine (l01In_c _ _ _ _).mono ?_; rintro e w' ⟨rfl, rfl⟩)
        go_ret
        exact ⟨by unfold groundB; rw [hall.out, hd.out, allB_cons, hin, Bool.false_and, Bool.and_false]; rfl, rfl⟩
      · go_wp2_with (go_at_call 32; refine (l01In_c _ _ _ _).mono ?_; rintro e w' ⟨rfl, rfl⟩)
        go_round
        case rel => exact ⟨k + 1, by omega, by go_num, by rw [hall.out, hd.out, allB_cons, hin]; exact Bool.true_and _⟩
        case measure => simp [intOf]; omega
    · go_wp2_with (go_at_call 32; refine (l01In_c _ _ _ _).mono ?_; rintro e w' ⟨rfl, rfl⟩)
      go_ret
      exact ⟨by unfold groundB; rw [hall.out, drop_end g hk hlt, allB_nil, Bool.and_true]; rfl, rfl⟩

theorem iGroundOk_c (A : Option Addr) (c : Nat) (g : List Int) (w : World) (hr : RdI w w.heap.size A g) (hl : g.length ≤ 1048576) :
    Calls Try.prog 13 #[.slice A g.length c] w fun e w' => e = .returned (.bool (groundB g)) ∧ w = w' := by
  unfold groundB
  cases hin : inB g.length 1 30
  · go_enter Try.func13, Try.ntmps13
    go_wp2_with (go_at_call 33; refine (within_c _ _ _ _).mono ?_; rintro e w' ⟨rfl, rfl⟩)
    go_ret
    exact ⟨by simp, rfl⟩
  · go_enter Try.func13, Try.ntmps13
    go_wp2_with fail
    refine (within_c _ _ _ _).mono ?_
    rintro e w' ⟨rfl, rfl⟩
    go_wp2_with fail
    refine (allWithin_c _ _ _ _ _ _ hr hl).mono ?_
    rintro e w' ⟨rfl, rfl⟩
    go_wp2
    go_ret
    exact ⟨by simp, rfl⟩

def onB (g : List Int) (k : Int) : Bool := groundB g && inB k 0 (g.length - 1)
theorem onB_b (g : List Int) (k : Int) (h : onB g k = true) : 0 ≤ k ∧ k < g.length ∧ g.length ≤ 30 ∧ ∀ x ∈ g, 0 ≤ x ∧ x ≤ 100 := by
  unfold onB groundB at h
  simp only [Bool.and_eq_true, inB_iff, allB_iff] at h
  exact ⟨by omega, by omega, by omega, h.1.2⟩

theorem onGround_c (A : Option Addr) (c : Nat) (g : List Int) (k : Int) (w : World) (hr : RdI w w.heap.size A g) (hl : g.length ≤ 1048576) :
    Calls Try.prog 35 #[.slice A g.length c, .int .i64 k] w fun e w' => e = .returned (.bool (onB g k)) ∧ w = w' := by
  unfold onB
  cases hin : groundB g
  · go_enter Try.func35, Try.ntmps35
    go_wp2_with fail
    refine (iGroundOk_c _ _ _ _ hr hl).mono ?_
    rintro e w' ⟨rfl, rfl⟩
    go_wp2
    go_ret
    exact ⟨by simp, rfl⟩
  · go_enter Try.func35, Try.ntmps35
    go_wp2_with fail
    refine (iGroundOk_c _ _ _ _ hr hl).mono ?_
    rintro e w' ⟨rfl, rfl⟩
    go_wp2_with fail
    refine (within_c _ _ _ _).mono ?_
    rintro e w' ⟨rfl, rfl⟩
    go_wp2
    go_ret
    exact ⟨by simp, rfl⟩

/-- The greatest of m and a list. -/
def mx : Int → List Int → Int
  | m, [] => m
  | m, x :: t => mx (max m x) t
theorem mx_b (t : List Int) : ∀ m, 0 ≤ m → m ≤ 100 → (∀ x ∈ t, 0 ≤ x ∧ x ≤ 100) → 0 ≤ mx m t ∧ mx m t ≤ 100 := by
  induction t with
  | nil => intro m h0 h1 _; exact ⟨h0, h1⟩
  | cons x t ih =>
    intro m h0 h1 h
    have := h x (List.mem_cons_self ..)
    exact ih (max m x) (by omega) (by omega) (fun y hy => h y (List.mem_cons_of_mem _ hy))
theorem mx_first (x : Int) (t : List Int) (h : 0 ≤ x) : mx x t = mx 0 (x :: t) := by
  show mx x t = mx (max 0 x) t
  rw [Int.max_eq_right h]

set_option maxHeartbeats 400000 in
theorem Max_c (A : Option Addr) (n c : Nat) (xs : List Int) (w : World) (hr : RdI w w.heap.size A xs) (hl : xs.length ≤ 1048576) (hn : xs.length = n) (h0 : 0 < n) (hb : ∀ x ∈ xs, 0 ≤ x ∧ x ≤ 100) :
    Calls Try.prog 36 #[.slice A n c] w fun e w' => e = .returned (.int .i64 (mx 0 xs)) ∧ w = w' := by
  subst hn
  obtain ⟨b, off, x0, rfl, hbb, hc0, hx0, hd0⟩ := hr.at_ h0
  have hc0' : w.cell? ⟨b, off, none⟩ = some (.int .i64 x0) := hc0
  have hne : (0 : Int) < (xs.length : Int) := by omega
  have hx00 := (hb x0 (List.mem_of_getElem? hx0.out)).1
  have hstart := Lib.hid (show mx 0 xs = mx x0 (xs.drop 1) by
    have e : xs = x0 :: xs.drop 1 := by simpa using hd0.out
    have e2 := mx_first x0 (xs.drop 1) hx00
    rw [← e] at e2
    exact e2.symm)
  go_enter Try.func36, Try.ntmps36
  go_wp2
  go_loop [3, 4] (fun m i => ∃ (k : Nat) (y : Int), 1 ≤ k ∧ k ≤ xs.length ∧ i = .int .i64 k ∧ m = .int .i64 y ∧ Hid (mx 0 xs = mx y (xs.drop k))) (fun _ i => xs.length - (intOf i).toNat)
  case atStart => exact ⟨1, x0, Nat.le_refl _, h0, rfl, rfl, hstart⟩
  case round =>
    obtain ⟨k, y, hk0, hk, rfl, rfl, hm⟩ := hrel
    by_cases hlt : k < xs.length
    · obtain ⟨b', off', x, hA, hbb', hc, hx, hd⟩ := hr.at_ hlt
      injection hA with hA
      injection hA with e1 e2
      subst e1 e2
      by_cases hyx : y < x
      · go_wp2
        go_round
        case rel => exact ⟨k + 1, x, by omega, by omega, by go_num, rfl, by rw [hm.out, hd.out]; show mx (max y x) _ = _; rw [Int.max_eq_right (by omega)]⟩
        case measure => simp [intOf]; omega
      · go_wp2
        go_round
        case rel => exact ⟨k + 1, y, by omega, by omega, by go_num, rfl, by rw [hm.out, hd.out]; show mx (max y x) _ = _; rw [Int.max_eq_left (by omega)]⟩
        case measure => simp [intOf]; omega
    · go_wp2
      go_ret
      exact ⟨by rw [hm.out, drop_end xs hk hlt]; rfl, rfl⟩
end Go.Proofs.Ytoongfjidenbnaa
