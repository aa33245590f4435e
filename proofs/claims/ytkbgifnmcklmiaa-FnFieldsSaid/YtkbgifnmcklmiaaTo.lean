/- A law's copies and comparisons of fields. -/
import Derived.Test.YtkbgifnmcklmiaaField
namespace Go.Proofs.Ytkbgifnmcklmiaa
open Go.ChangeShapes Go.WideShapes Go.ChangeAt Go.RowKit
set_option linter.unusedVariables false

theorem szIntS_c (A : Option Addr) (n c : Nat) (l : Int) (w : World) (hn : n ≤ maxLen) (l0 : 0 ≤ l) (l1 : l ≤ 1048576) : Calls Try.prog 32 #[.slice A n c, .int .i64 l] w fun e w' => e = .returned (.int .i64 (if l < (n : Int) then -1 else l - (n : Int))) ∧ w = w' := by
  unfold maxLen at hn
  by_cases h : l < (n : Int)
  · rw [if_pos h]
    go_enter Try.func32, Try.ntmps32
    go_wp2
    go_ret
    exact ⟨rfl, rfl⟩
  · rw [if_neg h]
    go_enter Try.func32, Try.ntmps32
    go_wp2
    go_ret
    exact ⟨rfl, rfl⟩
theorem szField_c (a : Int) (A : Option Addr) (n c : Nat) (l : Int) (w : World) (hn : n ≤ maxLen) (l0 : 0 ≤ l) (l1 : l ≤ 1048576) : Calls Try.prog 10 #[.agg #[.int .i64 a, .slice A n c], .int .i64 l] w fun e w' => e = .returned (.int .i64 (if l < (n : Int) then -1 else l - (n : Int))) ∧ Below w.heap.size w w' := by
  have P := Blk.new w 24 #[.int .i64 a, .slice A n c]
  have H := (Below.refl w.heap.size w).alloc (Nat.le_refl _) (.cells #[.int .i64 a, .slice A n c] 24)
  have hS := Lib.hid (fun W => szIntS_c A n c l W hn l0 l1)
  unfold maxLen at hn
  by_cases h : l < (n : Int)
  · rw [if_pos h] at hS ⊢
    go_enter Try.func10, Try.ntmps10
    go_wp2_with fail
    refine (hS.out _).mono ?_
    rintro e w' ⟨rfl, rfl⟩
    go_wp2
    go_ret
    exact ⟨rfl, H⟩
  · rw [if_neg h] at hS ⊢
    have h2 : ¬ l - (n : Int) < 0 := by omega
    go_enter Try.func10, Try.ntmps10
    go_wp2_with fail
    refine (hS.out _).mono ?_
    rintro e w' ⟨rfl, rfl⟩
    go_wp2
    go_ret
    exact ⟨rfl, H⟩
/-- A copy of a field: its own row. -/
def RetFld (w : World) (a : Int) (ws : List Int) (e : Ending) (w' : World) : Prop := ∃ g, e = .returned (.agg #[.int .i64 a, .slice (some ⟨g, 0, none⟩) ws.length ws.length]) ∧ w.heap.size ≤ g ∧ Blk w' g 3 (ints ws).toArray ∧ Below w.heap.size w w'
set_option maxHeartbeats 1000000 in
theorem toField_c (a : Int) (A : Option Addr) (c : Nat) (ws : List Int) (w : World) (hr : RdI w w.heap.size A ws) (hl : ws.length ≤ 1048576) : Calls Try.prog 12 #[.agg #[.int .i64 a, .slice A ws.length c]] w (RetFld w a ws) := by
  have P := ((Blk.new w 24 #[.int .i64 a, .slice A ws.length c]).alloc (.cells #[.int .i64 0, .slice none 0 0] 27)).alloc (.cells #[.int .i64 a, .slice none 0 0] 27)
  have R := (Blk.new (w.alloc (.cells #[.int .i64 a, .slice A ws.length c] 24)) 27 #[.int .i64 0, .slice none 0 0]).alloc (.cells #[.int .i64 a, .slice none 0 0] 27)
  simp only [World.size_alloc] at R
  have O := Blk.new ((w.alloc (.cells #[.int .i64 a, .slice A ws.length c] 24)).alloc (.cells #[.int .i64 0, .slice none 0 0] 27)) 27 #[.int .i64 a, .slice none 0 0]
  simp only [World.size_alloc] at O
  have H : Below w.heap.size w (((w.alloc (.cells #[.int .i64 a, .slice A ws.length c] 24)).alloc (.cells #[.int .i64 0, .slice none 0 0] 27)).alloc (.cells #[.int .i64 a, .slice none 0 0] 27)) := ((((Below.refl w.heap.size w).alloc (by first | exact Nat.le_refl _ | (simp only [World.size_alloc]; omega)) (.cells #[.int .i64 a, .slice A ws.length c] 24)).alloc (by first | exact Nat.le_refl _ | (simp only [World.size_alloc]; omega)) (.cells #[.int .i64 0, .slice none 0 0] 27)).alloc (by first | exact Nat.le_refl _ | (simp only [World.size_alloc]; omega)) (.cells #[.int .i64 a, .slice none 0 0] 27))
  obtain ⟨o0, o1, of0, of1, oL⟩ := O.two
  go_enter Try.func12, Try.ntmps12
  go_wp2_with fail
  refine (toIntS_c A c ws _ (hr.step H) hl).mono ?_
  rintro e w1 ⟨rfl, b, Q⟩
  simp only [World.size_alloc] at Q
  replace P := P.next b
  replace R := R.next b
  replace O := O.next b
  replace H := chain H b (Nat.le_refl _)
  clear b
  try clear p0 p1 pL
  obtain ⟨p0, p1, -, -, pL⟩ := P.two
  try clear r0 r1 rf0 rf1 rL
  obtain ⟨r0, r1, rf0, rf1, rL⟩ := R.two
  try clear o0 o1 of0 of1 oL
  obtain ⟨o0, o1, of0, of1, oL⟩ := O.two
  go_wp2
  refine bodyPost_ret (v := .agg #[.int .i64 a, .slice (some ⟨w.heap.size + 1 + 1 + 1, 0, none⟩) ws.length ws.length]) (by simp [results, Try.results12, go_sem, *]) rfl ⟨w.heap.size + 1 + 1 + 1, rfl, by omega, ?_, ?_⟩
  · exact ((Q.far (by simp) _).far (by simp; omega) _).far (by simp; omega) _
  · exact (by go_grown)
set_option maxHeartbeats 1000000 in
theorem eqField_c (a : Int) (A : Option Addr) (c : Nat) (ws : List Int) (a' : Int) (A' : Option Addr) (c' : Nat) (ws' : List Int) (w : World) (hr : RdI w w.heap.size A ws) (hr' : RdI w w.heap.size A' ws') (hl : ws.length ≤ 1048576) :
    Calls Try.prog 14 #[.agg #[.int .i64 a, .slice A ws.length c], .agg #[.int .i64 a', .slice A' ws'.length c']] w fun e w' => e = .returned (.bool (a == a' && ws == ws')) ∧ Below w.heap.size w w' := by
  have P := (Blk.new w 27 #[.int .i64 a, .slice A ws.length c]).alloc (.cells #[.int .i64 a', .slice A' ws'.length c'] 27)
  have R := Blk.new (w.alloc (.cells #[.int .i64 a, .slice A ws.length c] 27)) 27 #[.int .i64 a', .slice A' ws'.length c']
  simp only [World.size_alloc] at R
  have H : Below w.heap.size w ((w.alloc (.cells #[.int .i64 a, .slice A ws.length c] 27)).alloc (.cells #[.int .i64 a', .slice A' ws'.length c'] 27)) := (((Below.refl w.heap.size w).alloc (by first | exact Nat.le_refl _ | (simp only [World.size_alloc]; omega)) (.cells #[.int .i64 a, .slice A ws.length c] 27)).alloc (by first | exact Nat.le_refl _ | (simp only [World.size_alloc]; omega)) (.cells #[.int .i64 a', .slice A' ws'.length c'] 27))
  obtain ⟨p0, p1, -, -, pL⟩ := P.two
  obtain ⟨r0, r1, -, -, rL⟩ := R.two
  cases h1 : a == a'
  · have g1 : (a != a') = true := by simp [bne, h1]
    go_enter Try.func14, Try.ntmps14
    go_wp2
    go_ret
    exact ⟨rfl, H⟩
  · have g1 : (a != a') = false := by simp [bne, h1]
    have hE := Lib.hid (eqIntS_c A A' c c' ws ws' _ (hr.step H) (hr'.step H) hl)
    cases h2 : ws == ws'
    all_goals
      rw [h2] at hE
      go_enter Try.func14, Try.ntmps14
      go_wp2_with fail
      refine hE.out.mono ?_
      rintro e w1 ⟨rfl, b⟩
      replace H := chain H b (Nat.le_refl _)
      go_wp2
      go_ret
      exact ⟨rfl, H⟩
end Go.Proofs.Ytkbgifnmcklmiaa
