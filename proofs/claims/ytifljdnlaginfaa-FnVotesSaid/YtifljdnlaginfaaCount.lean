/- CountVotes and IsPassed, both. -/
import Derived.Test.YtifljdnlaginfaaOwn
namespace Go.Proofs.Ytifljdnlaginfaa
open Go.ChangeShapes Go.WideShapes Go.ChangeAt Go.RowKit
set_option linter.unusedVariables false

def voteB (xs : List Int) : Bool := decide (xs.length ≤ 40) && allB xs (-1) 1
def cnt (v : Int) : List Int → Nat
  | [] => 0
  | x :: t => (if x == v then 1 else 0) + cnt v t
theorem cnt_le (v : Int) (xs : List Int) : cnt v xs ≤ xs.length := by
  induction xs with
  | nil => exact Nat.le_refl _
  | cons x t ih =>
    show (if x == v then 1 else 0) + cnt v t ≤ _
    rw [List.length_cons]
    split <;> omega
theorem cnt_cons (v x : Int) (t : List Int) : cnt v (x :: t) = (if x == v then 1 else 0) + cnt v t := rfl
def cntZ (xs : List Int) (v : Int) : Int := if voteB xs then (cnt v xs : Nat) else -1
theorem cnt_no {xs : List Int} (h : voteB xs = false) (v : Int) : cntZ xs v = -1 := by unfold cntZ; rw [h]; rfl
theorem cnt_yes {xs : List Int} (h : voteB xs = true) (v : Int) : cntZ xs v = (cnt v xs : Nat) := by unfold cntZ; rw [h]; rfl
theorem cntZ_b (xs : List Int) (v : Int) : -1 ≤ cntZ xs v ∧ cntZ xs v ≤ 40 := by
  unfold cntZ
  split
  · rename_i h
    unfold voteB at h
    simp only [Bool.and_eq_true, decide_eq_true_eq] at h
    have := cnt_le v xs
    omega
  · omega
theorem cntZ_ok (xs : List Int) (v : Int) : 0 ≤ cntZ xs v ↔ voteB xs = true := by
  unfold cntZ
  cases h : voteB xs
  · simp
  · simp
def Cnt3 (xs : List Int) (e : Ending) : Prop := e = .returned (.tuple #[.int .i64 (cntZ xs 1), .int .i64 (cntZ xs 0), .int .i64 (cntZ xs (-1))])
/-- A vote adds to one of the three. -/
theorem cnt_step {xs : List Int} {k : Nat} {x : Int} (v : Int) {c : Nat} (hd : xs.drop k = x :: xs.drop (k + 1)) (h : cnt v xs = c + cnt v (xs.drop k)) : cnt v xs = c + (if x == v then 1 else 0) + cnt v (xs.drop (k + 1)) := by
  rw [h, hd, cnt_cons]
  omega
theorem vote_b {xs : List Int} (h : voteB xs = true) : xs.length ≤ 40 ∧ ∀ x ∈ xs, x = -1 ∨ x = 0 ∨ x = 1 := by
  unfold voteB at h
  simp only [Bool.and_eq_true, decide_eq_true_eq, allB_iff] at h
  exact ⟨h.1, fun x hx => by have := h.2 x hx; omega⟩

set_option maxHeartbeats 2000000 in
theorem iCount_c (A : Option Addr) (c : Nat) (xs : List Int) (w : World) (hr : RdI w w.heap.size A xs) (hl : xs.length ≤ 1048576) :
    Calls Try.prog 11 #[.slice A xs.length c] w fun e w' => Cnt3 xs e ∧ Below w.heap.size w w' := by
  unfold Cnt3
  by_cases h40 : xs.length ≤ 40
  · have h40' : ¬ (40 : Int) < (xs.length : Int) := by omega
    cases hall : allB xs (-1) 1
    · have hv : voteB xs = false := by unfold voteB; rw [hall, Bool.and_false]
      rw [cnt_no hv, cnt_no hv, cnt_no hv]
      go_enter Try.func11, Try.ntmps11
      go_wp2_with fail
      refine (allWithin_c _ _ _ _ _ _ hr hl).mono ?_
      rintro e w' ⟨rfl, rfl⟩
      go_wp2
      go_ret3
      exact ⟨rfl, Below.refl _ _⟩
    · have hv : voteB xs = true := by unfold voteB; rw [hall, decide_eq_true h40]; rfl
      rw [cnt_yes hv, cnt_yes hv, cnt_yes hv]
      have hm' := Lib.hid (vote_b hv).2
      have hP := Blk.new w 49 #[.int .i64 ((0 : Nat) : Int), .int .i64 ((0 : Nat) : Int), .int .i64 ((0 : Nat) : Int)]
      go_enter Try.func11, Try.ntmps11
      go_wp2_with fail
      refine (allWithin_c _ _ _ _ _ _ hr hl).mono ?_
      rintro e w' ⟨rfl, rfl⟩
      go_wp2
      clear hall hv
      go_loopw [18] (fun i wr => ∃ (k y n m : Nat), k ≤ xs.length ∧ i = .int .i64 k ∧ y ≤ k ∧ n ≤ k ∧ m ≤ k ∧ Hid (cnt 1 xs = y + cnt 1 (xs.drop k)) ∧ Hid (cnt 0 xs = n + cnt 0 (xs.drop k)) ∧ Hid (cnt (-1) xs = m + cnt (-1) (xs.drop k)) ∧ Blk wr w.heap.size 49 #[.int .i64 m, .int .i64 n, .int .i64 y] ∧ Below w.heap.size w wr) (fun i _ => xs.length - (intOf i).toNat)
      case atStart => exact ⟨0, 0, 0, 0, Nat.zero_le _, rfl, Nat.le_refl _, Nat.le_refl _, Nat.le_refl _, by show cnt 1 xs = 0 + cnt 1 xs; omega, by show cnt 0 xs = 0 + cnt 0 xs; omega, by show cnt (-1) xs = 0 + cnt (-1) xs; omega, hP, (Below.refl _ _).alloc (Nat.le_refl _) _⟩
      case round =>
        clear hP
        obtain ⟨k, y, n, m, hk, rfl, hy, hn, hm, q1, q0, qm, P, H⟩ := hrel
        by_cases hlt : k < xs.length
        · obtain ⟨g, off, x, rfl, hg, hc, hx, hd⟩ := (hr.below H (Nat.le_refl _)).at_ hlt
          have hcases := hm'.out x (List.mem_of_getElem? hx.out)
          have r1 := cnt_step 1 hd.out q1.out
          have r0 := cnt_step 0 hd.out q0.out
          have rm := cnt_step (-1) hd.out qm.out
          clear q1 q0 qm hx hd
          obtain ⟨b0, b1, b2, f0, f1, f2, bL⟩ := P.three
          rcases hcases with rfl | rfl | rfl
          · replace r1 := Lib.hid (show cnt 1 xs = y + cnt 1 (xs.drop (k + 1)) by simpa using r1)
            replace r0 := Lib.hid (show cnt 0 xs = n + cnt 0 (xs.drop (k + 1)) by simpa using r0)
            replace rm := Lib.hid (show cnt (-1) xs = m + 1 + cnt (-1) (xs.drop (k + 1)) by simpa using rm)
            go_wp2
            go_roundw
            case rel => exact ⟨k + 1, y, n, m + 1, by omega, by go_num, by omega, by omega, by omega, r1, r0, rm, P.put3_0 _, H.setCell (Nat.le_refl _) _⟩
            case measure => simp [intOf]; omega
          · replace r1 := Lib.hid (show cnt 1 xs = y + cnt 1 (xs.drop (k + 1)) by simpa using r1)
            replace r0 := Lib.hid (show cnt 0 xs = n + 1 + cnt 0 (xs.drop (k + 1)) by simpa using r0)
            replace rm := Lib.hid (show cnt (-1) xs = m + cnt (-1) (xs.drop (k + 1)) by simpa using rm)
            go_wp2
            go_roundw
            case rel => exact ⟨k + 1, y, n + 1, m, by omega, by go_num, by omega, by omega, by omega, r1, r0, rm, P.put3_1 _, H.setCell (Nat.le_refl _) _⟩
            case measure => simp [intOf]; omega
          · replace r1 := Lib.hid (show cnt 1 xs = y + 1 + cnt 1 (xs.drop (k + 1)) by simpa using r1)
            replace r0 := Lib.hid (show cnt 0 xs = n + cnt 0 (xs.drop (k + 1)) by simpa using r0)
            replace rm := Lib.hid (show cnt (-1) xs = m + cnt (-1) (xs.drop (k + 1)) by simpa using rm)
            go_wp2
            go_roundw
            case rel => exact ⟨k + 1, y + 1, n, m, by omega, by go_num, by omega, by omega, by omega, r1, r0, rm, P.put3_2 _, H.setCell (Nat.le_refl _) _⟩
            case measure => simp [intOf]; omega
        · have e1 := Lib.hid (show cnt 1 xs = y by rw [q1.out, drop_end xs hk hlt]; rfl)
          have e0 := Lib.hid (show cnt 0 xs = n by rw [q0.out, drop_end xs hk hlt]; rfl)
          have em := Lib.hid (show cnt (-1) xs = m by rw [qm.out, drop_end xs hk hlt]; rfl)
          clear q1 q0 qm
          obtain ⟨b0, b1, b2, f0, f1, f2, bL⟩ := P.three
          go_wp2
          go_quiet (fail)
          go_wp2
          go_ret3
          exact ⟨by rw [e1.out, e0.out, em.out]; rfl, below_drewN H _⟩
  · have h40' : (40 : Int) < (xs.length : Int) := by omega
    have hv : voteB xs = false := by unfold voteB; rw [decide_eq_false h40]; rfl
    rw [cnt_no hv, cnt_no hv, cnt_no hv]
    go_enter Try.func11, Try.ntmps11
    go_wp2
    go_ret3
    exact ⟨rfl, Below.refl _ _⟩

set_option maxHeartbeats 2000000 in
theorem sCount_c (A : Option Addr) (c : Nat) (xs : List Int) (w : World) (hr : RdI w w.heap.size A xs) (hl : xs.length ≤ 1048576) :
    Calls Try.prog 9 #[.slice A xs.length c] w fun e w' => Cnt3 xs e ∧ w = w' := by
  unfold Cnt3
  have hno := Lib.hid (fun h v => cnt_no (xs := xs) h v)
  have hyes := Lib.hid (fun h v => cnt_yes (xs := xs) h v)
  go_enter Try.func9, Try.ntmps9
  go_wp2
  go_loop [5, 6, 7, 8] (fun a b d i => ∃ (k y n m : Nat), k ≤ xs.length ∧ i = .int .i64 k ∧ a = .int .i64 y ∧ b = .int .i64 n ∧ d = .int .i64 m ∧ y ≤ k ∧ n ≤ k ∧ m ≤ k ∧ Hid (cnt 1 xs = y + cnt 1 (xs.drop k)) ∧ Hid (cnt 0 xs = n + cnt 0 (xs.drop k)) ∧ Hid (cnt (-1) xs = m + cnt (-1) (xs.drop k)) ∧ Hid (allB xs (-1) 1 = allB (xs.drop k) (-1) 1)) (fun _ _ _ i => xs.length - (intOf i).toNat)
  case atStart => exact ⟨0, 0, 0, 0, Nat.zero_le _, rfl, rfl, rfl, rfl, Nat.le_refl _, Nat.le_refl _, Nat.le_refl _, by show cnt 1 xs = 0 + cnt 1 xs; omega, by show cnt 0 xs = 0 + cnt 0 xs; omega, by show cnt (-1) xs = 0 + cnt (-1) xs; omega, rfl⟩
  case round =>
    obtain ⟨k, y, n, m, hk, rfl, rfl, rfl, rfl, hy, hn, hm, q1, q0, qm, qa⟩ := hrel
    by_cases hlt : k < xs.length
    · obtain ⟨g, off, x, rfl, hg, hc, hx, hd⟩ := hr.at_ hlt
      have r1 := cnt_step 1 hd.out q1.out
      have r0 := cnt_step 0 hd.out q0.out
      have rm := cnt_step (-1) hd.out qm.out
      have ra := qa.out
      rw [hd.out, allB_cons] at ra
      clear q1 q0 qm qa hx hd
      by_cases h1 : x = 1
      · subst h1
        replace r1 := Lib.hid (show cnt 1 xs = y + 1 + cnt 1 (xs.drop (k + 1)) by simpa using r1)
        replace r0 := Lib.hid (show cnt 0 xs = n + cnt 0 (xs.drop (k + 1)) by simpa using r0)
        replace rm := Lib.hid (show cnt (-1) xs = m + cnt (-1) (xs.drop (k + 1)) by simpa using rm)
        replace ra := Lib.hid (ra.trans (show _ = allB (xs.drop (k + 1)) (-1) 1 from Bool.true_and _))
        go_wp2
        go_round
        case rel => exact ⟨k + 1, y + 1, n, m, by omega, by go_num, by go_num, by go_num, by go_num, by omega, by omega, by omega, r1, r0, rm, ra⟩
        case measure => simp [intOf]; omega
      · by_cases h0 : x = 0
        · subst h0
          replace r1 := Lib.hid (show cnt 1 xs = y + cnt 1 (xs.drop (k + 1)) by simpa using r1)
          replace r0 := Lib.hid (show cnt 0 xs = n + 1 + cnt 0 (xs.drop (k + 1)) by simpa using r0)
          replace rm := Lib.hid (show cnt (-1) xs = m + cnt (-1) (xs.drop (k + 1)) by simpa using rm)
          replace ra := Lib.hid (ra.trans (show _ = allB (xs.drop (k + 1)) (-1) 1 from Bool.true_and _))
          clear h1
          go_wp2
          go_round
          case rel => exact ⟨k + 1, y, n + 1, m, by omega, by go_num, by go_num, by go_num, by go_num, by omega, by omega, by omega, r1, r0, rm, ra⟩
          case measure => simp [intOf]; omega
        · by_cases hm1 : x = -1
          · subst hm1
            replace r1 := Lib.hid (show cnt 1 xs = y + cnt 1 (xs.drop (k + 1)) by simpa using r1)
            replace r0 := Lib.hid (show cnt 0 xs = n + cnt 0 (xs.drop (k + 1)) by simpa using r0)
            replace rm := Lib.hid (show cnt (-1) xs = m + 1 + cnt (-1) (xs.drop (k + 1)) by simpa using rm)
            replace ra := Lib.hid (ra.trans (show _ = allB (xs.drop (k + 1)) (-1) 1 from Bool.true_and _))
            clear h1 h0
            go_wp2
            go_round
            case rel => exact ⟨k + 1, y, n, m + 1, by omega, by go_num, by go_num, by go_num, by go_num, by omega, by omega, by omega, r1, r0, rm, ra⟩
            case measure => simp [intOf]; omega
          · have hbad := Lib.hid (show voteB xs = false by
              have e : inB x (-1) 1 = false := (Bool.eq_false_iff).2 (fun h => by have := (inB_iff _ _ _).1 h; omega)
              rw [e] at ra
              unfold voteB
              rw [ra, Bool.false_and, Bool.and_false])
            have e1 : (x == 1) = false := beq_eq_false_iff_ne.2 h1
            have e0 : (x == 0) = false := beq_eq_false_iff_ne.2 h0
            have em : (x == -1) = false := beq_eq_false_iff_ne.2 hm1
            clear r1 r0 rm ra h1 h0 hm1
            go_wp2
            go_ret3
            exact ⟨by rw [hno.out hbad.out, hno.out hbad.out, hno.out hbad.out]; rfl, rfl⟩
    · have e1 := Lib.hid (show cnt 1 xs = y by rw [q1.out, drop_end xs hk hlt]; rfl)
      have e0 := Lib.hid (show cnt 0 xs = n by rw [q0.out, drop_end xs hk hlt]; rfl)
      have em := Lib.hid (show cnt (-1) xs = m by rw [qm.out, drop_end xs hk hlt]; rfl)
      have ea := Lib.hid (show allB xs (-1) 1 = true by rw [qa.out, drop_end xs hk hlt]; rfl)
      clear q1 q0 qm qa
      by_cases h40 : xs.length ≤ 40
      · have h40' : ¬ (40 : Int) < (xs.length : Int) := by omega
        have hv := Lib.hid (show voteB xs = true by unfold voteB; rw [ea.out, decide_eq_true h40]; rfl)
        go_wp2
        go_ret3
        exact ⟨by rw [hyes.out hv.out, hyes.out hv.out, hyes.out hv.out, e1.out, e0.out, em.out]; rfl, rfl⟩
      · have h40' : (40 : Int) < (xs.length : Int) := by omega
        have hv := Lib.hid (show voteB xs = false by unfold voteB; rw [decide_eq_false h40]; rfl)
        go_wp2
        go_ret3
        exact ⟨by rw [hno.out hv.out, hno.out hv.out, hno.out hv.out]; rfl, rfl⟩

/-! ### IsPassed -/
def passB (xs : List Int) (q : Int) : Bool := decide (0 ≤ cntZ xs 1) && inB q 0 40 && decide (q ≤ cntZ xs 1 + cntZ xs 0) && decide (cntZ xs 0 < cntZ xs 1)
set_option maxHeartbeats 1000000 in
theorem iPass_c (A : Option Addr) (c : Nat) (xs : List Int) (q : Int) (w : World) (hr : RdI w w.heap.size A xs) (hl : xs.length ≤ 1048576) :
    Calls Try.prog 14 #[.slice A xs.length c, .int .i64 q] w fun e w' => e = .returned (.bool (passB xs q)) ∧ Below w.heap.size w w' := by
  obtain ⟨y0, y1⟩ := cntZ_b xs 1
  obtain ⟨n0, n1⟩ := cntZ_b xs 0
  unfold passB
  have hcc := Lib.hid (iCount_c A c xs w hr hl)
  unfold Cnt3 at hcc
  generalize cntZ xs 1 = Y at *
  generalize cntZ xs 0 = N at *
  generalize cntZ xs (-1) = M at *
  by_cases h1 : 0 ≤ Y
  · have h1' : ¬ Y < 0 := by omega
    cases h2 : inB q 0 40
    · rw [decide_eq_true h1]
      go_enter Try.func14, Try.ntmps14
      go_wp2_with fail
      refine hcc.out.mono ?_
      rintro e w1 ⟨rfl, b⟩
      skip
      go_wp2_with (go_at_call 34; refine (within_c _ _ _ _).mono ?_; rintro e w' ⟨rfl, rfl⟩)
      go_ret
      exact ⟨rfl, b⟩
    · by_cases h3 : q ≤ Y + N
      · by_cases h4 : N < Y
        · rw [decide_eq_true h1, decide_eq_true h3, decide_eq_true h4]
          go_enter Try.func14, Try.ntmps14
          go_wp2_with fail
          refine hcc.out.mono ?_
          rintro e w1 ⟨rfl, b⟩
          skip
          go_wp2_with (go_at_call 34; refine (within_c _ _ _ _).mono ?_; rintro e w' ⟨rfl, rfl⟩)
          go_ret
          exact ⟨rfl, b⟩
        · rw [decide_eq_true h1, decide_eq_true h3, decide_eq_false h4]
          have hd4 : decide (N < Y) = false := decide_eq_false h4
          go_enter Try.func14, Try.ntmps14
          go_wp2_with fail
          refine hcc.out.mono ?_
          rintro e w1 ⟨rfl, b⟩
          skip
          go_wp2_with (go_at_call 34; refine (within_c _ _ _ _).mono ?_; rintro e w' ⟨rfl, rfl⟩)
          go_ret
          exact ⟨rfl, b⟩
      · rw [decide_eq_true h1, decide_eq_false h3]
        have hd3 : decide (q ≤ Y + N) = false := decide_eq_false h3
        go_enter Try.func14, Try.ntmps14
        go_wp2_with fail
        refine hcc.out.mono ?_
        rintro e w1 ⟨rfl, b⟩
        skip
        go_wp2_with (go_at_call 34; refine (within_c _ _ _ _).mono ?_; rintro e w' ⟨rfl, rfl⟩)
        go_ret
        exact ⟨rfl, b⟩
  · rw [decide_eq_false h1]
    have hd1 : decide (0 ≤ Y) = false := decide_eq_false h1
    go_enter Try.func14, Try.ntmps14
    go_wp2_with fail
    refine hcc.out.mono ?_
    rintro e w1 ⟨rfl, b⟩
    skip
    go_wp2
    go_ret
    exact ⟨rfl, b⟩
set_option maxHeartbeats 1000000 in
theorem sPass_c (A : Option Addr) (c : Nat) (xs : List Int) (q : Int) (w : World) (hr : RdI w w.heap.size A xs) (hl : xs.length ≤ 1048576) :
    Calls Try.prog 13 #[.slice A xs.length c, .int .i64 q] w fun e w' => e = .returned (.bool (passB xs q)) ∧ Below w.heap.size w w' := by
  obtain ⟨y0, y1⟩ := cntZ_b xs 1
  obtain ⟨n0, n1⟩ := cntZ_b xs 0
  unfold passB
  have hcc := Lib.hid (sCount_c A c xs w hr hl)
  unfold Cnt3 at hcc
  generalize cntZ xs 1 = Y at *
  generalize cntZ xs 0 = N at *
  generalize cntZ xs (-1) = M at *
  by_cases h1 : 0 ≤ Y
  · have h1' : ¬ Y < 0 := by omega
    cases h2 : inB q 0 40
    · rw [decide_eq_true h1]
      go_enter Try.func13, Try.ntmps13
      go_wp2_with fail
      refine hcc.out.mono ?_
      rintro e w1 ⟨rfl, rfl⟩
      have b := Below.refl w.heap.size w
      go_wp2_with (go_at_call 33; refine (l01In_c _ _ _ _).mono ?_; rintro e w' ⟨rfl, rfl⟩)
      go_ret
      exact ⟨rfl, b⟩
    · by_cases h3 : q ≤ Y + N
      · by_cases h4 : N < Y
        · rw [decide_eq_true h1, decide_eq_true h3, decide_eq_true h4]
          go_enter Try.func13, Try.ntmps13
          go_wp2_with fail
          refine hcc.out.mono ?_
          rintro e w1 ⟨rfl, rfl⟩
          have b := Below.refl w.heap.size w
          go_wp2_with (go_at_call 33; refine (l01In_c _ _ _ _).mono ?_; rintro e w' ⟨rfl, rfl⟩)
          go_ret
          exact ⟨rfl, b⟩
        · rw [decide_eq_true h1, decide_eq_true h3, decide_eq_false h4]
          have hd4 : decide (N < Y) = false := decide_eq_false h4
          go_enter Try.func13, Try.ntmps13
          go_wp2_with fail
          refine hcc.out.mono ?_
          rintro e w1 ⟨rfl, rfl⟩
          have b := Below.refl w.heap.size w
          go_wp2_with (go_at_call 33; refine (l01In_c _ _ _ _).mono ?_; rintro e w' ⟨rfl, rfl⟩)
          go_ret
          exact ⟨rfl, b⟩
      · rw [decide_eq_true h1, decide_eq_false h3]
        have hd3 : decide (q ≤ Y + N) = false := decide_eq_false h3
        go_enter Try.func13, Try.ntmps13
        go_wp2_with fail
        refine hcc.out.mono ?_
        rintro e w1 ⟨rfl, rfl⟩
        have b := Below.refl w.heap.size w
        go_wp2_with (go_at_call 33; refine (l01In_c _ _ _ _).mono ?_; rintro e w' ⟨rfl, rfl⟩)
        go_ret
        exact ⟨rfl, b⟩
  · rw [decide_eq_false h1]
    have hd1 : decide (0 ≤ Y) = false := decide_eq_false h1
    go_enter Try.func13, Try.ntmps13
    go_wp2_with fail
    refine hcc.out.mono ?_
    rintro e w1 ⟨rfl, rfl⟩
    have b := Below.refl w.heap.size w
    go_wp2
    go_ret
    exact ⟨rfl, b⟩
theorem iCount_t (A : Option Addr) (c : Nat) (xs : List Int) (w : World) (hr : RdI w w.heap.size A xs) (hl : xs.length ≤ 1048576) :
    Calls Try.prog 11 #[.slice A xs.length c] w fun e w' => e = .returned (.tuple #[.int .i64 (cntZ xs 1), .int .i64 (cntZ xs 0), .int .i64 (cntZ xs (-1))]) ∧ Below w.heap.size w w' := iCount_c A c xs w hr hl
theorem sCount_t (A : Option Addr) (c : Nat) (xs : List Int) (w : World) (hr : RdI w w.heap.size A xs) (hl : xs.length ≤ 1048576) :
    Calls Try.prog 9 #[.slice A xs.length c] w fun e w' => e = .returned (.tuple #[.int .i64 (cntZ xs 1), .int .i64 (cntZ xs 0), .int .i64 (cntZ xs (-1))]) ∧ w = w' := sCount_c A c xs w hr hl
end Go.Proofs.Ytifljdnlaginfaa
