/- LitersOf and DaysUntilDry, both. -/
import Derived.Test.YtdkllicbaiodcaaDryS
import Derived.Laws.StructEq
namespace Go.Proofs.Ytdkllicbaiodcaa
open Go.ChangeShapes Go.WideShapes Go.ChangeAt Go.RowKit
set_option linter.unusedVariables false

def litF (s d : Int) : Int := if pondB s d then s * d else -1
theorem mul_b (s d : Int) (h : pondB s d = true) : 0 ≤ s * d ∧ s * d ≤ 5000000 := by
  obtain ⟨⟨h1, h2⟩, h3, h4⟩ := (pondB_iff _ _).1 h
  refine ⟨Int.mul_nonneg (by omega) h3, ?_⟩
  have := Int.mul_le_mul h2 h4 h3 (by omega : (0 : Int) ≤ 1000)
  omega

theorem sLitersOf_c (s d : Int) (c : Bool) (w : World) : Calls Try.prog 13 #[.agg #[.int .i64 s, .int .i64 d, .bool c]] w fun e w' => e = .returned (.int .i64 (litF s d)) ∧ Below w.heap.size w w' := by
  unfold litF
  have P : Blk (w.alloc (.cells #[.int .i64 s, .int .i64 d, .bool c] 25)) w.heap.size 25 #[.int .i64 s, .int .i64 d, .bool c] := Blk.new _ _ _
  have H : Below w.heap.size w (w.alloc (.cells #[.int .i64 s, .int .i64 d, .bool c] 25)) := (Below.refl _ _).alloc (Nat.le_refl _) _
  cases hp : pondB s d
  · go_enter Try.func13, Try.ntmps13
    go_wp2_with fail
    refine (sPondOk_c _ _ _ _).mono ?_
    rintro e w1 ⟨rfl, b⟩
    replace P := P.next b
    replace H := chain H b (Nat.le_refl _)
    clear b
    try clear a0 a1 a2 aL
    obtain ⟨a0, a1, a2, -, -, -, aL⟩ := P.three
    go_wp2
    go_ret
    exact ⟨by simp, H⟩
  · obtain ⟨hm0, hm1⟩ := mul_b s d hp
    go_enter Try.func13, Try.ntmps13
    go_wp2_with fail
    refine (sPondOk_c _ _ _ _).mono ?_
    rintro e w1 ⟨rfl, b⟩
    replace P := P.next b
    replace H := chain H b (Nat.le_refl _)
    clear b
    try clear a0 a1 a2 aL
    obtain ⟨a0, a1, a2, -, -, -, aL⟩ := P.three
    go_wp2
    go_ret
    exact ⟨by simp, H⟩

theorem iLitersOf_c (s d : Int) (c : Bool) (w : World) : Calls Try.prog 14 #[.agg #[.int .i64 s, .int .i64 d, .bool c]] w fun e w' => e = .returned (.int .i64 (litF s d)) ∧ Below w.heap.size w w' := by
  unfold litF
  have P : Blk (w.alloc (.cells #[.int .i64 s, .int .i64 d, .bool c] 25)) w.heap.size 25 #[.int .i64 s, .int .i64 d, .bool c] := Blk.new _ _ _
  have H : Below w.heap.size w (w.alloc (.cells #[.int .i64 s, .int .i64 d, .bool c] 25)) := (Below.refl _ _).alloc (Nat.le_refl _) _
  cases hp : pondB s d
  · go_enter Try.func14, Try.ntmps14
    go_wp2_with fail
    refine (iPondOk_c _ _ _ _).mono ?_
    rintro e w1 ⟨rfl, b⟩
    replace P := P.next b
    replace H := chain H b (Nat.le_refl _)
    clear b
    try clear a0 a1 a2 aL
    obtain ⟨a0, a1, a2, -, -, -, aL⟩ := P.three
    go_wp2
    go_ret
    exact ⟨by simp, H⟩
  · obtain ⟨hm0, hm1⟩ := mul_b s d hp
    go_enter Try.func14, Try.ntmps14
    go_wp2_with fail
    refine (iPondOk_c _ _ _ _).mono ?_
    rintro e w1 ⟨rfl, b⟩
    replace P := P.next b
    replace H := chain H b (Nat.le_refl _)
    clear b
    try clear a0 a1 a2 aL
    obtain ⟨a0, a1, a2, -, -, -, aL⟩ := P.three
    go_wp2
    go_ret
    exact ⟨by simp, H⟩

/-- The days until a pond of depth d is dry, where a day takes n. -/
def ceilF (d n : Int) : Int := if d = 0 then 0 else if n = 0 then -1 else (d + n - 1) / n
def daysF (s d ht : Int) (c : Bool) : Int := if pondB s d && inB ht 0 400 then ceilF d (driedF c ht) else -1

theorem ceilF_step (d n : Int) (hd : 0 < d) (hn : 0 < n) : ceilF d n = 1 + ceilF (max 0 (d - n)) n := by
  unfold ceilF
  rw [if_neg (by omega), if_neg (by omega)]
  by_cases h : n < d
  · rw [if_neg (by omega), if_neg (by omega)]
    have e : d + n - 1 = (max 0 (d - n) + n - 1) + n := by omega
    rw [e, Int.add_ediv_of_dvd_right (Int.dvd_refl n), Int.ediv_self (by omega)]
    omega
  · rw [if_pos (by omega)]
    have e : d + n - 1 = (d - 1) + n := by omega
    rw [e, Int.add_ediv_of_dvd_right (Int.dvd_refl n), Int.ediv_self (by omega), Int.ediv_eq_zero_of_lt (by omega) (by omega)]
    omega

set_option maxHeartbeats 400000 in
theorem iDays_c (s d ht : Int) (c : Bool) (w : World) : Calls Try.prog 19 #[.agg #[.int .i64 s, .int .i64 d, .bool c], .int .i64 ht] w fun e w' => e = .returned (.int .i64 (daysF s d ht c)) ∧ Below w.heap.size w w' := by
  unfold daysF
  have P : Blk (w.alloc (.cells #[.int .i64 s, .int .i64 d, .bool c] 25)) w.heap.size 25 #[.int .i64 s, .int .i64 d, .bool c] := Blk.new _ _ _
  have H : Below w.heap.size w (w.alloc (.cells #[.int .i64 s, .int .i64 d, .bool c] 25)) := (Below.refl _ _).alloc (Nat.le_refl _) _
  cases hp : pondB s d
  · go_enter Try.func19, Try.ntmps19
    go_wp2_with fail
    refine (iPondOk_c _ _ _ _).mono ?_
    rintro e w1 ⟨rfl, b⟩
    replace P := P.next b
    replace H := chain H b (Nat.le_refl _)
    clear b
    try clear a0 a1 a2 aL
    obtain ⟨a0, a1, a2, -, -, -, aL⟩ := P.three
    go_wp2
    go_ret
    exact ⟨by simp, H⟩
  · cases hq : inB ht 0 400
    · go_enter Try.func19, Try.ntmps19
      go_wp2_with fail
      refine (iPondOk_c _ _ _ _).mono ?_
      rintro e w1 ⟨rfl, b⟩
      replace P := P.next b
      replace H := chain H b (Nat.le_refl _)
      clear b
      try clear a0 a1 a2 aL
      obtain ⟨a0, a1, a2, -, -, -, aL⟩ := P.three
      go_wp2_with (go_at_call 30; refine (within_c _ _ _ _).mono ?_; rintro e w' ⟨rfl, rfl⟩)
      go_ret
      exact ⟨by simp, H⟩
    · obtain ⟨hq0, hq1⟩ := (inB_iff _ _ _).1 hq
      obtain ⟨⟨hs0, hs1⟩, hd0, hd1⟩ := (pondB_iff _ _).1 hp
      obtain ⟨hn0, hn1⟩ := driedF_b c ht hq0 hq1
      by_cases hd : d = 0
      · subst hd
        go_enter Try.func19, Try.ntmps19
        go_wp2_with fail
        refine (iPondOk_c _ _ _ _).mono ?_
        rintro e w1 ⟨rfl, b⟩
        replace P := P.next b
        replace H := chain H b (Nat.le_refl _)
        clear b
        try clear a0 a1 a2 aL
        obtain ⟨a0, a1, a2, -, -, -, aL⟩ := P.three
        go_wp2_with (go_at_call 30; refine (within_c _ _ _ _).mono ?_; rintro e w' ⟨rfl, rfl⟩)
        go_ret
        exact ⟨by simp [ceilF], H⟩
      · have hdb : (d == 0) = false := beq_eq_false_iff_ne.2 hd
        by_cases hn : driedF c ht = 0
        · have hnb : (driedF c ht == 0) = true := beq_iff_eq.2 hn
          have hfin : ceilF d (driedF c ht) = -1 := by unfold ceilF; rw [if_neg hd, if_pos hn]
          rw [hfin]
          clear hfin hn
          go_enter Try.func19, Try.ntmps19
          go_wp2_with fail
          refine (iPondOk_c _ _ _ _).mono ?_
          rintro e w1 ⟨rfl, b⟩
          replace P := P.next b
          replace H := chain H b (Nat.le_refl _)
          clear b
          try clear a0 a1 a2 aL
          obtain ⟨a0, a1, a2, -, -, -, aL⟩ := P.three
          go_wp2_with fail
          refine (within_c _ _ _ _).mono ?_
          rintro e w' ⟨rfl, rfl⟩
          go_wp2_with fail
          refine (driedBy_c _ _ _ _ hq0 hq1 _).mono ?_
          rintro e w1 ⟨rfl, b⟩
          replace H := chain H b (Nat.le_refl _)
          clear b
          go_wp2
          go_ret
          exact ⟨by simp, H⟩
        · have hnb : (driedF c ht == 0) = false := beq_eq_false_iff_ne.2 hn
          have hfin : ceilF d (driedF c ht) = (d + driedF c ht - 1) / driedF c ht := by unfold ceilF; rw [if_neg hd, if_neg hn]
          rw [hfin]
          have hn2 : 1 ≤ driedF c ht := by omega
          clear hfin hn
          go_enter Try.func19, Try.ntmps19
          go_wp2_with fail
          refine (iPondOk_c _ _ _ _).mono ?_
          rintro e w1 ⟨rfl, b⟩
          replace P := P.next b
          replace H := chain H b (Nat.le_refl _)
          clear b
          try clear a0 a1 a2 aL
          obtain ⟨a0, a1, a2, -, -, -, aL⟩ := P.three
          go_wp2_with fail
          refine (within_c _ _ _ _).mono ?_
          rintro e w' ⟨rfl, rfl⟩
          go_wp2_with fail
          refine (driedBy_c _ _ _ _ hq0 hq1 _).mono ?_
          rintro e w1 ⟨rfl, b⟩
          replace P := P.next b
          replace H := chain H b (Nat.le_refl _)
          clear b
          try clear a0 a1 a2 aL
          obtain ⟨a0, a1, a2, -, -, -, aL⟩ := P.three
          go_wp2
          go_ret
          exact ⟨by simp, H⟩
end Go.Proofs.Ytdkllicbaiodcaa
