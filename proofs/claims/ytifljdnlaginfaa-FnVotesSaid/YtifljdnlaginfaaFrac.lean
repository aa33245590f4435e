/- Fractions: the greatest common divisor, FractionOk, AddFractions, both. -/
import Derived.Test.YtifljdnlaginfaaCount
import Derived.StillTailTactics
namespace Go.Proofs.Ytifljdnlaginfaa
open Go.ChangeShapes Go.WideShapes Go.ChangeAt Go.RowKit
set_option linter.unusedVariables false

set_option maxHeartbeats 1000000 in
theorem iGcd_c (a b : Nat) (w : World) (ha : a ≤ 1000000000) (hb : b ≤ 1000000000) :
    Calls Try.prog 57 #[.int .i64 a, .int .i64 b] w fun e w' => e = .returned (.int .i64 (Nat.gcd a b : Nat)) ∧ Below w.heap.size w w' := by
  go_enter Try.func57, Try.ntmps57
  go_wp2
  go_loopw [0, 1] (fun x y wr => ∃ m n : Nat, m ≤ 1000000000 ∧ n ≤ 1000000000 ∧ x = .int .i64 m ∧ y = .int .i64 n ∧ Hid (Nat.gcd a b = Nat.gcd m n) ∧ Below w.heap.size w wr) (fun _ y _ => (intOf y).toNat)
  case atStart => exact ⟨a, b, ha, hb, rfl, rfl, rfl, Below.refl _ _⟩
  case round =>
    obtain ⟨m, n, hm, hn, rfl, rfl, hq, H⟩ := hrel
    by_cases h0 : n = 0
    · subst h0
      have hf := Lib.hid (show Nat.gcd a b = m by rw [hq.out, Nat.gcd_zero_right])
      go_wp2
      go_ret
      exact ⟨by rw [hf.out]; rfl, H⟩
    · have hne : ((n : Int) != 0) = true := by simp; omega
      have hne2 : ((n : Int) == 0) = false := by simp; omega
      have hlt := Nat.mod_lt m (show n > 0 by omega)
      have hq2 := Lib.hid (show Nat.gcd a b = Nat.gcd n (m % n) by rw [hq.out, Nat.gcd_comm m n, Nat.gcd_rec n m, Nat.gcd_comm])
      have e1 : Int.tmod (m : Int) (n : Int) = ((m % n : Nat) : Int) := rfl
      have e2 : IntKind.i64.wrap ((m % n : Nat) : Int) = ((m % n : Nat) : Int) := IntWalk.i64_in _ (by omega)
      go_wp2
      go_quiet (fail)
      go_wp2
      go_roundw
      case rel => exact ⟨n, m % n, hn, by omega, rfl, rfl, hq2, below_drewN H _⟩
      case measure => simp [intOf]; omega
set_option maxHeartbeats 1000000 in
theorem sGcd_c (a b : Nat) (w : World) (ha : a ≤ 1000000000) (hb : b ≤ 1000000000) :
    Calls Try.prog 56 #[.int .i64 a, .int .i64 b] w fun e w' => e = .returned (.int .i64 (Nat.gcd a b : Nat)) ∧ Below w.heap.size w w' := by
  go_enter Try.func56, Try.ntmps56
  go_wp2
  go_loopw [0, 1] (fun x y wr => ∃ m n : Nat, m ≤ 1000000000 ∧ n ≤ 1000000000 ∧ x = .int .i64 m ∧ y = .int .i64 n ∧ Hid (Nat.gcd a b = Nat.gcd m n) ∧ Below w.heap.size w wr) (fun _ y _ => (intOf y).toNat)
  case atStart => exact ⟨a, b, ha, hb, rfl, rfl, rfl, Below.refl _ _⟩
  case round =>
    obtain ⟨m, n, hm, hn, rfl, rfl, hq, H⟩ := hrel
    by_cases h0 : n = 0
    · subst h0
      have hf := Lib.hid (show Nat.gcd a b = m by rw [hq.out, Nat.gcd_zero_right])
      go_wp2
      go_ret
      exact ⟨by rw [hf.out]; rfl, H⟩
    · have hne : ((n : Int) != 0) = true := by simp; omega
      have hne2 : ((n : Int) == 0) = false := by simp; omega
      have hlt := Nat.mod_lt m (show n > 0 by omega)
      have hq2 := Lib.hid (show Nat.gcd a b = Nat.gcd n (m % n) by rw [hq.out, Nat.gcd_comm m n, Nat.gcd_rec n m, Nat.gcd_comm])
      have e1 : Int.tmod (m : Int) (n : Int) = ((m % n : Nat) : Int) := rfl
      have e2 : IntKind.i64.wrap ((m % n : Nat) : Int) = ((m % n : Nat) : Int) := IntWalk.i64_in _ (by omega)
      go_wp2
      go_quiet (fail)
      go_wp2
      go_roundw
      case rel => exact ⟨n, m % n, hn, by omega, rfl, rfl, hq2, below_drewN H _⟩
      case measure => simp [intOf]; omega

/-! ### FractionOk -/
def gcdI (t b : Int) : Int := (Nat.gcd t.toNat b.toNat : Nat)
def fracB (t b : Int) : Bool := inB b 1 10000 && inB t 0 10000 && (gcdI t b == 1)
theorem frac_b {t b : Int} (h : fracB t b = true) : (1 ≤ b ∧ b ≤ 10000) ∧ (0 ≤ t ∧ t ≤ 10000) ∧ gcdI t b = 1 := by
  unfold fracB at h
  simp only [Bool.and_eq_true, inB_iff, beq_iff_eq] at h
  exact ⟨h.1.1, h.1.2, h.2⟩
set_option maxHeartbeats 1000000 in
theorem iFok_c (t b : Int) (w : World) : Calls Try.prog 49 #[.agg #[.int .i64 t, .int .i64 b]] w fun e w' => e = .returned (.bool (fracB t b)) ∧ Below w.heap.size w w' := by
  have P := Blk.new w 34 #[.int .i64 t, .int .i64 b]
  have H := (Below.refl w.heap.size w).alloc (Nat.le_refl _) (.cells #[.int .i64 t, .int .i64 b] 34)
  unfold fracB
  cases h1 : inB b 1 10000
  · go_enter Try.func49, Try.ntmps49
    go_wp2_with (go_at_call 34; refine (within_c _ _ _ _).mono ?_; rintro e w' ⟨rfl, rfl⟩)
    go_ret
    exact ⟨rfl, H⟩
  · cases h2 : inB t 0 10000
    · go_enter Try.func49, Try.ntmps49
      go_wp2_with (go_at_call 34; refine (within_c _ _ _ _).mono ?_; rintro e w' ⟨rfl, rfl⟩)
      go_ret
      exact ⟨rfl, H⟩
    · obtain ⟨b0, b1⟩ := (inB_iff _ _ _).1 h1
      obtain ⟨t0, t1⟩ := (inB_iff _ _ _).1 h2
      obtain ⟨tn, rfl⟩ := Int.eq_ofNat_of_zero_le t0
      obtain ⟨bn, rfl⟩ := Int.eq_ofNat_of_zero_le (show 0 ≤ b by omega)
      have hg := Lib.hid (show gcdI (tn : Int) (bn : Int) = (Nat.gcd tn bn : Nat) from rfl)
      go_enter Try.func49, Try.ntmps49
      go_wp2_with fail
      refine (within_c _ _ _ _).mono ?_
      rintro e w' ⟨rfl, rfl⟩
      go_wp2_with fail
      refine (within_c _ _ _ _).mono ?_
      rintro e w' ⟨rfl, rfl⟩
      go_wp2_with fail
      refine (iGcd_c tn bn _ (by omega) (by omega)).mono ?_
      rintro e w1 ⟨rfl, b⟩
      replace H := chain H b (Nat.le_refl _)
      clear b
      generalize Nat.gcd tn bn = G at *
      go_wp2
      go_ret
      exact ⟨by rw [hg.out]; rfl, H⟩
set_option maxHeartbeats 1000000 in
theorem sFok_c (t b : Int) (w : World) : Calls Try.prog 51 #[.agg #[.int .i64 t, .int .i64 b]] w fun e w' => e = .returned (.bool (fracB t b)) ∧ Below w.heap.size w w' := by
  have P := Blk.new w 34 #[.int .i64 t, .int .i64 b]
  have H := (Below.refl w.heap.size w).alloc (Nat.le_refl _) (.cells #[.int .i64 t, .int .i64 b] 34)
  unfold fracB
  cases h1 : inB b 1 10000
  · go_enter Try.func51, Try.ntmps51
    go_wp2_with (go_at_call 33; refine (l01In_c _ _ _ _).mono ?_; rintro e w' ⟨rfl, rfl⟩)
    go_ret
    exact ⟨rfl, H⟩
  · cases h2 : inB t 0 10000
    · go_enter Try.func51, Try.ntmps51
      go_wp2_with (go_at_call 33; refine (l01In_c _ _ _ _).mono ?_; rintro e w' ⟨rfl, rfl⟩)
      go_ret
      exact ⟨rfl, H⟩
    · obtain ⟨b0, b1⟩ := (inB_iff _ _ _).1 h1
      obtain ⟨t0, t1⟩ := (inB_iff _ _ _).1 h2
      obtain ⟨tn, rfl⟩ := Int.eq_ofNat_of_zero_le t0
      obtain ⟨bn, rfl⟩ := Int.eq_ofNat_of_zero_le (show 0 ≤ b by omega)
      have hg := Lib.hid (show gcdI (tn : Int) (bn : Int) = (Nat.gcd tn bn : Nat) from rfl)
      go_enter Try.func51, Try.ntmps51
      go_wp2_with fail
      refine (l01In_c _ _ _ _).mono ?_
      rintro e w' ⟨rfl, rfl⟩
      go_wp2_with fail
      refine (l01In_c _ _ _ _).mono ?_
      rintro e w' ⟨rfl, rfl⟩
      go_wp2_with fail
      refine (sGcd_c tn bn _ (by omega) (by omega)).mono ?_
      rintro e w1 ⟨rfl, b⟩
      replace H := chain H b (Nat.le_refl _)
      clear b
      generalize Nat.gcd tn bn = G at *
      go_wp2
      go_ret
      exact ⟨by rw [hg.out]; rfl, H⟩

/-! ### The reduced fraction of two numbers -/
def redT (t b : Int) : Int := t / gcdI t b
def redU (t b : Int) : Int := b / gcdI t b
def redB (t b : Int) : Bool := fracB (redT t b) (redU t b)
def fT (ok : Bool) (t : Int) : Int := if ok then t else 0
def RetF (t u : Int) (ok : Bool) (e : Ending) : Prop := e = .returned (.tuple #[.agg #[.int .i64 (fT ok t), .int .i64 (fT ok u)], .bool ok])
set_option maxHeartbeats 1000000 in
theorem reduced_c (t b : Nat) (w : World) (ht : t ≤ 1000000000) (hb : b ≤ 1000000000) (hb0 : 0 < b) :
    Calls Try.prog 58 #[.int .i64 t, .int .i64 b] w fun e w' => RetF (redT t b) (redU t b) (redB t b) e ∧ Below w.heap.size w w' := by
  unfold RetF
  have hg : gcdI (t : Int) (b : Int) = (Nat.gcd t b : Nat) := rfl
  have hG0 : 0 < Nat.gcd t b := Nat.gcd_pos_of_pos_right _ hb0
  have hGb : Nat.gcd t b ≤ b := Nat.gcd_le_right _ hb0
  have eT : redT t b = ((t / Nat.gcd t b : Nat) : Int) := by unfold redT; rw [hg]; rfl
  have eU : redU t b = ((b / Nat.gcd t b : Nat) : Int) := by unfold redU; rw [hg]; rfl
  have hT : t / Nat.gcd t b ≤ t := Nat.div_le_self _ _
  have hU : b / Nat.gcd t b ≤ b := Nat.div_le_self _ _
  unfold redB
  rw [eT, eU]
  clear eT eU hg
  have q1 : Int.tdiv (t : Int) ((Nat.gcd t b : Nat) : Int) = ((t / Nat.gcd t b : Nat) : Int) := rfl
  have q2 : Int.tdiv (b : Int) ((Nat.gcd t b : Nat) : Int) = ((b / Nat.gcd t b : Nat) : Int) := rfl
  have hgc := Lib.hid (fun W => iGcd_c t b W ht hb)
  have hz : (((Nat.gcd t b : Nat) : Int) == 0) = false := by simp; omega
  generalize t / Nat.gcd t b = T at *
  generalize b / Nat.gcd t b = U at *
  generalize Nat.gcd t b = G at *
  have q3 : IntKind.i64.wrap (T : Int) = (T : Int) := IntWalk.i64_in _ (by omega)
  have q4 : IntKind.i64.wrap (U : Int) = (U : Int) := IntWalk.i64_in _ (by omega)
  have hGI : (0 : Int) < (G : Int) := by omega
  have P := Blk.new w 34 #[.int .i64 0, .int .i64 0]
  have H := (Below.refl w.heap.size w).alloc (Nat.le_refl _) (.cells #[.int .i64 0, .int .i64 0] 34)
  go_enter Try.func58, Try.ntmps58
  go_wp2_with fail
  refine (hgc.out _).mono ?_
  rintro e w1 ⟨rfl, b⟩
  replace P := P.next b
  have hlt' := P.lt
  replace H := chain H b (Nat.le_refl _)
  clear b
  go_wp2
  go_region
  have F : Blk ((w1.alloc (.cells #[.int .i64 T, .int .i64 U] 34)).drew) w1.heap.size 34 #[.int .i64 T, .int .i64 U] := Blk.new _ _ _
  replace P : Blk ((w1.alloc (.cells #[.int .i64 T, .int .i64 U] 34)).drew) w.heap.size 34 #[.int .i64 0, .int .i64 0] := P.alloc _
  have hsz := H.size
  replace H : Below w.heap.size w ((w1.alloc (.cells #[.int .i64 T, .int .i64 U] 34)).drew) := (H.alloc H.size _).drew
  have hne : w.heap.size < w1.heap.size := hlt'
  cases hok : fracB T U
  all_goals
    go_wp2_with fail
    refine (iFok_c _ _ _).mono ?_
    rw [hok]
    rintro e w2 ⟨rfl, b⟩
    replace P := P.next b
    replace F := F.next b
    replace H := chain H b (Nat.le_refl _)
    clear b
    obtain ⟨p0, p1, p2, p3, pL⟩ := P.two
    obtain ⟨f0, f1, f2, f3, fL⟩ := F.two
    go_wp2
  · refine bodyPost_ret (v := .tuple #[.agg #[.int .i64 0, .int .i64 0], .bool false]) (by simp [results, Try.results58, go_sem, *]) rfl ⟨by rw [hok]; rfl, ?_⟩
    exact (by go_grown)
  · refine bodyPost_ret (v := .tuple #[.agg #[.int .i64 T, .int .i64 U], .bool true]) (by simp [results, Try.results58, go_sem, *]) rfl ⟨by rw [hok]; rfl, ?_⟩
    exact (by go_grown)

/-! ### The sum of two fractions -/
def adT (a b c d : Int) : Int := redT (a * d + c * b) (b * d)
def adU (a b c d : Int) : Int := redU (a * d + c * b) (b * d)
def adB (a b c d : Int) : Bool := fracB a b && fracB c d && redB (a * d + c * b) (b * d)
theorem mul_b8 (a b : Int) (a0 : 0 ≤ a) (a1 : a ≤ 10000) (b0 : 0 ≤ b) (b1 : b ≤ 10000) : 0 ≤ a * b ∧ a * b ≤ 100000000 := by
  have h1 := Int.mul_nonneg a0 b0
  have h2 : a * b ≤ 10000 * 10000 := Int.mul_le_mul a1 b1 b0 (by omega)
  omega
theorem reduced_i (t b : Int) (w : World) (t0 : 0 ≤ t) (ht : t ≤ 1000000000) (hb : b ≤ 1000000000) (hb0 : 0 < b) :
    Calls Try.prog 58 #[.int .i64 t, .int .i64 b] w fun e w' => RetF (redT t b) (redU t b) (redB t b) e ∧ Below w.heap.size w w' := by
  obtain ⟨t, rfl⟩ := Int.eq_ofNat_of_zero_le t0
  obtain ⟨b, rfl⟩ := Int.eq_ofNat_of_zero_le (show 0 ≤ b by omega)
  exact reduced_c t b w (by omega) (by omega) (by omega)
set_option maxHeartbeats 2000000 in
theorem iAdd_c (a b c d : Int) (w : World) : Calls Try.prog 50 #[.agg #[.int .i64 a, .int .i64 b], .agg #[.int .i64 c, .int .i64 d]] w fun e w' => RetF (adT a b c d) (adU a b c d) (adB a b c d) e ∧ Below w.heap.size w w' := by
  unfold RetF
  have P := ((Blk.new w 34 #[.int .i64 a, .int .i64 b]).alloc (.cells #[.int .i64 c, .int .i64 d] 34)).alloc (.cells #[.int .i64 0, .int .i64 0] 34)
  have Q := (Blk.new (w.alloc (.cells #[.int .i64 a, .int .i64 b] 34)) 34 #[.int .i64 c, .int .i64 d]).alloc (.cells #[.int .i64 0, .int .i64 0] 34)
  simp only [World.size_alloc] at Q
  have R := Blk.new ((w.alloc (.cells #[.int .i64 a, .int .i64 b] 34)).alloc (.cells #[.int .i64 c, .int .i64 d] 34)) 34 #[.int .i64 0, .int .i64 0]
  simp only [World.size_alloc] at R
  have H : Below w.heap.size w (((w.alloc (.cells #[.int .i64 a, .int .i64 b] 34)).alloc (.cells #[.int .i64 c, .int .i64 d] 34)).alloc (.cells #[.int .i64 0, .int .i64 0] 34)) := ((((Below.refl w.heap.size w).alloc (by first | exact Nat.le_refl _ | (simp only [World.size_alloc]; omega)) (.cells #[.int .i64 a, .int .i64 b] 34)).alloc (by first | exact Nat.le_refl _ | (simp only [World.size_alloc]; omega)) (.cells #[.int .i64 c, .int .i64 d] 34)).alloc (by first | exact Nat.le_refl _ | (simp only [World.size_alloc]; omega)) (.cells #[.int .i64 0, .int .i64 0] 34))
  cases h1 : fracB a b
  · have hz : adB a b c d = false := by unfold adB; rw [h1]; rfl
    rw [hz]
    clear hz
    obtain ⟨p0, p1, p2, p3, pL⟩ := P.two
    obtain ⟨q0, q1, q2, q3, qL⟩ := Q.two
    have hF := Lib.hid (fun W => iFok_c a b W)
    rw [h1] at hF
    go_enter Try.func50, Try.ntmps50
    go_wp2_with fail
    refine (hF.out _).mono ?_
    rintro e w1 ⟨rfl, b⟩
    replace P := P.next b
    replace Q := Q.next b
    replace R := R.next b
    replace H := chain H b (Nat.le_refl _)
    clear b
    try clear p0 p1 pL
    obtain ⟨p0, p1, -, -, pL⟩ := P.two
    try clear q0 q1 qL
    obtain ⟨q0, q1, -, -, qL⟩ := Q.two
    try clear r0 r1 rf0 rf1 rL
    obtain ⟨r0, r1, rf0, rf1, rL⟩ := R.two
    go_wp2
    refine bodyPost_ret (v := .tuple #[.agg #[.int .i64 0, .int .i64 0], .bool false]) (by simp [results, Try.results50, go_sem, *]) rfl ⟨rfl, ?_⟩
    exact (by go_grown)
  · cases h2 : fracB c d
    · have hz : adB a b c d = false := by unfold adB; rw [h1, h2]; rfl
      rw [hz]
      clear hz
      obtain ⟨p0, p1, p2, p3, pL⟩ := P.two
      obtain ⟨q0, q1, q2, q3, qL⟩ := Q.two
      have hF := Lib.hid (fun W => iFok_c a b W)
      have hG := Lib.hid (fun W => iFok_c c d W)
      rw [h1] at hF
      rw [h2] at hG
      go_enter Try.func50, Try.ntmps50
      go_wp2_with fail
      refine (hF.out _).mono ?_
      rintro e w1 ⟨rfl, b⟩
      replace P := P.next b
      replace Q := Q.next b
      replace R := R.next b
      replace H := chain H b (Nat.le_refl _)
      clear b
      try clear p0 p1 pL
      obtain ⟨p0, p1, -, -, pL⟩ := P.two
      try clear q0 q1 qL
      obtain ⟨q0, q1, -, -, qL⟩ := Q.two
      try clear r0 r1 rf0 rf1 rL
      obtain ⟨r0, r1, rf0, rf1, rL⟩ := R.two
      go_wp2_with fail
      refine (hG.out _).mono ?_
      rintro e w1 ⟨rfl, b⟩
      replace P := P.next b
      replace Q := Q.next b
      replace R := R.next b
      replace H := chain H b (Nat.le_refl _)
      clear b
      try clear p0 p1 pL
      obtain ⟨p0, p1, -, -, pL⟩ := P.two
      try clear q0 q1 qL
      obtain ⟨q0, q1, -, -, qL⟩ := Q.two
      try clear r0 r1 rf0 rf1 rL
      obtain ⟨r0, r1, rf0, rf1, rL⟩ := R.two
      go_wp2
      refine bodyPost_ret (v := .tuple #[.agg #[.int .i64 0, .int .i64 0], .bool false]) (by simp [results, Try.results50, go_sem, *]) rfl ⟨rfl, ?_⟩
      exact (by go_grown)
    · obtain ⟨⟨b0, b1⟩, ⟨a0, a1⟩, -⟩ := frac_b h1
      obtain ⟨⟨d0, d1⟩, ⟨c0, c1⟩, -⟩ := frac_b h2
      obtain ⟨m0, m1⟩ := mul_b8 a d a0 a1 (by omega) d1
      obtain ⟨m2, m3⟩ := mul_b8 c b c0 c1 (by omega) b1
      obtain ⟨m4, m5⟩ := mul_b8 b d (by omega) b1 (by omega) d1
      have m6 : 0 < b * d := Int.mul_pos (by omega) (by omega)
      have hz : adB a b c d = redB (a * d + c * b) (b * d) := by unfold adB; rw [h1, h2]; rfl
      rw [hz]
      unfold adT adU
      clear hz
      have hR := Lib.hid (fun W => reduced_i (a * d + c * b) (b * d) W (by omega) (by omega) (by omega) m6)
      unfold RetF at hR
      have hF := Lib.hid (fun W => iFok_c a b W)
      have hG := Lib.hid (fun W => iFok_c c d W)
      rw [h1] at hF
      rw [h2] at hG
      clear h1 h2
      generalize redT (a * d + c * b) (b * d) = T at *
      generalize redU (a * d + c * b) (b * d) = U at *
      generalize redB (a * d + c * b) (b * d) = K at *
      generalize fT K T = T at *
      generalize fT K U = U at *
      obtain ⟨p0, p1, p2, p3, pL⟩ := P.two
      obtain ⟨q0, q1, q2, q3, qL⟩ := Q.two
      go_enter Try.func50, Try.ntmps50
      go_wp2_with fail
      refine (hF.out _).mono ?_
      rintro e w1 ⟨rfl, b⟩
      replace P := P.next b
      replace Q := Q.next b
      replace R := R.next b
      replace H := chain H b (Nat.le_refl _)
      clear b
      try clear p0 p1 pL
      obtain ⟨p0, p1, -, -, pL⟩ := P.two
      try clear q0 q1 qL
      obtain ⟨q0, q1, -, -, qL⟩ := Q.two
      try clear r0 r1 rf0 rf1 rL
      obtain ⟨r0, r1, rf0, rf1, rL⟩ := R.two
      go_wp2_with fail
      refine (hG.out _).mono ?_
      rintro e w1 ⟨rfl, b⟩
      replace P := P.next b
      replace Q := Q.next b
      replace R := R.next b
      replace H := chain H b (Nat.le_refl _)
      clear b
      try clear p0 p1 pL
      obtain ⟨p0, p1, -, -, pL⟩ := P.two
      try clear q0 q1 qL
      obtain ⟨q0, q1, -, -, qL⟩ := Q.two
      try clear r0 r1 rf0 rf1 rL
      obtain ⟨r0, r1, rf0, rf1, rL⟩ := R.two
      go_wp2_with fail
      refine (hR.out _).mono ?_
      rintro e w1 ⟨rfl, b⟩
      replace P := P.next b
      replace Q := Q.next b
      replace R := R.next b
      replace H := chain H b (Nat.le_refl _)
      clear b
      try clear p0 p1 pL
      obtain ⟨p0, p1, -, -, pL⟩ := P.two
      try clear q0 q1 qL
      obtain ⟨q0, q1, -, -, qL⟩ := Q.two
      try clear r0 r1 rf0 rf1 rL
      obtain ⟨r0, r1, rf0, rf1, rL⟩ := R.two
      go_wp2
      refine bodyPost_ret (v := .tuple #[.agg #[.int .i64 T, .int .i64 U], .bool K]) (by simp [results, Try.results50, go_sem, *]) rfl ⟨rfl, ?_⟩
      exact (by go_grown)
end Go.Proofs.Ytifljdnlaginfaa
