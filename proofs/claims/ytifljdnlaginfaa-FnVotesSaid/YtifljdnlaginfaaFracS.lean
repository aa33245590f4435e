/- MakeFraction and AddFractions, the reference's. -/
import Derived.Test.YtifljdnlaginfaaFrac
namespace Go.Proofs.Ytifljdnlaginfaa
open Go.ChangeShapes Go.WideShapes Go.ChangeAt Go.RowKit
set_option linter.unusedVariables false

def mkB (t b : Int) : Bool := inB t 0 100000000 && inB b 1 100000000 && redB t b
theorem gcd_red {t b : Int} (t0 : 0 ≤ t) (b0 : 0 < b) : gcdI (redT t b) (redU t b) = 1 := by
  obtain ⟨t, rfl⟩ := Int.eq_ofNat_of_zero_le t0
  obtain ⟨b, rfl⟩ := Int.eq_ofNat_of_zero_le (show 0 ≤ b by omega)
  have e1 : redT t b = ((t / Nat.gcd t b : Nat) : Int) := rfl
  have e2 : redU t b = ((b / Nat.gcd t b : Nat) : Int) := rfl
  have e3 : gcdI ((t / Nat.gcd t b : Nat) : Int) ((b / Nat.gcd t b : Nat) : Int) = (Nat.gcd (t / Nat.gcd t b) (b / Nat.gcd t b) : Nat) := rfl
  rw [e1, e2, e3, Nat.gcd_div_gcd_div_gcd_of_pos_right (by omega)]
  rfl
theorem red_b {t b : Int} (t0 : 0 ≤ t) (b0 : 0 < b) : 0 ≤ redT t b ∧ redT t b ≤ t ∧ 0 < redU t b ∧ redU t b ≤ b := by
  obtain ⟨t, rfl⟩ := Int.eq_ofNat_of_zero_le t0
  obtain ⟨b, rfl⟩ := Int.eq_ofNat_of_zero_le (show 0 ≤ b by omega)
  have e1 : redT t b = ((t / Nat.gcd t b : Nat) : Int) := rfl
  have e2 : redU t b = ((b / Nat.gcd t b : Nat) : Int) := rfl
  have h1 : t / Nat.gcd t b ≤ t := Nat.div_le_self _ _
  have h2 : b / Nat.gcd t b ≤ b := Nat.div_le_self _ _
  have h3 : 0 < b / Nat.gcd t b := Nat.div_pos (Nat.gcd_le_right _ (by omega)) (Nat.gcd_pos_of_pos_right _ (by omega))
  rw [e1, e2]
  generalize t / Nat.gcd t b = T at *
  generalize b / Nat.gcd t b = U at *
  omega
theorem red_red {t b : Int} (t0 : 0 ≤ t) (b0 : 0 < b) : redT (redT t b) (redU t b) = redT t b ∧ redU (redT t b) (redU t b) = redU t b := by
  have h := gcd_red t0 b0
  constructor
  · show redT t b / gcdI (redT t b) (redU t b) = _
    rw [h, Int.ediv_one]
  · show redU t b / gcdI (redT t b) (redU t b) = _
    rw [h, Int.ediv_one]
theorem mk_red {t b : Int} (t0 : 0 ≤ t) (b0 : 0 < b) : mkB (redT t b) (redU t b) = redB t b := by
  obtain ⟨e1, e2⟩ := red_red t0 b0
  unfold mkB redB
  rw [e1, e2]
  cases h : fracB (redT t b) (redU t b)
  · rw [Bool.and_false]
  · obtain ⟨⟨h1, h2⟩, ⟨h3, h4⟩, -⟩ := frac_b h
    rw [(inB_iff _ _ _).2 ⟨h3, by omega⟩, (inB_iff _ _ _).2 ⟨h1, by omega⟩]
    rfl

set_option maxHeartbeats 2000000 in
theorem sMake_c (t b : Int) (w : World) : Calls Try.prog 54 #[.int .i64 t, .int .i64 b] w fun e w' => RetF (redT t b) (redU t b) (mkB t b) e ∧ Below w.heap.size w w' := by
  unfold RetF
  have P := Blk.new w 34 #[.int .i64 0, .int .i64 0]
  have H := (Below.refl w.heap.size w).alloc (Nat.le_refl _) (.cells #[.int .i64 0, .int .i64 0] 34)
  cases h1 : inB t 0 100000000
  · have hz : mkB t b = false := by unfold mkB; rw [h1]; rfl
    rw [hz]
    clear hz
    go_enter Try.func54, Try.ntmps54
    go_wp2_with (go_at_call 33; refine (l01In_c _ _ _ _).mono ?_; rintro e w' ⟨rfl, rfl⟩)
    refine bodyPost_ret (v := .tuple #[.agg #[.int .i64 0, .int .i64 0], .bool false]) (by simp [results, Try.results54, go_sem, *]) rfl ⟨rfl, ?_⟩
    exact (by go_grown)
  · cases h2 : inB b 1 100000000
    · have hz : mkB t b = false := by unfold mkB; rw [h1, h2]; rfl
      rw [hz]
      clear hz
      go_enter Try.func54, Try.ntmps54
      go_wp2_with (go_at_call 33; refine (l01In_c _ _ _ _).mono ?_; rintro e w' ⟨rfl, rfl⟩)
      refine bodyPost_ret (v := .tuple #[.agg #[.int .i64 0, .int .i64 0], .bool false]) (by simp [results, Try.results54, go_sem, *]) rfl ⟨rfl, ?_⟩
      exact (by go_grown)
    · obtain ⟨t0, t1⟩ := (inB_iff _ _ _).1 h1
      obtain ⟨b0, b1⟩ := (inB_iff _ _ _).1 h2
      have hz : mkB t b = redB t b := by unfold mkB; rw [h1, h2]; rfl
      rw [hz]
      clear hz
      obtain ⟨t, rfl⟩ := Int.eq_ofNat_of_zero_le t0
      obtain ⟨b, rfl⟩ := Int.eq_ofNat_of_zero_le (show 0 ≤ b by omega)
      have hb0 : 0 < b := by omega
      have ht : t ≤ 1000000000 := by omega
      have hb : b ≤ 1000000000 := by omega
      have hg : gcdI (t : Int) (b : Int) = (Nat.gcd t b : Nat) := rfl
      have hG0 : 0 < Nat.gcd t b := Nat.gcd_pos_of_pos_right _ hb0
      have hGb : Nat.gcd t b ≤ b := Nat.gcd_le_right _ hb0
      have eT : redT t b = ((t / Nat.gcd t b : Nat) : Int) := by unfold redT; rw [hg]; rfl
      have eU : redU t b = ((b / Nat.gcd t b : Nat) : Int) := by unfold redU; rw [hg]; rfl
      have hT : t / Nat.gcd t b ≤ t := Nat.div_le_self _ _
      have hU : b / Nat.gcd t b ≤ b := Nat.div_le_self _ _
      unfold redB
      rw [eT, eU]
      clear eT eU hg
      have q1 : Int.tdiv (t : Int) ((Nat.gcd t b : Nat) : Int) = ((t / Nat.gcd t b : Nat) : Int) := rfl
      have q2 : Int.tdiv (b : Int) ((Nat.gcd t b : Nat) : Int) = ((b / Nat.gcd t b : Nat) : Int) := rfl
      have hgc := Lib.hid (fun W => sGcd_c t b W ht hb)
      have hz : (((Nat.gcd t b : Nat) : Int) == 0) = false := by simp; omega
      generalize t / Nat.gcd t b = T at *
      generalize b / Nat.gcd t b = U at *
      generalize Nat.gcd t b = G at *
      have q3 : IntKind.i64.wrap (T : Int) = (T : Int) := IntWalk.i64_in _ (by omega)
      have q4 : IntKind.i64.wrap (U : Int) = (U : Int) := IntWalk.i64_in _ (by omega)
      have hGI : (0 : Int) < (G : Int) := by omega
      go_enter Try.func54, Try.ntmps54
      go_wp2_with fail
      refine (l01In_c _ _ _ _).mono ?_
      rintro e w' ⟨rfl, rfl⟩
      go_wp2_with fail
      refine (l01In_c _ _ _ _).mono ?_
      rintro e w' ⟨rfl, rfl⟩
      go_wp2_with fail
      refine (hgc.out _).mono ?_
      rintro e w1 ⟨rfl, b⟩
      replace P := P.next b
      have hlt' := P.lt
      replace H := chain H b (Nat.le_refl _)
      clear b h1 h2
      go_wp2
      go_region
      have F : Blk ((w1.alloc (.cells #[.int .i64 T, .int .i64 U] 34)).drew) w1.heap.size 34 #[.int .i64 T, .int .i64 U] := Blk.new _ _ _
      replace P : Blk ((w1.alloc (.cells #[.int .i64 T, .int .i64 U] 34)).drew) w.heap.size 34 #[.int .i64 0, .int .i64 0] := P.alloc _
      have hsz := H.size
      replace H : Below w.heap.size w ((w1.alloc (.cells #[.int .i64 T, .int .i64 U] 34)).drew) := (H.alloc H.size _).drew
      cases hok : fracB T U
      all_goals
        go_wp2_with fail
        refine (sFok_c _ _ _).mono ?_
        rw [hok]
        rintro e w2 ⟨rfl, b⟩
        replace P := P.next b
        replace F := F.next b
        replace H := chain H b (Nat.le_refl _)
        clear b
        obtain ⟨p0, p1, p2, p3, pL⟩ := P.two
        obtain ⟨f0, f1, f2, f3, fL⟩ := F.two
        go_wp2
      · refine bodyPost_ret (v := .tuple #[.agg #[.int .i64 0, .int .i64 0], .bool false]) (by simp [results, Try.results54, go_sem, *]) rfl ⟨by rw [hok]; rfl, ?_⟩
        exact (by go_grown)
      · refine bodyPost_ret (v := .tuple #[.agg #[.int .i64 T, .int .i64 U], .bool true]) (by simp [results, Try.results54, go_sem, *]) rfl ⟨by rw [hok]; rfl, ?_⟩
        exact (by go_grown)
theorem sMake_red (t b : Int) (w : World) (t0 : 0 ≤ t) (b0 : 0 < b) : Calls Try.prog 54 #[.int .i64 (redT t b), .int .i64 (redU t b)] w fun e w' => RetF (redT t b) (redU t b) (redB t b) e ∧ Below w.heap.size w w' := by
  have h := sMake_c (redT t b) (redU t b) w
  rw [(red_red t0 b0).1, (red_red t0 b0).2, mk_red t0 b0] at h
  exact h
theorem gcd_i (t b : Int) (w : World) (t0 : 0 ≤ t) (ht : t ≤ 1000000000) (hb : b ≤ 1000000000) (hb0 : 0 < b) :
    Calls Try.prog 56 #[.int .i64 t, .int .i64 b] w fun e w' => e = .returned (.int .i64 (gcdI t b)) ∧ Below w.heap.size w w' := by
  obtain ⟨t, rfl⟩ := Int.eq_ofNat_of_zero_le t0
  obtain ⟨b, rfl⟩ := Int.eq_ofNat_of_zero_le (show 0 ≤ b by omega)
  exact sGcd_c t b w (by omega) (by omega)
theorem tdiv_red {t b : Int} (t0 : 0 ≤ t) (b0 : 0 < b) : Int.tdiv t (gcdI t b) = redT t b ∧ Int.tdiv b (gcdI t b) = redU t b ∧ 0 < gcdI t b := by
  obtain ⟨t, rfl⟩ := Int.eq_ofNat_of_zero_le t0
  obtain ⟨b, rfl⟩ := Int.eq_ofNat_of_zero_le (show 0 ≤ b by omega)
  have := Nat.gcd_pos_of_pos_right t (show 0 < b by omega)
  exact ⟨rfl, rfl, by show (0 : Int) < ((Nat.gcd t b : Nat) : Int); omega⟩
set_option maxHeartbeats 2000000 in
theorem sAdd_c (a b c d : Int) (w : World) : Calls Try.prog 47 #[.agg #[.int .i64 a, .int .i64 b], .agg #[.int .i64 c, .int .i64 d]] w fun e w' => RetF (adT a b c d) (adU a b c d) (adB a b c d) e ∧ Below w.heap.size w w' := by
  unfold RetF
  have P := ((Blk.new w 34 #[.int .i64 a, .int .i64 b]).alloc (.cells #[.int .i64 c, .int .i64 d] 34)).alloc (.cells #[.int .i64 0, .int .i64 0] 34)
  have Q := (Blk.new (w.alloc (.cells #[.int .i64 a, .int .i64 b] 34)) 34 #[.int .i64 c, .int .i64 d]).alloc (.cells #[.int .i64 0, .int .i64 0] 34)
  simp only [World.size_alloc] at Q
  have R := Blk.new ((w.alloc (.cells #[.int .i64 a, .int .i64 b] 34)).alloc (.cells #[.int .i64 c, .int .i64 d] 34)) 34 #[.int .i64 0, .int .i64 0]
  simp only [World.size_alloc] at R
  have H : Below w.heap.size w (((w.alloc (.cells #[.int .i64 a, .int .i64 b] 34)).alloc (.cells #[.int .i64 c, .int .i64 d] 34)).alloc (.cells #[.int .i64 0, .int .i64 0] 34)) := ((((Below.refl w.heap.size w).alloc (by first | exact Nat.le_refl _ | (simp only [World.size_alloc]; omega)) (.cells #[.int .i64 a, .int .i64 b] 34)).alloc (by first | exact Nat.le_refl _ | (simp only [World.size_alloc]; omega)) (.cells #[.int .i64 c, .int .i64 d] 34)).alloc (by first | exact Nat.le_refl _ | (simp only [World.size_alloc]; omega)) (.cells #[.int .i64 0, .int .i64 0] 34))
  cases h1 : fracB a b
  · have hz : adB a b c d = false := by unfold adB; rw [h1]; rfl
    rw [hz]
    clear hz
    obtain ⟨p0, p1, p2, p3, pL⟩ := P.two
    obtain ⟨q0, q1, q2, q3, qL⟩ := Q.two
    have hF := Lib.hid (fun W => sFok_c a b W)
    rw [h1] at hF
    go_enter Try.func47, Try.ntmps47
    go_wp2_with fail
    refine (hF.out _).mono ?_
    rintro e w1 ⟨rfl, b⟩
    replace P := P.next b
    replace Q := Q.next b
    replace R := R.next b
    replace H := chain H b (Nat.le_refl _)
    clear b
    try clear p0 p1 pL
    obtain ⟨p0, p1, -, -, pL⟩ := P.two
    try clear q0 q1 qL
    obtain ⟨q0, q1, -, -, qL⟩ := Q.two
    try clear r0 r1 rf0 rf1 rL
    obtain ⟨r0, r1, rf0, rf1, rL⟩ := R.two
    go_wp2
    refine bodyPost_ret (v := .tuple #[.agg #[.int .i64 0, .int .i64 0], .bool false]) (by simp [results, Try.results47, go_sem, *]) rfl ⟨rfl, ?_⟩
    exact (by go_grown)
  · cases h2 : fracB c d
    · have hz : adB a b c d = false := by unfold adB; rw [h1, h2]; rfl
      rw [hz]
      clear hz
      obtain ⟨p0, p1, p2, p3, pL⟩ := P.two
      obtain ⟨q0, q1, q2, q3, qL⟩ := Q.two
      have hF := Lib.hid (fun W => sFok_c a b W)
      have hG := Lib.hid (fun W => sFok_c c d W)
      rw [h1] at hF
      rw [h2] at hG
      go_enter Try.func47, Try.ntmps47
      go_wp2_with fail
      refine (hF.out _).mono ?_
      rintro e w1 ⟨rfl, b⟩
      replace P := P.next b
      replace Q := Q.next b
      replace R := R.next b
      replace H := chain H b (Nat.le_refl _)
      clear b
      try clear p0 p1 pL
      obtain ⟨p0, p1, -, -, pL⟩ := P.two
      try clear q0 q1 qL
      obtain ⟨q0, q1, -, -, qL⟩ := Q.two
      try clear r0 r1 rf0 rf1 rL
      obtain ⟨r0, r1, rf0, rf1, rL⟩ := R.two
      go_wp2_with fail
      refine (hG.out _).mono ?_
      rintro e w1 ⟨rfl, b⟩
      replace P := P.next b
      replace Q := Q.next b
      replace R := R.next b
      replace H := chain H b (Nat.le_refl _)
      clear b
      try clear p0 p1 pL
      obtain ⟨p0, p1, -, -, pL⟩ := P.two
      try clear q0 q1 qL
      obtain ⟨q0, q1, -, -, qL⟩ := Q.two
      try clear r0 r1 rf0 rf1 rL
      obtain ⟨r0, r1, rf0, rf1, rL⟩ := R.two
      go_wp2
      refine bodyPost_ret (v := .tuple #[.agg #[.int .i64 0, .int .i64 0], .bool false]) (by simp [results, Try.results47, go_sem, *]) rfl ⟨rfl, ?_⟩
      exact (by go_grown)
    · obtain ⟨⟨b0, b1⟩, ⟨a0, a1⟩, -⟩ := frac_b h1
      obtain ⟨⟨d0, d1⟩, ⟨c0, c1⟩, -⟩ := frac_b h2
      obtain ⟨m0, m1⟩ := mul_b8 a d a0 a1 (by omega) d1
      obtain ⟨m2, m3⟩ := mul_b8 c b c0 c1 (by omega) b1
      obtain ⟨m4, m5⟩ := mul_b8 b d (by omega) b1 (by omega) d1
      have m6 : 0 < b * d := Int.mul_pos (by omega) (by omega)
      have hz : adB a b c d = redB (a * d + c * b) (b * d) := by unfold adB; rw [h1, h2]; rfl
      rw [hz]
      unfold adT adU
      clear hz
      have hg := Lib.hid (fun W => gcd_i (a * d + c * b) (b * d) W (by omega) (by omega) (by omega) m6)
      have hM := Lib.hid (fun W => sMake_red (a * d + c * b) (b * d) W (by omega) m6)
      unfold RetF at hM
      obtain ⟨t1, t2, t3⟩ := tdiv_red (t := a * d + c * b) (b := b * d) (by omega) m6
      obtain ⟨rr0, rr1, rr2, rr3⟩ := red_b (t := a * d + c * b) (b := b * d) (by omega) m6
      have hF := Lib.hid (fun W => sFok_c a b W)
      have hG := Lib.hid (fun W => sFok_c c d W)
      rw [h1] at hF
      rw [h2] at hG
      clear h1 h2
      generalize gcdI (a * d + c * b) (b * d) = g at *
      generalize redB (a * d + c * b) (b * d) = K at *
      generalize redT (a * d + c * b) (b * d) = TT at *
      generalize redU (a * d + c * b) (b * d) = UU at *
      have t4 : IntKind.i64.wrap TT = TT := IntWalk.i64_in _ (by omega)
      have t5 : IntKind.i64.wrap UU = UU := IntWalk.i64_in _ (by omega)
      have t6 : (g == 0) = false := by simp; omega
      have hT := Lib.hid (Eq.refl (fT K TT))
      generalize hfT : fT K TT = T at hM ⊢
      generalize hfU : fT K UU = U at hM ⊢
      clear hT hfT hfU
      obtain ⟨p0, p1, p2, p3, pL⟩ := P.two
      obtain ⟨q0, q1, q2, q3, qL⟩ := Q.two
      go_enter Try.func47, Try.ntmps47
      go_wp2_with fail
      refine (hF.out _).mono ?_
      rintro e w1 ⟨rfl, b⟩
      replace P := P.next b
      replace Q := Q.next b
      replace R := R.next b
      replace H := chain H b (Nat.le_refl _)
      clear b
      try clear p0 p1 pL
      obtain ⟨p0, p1, -, -, pL⟩ := P.two
      try clear q0 q1 qL
      obtain ⟨q0, q1, -, -, qL⟩ := Q.two
      try clear r0 r1 rf0 rf1 rL
      obtain ⟨r0, r1, rf0, rf1, rL⟩ := R.two
      go_wp2_with fail
      refine (hG.out _).mono ?_
      rintro e w1 ⟨rfl, b⟩
      replace P := P.next b
      replace Q := Q.next b
      replace R := R.next b
      replace H := chain H b (Nat.le_refl _)
      clear b
      try clear p0 p1 pL
      obtain ⟨p0, p1, -, -, pL⟩ := P.two
      try clear q0 q1 qL
      obtain ⟨q0, q1, -, -, qL⟩ := Q.two
      try clear r0 r1 rf0 rf1 rL
      obtain ⟨r0, r1, rf0, rf1, rL⟩ := R.two
      go_wp2_with fail
      refine (hg.out _).mono ?_
      rintro e w1 ⟨rfl, b⟩
      replace P := P.next b
      replace Q := Q.next b
      replace R := R.next b
      replace H := chain H b (Nat.le_refl _)
      clear b
      try clear p0 p1 pL
      obtain ⟨p0, p1, -, -, pL⟩ := P.two
      try clear q0 q1 qL
      obtain ⟨q0, q1, -, -, qL⟩ := Q.two
      try clear r0 r1 rf0 rf1 rL
      obtain ⟨r0, r1, rf0, rf1, rL⟩ := R.two
      go_wp2
      go_region_with (go_at_call 54; refine (hM.out _).mono ?_; rintro e w2 ⟨rfl, b⟩; obtain ⟨hc, hf⟩ := bcell b; have hzz := b.size; simp at hzz)
      all_goals
        have R2 : Blk w2 (w.heap.size + 1 + 1) 34 #[.int .i64 0, .int .i64 0] := by
          first
          | exact (Blk.drew R).next b
          | exact (Blk.drew (R.alloc _)).next b
        have H2 : Below w.heap.size w w2 := by
          first
          | exact chain H.drew b (Nat.le_refl _)
          | exact chain (H.alloc H.size _).drew b (Nat.le_refl _)
        have hRlt : w.heap.size + 1 + 1 < w1.heap.size := R.lt
        try (have F2 : Blk w2 w1.heap.size 34 #[.int .i64 0, .int .i64 0] := (Blk.drew (Blk.new w1 _ _)).next b; obtain ⟨x0, x1, x2, x3, x4⟩ := F2.two)
        clear p0 p1 q0 q1 r0 r1 rf0 rf1
        obtain ⟨r0, r1, rf0, rf1, rL⟩ := R2.two
        clear b hc hf
        go_wp2
        refine bodyPost_ret (v := .tuple #[.agg #[.int .i64 T, .int .i64 U], .bool K]) (by simp [results, Try.results47, go_sem, *]) rfl ⟨rfl, ?_⟩
        exact (by go_grown)
end Go.Proofs.Ytifljdnlaginfaa
