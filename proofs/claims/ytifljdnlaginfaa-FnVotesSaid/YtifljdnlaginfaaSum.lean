/- CompareFractions and SumOfShares, both. -/
import Derived.Test.YtifljdnlaginfaaFracS
import Derived.Test.YtifljdnlaginfaaFlat
namespace Go.Proofs.Ytifljdnlaginfaa
open Go.ChangeShapes Go.WideShapes Go.ChangeAt Go.RowKit
set_option linter.unusedVariables false

theorem isNaN_c (a : Int) (w : World) : Calls Try.prog 59 #[.int .i64 a] w fun e w' => e = .returned (.bool false) ∧ w = w' := by
  have h : (a != a) = false := by simp
  go_enter Try.func59, Try.ntmps59
  go_wp2
  go_ret
  exact ⟨rfl, rfl⟩
def cmpI (x y : Int) : Int := if x < y then -1 else if y < x then 1 else 0
theorem compare_c (x y : Int) (w : World) : Calls Try.prog 52 #[.int .i64 x, .int .i64 y] w fun e w' => e = .returned (.int .i64 (cmpI x y)) ∧ w = w' := by
  unfold cmpI
  by_cases h1 : x < y
  · rw [if_pos h1]
    go_enter Try.func52, Try.ntmps52
    go_wp2_with (go_at_call 59; refine (isNaN_c _ _).mono ?_; rintro e w' ⟨rfl, rfl⟩)
    go_ret
    exact ⟨rfl, rfl⟩
  · rw [if_neg h1]
    by_cases h2 : y < x
    · rw [if_pos h2]
      go_enter Try.func52, Try.ntmps52
      go_wp2_with (go_at_call 59; refine (isNaN_c _ _).mono ?_; rintro e w' ⟨rfl, rfl⟩)
      go_ret
      exact ⟨rfl, rfl⟩
    · rw [if_neg h2]
      go_enter Try.func52, Try.ntmps52
      go_wp2_with (go_at_call 59; refine (isNaN_c _ _).mono ?_; rintro e w' ⟨rfl, rfl⟩)
      go_ret
      exact ⟨rfl, rfl⟩
def cmpF (a b c d : Int) : Int := if fracB a b && fracB c d then cmpI (a * d) (c * b) else 0
theorem cmpF_no {a b c d : Int} (h : fracB a b = false ∨ fracB c d = false) : cmpF a b c d = 0 := by
  unfold cmpF
  rcases h with h | h <;> simp [h]
theorem cmpF_yes {a b c d : Int} (h1 : fracB a b = true) (h2 : fracB c d = true) : cmpF a b c d = cmpI (a * d) (c * b) := by
  unfold cmpF
  rw [h1, h2]
  rfl
set_option maxHeartbeats 2000000 in
theorem iCmp_c (a b c d : Int) (w : World) : Calls Try.prog 43 #[.agg #[.int .i64 a, .int .i64 b], .agg #[.int .i64 c, .int .i64 d]] w fun e w' => e = .returned (.int .i64 (cmpF a b c d)) ∧ Below w.heap.size w w' := by
  have P := (Blk.new w 34 #[.int .i64 a, .int .i64 b]).alloc (.cells #[.int .i64 c, .int .i64 d] 34)
  have Q := Blk.new (w.alloc (.cells #[.int .i64 a, .int .i64 b] 34)) 34 #[.int .i64 c, .int .i64 d]
  simp only [World.size_alloc] at Q
  have H : Below w.heap.size w ((w.alloc (.cells #[.int .i64 a, .int .i64 b] 34)).alloc (.cells #[.int .i64 c, .int .i64 d] 34)) := (((Below.refl w.heap.size w).alloc (by first | exact Nat.le_refl _ | (simp only [World.size_alloc]; omega)) (.cells #[.int .i64 a, .int .i64 b] 34)).alloc (by first | exact Nat.le_refl _ | (simp only [World.size_alloc]; omega)) (.cells #[.int .i64 c, .int .i64 d] 34))
  obtain ⟨p0, p1, -, -, pL⟩ := P.two
  obtain ⟨q0, q1, -, -, qL⟩ := Q.two
  have hF := Lib.hid (fun W => iFok_c a b W)
  have hG := Lib.hid (fun W => iFok_c c d W)
  cases h1 : fracB a b
  · rw [cmpF_no (.inl h1)]
    rw [h1] at hF
    go_enter Try.func43, Try.ntmps43
    go_wp2_with fail
    refine (hF.out _).mono ?_
    rintro e w1 ⟨rfl, b⟩
    replace P := P.next b
    replace Q := Q.next b
    replace H := chain H b (Nat.le_refl _)
    clear b
    try clear p0 p1 pL
    obtain ⟨p0, p1, -, -, pL⟩ := P.two
    try clear q0 q1 qL
    obtain ⟨q0, q1, -, -, qL⟩ := Q.two
    go_wp2
    go_ret
    exact ⟨rfl, H⟩
  · rw [h1] at hF
    cases h2 : fracB c d
    · rw [cmpF_no (.inr h2)]
      rw [h2] at hG
      go_enter Try.func43, Try.ntmps43
      go_wp2_with fail
      refine (hF.out _).mono ?_
      rintro e w1 ⟨rfl, b⟩
      replace P := P.next b
      replace Q := Q.next b
      replace H := chain H b (Nat.le_refl _)
      clear b
      try clear p0 p1 pL
      obtain ⟨p0, p1, -, -, pL⟩ := P.two
      try clear q0 q1 qL
      obtain ⟨q0, q1, -, -, qL⟩ := Q.two
      go_wp2_with fail
      refine (hG.out _).mono ?_
      rintro e w1 ⟨rfl, b⟩
      replace P := P.next b
      replace Q := Q.next b
      replace H := chain H b (Nat.le_refl _)
      clear b
      try clear p0 p1 pL
      obtain ⟨p0, p1, -, -, pL⟩ := P.two
      try clear q0 q1 qL
      obtain ⟨q0, q1, -, -, qL⟩ := Q.two
      go_wp2
      go_ret
      exact ⟨rfl, H⟩
    · rw [cmpF_yes h1 h2]
      rw [h2] at hG
      obtain ⟨⟨b0, b1⟩, ⟨a0, a1⟩, -⟩ := frac_b h1
      obtain ⟨⟨d0, d1⟩, ⟨c0, c1⟩, -⟩ := frac_b h2
      obtain ⟨m0, m1⟩ := mul_b8 a d a0 a1 (by omega) d1
      obtain ⟨m2, m3⟩ := mul_b8 c b c0 c1 (by omega) b1
      clear h1 h2
      go_enter Try.func43, Try.ntmps43
      go_wp2_with fail
      refine (hF.out _).mono ?_
      rintro e w1 ⟨rfl, b⟩
      replace P := P.next b
      replace Q := Q.next b
      replace H := chain H b (Nat.le_refl _)
      clear b
      try clear p0 p1 pL
      obtain ⟨p0, p1, -, -, pL⟩ := P.two
      try clear q0 q1 qL
      obtain ⟨q0, q1, -, -, qL⟩ := Q.two
      go_wp2_with fail
      refine (hG.out _).mono ?_
      rintro e w1 ⟨rfl, b⟩
      replace P := P.next b
      replace Q := Q.next b
      replace H := chain H b (Nat.le_refl _)
      clear b
      try clear p0 p1 pL
      obtain ⟨p0, p1, -, -, pL⟩ := P.two
      try clear q0 q1 qL
      obtain ⟨q0, q1, -, -, qL⟩ := Q.two
      go_wp2_with fail
      refine (compare_c _ _ _).mono ?_
      rintro e w' ⟨rfl, rfl⟩
      go_wp2
      go_ret
      exact ⟨rfl, H⟩
set_option maxHeartbeats 2000000 in
theorem sCmp_c (a b c d : Int) (w : World) : Calls Try.prog 42 #[.agg #[.int .i64 a, .int .i64 b], .agg #[.int .i64 c, .int .i64 d]] w fun e w' => e = .returned (.int .i64 (cmpF a b c d)) ∧ Below w.heap.size w w' := by
  have P := (Blk.new w 34 #[.int .i64 a, .int .i64 b]).alloc (.cells #[.int .i64 c, .int .i64 d] 34)
  have Q := Blk.new (w.alloc (.cells #[.int .i64 a, .int .i64 b] 34)) 34 #[.int .i64 c, .int .i64 d]
  simp only [World.size_alloc] at Q
  have H : Below w.heap.size w ((w.alloc (.cells #[.int .i64 a, .int .i64 b] 34)).alloc (.cells #[.int .i64 c, .int .i64 d] 34)) := (((Below.refl w.heap.size w).alloc (by first | exact Nat.le_refl _ | (simp only [World.size_alloc]; omega)) (.cells #[.int .i64 a, .int .i64 b] 34)).alloc (by first | exact Nat.le_refl _ | (simp only [World.size_alloc]; omega)) (.cells #[.int .i64 c, .int .i64 d] 34))
  obtain ⟨p0, p1, -, -, pL⟩ := P.two
  obtain ⟨q0, q1, -, -, qL⟩ := Q.two
  have hF := Lib.hid (fun W => sFok_c a b W)
  have hG := Lib.hid (fun W => sFok_c c d W)
  cases h1 : fracB a b
  · rw [cmpF_no (.inl h1)]
    rw [h1] at hF
    go_enter Try.func42, Try.ntmps42
    go_wp2_with fail
    refine (hF.out _).mono ?_
    rintro e w1 ⟨rfl, b⟩
    replace P := P.next b
    replace Q := Q.next b
    replace H := chain H b (Nat.le_refl _)
    clear b
    try clear p0 p1 pL
    obtain ⟨p0, p1, -, -, pL⟩ := P.two
    try clear q0 q1 qL
    obtain ⟨q0, q1, -, -, qL⟩ := Q.two
    go_wp2
    go_ret
    exact ⟨rfl, H⟩
  · rw [h1] at hF
    cases h2 : fracB c d
    · rw [cmpF_no (.inr h2)]
      rw [h2] at hG
      go_enter Try.func42, Try.ntmps42
      go_wp2_with fail
      refine (hF.out _).mono ?_
      rintro e w1 ⟨rfl, b⟩
      replace P := P.next b
      replace Q := Q.next b
      replace H := chain H b (Nat.le_refl _)
      clear b
      try clear p0 p1 pL
      obtain ⟨p0, p1, -, -, pL⟩ := P.two
      try clear q0 q1 qL
      obtain ⟨q0, q1, -, -, qL⟩ := Q.two
      go_wp2_with fail
      refine (hG.out _).mono ?_
      rintro e w1 ⟨rfl, b⟩
      replace P := P.next b
      replace Q := Q.next b
      replace H := chain H b (Nat.le_refl _)
      clear b
      try clear p0 p1 pL
      obtain ⟨p0, p1, -, -, pL⟩ := P.two
      try clear q0 q1 qL
      obtain ⟨q0, q1, -, -, qL⟩ := Q.two
      go_wp2
      go_ret
      exact ⟨rfl, H⟩
    · rw [cmpF_yes h1 h2]
      rw [h2] at hG
      obtain ⟨⟨b0, b1⟩, ⟨a0, a1⟩, -⟩ := frac_b h1
      obtain ⟨⟨d0, d1⟩, ⟨c0, c1⟩, -⟩ := frac_b h2
      obtain ⟨m0, m1⟩ := mul_b8 a d a0 a1 (by omega) d1
      obtain ⟨m2, m3⟩ := mul_b8 c b c0 c1 (by omega) b1
      clear h1 h2
      unfold cmpI
      by_cases l1 : a * d < c * b
      · rw [if_pos l1]
        go_enter Try.func42, Try.ntmps42
        go_wp2_with fail
        refine (hF.out _).mono ?_
        rintro e w1 ⟨rfl, b⟩
        replace P := P.next b
        replace Q := Q.next b
        replace H := chain H b (Nat.le_refl _)
        clear b
        try clear p0 p1 pL
        obtain ⟨p0, p1, -, -, pL⟩ := P.two
        try clear q0 q1 qL
        obtain ⟨q0, q1, -, -, qL⟩ := Q.two
        go_wp2_with fail
        refine (hG.out _).mono ?_
        rintro e w1 ⟨rfl, b⟩
        replace P := P.next b
        replace Q := Q.next b
        replace H := chain H b (Nat.le_refl _)
        clear b
        try clear p0 p1 pL
        obtain ⟨p0, p1, -, -, pL⟩ := P.two
        try clear q0 q1 qL
        obtain ⟨q0, q1, -, -, qL⟩ := Q.two
        go_wp2
        go_ret
        exact ⟨rfl, H⟩
      · rw [if_neg l1]
        by_cases l2 : c * b < a * d
        · rw [if_pos l2]
          go_enter Try.func42, Try.ntmps42
          go_wp2_with fail
          refine (hF.out _).mono ?_
          rintro e w1 ⟨rfl, b⟩
          replace P := P.next b
          replace Q := Q.next b
          replace H := chain H b (Nat.le_refl _)
          clear b
          try clear p0 p1 pL
          obtain ⟨p0, p1, -, -, pL⟩ := P.two
          try clear q0 q1 qL
          obtain ⟨q0, q1, -, -, qL⟩ := Q.two
          go_wp2_with fail
          refine (hG.out _).mono ?_
          rintro e w1 ⟨rfl, b⟩
          replace P := P.next b
          replace Q := Q.next b
          replace H := chain H b (Nat.le_refl _)
          clear b
          try clear p0 p1 pL
          obtain ⟨p0, p1, -, -, pL⟩ := P.two
          try clear q0 q1 qL
          obtain ⟨q0, q1, -, -, qL⟩ := Q.two
          go_wp2
          go_ret
          exact ⟨rfl, H⟩
        · rw [if_neg l2]
          go_enter Try.func42, Try.ntmps42
          go_wp2_with fail
          refine (hF.out _).mono ?_
          rintro e w1 ⟨rfl, b⟩
          replace P := P.next b
          replace Q := Q.next b
          replace H := chain H b (Nat.le_refl _)
          clear b
          try clear p0 p1 pL
          obtain ⟨p0, p1, -, -, pL⟩ := P.two
          try clear q0 q1 qL
          obtain ⟨q0, q1, -, -, qL⟩ := Q.two
          go_wp2_with fail
          refine (hG.out _).mono ?_
          rintro e w1 ⟨rfl, b⟩
          replace P := P.next b
          replace Q := Q.next b
          replace H := chain H b (Nat.le_refl _)
          clear b
          try clear p0 p1 pL
          obtain ⟨p0, p1, -, -, pL⟩ := P.two
          try clear q0 q1 qL
          obtain ⟨q0, q1, -, -, qL⟩ := Q.two
          go_wp2
          go_ret
          exact ⟨rfl, H⟩

/-! ### The sum of the shares -/
abbrev Rf := List (Int × Int × Int)
def ow (t : Rf) (k : Nat) : Int := (t.getD k (0, 0, 0)).1
def tp (t : Rf) (k : Nat) : Int := (t.getD k (0, 0, 0)).2.1
def bt (t : Rf) (k : Nat) : Int := (t.getD k (0, 0, 0)).2.2
theorem ow_at {t : Rf} {k : Nat} {x y z : Int} (h : t[k]? = some (x, y, z)) : ow t k = x := by unfold ow; rw [getD_at h]
theorem tp_at {t : Rf} {k : Nat} {x y z : Int} (h : t[k]? = some (x, y, z)) : tp t k = y := by unfold tp; rw [getD_at h]
theorem bt_at {t : Rf} {k : Nat} {x y z : Int} (h : t[k]? = some (x, y, z)) : bt t k = z := by unfold bt; rw [getD_at h]
def addO : Option (Int × Int) → Int → Int → Option (Int × Int)
  | none, _, _ => none
  | some (p, q), c, d => if adB p q c d then some (adT p q c d, adU p q c d) else none
def sumK (t : Rf) : Nat → Option (Int × Int)
  | 0 => some (0, 1)
  | k + 1 => addO (sumK t k) (tp t k) (bt t k)
theorem sumK_succ (t : Rf) (k : Nat) : sumK t (k + 1) = addO (sumK t k) (tp t k) (bt t k) := rfl
theorem sumK_none (t : Rf) {k : Nat} (h : sumK t k = none) : ∀ n, k ≤ n → sumK t n = none := by
  intro n
  induction n with
  | zero => intro hk; obtain rfl : k = 0 := by omega
            exact h
  | succ n ih =>
    intro hk
    by_cases e : k = n + 1
    · subst e; exact h
    · rw [sumK_succ, ih (by omega)]; rfl
def sumR (t : Rf) : Option (Int × Int) := if t.length ≤ 12 then sumK t t.length else none
def oT (o : Option (Int × Int)) : Int := (o.getD (0, 0)).1
def oU (o : Option (Int × Int)) : Int := (o.getD (0, 0)).2
def RetO (o : Option (Int × Int)) (e : Ending) : Prop := e = .returned (.tuple #[.agg #[.int .i64 (oT o), .int .i64 (oU o)], .bool o.isSome])
theorem RetO.no : RetO none (.returned (.tuple #[.agg #[.int .i64 0, .int .i64 0], .bool false])) := rfl
theorem RetO.yes (p q : Int) : RetO (some (p, q)) (.returned (.tuple #[.agg #[.int .i64 p, .int .i64 q], .bool true])) := rfl
theorem sumR_long {t : Rf} (h : ¬ t.length ≤ 12) : sumR t = none := by unfold sumR; rw [if_neg h]
theorem sumR_short {t : Rf} (h : t.length ≤ 12) : sumR t = sumK t t.length := by unfold sumR; rw [if_pos h]
theorem addO_no {t : Rf} {k : Nat} {p q x y z : Int} (hs : sumK t k = some (p, q)) (hx : t[k]? = some (x, y, z)) (h : adB p q y z = false) : sumK t (k + 1) = none := by
  rw [sumK_succ, hs, tp_at hx, bt_at hx]
  show (if adB p q y z then _ else none) = none
  rw [h]; rfl
theorem addO_yes {t : Rf} {k : Nat} {p q x y z : Int} (hs : sumK t k = some (p, q)) (hx : t[k]? = some (x, y, z)) (h : adB p q y z = true) : sumK t (k + 1) = some (adT p q y z, adU p q y z) := by
  rw [sumK_succ, hs, tp_at hx, bt_at hx]
  show (if adB p q y z then _ else none) = _
  rw [h]; rfl
set_option maxHeartbeats 4000000 in
theorem iSum_c (A : Option Addr) (c : Nat) (t : Rf) (w : World) (hr : RdI w w.heap.size A (flat3 t)) (hl : t.length ≤ 1048576) :
    Calls Try.prog 40 #[.slice A t.length c] w fun e w' => RetO (sumR t) e ∧ Below w.heap.size w w' := by
  by_cases h12 : t.length ≤ 12
  · have h12' : ¬ (12 : Int) < (t.length : Int) := by omega
    have hsr := Lib.hid (sumR_short h12)
    have R := (Blk.new w 34 #[.int .i64 0, .int .i64 0]).alloc (.cells #[.int .i64 0, .int .i64 1] 34)
    have P := Blk.new (w.alloc (.cells #[.int .i64 0, .int .i64 0] 34)) 34 #[.int .i64 0, .int .i64 1]
    simp only [World.size_alloc] at P
    have H : Below w.heap.size w ((w.alloc (.cells #[.int .i64 0, .int .i64 0] 34)).alloc (.cells #[.int .i64 0, .int .i64 1] 34)) := (((Below.refl w.heap.size w).alloc (by first | exact Nat.le_refl _ | (simp only [World.size_alloc]; omega)) (.cells #[.int .i64 0, .int .i64 0] 34)).alloc (by first | exact Nat.le_refl _ | (simp only [World.size_alloc]; omega)) (.cells #[.int .i64 0, .int .i64 1] 34))
    go_enter Try.func40, Try.ntmps40
    go_wp2
    go_loopw [5, 15] (fun o i wr => ∃ (k : Nat) (p q : Int), k ≤ t.length ∧ i = .int .i64 k ∧ o = .bool true ∧ Blk wr w.heap.size 34 #[.int .i64 0, .int .i64 0] ∧ Blk wr (w.heap.size + 1) 34 #[.int .i64 p, .int .i64 q] ∧ Hid (sumK t k = some (p, q)) ∧ Below w.heap.size w wr) (fun _ i _ => t.length - (intOf i).toNat)
    case atStart => exact ⟨0, 0, 1, Nat.zero_le _, rfl, rfl, R, P, rfl, H⟩
    case round =>
      clear R P H
      obtain ⟨k, p, q, hk, rfl, rfl, R, P, hs, H⟩ := hrel
      by_cases hlt : k < t.length
      · obtain ⟨g, off, x, y, z, rfl, hg, hc0, hc1, hc2, hx⟩ := (hr.below H (Nat.le_refl _)).at3 hlt
        have hB := Blk.new wr 53 #[.int .i64 x, .int .i64 y, .int .i64 z]
        replace R := R.alloc (.cells #[.int .i64 x, .int .i64 y, .int .i64 z] 53)
        replace P := P.alloc (.cells #[.int .i64 x, .int .i64 y, .int .i64 z] 53)
        have hsz := H.size
        replace H := H.alloc H.size (.cells #[.int .i64 x, .int .i64 y, .int .i64 z] 53)
        obtain ⟨p0, p1, pf0, pf1, pL⟩ := P.two
        obtain ⟨b0, b1, b2, -, -, -, bL⟩ := hB.three
        have hA := Lib.hid (fun W => iAdd_c p q y z W)
        unfold RetF at hA
        cases hK : adB p q y z
        · rw [hK] at hA
          have hn := Lib.hid (sumK_none t (addO_no hs.out hx.out hK) t.length (by omega))
          clear hK
          go_wp2_with fail
          refine (hA.out _).mono ?_
          rintro e w1 ⟨rfl, b⟩
          replace R := R.next b
          replace P := P.next b
          replace H := chain H b (Nat.le_refl _)
          clear b hc0 hc1 hc2 b0 b1 b2 bL p0 p1 pf0 pf1 pL
          obtain ⟨p0, p1, pf0, pf1, pL⟩ := P.two
          obtain ⟨r0, r1, rf0, rf1, rL⟩ := R.two
          go_wp2
          refine bodyPost_ret (v := .tuple #[.agg #[.int .i64 0, .int .i64 0], .bool false]) (by simp [results, Try.results40, go_sem, *]) rfl ⟨by rw [hsr.out, hn.out]; rfl, ?_⟩
          exact (by go_grown)
        · rw [hK] at hA
          have hn := Lib.hid (addO_yes hs.out hx.out hK)
          clear hK
          unfold fT at hA
          simp only [if_true] at hA
          generalize adT p q y z = T at *
          generalize adU p q y z = U at *
          go_wp2_with fail
          refine (hA.out _).mono ?_
          rintro e w1 ⟨rfl, b⟩
          replace R := R.next b
          replace P := P.next b
          replace H := chain H b (Nat.le_refl _)
          clear b hc0 hc1 hc2 b0 b1 b2 bL p0 p1 pf0 pf1 pL
          obtain ⟨p0, p1, pf0, pf1, pL⟩ := P.two
          go_wp2
          go_roundw
          case rel => exact ⟨k + 1, T, U, by omega, by go_num, rfl, (R.far (by simp) _).far (by simp) _, P.put2 _ _, hn.out, (H.setCell (by simp) _).setCell (by simp) _⟩
          case measure => simp [intOf]; omega
      · obtain rfl : k = t.length := by omega
        obtain ⟨p0, p1, pf0, pf1, pL⟩ := P.two
        obtain ⟨r0, r1, rf0, rf1, rL⟩ := R.two
        go_wp2
        refine bodyPost_ret (v := .tuple #[.agg #[.int .i64 p, .int .i64 q], .bool true]) (by simp [results, Try.results40, go_sem, *]) rfl ⟨by rw [hsr.out, hs.out]; rfl, ?_⟩
        exact (by go_grown)
  · have h12' : (12 : Int) < (t.length : Int) := by omega
    rw [sumR_long h12]
    go_enter Try.func40, Try.ntmps40
    go_wp2
    refine bodyPost_ret (v := .tuple #[.agg #[.int .i64 0, .int .i64 0], .bool false]) (by simp [results, Try.results40, go_sem, *]) rfl ⟨rfl, ?_⟩
    exact (by go_grown)
end Go.Proofs.Ytifljdnlaginfaa
