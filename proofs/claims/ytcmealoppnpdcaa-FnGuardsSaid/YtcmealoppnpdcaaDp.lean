/- The least pay, forwards and backwards: plain facts, no program in sight. -/
import Derived.Test.YtcmealoppnpdcaaPlain
namespace Go.Proofs.Ytcmealoppnpdcaa
set_option linter.unusedVariables false

/-- Backwards: the value at an hour h after k watches; L holds the values of later hours. -/
def xAt (t : Wf) (b : Int) (L : List Int) (k : Nat) : Int := py t k + if wt t k < b then L.getD (wt t k).toNat 0 else 0
def bckV (t : Wf) (b : Int) (L : List Int) (h : Int) : Nat → Int
  | 0 => -1
  | k + 1 => if covAt t h k && (decide (bckV t b L h k < 0) || decide (xAt t b L k < bckV t b L h k)) then xAt t b L k else bckV t b L h k
theorem bckV_succ (t : Wf) (b : Int) (L : List Int) (h : Int) (k : Nat) : bckV t b L h (k + 1) = if covAt t h k && (decide (bckV t b L h k < 0) || decide (xAt t b L k < bckV t b L h k)) then xAt t b L k else bckV t b L h k := rfl
/-- The list of values after m hours, from the last hour backwards. -/
def bkL (t : Wf) (b : Nat) : Nat → List Int
  | 0 => List.replicate 49 0
  | m + 1 => (bkL t b m).set (b - 1 - m) (bckV t b (bkL t b m) ((b - 1 - m : Nat) : Int) t.length)
theorem bkL_succ (t : Wf) (b m : Nat) : bkL t b (m + 1) = (bkL t b m).set (b - 1 - m) (bckV t b (bkL t b m) ((b - 1 - m : Nat) : Int) t.length) := rfl
theorem bkL_len (t : Wf) (b : Nat) : ∀ m, (bkL t b m).length = 49 := by
  intro m
  induction m with
  | zero => simp [bkL]
  | succ m ih => rw [bkL_succ, List.length_set, ih]
theorem getD_set_same {xs : List Int} {i : Nat} {v : Int} (h : i < xs.length) : (xs.set i v).getD i 0 = v := by simp [List.getD, h]
theorem getD_set_ne {xs : List Int} {i j : Nat} {v : Int} (h : i ≠ j) : (xs.set i v).getD j 0 = xs.getD j 0 := by simp [List.getD, List.getElem?_set_ne h]
/-- An hour's value stays. -/
theorem bkL_stay (t : Wf) (b : Nat) (hb : b ≤ 49) {h : Nat} (hh : h < b) : ∀ m, b - h ≤ m → m ≤ b → (bkL t b m).getD h 0 = (bkL t b (b - h)).getD h 0 := by
  intro m hm hmb
  induction m with
  | zero => omega
  | succ m ih =>
    by_cases e : b - h = m + 1
    · rw [e]
    · rw [bkL_succ, getD_set_ne (by omega)]
      exact ih (by omega) (by omega)
def bF (t : Wf) (b h : Nat) : Int := if h < b then (bkL t b (b - h)).getD h 0 else 0
theorem bF_eq (t : Wf) (b : Nat) (hb : b ≤ 49) {h : Nat} (hh : h < b) : bF t b h = bckV t b (bkL t b (b - 1 - h)) (h : Int) t.length := by
  unfold bF
  rw [if_pos hh]
  obtain ⟨m, hm⟩ : ∃ m, b - h = m + 1 := ⟨b - h - 1, by omega⟩
  have e1 : b - 1 - m = h := by omega
  have e2 : b - 1 - h = m := by omega
  rw [hm, bkL_succ, e1, e2, getD_set_same (by rw [bkL_len]; omega)]
/-- The value of the end of watch k. -/
theorem xAt_eq (t : Wf) (b : Nat) (hb : b ≤ 49) {h k : Nat} (hh : h < b) (hc : (h : Int) < wt t k) : xAt t b (bkL t b (b - 1 - h)) k = py t k + bF t b (min (wt t k).toNat b) := by
  unfold xAt
  by_cases hw : wt t k < (b : Int)
  · rw [if_pos hw]
    have e : min (wt t k).toNat b = (wt t k).toNat := by omega
    rw [e]
    unfold bF
    rw [if_pos (by omega), bkL_stay t b hb (by omega) _ (by omega) (by omega)]
  · rw [if_neg hw]
    have e : min (wt t k).toNat b = b := by omega
    rw [e]
    unfold bF
    rw [if_neg (by omega)]
theorem bckV_is (t : Wf) (b : Int) (L : List Int) (h : Int) : ∀ n, (∀ k, k < n → covAt t h k = true → 0 ≤ xAt t b L k) →
    ((∀ k, k < n → covAt t h k = false) ∧ bckV t b L h n = -1) ∨ ((∀ k, k < n → covAt t h k = true → bckV t b L h n ≤ xAt t b L k) ∧ ∃ k, k < n ∧ covAt t h k = true ∧ bckV t b L h n = xAt t b L k) := by
  intro n
  induction n with
  | zero => intro _; exact .inl ⟨fun k hk => by omega, rfl⟩
  | succ n ih =>
    intro hx
    have i := ih (fun k hk => hx k (by omega))
    rw [bckV_succ]
    cases hc : covAt t h n
    · rw [Bool.false_and, if_neg (by simp)]
      rcases i with ⟨i1, i2⟩ | ⟨i1, k, hk, hck, i2⟩
      · refine .inl ⟨fun k hk => ?_, i2⟩
        by_cases e : k = n
        · subst e; exact hc
        · exact i1 k (by omega)
      · refine .inr ⟨fun j hj hcj => ?_, k, by omega, hck, i2⟩
        by_cases e : j = n
        · subst e; rw [hc] at hcj; cases hcj
        · exact i1 j (by omega) hcj
    · have hxn := hx n (by omega) hc
      rw [Bool.true_and]
      right
      rcases i with ⟨i1, i2⟩ | ⟨i1, k, hk, hck, i2⟩
      · rw [i2]
        refine ⟨fun j hj hcj => ?_, n, by omega, hc, by simp⟩
        by_cases e : j = n
        · subst e; simp
        · rw [i1 j (by omega)] at hcj; cases hcj
      · have hk0 := hx k (by omega) hck
        have h0 : decide (bckV t b L h n < 0) = false := by rw [i2]; simp; omega
        rw [h0, Bool.false_or]
        by_cases hlt : xAt t b L n < bckV t b L h n
        · rw [if_pos (by simpa using hlt)]
          refine ⟨fun j hj hcj => ?_, n, by omega, hc, rfl⟩
          by_cases e : j = n
          · subst e; exact Int.le_refl _
          · have := i1 j (by omega) hcj; omega
        · rw [if_neg (by simpa using hlt)]
          refine ⟨fun j hj hcj => ?_, k, by omega, hck, i2⟩
          by_cases e : j = n
          · subst e; omega
          · exact i1 j (by omega) hcj

/-- What the value of an hour is: the least over the watches of that hour. -/
structure Bw (t : Wf) (a b : Nat) (B : Nat → Int) : Prop where
  fin : B b = 0
  le : ∀ h, a ≤ h → h < b → ∀ k, k < t.length → fr t k ≤ h → (h : Int) < wt t k → B h ≤ py t k + B (min (wt t k).toNat b)
  ex : ∀ h, a ≤ h → h < b → ∃ k, k < t.length ∧ fr t k ≤ h ∧ (h : Int) < wt t k ∧ B h = py t k + B (min (wt t k).toNat b)
theorem bF_b {t : Wf} {a b : Nat} (hw : isW t a b = true) : ∀ m h : Nat, b - h ≤ m → a ≤ h → h ≤ b → 0 ≤ bF t b h ∧ bF t b h ≤ 1000 * ((b : Int) - h) ∧
    (h < b → (∀ k, k < t.length → fr t k ≤ h → (h : Int) < wt t k → bF t b h ≤ py t k + bF t b (min (wt t k).toNat b)) ∧ ∃ k, k < t.length ∧ fr t k ≤ h ∧ (h : Int) < wt t k ∧ bF t b h = py t k + bF t b (min (wt t k).toNat b)) := by
  obtain ⟨hB, _, _, hb0, hb48, hcov⟩ := isW_b hw
  obtain ⟨_, hf⟩ := wat_b t hB
  intro m
  induction m with
  | zero =>
    intro h hm ha hh
    obtain rfl : h = b := by omega
    have e : bF t h h = 0 := by unfold bF; rw [if_neg (by omega)]
    rw [e]
    exact ⟨by omega, by omega, fun h => by omega⟩
  | succ m ih =>
    intro h hm ha hh
    by_cases hlt : h < b
    · have hx : ∀ k, k < t.length → covAt t (h : Int) k = true → xAt t b (bkL t b (b - 1 - h)) k = py t k + bF t b (min (wt t k).toNat b) ∧ 0 ≤ bF t b (min (wt t k).toNat b) ∧ bF t b (min (wt t k).toNat b) ≤ 1000 * ((b : Int) - h - 1) := by
        intro k hk hc
        have hc' := (cov_iff _ _ _).1 hc
        have := ih (min (wt t k).toNat b) (by omega) (by omega) (by omega)
        exact ⟨xAt_eq t b (by omega) hlt hc'.2, this.1, by omega⟩
      rcases bckV_is t b (bkL t b (b - 1 - h)) (h : Int) t.length (fun k hk hc => by have := hx k hk hc; have := hf k hk; omega) with ⟨h1, _⟩ | ⟨h1, k, hk, hck, h2⟩
      · obtain ⟨k, hk, hc1, hc2⟩ := hcov h (by omega) (by omega)
        rw [(cov_iff _ _ _).2 ⟨hc1, hc2⟩ |> fun e => e.symm.trans (h1 k hk)] at *
        exact absurd ((cov_iff t (h : Int) k).2 ⟨hc1, hc2⟩) (by rw [h1 k hk]; simp)
      · rw [← bF_eq t b (by omega) hlt] at h1 h2
        have hxk := hx k hk hck
        have hfk := hf k hk
        have hck' := (cov_iff _ _ _).1 hck
        refine ⟨by omega, by omega, fun _ => ⟨fun j hj c1 c2 => ?_, k, hk, hck'.1, hck'.2, by omega⟩⟩
        have hcj := (cov_iff t (h : Int) j).2 ⟨c1, c2⟩
        have := h1 j hj hcj
        have := hx j hj hcj
        omega
    · obtain rfl : h = b := by omega
      have e : bF t h h = 0 := by unfold bF; rw [if_neg (by omega)]
      rw [e]
      exact ⟨by omega, by omega, fun h => by omega⟩
theorem bF_is {t : Wf} {a b : Nat} (hw : isW t a b = true) (hab : a ≤ b) : Bw t a b (bF t b) where
  fin := by unfold bF; rw [if_neg (by omega)]
  le := fun h h1 h2 => ((bF_b hw (b - h) h (Nat.le_refl _) h1 (by omega)).2.2 h2).1
  ex := fun h h1 h2 => ((bF_b hw (b - h) h (Nat.le_refl _) h1 (by omega)).2.2 h2).2
/-- A later hour costs no more. -/
theorem bF_mono {t : Wf} {a b : Nat} (hw : isW t a b = true) : ∀ m h g : Nat, b - h ≤ m → a ≤ h → h ≤ g → g ≤ b → bF t b g ≤ bF t b h := by
  intro m
  induction m with
  | zero =>
    intro h g hm ha hg hgb
    obtain rfl : h = g := by omega
    exact Int.le_refl _
  | succ m ih =>
    intro h g hm ha hg hgb
    by_cases e : h = g
    · subst e; exact Int.le_refl _
    · have hB := bF_is hw (by omega)
      obtain ⟨hWB, _⟩ := isW_b hw
      obtain ⟨_, hf⟩ := wat_b t hWB
      obtain ⟨k, hk, c1, c2, h2⟩ := hB.ex h ha (by omega)
      have hfk := hf k hk
      have hg0 := bF_b hw (b - g) g (Nat.le_refl _) (by omega) hgb
      have he0 := bF_b hw (b - min (wt t k).toNat b) (min (wt t k).toNat b) (Nat.le_refl _) (by omega) (by omega)
      by_cases hge : g < min (wt t k).toNat b
      · have := hB.le g (by omega) (by omega) k hk (by omega) (by omega)
        omega
      · have := ih (min (wt t k).toNat b) g (by omega) (by omega) (by omega) hgb
        omega

/-! ### Forwards -/
def big : Int := 1073741824
/-- Before hour h is done: the least pay so far and the least pay to come make up the least pay. -/
def Phi (t : Wf) (a b h : Nat) (ps : List Int) : Prop := ps.length = 49 ∧ (∀ i, i ≤ b → 0 ≤ ps.getD i 0 ∧ ps.getD i 0 ≤ 1073741824) ∧ (∀ k, h ≤ k → k ≤ b → bF t b a ≤ ps.getD k 0 + bF t b k) ∧ ∃ k, h ≤ k ∧ k ≤ b ∧ ps.getD k 0 + bF t b k = bF t b a
/-- Within hour h: watches before j are done, and watch j up to hour k. -/
def Inn (t : Wf) (b h : Nat) (ps q : List Int) (j k : Nat) : Prop := q.length = 49 ∧ (∀ i, i ≤ h → q.getD i 0 = ps.getD i 0) ∧
  (∀ i, h < i → i ≤ b → 0 ≤ q.getD i 0 ∧ q.getD i 0 ≤ ps.getD i 0 ∧ (q.getD i 0 = ps.getD i 0 ∨ ∃ m, m < t.length ∧ fr t m ≤ h ∧ (h : Int) < wt t m ∧ (i : Int) ≤ wt t m ∧ q.getD i 0 = ps.getD h 0 + py t m)) ∧
  (∀ m, m < j → fr t m ≤ h → (h : Int) < wt t m → ∀ i, h < i → i ≤ b → (i : Int) ≤ wt t m → q.getD i 0 ≤ ps.getD h 0 + py t m) ∧
  (∀ i, h < i → i < k → i ≤ b → q.getD i 0 ≤ ps.getD h 0 + py t j)
theorem Inn.start {t : Wf} {a b h : Nat} {ps : List Int} (hp : Phi t a b h ps) (hh : h < b) : Inn t b h ps ps 0 (h + 1) := by
  obtain ⟨hl, hb, _⟩ := hp
  exact ⟨hl, fun i _ => rfl, fun i h1 h2 => ⟨(hb i h2).1, Int.le_refl _, .inl rfl⟩, fun m hm => by omega, fun i h1 h2 => by omega⟩
theorem Inn.skip {t : Wf} {b h : Nat} {ps q : List Int} {j : Nat} (hq : Inn t b h ps q j (h + 1)) (hc : covAt t h j = false) : Inn t b h ps q (j + 1) (h + 1) := by
  obtain ⟨h1, h2, h3, h4, h5⟩ := hq
  refine ⟨h1, h2, h3, fun m hm c1 c2 => ?_, fun i g1 g2 => by omega⟩
  by_cases e : m = j
  · subst e
    rw [(cov_iff t h m).2 ⟨c1, c2⟩] at hc
    cases hc
  · exact h4 m (by omega) c1 c2
theorem Inn.step {t : Wf} {a b h : Nat} {ps q : List Int} {j k : Nat} (hp : Phi t a b h ps) (hf : 0 ≤ py t j) (hq : Inn t b h ps q j k) (hj : j < t.length) (hc : covAt t h j = true) (hk : h < k) (hkb : k ≤ b) (hb : b ≤ 48) (hkw : (k : Int) ≤ wt t j) :
    Inn t b h ps (q.set k (min (q.getD k 0) (q.getD h 0 + py t j))) j (k + 1) := by
  obtain ⟨h1, h2, h3, h4, h5⟩ := hq
  obtain ⟨c1, c2⟩ := (cov_iff _ _ _).1 hc
  have hh := h2 h (Nat.le_refl _)
  have hph := (hp.2.1 h (by omega)).1
  rw [hh]
  refine ⟨by rw [List.length_set, h1], fun i hi => by rw [getD_set_ne (by omega)]; exact h2 i hi, fun i g1 g2 => ?_, fun m hm d1 d2 i g1 g2 g3 => ?_, fun i g1 g2 g3 => ?_⟩
  · obtain ⟨u0, u1, u2⟩ := h3 i g1 g2
    by_cases e : i = k
    · subst e
      rw [getD_set_same (by omega)]
      refine ⟨by omega, by omega, ?_⟩
      by_cases hm : q.getD i 0 ≤ ps.getD h 0 + py t j
      · rw [Int.min_eq_left hm]; exact u2
      · rw [Int.min_eq_right (by omega)]; exact .inr ⟨j, hj, c1, c2, hkw, rfl⟩
    · rw [getD_set_ne (by omega)]
      exact ⟨u0, u1, u2⟩
  · have := h4 m hm d1 d2 i g1 g2 g3
    by_cases e : i = k
    · subst e
      rw [getD_set_same (by omega)]
      omega
    · rw [getD_set_ne (by omega)]
      exact this
  · by_cases e : i = k
    · subst e
      rw [getD_set_same (by omega)]
      omega
    · rw [getD_set_ne (by omega)]
      exact h5 i g1 (by omega) g3
theorem Inn.done {t : Wf} {b h : Nat} {ps q : List Int} {j k : Nat} (hq : Inn t b h ps q j k) (hk : ∀ i : Nat, i ≤ b → (i : Int) ≤ wt t j → i < k) : Inn t b h ps q (j + 1) (h + 1) := by
  obtain ⟨h1, h2, h3, h4, h5⟩ := hq
  refine ⟨h1, h2, h3, fun m hm c1 c2 i g1 g2 g3 => ?_, fun i g1 g2 => by omega⟩
  by_cases e : m = j
  · subst e
    exact h5 i g1 (hk i g2 g3) g2
  · exact h4 m (by omega) c1 c2 i g1 g2 g3
theorem Inn.fin {t : Wf} {a b h : Nat} {ps q : List Int} {k : Nat} (hw : isW t a b = true) (hp : Phi t a b h ps) (ha : a ≤ h) (hh : h < b) (hq : Inn t b h ps q t.length k) : Phi t a b (h + 1) q := by
  obtain ⟨h1, h2, h3, h4, h5⟩ := hq
  obtain ⟨p1, p2, p3, g, g1, g2, g3⟩ := hp
  have hB := bF_is hw (by omega)
  have hlow : ∀ k, h + 1 ≤ k → k ≤ b → bF t b a ≤ q.getD k 0 + bF t b k := by
    intro k hk hkb
    obtain ⟨u0, u1, u2⟩ := h3 k (by omega) hkb
    rcases u2 with u2 | ⟨m, hm, c1, c2, c3, u2⟩
    · rw [u2]; exact p3 k (by omega) hkb
    · have e1 := p3 h (Nat.le_refl _) (by omega)
      have e2 := hB.le h ha hh m hm c1 c2
      have e3 := bF_mono hw (b - k) k (min (wt t m).toNat b) (Nat.le_refl _) (by omega) (by omega) (by omega)
      omega
  refine ⟨h1, fun i hi => ?_, hlow, ?_⟩
  · by_cases hih : i ≤ h
    · rw [h2 i hih]; exact p2 i hi
    · have := h3 i (by omega) hi
      have := p2 i hi
      omega
  · by_cases e : g = h
    · subst e
      obtain ⟨m, hm, c1, c2, e2⟩ := hB.ex g ha hh
      have e3 := h4 m hm c1 c2 (min (wt t m).toNat b) (by omega) (by omega) (by omega)
      have e4 := hlow (min (wt t m).toNat b) (by omega) (by omega)
      exact ⟨min (wt t m).toNat b, by omega, by omega, by omega⟩
    · have e3 := h3 g (by omega) g2
      have e4 := hlow g (by omega) g2
      exact ⟨g, by omega, g2, by omega⟩
theorem Phi.fin {t : Wf} {a b : Nat} {ps : List Int} (hp : Phi t a b b ps) : ps.getD b 0 = bF t b a := by
  obtain ⟨p1, p2, p3, g, g1, g2, g3⟩ := hp
  obtain rfl : g = b := by omega
  have e : bF t g g = 0 := by unfold bF; rw [if_neg (by omega)]
  omega
/-- The start: 0 at hour a, much at the others. -/
def iniL (a : Nat) : Nat → List Int
  | 0 => List.replicate 49 0
  | n + 1 => (iniL a n).set (a + 1 + n) 1073741824
theorem iniL_len (a : Nat) : ∀ n, (iniL a n).length = 49 := by
  intro n
  induction n with
  | zero => simp [iniL]
  | succ n ih => show ((iniL a n).set _ _).length = 49; rw [List.length_set, ih]
theorem iniL_at (a : Nat) : ∀ n i, a + n ≤ 48 → (iniL a n).getD i 0 = if a < i ∧ i ≤ a + n then 1073741824 else 0 := by
  intro n
  induction n with
  | zero =>
    intro i _
    rw [if_neg (by omega)]
    show (List.replicate 49 (0 : Int)).getD i 0 = 0
    rw [List.getD_eq_getElem?_getD, List.getElem?_replicate]
    split <;> rfl
  | succ n ih =>
    intro i hn
    show ((iniL a n).set (a + 1 + n) 1073741824).getD i 0 = _
    by_cases e : a + 1 + n = i
    · subst e
      rw [getD_set_same (by rw [iniL_len]; omega), if_pos (by omega)]
    · rw [getD_set_ne e, ih i (by omega)]
      by_cases h1 : a < i ∧ i ≤ a + n
      · rw [if_pos h1, if_pos (by omega)]
      · rw [if_neg h1, if_neg (by omega)]
theorem Phi.start {t : Wf} {a b : Nat} (hw : isW t a b = true) (hab : a < b) : Phi t a b a (iniL a (b - a)) := by
  obtain ⟨_, _, _, _, hb48, _⟩ := isW_b hw
  have h0 := bF_b hw (b - a) a (Nat.le_refl _) (Nat.le_refl _) (by omega)
  have hat := fun i => iniL_at a (b - a) i (by omega)
  refine ⟨iniL_len _ _, fun i hi => ?_, fun k hk hkb => ?_, a, Nat.le_refl _, by omega, ?_⟩
  · rw [hat]; split <;> omega
  · have := bF_b hw (b - k) k (Nat.le_refl _) hk hkb
    rw [hat]
    by_cases e : k = a
    · subst e; rw [if_neg (by omega)]; omega
    · rw [if_pos (by omega)]; omega
  · rw [hat, if_neg (by omega)]; omega
def cheapZ (t : Wf) (a b : Int) : Int := if isW t a b then (if a < b then bF t b.toNat a.toNat else 0) else -1
end Go.Proofs.Ytcmealoppnpdcaa
