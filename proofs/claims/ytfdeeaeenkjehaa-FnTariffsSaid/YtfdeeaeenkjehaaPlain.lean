/- Plain facts of tariffs: no program in sight. -/
import Derived.Test.YtfdeeaeenkjehaaFlat
namespace Go.Proofs.Ytfdeeaeenkjehaa
set_option linter.unusedVariables false

abbrev Tf := List (Int × Int)
def up (t : Tf) (k : Nat) : Int := (t.getD k (0, 0)).1
def pr (t : Tf) (k : Nat) : Int := (t.getD k (0, 0)).2
theorem up_at {t : Tf} {k : Nat} {x y : Int} (h : t[k]? = some (x, y)) : up t k = x := by unfold up; rw [getD_at h]
theorem pr_at {t : Tf} {k : Nat} {x y : Int} (h : t[k]? = some (x, y)) : pr t k = y := by unfold pr; rw [getD_at h]
def stepAt (t : Tf) (k : Nat) : Bool := inB (up t k) 1 100000 && inB (pr t k) 0 1000 && (k == 0 || (decide (up t (k - 1) < up t k) && decide (pr t (k - 1) ≤ pr t k)))
def tariffB (t : Tf) : Bool := inB t.length 1 10 && allAt (stepAt t) t.length
theorem tariff_b (t : Tf) (h : tariffB t = true) : 1 ≤ t.length ∧ t.length ≤ 10 ∧ ∀ k, k < t.length → (1 ≤ up t k ∧ up t k ≤ 100000) ∧ (0 ≤ pr t k ∧ pr t k ≤ 1000) ∧ (0 < k → up t (k - 1) < up t k ∧ pr t (k - 1) ≤ pr t k) := by
  unfold tariffB at h
  simp only [Bool.and_eq_true, inB_iff] at h
  refine ⟨by omega, by omega, fun k hk => ?_⟩
  have := (allAt_iff _ _).1 h.2 k hk
  unfold stepAt at this
  simp only [Bool.and_eq_true, Bool.or_eq_true, inB_iff, beq_iff_eq, decide_eq_true_eq] at this
  refine ⟨this.1.1, this.1.2, fun h0 => ?_⟩
  rcases this.2 with e | e
  · omega
  · exact e
def base (t : Tf) : Nat → Int
  | 0 => 0
  | k + 1 => up t k
def term (t : Tf) (l : Int) (k : Nat) : Int := max 0 (min l (up t k) - base t k) * pr t k
def costP (t : Tf) (l : Int) : Nat → Int
  | 0 => 0
  | k + 1 => costP t l k + term t l k
def topF (t : Tf) : Int := up t (t.length - 1)
def costZ (t : Tf) (l : Int) : Int := if tariffB t && inB l 0 (topF t) then costP t l t.length else -1
section
variable {t : Tf} (ht : tariffB t = true)
include ht
theorem base_b {k : Nat} (hk : k ≤ t.length) : 0 ≤ base t k ∧ base t k ≤ 100000 := by
  obtain ⟨_, _, hf⟩ := tariff_b t ht
  cases k with
  | zero => exact ⟨Int.le_refl _, by simp [base]⟩
  | succ k => have := (hf k (by omega)).1; show 0 ≤ up t k ∧ up t k ≤ 100000; omega
theorem base_lt {k : Nat} (hk : k < t.length) : base t k < up t k := by
  obtain ⟨_, _, hf⟩ := tariff_b t ht
  cases k with
  | zero => have := (hf 0 hk).1; show 0 < up t 0; omega
  | succ k => have := ((hf (k + 1) hk).2.2 (by omega)).1; exact this
theorem top_b : 1 ≤ topF t ∧ topF t ≤ 100000 := by
  obtain ⟨h1, _, hf⟩ := tariff_b t ht
  exact (hf (t.length - 1) (by omega)).1
omit ht in
theorem mul_b (a p : Int) (a0 : 0 ≤ a) (a1 : a ≤ 100000) (p0 : 0 ≤ p) (p1 : p ≤ 1000) : 0 ≤ a * p ∧ a * p ≤ 100000000 := by
  have h1 := Int.mul_nonneg a0 p0
  have h2 : a * p ≤ 100000 * 1000 := Int.mul_le_mul a1 p1 p0 (by omega)
  omega
theorem term_b {k : Nat} (hk : k < t.length) (l : Int) : 0 ≤ term t l k ∧ term t l k ≤ 100000000 := by
  obtain ⟨_, _, hf⟩ := tariff_b t ht
  have hb := base_b ht (Nat.le_of_lt hk)
  obtain ⟨hu, hp, _⟩ := hf k hk
  exact mul_b _ _ (by omega) (by omega) hp.1 hp.2
theorem costP_b (l : Int) : ∀ k, k ≤ t.length → 0 ≤ costP t l k ∧ costP t l k ≤ 100000000 * (k : Int) := by
  intro k
  induction k with
  | zero => intro _; exact ⟨Int.le_refl _, by simp [costP]⟩
  | succ k ih =>
    intro hk
    have h1 := ih (by omega)
    have h2 := term_b ht (k := k) (by omega) l
    have e : costP t l (k + 1) = costP t l k + term t l k := rfl
    omega
theorem term_mono {k : Nat} (hk : k < t.length) {l m : Int} (h : l ≤ m) : term t l k ≤ term t m k := by
  obtain ⟨_, _, hf⟩ := tariff_b t ht
  obtain ⟨_, hp, _⟩ := hf k hk
  exact Int.mul_le_mul_of_nonneg_right (by omega) hp.1
theorem costP_mono {l m : Int} (h : l ≤ m) : ∀ k, k ≤ t.length → costP t l k ≤ costP t m k := by
  intro k
  induction k with
  | zero => intro _; exact Int.le_refl _
  | succ k ih =>
    intro hk
    have h1 := ih (by omega)
    have h2 := term_mono ht (k := k) (by omega) h
    have e : costP t l (k + 1) = costP t l k + term t l k := rfl
    have e' : costP t m (k + 1) = costP t m k + term t m k := rfl
    omega
theorem costP_zero : ∀ k, k ≤ t.length → costP t 0 k = 0 := by
  intro k
  induction k with
  | zero => intro _; rfl
  | succ k ih =>
    intro hk
    have h1 := ih (by omega)
    have hb := base_b ht (k := k) (by omega)
    have e : costP t 0 (k + 1) = costP t 0 k + term t 0 k := rfl
    have e2 : term t 0 k = max 0 (min 0 (up t k) - base t k) * pr t k := rfl
    have e3 : max 0 (min 0 (up t k) - base t k) = 0 := by omega
    rw [e3, Int.zero_mul] at e2
    omega
theorem up_mono {i j : Nat} (hij : i ≤ j) (hj : j < t.length) : up t i ≤ up t j ∧ pr t i ≤ pr t j := by
  obtain ⟨_, _, hf⟩ := tariff_b t ht
  induction j with
  | zero => obtain rfl : i = 0 := by omega
            exact ⟨Int.le_refl _, Int.le_refl _⟩
  | succ j ih =>
    by_cases h : i = j + 1
    · subst h; exact ⟨Int.le_refl _, Int.le_refl _⟩
    · have h1 := ih (by omega) (by omega)
      have h2 := (hf (j + 1) hj).2.2 (by omega)
      have e : j + 1 - 1 = j := by omega
      rw [e] at h2
      omega
theorem term_diff {k : Nat} (hk : k < t.length) {l : Int} : (base t k ≤ l ∧ l < up t k → term t (l + 1) k = term t l k + pr t k) ∧ (l < base t k ∨ up t k ≤ l → term t (l + 1) k = term t l k) := by
  have hlt := base_lt ht hk
  constructor
  · intro h
    have e1 : max 0 (min (l + 1) (up t k) - base t k) = max 0 (min l (up t k) - base t k) + 1 := by omega
    show max 0 (min (l + 1) (up t k) - base t k) * pr t k = _
    rw [e1, Int.add_mul, Int.one_mul]
    rfl
  · intro h
    have e1 : max 0 (min (l + 1) (up t k) - base t k) = max 0 (min l (up t k) - base t k) := by omega
    show max 0 (min (l + 1) (up t k) - base t k) * pr t k = _
    rw [e1]
    rfl
theorem cost_next {l : Int} (h0 : 0 ≤ l) : ∀ k, k ≤ t.length → (l < base t k → ∃ j, j < k ∧ base t j ≤ l ∧ l < up t j ∧ costP t (l + 1) k = costP t l k + pr t j) ∧ (base t k ≤ l → costP t (l + 1) k = costP t l k) := by
  intro k
  induction k with
  | zero => intro _; exact ⟨fun h => by simp [base] at h; omega, fun _ => rfl⟩
  | succ k ih =>
    intro hk
    obtain ⟨i1, i2⟩ := ih (by omega)
    have e : costP t l (k + 1) = costP t l k + term t l k := rfl
    have e' : costP t (l + 1) (k + 1) = costP t (l + 1) k + term t (l + 1) k := rfl
    have eb : base t (k + 1) = up t k := rfl
    have hlt := base_lt ht (k := k) (by omega)
    obtain ⟨d1, d2⟩ := term_diff ht (k := k) (by omega) (l := l)
    refine ⟨fun h => ?_, fun h => ?_⟩
    · by_cases hb : base t k ≤ l
      · have := i2 hb
        have := d1 ⟨hb, by omega⟩
        exact ⟨k, by omega, hb, by omega, by omega⟩
      · obtain ⟨j, hj, hj1, hj2, hj3⟩ := i1 (by omega)
        have := d2 (.inl (by omega))
        exact ⟨j, by omega, hj1, hj2, by omega⟩
    · have := i2 (by omega)
      have := d2 (.inr (by omega))
      omega
/-- The price of the next liter: the price of a step. -/
theorem next_at {l : Int} (h0 : 0 ≤ l) (h1 : l < topF t) : ∃ j, j < t.length ∧ base t j ≤ l ∧ l < up t j ∧ costP t (l + 1) t.length = costP t l t.length + pr t j := by
  obtain ⟨hl, _, _⟩ := tariff_b t ht
  have eb : base t t.length = topF t := by
    obtain ⟨n, hn⟩ : ∃ n, t.length = n + 1 := ⟨t.length - 1, by omega⟩
    unfold topF
    rw [hn]
    rfl
  exact (cost_next ht h0 t.length (Nat.le_refl _)).1 (by omega)
theorem step_le {l m : Int} {i j : Nat} (hi : i < t.length) (hj : j < t.length) (h1 : base t i ≤ l) (h2 : m < up t j) (h : l ≤ m) : pr t i ≤ pr t j := by
  by_cases hij : i ≤ j
  · exact (up_mono ht hij hj).2
  · obtain ⟨n, rfl⟩ : ∃ n, i = n + 1 := ⟨i - 1, by omega⟩
    have h3 : base t (n + 1) = up t n := rfl
    have h4 := (up_mono ht (i := j) (j := n) (by omega) (by omega)).1
    omega
theorem next_mono {l m : Int} (h0 : 0 ≤ l) (h : l ≤ m) (h1 : m < topF t) : costP t (l + 1) t.length - costP t l t.length ≤ costP t (m + 1) t.length - costP t m t.length := by
  obtain ⟨i, hi, hi1, hi2, hi3⟩ := next_at ht h0 (by omega)
  obtain ⟨j, hj, hj1, hj2, hj3⟩ := next_at ht (l := m) (by omega) h1
  have := step_le ht hi hj hi1 hj2 h
  omega
theorem next_b {l : Int} (h0 : 0 ≤ l) (h1 : l < topF t) : pr t 0 ≤ costP t (l + 1) t.length - costP t l t.length ∧ costP t (l + 1) t.length - costP t l t.length ≤ pr t (t.length - 1) := by
  obtain ⟨i, hi, hi1, hi2, hi3⟩ := next_at ht h0 h1
  have h2 := (up_mono ht (Nat.zero_le i) hi).2
  have h3 := (up_mono ht (i := i) (j := t.length - 1) (by omega) (by omega)).2
  omega
theorem cost_super {a : Int} (a0 : 0 ≤ a) : ∀ n : Nat, a + (n : Int) ≤ topF t → costP t a t.length + costP t n t.length ≤ costP t (a + n) t.length := by
  intro n
  induction n with
  | zero => intro _; have := costP_zero ht t.length (Nat.le_refl _); simp; omega
  | succ n ih =>
    intro h
    have h1 := ih (by omega)
    have h2 := next_mono ht (l := (n : Int)) (m := a + n) (by omega) (by omega) (by omega)
    have e1 : ((n + 1 : Nat) : Int) = (n : Int) + 1 := by omega
    have e2 : a + ((n + 1 : Nat) : Int) = a + n + 1 := by omega
    rw [e2, e1]
    omega
end
/-! ### The most liters for some money -/
def litN (f : Int → Int) (m : Int) : Nat → Nat
  | 0 => 0
  | k + 1 => if f ((k : Int) + 1) ≤ m then k + 1 else litN f m k
theorem litN_le (f : Int → Int) (m : Int) : ∀ k, litN f m k ≤ k := by
  intro k
  induction k with
  | zero => exact Nat.le_refl _
  | succ k ih =>
    have e : litN f m (k + 1) = if f ((k : Int) + 1) ≤ m then k + 1 else litN f m k := rfl
    rw [e]
    split <;> omega
/-- It is known by its two marks. -/
theorem litN_is {f : Int → Int} {m : Int} {n k : Nat} (h : (n : Int) ≤ k) (hle : ∀ j : Nat, n < j → j ≤ k → m < f (j : Int)) (h0 : n = 0 ∨ f (n : Int) ≤ m) : litN f m k = n := by
  induction k with
  | zero => have : litN f m 0 = 0 := rfl
            omega
  | succ k ih =>
    have e : litN f m (k + 1) = if f ((k : Int) + 1) ≤ m then k + 1 else litN f m k := rfl
    rw [e]
    by_cases hn : n = k + 1
    · have h1 : f ((k : Int) + 1) ≤ m := by
        rcases h0 with h0 | h0
        · omega
        · subst hn; simpa using h0
      rw [if_pos h1, hn]
    · have h1 := hle (k + 1) (by omega) (Nat.le_refl _)
      have h2 : ¬ f ((k : Int) + 1) ≤ m := by
        have e1 : ((k + 1 : Nat) : Int) = (k : Int) + 1 := by omega
        rw [e1] at h1
        omega
      rw [if_neg h2]
      exact ih (by omega) (fun j hj1 hj2 => hle j hj1 (by omega))
def litZ (t : Tf) (m : Int) : Int := if tariffB t && decide (0 ≤ m) then (litN (fun l => costP t l t.length) m (topF t).toNat : Nat) else -1
end Go.Proofs.Ytfdeeaeenkjehaa
