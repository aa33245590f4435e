/- Plain facts of offenses and fines: no program in sight. -/
import Derived.Test.YtclbjpknmcjkmaaFlat
namespace Go.Proofs.Ytclbjpknmcjkmaa
set_option linter.unusedVariables false

abbrev Of := List (Int × Int × Int)
def pe (t : Of) (k : Nat) : Int := (t.getD k (0, 0, 0)).1
def dy (t : Of) (k : Nat) : Int := (t.getD k (0, 0, 0)).2.1
def li (t : Of) (k : Nat) : Int := (t.getD k (0, 0, 0)).2.2
theorem pe_at {t : Of} {k : Nat} {x y z : Int} (h : t[k]? = some (x, y, z)) : pe t k = x := by unfold pe; rw [getD_at h]
theorem dy_at {t : Of} {k : Nat} {x y z : Int} (h : t[k]? = some (x, y, z)) : dy t k = y := by unfold dy; rw [getD_at h]
theorem li_at {t : Of} {k : Nat} {x y z : Int} (h : t[k]? = some (x, y, z)) : li t k = z := by unfold li; rw [getD_at h]
def offAt (t : Of) (k : Nat) : Bool := inB (pe t k) 1 999 && inB (dy t k) 0 1000 && inB (li t k) 1 10000 && (k == 0 || decide (dy t (k - 1) ≤ dy t k))
def offB (t : Of) : Bool := decide (t.length ≤ 40) && allAt (offAt t) t.length
theorem off_b (t : Of) (h : offB t = true) : t.length ≤ 40 ∧ ∀ k, k < t.length → (1 ≤ pe t k ∧ pe t k ≤ 999) ∧ (0 ≤ dy t k ∧ dy t k ≤ 1000) ∧ (1 ≤ li t k ∧ li t k ≤ 10000) ∧ (0 < k → dy t (k - 1) ≤ dy t k) := by
  unfold offB at h
  simp only [Bool.and_eq_true, decide_eq_true_eq] at h
  refine ⟨h.1, fun k hk => ?_⟩
  have := (allAt_iff _ _).1 h.2 k hk
  unfold offAt at this
  simp only [Bool.and_eq_true, Bool.or_eq_true, inB_iff, beq_iff_eq, decide_eq_true_eq] at this
  refine ⟨this.1.1.1, this.1.1.2, this.1.2, fun h0 => ?_⟩
  rcases this.2 with e | e
  · omega
  · exact e
def hitP (t : Of) (k i : Nat) : Bool := (pe t i == pe t k) && decide (dy t k - dy t i ≤ 100)
def timesP (t : Of) (k : Nat) : Nat → Int
  | 0 => 1
  | i + 1 => if hitP t k i then min 16 (2 * timesP t k i) else timesP t k i
theorem timesP_b (t : Of) (k : Nat) : ∀ i, 1 ≤ timesP t k i ∧ timesP t k i ≤ 16 := by
  intro i
  induction i with
  | zero => exact ⟨Int.le_refl _, by simp [timesP]⟩
  | succ i ih =>
    have e : timesP t k (i + 1) = if hitP t k i then min 16 (2 * timesP t k i) else timesP t k i := rfl
    rw [e]
    split <;> omega
def fineF (t : Of) (k : Nat) : Int := timesP t k k * li t k
def fineZ (t : Of) (k : Int) : Int := if offB t && inB k 0 (t.length - 1) then fineF t k.toNat else -1
theorem mul16 (a b : Int) (a0 : 1 ≤ a) (a1 : a ≤ 16) (b0 : 1 ≤ b) (b1 : b ≤ 10000) : b ≤ a * b ∧ a * b ≤ 16 * b ∧ a * b ≤ 160000 := by
  have h1 : 1 * b ≤ a * b := Int.mul_le_mul_of_nonneg_right a0 (by omega)
  have h2 : a * b ≤ 16 * b := Int.mul_le_mul_of_nonneg_right a1 (by omega)
  omega
theorem fineF_b {t : Of} (h : offB t = true) {k : Nat} (hk : k < t.length) : li t k ≤ fineF t k ∧ fineF t k ≤ 16 * li t k ∧ 1 ≤ fineF t k ∧ fineF t k ≤ 160000 := by
  obtain ⟨_, hf⟩ := off_b t h
  obtain ⟨_, _, hl, _⟩ := hf k hk
  have ht := timesP_b t k k
  have := mul16 _ _ ht.1 ht.2 hl.1 hl.2
  unfold fineF
  omega
theorem fineZ_at {t : Of} (h : offB t = true) {k : Nat} (hk : k < t.length) : fineZ t k = fineF t k := by
  unfold fineZ
  have : inB (k : Int) 0 (t.length - 1) = true := (inB_iff _ _ _).2 ⟨by omega, by omega⟩
  rw [h, this]
  rfl
def finesP (t : Of) (p : Int) : Nat → Int
  | 0 => 0
  | k + 1 => finesP t p k + if pe t k == p then fineF t k else 0
theorem finesP_succ (t : Of) (p : Int) (k : Nat) : finesP t p (k + 1) = finesP t p k + if pe t k == p then fineF t k else 0 := rfl
theorem finesP_b {t : Of} (h : offB t = true) (p : Int) : ∀ k, k ≤ t.length → 0 ≤ finesP t p k ∧ finesP t p k ≤ 160000 * (k : Int) := by
  intro k
  induction k with
  | zero => intro _; exact ⟨Int.le_refl _, by simp [finesP]⟩
  | succ k ih =>
    intro hk
    have h1 := ih (by omega)
    have h2 := fineF_b h (k := k) (by omega)
    rw [finesP_succ]
    split <;> omega
theorem finesP_mono {t : Of} (h : offB t = true) (p : Int) {i : Nat} : ∀ k, i ≤ k → k ≤ t.length → finesP t p i ≤ finesP t p k := by
  intro k
  induction k with
  | zero => intro h1 _; obtain rfl : i = 0 := by omega
            exact Int.le_refl _
  | succ k ih =>
    intro h1 hk
    by_cases e : i = k + 1
    · subst e; exact Int.le_refl _
    · have h2 := ih (by omega) (by omega)
      have h3 := fineF_b h (k := k) (by omega)
      rw [finesP_succ]
      split <;> omega
def finesZ (t : Of) (p : Int) : Int := if offB t then finesP t p t.length else -1
/-- The fines of the person of an offense are above 0. -/
theorem finesP_pos {t : Of} (h : offB t = true) {k : Nat} (hk : k < t.length) : 1 ≤ finesP t (pe t k) t.length := by
  have h1 := finesP_mono h (pe t k) (i := k + 1) t.length (by omega) (Nat.le_refl _)
  have h2 := finesP_b h (pe t k) k (by omega)
  have h3 := fineF_b h hk
  have e : finesP t (pe t k) (k + 1) = finesP t (pe t k) k + fineF t k := by rw [finesP_succ]; simp
  omega
/-- The person with the most fines of the first k offenses. -/
def beatsP (t : Of) (p w : Int) : Bool := decide (finesP t w t.length < finesP t p t.length) || ((finesP t p t.length == finesP t w t.length) && decide (p < w))
def worstP (t : Of) : Nat → Int
  | 0 => -1
  | k + 1 => if decide (worstP t k < 0) || beatsP t (pe t k) (worstP t k) then pe t k else worstP t k
def mostP (t : Of) (k : Nat) : Int := if k = 0 then 0 else finesP t (worstP t k) t.length
def worstZ (t : Of) : Int := if offB t then worstP t t.length else -1
theorem worstP_succ (t : Of) (k : Nat) : worstP t (k + 1) = if decide (worstP t k < 0) || beatsP t (pe t k) (worstP t k) then pe t k else worstP t k := rfl
theorem worstP_b {t : Of} (h : offB t = true) : ∀ k, k ≤ t.length → -1 ≤ worstP t k ∧ worstP t k ≤ 999 ∧ (0 < k → ∃ j, j < k ∧ worstP t k = pe t j) := by
  obtain ⟨_, hf⟩ := off_b t h
  intro k
  induction k with
  | zero => intro _; exact ⟨by simp [worstP], by simp [worstP], fun h => by omega⟩
  | succ k ih =>
    intro hk
    obtain ⟨i1, i2, i3⟩ := ih (by omega)
    obtain ⟨hp, _⟩ := hf k (by omega)
    rw [worstP_succ]
    by_cases hc : (decide (worstP t k < 0) || beatsP t (pe t k) (worstP t k)) = true
    · rw [if_pos hc]
      exact ⟨by omega, by omega, fun _ => ⟨k, by omega, rfl⟩⟩
    · rw [if_neg hc]
      refine ⟨i1, i2, fun _ => ?_⟩
      by_cases hk0 : k = 0
      · subst hk0; exact absurd (by simp [worstP]) hc
      · obtain ⟨j, hj, e⟩ := i3 (by omega)
        exact ⟨j, by omega, e⟩
theorem worstP_pos {t : Of} (h : offB t = true) {k : Nat} (hk : k ≤ t.length) (h0 : 0 < k) : 1 ≤ worstP t k ∧ 1 ≤ finesP t (worstP t k) t.length := by
  obtain ⟨_, hf⟩ := off_b t h
  obtain ⟨_, _, h3⟩ := worstP_b h k hk
  obtain ⟨j, hj, e⟩ := h3 h0
  rw [e]
  have := finesP_pos h (k := j) (by omega)
  have := (hf j (by omega)).1
  omega
/-- The program's own test comes to the same. -/
theorem worst_step {t : Of} (h : offB t = true) {k : Nat} (hk : k < t.length) :
    (decide (mostP t k < finesP t (pe t k) t.length) || ((finesP t (pe t k) t.length == mostP t k) && decide (pe t k < worstP t k))) = (decide (worstP t k < 0) || beatsP t (pe t k) (worstP t k)) := by
  have hp := finesP_pos h hk
  by_cases hk0 : k = 0
  · subst hk0
    have e1 : mostP t 0 = 0 := rfl
    have e2 : worstP t 0 = -1 := rfl
    rw [e1, e2]
    have e3 : decide (0 < finesP t (pe t 0) t.length) = true := by simp; omega
    rw [e3]
    rfl
  · have hw := worstP_pos h (k := k) (by omega) (by omega)
    have e1 : mostP t k = finesP t (worstP t k) t.length := by unfold mostP; rw [if_neg hk0]
    have e2 : decide (worstP t k < 0) = false := by simp; omega
    rw [e1, e2, Bool.false_or]
    rfl
theorem most_step {t : Of} (k : Nat) : mostP t (k + 1) = finesP t (worstP t (k + 1)) t.length := by unfold mostP; rw [if_neg (by omega)]
/-- It has the most. -/
theorem worst_most {t : Of} (h : offB t = true) : ∀ k, k ≤ t.length → ∀ j, j < k → finesP t (pe t j) t.length ≤ finesP t (worstP t k) t.length := by
  intro k
  induction k with
  | zero => intro _ j hj; omega
  | succ k ih =>
    intro hk j hj
    have hih := ih (by omega)
    rw [worstP_succ]
    by_cases hc : (decide (worstP t k < 0) || beatsP t (pe t k) (worstP t k)) = true
    · rw [if_pos hc]
      by_cases e : j = k
      · subst e; exact Int.le_refl _
      · have h1 := hih j (by omega)
        have hw := worstP_pos h (k := k) (by omega) (by omega)
        unfold beatsP at hc
        simp only [Bool.or_eq_true, decide_eq_true_eq, Bool.and_eq_true, beq_iff_eq] at hc
        omega
    · rw [if_neg hc]
      by_cases e : j = k
      · subst e
        unfold beatsP at hc
        simp only [Bool.or_eq_true, decide_eq_true_eq, Bool.and_eq_true, beq_iff_eq] at hc
        omega
      · exact hih j (by omega)
def pardP (t : Of) (d : Int) : Of := t.filter fun o => decide (d ≤ o.2.1)
def pardL (t : Of) (d : Int) : Of := if offB t then pardP t d else []
def firstAt (t : Of) (k i : Nat) : Bool := !(pe t i == pe t k)
def firstZ (t : Of) (k : Int) : Bool := offB t && inB k 0 (t.length - 1) && allAt (firstAt t k.toNat) k.toNat
end Go.Proofs.Ytclbjpknmcjkmaa
