/- Plain facts of watches: no program in sight. -/
import Derived.Test.YtcmealoppnpdcaaFlat
namespace Go.Proofs.Ytcmealoppnpdcaa
set_option linter.unusedVariables false

abbrev Wf := List (Int × Int × Int)
def fr (t : Wf) (k : Nat) : Int := (t.getD k (0, 0, 0)).1
def wt (t : Wf) (k : Nat) : Int := (t.getD k (0, 0, 0)).2.1
def py (t : Wf) (k : Nat) : Int := (t.getD k (0, 0, 0)).2.2
theorem fr_at {t : Wf} {k : Nat} {x y z : Int} (h : t[k]? = some (x, y, z)) : fr t k = x := by unfold fr; rw [getD_at h]
theorem wt_at {t : Wf} {k : Nat} {x y z : Int} (h : t[k]? = some (x, y, z)) : wt t k = y := by unfold wt; rw [getD_at h]
theorem py_at {t : Wf} {k : Nat} {x y z : Int} (h : t[k]? = some (x, y, z)) : py t k = z := by unfold py; rw [getD_at h]
def watAt (t : Wf) (k : Nat) : Bool := decide (0 ≤ fr t k) && decide (fr t k < wt t k) && decide (wt t k ≤ 48) && inB (py t k) 0 1000
def watB (t : Wf) : Bool := decide (t.length ≤ 16) && allAt (watAt t) t.length
theorem wat_b (t : Wf) (h : watB t = true) : t.length ≤ 16 ∧ ∀ k, k < t.length → 0 ≤ fr t k ∧ fr t k < wt t k ∧ wt t k ≤ 48 ∧ 0 ≤ py t k ∧ py t k ≤ 1000 := by
  unfold watB at h
  simp only [Bool.and_eq_true, decide_eq_true_eq] at h
  refine ⟨h.1, fun k hk => ?_⟩
  have := (allAt_iff _ _).1 h.2 k hk
  unfold watAt at this
  simp only [Bool.and_eq_true, inB_iff, decide_eq_true_eq] at this
  omega
def covAt (t : Wf) (h : Int) (k : Nat) : Bool := decide (fr t k ≤ h) && decide (h < wt t k)
theorem cov_iff (t : Wf) (h : Int) (k : Nat) : covAt t h k = true ↔ fr t k ≤ h ∧ h < wt t k := by simp [covAt]
def anyTo (f : Nat → Bool) : Nat → Bool
  | 0 => false
  | k + 1 => anyTo f k || f k
theorem anyTo_iff (f : Nat → Bool) : ∀ n, anyTo f n = true ↔ ∃ j, j < n ∧ f j = true := by
  intro n
  induction n with
  | zero => simp [anyTo]
  | succ n ih =>
    have e : anyTo f (n + 1) = (anyTo f n || f n) := rfl
    rw [e, Bool.or_eq_true, ih]
    constructor
    · rintro (⟨j, hj, h⟩ | h)
      · exact ⟨j, by omega, h⟩
      · exact ⟨n, by omega, h⟩
    · rintro ⟨j, hj, h⟩
      by_cases e : j = n
      · subst e; exact .inr h
      · exact .inl ⟨j, by omega, h⟩
def seenP (t : Wf) (h : Int) : Bool := anyTo (covAt t h) t.length
/-- The hours from a on that nobody watches, of n hours. -/
def gapsP (t : Wf) (a : Int) : Nat → List Int
  | 0 => []
  | n + 1 => gapsP t a n ++ if seenP t (a + n) then [] else [a + (n : Int)]
theorem gapsP_succ (t : Wf) (a : Int) (n : Nat) : gapsP t a (n + 1) = gapsP t a n ++ if seenP t (a + n) then [] else [a + (n : Int)] := rfl
theorem gapsP_len (t : Wf) (a : Int) : ∀ n, (gapsP t a n).length ≤ n := by
  intro n
  induction n with
  | zero => exact Nat.le_refl _
  | succ n ih =>
    rw [gapsP_succ, List.length_append]
    split <;> simp <;> omega
theorem gapsP_nil (t : Wf) (a : Int) : ∀ n, gapsP t a n = [] ↔ ∀ j : Nat, j < n → seenP t (a + j) = true := by
  intro n
  induction n with
  | zero => simp [gapsP]
  | succ n ih =>
    rw [gapsP_succ, List.append_eq_nil_iff, ih]
    constructor
    · rintro ⟨h1, h2⟩ j hj
      by_cases e : j = n
      · subst e
        cases hs : seenP t (a + j)
        · rw [hs] at h2; simp at h2
        · rfl
      · exact h1 j (by omega)
    · intro h
      refine ⟨fun j hj => h j (by omega), ?_⟩
      rw [h n (by omega)]
      rfl
theorem gapsP_mem (t : Wf) (a : Int) (x : Int) : ∀ n, x ∈ gapsP t a n → a ≤ x ∧ x < a + n := by
  intro n
  induction n with
  | zero => intro h; simp [gapsP] at h
  | succ n ih =>
    intro h
    rw [gapsP_succ, List.mem_append] at h
    rcases h with h | h
    · have := ih h; omega
    · split at h
      · simp at h
      · simp at h; omega
def okW (t : Wf) (a b : Int) : Bool := watB t && inB a 0 48 && inB b 0 48
theorem okW_b {t : Wf} {a b : Int} (h : okW t a b = true) : watB t = true ∧ 0 ≤ a ∧ a ≤ 48 ∧ 0 ≤ b ∧ b ≤ 48 := by
  unfold okW at h
  simp only [Bool.and_eq_true, inB_iff] at h
  exact ⟨h.1.1, by omega⟩
def gapsL (t : Wf) (a b : Int) : List Int := if okW t a b then gapsP t a (b - a).toNat else []
theorem gapsL_len (t : Wf) (a b : Int) : (gapsL t a b).length ≤ 48 := by
  unfold gapsL
  split
  · rename_i h
    have := okW_b h
    have := gapsP_len t a (b - a).toNat
    omega
  · simp
def isW (t : Wf) (a b : Int) : Bool := okW t a b && ((gapsL t a b).length : Int) == 0
theorem isW_b {t : Wf} {a b : Int} (h : isW t a b = true) : watB t = true ∧ 0 ≤ a ∧ a ≤ 48 ∧ 0 ≤ b ∧ b ≤ 48 ∧ ∀ h : Int, a ≤ h → h < b → ∃ k, k < t.length ∧ fr t k ≤ h ∧ h < wt t k := by
  unfold isW at h
  simp only [Bool.and_eq_true, beq_iff_eq] at h
  obtain ⟨h1, h2⟩ := h
  obtain ⟨hw, ha0, ha1, hb0, hb1⟩ := okW_b h1
  refine ⟨hw, ha0, ha1, hb0, hb1, fun x hx1 hx2 => ?_⟩
  have e : gapsL t a b = gapsP t a (b - a).toNat := by unfold gapsL; rw [h1]; rfl
  rw [e] at h2
  have h3 : gapsP t a (b - a).toNat = [] := List.eq_nil_of_length_eq_zero (by omega)
  have h4 := (gapsP_nil t a _).1 h3 (x - a).toNat (by omega)
  have e2 : a + ((x - a).toNat : Int) = x := by omega
  rw [e2] at h4
  obtain ⟨j, hj, hc⟩ := (anyTo_iff _ _).1 h4
  exact ⟨j, hj, (cov_iff _ _ _).1 hc⟩

/-! ### The fewest watches -/
def bestP (t : Wf) (h : Int) : Nat → Int
  | 0 => -1
  | k + 1 => if covAt t h k && (decide (bestP t h k < 0) || decide (wt t (bestP t h k).toNat < wt t k)) then (k : Int) else bestP t h k
theorem bestP_succ (t : Wf) (h : Int) (k : Nat) : bestP t h (k + 1) = if covAt t h k && (decide (bestP t h k < 0) || decide (wt t (bestP t h k).toNat < wt t k)) then (k : Int) else bestP t h k := rfl
theorem bestP_b (t : Wf) (h : Int) : ∀ k, -1 ≤ bestP t h k ∧ bestP t h k < k ∧ (0 ≤ bestP t h k → covAt t h (bestP t h k).toNat = true) := by
  intro k
  induction k with
  | zero => exact ⟨by simp [bestP], by simp [bestP], by simp [bestP]⟩
  | succ k ih =>
    rw [bestP_succ]
    by_cases hc : (covAt t h k && (decide (bestP t h k < 0) || decide (wt t (bestP t h k).toNat < wt t k))) = true
    · rw [if_pos hc]
      simp only [Bool.and_eq_true] at hc
      exact ⟨by omega, by omega, fun _ => by simpa using hc.1⟩
    · rw [if_neg hc]
      exact ⟨ih.1, by omega, ih.2.2⟩
theorem bestP_max (t : Wf) (h : Int) : ∀ k j, j < k → covAt t h j = true → 0 ≤ bestP t h k ∧ wt t j ≤ wt t (bestP t h k).toNat := by
  intro k
  induction k with
  | zero => intro j hj; omega
  | succ k ih =>
    intro j hj hcj
    rw [bestP_succ]
    by_cases hc : (covAt t h k && (decide (bestP t h k < 0) || decide (wt t (bestP t h k).toNat < wt t k))) = true
    · rw [if_pos hc]
      simp only [Bool.and_eq_true, Bool.or_eq_true, decide_eq_true_eq] at hc
      refine ⟨by omega, ?_⟩
      have e : ((k : Int)).toNat = k := by omega
      rw [e]
      by_cases ej : j = k
      · subst ej; exact Int.le_refl _
      · have := ih j (by omega) hcj
        omega
    · rw [if_neg hc]
      by_cases ej : j = k
      · subst ej
        rw [hcj] at hc
        simp only [Bool.true_and, Bool.or_eq_true, decide_eq_true_eq] at hc
        omega
      · exact ih j (by omega) hcj
/-- The greedy choice, from an hour on: 'n' hours are left at most. -/
def fewP (t : Wf) (b : Int) : Nat → Int → List Int
  | 0, _ => []
  | n + 1, h => if h < b then bestP t h t.length :: fewP t b n (wt t (bestP t h t.length).toNat) else []
theorem fewP_len (t : Wf) (b : Int) : ∀ n h, (fewP t b n h).length ≤ n := by
  intro n
  induction n with
  | zero => intro h; exact Nat.le_refl _
  | succ n ih =>
    intro h
    have e : fewP t b (n + 1) h = if h < b then bestP t h t.length :: fewP t b n (wt t (bestP t h t.length).toNat) else [] := rfl
    rw [e]
    split
    · have := ih (wt t (bestP t h t.length).toNat); simp; omega
    · simp
def fewL (t : Wf) (a b : Int) : List Int := if isW t a b then fewP t b 49 a else []
theorem fewL_len (t : Wf) (a b : Int) : (fewL t a b).length ≤ 49 := by
  unfold fewL
  split
  · exact fewP_len _ _ _ _
  · simp
theorem fewP_end (t : Wf) (b : Int) (n : Nat) (h : Int) (hb : b ≤ h) : fewP t b n h = [] := by
  cases n with
  | zero => rfl
  | succ n =>
    have e : fewP t b (n + 1) h = if h < b then bestP t h t.length :: fewP t b n (wt t (bestP t h t.length).toNat) else [] := rfl
    rw [e, if_neg (by omega)]
theorem fewP_step (t : Wf) (b : Int) (n : Nat) (h : Int) (hb : h < b) : fewP t b (n + 1) h = bestP t h t.length :: fewP t b n (wt t (bestP t h t.length).toNat) := by
  have e : fewP t b (n + 1) h = if h < b then bestP t h t.length :: fewP t b n (wt t (bestP t h t.length).toNat) else [] := rfl
  rw [e, if_pos hb]
end Go.Proofs.Ytcmealoppnpdcaa
