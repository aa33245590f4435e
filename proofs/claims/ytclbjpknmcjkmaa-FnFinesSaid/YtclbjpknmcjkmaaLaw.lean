/- Plain facts for FnFines: no program in sight. -/
import Derived.Test.YtclbjpknmcjkmaaPlain
namespace Go.Proofs.Ytclbjpknmcjkmaa
set_option linter.unusedVariables false

theorem pe_drop (t : Of) (m k : Nat) : pe (t.drop m) k = pe t (m + k) := by simp [pe, List.getD, List.getElem?_drop]
theorem dy_drop (t : Of) (m k : Nat) : dy (t.drop m) k = dy t (m + k) := by simp [dy, List.getD, List.getElem?_drop]
theorem li_drop (t : Of) (m k : Nat) : li (t.drop m) k = li t (m + k) := by simp [li, List.getD, List.getElem?_drop]
theorem dy_mono {t : Of} (h : offB t = true) {i : Nat} : ∀ j, i ≤ j → j < t.length → dy t i ≤ dy t j := by
  obtain ⟨_, hf⟩ := off_b t h
  intro j
  induction j with
  | zero => intro h1 _; obtain rfl : i = 0 := by omega
            exact Int.le_refl _
  | succ j ih =>
    intro h1 h2
    by_cases e : i = j + 1
    · subst e; exact Int.le_refl _
    · have := ih (by omega) (by omega)
      have := (hf (j + 1) h2).2.2.2 (by omega)
      rw [Nat.add_sub_cancel] at this
      omega
theorem pard_drop (d : Int) : ∀ t : Of, (∀ i j, i ≤ j → j < t.length → dy t i ≤ dy t j) → ∃ m, m ≤ t.length ∧ pardP t d = t.drop m ∧ ∀ k, m ≤ k → k < t.length → d ≤ dy t k := by
  intro t
  induction t with
  | nil => intro _; exact ⟨0, Nat.le_refl _, rfl, fun k _ hk => by simp at hk⟩
  | cons o t ih =>
    intro hs
    have hy : ∀ k, dy (o :: t) (k + 1) = dy t k := fun k => rfl
    have hy0 : dy (o :: t) 0 = o.2.1 := rfl
    by_cases hd : d ≤ o.2.1
    · refine ⟨0, Nat.zero_le _, ?_, fun k _ hk => ?_⟩
      · show (o :: t).filter _ = _
        rw [List.drop_zero]
        apply List.filter_eq_self.2
        intro a ha
        obtain ⟨k, hk, e⟩ := List.mem_iff_getElem.1 ha
        have h1 := hs 0 k (Nat.zero_le _) hk
        rw [hy0] at h1
        have h2 : dy (o :: t) k = a.2.1 := by unfold dy; rw [getD_at (show (o :: t)[k]? = some a by rw [List.getElem?_eq_getElem hk, e])]
        simp
        omega
      · have h1 := hs 0 k (Nat.zero_le _) hk
        rw [hy0] at h1
        omega
    · obtain ⟨m, hm, e, ha⟩ := ih (fun i j hij hj => by have := hs (i + 1) (j + 1) (by omega) (by simp; omega); rw [hy, hy] at this; exact this)
      refine ⟨m + 1, by simp; omega, ?_, fun k hk hkl => ?_⟩
      · show (o :: t).filter _ = _
        rw [List.filter_cons_of_neg (by simpa using hd)]
        exact e
      · obtain ⟨k', rfl⟩ : ∃ k', k = k' + 1 := ⟨k - 1, by omega⟩
        rw [hy]
        exact ha k' (by omega) (by simp at hkl; omega)
theorem hit_drop (t : Of) (m k i : Nat) : hitP (t.drop m) k i = hitP t (m + k) (m + i) := by unfold hitP; rw [pe_drop, pe_drop, dy_drop, dy_drop]
theorem times_drop (t : Of) (m k : Nat) : ∀ i, timesP (t.drop m) k i ≤ timesP t (m + k) (m + i) := by
  intro i
  induction i with
  | zero => exact (timesP_b t (m + k) (m + 0)).1
  | succ i ih =>
    have e1 : timesP (t.drop m) k (i + 1) = if hitP (t.drop m) k i then min 16 (2 * timesP (t.drop m) k i) else timesP (t.drop m) k i := rfl
    have e2 : timesP t (m + k) (m + (i + 1)) = if hitP t (m + k) (m + i) then min 16 (2 * timesP t (m + k) (m + i)) else timesP t (m + k) (m + i) := rfl
    rw [e1, e2, hit_drop]
    split <;> omega
theorem off_drop {t : Of} (h : offB t = true) (m : Nat) : offB (t.drop m) = true := by
  obtain ⟨h40, hf⟩ := off_b t h
  unfold offB
  simp only [Bool.and_eq_true, decide_eq_true_eq, List.length_drop]
  refine ⟨by omega, (allAt_iff _ _).2 fun k hk => ?_⟩
  obtain ⟨a, b, c, e⟩ := hf (m + k) (by omega)
  unfold offAt
  rw [pe_drop, dy_drop, li_drop, dy_drop]
  simp only [Bool.and_eq_true, Bool.or_eq_true, inB_iff, beq_iff_eq, decide_eq_true_eq]
  refine ⟨⟨⟨a, b⟩, c⟩, ?_⟩
  by_cases hk0 : k = 0
  · exact .inl hk0
  · right
    have := e (by omega)
    rw [show m + k - 1 = m + (k - 1) by omega] at this
    exact this
theorem fine_drop {t : Of} (h : offB t = true) {m k : Nat} (hk : m + k < t.length) : fineF (t.drop m) k ≤ fineF t (m + k) := by
  obtain ⟨_, hf⟩ := off_b t h
  obtain ⟨_, _, hl, _⟩ := hf (m + k) hk
  unfold fineF
  rw [li_drop]
  exact Int.mul_le_mul_of_nonneg_right (times_drop t m k k) (by omega)
theorem fines_drop {t : Of} (h : offB t = true) (p : Int) (m : Nat) (hm : m ≤ t.length) : ∀ k, m + k ≤ t.length → finesP (t.drop m) p k ≤ finesP t p (m + k) := by
  intro k
  induction k with
  | zero => intro hk; exact (finesP_b h p (m + 0) hk).1
  | succ k ih =>
    intro hk
    have h1 := ih (by omega)
    have h2 := fine_drop h (m := m) (k := k) (by omega)
    have e : m + (k + 1) = (m + k) + 1 := rfl
    rw [e, finesP_succ, finesP_succ, pe_drop]
    split <;> omega
/-- A pardon never makes fines greater. -/
theorem pard_facts {t : Of} (h : offB t = true) (d : Int) : offB (pardP t d) = true ∧ (∀ p, finesP (pardP t d) p (pardP t d).length ≤ finesP t p t.length) ∧ (∀ k, k < (pardP t d).length → d ≤ dy (pardP t d) k) ∧ (pardP t d).length ≤ t.length := by
  obtain ⟨m, hm, e, ha⟩ := pard_drop d t (fun i j hij hj => dy_mono h j hij hj)
  rw [e]
  refine ⟨off_drop h m, fun p => ?_, fun k hk => ?_, by simp⟩
  · have := fines_drop h p m hm (t.length - m) (by omega)
    rw [List.length_drop]
    rw [show m + (t.length - m) = t.length by omega] at this
    exact this
  · rw [dy_drop]
    rw [List.length_drop] at hk
    exact ha (m + k) (by omega) (by omega)

theorem first_times {t : Of} {k : Nat} (h : allAt (firstAt t k) k = true) : ∀ i, i ≤ k → timesP t k i = 1 := by
  have ha := (allAt_iff _ _).1 h
  intro i
  induction i with
  | zero => intro _; rfl
  | succ i ih =>
    intro hi
    have e1 : timesP t k (i + 1) = if hitP t k i then min 16 (2 * timesP t k i) else timesP t k i := rfl
    have h1 := ha i (by omega)
    have h2 : hitP t k i = false := by
      unfold firstAt at h1
      unfold hitP
      have : (pe t i == pe t k) = false := by simpa using h1
      rw [this]; rfl
    rw [e1, h2]
    exact ih (by omega)
theorem first_fine {t : Of} {k : Nat} (h : firstZ t k = true) : fineF t k = li t k := by
  unfold firstZ at h
  simp only [Bool.and_eq_true] at h
  rw [Int.toNat_natCast] at h
  unfold fineF
  rw [first_times h.2 k (Nat.le_refl _), Int.one_mul]
theorem fine_mod (t : Of) (k : Nat) : fineF t k % li t k = 0 := by unfold fineF; exact Int.mul_emod_left _ _

/-! ### The sums -/
def allP (t : Of) : Nat → Int
  | 0 => 0
  | k + 1 => allP t k + fineF t k
theorem allP_b {t : Of} (h : offB t = true) : ∀ k, k ≤ t.length → 0 ≤ allP t k ∧ allP t k ≤ 160000 * (k : Int) := by
  intro k
  induction k with
  | zero => intro _; exact ⟨Int.le_refl _, by simp [allP]⟩
  | succ k ih =>
    intro hk
    have h1 := ih (by omega)
    have h2 := fineF_b h (k := k) (by omega)
    have e : allP t (k + 1) = allP t k + fineF t k := rfl
    rw [e]
    omega
def sumQ (t : Of) : Nat → Int
  | 0 => 0
  | q + 1 => sumQ t q + finesP t ((q + 1 : Nat) : Int) t.length
def mostQ (t : Of) : Nat → Int
  | 0 => 0
  | q + 1 => max (mostQ t q) (finesP t ((q + 1 : Nat) : Int) t.length)
theorem six_all {t : Of} (hp : ∀ k, k < t.length → 1 ≤ pe t k ∧ pe t k ≤ 4) : ∀ k, k ≤ t.length → finesP t 1 k + finesP t 2 k + finesP t 3 k + finesP t 4 k + finesP t 5 k + finesP t 6 k = allP t k := by
  intro k
  induction k with
  | zero => intro _; rfl
  | succ k ih =>
    intro hk
    have h1 := ih (by omega)
    obtain ⟨a, b⟩ := hp k (by omega)
    have e : allP t (k + 1) = allP t k + fineF t k := rfl
    rw [e, ← h1]
    rw [finesP_succ, finesP_succ, finesP_succ, finesP_succ, finesP_succ, finesP_succ]
    have hc : pe t k = 1 ∨ pe t k = 2 ∨ pe t k = 3 ∨ pe t k = 4 := by omega
    rcases hc with e | e | e | e <;> rw [e] <;> simp <;> omega
theorem sumQ_all {t : Of} (hp : ∀ k, k < t.length → 1 ≤ pe t k ∧ pe t k ≤ 4) : sumQ t 6 = allP t t.length := by
  rw [← six_all hp t.length (Nat.le_refl _)]
  simp [sumQ]
theorem fines_none {t : Of} {p : Int} (h : ∀ j, j < t.length → pe t j ≠ p) : ∀ k, k ≤ t.length → finesP t p k = 0 := by
  intro k
  induction k with
  | zero => intro _; rfl
  | succ k ih =>
    intro hk
    have : (pe t k == p) = false := by simpa using h k (by omega)
    rw [finesP_succ, this, ih (by omega)]
    rfl
theorem fines_worst {t : Of} (h : offB t = true) (h0 : 0 < t.length) (p : Int) : finesP t p t.length ≤ finesP t (worstP t t.length) t.length := by
  by_cases hx : ∃ j, j < t.length ∧ pe t j = p
  · obtain ⟨j, hj, rfl⟩ := hx
    exact worst_most h t.length (Nat.le_refl _) j hj
  · have h1 := fines_none (p := p) (fun j hj e => hx ⟨j, hj, e⟩) t.length (Nat.le_refl _)
    have h2 := (finesP_b h (worstP t t.length) t.length (Nat.le_refl _)).1
    omega
theorem mostQ_le {t : Of} {M : Int} (hM : 0 ≤ M) (h : ∀ p : Int, finesP t p t.length ≤ M) : ∀ q, mostQ t q ≤ M := by
  intro q
  induction q with
  | zero => exact hM
  | succ q ih =>
    have e : mostQ t (q + 1) = max (mostQ t q) (finesP t ((q + 1 : Nat) : Int) t.length) := rfl
    have := h ((q + 1 : Nat) : Int)
    rw [e]
    omega
theorem mostQ_ge {t : Of} : ∀ q j, 1 ≤ j → j ≤ q → finesP t ((j : Nat) : Int) t.length ≤ mostQ t q := by
  intro q
  induction q with
  | zero => intro j h1 h2; omega
  | succ q ih =>
    intro j h1 h2
    have e : mostQ t (q + 1) = max (mostQ t q) (finesP t ((q + 1 : Nat) : Int) t.length) := rfl
    rw [e]
    by_cases ej : j = q + 1
    · subst ej; omega
    · have := ih j h1 (by omega)
      omega
theorem most_worst {t : Of} (h : offB t = true) (hp : ∀ k, k < t.length → 1 ≤ pe t k ∧ pe t k ≤ 4) (h0 : 0 < t.length) : finesP t (worstP t t.length) t.length = mostQ t 6 := by
  obtain ⟨_, _, h3⟩ := worstP_b h t.length (Nat.le_refl _)
  obtain ⟨j, hj, e⟩ := h3 h0
  have hb := hp j hj
  have h1 := fines_worst h h0
  have h2 := mostQ_le (finesP_b h (worstP t t.length) t.length (Nat.le_refl _)).1 h1 6
  have h4 := mostQ_ge (t := t) 6 (worstP t t.length).toNat (by omega) (by omega)
  rw [Int.toNat_of_nonneg (by omega)] at h4
  omega
theorem mostQ_b {t : Of} (h : offB t = true) (q : Nat) : 0 ≤ mostQ t q ∧ mostQ t q ≤ 6400000 := by
  have h40 := (off_b t h).1
  refine ⟨?_, mostQ_le (by omega) (fun p => by have := (finesP_b h p t.length (Nat.le_refl _)).2; omega) q⟩
  cases q with
  | zero => exact Int.le_refl _
  | succ q =>
    have := mostQ_ge (t := t) (q + 1) (q + 1) (by omega) (Nat.le_refl _)
    have := (finesP_b h ((q + 1 : Nat) : Int) t.length (Nat.le_refl _)).1
    omega
theorem sumQ_b {t : Of} (h : offB t = true) : ∀ q : Nat, 0 ≤ sumQ t q ∧ sumQ t q ≤ 6400000 * (q : Int) := by
  have h40 := (off_b t h).1
  intro q
  induction q with
  | zero => exact ⟨Int.le_refl _, by simp [sumQ]⟩
  | succ q ih =>
    have e : sumQ t (q + 1) = sumQ t q + finesP t ((q + 1 : Nat) : Int) t.length := rfl
    have := finesP_b h ((q + 1 : Nat) : Int) t.length (Nat.le_refl _)
    rw [e]
    omega
def exA : Of := [(3, 1, 5), (3, 90, 2)]
theorem exA_ok : fineZ exA 1 = 4 := by decide
end Go.Proofs.Ytclbjpknmcjkmaa
