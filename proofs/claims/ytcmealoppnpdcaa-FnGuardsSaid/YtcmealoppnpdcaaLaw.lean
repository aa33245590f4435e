/- Plain facts for FnGuards: no program in sight. -/
import Derived.Test.YtcmealoppnpdcaaDp
namespace Go.Proofs.Ytcmealoppnpdcaa
set_option linter.unusedVariables false

def ownL (t : Wf) (f : List Int) : Wf := f.map fun i => t.getD i.toNat (0, 0, 0)
theorem ownL_len (t : Wf) (f : List Int) : (ownL t f).length = f.length := by simp [ownL]
theorem ownL_cons (t : Wf) (i : Int) (f : List Int) : ownL t (i :: f) = t.getD i.toNat (0, 0, 0) :: ownL t f := rfl
theorem fr_cons (x : Int × Int × Int) (o : Wf) (k : Nat) : fr (x :: o) (k + 1) = fr o k := rfl
theorem wt_cons (x : Int × Int × Int) (o : Wf) (k : Nat) : wt (x :: o) (k + 1) = wt o k := rfl
theorem py_cons (x : Int × Int × Int) (o : Wf) (k : Nat) : py (x :: o) (k + 1) = py o k := rfl
def payK (o : Wf) : Nat → Int
  | 0 => 0
  | k + 1 => payK o k + py o k
theorem payK_succ (o : Wf) (k : Nat) : payK o (k + 1) = payK o k + py o k := rfl
theorem payK_cons (x : Int × Int × Int) (o : Wf) : ∀ k, payK (x :: o) (k + 1) = x.2.2 + payK o k := by
  intro k
  induction k with
  | zero => show (0 : Int) + x.2.2 = x.2.2 + 0; omega
  | succ k ih => rw [payK_succ, ih, payK_succ, py_cons]; omega
/-- What the greedy choice from an hour on gives. -/
structure Good (t : Wf) (b : Int) (h : Int) (f : List Int) : Prop where
  rng : ∀ x ∈ f, 0 ≤ x ∧ x < t.length
  cov : ∀ x, h ≤ x → x < b → ∃ k, k < f.length ∧ fr (ownL t f) k ≤ x ∧ x < wt (ownL t f) k
  lat : ∀ k, k < f.length → h < wt (ownL t f) k
  min : ∀ k, k < f.length → ∃ x, h ≤ x ∧ x < b ∧ ∀ j, j < f.length → j ≠ k → ¬ (fr (ownL t f) j ≤ x ∧ x < wt (ownL t f) j)
  len : (f.length : Int) ≤ max 0 (b - h)
  pay : 0 ≤ payK (ownL t f) f.length ∧ bF t b.toNat h.toNat ≤ payK (ownL t f) f.length
theorem good_few {t : Wf} {a b : Int} (hw : isW t a b = true) : ∀ (n : Nat) (h : Int), a ≤ h → b - h ≤ (n : Int) → Good t b h (fewP t b n h) := by
  obtain ⟨hB, ha0, ha1, hb0, hb1, hcov⟩ := isW_b hw
  obtain ⟨_, hf⟩ := wat_b t hB
  intro n
  induction n with
  | zero =>
    intro h h1 h2
    have e : fewP t b 0 h = [] := rfl
    have eb : bF t b.toNat h.toNat = 0 := by unfold bF; rw [if_neg (by omega)]
    rw [e]
    refine ⟨fun x hx => by simp at hx, fun x h3 h4 => by omega, fun k hk => by simp at hk, fun k hk => by simp at hk, by simp; omega, ?_⟩
    rw [eb]
    exact ⟨Int.le_refl _, Int.le_refl _⟩
  | succ n ih =>
    intro h h1 h2
    by_cases hb : h < b
    · rw [fewP_step t b n h hb]
      obtain ⟨k0, hk0, c1, c2⟩ := hcov h h1 hb
      have hm := bestP_max t h t.length k0 hk0 ((cov_iff _ _ _).2 ⟨c1, c2⟩)
      obtain ⟨_, b2, b3⟩ := bestP_b t h t.length
      have hcb := (cov_iff _ _ _).1 (b3 hm.1)
      have hmax := fun j hj hc => (bestP_max t h t.length j hj hc).2
      generalize bestP t h t.length = i at *
      have hi : i.toNat < t.length := by omega
      have hfi := hf i.toNat hi
      have G := ih (wt t i.toNat) (by omega) (by omega)
      generalize hF : fewP t b n (wt t i.toNat) = F at *
      have e0 : ∀ o : Wf, fr (t.getD i.toNat (0, 0, 0) :: o) 0 = fr t i.toNat ∧ wt (t.getD i.toNat (0, 0, 0) :: o) 0 = wt t i.toNat := fun o => ⟨rfl, rfl⟩
      have hmem : ∀ j, j < F.length → ∃ q, q < t.length ∧ fr (ownL t F) j = fr t q ∧ wt (ownL t F) j = wt t q := fun j hj => by
        have hx := G.rng F[j] (List.getElem_mem hj)
        refine ⟨F[j].toNat, by omega, ?_, ?_⟩ <;> simp [fr, wt, ownL, List.getD, hj]
      refine ⟨fun x hx => ?_, fun x h3 h4 => ?_, fun k hk => ?_, fun k hk => ?_, ?_, ?_⟩
      · rcases List.mem_cons.1 hx with rfl | hx
        · omega
        · exact G.rng x hx
      · rw [ownL_cons]
        by_cases hx : x < wt t i.toNat
        · exact ⟨0, by simp, by rw [(e0 _).1]; omega, by rw [(e0 _).2]; omega⟩
        · obtain ⟨k, hk, q1, q2⟩ := G.cov x (by omega) h4
          exact ⟨k + 1, by simp; omega, by rw [fr_cons]; exact q1, by rw [wt_cons]; exact q2⟩
      · rw [ownL_cons]
        cases k with
        | zero => rw [(e0 _).2]; omega
        | succ k =>
          have := G.lat k (by simp at hk; omega)
          rw [wt_cons]
          omega
      · rw [ownL_cons]
        cases k with
        | zero =>
          refine ⟨h, Int.le_refl _, hb, fun j hj hne => ?_⟩
          cases j with
          | zero => exact absurd rfl hne
          | succ j =>
            rw [fr_cons, wt_cons]
            intro hc
            have hj' : j < F.length := by simp at hj; omega
            obtain ⟨q, hq, e1, e2⟩ := hmem j hj'
            have h5 := hmax q hq ((cov_iff _ _ _).2 ⟨by omega, by omega⟩)
            have h6 := G.lat j hj'
            omega
        | succ k =>
          obtain ⟨x, x1, x2, x3⟩ := G.min k (by simp at hk; omega)
          refine ⟨x, by omega, x2, fun j hj hne => ?_⟩
          cases j with
          | zero => rw [(e0 _).2]; omega
          | succ j =>
            rw [fr_cons, wt_cons]
            exact x3 j (by simp at hj; omega) (by omega)
      · have := G.len
        simp only [List.length_cons]
        omega
      · rw [ownL_cons, List.length_cons, payK_cons]
        have hpy : (t.getD i.toNat (0, 0, 0)).2.2 = py t i.toNat := rfl
        rw [hpy]
        have hp := G.pay
        refine ⟨by omega, ?_⟩
        have ha : ((a.toNat : Nat) : Int) = a := by omega
        have hbn : ((b.toNat : Nat) : Int) = b := by omega
        have hw2 : isW t (a.toNat : Int) (b.toNat : Int) = true := by rw [ha, hbn]; exact hw
        have hle := (bF_is hw2 (by omega)).le h.toNat (by omega) (by omega) i.toNat hi (by omega) (by omega)
        by_cases hwb : wt t i.toNat ≤ b
        · have e1 : min (wt t i.toNat).toNat b.toNat = (wt t i.toNat).toNat := by omega
          rw [e1] at hle
          omega
        · have e1 : min (wt t i.toNat).toNat b.toNat = b.toNat := by omega
          have e2 : bF t b.toNat b.toNat = 0 := by unfold bF; rw [if_neg (by omega)]
          rw [e1, e2] at hle
          omega
    · have e := fewP_end t b (n + 1) h (by omega)
      have eb : bF t b.toNat h.toNat = 0 := by unfold bF; rw [if_neg (by omega)]
      rw [e]
      refine ⟨fun x hx => by simp at hx, fun x h3 h4 => by omega, fun k hk => by simp at hk, fun k hk => by simp at hk, by simp; omega, ?_⟩
      rw [eb]
      exact ⟨Int.le_refl _, Int.le_refl _⟩
theorem wat_sub {t o : Wf} (ht : watB t = true) (hl : o.length ≤ 16) (hs : ∀ x ∈ o, x ∈ t) : watB o = true := by
  obtain ⟨_, hf⟩ := wat_b t ht
  unfold watB
  simp only [Bool.and_eq_true, decide_eq_true_eq]
  refine ⟨hl, (allAt_iff _ _).2 fun k hk => ?_⟩
  have hm := hs o[k] (List.getElem_mem hk)
  obtain ⟨j, hj, e⟩ := List.mem_iff_getElem.1 hm
  have hfj := hf j hj
  have e1 : t[j]? = some o[k] := by rw [List.getElem?_eq_getElem hj, e]
  have e2 : o[k]? = some o[k] := List.getElem?_eq_getElem hk
  rw [fr_at e1, wt_at e1, py_at e1] at hfj
  unfold watAt
  rw [fr_at e2, wt_at e2, py_at e2]
  simp only [Bool.and_eq_true, inB_iff, decide_eq_true_eq]
  omega
theorem isW_of {t : Wf} {a b : Int} (hB : watB t = true) (ha0 : 0 ≤ a) (ha1 : a ≤ 48) (hb0 : 0 ≤ b) (hb1 : b ≤ 48) (hc : ∀ x, a ≤ x → x < b → ∃ k, k < t.length ∧ fr t k ≤ x ∧ x < wt t k) : isW t a b = true := by
  have ho : okW t a b = true := by
    unfold okW
    rw [hB, (inB_iff a 0 48).2 ⟨ha0, ha1⟩, (inB_iff b 0 48).2 ⟨hb0, hb1⟩]; rfl
  have hg : gapsP t a (b - a).toNat = [] := (gapsP_nil t a _).2 fun j hj => by
    obtain ⟨k, hk, c1, c2⟩ := hc (a + j) (by omega) (by omega)
    exact (anyTo_iff _ _).2 ⟨k, hk, (cov_iff _ _ _).2 ⟨c1, c2⟩⟩
  unfold isW gapsL
  rw [ho, if_pos rfl, hg]
  rfl
theorem own_mem {t : Wf} {f : List Int} (hr : ∀ x ∈ f, 0 ≤ x ∧ x < t.length) : ∀ x ∈ ownL t f, x ∈ t := by
  intro x hx
  unfold ownL at hx
  obtain ⟨i, hi, e⟩ := List.mem_map.1 hx
  have h := hr i hi
  have h2 : i.toNat < t.length := by omega
  rw [← e]
  simp only [List.getD, List.getElem?_eq_getElem h2, Option.getD_some]
  exact List.getElem_mem h2
def lessL (o : Wf) (k : Nat) : Wf := o.take k ++ o.drop (k + 1)
theorem less_mem {o : Wf} {k : Nat} : ∀ x ∈ lessL o k, x ∈ o := by
  intro x hx
  unfold lessL at hx
  rcases List.mem_append.1 hx with h | h
  · exact List.mem_of_mem_take h
  · exact List.mem_of_mem_drop h
theorem less_len {o : Wf} {k : Nat} (hk : k < o.length) : (lessL o k).length = o.length - 1 := by
  unfold lessL
  rw [List.length_append, List.length_take, List.length_drop]
  omega
theorem less_at {o : Wf} {k j : Nat} (hk : k < o.length) (hj : j < (lessL o k).length) : ∃ i, i < o.length ∧ i ≠ k ∧ fr (lessL o k) j = fr o i ∧ wt (lessL o k) j = wt o i := by
  rw [less_len hk] at hj
  by_cases h : j < k
  · refine ⟨j, by omega, by omega, ?_, ?_⟩
    all_goals
      have e1 : (List.take k o).length = k := by rw [List.length_take]; omega
      simp only [fr, wt, lessL, List.getD]
      rw [List.getElem?_append_left (by omega), List.getElem?_take, if_pos h]
  · refine ⟨j + 1, by omega, by omega, ?_, ?_⟩
    all_goals
      have e1 : (List.take k o).length = k := by rw [List.length_take]; omega
      simp only [fr, wt, lessL, List.getD]
      rw [List.getElem?_append_right (by omega), e1, List.getElem?_drop, show k + 1 + (j - k) = j + 1 by omega]
/-- As few watches as the greedy choice: they watch, they cost no less than the cheapest, none can be left out. -/
theorem few_facts {t : Wf} {a b : Int} (hw : isW t a b = true) (h11 : b - a ≤ 11) : ∃ f, fewL t a b = f ∧ f.length ≤ 11 ∧ (∀ x ∈ f, 0 ≤ x ∧ x < t.length) ∧ isW (ownL t f) a b = true ∧ (0 ≤ cheapZ t a b ∧ cheapZ t a b ≤ payK (ownL t f) f.length) ∧ (∀ k, k < f.length → isW (lessL (ownL t f) k) a b = false) ∧ (∀ k, k ≤ f.length → 0 ≤ payK (ownL t f) k ∧ payK (ownL t f) k ≤ 1000 * (k : Int)) := by
  obtain ⟨hB, ha0, ha1, hb0, hb1, hcov⟩ := isW_b hw
  have G := good_few hw 49 a (Int.le_refl _) (by omega)
  have e : fewL t a b = fewP t b 49 a := by unfold fewL; rw [hw]; rfl
  have hlen := G.len
  generalize hF : fewP t b 49 a = f at *
  have hol := ownL_len t f
  have hwo := wat_sub hB (o := ownL t f) (by omega) (own_mem G.rng)
  refine ⟨f, e, by omega, G.rng, isW_of hwo ha0 ha1 hb0 hb1 (fun x h1 h2 => by rw [hol]; exact G.cov x h1 h2), ?_, fun k hk => ?_, ?_⟩
  · have hp := G.pay
    unfold cheapZ
    rw [hw, if_pos rfl]
    by_cases hab : a < b
    · rw [if_pos hab]
      have ha : ((a.toNat : Nat) : Int) = a := by omega
      have hbn : ((b.toNat : Nat) : Int) = b := by omega
      have hw2 : isW t (a.toNat : Int) (b.toNat : Int) = true := by rw [ha, hbn]; exact hw
      have := (bF_b hw2 (b.toNat - a.toNat) a.toNat (Nat.le_refl _) (Nat.le_refl _) (by omega)).1
      exact ⟨this, hp.2⟩
    · rw [if_neg hab]
      exact ⟨Int.le_refl _, hp.1⟩
  · obtain ⟨x, x1, x2, x3⟩ := G.min k hk
    cases hq : isW (lessL (ownL t f) k) a b
    · rfl
    · obtain ⟨_, _, _, _, _, hc2⟩ := isW_b hq
      obtain ⟨j, hj, c1, c2⟩ := hc2 x x1 x2
      obtain ⟨i, hi, hne, e1, e2⟩ := less_at (by rw [hol]; exact hk) hj
      exact absurd ⟨by rw [← e1]; exact c1, by rw [← e2]; exact c2⟩ (x3 i (by omega) hne)
  · obtain ⟨_, hfo⟩ := wat_b _ hwo
    intro k
    induction k with
    | zero => intro _; exact ⟨Int.le_refl _, by simp [payK]⟩
    | succ k ih =>
      intro hk
      have h1 := ih (by omega)
      have h2 := hfo k (by omega)
      rw [payK_succ]
      omega
theorem isW_gaps {t : Wf} {a b : Int} (ho : okW t a b = true) : isW t a b = (((gapsL t a b).length : Int) == 0) := by unfold isW; rw [ho]; rfl
theorem cheap_neg {t : Wf} {a b : Int} (h : isW t a b = false) : cheapZ t a b = -1 := by unfold cheapZ; rw [h]; rfl
theorem few_none {t : Wf} {a b : Int} (h : isW t a b = false) : fewL t a b = [] := by unfold fewL; rw [h]; rfl
theorem gaps_six : (gapsL [] 3 9).length = 6 := by decide
theorem isW_five {t : Wf} (h : watB t = true) : isW t 5 5 = true := isW_of h (by omega) (by omega) (by omega) (by omega) (fun x h1 h2 => by omega)
theorem gaps_in {t : Wf} {a b : Int} : ∀ x ∈ gapsL t a b, a ≤ x ∧ x < b := by
  intro x hx
  unfold gapsL at hx
  split at hx
  · have := gapsP_mem t a x _ hx
    omega
  · simp at hx
theorem guard_facts {t : Wf} {a b : Int} (ht : watB t = true) (a0 : 0 ≤ a) (a1 : a ≤ 48) (b0 : 0 ≤ b) (b1 : b ≤ 48) (h11 : b - a ≤ 11) : ∃ f, fewL t a b = f ∧ f.length ≤ 11 ∧ (∀ x ∈ f, 0 ≤ x ∧ x < t.length) ∧ (∀ k, k ≤ f.length → 0 ≤ payK (ownL t f) k ∧ payK (ownL t f) k ≤ 1000 * (k : Int)) ∧ (isW t a b = true → isW (ownL t f) a b = true ∧ cheapZ t a b ≤ payK (ownL t f) f.length ∧ ∀ k, k < f.length → isW (lessL (ownL t f) k) a b = false) ∧ (isW t a b = false → f = []) ∧ decide (0 ≤ cheapZ t a b) = isW t a b ∧ ((((gapsL t a b).length : Int) == 0) = isW t a b) ∧ cheapZ t a b ≤ 20000 ∧ -1 ≤ cheapZ t a b := by
  have ho : okW t a b = true := by
    unfold okW
    rw [ht, (inB_iff a 0 48).2 ⟨a0, a1⟩, (inB_iff b 0 48).2 ⟨b0, b1⟩]; rfl
  cases hw : isW t a b
  · refine ⟨[], few_none hw, Nat.zero_le _, fun x hx => by simp at hx, fun k hk => ?_, (fun h => by cases h), fun _ => rfl, ?_, ?_, ?_, ?_⟩
    · have : k = 0 := by simpa using hk
      subst this; exact ⟨Int.le_refl _, by simp [payK]⟩
    · rw [cheap_neg hw]; rfl
    · rw [← isW_gaps ho, hw]
    · rw [cheap_neg hw]; omega
    · rw [cheap_neg hw]; omega
  · obtain ⟨f, h1, h2, h3, h4, h5, h6, h7⟩ := few_facts hw h11
    have := h7 f.length (Nat.le_refl _)
    exact ⟨f, h1, h2, h3, h7, fun _ => ⟨h4, h5.2, h6⟩, (fun h => by cases h), decide_eq_true h5.1, by rw [← isW_gaps ho, hw], by omega, by omega⟩
theorem own_take_succ {t : Wf} {f : List Int} {k : Nat} {n : Nat} {x y z : Int} (hk : f[k]? = some (n : Int)) (hx : t[n]? = some (x, y, z)) : (ownL t f).take (k + 1) = (ownL t f).take k ++ [(x, y, z)] ∧ payK (ownL t f) (k + 1) = payK (ownL t f) k + z := by
  have hkl := (List.getElem?_eq_some_iff.1 hk).1
  have e : (ownL t f)[k]? = some (x, y, z) := by
    unfold ownL
    rw [List.getElem?_map, hk]
    simp [List.getD, hx]
  obtain ⟨h1, h2⟩ := List.getElem?_eq_some_iff.1 e
  exact ⟨by rw [List.take_succ_eq_append_getElem h1, h2], by rw [payK_succ, py_at e]⟩
end Go.Proofs.Ytcmealoppnpdcaa
