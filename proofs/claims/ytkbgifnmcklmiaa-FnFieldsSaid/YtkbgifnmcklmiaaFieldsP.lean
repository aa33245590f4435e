/- The law on fields, plainly. -/
import Derived.Test.YtkbgifnmcklmiaaDrawL3
namespace Go.Proofs.Ytkbgifnmcklmiaa
open Go.ChangeShapes Go.WideShapes Go.ChangeAt Go.RowKit
set_option linter.unusedVariables false

def validP (l : List (Vf × Int)) : Prop := ∀ x ∈ l, fieldB x.1.1 x.1.2 = true ∧ inB x.2 0 52 = true
def sumW : List (Vf × Int) → Int → Int
  | [], _ => 0
  | x :: t, wk => needAt x wk + sumW t wk
theorem need0 {x : Vf × Int} {wk : Int} (h : fieldB x.1.1 x.1.2 = true ∧ inB x.2 0 52 = true) (hw : inB wk 0 52 = true) : 0 ≤ needAt x wk := needZ_ok h.1 h.2 hw
theorem sumW_0 {l : List (Vf × Int)} (h : validP l) {wk : Int} (hw : inB wk 0 52 = true) : 0 ≤ sumW l wk := by
  induction l with
  | nil => exact Int.le_refl _
  | cons x t ih =>
    have h1 := need0 (h x (List.mem_cons_self ..)) hw
    have h2 := ih (fun y hy => h y (List.mem_cons_of_mem _ hy))
    show 0 ≤ needAt x wk + sumW t wk
    omega
theorem sumW_append (l m : List (Vf × Int)) (wk : Int) : sumW (l ++ m) wk = sumW l wk + sumW m wk := by
  induction l with
  | nil => show sumW m wk = 0 + _; omega
  | cons x t ih =>
    show needAt x wk + sumW (t ++ m) wk = needAt x wk + sumW t wk + sumW m wk
    omega
theorem weekZ_valid {l : List (Vf × Int)} (h : validP l) {wk : Int} (hw : inB wk 0 52 = true) : ∀ acc, weekZ l wk acc = acc + sumW l wk := by
  induction l with
  | nil => intro acc; show acc = acc + 0; omega
  | cons x t ih =>
    intro acc
    have h1 := need0 (h x (List.mem_cons_self ..)) hw
    rw [weekZ_go (by omega), ih (fun y hy => h y (List.mem_cons_of_mem _ hy))]
    show _ = acc + (needAt x wk + sumW t wk)
    omega
theorem peakR_valid {l : List (Vf × Int)} (h : validP l) : ∀ (n : Nat) (wk best : Int), 0 ≤ wk → wk + n ≤ 53 → best ≤ peakR l n wk best ∧ (∀ i : Nat, i < n → sumW l (wk + i) ≤ peakR l n wk best) ∧ (peakR l n wk best = best ∨ ∃ i : Nat, i < n ∧ peakR l n wk best = sumW l (wk + i)) := by
  intro n
  induction n with
  | zero => intro wk best _ _; exact ⟨Int.le_refl _, fun i hi => absurd hi (Nat.not_lt_zero _), .inl rfl⟩
  | succ n ih =>
    intro wk best h0 h1
    have hw : inB wk 0 52 = true := (inB_iff _ _ _).2 ⟨h0, by omega⟩
    have e : weekZ l wk 0 = sumW l wk := by rw [weekZ_valid h hw]; omega
    have hs := sumW_0 h hw
    by_cases hb : best < sumW l wk
    · rw [peakR_up e (by omega) hb]
      obtain ⟨i1, i2, i3⟩ := ih (wk + 1) (sumW l wk) (by omega) (by omega)
      refine ⟨by omega, fun i hi => ?_, ?_⟩
      · cases i with
        | zero => simpa using i1
        | succ i => have := i2 i (by omega); rwa [show wk + 1 + (i : Int) = wk + ((i + 1 : Nat) : Int) by omega] at this
      · right
        rcases i3 with i3 | ⟨i, hi, i3⟩
        · exact ⟨0, by omega, by simpa using i3⟩
        · exact ⟨i + 1, by omega, by rwa [show wk + 1 + (i : Int) = wk + ((i + 1 : Nat) : Int) by omega] at i3⟩
    · rw [peakR_keep e (by omega) hb]
      obtain ⟨i1, i2, i3⟩ := ih (wk + 1) best (by omega) (by omega)
      refine ⟨i1, fun i hi => ?_, ?_⟩
      · cases i with
        | zero => simp; omega
        | succ i => have := i2 i (by omega); rwa [show wk + 1 + (i : Int) = wk + ((i + 1 : Nat) : Int) by omega] at this
      · rcases i3 with i3 | ⟨i, hi, i3⟩
        · exact .inl i3
        · exact .inr ⟨i + 1, by omega, by rwa [show wk + 1 + (i : Int) = wk + ((i + 1 : Nat) : Int) by omega] at i3⟩
def pk (l : List (Vf × Int)) : Int := peakR l 53 0 0
theorem pk_0 {l : List (Vf × Int)} (h : validP l) : 0 ≤ pk l := (peakR_valid h 53 0 0 (Int.le_refl _) (by omega)).1
theorem pk_ge {l : List (Vf × Int)} (h : validP l) (i : Nat) (hi : i < 53) : sumW l i ≤ pk l := by
  have := (peakR_valid h 53 0 0 (Int.le_refl _) (by omega)).2.1 i hi
  rwa [Int.zero_add] at this
theorem pk_le {l : List (Vf × Int)} (h : validP l) {c : Int} (h0 : 0 ≤ c) (hc : ∀ i : Nat, i < 53 → sumW l i ≤ c) : pk l ≤ c := by
  rcases (peakR_valid h 53 0 0 (Int.le_refl _) (by omega)).2.2 with e | ⟨i, hi, e⟩
  · unfold pk; omega
  · rw [Int.zero_add] at e
    have := hc i hi
    unfold pk; omega
theorem week_in (i : Nat) (h : i < 53) : inB (i : Int) 0 52 = true := (inB_iff _ _ _).2 ⟨by omega, by omega⟩
theorem validP_app {l m : List (Vf × Int)} (h : validP l) (h2 : validP m) : validP (l ++ m) := fun x hx => by
  rcases List.mem_append.1 hx with hx | hx
  · exact h x hx
  · exact h2 x hx
theorem pk_mono {l m : List (Vf × Int)} (h : validP l) (h2 : validP m) : pk l ≤ pk (l ++ m) :=
  pk_le h (pk_0 (validP_app h h2)) fun i hi => by
    have h3 := pk_ge (validP_app h h2) i hi
    rw [sumW_append] at h3
    have := sumW_0 h2 (week_in i hi)
    omega
theorem pk_add {l m : List (Vf × Int)} (h : validP l) (h2 : validP m) : pk (l ++ m) ≤ pk l + pk m :=
  pk_le (validP_app h h2) (by have := pk_0 h; have := pk_0 h2; omega) fun i hi => by
    have h3 := pk_ge h i hi
    have h4 := pk_ge h2 i hi
    rw [sumW_append]
    omega
/-! ### The draws are valid -/
theorem okWs_field {a : Int} {ws : List Int} (h : okWs a ws) : fieldB a ws = true := by
  obtain ⟨⟨a0, a1⟩, ⟨l0, l1⟩, hy⟩ := h
  unfold fieldB
  simp only [Bool.and_eq_true, inB_iff, allB_iff]
  exact ⟨⟨⟨by omega, by omega⟩, ⟨by omega, by omega⟩⟩, fun x hx => by have := hy x hx; omega⟩
theorem plan_valid {fs : List Fd} {ss : List Int} (h : okAll fs ss) : validP (planZ (vals fs) ss) := by
  intro x hx
  obtain ⟨h1, h2, h3, h4⟩ := h
  have hm := List.of_mem_zip (show (x.1, x.2) ∈ (vals fs).zip ss from hx)
  obtain ⟨f, hf, e⟩ := List.mem_map.1 hm.1
  have hw := okWs_field (h3 f hf)
  have hs := h4 _ hm.2
  refine ⟨?_, (inB_iff _ _ _).2 ⟨by omega, by omega⟩⟩
  rw [← e]
  exact hw
theorem peak_pk {fs : List Fd} {ss : List Int} (h : okAll fs ss) : peakZ (vals fs) ss = pk (planZ (vals fs) ss) := peak_go (by have := h.1; simp; omega) (by rw [vals_length]; exact h.2.1)
theorem one_valid {f : Vf} (hf : fieldB f.1 f.2 = true) {x : Int} (hx : inB x 0 52 = true) : validP [(f, x)] := fun y hy => by
  rw [List.mem_singleton] at hy; subst hy; exact ⟨hf, hx⟩
theorem try_pk {fs : List Fd} {ss : List Int} (h : okAll fs ss) (f : Vf) (x : Int) : tryZ (vals fs) ss f x = pk (planZ (vals fs) ss ++ [(f, x)]) := by
  unfold tryZ
  rw [peak_go (by have := h.1; simp; omega) (by have := h.2.1; simp; omega)]
  have e : planZ (vals fs ++ [f]) (ss ++ [x]) = planZ (vals fs) ss ++ [(f, x)] := by
    unfold planZ
    rw [List.zip_append (by rw [vals_length]; exact h.2.1.symm)]
    rfl
  rw [e]
  rfl
/-! ### The best start -/
theorem bestR_min {p : Int → Int} : ∀ (n : Nat) (s best : Int), (∀ x, 0 ≤ x → x < s + n → 0 ≤ p x) → 0 ≤ best → best < s → (∀ x, 0 ≤ x → x < s → p best ≤ p x) → (∀ x, 0 ≤ x → x < best → p best < p x) →
    ∃ r, bestR p n s best (p best) = r ∧ 0 ≤ r ∧ r < s + n ∧ (∀ x, 0 ≤ x → x < s + n → p r ≤ p x) ∧ ∀ x, 0 ≤ x → x < r → p r < p x := by
  intro n
  induction n with
  | zero => intro s best _ h1 h2 h3 h4; exact ⟨best, rfl, h1, by omega, fun x x0 x1 => h3 x x0 (by omega), h4⟩
  | succ n ih =>
    intro s best h0 h1 h2 h3 h4
    have hp : ¬ p s < 0 := by have := h0 s (by omega) (by omega); omega
    have h0' : ∀ x, 0 ≤ x → x < s + 1 + n → 0 ≤ p x := fun x x0 x1 => h0 x x0 (by omega)
    by_cases hn : p s < p best
    · rw [bestR_new rfl hp (.inr hn)]
      obtain ⟨r, e, r0, r1, r2, r3⟩ := ih (s + 1) s h0' (by omega) (by omega) (fun x x0 x1 => by
        by_cases hx : x = s
        · subst hx; exact Int.le_refl _
        · have := h3 x x0 (by omega); omega) (fun x x0 x1 => by have := h3 x x0 x1; omega)
      exact ⟨r, e, r0, by omega, fun x x0 x1 => r2 x x0 (by omega), r3⟩
    · rw [bestR_keep rfl hp (by omega) hn]
      obtain ⟨r, e, r0, r1, r2, r3⟩ := ih (s + 1) best h0' h1 (by omega) (fun x x0 x1 => by
        by_cases hx : x = s
        · subst hx; omega
        · exact h3 x x0 (by omega)) h4
      exact ⟨r, e, r0, by omega, fun x x0 x1 => r2 x x0 (by omega), r3⟩
/-- All that the law asks of the starts. -/
theorem law_best {fs : List Fd} {ss : List Int} {a : Int} {ws : List Int} (h : okAll fs ss) (hw : okWs a ws) :
    0 ≤ peakZ (vals fs) ss ∧ ∃ b, bestZ (vals fs) ss (a, ws) 20 = b ∧ 0 ≤ b ∧ b ≤ 20 ∧ (∀ x, 0 ≤ x → x ≤ 20 → tryZ (vals fs) ss (a, ws) b ≤ tryZ (vals fs) ss (a, ws) x ∧ peakZ (vals fs) ss ≤ tryZ (vals fs) ss (a, ws) x ∧ (x < b → tryZ (vals fs) ss (a, ws) b < tryZ (vals fs) ss (a, ws) x)) ∧
      tryZ (vals fs) ss (a, ws) b ≤ peakZ (vals fs) ss + peakZ [(a, ws)] [0] := by
  have hv := plan_valid h
  have hf := okWs_field hw
  have h1 : ∀ x, 0 ≤ x → x < 21 → validP [((a, ws), x)] := fun x x0 x1 => one_valid hf ((inB_iff _ _ _).2 ⟨x0, by omega⟩)
  have hp0 : ∀ x, 0 ≤ x → x < 21 → 0 ≤ tryZ (vals fs) ss (a, ws) x := fun x x0 x1 => by rw [try_pk h]; exact pk_0 (validP_app hv (h1 x x0 x1))
  have e0 : bestZ (vals fs) ss (a, ws) 20 = bestR (tryZ (vals fs) ss (a, ws)) 20 1 0 (tryZ (vals fs) ss (a, ws) 0) := by
    rw [best_go (by rfl)]
    show bestR _ (20 + 1) 0 (-1) 0 = _
    rw [bestR_new rfl (by have := hp0 0 (by omega) (by omega); omega) (.inl (by omega))]
    rfl
  obtain ⟨b, e, b0, b1, b2, b3⟩ := bestR_min (p := tryZ (vals fs) ss (a, ws)) 20 1 0 (fun x x0 x1 => hp0 x x0 (by omega)) (Int.le_refl _) (by omega) (fun x x0 x1 => by
    obtain rfl : x = 0 := by omega
    exact Int.le_refl _) (fun x x0 x1 => by omega)
  refine ⟨by rw [peak_pk h]; exact pk_0 hv, b, by rw [e0]; exact e, b0, by omega, fun x x0 x1 => ⟨b2 x x0 (by omega), ?_, fun hx => b3 x x0 hx⟩, ?_⟩
  · rw [peak_pk h, try_pk h]; exact pk_mono hv (h1 x x0 (by omega))
  · have h2 := b2 0 (by omega) (by omega)
    have h3 : tryZ (vals fs) ss (a, ws) 0 ≤ peakZ (vals fs) ss + peakZ [(a, ws)] [0] := by
      rw [try_pk h, peak_pk h]
      exact pk_add hv (h1 0 (by omega) (by omega))
    omega
/-! ### The season -/
def needSum (a : Int) (ws : List Int) : Nat → Int
  | 0 => 0
  | n + 1 => needSum a ws n + needZ a ws 4 n
theorem needSum_b (a : Int) (ws : List Int) (h : fieldB a ws = true) : ∀ n : Nat, n ≤ 53 → 0 ≤ needSum a ws n ∧ needSum a ws n ≤ 100000 * (n : Int) := by
  intro n
  induction n with
  | zero => intro _; exact ⟨Int.le_refl _, by show (0 : Int) ≤ _; omega⟩
  | succ n ih =>
    intro hn
    obtain ⟨i0, i1⟩ := ih (by omega)
    have h0 := needZ_ok h (show inB 4 0 52 = true from rfl) (week_in n (by omega))
    have h1 := (needZ_b a ws 4 n).2
    show 0 ≤ needSum a ws n + needZ a ws 4 n ∧ needSum a ws n + needZ a ws 4 n ≤ _
    omega
theorem sumI_take {ws : List Int} {n : Nat} {x : Int} (h : ws[n]? = some x) : sumI (ws.take (n + 1)) = sumI (ws.take n) + x := by
  induction ws generalizing n with
  | nil => simp at h
  | cons y t ih =>
    cases n with
    | zero => simp at h; subst h; simp [sumI]
    | succ n =>
      simp only [List.getElem?_cons_succ] at h
      show y + sumI (t.take (n + 1)) = y + sumI (t.take n) + x
      rw [ih h]
      omega
theorem needSum_eq {a : Int} {ws : List Int} (h : fieldB a ws = true) : ∀ n : Nat, n + 4 ≤ 53 → needSum a ws (n + 4) = a * sumI (ws.take n) := by
  have hs : inB 4 0 52 = true := rfl
  have hlen := (field_b h).2.1
  intro n
  induction n with
  | zero =>
    intro _
    have e : ∀ i : Nat, i < 4 → needZ a ws 4 i = 0 := fun i hi => need_out h hs (week_in i (by omega)) ((inB_not _ _ _).2 (.inl (by omega)))
    show 0 + needZ a ws 4 (0 : Nat) + needZ a ws 4 (1 : Nat) + needZ a ws 4 (2 : Nat) + needZ a ws 4 (3 : Nat) = a * sumI (ws.take 0)
    rw [e 0 (by omega), e 1 (by omega), e 2 (by omega), e 3 (by omega)]
    simp [sumI]
  | succ n ih =>
    intro hn
    have e1 : needSum a ws (n + 1 + 4) = needSum a ws (n + 4) + needZ a ws 4 ((n + 4 : Nat) : Int) := by rw [show n + 1 + 4 = (n + 4) + 1 by omega]; rfl
    rw [e1, ih (by omega)]
    by_cases hlt : n < ws.length
    · have hx := List.getElem?_eq_getElem hlt
      rw [sumI_take hx, need_in h hs (week_in (n + 4) (by omega)) ((inB_iff _ _ _).2 ⟨by omega, by omega⟩) (n := n) (by omega) hx, Int.mul_add]
    · rw [List.take_of_length_le (show ws.length ≤ n + 1 by omega), List.take_of_length_le (show ws.length ≤ n by omega), need_out h hs (week_in (n + 4) (by omega)) ((inB_not _ _ _).2 (.inr (by omega)))]
      omega
theorem season {a : Int} {ws : List Int} (h : fieldB a ws = true) : needSum a ws 53 = seasZ a ws := by
  have e := needSum_eq h 49 (by omega)
  have hlen := (field_b h).2.1
  rw [List.take_of_length_le (by omega)] at e
  rw [seas_yes h]
  exact e
end Go.Proofs.Ytkbgifnmcklmiaa
