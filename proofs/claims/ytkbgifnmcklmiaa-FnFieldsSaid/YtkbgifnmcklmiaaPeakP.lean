/- The peak of a plan and the best start, plainly. -/
import Derived.Test.YtkbgifnmcklmiaaFlds
namespace Go.Proofs.Ytkbgifnmcklmiaa
open Go.ChangeShapes Go.WideShapes Go.ChangeAt Go.RowKit
set_option linter.unusedVariables false

abbrev Vf := Int × List Int
def needAt (x : Vf × Int) (wk : Int) : Int := needZ x.1.1 x.1.2 x.2 wk
theorem needAt_b (x : Vf × Int) (wk : Int) : -1 ≤ needAt x wk ∧ needAt x wk ≤ 100000 := needZ_b _ _ _ _
def weekZ : List (Vf × Int) → Int → Int → Int
  | [], _, acc => acc
  | x :: t, wk, acc => if needAt x wk < 0 then -1 else weekZ t wk (acc + needAt x wk)
theorem weekZ_no {x : Vf × Int} {t : List (Vf × Int)} {wk acc : Int} (h : needAt x wk < 0) : weekZ (x :: t) wk acc = -1 := if_pos h
theorem weekZ_go {x : Vf × Int} {t : List (Vf × Int)} {wk acc : Int} (h : ¬ needAt x wk < 0) : weekZ (x :: t) wk acc = weekZ t wk (acc + needAt x wk) := if_neg h
def peakR (l : List (Vf × Int)) : Nat → Int → Int → Int
  | 0, _, best => best
  | n + 1, wk, best => if weekZ l wk 0 < 0 then -1 else peakR l n (wk + 1) (if best < weekZ l wk 0 then weekZ l wk 0 else best)
theorem peakR_no {l : List (Vf × Int)} {n : Nat} {wk best : Int} (h : weekZ l wk 0 < 0) : peakR l (n + 1) wk best = -1 := if_pos h
theorem peakR_up {l : List (Vf × Int)} {n : Nat} {wk best v : Int} (e : weekZ l wk 0 = v) (h : ¬ v < 0) (hb : best < v) : peakR l (n + 1) wk best = peakR l n (wk + 1) v := by
  subst e
  show (if _ then _ else _) = _
  rw [if_neg h, if_pos hb]
theorem peakR_keep {l : List (Vf × Int)} {n : Nat} {wk best v : Int} (e : weekZ l wk 0 = v) (h : ¬ v < 0) (hb : ¬ best < v) : peakR l (n + 1) wk best = peakR l n (wk + 1) best := by
  subst e
  show (if _ then _ else _) = _
  rw [if_neg h, if_neg hb]
def planZ (vs : List Vf) (ss : List Int) : List (Vf × Int) := vs.zip ss
def peakZ (vs : List Vf) (ss : List Int) : Int := if vs.length ≤ 6 ∧ ss.length = vs.length then peakR (planZ vs ss) 53 0 0 else -1
theorem peak_no {vs : List Vf} {ss : List Int} (h : ¬ (vs.length ≤ 6 ∧ ss.length = vs.length)) : peakZ vs ss = -1 := if_neg h
theorem peak_go {vs : List Vf} {ss : List Int} (h : vs.length ≤ 6) (h2 : ss.length = vs.length) : peakZ vs ss = peakR (planZ vs ss) 53 0 0 := if_pos ⟨h, h2⟩
theorem plan_drop {vs : List Vf} {ss : List Int} {k : Nat} {v : Vf} {s : Int} (h : vs[k]? = some v) (h2 : ss[k]? = some s) : (planZ vs ss).drop k = (v, s) :: (planZ vs ss).drop (k + 1) := by
  have h3 : (planZ vs ss)[k]? = some (v, s) := by
    unfold planZ
    rw [List.getElem?_zip_eq_some]
    exact ⟨h, h2⟩
  have hl := (List.getElem?_eq_some_iff.1 h3).1
  rw [List.drop_eq_getElem_cons hl, (List.getElem?_eq_some_iff.1 h3).2]
theorem plan_end {vs : List Vf} {ss : List Int} {k : Nat} (h : ¬ k < vs.length) : (planZ vs ss).drop k = [] := by
  apply List.drop_of_length_le
  unfold planZ
  rw [List.length_zip]
  omega
theorem weekZ_b (l : List (Vf × Int)) : ∀ (wk acc : Int), 0 ≤ acc → weekZ l wk acc = -1 ∨ (acc ≤ weekZ l wk acc ∧ weekZ l wk acc ≤ acc + 100000 * (l.length : Int)) := by
  induction l with
  | nil => intro wk acc h; right; simp [weekZ]
  | cons x t ih =>
    intro wk acc h
    by_cases hn : needAt x wk < 0
    · left; exact weekZ_no hn
    · rw [weekZ_go hn]
      obtain ⟨b0, b1⟩ := needAt_b x wk
      rcases ih wk (acc + needAt x wk) (by omega) with e | ⟨e0, e1⟩
      · left; exact e
      · right
        refine ⟨by omega, ?_⟩
        have e : ((x :: t).length : Int) = (t.length : Int) + 1 := by simp
        rw [e]
        omega
theorem peakR_b (l : List (Vf × Int)) (hl : l.length ≤ 6) : ∀ (n : Nat) (wk best : Int), 0 ≤ best → best ≤ 600000 → -1 ≤ peakR l n wk best ∧ peakR l n wk best ≤ 600000 := by
  intro n
  induction n with
  | zero => intro wk best h h2; exact ⟨by show -1 ≤ best; omega, h2⟩
  | succ n ih =>
    intro wk best h h2
    by_cases hn : weekZ l wk 0 < 0
    · rw [peakR_no hn]; omega
    · rcases weekZ_b l wk 0 (Int.le_refl _) with e | ⟨e0, e1⟩
      · omega
      · by_cases hb : best < weekZ l wk 0
        · rw [peakR_up rfl hn hb]; exact ih _ _ (by omega) (by omega)
        · rw [peakR_keep rfl hn hb]; exact ih _ _ h h2
theorem peakZ_b (vs : List Vf) (ss : List Int) : -1 ≤ peakZ vs ss ∧ peakZ vs ss ≤ 600000 := by
  by_cases h : vs.length ≤ 6 ∧ ss.length = vs.length
  · rw [peak_go h.1 h.2]
    exact peakR_b _ (by unfold planZ; rw [List.length_zip]; omega) _ _ _ (Int.le_refl _) (by omega)
  · rw [peak_no h]; omega

/-! ### The best start -/
def tryZ (vs : List Vf) (ss : List Int) (f : Vf) (s : Int) : Int := peakZ (vs ++ [f]) (ss ++ [s])
def bestR (p : Int → Int) : Nat → Int → Int → Int → Int
  | 0, _, best, _ => best
  | n + 1, s, best, least => if p s < 0 then -1 else if best < 0 ∨ p s < least then bestR p n (s + 1) s (p s) else bestR p n (s + 1) best least
theorem bestR_no {p : Int → Int} {n : Nat} {s best least : Int} (h : p s < 0) : bestR p (n + 1) s best least = -1 := if_pos h
theorem bestR_new {p : Int → Int} {n : Nat} {s best least v : Int} (e : p s = v) (h : ¬ v < 0) (h2 : best < 0 ∨ v < least) : bestR p (n + 1) s best least = bestR p n (s + 1) s v := by
  subst e
  show (if _ then _ else _) = _
  rw [if_neg h, if_pos h2]
theorem bestR_keep {p : Int → Int} {n : Nat} {s best least v : Int} (e : p s = v) (h : ¬ v < 0) (h1 : ¬ best < 0) (h2 : ¬ v < least) : bestR p (n + 1) s best least = bestR p n (s + 1) best least := by
  subst e
  show (if _ then _ else _) = _
  rw [if_neg h, if_neg (by omega)]
theorem bestR_least (p : Int → Int) (n : Nat) (s a b : Int) : bestR p n s (-1) a = bestR p n s (-1) b := by
  cases n with
  | zero => rfl
  | succ n =>
    by_cases h : p s < 0
    · rw [bestR_no h, bestR_no h]
    · rw [bestR_new rfl h (.inl (by omega)), bestR_new rfl h (.inl (by omega))]
def bestZ (vs : List Vf) (ss : List Int) (f : Vf) (last : Int) : Int := if inB last 0 52 then bestR (tryZ vs ss f) (last.toNat + 1) 0 (-1) 0 else -1
theorem best_no {vs : List Vf} {ss : List Int} {f : Vf} {last : Int} (h : inB last 0 52 = false) : bestZ vs ss f last = -1 := by
  unfold bestZ; rw [h]; rfl
theorem best_go {vs : List Vf} {ss : List Int} {f : Vf} {last : Int} (h : inB last 0 52 = true) : bestZ vs ss f last = bestR (tryZ vs ss f) (last.toNat + 1) 0 (-1) 0 := by
  unfold bestZ; rw [h]; rfl
end Go.Proofs.Ytkbgifnmcklmiaa
