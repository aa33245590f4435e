/- JugSteps and the search, plainly: sorted lists without doubles, moves, the search by breadth, the way back. No program in sight. -/
import Derived.Test.YtdnknddldfihdaaBase
namespace Go.Proofs.Ytdnknddldfihdaa
set_option linter.unusedVariables false
set_option linter.unusedSimpArgs false
/-! ### The order on lists -/
def lessL : List Int → List Int → Bool
  | a :: ar, b :: br => if a == b then lessL ar br else decide (a < b)
  | _, _ => false
def sameL (a b : List Int) : Bool := !lessL a b && !lessL b a
theorem lessL_cons (a b : Int) (ar br : List Int) : lessL (a :: ar) (b :: br) = if a == b then lessL ar br else decide (a < b) := rfl
theorem lessL_irrefl : ∀ a, lessL a a = false
  | [] => rfl
  | a :: ar => by rw [lessL_cons, if_pos (by simp)]; exact lessL_irrefl ar
theorem lessL_asymm : ∀ a b, lessL a b = true → lessL b a = false
  | [], _, h => by simp [lessL] at h
  | _ :: _, [], h => by simp [lessL] at h
  | a :: ar, b :: br, h => by
    rw [lessL_cons] at h ⊢
    by_cases e : a = b
    · subst e; simp at h ⊢; exact lessL_asymm ar br h
    · have e' : ¬ b = a := fun h => e h.symm
      simp [e] at h
      simp [e']
      omega
theorem lessL_trans : ∀ a b c, lessL a b = true → lessL b c = true → lessL a c = true
  | [], _, _, h, _ => by simp [lessL] at h
  | _ :: _, [], _, h, _ => by simp [lessL] at h
  | _ :: _, _ :: _, [], _, h => by simp [lessL] at h
  | a :: ar, b :: br, c :: cr, h, h2 => by
    rw [lessL_cons] at h h2 ⊢
    by_cases e : a = b
    · subst e
      simp at h
      by_cases e2 : a = c
      · subst e2; simp at h2 ⊢; exact lessL_trans ar br cr h h2
      · simp [e2] at h2 ⊢; exact h2
    · simp [e] at h
      by_cases e2 : b = c
      · subst e2; simp [e]; exact h
      · simp [e2] at h2
        have : ¬ a = c := by omega
        simp [this]; omega
theorem lessL_tri : ∀ a b, a.length = b.length → lessL a b = true ∨ a = b ∨ lessL b a = true
  | [], [], _ => .inr (.inl rfl)
  | [], _ :: _, h => by simp at h
  | _ :: _, [], h => by simp at h
  | a :: ar, b :: br, h => by
    rw [lessL_cons, lessL_cons]
    by_cases e : a = b
    · subst e
      rcases lessL_tri ar br (by simpa using h) with h1 | h1 | h1
      · left; simpa using h1
      · right; left; rw [h1]
      · right; right; simpa using h1
    · have e' : ¬ b = a := fun h => e h.symm
      simp [e, e']
      omega
theorem sameL_iff {a b : List Int} (h : a.length = b.length) : sameL a b = (a == b) := by
  unfold sameL
  rcases lessL_tri a b h with h1 | h1 | h1
  · have hne : (a == b) = false := beq_eq_false_iff_ne.2 (fun e => by subst e; rw [lessL_irrefl] at h1; cases h1)
    rw [h1, hne]; rfl
  · subst h1; simp [lessL_irrefl]
  · have hne : (a == b) = false := beq_eq_false_iff_ne.2 (fun e => by subst e; rw [lessL_irrefl] at h1; cases h1)
    rw [h1, hne]; simp
/-- As slices.Compare says it. -/
def cmpL : List Int → List Int → Int
  | [], [] => 0
  | [], _ :: _ => -1
  | _ :: _, [] => 1
  | a :: ar, b :: br => if a < b then -1 else if b < a then 1 else cmpL ar br
theorem cmpL_less : ∀ a b : List Int, a.length = b.length → decide (cmpL a b < 0) = lessL a b
  | [], [], _ => rfl
  | [], _ :: _, h => by simp at h
  | _ :: _, [], h => by simp at h
  | a :: ar, b :: br, h => by
    have ih := cmpL_less ar br (by simpa using h)
    rw [lessL_cons, cmpL]
    by_cases h1 : a < b
    · have : ¬ a = b := by omega
      simp [h1, this]
    · by_cases h2 : b < a
      · have : ¬ a = b := by omega
        simp [h1, h2, this]
      · have : a = b := by omega
        subst this
        simp; simpa using ih
theorem cmpL_self : ∀ a, cmpL a a = 0
  | [] => rfl
  | a :: ar => by simp [cmpL, cmpL_self ar]
theorem cmpL_trans : ∀ a b c : List Int, cmpL a b < 0 → cmpL b c < 0 → cmpL a c < 0
  | [], [], _, h, _ => by simp [cmpL] at h
  | [], _ :: _, [], _, h => by simp [cmpL] at h
  | [], _ :: _, _ :: _, _, _ => by simp [cmpL]
  | _ :: _, [], _, h, _ => by simp [cmpL] at h
  | _ :: _, _ :: _, [], _, h => by simp [cmpL] at h
  | a :: ar, b :: br, c :: cr, h, h2 => by
    rw [cmpL] at h h2 ⊢
    by_cases h3 : a < b
    · by_cases h4 : b < c
      · rw [if_pos (by omega)]; omega
      · by_cases h5 : c < b
        · rw [if_neg h4, if_pos h5] at h2; omega
        · rw [if_pos (by omega)]; omega
    · by_cases h6 : b < a
      · rw [if_neg h3, if_pos h6] at h; omega
      · rw [if_neg h3, if_neg h6] at h
        by_cases h4 : b < c
        · rw [if_pos (by omega)]; omega
        · by_cases h5 : c < b
          · rw [if_neg h4, if_pos h5] at h2; omega
          · rw [if_neg h4, if_neg h5] at h2
            rw [if_neg (by omega), if_neg (by omega)]
            exact cmpL_trans ar br cr h h2
theorem cmpL_ntrans : ∀ a b c : List Int, ¬ cmpL a b < 0 → ¬ cmpL b c < 0 → ¬ cmpL a c < 0
  | [], [], _, _, h2 => h2
  | [], _ :: _, _, h, _ => by simp [cmpL] at h
  | _ :: _, _, [], _, _ => by simp [cmpL]
  | _ :: _, [], _ :: _, _, h => by simp [cmpL] at h
  | a :: ar, b :: br, c :: cr, h, h2 => by
    rw [cmpL] at h h2 ⊢
    by_cases h3 : a < b
    · rw [if_pos h3] at h; omega
    · by_cases h4 : b < c
      · rw [if_pos h4] at h2; omega
      · rw [if_neg (by omega)]
        by_cases h5 : c < a
        · rw [if_pos h5]; omega
        · rw [if_neg h3, if_neg (by omega)] at h
          rw [if_neg h4, if_neg (by omega)] at h2
          rw [if_neg h5]
          exact cmpL_ntrans ar br cr h h2

/-! ### Lists that are sorted, without doubles -/
theorem sorted_unique {α : Type} {R : α → α → Prop} (hR : ∀ a b, R a b → ¬ R b a) : ∀ l1 l2 : List α, l1.Pairwise R → l2.Pairwise R → (∀ x, x ∈ l1 ↔ x ∈ l2) → l1 = l2 := by
  have hir : ∀ a, ¬ R a a := fun a h => hR a a h h
  intro l1
  induction l1 with
  | nil =>
    intro l2 _ _ h
    cases l2 with
    | nil => rfl
    | cons b t => have := (h b).2 List.mem_cons_self; cases this
  | cons a t ih =>
    intro l2 h1 h2 h
    cases l2 with
    | nil => have := (h a).1 List.mem_cons_self; cases this
    | cons b u =>
      rw [List.pairwise_cons] at h1 h2
      have hab : a = b := by
        rcases List.mem_cons.1 ((h a).1 List.mem_cons_self) with e | e
        · exact e
        · rcases List.mem_cons.1 ((h b).2 List.mem_cons_self) with e2 | e2
          · exact e2.symm
          · exact absurd (h1.1 b e2) (hR _ _ (h2.1 a e))
      subst hab
      congr 1
      refine ih u h1.2 h2.2 fun x => ⟨fun hx => ?_, fun hx => ?_⟩
      · rcases List.mem_cons.1 ((h x).1 (List.mem_cons_of_mem _ hx)) with e | e
        · subst e; exact absurd (h1.1 x hx) (hir x)
        · exact e
      · rcases List.mem_cons.1 ((h x).2 (List.mem_cons_of_mem _ hx)) with e | e
        · subst e; exact absurd (h2.1 x hx) (hir x)
        · exact e
def LtL (a b : List Int) : Prop := lessL a b = true
theorem LtL.asymm (a b : List Int) (h : LtL a b) : ¬ LtL b a := by unfold LtL at *; rw [lessL_asymm a b h]; simp
/-- The list holds what D says, but s: sorted, no doubles. -/
def Acc (n : Nat) (D : List Int → Prop) (s : List Int) (out : List (List Int)) : Prop := out.Pairwise LtL ∧ (∀ y, y ∈ out ↔ (y ≠ s ∧ D y)) ∧ ∀ y ∈ out, y.length = n
section
variable {n : Nat} {D : List Int → Prop} {s x : List Int} {out : List (List Int)}
theorem Acc.nil : Acc n (fun _ => False) s [] := ⟨.nil, by simp, by simp⟩
theorem Acc.congr {D' : List Int → Prop} (h : Acc n D s out) (e : ∀ y, D y ↔ D' y) : Acc n D' s out := ⟨h.1, fun y => by rw [h.2.1 y, e y], h.2.2⟩
theorem Acc.self (h : Acc n D s out) (e : x = s) : Acc n (fun y => D y ∨ y = x) s out :=
  ⟨h.1, fun y => by
    rw [h.2.1 y]
    constructor
    · rintro ⟨h1, h2⟩; exact ⟨h1, .inl h2⟩
    · rintro ⟨h1, h2 | h2⟩
      · exact ⟨h1, h2⟩
      · subst e; exact absurd h2 h1, h.2.2⟩
theorem Acc.same (h : Acc n D s out) (e : x ∈ out) : Acc n (fun y => D y ∨ y = x) s out :=
  ⟨h.1, fun y => by
    constructor
    · intro hy; exact ⟨((h.2.1 y).1 hy).1, .inl ((h.2.1 y).1 hy).2⟩
    · rintro ⟨h1, h2 | h2⟩
      · exact (h.2.1 y).2 ⟨h1, h2⟩
      · subst h2; exact e, h.2.2⟩
theorem Acc.ins (h : Acc n D s out) (hx : x.length = n) (hs : x ≠ s) {k : Nat} (hk : k ≤ out.length) (hlt : ∀ y ∈ out.take k, lessL y x = true) (hat : k = out.length ∨ ∃ y, out[k]? = some y ∧ lessL y x = false ∧ y ≠ x) :
    Acc n (fun y => D y ∨ y = x) s (out.take k ++ x :: out.drop k) := by
  obtain ⟨h1, h2, h3⟩ := h
  have hdrop : ∀ y ∈ out.drop k, LtL x y := by
    rcases hat with hk2 | ⟨y0, hy0, hl, hne⟩
    · intro y hy; rw [hk2, List.drop_length] at hy; cases hy
    · have hy0m : y0 ∈ out := List.mem_of_getElem? hy0
      have hxy : LtL x y0 := by
        rcases lessL_tri x y0 (by rw [hx, h3 y0 hy0m]) with h | h | h
        · exact h
        · exact absurd h.symm hne
        · rw [hl] at h; cases h
      obtain ⟨hkl, hke⟩ := List.getElem?_eq_some_iff.1 hy0
      intro y hy
      rw [List.drop_eq_getElem_cons hkl, hke] at hy
      rcases List.mem_cons.1 hy with e | e
      · rw [e]; exact hxy
      · have hp : (out.drop k).Pairwise LtL := h1.sublist (List.drop_sublist _ _)
        rw [List.drop_eq_getElem_cons hkl, hke, List.pairwise_cons] at hp
        exact lessL_trans _ _ _ hxy (hp.1 y e)
  refine ⟨?_, fun y => ?_, fun y hy => ?_⟩
  · rw [List.pairwise_append, List.pairwise_cons]
    refine ⟨h1.sublist (List.take_sublist _ _), ⟨hdrop, h1.sublist (List.drop_sublist _ _)⟩, fun a ha b hb => ?_⟩
    rcases List.mem_cons.1 hb with e | e
    · rw [e]; exact hlt a ha
    · exact lessL_trans _ _ _ (hlt a ha) (hdrop b e)
  · have hm : y ∈ out ↔ y ∈ out.take k ∨ y ∈ out.drop k := by rw [← List.mem_append, List.take_append_drop]
    rw [List.mem_append, List.mem_cons]
    constructor
    · rintro (h | h | h)
      · have := (h2 y).1 (hm.2 (.inl h)); exact ⟨this.1, .inl this.2⟩
      · subst h; exact ⟨hs, .inr rfl⟩
      · have := (h2 y).1 (hm.2 (.inr h)); exact ⟨this.1, .inl this.2⟩
    · rintro ⟨h4, h | h⟩
      · rcases hm.1 ((h2 y).2 ⟨h4, h⟩) with h | h
        · exact .inl h
        · exact .inr (.inr h)
      · exact .inr (.inl h)
  · rw [List.mem_append, List.mem_cons] at hy
    rcases hy with h | h | h
    · exact h3 y (List.mem_of_mem_take h)
    · rw [h, hx]
    · exact h3 y (List.mem_of_mem_drop h)
theorem Acc.unique {out' : List (List Int)} (h : Acc n D s out) (h' : Acc n D s out') : out = out' :=
  sorted_unique LtL.asymm _ _ h.1 h'.1 fun y => by rw [h.2.1, h'.2.1]
end
/-! ### Moves -/
def at0 (xs : List Int) (k : Nat) : Int := xs.getD k 0
def pourL (J s : List Int) (a b : Nat) : List Int := (s.set a (at0 s a - min (at0 s a) (at0 J b - at0 s b))).set b (at0 s b + min (at0 s a) (at0 J b - at0 s b))
/-- Place 0 is the spring, place k + 1 jug k. -/
def mvL (J s : List Int) : Nat → Nat → List Int
  | 0, 0 => s
  | 0, b + 1 => s.set b (at0 J b)
  | a + 1, 0 => s.set a 0
  | a + 1, b + 1 => pourL J s a b
def movesL (J s : List Int) : List (List Int) := (List.range (J.length + 1)).flatMap fun p => ((List.range (J.length + 1)).filter fun q => !(p == q)).map (mvL J s p)
theorem mem_moves {J s y : List Int} : y ∈ movesL J s ↔ ∃ p q, p ≤ J.length ∧ q ≤ J.length ∧ p ≠ q ∧ y = mvL J s p q := by
  unfold movesL
  simp only [List.mem_flatMap, List.mem_map, List.mem_filter, List.mem_range, Bool.not_eq_true', beq_eq_false_iff_ne]
  constructor
  · rintro ⟨p, hp, q, ⟨hq, hne⟩, e⟩; exact ⟨p, q, by omega, by omega, hne, e.symm⟩
  · rintro ⟨p, q, hp, hq, hne, e⟩; exact ⟨p, by omega, q, ⟨by omega, hne⟩, e.symm⟩
theorem mvL_length (J s : List Int) (p q : Nat) : (mvL J s p q).length = s.length := by
  rcases p with _ | p <;> rcases q with _ | q <;> simp [mvL, pourL]
def insL (x : List Int) : List (List Int) → List (List Int)
  | [] => [x]
  | a :: t => if lessL a x then a :: insL x t else if a == x then a :: t else x :: a :: t
def stepsL (J s : List Int) : List (List Int) := (movesL J s).foldl (fun out x => if x == s then out else insL x out) []
theorem insL_cut (x : List Int) : ∀ out : List (List Int), ∃ k, k ≤ out.length ∧ (∀ y ∈ out.take k, lessL y x = true) ∧ ((insL x out = out ∧ x ∈ out) ∨ (insL x out = out.take k ++ x :: out.drop k ∧ (k = out.length ∨ ∃ y, out[k]? = some y ∧ lessL y x = false ∧ y ≠ x)))
  | [] => ⟨0, by simp, by simp, .inr ⟨by simp [insL], .inl rfl⟩⟩
  | a :: t => by
    by_cases h1 : lessL a x = true
    · obtain ⟨k, hk, hlt, h⟩ := insL_cut x t
      refine ⟨k + 1, by simp; omega, ?_, ?_⟩
      · intro y hy
        rw [List.take_succ_cons] at hy
        rcases List.mem_cons.1 hy with e | e
        · rw [e]; exact h1
        · exact hlt y e
      · rcases h with ⟨e, hm⟩ | ⟨e, h⟩
        · left; exact ⟨by simp [insL, h1, e], List.mem_cons_of_mem _ hm⟩
        · right
          refine ⟨by simp [insL, h1, e], ?_⟩
          rcases h with h | ⟨y, hy, h⟩
          · left; simp [h]
          · right; exact ⟨y, by simpa using hy, h⟩
    · refine ⟨0, by simp, by simp, ?_⟩
      by_cases h2 : a = x
      · left; subst h2; exact ⟨by simp [insL, h1], by simp⟩
      · right; exact ⟨by simp [insL, h1, h2], .inr ⟨a, by simp, by simpa using h1, h2⟩⟩
theorem Acc.insL {n : Nat} {D : List Int → Prop} {s x : List Int} {out : List (List Int)} (h : Acc n D s out) (hx : x.length = n) (hs : x ≠ s) : Acc n (fun y => D y ∨ y = x) s (Go.Proofs.Ytdnknddldfihdaa.insL x out) := by
  obtain ⟨k, hk, hlt, ⟨e, hm⟩ | ⟨e, hat⟩⟩ := insL_cut x out
  · rw [e]; exact h.same hm
  · rw [e]; exact h.ins hx hs hk hlt hat
theorem acc_fold {n : Nat} {s : List Int} : ∀ (l : List (List Int)) (D : List Int → Prop) (out : List (List Int)), (∀ y ∈ l, y.length = n) → Acc n D s out → Acc n (fun y => D y ∨ y ∈ l) s (l.foldl (fun out x => if x == s then out else insL x out) out)
  | [], D, out, _, h => h.congr (by simp)
  | x :: l, D, out, hl, h => by
    rw [List.foldl_cons]
    have hx := hl x List.mem_cons_self
    have : Acc n (fun y => D y ∨ y = x) s (if x == s then out else insL x out) := by
      by_cases e : x = s
      · rw [if_pos (by simpa using e)]; exact h.self e
      · rw [if_neg (by simpa using e)]; exact h.insL hx e
    exact (acc_fold l _ _ (fun y hy => hl y (List.mem_cons_of_mem _ hy)) this).congr (fun y => by rw [List.mem_cons, or_assoc])
theorem acc_steps {J s : List Int} : Acc s.length (fun y => y ∈ movesL J s) s (stepsL J s) :=
  (acc_fold (movesL J s) _ [] (fun y hy => by obtain ⟨p, q, _, _, _, e⟩ := mem_moves.1 hy; rw [e, mvL_length]) Acc.nil).congr (by simp)
theorem steps_eq {J s : List Int} {out : List (List Int)} (h : Acc s.length (fun y => y ∈ movesL J s) s out) : out = stepsL J s := h.unique acc_steps
theorem mem_steps {J s y : List Int} : y ∈ stepsL J s ↔ y ≠ s ∧ y ∈ movesL J s := acc_steps.2.1 y
/-- The same list in another order, sorted. -/
def AccU (n : Nat) (D : List Int → Prop) (s : List Int) (out : List (List Int)) : Prop := out.Nodup ∧ (∀ y, y ∈ out ↔ (y ≠ s ∧ D y)) ∧ ∀ y ∈ out, y.length = n
section
variable {n : Nat} {D : List Int → Prop} {s x : List Int} {out : List (List Int)}
theorem AccU.nil : AccU n (fun _ => False) s [] := ⟨.nil, by simp, by simp⟩
theorem AccU.congr {D' : List Int → Prop} (h : AccU n D s out) (e : ∀ y, D y ↔ D' y) : AccU n D' s out := ⟨h.1, fun y => by rw [h.2.1 y, e y], h.2.2⟩
def putL (s x : List Int) (out : List (List Int)) : List (List Int) := if x == s || out.contains x then out else out ++ [x]
theorem AccU.put (h : AccU n D s out) (hx : x.length = n) : AccU n (fun y => D y ∨ y = x) s (putL s x out) := by
  obtain ⟨h1, h2, h3⟩ := h
  unfold putL
  by_cases e : x = s
  · rw [if_pos (by simp [e])]
    exact ⟨h1, fun y => by
      rw [h2 y]
      constructor
      · rintro ⟨a, b⟩; exact ⟨a, .inl b⟩
      · rintro ⟨a, b | b⟩
        · exact ⟨a, b⟩
        · subst e; exact absurd b a, h3⟩
  · by_cases hm : x ∈ out
    · rw [if_pos (by simp [hm])]
      exact ⟨h1, fun y => by
        constructor
        · intro hy; exact ⟨((h2 y).1 hy).1, .inl ((h2 y).1 hy).2⟩
        · rintro ⟨a, b | b⟩
          · exact (h2 y).2 ⟨a, b⟩
          · subst b; exact hm, h3⟩
    · rw [if_neg (by simp [hm, e])]
      refine ⟨?_, fun y => ?_, fun y hy => ?_⟩
      · rw [List.nodup_append]
        exact ⟨h1, by simp, fun a ha b hb e2 => by simp at hb; subst hb; subst e2; exact hm ha⟩
      · rw [List.mem_append, List.mem_singleton, h2 y]
        constructor
        · rintro (⟨a, b⟩ | b)
          · exact ⟨a, .inl b⟩
          · subst b; exact ⟨e, .inr rfl⟩
        · rintro ⟨a, b | b⟩
          · exact .inl ⟨a, b⟩
          · exact .inr b
      · rcases List.mem_append.1 hy with h | h
        · exact h3 y h
        · rw [List.mem_singleton.1 h, hx]
theorem putL_len : (putL s x out).length ≤ out.length + 1 := by
  unfold putL
  split
  · omega
  · simp
theorem AccU.sorted (h : AccU n D s out) {out' : List (List Int)} (hp : out'.Perm out) (hs : out'.Pairwise fun a b => ¬ cmpL b a < 0) : Acc n D s out' := by
  obtain ⟨h1, h2, h3⟩ := h
  have hl : ∀ y ∈ out', y.length = n := fun y hy => h3 y (hp.mem_iff.1 hy)
  refine ⟨?_, fun y => by rw [hp.mem_iff]; exact h2 y, hl⟩
  have hn : out'.Nodup := hp.nodup_iff.2 h1
  have hb : out'.Pairwise fun a b => a ≠ b ∧ ¬ cmpL b a < 0 := hn.and hs
  refine List.Pairwise.imp_of_mem (fun {a b} ha hb' h => ?_) hb
  rcases lessL_tri a b (by rw [hl a ha, hl b hb']) with h4 | h4 | h4
  · exact h4
  · exact absurd h4 h.1
  · exact absurd (of_decide_eq_true ((cmpL_less b a (by rw [hl a ha, hl b hb'])).trans h4)) h.2
end
theorem at0_set (xs : List Int) (i : Nat) (v : Int) (k : Nat) : at0 (xs.set i v) k = if i = k ∧ k < xs.length then v else at0 xs k := by
  unfold at0
  rw [List.getD_eq_getElem?_getD, List.getD_eq_getElem?_getD, List.getElem?_set]
  by_cases h : i = k
  · subst h
    by_cases h2 : i < xs.length
    · simp [h2]
    · simp [h2]
  · simp [h]
def OkS (J s : List Int) : Prop := s.length = J.length ∧ ∀ k, k < J.length → 0 ≤ at0 s k ∧ at0 s k ≤ at0 J k
theorem okS_set {J s : List Int} (h : OkS J s) (i : Nat) (v : Int) (hv : i < J.length → 0 ≤ v ∧ v ≤ at0 J i) : OkS J (s.set i v) := by
  refine ⟨by simpa using h.1, fun k hk => ?_⟩
  rw [at0_set]
  split
  · rename_i e; obtain ⟨rfl, _⟩ := e; exact hv hk
  · exact h.2 k hk
theorem okS_mv {J s : List Int} (hJ : ∀ k, k < J.length → 0 ≤ at0 J k) (h : OkS J s) {p q : Nat} (hp : p ≤ J.length) (hq : q ≤ J.length) (hne : p ≠ q) : OkS J (mvL J s p q) := by
  rcases p with _ | p
  · rcases q with _ | q
    · exact h
    · exact okS_set h q _ (fun hk => ⟨hJ q hk, by omega⟩)
  · rcases q with _ | q
    · exact okS_set h p _ (fun hk => ⟨by omega, hJ p hk⟩)
    · have h1 := h.2 p (by omega)
      have h2 := h.2 q (by omega)
      exact okS_set (okS_set h p _ (fun _ => by omega)) q _ (fun _ => by omega)
theorem okS_steps {J s : List Int} (hJ : ∀ k, k < J.length → 0 ≤ at0 J k) (h : OkS J s) : ∀ y ∈ stepsL J s, OkS J y := by
  intro y hy
  obtain ⟨p, q, hp, hq, hne, e⟩ := mem_moves.1 (mem_steps.1 hy).2
  rw [e]; exact okS_mv hJ h hp hq hne
/-- One number for each state. -/
def codeL (s : List Int) : Int := s.foldl (fun n x => 13 * n + x) 0
theorem code_bound : ∀ (s : List Int) (n0 : Int) (m : Nat), (∀ x ∈ s, 0 ≤ x ∧ x ≤ 12) → 0 ≤ n0 → n0 < (13 : Int) ^ m → 0 ≤ s.foldl (fun n x => 13 * n + x) n0 ∧ s.foldl (fun n x => 13 * n + x) n0 < (13 : Int) ^ (m + s.length)
  | [], n0, m, _, h0, h1 => ⟨h0, h1⟩
  | x :: s, n0, m, hx, h0, h1 => by
    have hx0 := hx x List.mem_cons_self
    have hp : (13 : Int) ^ (m + 1) = 13 * 13 ^ m := by rw [Int.pow_succ, Int.mul_comm]
    have := code_bound s (13 * n0 + x) (m + 1) (fun y hy => hx y (List.mem_cons_of_mem _ hy)) (by omega) (by rw [hp]; omega)
    rw [List.foldl_cons, List.length_cons, show m + (s.length + 1) = m + 1 + s.length by omega]
    exact this
theorem code_inj : ∀ (a b : List Int) (n0 n1 : Int), a.length = b.length → (∀ x ∈ a, 0 ≤ x ∧ x ≤ 12) → (∀ x ∈ b, 0 ≤ x ∧ x ≤ 12) → a.foldl (fun n x => 13 * n + x) n0 = b.foldl (fun n x => 13 * n + x) n1 → n0 = n1 ∧ a = b
  | [], [], _, _, _, _, _, h => ⟨h, rfl⟩
  | [], _ :: _, _, _, h, _, _, _ => by simp at h
  | _ :: _, [], _, _, h, _, _, _ => by simp at h
  | x :: a, y :: b, n0, n1, hl, ha, hb, h => by
    rw [List.foldl_cons, List.foldl_cons] at h
    have hx := ha x List.mem_cons_self
    have hy := hb y List.mem_cons_self
    obtain ⟨e, e2⟩ := code_inj a b _ _ (by simpa using hl) (fun z hz => ha z (List.mem_cons_of_mem _ hz)) (fun z hz => hb z (List.mem_cons_of_mem _ hz)) h
    have h3 : n0 = n1 := by omega
    subst h3
    exact ⟨rfl, by rw [e2, show x = y by omega]⟩
theorem nodup_len : ∀ (n : Nat) (l : List Nat), l.Nodup → (∀ x ∈ l, x < n) → l.length ≤ n
  | 0, [], _, _ => Nat.le_refl _
  | 0, x :: l, _, h => absurd (h x List.mem_cons_self) (Nat.not_lt_zero _)
  | n + 1, l, hn, h => by
    have h1 := nodup_len n (l.filter fun x => !(x == n)) (hn.filter _) (fun x hx => by
      rw [List.mem_filter] at hx
      have := h x hx.1
      have h2 : x ≠ n := by simpa using hx.2
      omega)
    by_cases hm : n ∈ l
    · have h2 : l.Perm (n :: l.erase n) := List.perm_cons_erase hm
      have h3 : l.erase n = l.filter fun x => !(x == n) := by rw [hn.erase_eq_filter]; rfl
      have := h2.length_eq
      rw [List.length_cons, h3] at this
      omega
    · have h3 : (l.filter fun x => !(x == n)) = l := List.filter_eq_self.2 (fun x hx => by
        have : x ≠ n := fun e => hm (e ▸ hx)
        simpa using this)
      rw [h3] at h1
      omega
/-- Jugs ar the program takes them. -/
structure JOk (J : List Int) : Prop where
  l1 : 1 ≤ J.length
  l3 : J.length ≤ 3
  b : ∀ k, k < J.length → 1 ≤ at0 J k ∧ at0 J k ≤ 12
theorem at0_mem {s : List Int} {x : Int} (h : x ∈ s) : ∃ k, k < s.length ∧ at0 s k = x := by
  obtain ⟨k, hk, e⟩ := List.getElem_of_mem h
  exact ⟨k, hk, by unfold at0; simp [hk, e]⟩
theorem at0_in {s : List Int} {k : Nat} (h : k < s.length) : at0 s k ∈ s := by
  unfold at0; rw [List.getD_eq_getElem?_getD, List.getElem?_eq_getElem h]; exact List.getElem_mem h
theorem JOk.digits {J s : List Int} (hJ : JOk J) (h : OkS J s) : ∀ x ∈ s, 0 ≤ x ∧ x ≤ 12 := by
  intro x hx
  obtain ⟨k, hk, e⟩ := at0_mem hx
  have h1 := h.2 k (by rw [← h.1]; exact hk)
  have h2 := hJ.b k (by rw [← h.1]; exact hk)
  omega
theorem JOk.code {J s : List Int} (hJ : JOk J) (h : OkS J s) : 0 ≤ codeL s ∧ codeL s < 2197 := by
  have := code_bound s 0 0 (hJ.digits h) (by omega) (by decide)
  refine ⟨this.1, Int.lt_of_lt_of_le this.2 ?_⟩
  rw [Nat.zero_add, h.1]
  have h1 := hJ.l1
  have h3 := hJ.l3
  have : J.length = 1 ∨ J.length = 2 ∨ J.length = 3 := by omega
  rcases this with e | e | e <;> rw [e] <;> decide
theorem JOk.code_inj {J s t : List Int} (hJ : JOk J) (h : OkS J s) (h2 : OkS J t) (e : codeL s = codeL t) : s = t :=
  (Go.Proofs.Ytdnknddldfihdaa.code_inj s t 0 0 (by rw [h.1, h2.1]) (hJ.digits h) (hJ.digits h2) e).2
/-! ### The search -/
abbrev Sts : Type := List (List Int) × List Int
def addS (i : Nat) (P : Sts) (x : List Int) : Sts := if P.1.contains x then P else (P.1 ++ [x], P.2 ++ [(i : Int)])
def rnd (J : List Int) (P : Sts) (k : Nat) : Sts := (stepsL J (P.1.getD k [])).foldl (addS k) P
def bfs (J : List Int) : Nat → Sts
  | 0 => ([List.replicate J.length 0], [-1])
  | k + 1 => if k < (bfs J k).1.length then rnd J (bfs J k) k else bfs J k
theorem bfs_succ {J : List Int} {k : Nat} (h : k < (bfs J k).1.length) : bfs J (k + 1) = rnd J (bfs J k) k := by rw [bfs, if_pos h]
theorem bfs_stop {J : List Int} {k : Nat} (h : ¬ k < (bfs J k).1.length) : bfs J (k + 1) = bfs J k := by rw [bfs, if_neg h]
/-- What the search keeps. -/
structure BOk (J : List Int) (k : Nat) (P : Sts) : Prop where
  len : P.2.length = P.1.length
  pos : 1 ≤ P.1.length
  nod : P.1.Nodup
  ok : ∀ s ∈ P.1, OkS J s
  zero : P.1[0]? = some (List.replicate J.length 0)
  f0 : P.2[0]? = some (-1)
  fr : ∀ j, 1 ≤ j → j < P.1.length → ∃ (f : Nat) (x y : List Int), P.2[j]? = some (f : Int) ∧ f < j ∧ f < k ∧ P.1[j]? = some x ∧ P.1[f]? = some y ∧ x ∈ stepsL J y
theorem BOk.mono {J : List Int} {k m : Nat} {P : Sts} (h : BOk J k P) (hk : k ≤ m) : BOk J m P :=
  { h with fr := fun j h1 h2 => by obtain ⟨f, x, y, e1, e2, e3, e4, e5, e6⟩ := h.fr j h1 h2; exact ⟨f, x, y, e1, e2, by omega, e4, e5, e6⟩ }
theorem BOk.add {J : List Int} {k : Nat} {P : Sts} {x y : List Int} (h : BOk J (k + 1) P) (hy : P.1[k]? = some y) (hx : x ∈ stepsL J y) (hok : OkS J x) : BOk J (k + 1) (addS k P x) ∧ (addS k P x).1[k]? = some y := by
  unfold addS
  by_cases hm : x ∈ P.1
  · rw [if_pos (by simpa using hm)]; exact ⟨h, hy⟩
  · rw [if_neg (by simpa using hm)]
    have hkl := (List.getElem?_eq_some_iff.1 hy).1
    refine ⟨⟨by simp [h.len], by simp, ?_, ?_, ?_, ?_, ?_⟩, ?_⟩
    · rw [List.nodup_append]
      exact ⟨h.nod, by simp, fun a ha b hb e => by simp at hb; subst hb; subst e; exact hm ha⟩
    · intro s hs
      rcases List.mem_append.1 hs with h1 | h1
      · exact h.ok s h1
      · rw [List.mem_singleton.1 h1]; exact hok
    · show (P.1 ++ [x])[0]? = _
      rw [List.getElem?_append_left h.pos]; exact h.zero
    · show (P.2 ++ [(k : Int)])[0]? = _
      rw [List.getElem?_append_left (by rw [h.len]; exact h.pos)]; exact h.f0
    · intro j h1 h2
      simp only [List.length_append, List.length_singleton] at h2
      by_cases hj : j < P.1.length
      · obtain ⟨f, u, v, e1, e2, e3, e4, e5, e6⟩ := h.fr j h1 hj
        refine ⟨f, u, v, ?_, e2, e3, ?_, ?_, e6⟩
        · show (P.2 ++ [(k : Int)])[j]? = _
          rw [List.getElem?_append_left (by rw [h.len]; exact hj)]; exact e1
        · show (P.1 ++ [x])[j]? = _
          rw [List.getElem?_append_left hj]; exact e4
        · show (P.1 ++ [x])[f]? = _
          rw [List.getElem?_append_left (by omega)]; exact e5
      · obtain rfl : j = P.1.length := by omega
        refine ⟨k, x, y, ?_, by omega, by omega, ?_, ?_, hx⟩
        · show (P.2 ++ [(k : Int)])[P.1.length]? = _
          rw [← h.len, List.getElem?_append_right (Nat.le_refl _)]; simp
        · show (P.1 ++ [x])[P.1.length]? = _
          rw [List.getElem?_append_right (Nat.le_refl _)]; simp
        · show (P.1 ++ [x])[k]? = _
          rw [List.getElem?_append_left hkl]; exact hy
    · show (P.1 ++ [x])[k]? = _
      rw [List.getElem?_append_left hkl]; exact hy
theorem BOk.fold {J : List Int} {k : Nat} {y : List Int} : ∀ (l : List (List Int)) (P : Sts), BOk J (k + 1) P → P.1[k]? = some y → (∀ x ∈ l, x ∈ stepsL J y ∧ OkS J x) → BOk J (k + 1) (l.foldl (addS k) P) ∧ (l.foldl (addS k) P).1[k]? = some y
  | [], P, h, hy, _ => ⟨h, hy⟩
  | x :: l, P, h, hy, hl => by
    obtain ⟨h1, h2⟩ := hl x List.mem_cons_self
    obtain ⟨h3, h4⟩ := h.add hy h1 h2
    exact BOk.fold l _ h3 h4 (fun z hz => hl z (List.mem_cons_of_mem _ hz))
theorem okS_zero {J : List Int} (hJ : JOk J) : OkS J (List.replicate J.length 0) := by
  refine ⟨by simp, fun k hk => ?_⟩
  have h : at0 (List.replicate J.length 0) k = 0 := by
    unfold at0; simp [List.getD_eq_getElem?_getD, List.getElem?_replicate, hk]
  rw [h]
  have := hJ.b k hk
  omega
theorem bfs_ok {J : List Int} (hJ : JOk J) : ∀ k, BOk J k (bfs J k)
  | 0 => ⟨rfl, by simp [bfs], by simp [bfs], by
      intro s hs
      have : s = List.replicate J.length 0 := by simpa [bfs] using hs
      rw [this]; exact okS_zero hJ, rfl, rfl, fun j h1 h2 => by simp [bfs] at h2; omega⟩
  | k + 1 => by
    have ih := bfs_ok hJ k
    by_cases h : k < (bfs J k).1.length
    · rw [bfs_succ h]
      have hy : (bfs J k).1[k]? = some ((bfs J k).1.getD k []) := by rw [List.getD_eq_getElem?_getD, List.getElem?_eq_getElem h]; rfl
      have hoy := ih.ok _ (List.mem_of_getElem? hy)
      exact (BOk.fold _ _ (ih.mono (Nat.le_succ _)) hy (fun x hx => ⟨hx, okS_steps (fun k hk => by have := hJ.b k hk; omega) hoy x hx⟩)).1
    · rw [bfs_stop h]; exact ih.mono (Nat.le_succ _)
theorem BOk.len_le {J : List Int} (hJ : JOk J) {k : Nat} {P : Sts} (h : BOk J k P) : P.1.length ≤ 2197 := by
  have h1 := nodup_len 2197 (P.1.map fun s => (codeL s).toNat) (by
    rw [List.nodup_iff_pairwise_ne, List.pairwise_map]
    refine List.Pairwise.imp_of_mem (fun {a b} ha hb hne e => hne ?_) h.nod
    have ha' := hJ.code (h.ok a ha)
    have hb' := hJ.code (h.ok b hb)
    exact hJ.code_inj (h.ok a ha) (h.ok b hb) (by omega)) (fun x hx => by
      obtain ⟨s, hs, rfl⟩ := List.mem_map.1 hx
      have := hJ.code (h.ok s hs)
      omega)
  simpa using h1
theorem fold_prefix {k : Nat} : ∀ (l : List (List Int)) (P : Sts), P.1 <+: (l.foldl (addS k) P).1 ∧ P.2 <+: (l.foldl (addS k) P).2
  | [], P => ⟨List.prefix_refl _, List.prefix_refl _⟩
  | x :: l, P => by
    have h := fold_prefix l (addS k P x) (k := k)
    have h2 : P.1 <+: (addS k P x).1 ∧ P.2 <+: (addS k P x).2 := by
      unfold addS
      split
      · exact ⟨List.prefix_refl _, List.prefix_refl _⟩
      · exact ⟨List.prefix_append _ _, List.prefix_append _ _⟩
    exact ⟨h2.1.trans h.1, h2.2.trans h.2⟩
theorem bfs_prefix (J : List Int) (k : Nat) : ∀ m, (bfs J k).1 <+: (bfs J (k + m)).1 ∧ (bfs J k).2 <+: (bfs J (k + m)).2
  | 0 => ⟨List.prefix_refl _, List.prefix_refl _⟩
  | m + 1 => by
    obtain ⟨h1, h2⟩ := bfs_prefix J k m
    rw [show k + (m + 1) = k + m + 1 by omega]
    by_cases h : k + m < (bfs J (k + m)).1.length
    · rw [bfs_succ h]
      have := fold_prefix (k := k + m) (stepsL J ((bfs J (k + m)).1.getD (k + m) [])) (bfs J (k + m))
      exact ⟨h1.trans this.1, h2.trans this.2⟩
    · rw [bfs_stop h]; exact ⟨h1, h2⟩
def full (J : List Int) : Sts := bfs J 2197
theorem bfs_end {J : List Int} {k : Nat} (h : ¬ k < (bfs J k).1.length) : ∀ m, bfs J (k + m) = bfs J k
  | 0 => rfl
  | m + 1 => by
    have ih := bfs_end h m
    rw [show k + (m + 1) = k + m + 1 by omega, bfs_stop (by rw [ih]; omega), ih]
theorem bfs_full {J : List Int} (hJ : JOk J) {k : Nat} (h : ¬ k < (bfs J k).1.length) : bfs J k = full J := by
  unfold full
  rcases Nat.le_total k 2197 with hk | hk
  · obtain ⟨m, e⟩ := Nat.exists_eq_add_of_le hk
    rw [e, bfs_end h m]
  · obtain ⟨m, e⟩ := Nat.exists_eq_add_of_le hk
    have := (bfs_ok hJ 2197).len_le hJ
    rw [e, bfs_end (k := 2197) (by omega) m]
theorem full_ok {J : List Int} (hJ : JOk J) : BOk J 2197 (full J) := bfs_ok hJ 2197
theorem bfs_in_full {J : List Int} (hJ : JOk J) {k : Nat} (hk : k ≤ (bfs J k).1.length) : (bfs J k).1 <+: (full J).1 ∧ (bfs J k).2 <+: (full J).2 := by
  have h := (bfs_ok hJ k).len_le hJ
  obtain ⟨m, e⟩ := Nat.exists_eq_add_of_le (show k ≤ 2197 by omega)
  unfold full
  rw [e]
  exact bfs_prefix J k m
/-! ### The way back -/
def pathF (L : List (List Int)) (F : List Int) : Nat → Int → List (List Int)
  | 0, _ => []
  | f + 1, i => if i < 0 then [] else pathF L F f (F.getD i.toNat (-1)) ++ [L.getD i.toNat []]
def pathL (P : Sts) (i : Int) : List (List Int) := pathF P.1 P.2 (i.toNat + 1) i
theorem pathF_more (L : List (List Int)) (F : List Int) (hF : ∀ j : Nat, F.getD j (-1) < (j : Int)) : ∀ (f : Nat) (i : Int), i.toNat + 1 ≤ f → pathF L F f i = pathF L F (i.toNat + 1) i
  | 0, i, h => by omega
  | f + 1, i, h => by
    by_cases hi : i < 0
    · simp [pathF, hi]
    · obtain ⟨n, rfl⟩ := Int.eq_ofNat_of_zero_le (show 0 ≤ i by omega)
      simp only [Int.toNat_natCast] at h ⊢
      have hn := hF n
      rw [pathF, pathF, if_neg hi, if_neg hi, Int.toNat_natCast]
      congr 1
      by_cases hneg : F.getD n (-1) < 0
      · cases f with
        | zero => cases n with
          | zero => rfl
          | succ n => omega
        | succ f => cases n with
          | zero => simp only [pathF, if_pos hneg]
          | succ n => simp only [pathF, if_pos hneg]
      · obtain ⟨j, hj⟩ := Int.eq_ofNat_of_zero_le (show 0 ≤ F.getD n (-1) by omega)
        rw [hj] at hn ⊢
        have hjn : j < n := by omega
        rw [pathF_more L F hF f (j : Int) (by simp; omega), ]
        by_cases hjn2 : (j : Int).toNat + 1 = n
        · rw [hjn2]
        · have := pathF_more L F hF n (j : Int) (by simp; omega)
          rw [this]
  termination_by f => f
theorem BOk.desc {J : List Int} {k : Nat} {P : Sts} (h : BOk J k P) : ∀ j : Nat, P.2.getD j (-1) < (j : Int) := by
  intro j
  rw [List.getD_eq_getElem?_getD]
  by_cases hj : j < P.1.length
  · rcases j with _ | j
    · rw [h.f0]; decide
    · obtain ⟨f, x, y, e, e2, _⟩ := h.fr (j + 1) (by omega) hj
      rw [e]; show (f : Int) < _; omega
  · rw [List.getElem?_eq_none (by rw [h.len]; omega)]
    show (-1 : Int) < j
    omega
theorem path_neg (P : Sts) : pathL P (-1) = [] := rfl
theorem path_step {J : List Int} {k : Nat} {P : Sts} (h : BOk J k P) (i : Nat) : pathL P (i : Int) = pathL P (P.2.getD i (-1)) ++ [P.1.getD i []] := by
  unfold pathL
  rw [Int.toNat_natCast, pathF, if_neg (by omega), Int.toNat_natCast]
  congr 1
  have := h.desc i
  by_cases hneg : P.2.getD i (-1) < 0
  · cases i with
    | zero => simp only [pathF, if_pos hneg]
    | succ i => simp only [pathF, if_pos hneg]
  · exact pathF_more P.1 P.2 h.desc i _ (by omega)
theorem path_prefix {J : List Int} {k m : Nat} {P Q : Sts} (hP : BOk J k P) (hQ : BOk J m Q) (h1 : P.1 <+: Q.1) (h2 : P.2 <+: Q.2) : ∀ (n : Nat) (i : Nat), i ≤ n → i < P.1.length → pathL P (i : Int) = pathL Q (i : Int)
  | n, i, hn, hi => by
    rw [path_step hP i, path_step hQ i]
    have e1 : Q.1.getD i [] = P.1.getD i [] := by
      obtain ⟨t, ht⟩ := h1
      rw [← ht, List.getD_eq_getElem?_getD, List.getD_eq_getElem?_getD, List.getElem?_append_left hi]
    have e2 : Q.2.getD i (-1) = P.2.getD i (-1) := by
      obtain ⟨t, ht⟩ := h2
      rw [← ht, List.getD_eq_getElem?_getD, List.getD_eq_getElem?_getD, List.getElem?_append_left (by rw [hP.len]; exact hi)]
    rw [e1, e2]
    congr 1
    rcases i with _ | i
    · rw [List.getD_eq_getElem?_getD, hP.f0]; rfl
    · obtain ⟨f, x, y, e, hf, _, _, hy, _⟩ := hP.fr (i + 1) (by omega) hi
      rw [List.getD_eq_getElem?_getD, e]
      show pathL P (f : Int) = pathL Q (f : Int)
      cases n with
      | zero => omega
      | succ n => exact path_prefix hP hQ h1 h2 n f (by omega) (by omega)
  termination_by n => n
def hasL (s : List Int) (w : Int) : Bool := s.contains w
def stepsFor (J : List Int) (w : Int) : List (List Int) :=
  match (full J).1.findIdx? (fun s => hasL s w) with
  | some i => pathL (full J) (i : Int)
  | none => []
end Go.Proofs.Ytdnknddldfihdaa
