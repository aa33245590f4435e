/- Slices of structs of two or three ints: they read as a flat list of ints. A test at every index. -/
import Derived.Test.YtifljdnlaginfaaMem2
namespace Go.Proofs.Ytifljdnlaginfaa
open Go.ChangeShapes Go.WideShapes Go.ChangeAt Go.RowKit
set_option linter.unusedVariables false

/-! ### A test at every index -/
def allAt (f : Nat → Bool) : Nat → Bool
  | 0 => true
  | n + 1 => allAt f n && f n
theorem allAt_iff (f : Nat → Bool) : ∀ n, allAt f n = true ↔ ∀ j, j < n → f j = true := by
  intro n
  induction n with
  | zero => simp [allAt]
  | succ n ih =>
    have e : allAt f (n + 1) = (allAt f n && f n) := rfl
    rw [e, Bool.and_eq_true, ih]
    constructor
    · intro h j hj
      by_cases hjn : j = n
      · subst hjn; exact h.2
      · exact h.1 j (by omega)
    · intro h
      exact ⟨fun j hj => h j (by omega), h n (by omega)⟩
def AllTo (f : Nat → Bool) (k : Nat) : Prop := ∀ j, j < k → f j = true
theorem AllTo.zero (f : Nat → Bool) : AllTo f 0 := fun j hj => absurd hj (Nat.not_lt_zero j)
theorem AllTo.succ {f : Nat → Bool} {k : Nat} (h : AllTo f k) (hk : f k = true) : AllTo f (k + 1) := by
  intro j hj
  by_cases hjn : j = k
  · subst hjn; exact hk
  · exact h j (by omega)
theorem AllTo.all {f : Nat → Bool} {k n : Nat} (h : AllTo f k) (hk : k ≤ n) (hlt : ¬ k < n) : allAt f n = true := by
  obtain rfl : k = n := by omega
  exact (allAt_iff f k).2 h
theorem allAt_not {f : Nat → Bool} {k n : Nat} (hk : k < n) (h : f k = false) : allAt f n = false := by
  cases he : allAt f n
  · rfl
  · have := (allAt_iff f n).1 he k hk
    rw [h] at this
    cases this

/-! ### Flat lists -/
def flat2 : List (Int × Int) → List Int
  | [] => []
  | x :: t => x.1 :: x.2 :: flat2 t
def flat3 : List (Int × Int × Int) → List Int
  | [] => []
  | x :: t => x.1 :: x.2.1 :: x.2.2 :: flat3 t
theorem flat2_length (xs : List (Int × Int)) : (flat2 xs).length = xs.length * 2 := by
  induction xs with
  | nil => rfl
  | cons x t ih => simp [flat2, ih]; omega
theorem flat3_length (xs : List (Int × Int × Int)) : (flat3 xs).length = xs.length * 3 := by
  induction xs with
  | nil => rfl
  | cons x t ih => simp [flat3, ih]; omega
theorem flat2_get (xs : List (Int × Int)) : ∀ (k : Nat) (x : Int × Int), xs[k]? = some x → (flat2 xs)[k * 2]? = some x.1 ∧ (flat2 xs)[k * 2 + 1]? = some x.2 := by
  induction xs with
  | nil => intro k x h; simp at h
  | cons y t ih =>
    intro k x h
    cases k with
    | zero => simp at h; subst h; exact ⟨rfl, rfl⟩
    | succ k =>
      have := ih k x (by simpa using h)
      have e1 : (k + 1) * 2 = k * 2 + 1 + 1 := by omega
      rw [e1]
      simpa [flat2] using this
theorem flat3_get (xs : List (Int × Int × Int)) : ∀ (k : Nat) (x : Int × Int × Int), xs[k]? = some x → (flat3 xs)[k * 3]? = some x.1 ∧ (flat3 xs)[k * 3 + 1]? = some x.2.1 ∧ (flat3 xs)[k * 3 + 2]? = some x.2.2 := by
  induction xs with
  | nil => intro k x h; simp at h
  | cons y t ih =>
    intro k x h
    cases k with
    | zero => simp at h; subst h; exact ⟨rfl, rfl, rfl⟩
    | succ k =>
      have := ih k x (by simpa using h)
      have e1 : (k + 1) * 3 = k * 3 + 1 + 1 + 1 := by omega
      rw [e1]
      simpa [flat3] using this
theorem flat2_append (xs ys : List (Int × Int)) : flat2 (xs ++ ys) = flat2 xs ++ flat2 ys := by
  induction xs with
  | nil => rfl
  | cons x t ih => simp [flat2, ih]
theorem flat3_append (xs ys : List (Int × Int × Int)) : flat3 (xs ++ ys) = flat3 xs ++ flat3 ys := by
  induction xs with
  | nil => rfl
  | cons x t ih => simp [flat3, ih]
theorem flat2_inj : ∀ xs ys : List (Int × Int), flat2 xs = flat2 ys → xs = ys := by
  intro xs
  induction xs with
  | nil => intro ys h; cases ys with
    | nil => rfl
    | cons y t => simp [flat2] at h
  | cons x t ih => intro ys h; cases ys with
    | nil => simp [flat2] at h
    | cons y u =>
      simp only [flat2, List.cons.injEq] at h
      rw [ih u h.2.2]
      have : x = y := Prod.ext h.1 h.2.1
      rw [this]

section
variable {w w' : World} {B B' : Nat} {A : Option Addr}
/-- Element k of a slice of structs of two ints. -/
theorem RdI.at2 {xs : List (Int × Int)} {k : Nat} (h : RdI w B A (flat2 xs)) (hk : k < xs.length) : ∃ b off x y, A = some ⟨b, off, none⟩ ∧ b < B ∧ w.cell? ⟨b, off + k * 2, none⟩ = some (.int .i64 x) ∧ w.cell? ⟨b, off + k * 2 + 1, none⟩ = some (.int .i64 y) ∧ Hid (xs[k]? = some (x, y)) := by
  have hx : xs[k]? = some xs[k] := List.getElem?_eq_getElem hk
  obtain ⟨g0, g1⟩ := flat2_get xs k _ hx
  rcases h with e | ⟨b, off, e, hb, hc⟩
  · have := flat2_length xs
    rw [e] at this
    simp at this
    omega
  · exact ⟨b, off, _, _, e, hb, hc _ _ g0, by have := hc _ _ g1; rw [← Nat.add_assoc] at this; exact this, hx⟩
/-- Element k of a slice of structs of three ints. -/
theorem RdI.at3 {xs : List (Int × Int × Int)} {k : Nat} (h : RdI w B A (flat3 xs)) (hk : k < xs.length) : ∃ b off x y z, A = some ⟨b, off, none⟩ ∧ b < B ∧ w.cell? ⟨b, off + k * 3, none⟩ = some (.int .i64 x) ∧ w.cell? ⟨b, off + k * 3 + 1, none⟩ = some (.int .i64 y) ∧ w.cell? ⟨b, off + k * 3 + 2, none⟩ = some (.int .i64 z) ∧ Hid (xs[k]? = some (x, y, z)) := by
  have hx : xs[k]? = some xs[k] := List.getElem?_eq_getElem hk
  obtain ⟨g0, g1, g2⟩ := flat3_get xs k _ hx
  rcases h with e | ⟨b, off, e, hb, hc⟩
  · have := flat3_length xs
    rw [e] at this
    simp at this
    omega
  · exact ⟨b, off, _, _, _, e, hb, hc _ _ g0, by have := hc _ _ g1; rw [← Nat.add_assoc] at this; exact this, by have := hc _ _ g2; rw [← Nat.add_assoc] at this; exact this, hx⟩
theorem RdI.at2C {b off : Nat} {xs : List (Int × Int)} {k : Nat} (h : RdI w B (some ⟨b, off, none⟩) (flat2 xs)) (hk : k < xs.length) : ∃ x y, b < B ∧ w.cell? ⟨b, off + k * 2, none⟩ = some (.int .i64 x) ∧ w.cell? ⟨b, off + k * 2 + 1, none⟩ = some (.int .i64 y) ∧ Hid (xs[k]? = some (x, y)) := by
  obtain ⟨b', off', x, y, e, h1, h2, h3, h4⟩ := h.at2 hk
  injection e with e
  injection e with e1 e2
  subst e1 e2
  exact ⟨x, y, h1, h2, h3, h4⟩
theorem RdI.at3C {b off : Nat} {xs : List (Int × Int × Int)} {k : Nat} (h : RdI w B (some ⟨b, off, none⟩) (flat3 xs)) (hk : k < xs.length) : ∃ x y z, b < B ∧ w.cell? ⟨b, off + k * 3, none⟩ = some (.int .i64 x) ∧ w.cell? ⟨b, off + k * 3 + 1, none⟩ = some (.int .i64 y) ∧ w.cell? ⟨b, off + k * 3 + 2, none⟩ = some (.int .i64 z) ∧ Hid (xs[k]? = some (x, y, z)) := by
  obtain ⟨b', off', x, y, z, e, h1, h2, h3, h4, h5⟩ := h.at3 hk
  injection e with e
  injection e with e1 e2
  subst e1 e2
  exact ⟨x, y, z, h1, h2, h3, h4, h5⟩
end
theorem getD_at {α : Type} {xs : List α} {k : Nat} {x d : α} (h : xs[k]? = some x) : xs.getD k d = x := by simp [List.getD, h]
end Go.Proofs.Ytifljdnlaginfaa
