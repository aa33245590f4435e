/- Words for rows of the call's own: cells, marks. -/
import Derived.Test.YtdnknddldfihdaaMem2
namespace Go.Proofs.Ytdnknddldfihdaa
open Go.ChangeShapes Go.WideShapes Go.ChangeAt Go.RowKit
set_option linter.unusedVariables false

theorem RdI.cells {w : World} {B : Nat} {a : Addr} {ys : List Int} (hr : RdI w B (some a) ys) : ∀ j u, (ints ys)[j]? = some u → w.cell? (a.add j) = some u := by
  intro j u hu
  rcases hr with rfl | ⟨b, off, e, hb, hc⟩
  · simp [ints] at hu
  · injection e with e
    subst e
    simp only [ints, List.getElem?_map, Option.map_eq_some_iff] at hu
    obtain ⟨x, hx, rfl⟩ := hu
    rw [add_plain]
    exact hc j x hx
theorem ints_one (ys : List Int) : ∀ u ∈ ints ys, u.oneCell' = true := by
  intro u hu
  simp only [ints, List.mem_map] at hu
  obtain ⟨x, _, rfl⟩ := hu
  rfl

/-- The marks k, k + 1, .. -/
def marks (k : Int) (n : Nat) : List Int := (List.range n).map fun (i : Nat) => k + (i : Int)
@[simp] theorem marks_length (k : Int) (n : Nat) : (marks k n).length = n := by simp [marks]
theorem marks_at (k : Int) (n i : Nat) (h : i < n) : (marks k n)[i]? = some (k + (i : Int)) := by simp [marks, h]
/-- A row that is being marked: i marks are there. -/
def marking (xs : List Int) (k : Int) (i : Nat) : List Int := marks k i ++ xs.drop i
theorem marking_length (xs : List Int) (k : Int) (i : Nat) (h : i ≤ xs.length) : (marking xs k i).length = xs.length := by simp [marking]; omega
theorem marking_set (xs : List Int) (k : Int) (i : Nat) (h : i < xs.length) : (marking xs k i).set i (k + (i : Int)) = marking xs k (i + 1) := by
  unfold marking
  rw [List.set_append_right _ _ (by simp), marks_length, Nat.sub_self, List.drop_eq_getElem_cons h, List.set_cons_zero]
  simp [marks, List.range_succ]
theorem marking_zero (xs : List Int) (k : Int) : marking xs k 0 = xs := by simp [marking, marks]
theorem marking_end (xs : List Int) (k : Int) : marking xs k xs.length = marks k xs.length := by simp [marking]

theorem ints_marking_set (xs : List Int) (k v : Int) (i : Nat) (h : i < xs.length) (hv : v = k + (i : Int)) : (ints (marking xs k i)).set i (.int .i64 v) = ints (marking xs k (i + 1)) := by
  subst hv
  rw [← marking_set xs k i h]
  simp [ints, List.map_set]
theorem marks_get (k : Int) (n i : Nat) (x : Int) (h : (marks k n)[i]? = some x) : x = k + (i : Int) := by
  have hi : i < n := by have := (List.getElem?_eq_some_iff.1 h).1; simpa using this
  rw [marks_at k n i hi] at h
  exact (Option.some.inj h).symm
end Go.Proofs.Ytdnknddldfihdaa
