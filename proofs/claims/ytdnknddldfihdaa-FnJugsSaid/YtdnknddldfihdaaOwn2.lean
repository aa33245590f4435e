/- Rows of ints that a call made itself: one cell. -/
import Derived.Test.YtdnknddldfihdaaOwn
namespace Go.Proofs.Ytdnknddldfihdaa
open Go.ChangeShapes Go.WideShapes Go.ChangeAt Go.RowKit
set_option linter.unusedVariables false

theorem OwnI.stored {w : World} {base g c : Nat} {xs : List Int} (h : OwnI w base (some ⟨g, 0, none⟩) c xs) (i : Nat) (v : Int) : OwnI (w.setCell ⟨g, i, none⟩ (.int .i64 v)) base (some ⟨g, 0, none⟩) c (xs.set i v) := by
  have h1 := (World.ownsRow.stored h i (.int .i64 v)).1
  unfold OwnI
  rw [List.length_set]
  have e : ints (xs.set i v) = (ints xs).set i (.int .i64 v) := by simp [ints, List.map_set]
  rw [e]
  exact h1
theorem OwnI.grew {w : World} {base g c : Nat} {xs : List Int} (h : OwnI w base (some ⟨g, 0, none⟩) c xs) (i : Nat) (v : Int) : w.grownBy (w.setCell ⟨g, i, none⟩ (.int .i64 v)) (some g) := (World.ownsRow.stored h i (.int .i64 v)).2
theorem OwnI.cellI {w : World} {base g c : Nat} {xs : List Int} {i : Nat} {x : Int} (h : OwnI w base (some ⟨g, 0, none⟩) c xs) (hi : xs[i]? = some x) : w.cell? ⟨g, i, none⟩ = some (.int .i64 x) := by
  have hl := (List.getElem?_eq_some_iff.1 hi).1
  exact (World.ownsRow.cellAt h i (by omega)).trans (ints_get hi)
theorem OwnI.frz {w : World} {base g c : Nat} {xs : List Int} (h : OwnI w base (some ⟨g, 0, none⟩) c xs) (i : Nat) : w.frozen? ⟨g, i, none⟩ = false := World.ownsRow.frozenAt h i
theorem getDat {xs : List Int} {k : Nat} {x : Int} (h : xs[k]? = some x) : xs.getD k 0 = x := by simp [List.getD, h]
theorem OwnI.lt_ {w : World} {base c : Nat} {A : Option Addr} {xs : List Int} (h : OwnI w base A c xs) : ∀ g, A = some ⟨g, 0, none⟩ → g < w.heap.size := fun g e => by
  rcases h.form with ⟨e0, _⟩ | ⟨g0, e0, _, hlt, _⟩
  · rw [e0] at e; cases e
  · rw [e0] at e; injection e with e; injection e with e; omega
theorem OwnI.some_ {w : World} {base c : Nat} {A : Option Addr} {xs : List Int} {k : Nat} (h : OwnI w base A c xs) (hk : k < xs.length) : ∃ g, A = some ⟨g, 0, none⟩ ∧ base ≤ g ∧ g < w.heap.size ∧ xs.length ≤ c ∧ c ≤ maxLen := by
  rcases h.form with ⟨_, e⟩ | ⟨g2, e1, e2, e3, e4, e5⟩
  · rw [e] at hk; exact absurd hk (by simp)
  · exact ⟨g2, e1, e2, e3, e4, e5⟩
theorem OwnI.row_ge {w : World} {base c : Nat} {A : Option Addr} {xs : List Int} (h : OwnI w base A c xs) : ∀ k, (Value.slice A xs.length c).ownBlock = some k → base ≤ k := fun k hk => (World.ownsRow.lt h k hk).1
theorem OwnI.alloc {w : World} {base c : Nat} {A : Option Addr} {xs : List Int} (h : OwnI w base A c xs) (o : Obj) : OwnI (w.alloc o) base A c xs := World.ownsRow.alloc h o
theorem OwnI.nil (w : World) (base : Nat) : OwnI w base none 0 [] := World.ownsRow_nil _ _ _ _
theorem OwnI.empty (w : World) : OwnI (w.alloc (.cells #[] 3)) w.heap.size (some ⟨w.heap.size, 0, none⟩) 0 [] := OwnI.of_blk (xs := []) (Nat.le_refl _) (by unfold maxLen; simp) (Blk.new _ _ _)
theorem RdI.kept {w w' : World} {B : Nat} {A : Option Addr} {xs : List Int} {row : Option Nat} (h : RdI w B A xs) (hg : w.grownBy w' row) (hB : B ≤ w.heap.size) (hr : ∀ k, row = some k → B ≤ k) : RdI w' B A xs :=
  h.keep fun b o hp => World.cell?_of_block (w := w) (a := ⟨b, o, none⟩) (hg.block b (by omega) (fun e => by have := hr b e.symm; omega))
end Go.Proofs.Ytdnknddldfihdaa
