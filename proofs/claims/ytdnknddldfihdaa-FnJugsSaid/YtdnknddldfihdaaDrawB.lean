/- Draws: worlds in which only the cursor has changed; one draw out of n. -/
import Derived.Test.YtdnknddldfihdaaDraw
namespace Go.Proofs.Ytdnknddldfihdaa
open Go.ChangeShapes Go.WideShapes Go.ChangeAt Go.RowKit
set_option linter.unusedVariables false

theorem grownBy_over {w w' w'' : World} {r row : Option Nat} (h : w.grownBy w' r) (hg : w'.grownBy w'' row) (hr : ∀ k, row = some k → w.heap.size ≤ k) : w.grownBy w'' r :=
  ⟨hg.os.trans h.os, hg.tape.trans h.tape, hg.output.trans h.output, Nat.le_trans h.size hg.size, fun k hk hne => (hg.block k (Nat.lt_of_lt_of_le hk h.size) (fun e => by have := hr k e.symm; omega)).trans (h.block k hk hne)⟩
theorem grownBy_below {w w' w'' : World} {r : Option Nat} (h : w.grownBy w' r) (hb : Below w'.heap.size w' w'') : w.grownBy w'' r :=
  ⟨hb.os.trans h.os, hb.tape.trans h.tape, hb.output.trans h.output, Nat.le_trans h.size hb.size, fun k hk hne => (hb.block k (Nat.lt_of_lt_of_le hk h.size)).trans (h.block k hk hne)⟩
theorem below_of_grown {B : Nat} {a w w' : World} {g : Nat} (h : Below B a w) (hg : w.grownBy w' (some g)) (hB : B ≤ w.heap.size) (hgB : B ≤ g) : Below B a w' :=
  h.grown hg hB (fun k hk => by injection hk with hk; omega)
theorem grownBy_al {w w' : World} {r : Option Nat} (h : w.grownBy w' r) (o : Obj) : w.grownBy (w'.alloc o) r := grownBy_below h ((Below.refl _ _).alloc (Nat.le_refl _) o)
theorem CurB.put {w : World} {g B b i : Nat} {xs : List Int} (h : CurB w g B xs) (hb : g < b) (v : Value) : CurB (w.setCell ⟨b, i, none⟩ v) g B xs := h.kept (grownBy_set v) (fun k hk => by injection hk with hk; omega)
theorem grownBy_put {w w' : World} {r : Option Nat} {b i : Nat} (h : w.grownBy w' r) (hb : w.heap.size ≤ b) (v : Value) : w.grownBy (w'.setCell ⟨b, i, none⟩ v) r := grownBy_over h (grownBy_set v) (fun k hk => by injection hk with hk; omega)
theorem cell_far {w : World} {b o b' o' : Nat} {v x : Value} (h : w.cell? ⟨b, o, none⟩ = some x) (hne : b ≠ b') : (w.setCell ⟨b', o', none⟩ v).cell? ⟨b, o, none⟩ = some x :=
  (World.cell?_setCell_other w ⟨b', o', none⟩ ⟨b, o, none⟩ v (fun e => hne (by injection e with e1; exact e1.symm))).trans h
end Go.Proofs.Ytdnknddldfihdaa
