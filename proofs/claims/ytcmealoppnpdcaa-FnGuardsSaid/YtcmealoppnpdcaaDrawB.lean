/- Draws: worlds in which only the cursor has changed; one draw out of n. -/
import Derived.Test.YtcmealoppnpdcaaDraw
namespace Go.Proofs.Ytcmealoppnpdcaa
open Go.ChangeShapes Go.WideShapes Go.ChangeAt Go.RowKit
set_option linter.unusedVariables false

theorem grownBy_over {w w' w'' : World} {r row : Option Nat} (h : w.grownBy w' r) (hg : w'.grownBy w'' row) (hr : ∀ k, row = some k → w.heap.size ≤ k) : w.grownBy w'' r :=
  ⟨hg.os.trans h.os, hg.tape.trans h.tape, hg.output.trans h.output, Nat.le_trans h.size hg.size, fun k hk hne => (hg.block k (Nat.lt_of_lt_of_le hk h.size) (fun e => by have := hr k e.symm; omega)).trans (h.block k hk hne)⟩
theorem grownBy_below {w w' w'' : World} {r : Option Nat} (h : w.grownBy w' r) (hb : Below w'.heap.size w' w'') : w.grownBy w'' r :=
  ⟨hb.os.trans h.os, hb.tape.trans h.tape, hb.output.trans h.output, Nat.le_trans h.size hb.size, fun k hk hne => (hb.block k (Nat.lt_of_lt_of_le hk h.size)).trans (h.block k hk hne)⟩
theorem below_of_grown {B : Nat} {a w w' : World} {g : Nat} (h : Below B a w) (hg : w.grownBy w' (some g)) (hB : B ≤ w.heap.size) (hgB : B ≤ g) : Below B a w' :=
  h.grown hg hB (fun k hk => by injection hk with hk; omega)
theorem grownBy_al {w w' : World} {r : Option Nat} (h : w.grownBy w' r) (o : Obj) : w.grownBy (w'.alloc o) r := grownBy_below h ((Below.refl _ _).alloc (Nat.le_refl _) o)
theorem CurB.put {w : World} {g B b i : Nat} {xs : List Int} (h : CurB w g B xs) (hb : g < b) (v : Value) : CurB (w.setCell ⟨b, i, none⟩ v) g B xs := h.kept (grownBy_set v) (fun k hk => by injection hk with hk; omega)
theorem grownBy_put {w w' : World} {r : Option Nat} {b i : Nat} (h : w.grownBy w' r) (hb : w.heap.size ≤ b) (v : Value) : w.grownBy (w'.setCell ⟨b, i, none⟩ v) r := grownBy_over h (grownBy_set v) (fun k hk => by injection hk with hk; omega)
theorem cell_far {w : World} {b o b' o' : Nat} {v x : Value} (h : w.cell? ⟨b, o, none⟩ = some x) (hne : b ≠ b') : (w.setCell ⟨b', o', none⟩ v).cell? ⟨b, o, none⟩ = some x :=
  (World.cell?_setCell_other w ⟨b', o', none⟩ ⟨b, o, none⟩ v (fun e => hne (by injection e with e1; exact e1.symm))).trans h
def OnceP (w : World) (g B : Nat) (xs : List Int) (e : Ending) (w' : World) : Prop := ∃ b : Bool, e = .returned (.bool b) ∧ CurB w' g B xs ∧ w.grownBy w' (some g)
theorem l01Once_c (g B : Nat) (xs : List Int) (n : Int) (w : World) (hC : CurB w g B xs) (h0 : 0 < n) (h1 : n ≤ 256) : Calls Try.prog 37 #[.pointer (some ⟨g, 0, none⟩), .int .i64 n] w (OnceP w g B xs) := by
  go_enter Try.func37, Try.ntmps37
  go_wp2_with fail
  refine (l01Below_c g B xs n _ hC h0 h1).mono ?_
  rintro e w1 ⟨x, rfl, x0, x1, hC1, hg1⟩
  go_wp2
  go_ret
  exact ⟨_, rfl, hC1, hg1⟩
end Go.Proofs.Ytcmealoppnpdcaa
