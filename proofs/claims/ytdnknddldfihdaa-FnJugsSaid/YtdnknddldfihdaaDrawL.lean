/- Draws of lists: what such a draw gives. -/
import Derived.Test.YtdnknddldfihdaaDrawB
import Derived.Test.YtdnknddldfihdaaOwn2
namespace Go.Proofs.Ytdnknddldfihdaa
open Go.ChangeShapes Go.WideShapes Go.ChangeAt Go.RowKit
set_option linter.unusedVariables false

/-- A row that lies above the cursor stays while the cursor changes. -/
theorem OwnI.cur {w w' : World} {base g c : Nat} {A : Option Addr} {xs : List Int} (h : OwnI w base A c xs) (hg : w.grownBy w' (some g)) (hlt : g < base) : OwnI w' base A c xs :=
  h.kept hg (fun k e hk => by
    injection hk with hk
    rcases h.form with ⟨e0, _⟩ | ⟨g0, e0, hb, _⟩
    · rw [e0] at e; cases e
    · rw [e0] at e; injection e with e; injection e with e; omega)
/-- A drawn row of ints: its length, its bounds; else only the cursor has changed. -/
def RowP (w : World) (g B : Nat) (code : List Int) (lo hi : Int) (n0 n1 : Nat) (e : Ending) (w' : World) : Prop :=
  ∃ (A : Option Addr) (c : Nat) (ys : List Int), e = .returned (.slice A ys.length c) ∧ OwnI w' w.heap.size A c ys ∧ n0 ≤ ys.length ∧ ys.length ≤ n1 ∧ (∀ y ∈ ys, lo ≤ y ∧ y ≤ hi) ∧ CurB w' g B code ∧ w.grownBy w' (some g)
end Go.Proofs.Ytdnknddldfihdaa
