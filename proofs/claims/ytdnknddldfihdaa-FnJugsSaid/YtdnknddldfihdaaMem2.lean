/- More words for memory. -/
import Derived.Test.YtdnknddldfihdaaInts
namespace Go.Proofs.Ytdnknddldfihdaa
open Go.ChangeShapes Go.WideShapes Go.ChangeAt Go.RowKit
set_option linter.unusedVariables false

theorem RdI.of_ints {w : World} {g e : Nat} {xs : List Int} (h : Blk w g e (ints xs).toArray) : RdI w w.heap.size (some ⟨g, 0, none⟩) xs := RdI.of_blk h fun k x hk => by simpa using ints_get hk
theorem RdI.at_world {w W : World} {A : Option Addr} {hs : List Int} (hr : RdI w w.heap.size A hs) (H : Below w.heap.size w W) : RdI W W.heap.size A hs := (hr.below H (Nat.le_refl _)).more H.size
theorem Blk.put3_0 {w : World} {g : Nat} {t : TypeId} {x y z : Value} (h : Blk w g t #[x, y, z]) (z' : Value) : Blk (w.setCell ⟨g, 0, none⟩ z') g t #[z', y, z] := by
  simpa using h.set_ 0 z'
theorem Blk.put3_1 {w : World} {g : Nat} {t : TypeId} {x y z : Value} (h : Blk w g t #[x, y, z]) (z' : Value) : Blk (w.setCell ⟨g, 1, none⟩ z') g t #[x, z', z] := by
  simpa using h.set_ 1 z'
theorem Blk.put3_2 {w : World} {g : Nat} {t : TypeId} {x y z : Value} (h : Blk w g t #[x, y, z]) (z' : Value) : Blk (w.setCell ⟨g, 2, none⟩ z') g t #[x, y, z'] := by
  simpa using h.set_ 2 z'
theorem Blk.put2_0 {w : World} {g : Nat} {t : TypeId} {x y : Value} (h : Blk w g t #[x, y]) (z' : Value) : Blk (w.setCell ⟨g, 0, none⟩ z') g t #[z', y] := by
  simpa using h.set_ 0 z'
theorem Blk.put2_1 {w : World} {g : Nat} {t : TypeId} {x y : Value} (h : Blk w g t #[x, y]) (z' : Value) : Blk (w.setCell ⟨g, 1, none⟩ z') g t #[x, z'] := by
  simpa using h.set_ 1 z'
end Go.Proofs.Ytdnknddldfihdaa
