/-
  No cell of these rows narrows 'for every input' (looked for: loops, veiled, ifaces, maps, wideKeys, modest, calm, conditions, laid).
  DERIVED. THE GIVEN ROWS OF THIS SEAT. 6 by the template 'for every input the law returns true; each argument reads behind the call as it read before'; 0 by the template 'total and deterministic' (their statements: YtclbjpknmcjkmaaTotals.lean).
  GIVEN WITH THE SEED: the statements are not yours to turn. If you find one false, say at which input.
  Laid BY PROGRAM, IN A SANDBOX (cutbox-rows.mjs): the forced cells as the released guide's own fill.sh prints them over the translation b214f7bf755534d1… (all of the seat's roots in one cut). By AI agents, Wed Nov 11 2026. No macro, syntax, notation, axiom, sorry.
-/
import Derived.Test.YtclbjpknmcjkmaaChecked
import GoSem.Claim
import GoSem.ClaimJoined
import GoSem.ClaimMapViews
import Derived.JoinedTies
import Derived.KernelRfl
namespace Go.Proofs.Ytclbjpknmcjkmaa
/- THE CELL 'sum', in the pinned program and in every row, IS THE sha256 OF THE DUMP (.gsa) THAT YtclbjpknmcjkmaaProg.lean LOADS. Nothing in Lean hashes anything: it is a label: what it is worth is what the hold of that sum in a sandbox is worth. -/
noncomputable def Try.pinned : Pinned := { name := "ytclbjpknmcjkmaa", sum := "b214f7bf755534d14fc4cf6c4068840daf6eb673ff2886e16c8b755eeaa8b45c", checked := Try.checked }
namespace Rows
def none {H : Type} : Left H := { results := [], args := [] }

/-- 'laws.FnExactIsFirst': WHATEVER THE INPUT: true; the input reads as it did. -/
def fnExactIsFirstSpec : ChangeSpec := { name := "fnExactIsFirst", fn := fun _ => fun
  | [d1, d2] => { results := [.lit (.bool true)], args := [d1, d2] }
  | _ => none }
def fnExactIsFirstRow : OpenClaim := { program := "ytclbjpknmcjkmaa", sum := "b214f7bf755534d14fc4cf6c4068840daf6eb673ff2886e16c8b755eeaa8b45c", func := "loop.example/g03307/laws.FnExactIsFirst", spec := "fnExactIsFirst", apart := false }
def FnExactIsFirstSaid : Prop := fnExactIsFirstRow.holds Try.pinned (OpenSpec.ofChange fnExactIsFirstSpec)

/-- ITS FALSE NEIGHBOUR: 'it returns false'. Refute it at one input. -/
def fnExactIsFirstWrong : ChangeSpec := { name := "fnExactIsFirst", fn := fun _ => fun
  | [d1, d2] => { results := [.lit (.bool false)], args := [d1, d2] }
  | _ => none }
def FnExactIsFirstWrongFalsely : Prop := fnExactIsFirstRow.holds Try.pinned (OpenSpec.ofChange fnExactIsFirstWrong)

/-- 'laws.FnExactFineOf': WHATEVER THE INPUT: true; the input reads as it did. -/
def fnExactFineOfSpec : ChangeSpec := { name := "fnExactFineOf", fn := fun _ => fun
  | [d1, d2] => { results := [.lit (.bool true)], args := [d1, d2] }
  | _ => none }
def fnExactFineOfRow : OpenClaim := { program := "ytclbjpknmcjkmaa", sum := "b214f7bf755534d14fc4cf6c4068840daf6eb673ff2886e16c8b755eeaa8b45c", func := "loop.example/g03307/laws.FnExactFineOf", spec := "fnExactFineOf", apart := false }
def FnExactFineOfSaid : Prop := fnExactFineOfRow.holds Try.pinned (OpenSpec.ofChange fnExactFineOfSpec)

/-- ITS FALSE NEIGHBOUR: 'it returns false'. Refute it at one input. -/
def fnExactFineOfWrong : ChangeSpec := { name := "fnExactFineOf", fn := fun _ => fun
  | [d1, d2] => { results := [.lit (.bool false)], args := [d1, d2] }
  | _ => none }
def FnExactFineOfWrongFalsely : Prop := fnExactFineOfRow.holds Try.pinned (OpenSpec.ofChange fnExactFineOfWrong)

/-- 'laws.FnExactFinesOf': WHATEVER THE INPUT: true; the input reads as it did. -/
def fnExactFinesOfSpec : ChangeSpec := { name := "fnExactFinesOf", fn := fun _ => fun
  | [d1, d2] => { results := [.lit (.bool true)], args := [d1, d2] }
  | _ => none }
def fnExactFinesOfRow : OpenClaim := { program := "ytclbjpknmcjkmaa", sum := "b214f7bf755534d14fc4cf6c4068840daf6eb673ff2886e16c8b755eeaa8b45c", func := "loop.example/g03307/laws.FnExactFinesOf", spec := "fnExactFinesOf", apart := false }
def FnExactFinesOfSaid : Prop := fnExactFinesOfRow.holds Try.pinned (OpenSpec.ofChange fnExactFinesOfSpec)

/-- ITS FALSE NEIGHBOUR: 'it returns false'. Refute it at one input. -/
def fnExactFinesOfWrong : ChangeSpec := { name := "fnExactFinesOf", fn := fun _ => fun
  | [d1, d2] => { results := [.lit (.bool false)], args := [d1, d2] }
  | _ => none }
def FnExactFinesOfWrongFalsely : Prop := fnExactFinesOfRow.holds Try.pinned (OpenSpec.ofChange fnExactFinesOfWrong)

/-- 'laws.FnExactPardoned': WHATEVER THE INPUT: true; the input reads as it did. -/
def fnExactPardonedSpec : ChangeSpec := { name := "fnExactPardoned", fn := fun _ => fun
  | [d1, d2] => { results := [.lit (.bool true)], args := [d1, d2] }
  | _ => none }
def fnExactPardonedRow : OpenClaim := { program := "ytclbjpknmcjkmaa", sum := "b214f7bf755534d14fc4cf6c4068840daf6eb673ff2886e16c8b755eeaa8b45c", func := "loop.example/g03307/laws.FnExactPardoned", spec := "fnExactPardoned", apart := false }
def FnExactPardonedSaid : Prop := fnExactPardonedRow.holds Try.pinned (OpenSpec.ofChange fnExactPardonedSpec)

/-- ITS FALSE NEIGHBOUR: 'it returns false'. Refute it at one input. -/
def fnExactPardonedWrong : ChangeSpec := { name := "fnExactPardoned", fn := fun _ => fun
  | [d1, d2] => { results := [.lit (.bool false)], args := [d1, d2] }
  | _ => none }
def FnExactPardonedWrongFalsely : Prop := fnExactPardonedRow.holds Try.pinned (OpenSpec.ofChange fnExactPardonedWrong)

/-- 'laws.FnExactWorstPerson': WHATEVER THE INPUT: true; the input reads as it did. -/
def fnExactWorstPersonSpec : ChangeSpec := { name := "fnExactWorstPerson", fn := fun _ => fun
  | [d] => { results := [.lit (.bool true)], args := [d] }
  | _ => none }
def fnExactWorstPersonRow : OpenClaim := { program := "ytclbjpknmcjkmaa", sum := "b214f7bf755534d14fc4cf6c4068840daf6eb673ff2886e16c8b755eeaa8b45c", func := "loop.example/g03307/laws.FnExactWorstPerson", spec := "fnExactWorstPerson", apart := false }
def FnExactWorstPersonSaid : Prop := fnExactWorstPersonRow.holds Try.pinned (OpenSpec.ofChange fnExactWorstPersonSpec)

/-- ITS FALSE NEIGHBOUR: 'it returns false'. Refute it at one input. -/
def fnExactWorstPersonWrong : ChangeSpec := { name := "fnExactWorstPerson", fn := fun _ => fun
  | [d] => { results := [.lit (.bool false)], args := [d] }
  | _ => none }
def FnExactWorstPersonWrongFalsely : Prop := fnExactWorstPersonRow.holds Try.pinned (OpenSpec.ofChange fnExactWorstPersonWrong)

/-- 'laws.FnFines': WHATEVER THE INPUT: true; the input reads as it did. -/
def fnFinesSpec : ChangeSpec := { name := "fnFines", fn := fun _ => fun
  | [d] => { results := [.lit (.bool true)], args := [d] }
  | _ => none }
def fnFinesRow : OpenClaim := { program := "ytclbjpknmcjkmaa", sum := "b214f7bf755534d14fc4cf6c4068840daf6eb673ff2886e16c8b755eeaa8b45c", func := "loop.example/g03307/laws.FnFines", spec := "fnFines", apart := false }
def FnFinesSaid : Prop := fnFinesRow.holds Try.pinned (OpenSpec.ofChange fnFinesSpec)

/-- ITS FALSE NEIGHBOUR: 'it returns false'. Refute it at one input. -/
def fnFinesWrong : ChangeSpec := { name := "fnFines", fn := fun _ => fun
  | [d] => { results := [.lit (.bool false)], args := [d] }
  | _ => none }
def FnFinesWrongFalsely : Prop := fnFinesRow.holds Try.pinned (OpenSpec.ofChange fnFinesWrong)

/- THE SECOND FORM. 'bulk': how many values and letters a reading holds, each counted each time it is reached (what is shared counts as often as it is met; a slice's spare places count too). A statement '..UptoSaid' is the law's where the arguments, and the package variables that the reading takes, are together of bulk at most 1048576: NARROWER than '..Said'. Prove '..Said' where nothing that the law and all that it calls make is longer than what came in: it says more and counts as full. Else prove '..UptoSaid'. A law counts once. -/
mutual
def uptoBulk {H : Type} : DataW H → Nat
  | .lit (.string bytes) => bytes.length + 1
  | .lit _ => 1
  | .nil => 1
  | .ptr d => uptoBulk d + 1
  | .slice elems spare => uptoBulkAll elems + uptoBulkAll spare + 1
  | .agg parts => uptoBulkAll parts + 1
  | .iface _ d => uptoBulk d + 1
  | .map entries => uptoBulkEntries entries + 1
  | .held _ => 1
def uptoBulkAll {H : Type} : List (DataW H) → Nat
  | [] => 0
  | d :: r => uptoBulk d + uptoBulkAll r
def uptoBulkEntries {H : Type} : List (Lit × DataW H) → Nat
  | [] => 0
  | x :: r => uptoBulkEntry x + uptoBulkEntries r
def uptoBulkEntry {H : Type} : Lit × DataW H → Nat
  | (.string bytes, d) => bytes.length + uptoBulk d + 1
  | (_, d) => uptoBulk d + 1
 end
def uptoSmall : (H : Type) → List (DataW H) → Bool := fun _ ds => decide (uptoBulkAll ds ≤ 1048576)
def OpenSpec.upto (s : _root_.Go.ChangeSpec) : _root_.Go.OpenSpec := { _root_.Go.OpenSpec.ofChange s with cond := some uptoSmall }

/-- 'laws.FnExactIsFirst', WHERE WHAT IT READS IS OF BULK AT MOST 1048576: true; the input reads as it did. -/
def fnExactIsFirstUptoRow : OpenClaim := { program := "ytclbjpknmcjkmaa", sum := "b214f7bf755534d14fc4cf6c4068840daf6eb673ff2886e16c8b755eeaa8b45c", func := "loop.example/g03307/laws.FnExactIsFirst", spec := "fnExactIsFirst", apart := false, narrowed := true }
def FnExactIsFirstUptoSaid : Prop := fnExactIsFirstUptoRow.holds Try.pinned (OpenSpec.upto fnExactIsFirstSpec)

/-- 'laws.FnExactFineOf', WHERE WHAT IT READS IS OF BULK AT MOST 1048576: true; the input reads as it did. -/
def fnExactFineOfUptoRow : OpenClaim := { program := "ytclbjpknmcjkmaa", sum := "b214f7bf755534d14fc4cf6c4068840daf6eb673ff2886e16c8b755eeaa8b45c", func := "loop.example/g03307/laws.FnExactFineOf", spec := "fnExactFineOf", apart := false, narrowed := true }
def FnExactFineOfUptoSaid : Prop := fnExactFineOfUptoRow.holds Try.pinned (OpenSpec.upto fnExactFineOfSpec)

/-- 'laws.FnExactFinesOf', WHERE WHAT IT READS IS OF BULK AT MOST 1048576: true; the input reads as it did. -/
def fnExactFinesOfUptoRow : OpenClaim := { program := "ytclbjpknmcjkmaa", sum := "b214f7bf755534d14fc4cf6c4068840daf6eb673ff2886e16c8b755eeaa8b45c", func := "loop.example/g03307/laws.FnExactFinesOf", spec := "fnExactFinesOf", apart := false, narrowed := true }
def FnExactFinesOfUptoSaid : Prop := fnExactFinesOfUptoRow.holds Try.pinned (OpenSpec.upto fnExactFinesOfSpec)

/-- 'laws.FnExactPardoned', WHERE WHAT IT READS IS OF BULK AT MOST 1048576: true; the input reads as it did. -/
def fnExactPardonedUptoRow : OpenClaim := { program := "ytclbjpknmcjkmaa", sum := "b214f7bf755534d14fc4cf6c4068840daf6eb673ff2886e16c8b755eeaa8b45c", func := "loop.example/g03307/laws.FnExactPardoned", spec := "fnExactPardoned", apart := false, narrowed := true }
def FnExactPardonedUptoSaid : Prop := fnExactPardonedUptoRow.holds Try.pinned (OpenSpec.upto fnExactPardonedSpec)

/-- 'laws.FnExactWorstPerson', WHERE WHAT IT READS IS OF BULK AT MOST 1048576: true; the input reads as it did. -/
def fnExactWorstPersonUptoRow : OpenClaim := { program := "ytclbjpknmcjkmaa", sum := "b214f7bf755534d14fc4cf6c4068840daf6eb673ff2886e16c8b755eeaa8b45c", func := "loop.example/g03307/laws.FnExactWorstPerson", spec := "fnExactWorstPerson", apart := false, narrowed := true }
def FnExactWorstPersonUptoSaid : Prop := fnExactWorstPersonUptoRow.holds Try.pinned (OpenSpec.upto fnExactWorstPersonSpec)

/-- 'laws.FnFines', WHERE WHAT IT READS IS OF BULK AT MOST 1048576: true; the input reads as it did. -/
def fnFinesUptoRow : OpenClaim := { program := "ytclbjpknmcjkmaa", sum := "b214f7bf755534d14fc4cf6c4068840daf6eb673ff2886e16c8b755eeaa8b45c", func := "loop.example/g03307/laws.FnFines", spec := "fnFines", apart := false, narrowed := true }
def FnFinesUptoSaid : Prop := fnFinesUptoRow.holds Try.pinned (OpenSpec.upto fnFinesSpec)

end Rows
end Go.Proofs.Ytclbjpknmcjkmaa
