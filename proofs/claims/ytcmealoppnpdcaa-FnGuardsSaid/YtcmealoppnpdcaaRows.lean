/-
  No cell of these rows narrows 'for every input' (looked for: loops, veiled, ifaces, maps, wideKeys, modest, calm, conditions, laid).
  DERIVED. THE GIVEN ROWS OF THIS SEAT. 6 by the template 'for every input the law returns true; each argument reads behind the call as it read before'; 0 by the template 'total and deterministic' (their statements: YtcmealoppnpdcaaTotals.lean).
  GIVEN WITH THE SEED: the statements are not yours to turn. If you find one false, say at which input.
  Laid BY PROGRAM, IN A SANDBOX (cutbox-rows.mjs): the forced cells as the released guide's own fill.sh prints them over the translation 30c392c89ba42d52… (all of the seat's roots in one cut). By AI agents, Wed Nov 11 2026. No macro, syntax, notation, axiom, sorry.
-/
import Derived.Test.YtcmealoppnpdcaaChecked
import GoSem.Claim
import GoSem.ClaimJoined
import GoSem.ClaimMapViews
import Derived.JoinedTies
import Derived.KernelRfl
namespace Go.Proofs.Ytcmealoppnpdcaa
/- THE CELL 'sum', in the pinned program and in every row, IS THE sha256 OF THE DUMP (.gsa) THAT YtcmealoppnpdcaaProg.lean LOADS. Nothing in Lean hashes anything: it is a label: what it is worth is what the hold of that sum in a sandbox is worth. -/
noncomputable def Try.pinned : Pinned := { name := "ytcmealoppnpdcaa", sum := "30c392c89ba42d52fc4e0f58fe591d58598acf7d8da837b385ab1c9b7896cbe5", checked := Try.checked }
namespace Rows
def none {H : Type} : Left H := { results := [], args := [] }

/-- 'laws.FnExactWatchesOk': WHATEVER THE INPUT: true; the input reads as it did. -/
def fnExactWatchesOkSpec : ChangeSpec := { name := "fnExactWatchesOk", fn := fun _ => fun
  | [d] => { results := [.lit (.bool true)], args := [d] }
  | _ => none }
def fnExactWatchesOkRow : OpenClaim := { program := "ytcmealoppnpdcaa", sum := "30c392c89ba42d52fc4e0f58fe591d58598acf7d8da837b385ab1c9b7896cbe5", func := "loop.example/g03307/laws.FnExactWatchesOk", spec := "fnExactWatchesOk", apart := false }
def FnExactWatchesOkSaid : Prop := fnExactWatchesOkRow.holds Try.pinned (OpenSpec.ofChange fnExactWatchesOkSpec)

/-- ITS FALSE NEIGHBOUR: 'it returns false'. Refute it at one input. -/
def fnExactWatchesOkWrong : ChangeSpec := { name := "fnExactWatchesOk", fn := fun _ => fun
  | [d] => { results := [.lit (.bool false)], args := [d] }
  | _ => none }
def FnExactWatchesOkWrongFalsely : Prop := fnExactWatchesOkRow.holds Try.pinned (OpenSpec.ofChange fnExactWatchesOkWrong)

/-- 'laws.FnExactIsWatched': WHATEVER THE INPUT: true; the input reads as it did. -/
def fnExactIsWatchedSpec : ChangeSpec := { name := "fnExactIsWatched", fn := fun _ => fun
  | [d1, d2, d3] => { results := [.lit (.bool true)], args := [d1, d2, d3] }
  | _ => none }
def fnExactIsWatchedRow : OpenClaim := { program := "ytcmealoppnpdcaa", sum := "30c392c89ba42d52fc4e0f58fe591d58598acf7d8da837b385ab1c9b7896cbe5", func := "loop.example/g03307/laws.FnExactIsWatched", spec := "fnExactIsWatched", apart := false }
def FnExactIsWatchedSaid : Prop := fnExactIsWatchedRow.holds Try.pinned (OpenSpec.ofChange fnExactIsWatchedSpec)

/-- ITS FALSE NEIGHBOUR: 'it returns false'. Refute it at one input. -/
def fnExactIsWatchedWrong : ChangeSpec := { name := "fnExactIsWatched", fn := fun _ => fun
  | [d1, d2, d3] => { results := [.lit (.bool false)], args := [d1, d2, d3] }
  | _ => none }
def FnExactIsWatchedWrongFalsely : Prop := fnExactIsWatchedRow.holds Try.pinned (OpenSpec.ofChange fnExactIsWatchedWrong)

/-- 'laws.FnExactGapsIn': WHATEVER THE INPUT: true; the input reads as it did. -/
def fnExactGapsInSpec : ChangeSpec := { name := "fnExactGapsIn", fn := fun _ => fun
  | [d1, d2, d3] => { results := [.lit (.bool true)], args := [d1, d2, d3] }
  | _ => none }
def fnExactGapsInRow : OpenClaim := { program := "ytcmealoppnpdcaa", sum := "30c392c89ba42d52fc4e0f58fe591d58598acf7d8da837b385ab1c9b7896cbe5", func := "loop.example/g03307/laws.FnExactGapsIn", spec := "fnExactGapsIn", apart := false }
def FnExactGapsInSaid : Prop := fnExactGapsInRow.holds Try.pinned (OpenSpec.ofChange fnExactGapsInSpec)

/-- ITS FALSE NEIGHBOUR: 'it returns false'. Refute it at one input. -/
def fnExactGapsInWrong : ChangeSpec := { name := "fnExactGapsIn", fn := fun _ => fun
  | [d1, d2, d3] => { results := [.lit (.bool false)], args := [d1, d2, d3] }
  | _ => none }
def FnExactGapsInWrongFalsely : Prop := fnExactGapsInRow.holds Try.pinned (OpenSpec.ofChange fnExactGapsInWrong)

/-- 'laws.FnExactCheapestWatch': WHATEVER THE INPUT: true; the input reads as it did. -/
def fnExactCheapestWatchSpec : ChangeSpec := { name := "fnExactCheapestWatch", fn := fun _ => fun
  | [d1, d2, d3] => { results := [.lit (.bool true)], args := [d1, d2, d3] }
  | _ => none }
def fnExactCheapestWatchRow : OpenClaim := { program := "ytcmealoppnpdcaa", sum := "30c392c89ba42d52fc4e0f58fe591d58598acf7d8da837b385ab1c9b7896cbe5", func := "loop.example/g03307/laws.FnExactCheapestWatch", spec := "fnExactCheapestWatch", apart := false }
def FnExactCheapestWatchSaid : Prop := fnExactCheapestWatchRow.holds Try.pinned (OpenSpec.ofChange fnExactCheapestWatchSpec)

/-- ITS FALSE NEIGHBOUR: 'it returns false'. Refute it at one input. -/
def fnExactCheapestWatchWrong : ChangeSpec := { name := "fnExactCheapestWatch", fn := fun _ => fun
  | [d1, d2, d3] => { results := [.lit (.bool false)], args := [d1, d2, d3] }
  | _ => none }
def FnExactCheapestWatchWrongFalsely : Prop := fnExactCheapestWatchRow.holds Try.pinned (OpenSpec.ofChange fnExactCheapestWatchWrong)

/-- 'laws.FnExactFewestWatches': WHATEVER THE INPUT: true; the input reads as it did. -/
def fnExactFewestWatchesSpec : ChangeSpec := { name := "fnExactFewestWatches", fn := fun _ => fun
  | [d1, d2, d3] => { results := [.lit (.bool true)], args := [d1, d2, d3] }
  | _ => none }
def fnExactFewestWatchesRow : OpenClaim := { program := "ytcmealoppnpdcaa", sum := "30c392c89ba42d52fc4e0f58fe591d58598acf7d8da837b385ab1c9b7896cbe5", func := "loop.example/g03307/laws.FnExactFewestWatches", spec := "fnExactFewestWatches", apart := false }
def FnExactFewestWatchesSaid : Prop := fnExactFewestWatchesRow.holds Try.pinned (OpenSpec.ofChange fnExactFewestWatchesSpec)

/-- ITS FALSE NEIGHBOUR: 'it returns false'. Refute it at one input. -/
def fnExactFewestWatchesWrong : ChangeSpec := { name := "fnExactFewestWatches", fn := fun _ => fun
  | [d1, d2, d3] => { results := [.lit (.bool false)], args := [d1, d2, d3] }
  | _ => none }
def FnExactFewestWatchesWrongFalsely : Prop := fnExactFewestWatchesRow.holds Try.pinned (OpenSpec.ofChange fnExactFewestWatchesWrong)

/-- 'laws.FnGuards': WHATEVER THE INPUT: true; the input reads as it did. -/
def fnGuardsSpec : ChangeSpec := { name := "fnGuards", fn := fun _ => fun
  | [d] => { results := [.lit (.bool true)], args := [d] }
  | _ => none }
def fnGuardsRow : OpenClaim := { program := "ytcmealoppnpdcaa", sum := "30c392c89ba42d52fc4e0f58fe591d58598acf7d8da837b385ab1c9b7896cbe5", func := "loop.example/g03307/laws.FnGuards", spec := "fnGuards", apart := false }
def FnGuardsSaid : Prop := fnGuardsRow.holds Try.pinned (OpenSpec.ofChange fnGuardsSpec)

/-- ITS FALSE NEIGHBOUR: 'it returns false'. Refute it at one input. -/
def fnGuardsWrong : ChangeSpec := { name := "fnGuards", fn := fun _ => fun
  | [d] => { results := [.lit (.bool false)], args := [d] }
  | _ => none }
def FnGuardsWrongFalsely : Prop := fnGuardsRow.holds Try.pinned (OpenSpec.ofChange fnGuardsWrong)

/- THE SECOND FORM. 'bulk': how many values and letters a reading holds, each counted each time it is reached (what is shared counts as often as it is met; a slice's spare places count too). A statement '..UptoSaid' is the law's where the arguments, and the package variables that the reading takes, are together of bulk at most 1048576: NARROWER than '..Said'. Prove '..Said' where nothing that the law and all that it calls make is longer than what came in: it says more and counts as full. Else prove '..UptoSaid'. A law counts once. -/
mutual
def uptoBulk {H : Type} : DataW H → Nat
  | .lit (.string bytes) => bytes.length + 1
  | .lit _ => 1
  | .nil => 1
  | .ptr d => uptoBulk d + 1
  | .slice elems spare => uptoBulkAll elems + uptoBulkAll spare + 1
  | .agg parts => uptoBulkAll parts + 1
  | .iface _ d => uptoBulk d + 1
  | .map entries => uptoBulkEntries entries + 1
  | .held _ => 1
def uptoBulkAll {H : Type} : List (DataW H) → Nat
  | [] => 0
  | d :: r => uptoBulk d + uptoBulkAll r
def uptoBulkEntries {H : Type} : List (Lit × DataW H) → Nat
  | [] => 0
  | x :: r => uptoBulkEntry x + uptoBulkEntries r
def uptoBulkEntry {H : Type} : Lit × DataW H → Nat
  | (.string bytes, d) => bytes.length + uptoBulk d + 1
  | (_, d) => uptoBulk d + 1
 end
def uptoSmall : (H : Type) → List (DataW H) → Bool := fun _ ds => decide (uptoBulkAll ds ≤ 1048576)
def OpenSpec.upto (s : _root_.Go.ChangeSpec) : _root_.Go.OpenSpec := { _root_.Go.OpenSpec.ofChange s with cond := some uptoSmall }

/-- 'laws.FnExactWatchesOk', WHERE WHAT IT READS IS OF BULK AT MOST 1048576: true; the input reads as it did. -/
def fnExactWatchesOkUptoRow : OpenClaim := { program := "ytcmealoppnpdcaa", sum := "30c392c89ba42d52fc4e0f58fe591d58598acf7d8da837b385ab1c9b7896cbe5", func := "loop.example/g03307/laws.FnExactWatchesOk", spec := "fnExactWatchesOk", apart := false, narrowed := true }
def FnExactWatchesOkUptoSaid : Prop := fnExactWatchesOkUptoRow.holds Try.pinned (OpenSpec.upto fnExactWatchesOkSpec)

/-- 'laws.FnExactIsWatched', WHERE WHAT IT READS IS OF BULK AT MOST 1048576: true; the input reads as it did. -/
def fnExactIsWatchedUptoRow : OpenClaim := { program := "ytcmealoppnpdcaa", sum := "30c392c89ba42d52fc4e0f58fe591d58598acf7d8da837b385ab1c9b7896cbe5", func := "loop.example/g03307/laws.FnExactIsWatched", spec := "fnExactIsWatched", apart := false, narrowed := true }
def FnExactIsWatchedUptoSaid : Prop := fnExactIsWatchedUptoRow.holds Try.pinned (OpenSpec.upto fnExactIsWatchedSpec)

/-- 'laws.FnExactGapsIn', WHERE WHAT IT READS IS OF BULK AT MOST 1048576: true; the input reads as it did. -/
def fnExactGapsInUptoRow : OpenClaim := { program := "ytcmealoppnpdcaa", sum := "30c392c89ba42d52fc4e0f58fe591d58598acf7d8da837b385ab1c9b7896cbe5", func := "loop.example/g03307/laws.FnExactGapsIn", spec := "fnExactGapsIn", apart := false, narrowed := true }
def FnExactGapsInUptoSaid : Prop := fnExactGapsInUptoRow.holds Try.pinned (OpenSpec.upto fnExactGapsInSpec)

/-- 'laws.FnExactCheapestWatch', WHERE WHAT IT READS IS OF BULK AT MOST 1048576: true; the input reads as it did. -/
def fnExactCheapestWatchUptoRow : OpenClaim := { program := "ytcmealoppnpdcaa", sum := "30c392c89ba42d52fc4e0f58fe591d58598acf7d8da837b385ab1c9b7896cbe5", func := "loop.example/g03307/laws.FnExactCheapestWatch", spec := "fnExactCheapestWatch", apart := false, narrowed := true }
def FnExactCheapestWatchUptoSaid : Prop := fnExactCheapestWatchUptoRow.holds Try.pinned (OpenSpec.upto fnExactCheapestWatchSpec)

/-- 'laws.FnExactFewestWatches', WHERE WHAT IT READS IS OF BULK AT MOST 1048576: true; the input reads as it did. -/
def fnExactFewestWatchesUptoRow : OpenClaim := { program := "ytcmealoppnpdcaa", sum := "30c392c89ba42d52fc4e0f58fe591d58598acf7d8da837b385ab1c9b7896cbe5", func := "loop.example/g03307/laws.FnExactFewestWatches", spec := "fnExactFewestWatches", apart := false, narrowed := true }
def FnExactFewestWatchesUptoSaid : Prop := fnExactFewestWatchesUptoRow.holds Try.pinned (OpenSpec.upto fnExactFewestWatchesSpec)

/-- 'laws.FnGuards', WHERE WHAT IT READS IS OF BULK AT MOST 1048576: true; the input reads as it did. -/
def fnGuardsUptoRow : OpenClaim := { program := "ytcmealoppnpdcaa", sum := "30c392c89ba42d52fc4e0f58fe591d58598acf7d8da837b385ab1c9b7896cbe5", func := "loop.example/g03307/laws.FnGuards", spec := "fnGuards", apart := false, narrowed := true }
def FnGuardsUptoSaid : Prop := fnGuardsUptoRow.holds Try.pinned (OpenSpec.upto fnGuardsSpec)

end Rows
end Go.Proofs.Ytcmealoppnpdcaa
