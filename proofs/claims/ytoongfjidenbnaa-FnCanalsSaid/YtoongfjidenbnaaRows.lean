/-
  No cell of these rows narrows 'for every input' (looked for: loops, veiled, ifaces, maps, wideKeys, modest, calm, conditions, laid).
  DERIVED. THE GIVEN ROWS OF THIS SEAT. 8 by the template 'for every input the law returns true; each argument reads behind the call as it read before'; 0 by the template 'total and deterministic' (their statements: YtoongfjidenbnaaTotals.lean).
  GIVEN WITH THE SEED: the statements are not yours to turn. If you find one false, say at which input.
  Laid BY PROGRAM, IN A SANDBOX (cutbox-rows.mjs): the forced cells as the released guide's own fill.sh prints them over the translation b4e643ed1059082f… (all of the seat's roots in one cut). By AI agents, Wed Nov 11 2026. No macro, syntax, notation, axiom, sorry.
-/
import Derived.Test.YtoongfjidenbnaaChecked
import GoSem.Claim
import GoSem.ClaimJoined
import GoSem.ClaimMapViews
import Derived.JoinedTies
import Derived.KernelRfl
namespace Go.Proofs.Ytoongfjidenbnaa
/- THE CELL 'sum', in the pinned program and in every row, IS THE sha256 OF THE DUMP (.gsa) THAT YtoongfjidenbnaaProg.lean LOADS. Nothing in Lean hashes anything: it is a label: what it is worth is what the hold of that sum in a sandbox is worth. -/
noncomputable def Try.pinned : Pinned := { name := "ytoongfjidenbnaa", sum := "b4e643ed1059082ff730d2e804cec8c41e412688ff8df06af545be5c10d0db94", checked := Try.checked }
namespace Rows
def none {H : Type} : Left H := { results := [], args := [] }

/-- 'laws.FnExactGroundOk': WHATEVER THE INPUT: true; the input reads as it did. -/
def fnExactGroundOkSpec : ChangeSpec := { name := "fnExactGroundOk", fn := fun _ => fun
  | [d] => { results := [.lit (.bool true)], args := [d] }
  | _ => none }
def fnExactGroundOkRow : OpenClaim := { program := "ytoongfjidenbnaa", sum := "b4e643ed1059082ff730d2e804cec8c41e412688ff8df06af545be5c10d0db94", func := "loop.example/g03307/laws.FnExactGroundOk", spec := "fnExactGroundOk", apart := false }
def FnExactGroundOkSaid : Prop := fnExactGroundOkRow.holds Try.pinned (OpenSpec.ofChange fnExactGroundOkSpec)

/-- ITS FALSE NEIGHBOUR: 'it returns false'. Refute it at one input. -/
def fnExactGroundOkWrong : ChangeSpec := { name := "fnExactGroundOk", fn := fun _ => fun
  | [d] => { results := [.lit (.bool false)], args := [d] }
  | _ => none }
def FnExactGroundOkWrongFalsely : Prop := fnExactGroundOkRow.holds Try.pinned (OpenSpec.ofChange fnExactGroundOkWrong)

/-- 'laws.FnExactFlowsTo': WHATEVER THE INPUT: true; the input reads as it did. -/
def fnExactFlowsToSpec : ChangeSpec := { name := "fnExactFlowsTo", fn := fun _ => fun
  | [d1, d2] => { results := [.lit (.bool true)], args := [d1, d2] }
  | _ => none }
def fnExactFlowsToRow : OpenClaim := { program := "ytoongfjidenbnaa", sum := "b4e643ed1059082ff730d2e804cec8c41e412688ff8df06af545be5c10d0db94", func := "loop.example/g03307/laws.FnExactFlowsTo", spec := "fnExactFlowsTo", apart := false }
def FnExactFlowsToSaid : Prop := fnExactFlowsToRow.holds Try.pinned (OpenSpec.ofChange fnExactFlowsToSpec)

/-- ITS FALSE NEIGHBOUR: 'it returns false'. Refute it at one input. -/
def fnExactFlowsToWrong : ChangeSpec := { name := "fnExactFlowsTo", fn := fun _ => fun
  | [d1, d2] => { results := [.lit (.bool false)], args := [d1, d2] }
  | _ => none }
def FnExactFlowsToWrongFalsely : Prop := fnExactFlowsToRow.holds Try.pinned (OpenSpec.ofChange fnExactFlowsToWrong)

/-- 'laws.FnExactPoolAt': WHATEVER THE INPUT: true; the input reads as it did. -/
def fnExactPoolAtSpec : ChangeSpec := { name := "fnExactPoolAt", fn := fun _ => fun
  | [d1, d2] => { results := [.lit (.bool true)], args := [d1, d2] }
  | _ => none }
def fnExactPoolAtRow : OpenClaim := { program := "ytoongfjidenbnaa", sum := "b4e643ed1059082ff730d2e804cec8c41e412688ff8df06af545be5c10d0db94", func := "loop.example/g03307/laws.FnExactPoolAt", spec := "fnExactPoolAt", apart := false }
def FnExactPoolAtSaid : Prop := fnExactPoolAtRow.holds Try.pinned (OpenSpec.ofChange fnExactPoolAtSpec)

/-- ITS FALSE NEIGHBOUR: 'it returns false'. Refute it at one input. -/
def fnExactPoolAtWrong : ChangeSpec := { name := "fnExactPoolAt", fn := fun _ => fun
  | [d1, d2] => { results := [.lit (.bool false)], args := [d1, d2] }
  | _ => none }
def FnExactPoolAtWrongFalsely : Prop := fnExactPoolAtRow.holds Try.pinned (OpenSpec.ofChange fnExactPoolAtWrong)

/-- 'laws.FnExactDigAt': WHATEVER THE INPUT: true; the input reads as it did. -/
def fnExactDigAtSpec : ChangeSpec := { name := "fnExactDigAt", fn := fun _ => fun
  | [d1, d2, d3] => { results := [.lit (.bool true)], args := [d1, d2, d3] }
  | _ => none }
def fnExactDigAtRow : OpenClaim := { program := "ytoongfjidenbnaa", sum := "b4e643ed1059082ff730d2e804cec8c41e412688ff8df06af545be5c10d0db94", func := "loop.example/g03307/laws.FnExactDigAt", spec := "fnExactDigAt", apart := false }
def FnExactDigAtSaid : Prop := fnExactDigAtRow.holds Try.pinned (OpenSpec.ofChange fnExactDigAtSpec)

/-- ITS FALSE NEIGHBOUR: 'it returns false'. Refute it at one input. -/
def fnExactDigAtWrong : ChangeSpec := { name := "fnExactDigAt", fn := fun _ => fun
  | [d1, d2, d3] => { results := [.lit (.bool false)], args := [d1, d2, d3] }
  | _ => none }
def FnExactDigAtWrongFalsely : Prop := fnExactDigAtRow.holds Try.pinned (OpenSpec.ofChange fnExactDigAtWrong)

/-- 'laws.FnExactPoolSum': WHATEVER THE INPUT: true; the input reads as it did. -/
def fnExactPoolSumSpec : ChangeSpec := { name := "fnExactPoolSum", fn := fun _ => fun
  | [d] => { results := [.lit (.bool true)], args := [d] }
  | _ => none }
def fnExactPoolSumRow : OpenClaim := { program := "ytoongfjidenbnaa", sum := "b4e643ed1059082ff730d2e804cec8c41e412688ff8df06af545be5c10d0db94", func := "loop.example/g03307/laws.FnExactPoolSum", spec := "fnExactPoolSum", apart := false }
def FnExactPoolSumSaid : Prop := fnExactPoolSumRow.holds Try.pinned (OpenSpec.ofChange fnExactPoolSumSpec)

/-- ITS FALSE NEIGHBOUR: 'it returns false'. Refute it at one input. -/
def fnExactPoolSumWrong : ChangeSpec := { name := "fnExactPoolSum", fn := fun _ => fun
  | [d] => { results := [.lit (.bool false)], args := [d] }
  | _ => none }
def FnExactPoolSumWrongFalsely : Prop := fnExactPoolSumRow.holds Try.pinned (OpenSpec.ofChange fnExactPoolSumWrong)

/-- 'laws.FnExactPoolCount': WHATEVER THE INPUT: true; the input reads as it did. -/
def fnExactPoolCountSpec : ChangeSpec := { name := "fnExactPoolCount", fn := fun _ => fun
  | [d] => { results := [.lit (.bool true)], args := [d] }
  | _ => none }
def fnExactPoolCountRow : OpenClaim := { program := "ytoongfjidenbnaa", sum := "b4e643ed1059082ff730d2e804cec8c41e412688ff8df06af545be5c10d0db94", func := "loop.example/g03307/laws.FnExactPoolCount", spec := "fnExactPoolCount", apart := false }
def FnExactPoolCountSaid : Prop := fnExactPoolCountRow.holds Try.pinned (OpenSpec.ofChange fnExactPoolCountSpec)

/-- ITS FALSE NEIGHBOUR: 'it returns false'. Refute it at one input. -/
def fnExactPoolCountWrong : ChangeSpec := { name := "fnExactPoolCount", fn := fun _ => fun
  | [d] => { results := [.lit (.bool false)], args := [d] }
  | _ => none }
def FnExactPoolCountWrongFalsely : Prop := fnExactPoolCountRow.holds Try.pinned (OpenSpec.ofChange fnExactPoolCountWrong)

/-- 'laws.FnExactBestDam': WHATEVER THE INPUT: true; the input reads as it did. -/
def fnExactBestDamSpec : ChangeSpec := { name := "fnExactBestDam", fn := fun _ => fun
  | [d1, d2] => { results := [.lit (.bool true)], args := [d1, d2] }
  | _ => none }
def fnExactBestDamRow : OpenClaim := { program := "ytoongfjidenbnaa", sum := "b4e643ed1059082ff730d2e804cec8c41e412688ff8df06af545be5c10d0db94", func := "loop.example/g03307/laws.FnExactBestDam", spec := "fnExactBestDam", apart := false }
def FnExactBestDamSaid : Prop := fnExactBestDamRow.holds Try.pinned (OpenSpec.ofChange fnExactBestDamSpec)

/-- ITS FALSE NEIGHBOUR: 'it returns false'. Refute it at one input. -/
def fnExactBestDamWrong : ChangeSpec := { name := "fnExactBestDam", fn := fun _ => fun
  | [d1, d2] => { results := [.lit (.bool false)], args := [d1, d2] }
  | _ => none }
def FnExactBestDamWrongFalsely : Prop := fnExactBestDamRow.holds Try.pinned (OpenSpec.ofChange fnExactBestDamWrong)

/-- 'laws.FnCanals': WHATEVER THE INPUT: true; the input reads as it did. -/
def fnCanalsSpec : ChangeSpec := { name := "fnCanals", fn := fun _ => fun
  | [d] => { results := [.lit (.bool true)], args := [d] }
  | _ => none }
def fnCanalsRow : OpenClaim := { program := "ytoongfjidenbnaa", sum := "b4e643ed1059082ff730d2e804cec8c41e412688ff8df06af545be5c10d0db94", func := "loop.example/g03307/laws.FnCanals", spec := "fnCanals", apart := false }
def FnCanalsSaid : Prop := fnCanalsRow.holds Try.pinned (OpenSpec.ofChange fnCanalsSpec)

/-- ITS FALSE NEIGHBOUR: 'it returns false'. Refute it at one input. -/
def fnCanalsWrong : ChangeSpec := { name := "fnCanals", fn := fun _ => fun
  | [d] => { results := [.lit (.bool false)], args := [d] }
  | _ => none }
def FnCanalsWrongFalsely : Prop := fnCanalsRow.holds Try.pinned (OpenSpec.ofChange fnCanalsWrong)

/- THE SECOND FORM. 'bulk': how many values and letters a reading holds, each counted each time it is reached (what is shared counts as often as it is met; a slice's spare places count too). A statement '..UptoSaid' is the law's where the arguments, and the package variables that the reading takes, are together of bulk at most 1048576: NARROWER than '..Said'. Prove '..Said' where nothing that the law and all that it calls make is longer than what came in: it says more and counts as full. Else prove '..UptoSaid'. A law counts once. -/
mutual
def uptoBulk {H : Type} : DataW H → Nat
  | .lit (.string bytes) => bytes.length + 1
  | .lit _ => 1
  | .nil => 1
  | .ptr d => uptoBulk d + 1
  | .slice elems spare => uptoBulkAll elems + uptoBulkAll spare + 1
  | .agg parts => uptoBulkAll parts + 1
  | .iface _ d => uptoBulk d + 1
  | .map entries => uptoBulkEntries entries + 1
  | .held _ => 1
def uptoBulkAll {H : Type} : List (DataW H) → Nat
  | [] => 0
  | d :: r => uptoBulk d + uptoBulkAll r
def uptoBulkEntries {H : Type} : List (Lit × DataW H) → Nat
  | [] => 0
  | x :: r => uptoBulkEntry x + uptoBulkEntries r
def uptoBulkEntry {H : Type} : Lit × DataW H → Nat
  | (.string bytes, d) => bytes.length + uptoBulk d + 1
  | (_, d) => uptoBulk d + 1
 end
def uptoSmall : (H : Type) → List (DataW H) → Bool := fun _ ds => decide (uptoBulkAll ds ≤ 1048576)
def OpenSpec.upto (s : _root_.Go.ChangeSpec) : _root_.Go.OpenSpec := { _root_.Go.OpenSpec.ofChange s with cond := some uptoSmall }

/-- 'laws.FnExactGroundOk', WHERE WHAT IT READS IS OF BULK AT MOST 1048576: true; the input reads as it did. -/
def fnExactGroundOkUptoRow : OpenClaim := { program := "ytoongfjidenbnaa", sum := "b4e643ed1059082ff730d2e804cec8c41e412688ff8df06af545be5c10d0db94", func := "loop.example/g03307/laws.FnExactGroundOk", spec := "fnExactGroundOk", apart := false, narrowed := true }
def FnExactGroundOkUptoSaid : Prop := fnExactGroundOkUptoRow.holds Try.pinned (OpenSpec.upto fnExactGroundOkSpec)

/-- 'laws.FnExactFlowsTo', WHERE WHAT IT READS IS OF BULK AT MOST 1048576: true; the input reads as it did. -/
def fnExactFlowsToUptoRow : OpenClaim := { program := "ytoongfjidenbnaa", sum := "b4e643ed1059082ff730d2e804cec8c41e412688ff8df06af545be5c10d0db94", func := "loop.example/g03307/laws.FnExactFlowsTo", spec := "fnExactFlowsTo", apart := false, narrowed := true }
def FnExactFlowsToUptoSaid : Prop := fnExactFlowsToUptoRow.holds Try.pinned (OpenSpec.upto fnExactFlowsToSpec)

/-- 'laws.FnExactPoolAt', WHERE WHAT IT READS IS OF BULK AT MOST 1048576: true; the input reads as it did. -/
def fnExactPoolAtUptoRow : OpenClaim := { program := "ytoongfjidenbnaa", sum := "b4e643ed1059082ff730d2e804cec8c41e412688ff8df06af545be5c10d0db94", func := "loop.example/g03307/laws.FnExactPoolAt", spec := "fnExactPoolAt", apart := false, narrowed := true }
def FnExactPoolAtUptoSaid : Prop := fnExactPoolAtUptoRow.holds Try.pinned (OpenSpec.upto fnExactPoolAtSpec)

/-- 'laws.FnExactDigAt', WHERE WHAT IT READS IS OF BULK AT MOST 1048576: true; the input reads as it did. -/
def fnExactDigAtUptoRow : OpenClaim := { program := "ytoongfjidenbnaa", sum := "b4e643ed1059082ff730d2e804cec8c41e412688ff8df06af545be5c10d0db94", func := "loop.example/g03307/laws.FnExactDigAt", spec := "fnExactDigAt", apart := false, narrowed := true }
def FnExactDigAtUptoSaid : Prop := fnExactDigAtUptoRow.holds Try.pinned (OpenSpec.upto fnExactDigAtSpec)

/-- 'laws.FnExactPoolSum', WHERE WHAT IT READS IS OF BULK AT MOST 1048576: true; the input reads as it did. -/
def fnExactPoolSumUptoRow : OpenClaim := { program := "ytoongfjidenbnaa", sum := "b4e643ed1059082ff730d2e804cec8c41e412688ff8df06af545be5c10d0db94", func := "loop.example/g03307/laws.FnExactPoolSum", spec := "fnExactPoolSum", apart := false, narrowed := true }
def FnExactPoolSumUptoSaid : Prop := fnExactPoolSumUptoRow.holds Try.pinned (OpenSpec.upto fnExactPoolSumSpec)

/-- 'laws.FnExactPoolCount', WHERE WHAT IT READS IS OF BULK AT MOST 1048576: true; the input reads as it did. -/
def fnExactPoolCountUptoRow : OpenClaim := { program := "ytoongfjidenbnaa", sum := "b4e643ed1059082ff730d2e804cec8c41e412688ff8df06af545be5c10d0db94", func := "loop.example/g03307/laws.FnExactPoolCount", spec := "fnExactPoolCount", apart := false, narrowed := true }
def FnExactPoolCountUptoSaid : Prop := fnExactPoolCountUptoRow.holds Try.pinned (OpenSpec.upto fnExactPoolCountSpec)

/-- 'laws.FnExactBestDam', WHERE WHAT IT READS IS OF BULK AT MOST 1048576: true; the input reads as it did. -/
def fnExactBestDamUptoRow : OpenClaim := { program := "ytoongfjidenbnaa", sum := "b4e643ed1059082ff730d2e804cec8c41e412688ff8df06af545be5c10d0db94", func := "loop.example/g03307/laws.FnExactBestDam", spec := "fnExactBestDam", apart := false, narrowed := true }
def FnExactBestDamUptoSaid : Prop := fnExactBestDamUptoRow.holds Try.pinned (OpenSpec.upto fnExactBestDamSpec)

/-- 'laws.FnCanals', WHERE WHAT IT READS IS OF BULK AT MOST 1048576: true; the input reads as it did. -/
def fnCanalsUptoRow : OpenClaim := { program := "ytoongfjidenbnaa", sum := "b4e643ed1059082ff730d2e804cec8c41e412688ff8df06af545be5c10d0db94", func := "loop.example/g03307/laws.FnCanals", spec := "fnCanals", apart := false, narrowed := true }
def FnCanalsUptoSaid : Prop := fnCanalsUptoRow.holds Try.pinned (OpenSpec.upto fnCanalsSpec)

end Rows
end Go.Proofs.Ytoongfjidenbnaa
