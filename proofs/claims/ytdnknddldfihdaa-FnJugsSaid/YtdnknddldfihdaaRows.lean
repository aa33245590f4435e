/-
  No cell of these rows narrows 'for every input' (looked for: loops, veiled, ifaces, maps, wideKeys, modest, calm, conditions, laid).
  DERIVED. THE GIVEN ROWS OF THIS SEAT. 7 by the template 'for every input the law returns true; each argument reads behind the call as it read before'; 0 by the template 'total and deterministic' (their statements: YtdnknddldfihdaaTotals.lean).
  GIVEN WITH THE SEED: the statements are not yours to turn. If you find one false, say at which input.
  Laid BY PROGRAM, IN A SANDBOX (cutbox-rows.mjs): the forced cells as the released guide's own fill.sh prints them over the translation f6012e7fea9fdd39… (all of the seat's roots in one cut). By AI agents, Wed Nov 11 2026. No macro, syntax, notation, axiom, sorry.
-/
import Derived.Test.YtdnknddldfihdaaChecked
import GoSem.Claim
import GoSem.ClaimJoined
import GoSem.ClaimMapViews
import Derived.JoinedTies
import Derived.KernelRfl
namespace Go.Proofs.Ytdnknddldfihdaa
/- THE CELL 'sum', in the pinned program and in every row, IS THE sha256 OF THE DUMP (.gsa) THAT YtdnknddldfihdaaProg.lean LOADS. Nothing in Lean hashes anything: it is a label: what it is worth is what the hold of that sum in a sandbox is worth. -/
noncomputable def Try.pinned : Pinned := { name := "ytdnknddldfihdaa", sum := "f6012e7fea9fdd39186a7dc738ac9d5d244efed875dcda015ba03ee8816c535a", checked := Try.checked }
namespace Rows
def none {H : Type} : Left H := { results := [], args := [] }

/-- 'laws.FnExactJugsOk': WHATEVER THE INPUT: true; the input reads as it did. -/
def fnExactJugsOkSpec : ChangeSpec := { name := "fnExactJugsOk", fn := fun _ => fun
  | [d] => { results := [.lit (.bool true)], args := [d] }
  | _ => none }
def fnExactJugsOkRow : OpenClaim := { program := "ytdnknddldfihdaa", sum := "f6012e7fea9fdd39186a7dc738ac9d5d244efed875dcda015ba03ee8816c535a", func := "loop.example/g03307/laws.FnExactJugsOk", spec := "fnExactJugsOk", apart := false }
def FnExactJugsOkSaid : Prop := fnExactJugsOkRow.holds Try.pinned (OpenSpec.ofChange fnExactJugsOkSpec)

/-- ITS FALSE NEIGHBOUR: 'it returns false'. Refute it at one input. -/
def fnExactJugsOkWrong : ChangeSpec := { name := "fnExactJugsOk", fn := fun _ => fun
  | [d] => { results := [.lit (.bool false)], args := [d] }
  | _ => none }
def FnExactJugsOkWrongFalsely : Prop := fnExactJugsOkRow.holds Try.pinned (OpenSpec.ofChange fnExactJugsOkWrong)

/-- 'laws.FnJugs': WHATEVER THE INPUT: true; the input reads as it did. -/
def fnJugsSpec : ChangeSpec := { name := "fnJugs", fn := fun _ => fun
  | [d] => { results := [.lit (.bool true)], args := [d] }
  | _ => none }
def fnJugsRow : OpenClaim := { program := "ytdnknddldfihdaa", sum := "f6012e7fea9fdd39186a7dc738ac9d5d244efed875dcda015ba03ee8816c535a", func := "loop.example/g03307/laws.FnJugs", spec := "fnJugs", unfollowed := true, recurses := true, apart := false }
def FnJugsSaid : Prop := fnJugsRow.holds Try.pinned (OpenSpec.ofChange fnJugsSpec)

/-- ITS FALSE NEIGHBOUR: 'it returns false'. Refute it at one input. -/
def fnJugsWrong : ChangeSpec := { name := "fnJugs", fn := fun _ => fun
  | [d] => { results := [.lit (.bool false)], args := [d] }
  | _ => none }
def FnJugsWrongFalsely : Prop := fnJugsRow.holds Try.pinned (OpenSpec.ofChange fnJugsWrong)

/-- 'laws.FnExactJugSteps': WHATEVER THE INPUT: true; the input reads as it did. -/
def fnExactJugStepsSpec : ChangeSpec := { name := "fnExactJugSteps", fn := fun _ => fun
  | [d1, d2] => { results := [.lit (.bool true)], args := [d1, d2] }
  | _ => none }
def fnExactJugStepsRow : OpenClaim := { program := "ytdnknddldfihdaa", sum := "f6012e7fea9fdd39186a7dc738ac9d5d244efed875dcda015ba03ee8816c535a", func := "loop.example/g03307/laws.FnExactJugSteps", spec := "fnExactJugSteps", unfollowed := true, recurses := true, apart := false }
def FnExactJugStepsSaid : Prop := fnExactJugStepsRow.holds Try.pinned (OpenSpec.ofChange fnExactJugStepsSpec)

/-- ITS FALSE NEIGHBOUR: 'it returns false'. Refute it at one input. -/
def fnExactJugStepsWrong : ChangeSpec := { name := "fnExactJugSteps", fn := fun _ => fun
  | [d1, d2] => { results := [.lit (.bool false)], args := [d1, d2] }
  | _ => none }
def FnExactJugStepsWrongFalsely : Prop := fnExactJugStepsRow.holds Try.pinned (OpenSpec.ofChange fnExactJugStepsWrong)

/-- 'laws.FnExactCountStates': WHATEVER THE INPUT: true; the input reads as it did. -/
def fnExactCountStatesSpec : ChangeSpec := { name := "fnExactCountStates", fn := fun _ => fun
  | [d] => { results := [.lit (.bool true)], args := [d] }
  | _ => none }
def fnExactCountStatesRow : OpenClaim := { program := "ytdnknddldfihdaa", sum := "f6012e7fea9fdd39186a7dc738ac9d5d244efed875dcda015ba03ee8816c535a", func := "loop.example/g03307/laws.FnExactCountStates", spec := "fnExactCountStates", unfollowed := true, recurses := true, apart := false }
def FnExactCountStatesSaid : Prop := fnExactCountStatesRow.holds Try.pinned (OpenSpec.ofChange fnExactCountStatesSpec)

/-- ITS FALSE NEIGHBOUR: 'it returns false'. Refute it at one input. -/
def fnExactCountStatesWrong : ChangeSpec := { name := "fnExactCountStates", fn := fun _ => fun
  | [d] => { results := [.lit (.bool false)], args := [d] }
  | _ => none }
def FnExactCountStatesWrongFalsely : Prop := fnExactCountStatesRow.holds Try.pinned (OpenSpec.ofChange fnExactCountStatesWrong)

/-- 'laws.FnExactFewestSteps': WHATEVER THE INPUT: true; the input reads as it did. -/
def fnExactFewestStepsSpec : ChangeSpec := { name := "fnExactFewestSteps", fn := fun _ => fun
  | [d1, d2] => { results := [.lit (.bool true)], args := [d1, d2] }
  | _ => none }
def fnExactFewestStepsRow : OpenClaim := { program := "ytdnknddldfihdaa", sum := "f6012e7fea9fdd39186a7dc738ac9d5d244efed875dcda015ba03ee8816c535a", func := "loop.example/g03307/laws.FnExactFewestSteps", spec := "fnExactFewestSteps", unfollowed := true, recurses := true, apart := false }
def FnExactFewestStepsSaid : Prop := fnExactFewestStepsRow.holds Try.pinned (OpenSpec.ofChange fnExactFewestStepsSpec)

/-- ITS FALSE NEIGHBOUR: 'it returns false'. Refute it at one input. -/
def fnExactFewestStepsWrong : ChangeSpec := { name := "fnExactFewestSteps", fn := fun _ => fun
  | [d1, d2] => { results := [.lit (.bool false)], args := [d1, d2] }
  | _ => none }
def FnExactFewestStepsWrongFalsely : Prop := fnExactFewestStepsRow.holds Try.pinned (OpenSpec.ofChange fnExactFewestStepsWrong)

/-- 'laws.FnExactCanMeasure': WHATEVER THE INPUT: true; the input reads as it did. -/
def fnExactCanMeasureSpec : ChangeSpec := { name := "fnExactCanMeasure", fn := fun _ => fun
  | [d1, d2] => { results := [.lit (.bool true)], args := [d1, d2] }
  | _ => none }
def fnExactCanMeasureRow : OpenClaim := { program := "ytdnknddldfihdaa", sum := "f6012e7fea9fdd39186a7dc738ac9d5d244efed875dcda015ba03ee8816c535a", func := "loop.example/g03307/laws.FnExactCanMeasure", spec := "fnExactCanMeasure", unfollowed := true, recurses := true, apart := false }
def FnExactCanMeasureSaid : Prop := fnExactCanMeasureRow.holds Try.pinned (OpenSpec.ofChange fnExactCanMeasureSpec)

/-- ITS FALSE NEIGHBOUR: 'it returns false'. Refute it at one input. -/
def fnExactCanMeasureWrong : ChangeSpec := { name := "fnExactCanMeasure", fn := fun _ => fun
  | [d1, d2] => { results := [.lit (.bool false)], args := [d1, d2] }
  | _ => none }
def FnExactCanMeasureWrongFalsely : Prop := fnExactCanMeasureRow.holds Try.pinned (OpenSpec.ofChange fnExactCanMeasureWrong)

/-- 'laws.FnExactStepsFor': WHATEVER THE INPUT: true; the input reads as it did. -/
def fnExactStepsForSpec : ChangeSpec := { name := "fnExactStepsFor", fn := fun _ => fun
  | [d1, d2] => { results := [.lit (.bool true)], args := [d1, d2] }
  | _ => none }
def fnExactStepsForRow : OpenClaim := { program := "ytdnknddldfihdaa", sum := "f6012e7fea9fdd39186a7dc738ac9d5d244efed875dcda015ba03ee8816c535a", func := "loop.example/g03307/laws.FnExactStepsFor", spec := "fnExactStepsFor", unfollowed := true, recurses := true, apart := false }
def FnExactStepsForSaid : Prop := fnExactStepsForRow.holds Try.pinned (OpenSpec.ofChange fnExactStepsForSpec)

/-- ITS FALSE NEIGHBOUR: 'it returns false'. Refute it at one input. -/
def fnExactStepsForWrong : ChangeSpec := { name := "fnExactStepsFor", fn := fun _ => fun
  | [d1, d2] => { results := [.lit (.bool false)], args := [d1, d2] }
  | _ => none }
def FnExactStepsForWrongFalsely : Prop := fnExactStepsForRow.holds Try.pinned (OpenSpec.ofChange fnExactStepsForWrong)

/- THE SECOND FORM. 'bulk': how many values and letters a reading holds, each counted each time it is reached (what is shared counts as often as it is met; a slice's spare places count too). A statement '..UptoSaid' is the law's where the arguments, and the package variables that the reading takes, are together of bulk at most 1048576: NARROWER than '..Said'. Prove '..Said' where nothing that the law and all that it calls make is longer than what came in: it says more and counts as full. Else prove '..UptoSaid'. A law counts once. -/
mutual
def uptoBulk {H : Type} : DataW H → Nat
  | .lit (.string bytes) => bytes.length + 1
  | .lit _ => 1
  | .nil => 1
  | .ptr d => uptoBulk d + 1
  | .slice elems spare => uptoBulkAll elems + uptoBulkAll spare + 1
  | .agg parts => uptoBulkAll parts + 1
  | .iface _ d => uptoBulk d + 1
  | .map entries => uptoBulkEntries entries + 1
  | .held _ => 1
def uptoBulkAll {H : Type} : List (DataW H) → Nat
  | [] => 0
  | d :: r => uptoBulk d + uptoBulkAll r
def uptoBulkEntries {H : Type} : List (Lit × DataW H) → Nat
  | [] => 0
  | x :: r => uptoBulkEntry x + uptoBulkEntries r
def uptoBulkEntry {H : Type} : Lit × DataW H → Nat
  | (.string bytes, d) => bytes.length + uptoBulk d + 1
  | (_, d) => uptoBulk d + 1
 end
def uptoSmall : (H : Type) → List (DataW H) → Bool := fun _ ds => decide (uptoBulkAll ds ≤ 1048576)
def OpenSpec.upto (s : _root_.Go.ChangeSpec) : _root_.Go.OpenSpec := { _root_.Go.OpenSpec.ofChange s with cond := some uptoSmall }

/-- 'laws.FnExactJugsOk', WHERE WHAT IT READS IS OF BULK AT MOST 1048576: true; the input reads as it did. -/
def fnExactJugsOkUptoRow : OpenClaim := { program := "ytdnknddldfihdaa", sum := "f6012e7fea9fdd39186a7dc738ac9d5d244efed875dcda015ba03ee8816c535a", func := "loop.example/g03307/laws.FnExactJugsOk", spec := "fnExactJugsOk", apart := false, narrowed := true }
def FnExactJugsOkUptoSaid : Prop := fnExactJugsOkUptoRow.holds Try.pinned (OpenSpec.upto fnExactJugsOkSpec)

/-- 'laws.FnJugs', WHERE WHAT IT READS IS OF BULK AT MOST 1048576: true; the input reads as it did. -/
def fnJugsUptoRow : OpenClaim := { program := "ytdnknddldfihdaa", sum := "f6012e7fea9fdd39186a7dc738ac9d5d244efed875dcda015ba03ee8816c535a", func := "loop.example/g03307/laws.FnJugs", spec := "fnJugs", unfollowed := true, recurses := true, apart := false, narrowed := true }
def FnJugsUptoSaid : Prop := fnJugsUptoRow.holds Try.pinned (OpenSpec.upto fnJugsSpec)

/-- 'laws.FnExactJugSteps', WHERE WHAT IT READS IS OF BULK AT MOST 1048576: true; the input reads as it did. -/
def fnExactJugStepsUptoRow : OpenClaim := { program := "ytdnknddldfihdaa", sum := "f6012e7fea9fdd39186a7dc738ac9d5d244efed875dcda015ba03ee8816c535a", func := "loop.example/g03307/laws.FnExactJugSteps", spec := "fnExactJugSteps", unfollowed := true, recurses := true, apart := false, narrowed := true }
def FnExactJugStepsUptoSaid : Prop := fnExactJugStepsUptoRow.holds Try.pinned (OpenSpec.upto fnExactJugStepsSpec)

/-- 'laws.FnExactCountStates', WHERE WHAT IT READS IS OF BULK AT MOST 1048576: true; the input reads as it did. -/
def fnExactCountStatesUptoRow : OpenClaim := { program := "ytdnknddldfihdaa", sum := "f6012e7fea9fdd39186a7dc738ac9d5d244efed875dcda015ba03ee8816c535a", func := "loop.example/g03307/laws.FnExactCountStates", spec := "fnExactCountStates", unfollowed := true, recurses := true, apart := false, narrowed := true }
def FnExactCountStatesUptoSaid : Prop := fnExactCountStatesUptoRow.holds Try.pinned (OpenSpec.upto fnExactCountStatesSpec)

/-- 'laws.FnExactFewestSteps', WHERE WHAT IT READS IS OF BULK AT MOST 1048576: true; the input reads as it did. -/
def fnExactFewestStepsUptoRow : OpenClaim := { program := "ytdnknddldfihdaa", sum := "f6012e7fea9fdd39186a7dc738ac9d5d244efed875dcda015ba03ee8816c535a", func := "loop.example/g03307/laws.FnExactFewestSteps", spec := "fnExactFewestSteps", unfollowed := true, recurses := true, apart := false, narrowed := true }
def FnExactFewestStepsUptoSaid : Prop := fnExactFewestStepsUptoRow.holds Try.pinned (OpenSpec.upto fnExactFewestStepsSpec)

/-- 'laws.FnExactCanMeasure', WHERE WHAT IT READS IS OF BULK AT MOST 1048576: true; the input reads as it did. -/
def fnExactCanMeasureUptoRow : OpenClaim := { program := "ytdnknddldfihdaa", sum := "f6012e7fea9fdd39186a7dc738ac9d5d244efed875dcda015ba03ee8816c535a", func := "loop.example/g03307/laws.FnExactCanMeasure", spec := "fnExactCanMeasure", unfollowed := true, recurses := true, apart := false, narrowed := true }
def FnExactCanMeasureUptoSaid : Prop := fnExactCanMeasureUptoRow.holds Try.pinned (OpenSpec.upto fnExactCanMeasureSpec)

/-- 'laws.FnExactStepsFor', WHERE WHAT IT READS IS OF BULK AT MOST 1048576: true; the input reads as it did. -/
def fnExactStepsForUptoRow : OpenClaim := { program := "ytdnknddldfihdaa", sum := "f6012e7fea9fdd39186a7dc738ac9d5d244efed875dcda015ba03ee8816c535a", func := "loop.example/g03307/laws.FnExactStepsFor", spec := "fnExactStepsFor", unfollowed := true, recurses := true, apart := false, narrowed := true }
def FnExactStepsForUptoSaid : Prop := fnExactStepsForUptoRow.holds Try.pinned (OpenSpec.upto fnExactStepsForSpec)

end Rows
end Go.Proofs.Ytdnknddldfihdaa
