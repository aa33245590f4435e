/-
  No cell of these rows narrows 'for every input' (looked for: loops, veiled, ifaces, maps, wideKeys, modest, calm, conditions, laid).
  DERIVED. THE GIVEN ROWS OF THIS SEAT. 6 by the template 'for every input the law returns true; each argument reads behind the call as it read before'; 0 by the template 'total and deterministic' (their statements: YtifljdnlaginfaaTotals.lean).
  GIVEN WITH THE SEED: the statements are not yours to turn. If you find one false, say at which input.
  Laid BY PROGRAM, IN A SANDBOX (cutbox-rows.mjs): the forced cells as the released guide's own fill.sh prints them over the translation 9a24af9ff0061a03… (all of the seat's roots in one cut). By AI agents, Wed Nov 11 2026. No macro, syntax, notation, axiom, sorry.
-/
import Derived.Test.YtifljdnlaginfaaChecked
import GoSem.Claim
import GoSem.ClaimJoined
import GoSem.ClaimMapViews
import Derived.JoinedTies
import Derived.KernelRfl
namespace Go.Proofs.Ytifljdnlaginfaa
/- THE CELL 'sum', in the pinned program and in every row, IS THE sha256 OF THE DUMP (.gsa) THAT YtifljdnlaginfaaProg.lean LOADS. Nothing in Lean hashes anything: it is a label: what it is worth is what the hold of that sum in a sandbox is worth. -/
noncomputable def Try.pinned : Pinned := { name := "ytifljdnlaginfaa", sum := "9a24af9ff0061a03a9117c0a6a5c89497e328eb2261f23d8ccf905711bfeddf5", checked := Try.checked }
namespace Rows
def none {H : Type} : Left H := { results := [], args := [] }

/-- 'laws.FnExactCountVotes': WHATEVER THE INPUT: true; the input reads as it did. -/
def fnExactCountVotesSpec : ChangeSpec := { name := "fnExactCountVotes", fn := fun _ => fun
  | [d] => { results := [.lit (.bool true)], args := [d] }
  | _ => none }
def fnExactCountVotesRow : OpenClaim := { program := "ytifljdnlaginfaa", sum := "9a24af9ff0061a03a9117c0a6a5c89497e328eb2261f23d8ccf905711bfeddf5", func := "loop.example/g03307/laws.FnExactCountVotes", spec := "fnExactCountVotes", apart := false }
def FnExactCountVotesSaid : Prop := fnExactCountVotesRow.holds Try.pinned (OpenSpec.ofChange fnExactCountVotesSpec)

/-- ITS FALSE NEIGHBOUR: 'it returns false'. Refute it at one input. -/
def fnExactCountVotesWrong : ChangeSpec := { name := "fnExactCountVotes", fn := fun _ => fun
  | [d] => { results := [.lit (.bool false)], args := [d] }
  | _ => none }
def FnExactCountVotesWrongFalsely : Prop := fnExactCountVotesRow.holds Try.pinned (OpenSpec.ofChange fnExactCountVotesWrong)

/-- 'laws.FnExactIsPassed': WHATEVER THE INPUT: true; the input reads as it did. -/
def fnExactIsPassedSpec : ChangeSpec := { name := "fnExactIsPassed", fn := fun _ => fun
  | [d1, d2] => { results := [.lit (.bool true)], args := [d1, d2] }
  | _ => none }
def fnExactIsPassedRow : OpenClaim := { program := "ytifljdnlaginfaa", sum := "9a24af9ff0061a03a9117c0a6a5c89497e328eb2261f23d8ccf905711bfeddf5", func := "loop.example/g03307/laws.FnExactIsPassed", spec := "fnExactIsPassed", apart := false }
def FnExactIsPassedSaid : Prop := fnExactIsPassedRow.holds Try.pinned (OpenSpec.ofChange fnExactIsPassedSpec)

/-- ITS FALSE NEIGHBOUR: 'it returns false'. Refute it at one input. -/
def fnExactIsPassedWrong : ChangeSpec := { name := "fnExactIsPassed", fn := fun _ => fun
  | [d1, d2] => { results := [.lit (.bool false)], args := [d1, d2] }
  | _ => none }
def FnExactIsPassedWrongFalsely : Prop := fnExactIsPassedRow.holds Try.pinned (OpenSpec.ofChange fnExactIsPassedWrong)

/-- 'laws.FnExactKeyVoters': WHATEVER THE INPUT: true; the input reads as it did. -/
def fnExactKeyVotersSpec : ChangeSpec := { name := "fnExactKeyVoters", fn := fun _ => fun
  | [d1, d2] => { results := [.lit (.bool true)], args := [d1, d2] }
  | _ => none }
def fnExactKeyVotersRow : OpenClaim := { program := "ytifljdnlaginfaa", sum := "9a24af9ff0061a03a9117c0a6a5c89497e328eb2261f23d8ccf905711bfeddf5", func := "loop.example/g03307/laws.FnExactKeyVoters", spec := "fnExactKeyVoters", apart := false }
def FnExactKeyVotersSaid : Prop := fnExactKeyVotersRow.holds Try.pinned (OpenSpec.ofChange fnExactKeyVotersSpec)

/-- ITS FALSE NEIGHBOUR: 'it returns false'. Refute it at one input. -/
def fnExactKeyVotersWrong : ChangeSpec := { name := "fnExactKeyVoters", fn := fun _ => fun
  | [d1, d2] => { results := [.lit (.bool false)], args := [d1, d2] }
  | _ => none }
def FnExactKeyVotersWrongFalsely : Prop := fnExactKeyVotersRow.holds Try.pinned (OpenSpec.ofChange fnExactKeyVotersWrong)

/-- 'laws.FnExactShareVote': WHATEVER THE INPUT: true; the input reads as it did. -/
def fnExactShareVoteSpec : ChangeSpec := { name := "fnExactShareVote", fn := fun _ => fun
  | [d1, d2] => { results := [.lit (.bool true)], args := [d1, d2] }
  | _ => none }
def fnExactShareVoteRow : OpenClaim := { program := "ytifljdnlaginfaa", sum := "9a24af9ff0061a03a9117c0a6a5c89497e328eb2261f23d8ccf905711bfeddf5", func := "loop.example/g03307/laws.FnExactShareVote", spec := "fnExactShareVote", apart := false }
def FnExactShareVoteSaid : Prop := fnExactShareVoteRow.holds Try.pinned (OpenSpec.ofChange fnExactShareVoteSpec)

/-- ITS FALSE NEIGHBOUR: 'it returns false'. Refute it at one input. -/
def fnExactShareVoteWrong : ChangeSpec := { name := "fnExactShareVote", fn := fun _ => fun
  | [d1, d2] => { results := [.lit (.bool false)], args := [d1, d2] }
  | _ => none }
def FnExactShareVoteWrongFalsely : Prop := fnExactShareVoteRow.holds Try.pinned (OpenSpec.ofChange fnExactShareVoteWrong)

/-- 'laws.FnExactPassesBoth': WHATEVER THE INPUT: true; the input reads as it did. -/
def fnExactPassesBothSpec : ChangeSpec := { name := "fnExactPassesBoth", fn := fun _ => fun
  | [d1, d2] => { results := [.lit (.bool true)], args := [d1, d2] }
  | _ => none }
def fnExactPassesBothRow : OpenClaim := { program := "ytifljdnlaginfaa", sum := "9a24af9ff0061a03a9117c0a6a5c89497e328eb2261f23d8ccf905711bfeddf5", func := "loop.example/g03307/laws.FnExactPassesBoth", spec := "fnExactPassesBoth", apart := false }
def FnExactPassesBothSaid : Prop := fnExactPassesBothRow.holds Try.pinned (OpenSpec.ofChange fnExactPassesBothSpec)

/-- ITS FALSE NEIGHBOUR: 'it returns false'. Refute it at one input. -/
def fnExactPassesBothWrong : ChangeSpec := { name := "fnExactPassesBoth", fn := fun _ => fun
  | [d1, d2] => { results := [.lit (.bool false)], args := [d1, d2] }
  | _ => none }
def FnExactPassesBothWrongFalsely : Prop := fnExactPassesBothRow.holds Try.pinned (OpenSpec.ofChange fnExactPassesBothWrong)

/-- 'laws.FnVotes': WHATEVER THE INPUT: true; the input reads as it did. -/
def fnVotesSpec : ChangeSpec := { name := "fnVotes", fn := fun _ => fun
  | [d] => { results := [.lit (.bool true)], args := [d] }
  | _ => none }
def fnVotesRow : OpenClaim := { program := "ytifljdnlaginfaa", sum := "9a24af9ff0061a03a9117c0a6a5c89497e328eb2261f23d8ccf905711bfeddf5", func := "loop.example/g03307/laws.FnVotes", spec := "fnVotes", apart := false }
def FnVotesSaid : Prop := fnVotesRow.holds Try.pinned (OpenSpec.ofChange fnVotesSpec)

/-- ITS FALSE NEIGHBOUR: 'it returns false'. Refute it at one input. -/
def fnVotesWrong : ChangeSpec := { name := "fnVotes", fn := fun _ => fun
  | [d] => { results := [.lit (.bool false)], args := [d] }
  | _ => none }
def FnVotesWrongFalsely : Prop := fnVotesRow.holds Try.pinned (OpenSpec.ofChange fnVotesWrong)

/- THE SECOND FORM. 'bulk': how many values and letters a reading holds, each counted each time it is reached (what is shared counts as often as it is met; a slice's spare places count too). A statement '..UptoSaid' is the law's where the arguments, and the package variables that the reading takes, are together of bulk at most 1048576: NARROWER than '..Said'. Prove '..Said' where nothing that the law and all that it calls make is longer than what came in: it says more and counts as full. Else prove '..UptoSaid'. A law counts once. -/
mutual
def uptoBulk {H : Type} : DataW H → Nat
  | .lit (.string bytes) => bytes.length + 1
  | .lit _ => 1
  | .nil => 1
  | .ptr d => uptoBulk d + 1
  | .slice elems spare => uptoBulkAll elems + uptoBulkAll spare + 1
  | .agg parts => uptoBulkAll parts + 1
  | .iface _ d => uptoBulk d + 1
  | .map entries => uptoBulkEntries entries + 1
  | .held _ => 1
def uptoBulkAll {H : Type} : List (DataW H) → Nat
  | [] => 0
  | d :: r => uptoBulk d + uptoBulkAll r
def uptoBulkEntries {H : Type} : List (Lit × DataW H) → Nat
  | [] => 0
  | x :: r => uptoBulkEntry x + uptoBulkEntries r
def uptoBulkEntry {H : Type} : Lit × DataW H → Nat
  | (.string bytes, d) => bytes.length + uptoBulk d + 1
  | (_, d) => uptoBulk d + 1
 end
def uptoSmall : (H : Type) → List (DataW H) → Bool := fun _ ds => decide (uptoBulkAll ds ≤ 1048576)
def OpenSpec.upto (s : _root_.Go.ChangeSpec) : _root_.Go.OpenSpec := { _root_.Go.OpenSpec.ofChange s with cond := some uptoSmall }

/-- 'laws.FnExactCountVotes', WHERE WHAT IT READS IS OF BULK AT MOST 1048576: true; the input reads as it did. -/
def fnExactCountVotesUptoRow : OpenClaim := { program := "ytifljdnlaginfaa", sum := "9a24af9ff0061a03a9117c0a6a5c89497e328eb2261f23d8ccf905711bfeddf5", func := "loop.example/g03307/laws.FnExactCountVotes", spec := "fnExactCountVotes", apart := false, narrowed := true }
def FnExactCountVotesUptoSaid : Prop := fnExactCountVotesUptoRow.holds Try.pinned (OpenSpec.upto fnExactCountVotesSpec)

/-- 'laws.FnExactIsPassed', WHERE WHAT IT READS IS OF BULK AT MOST 1048576: true; the input reads as it did. -/
def fnExactIsPassedUptoRow : OpenClaim := { program := "ytifljdnlaginfaa", sum := "9a24af9ff0061a03a9117c0a6a5c89497e328eb2261f23d8ccf905711bfeddf5", func := "loop.example/g03307/laws.FnExactIsPassed", spec := "fnExactIsPassed", apart := false, narrowed := true }
def FnExactIsPassedUptoSaid : Prop := fnExactIsPassedUptoRow.holds Try.pinned (OpenSpec.upto fnExactIsPassedSpec)

/-- 'laws.FnExactKeyVoters', WHERE WHAT IT READS IS OF BULK AT MOST 1048576: true; the input reads as it did. -/
def fnExactKeyVotersUptoRow : OpenClaim := { program := "ytifljdnlaginfaa", sum := "9a24af9ff0061a03a9117c0a6a5c89497e328eb2261f23d8ccf905711bfeddf5", func := "loop.example/g03307/laws.FnExactKeyVoters", spec := "fnExactKeyVoters", apart := false, narrowed := true }
def FnExactKeyVotersUptoSaid : Prop := fnExactKeyVotersUptoRow.holds Try.pinned (OpenSpec.upto fnExactKeyVotersSpec)

/-- 'laws.FnExactShareVote', WHERE WHAT IT READS IS OF BULK AT MOST 1048576: true; the input reads as it did. -/
def fnExactShareVoteUptoRow : OpenClaim := { program := "ytifljdnlaginfaa", sum := "9a24af9ff0061a03a9117c0a6a5c89497e328eb2261f23d8ccf905711bfeddf5", func := "loop.example/g03307/laws.FnExactShareVote", spec := "fnExactShareVote", apart := false, narrowed := true }
def FnExactShareVoteUptoSaid : Prop := fnExactShareVoteUptoRow.holds Try.pinned (OpenSpec.upto fnExactShareVoteSpec)

/-- 'laws.FnExactPassesBoth', WHERE WHAT IT READS IS OF BULK AT MOST 1048576: true; the input reads as it did. -/
def fnExactPassesBothUptoRow : OpenClaim := { program := "ytifljdnlaginfaa", sum := "9a24af9ff0061a03a9117c0a6a5c89497e328eb2261f23d8ccf905711bfeddf5", func := "loop.example/g03307/laws.FnExactPassesBoth", spec := "fnExactPassesBoth", apart := false, narrowed := true }
def FnExactPassesBothUptoSaid : Prop := fnExactPassesBothUptoRow.holds Try.pinned (OpenSpec.upto fnExactPassesBothSpec)

/-- 'laws.FnVotes', WHERE WHAT IT READS IS OF BULK AT MOST 1048576: true; the input reads as it did. -/
def fnVotesUptoRow : OpenClaim := { program := "ytifljdnlaginfaa", sum := "9a24af9ff0061a03a9117c0a6a5c89497e328eb2261f23d8ccf905711bfeddf5", func := "loop.example/g03307/laws.FnVotes", spec := "fnVotes", apart := false, narrowed := true }
def FnVotesUptoSaid : Prop := fnVotesUptoRow.holds Try.pinned (OpenSpec.upto fnVotesSpec)

end Rows
end Go.Proofs.Ytifljdnlaginfaa
