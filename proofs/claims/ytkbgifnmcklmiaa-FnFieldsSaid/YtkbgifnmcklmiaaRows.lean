/-
  No cell of these rows narrows 'for every input' (looked for: loops, veiled, ifaces, maps, wideKeys, modest, calm, conditions, laid).
  DERIVED. THE GIVEN ROWS OF THIS SEAT. 7 by the template 'for every input the law returns true; each argument reads behind the call as it read before'; 0 by the template 'total and deterministic' (their statements: YtkbgifnmcklmiaaTotals.lean).
  GIVEN WITH THE SEED: the statements are not yours to turn. If you find one false, say at which input.
  Laid BY PROGRAM, IN A SANDBOX (cutbox-rows.mjs): the forced cells as the released guide's own fill.sh prints them over the translation 0e5b1ae8b7428394… (all of the seat's roots in one cut). By AI agents, Wed Nov 11 2026. No macro, syntax, notation, axiom, sorry.
-/
import Derived.Test.YtkbgifnmcklmiaaChecked
import GoSem.Claim
import GoSem.ClaimJoined
import GoSem.ClaimMapViews
import Derived.JoinedTies
import Derived.KernelRfl
namespace Go.Proofs.Ytkbgifnmcklmiaa
/- THE CELL 'sum', in the pinned program and in every row, IS THE sha256 OF THE DUMP (.gsa) THAT YtkbgifnmcklmiaaProg.lean LOADS. Nothing in Lean hashes anything: it is a label: what it is worth is what the hold of that sum in a sandbox is worth. -/
noncomputable def Try.pinned : Pinned := { name := "ytkbgifnmcklmiaa", sum := "0e5b1ae8b7428394d21af2de6e62cb6f64d126cb78e1ddf1feb0db61bc975830", checked := Try.checked }
namespace Rows
def none {H : Type} : Left H := { results := [], args := [] }

/-- 'laws.FnExactFieldOk': WHATEVER THE INPUT: true; the input reads as it did. -/
def fnExactFieldOkSpec : ChangeSpec := { name := "fnExactFieldOk", fn := fun _ => fun
  | [d] => { results := [.lit (.bool true)], args := [d] }
  | _ => none }
def fnExactFieldOkRow : OpenClaim := { program := "ytkbgifnmcklmiaa", sum := "0e5b1ae8b7428394d21af2de6e62cb6f64d126cb78e1ddf1feb0db61bc975830", func := "loop.example/g03307/laws.FnExactFieldOk", spec := "fnExactFieldOk", apart := false }
def FnExactFieldOkSaid : Prop := fnExactFieldOkRow.holds Try.pinned (OpenSpec.ofChange fnExactFieldOkSpec)

/-- ITS FALSE NEIGHBOUR: 'it returns false'. Refute it at one input. -/
def fnExactFieldOkWrong : ChangeSpec := { name := "fnExactFieldOk", fn := fun _ => fun
  | [d] => { results := [.lit (.bool false)], args := [d] }
  | _ => none }
def FnExactFieldOkWrongFalsely : Prop := fnExactFieldOkRow.holds Try.pinned (OpenSpec.ofChange fnExactFieldOkWrong)

/-- 'laws.FnExactNeedIn': WHATEVER THE INPUT: true; the input reads as it did. -/
def fnExactNeedInSpec : ChangeSpec := { name := "fnExactNeedIn", fn := fun _ => fun
  | [d1, d2, d3] => { results := [.lit (.bool true)], args := [d1, d2, d3] }
  | _ => none }
def fnExactNeedInRow : OpenClaim := { program := "ytkbgifnmcklmiaa", sum := "0e5b1ae8b7428394d21af2de6e62cb6f64d126cb78e1ddf1feb0db61bc975830", func := "loop.example/g03307/laws.FnExactNeedIn", spec := "fnExactNeedIn", apart := false }
def FnExactNeedInSaid : Prop := fnExactNeedInRow.holds Try.pinned (OpenSpec.ofChange fnExactNeedInSpec)

/-- ITS FALSE NEIGHBOUR: 'it returns false'. Refute it at one input. -/
def fnExactNeedInWrong : ChangeSpec := { name := "fnExactNeedIn", fn := fun _ => fun
  | [d1, d2, d3] => { results := [.lit (.bool false)], args := [d1, d2, d3] }
  | _ => none }
def FnExactNeedInWrongFalsely : Prop := fnExactNeedInRow.holds Try.pinned (OpenSpec.ofChange fnExactNeedInWrong)

/-- 'laws.FnExactHarvest': WHATEVER THE INPUT: true; the input reads as it did. -/
def fnExactHarvestSpec : ChangeSpec := { name := "fnExactHarvest", fn := fun _ => fun
  | [d1, d2] => { results := [.lit (.bool true)], args := [d1, d2] }
  | _ => none }
def fnExactHarvestRow : OpenClaim := { program := "ytkbgifnmcklmiaa", sum := "0e5b1ae8b7428394d21af2de6e62cb6f64d126cb78e1ddf1feb0db61bc975830", func := "loop.example/g03307/laws.FnExactHarvest", spec := "fnExactHarvest", apart := false }
def FnExactHarvestSaid : Prop := fnExactHarvestRow.holds Try.pinned (OpenSpec.ofChange fnExactHarvestSpec)

/-- ITS FALSE NEIGHBOUR: 'it returns false'. Refute it at one input. -/
def fnExactHarvestWrong : ChangeSpec := { name := "fnExactHarvest", fn := fun _ => fun
  | [d1, d2] => { results := [.lit (.bool false)], args := [d1, d2] }
  | _ => none }
def FnExactHarvestWrongFalsely : Prop := fnExactHarvestRow.holds Try.pinned (OpenSpec.ofChange fnExactHarvestWrong)

/-- 'laws.FnExactSeasonNeed': WHATEVER THE INPUT: true; the input reads as it did. -/
def fnExactSeasonNeedSpec : ChangeSpec := { name := "fnExactSeasonNeed", fn := fun _ => fun
  | [d] => { results := [.lit (.bool true)], args := [d] }
  | _ => none }
def fnExactSeasonNeedRow : OpenClaim := { program := "ytkbgifnmcklmiaa", sum := "0e5b1ae8b7428394d21af2de6e62cb6f64d126cb78e1ddf1feb0db61bc975830", func := "loop.example/g03307/laws.FnExactSeasonNeed", spec := "fnExactSeasonNeed", apart := false }
def FnExactSeasonNeedSaid : Prop := fnExactSeasonNeedRow.holds Try.pinned (OpenSpec.ofChange fnExactSeasonNeedSpec)

/-- ITS FALSE NEIGHBOUR: 'it returns false'. Refute it at one input. -/
def fnExactSeasonNeedWrong : ChangeSpec := { name := "fnExactSeasonNeed", fn := fun _ => fun
  | [d] => { results := [.lit (.bool false)], args := [d] }
  | _ => none }
def FnExactSeasonNeedWrongFalsely : Prop := fnExactSeasonNeedRow.holds Try.pinned (OpenSpec.ofChange fnExactSeasonNeedWrong)

/-- 'laws.FnExactPeakOf': WHATEVER THE INPUT: true; the input reads as it did. -/
def fnExactPeakOfSpec : ChangeSpec := { name := "fnExactPeakOf", fn := fun _ => fun
  | [d1, d2] => { results := [.lit (.bool true)], args := [d1, d2] }
  | _ => none }
def fnExactPeakOfRow : OpenClaim := { program := "ytkbgifnmcklmiaa", sum := "0e5b1ae8b7428394d21af2de6e62cb6f64d126cb78e1ddf1feb0db61bc975830", func := "loop.example/g03307/laws.FnExactPeakOf", spec := "fnExactPeakOf", apart := false }
def FnExactPeakOfSaid : Prop := fnExactPeakOfRow.holds Try.pinned (OpenSpec.ofChange fnExactPeakOfSpec)

/-- ITS FALSE NEIGHBOUR: 'it returns false'. Refute it at one input. -/
def fnExactPeakOfWrong : ChangeSpec := { name := "fnExactPeakOf", fn := fun _ => fun
  | [d1, d2] => { results := [.lit (.bool false)], args := [d1, d2] }
  | _ => none }
def FnExactPeakOfWrongFalsely : Prop := fnExactPeakOfRow.holds Try.pinned (OpenSpec.ofChange fnExactPeakOfWrong)

/-- 'laws.FnExactBestStart': WHATEVER THE INPUT: true; the input reads as it did. -/
def fnExactBestStartSpec : ChangeSpec := { name := "fnExactBestStart", fn := fun _ => fun
  | [d1, d2, d3, d4] => { results := [.lit (.bool true)], args := [d1, d2, d3, d4] }
  | _ => none }
def fnExactBestStartRow : OpenClaim := { program := "ytkbgifnmcklmiaa", sum := "0e5b1ae8b7428394d21af2de6e62cb6f64d126cb78e1ddf1feb0db61bc975830", func := "loop.example/g03307/laws.FnExactBestStart", spec := "fnExactBestStart", apart := false }
def FnExactBestStartSaid : Prop := fnExactBestStartRow.holds Try.pinned (OpenSpec.ofChange fnExactBestStartSpec)

/-- ITS FALSE NEIGHBOUR: 'it returns false'. Refute it at one input. -/
def fnExactBestStartWrong : ChangeSpec := { name := "fnExactBestStart", fn := fun _ => fun
  | [d1, d2, d3, d4] => { results := [.lit (.bool false)], args := [d1, d2, d3, d4] }
  | _ => none }
def FnExactBestStartWrongFalsely : Prop := fnExactBestStartRow.holds Try.pinned (OpenSpec.ofChange fnExactBestStartWrong)

/-- 'laws.FnFields': WHATEVER THE INPUT: true; the input reads as it did. -/
def fnFieldsSpec : ChangeSpec := { name := "fnFields", fn := fun _ => fun
  | [d] => { results := [.lit (.bool true)], args := [d] }
  | _ => none }
def fnFieldsRow : OpenClaim := { program := "ytkbgifnmcklmiaa", sum := "0e5b1ae8b7428394d21af2de6e62cb6f64d126cb78e1ddf1feb0db61bc975830", func := "loop.example/g03307/laws.FnFields", spec := "fnFields", apart := false }
def FnFieldsSaid : Prop := fnFieldsRow.holds Try.pinned (OpenSpec.ofChange fnFieldsSpec)

/-- ITS FALSE NEIGHBOUR: 'it returns false'. Refute it at one input. -/
def fnFieldsWrong : ChangeSpec := { name := "fnFields", fn := fun _ => fun
  | [d] => { results := [.lit (.bool false)], args := [d] }
  | _ => none }
def FnFieldsWrongFalsely : Prop := fnFieldsRow.holds Try.pinned (OpenSpec.ofChange fnFieldsWrong)

/- THE SECOND FORM. 'bulk': how many values and letters a reading holds, each counted each time it is reached (what is shared counts as often as it is met; a slice's spare places count too). A statement '..UptoSaid' is the law's where the arguments, and the package variables that the reading takes, are together of bulk at most 1048576: NARROWER than '..Said'. Prove '..Said' where nothing that the law and all that it calls make is longer than what came in: it says more and counts as full. Else prove '..UptoSaid'. A law counts once. -/
mutual
def uptoBulk {H : Type} : DataW H → Nat
  | .lit (.string bytes) => bytes.length + 1
  | .lit _ => 1
  | .nil => 1
  | .ptr d => uptoBulk d + 1
  | .slice elems spare => uptoBulkAll elems + uptoBulkAll spare + 1
  | .agg parts => uptoBulkAll parts + 1
  | .iface _ d => uptoBulk d + 1
  | .map entries => uptoBulkEntries entries + 1
  | .held _ => 1
def uptoBulkAll {H : Type} : List (DataW H) → Nat
  | [] => 0
  | d :: r => uptoBulk d + uptoBulkAll r
def uptoBulkEntries {H : Type} : List (Lit × DataW H) → Nat
  | [] => 0
  | x :: r => uptoBulkEntry x + uptoBulkEntries r
def uptoBulkEntry {H : Type} : Lit × DataW H → Nat
  | (.string bytes, d) => bytes.length + uptoBulk d + 1
  | (_, d) => uptoBulk d + 1
 end
def uptoSmall : (H : Type) → List (DataW H) → Bool := fun _ ds => decide (uptoBulkAll ds ≤ 1048576)
def OpenSpec.upto (s : _root_.Go.ChangeSpec) : _root_.Go.OpenSpec := { _root_.Go.OpenSpec.ofChange s with cond := some uptoSmall }

/-- 'laws.FnExactFieldOk', WHERE WHAT IT READS IS OF BULK AT MOST 1048576: true; the input reads as it did. -/
def fnExactFieldOkUptoRow : OpenClaim := { program := "ytkbgifnmcklmiaa", sum := "0e5b1ae8b7428394d21af2de6e62cb6f64d126cb78e1ddf1feb0db61bc975830", func := "loop.example/g03307/laws.FnExactFieldOk", spec := "fnExactFieldOk", apart := false, narrowed := true }
def FnExactFieldOkUptoSaid : Prop := fnExactFieldOkUptoRow.holds Try.pinned (OpenSpec.upto fnExactFieldOkSpec)

/-- 'laws.FnExactNeedIn', WHERE WHAT IT READS IS OF BULK AT MOST 1048576: true; the input reads as it did. -/
def fnExactNeedInUptoRow : OpenClaim := { program := "ytkbgifnmcklmiaa", sum := "0e5b1ae8b7428394d21af2de6e62cb6f64d126cb78e1ddf1feb0db61bc975830", func := "loop.example/g03307/laws.FnExactNeedIn", spec := "fnExactNeedIn", apart := false, narrowed := true }
def FnExactNeedInUptoSaid : Prop := fnExactNeedInUptoRow.holds Try.pinned (OpenSpec.upto fnExactNeedInSpec)

/-- 'laws.FnExactHarvest', WHERE WHAT IT READS IS OF BULK AT MOST 1048576: true; the input reads as it did. -/
def fnExactHarvestUptoRow : OpenClaim := { program := "ytkbgifnmcklmiaa", sum := "0e5b1ae8b7428394d21af2de6e62cb6f64d126cb78e1ddf1feb0db61bc975830", func := "loop.example/g03307/laws.FnExactHarvest", spec := "fnExactHarvest", apart := false, narrowed := true }
def FnExactHarvestUptoSaid : Prop := fnExactHarvestUptoRow.holds Try.pinned (OpenSpec.upto fnExactHarvestSpec)

/-- 'laws.FnExactSeasonNeed', WHERE WHAT IT READS IS OF BULK AT MOST 1048576: true; the input reads as it did. -/
def fnExactSeasonNeedUptoRow : OpenClaim := { program := "ytkbgifnmcklmiaa", sum := "0e5b1ae8b7428394d21af2de6e62cb6f64d126cb78e1ddf1feb0db61bc975830", func := "loop.example/g03307/laws.FnExactSeasonNeed", spec := "fnExactSeasonNeed", apart := false, narrowed := true }
def FnExactSeasonNeedUptoSaid : Prop := fnExactSeasonNeedUptoRow.holds Try.pinned (OpenSpec.upto fnExactSeasonNeedSpec)

/-- 'laws.FnExactPeakOf', WHERE WHAT IT READS IS OF BULK AT MOST 1048576: true; the input reads as it did. -/
def fnExactPeakOfUptoRow : OpenClaim := { program := "ytkbgifnmcklmiaa", sum := "0e5b1ae8b7428394d21af2de6e62cb6f64d126cb78e1ddf1feb0db61bc975830", func := "loop.example/g03307/laws.FnExactPeakOf", spec := "fnExactPeakOf", apart := false, narrowed := true }
def FnExactPeakOfUptoSaid : Prop := fnExactPeakOfUptoRow.holds Try.pinned (OpenSpec.upto fnExactPeakOfSpec)

/-- 'laws.FnExactBestStart', WHERE WHAT IT READS IS OF BULK AT MOST 1048576: true; the input reads as it did. -/
def fnExactBestStartUptoRow : OpenClaim := { program := "ytkbgifnmcklmiaa", sum := "0e5b1ae8b7428394d21af2de6e62cb6f64d126cb78e1ddf1feb0db61bc975830", func := "loop.example/g03307/laws.FnExactBestStart", spec := "fnExactBestStart", apart := false, narrowed := true }
def FnExactBestStartUptoSaid : Prop := fnExactBestStartUptoRow.holds Try.pinned (OpenSpec.upto fnExactBestStartSpec)

/-- 'laws.FnFields', WHERE WHAT IT READS IS OF BULK AT MOST 1048576: true; the input reads as it did. -/
def fnFieldsUptoRow : OpenClaim := { program := "ytkbgifnmcklmiaa", sum := "0e5b1ae8b7428394d21af2de6e62cb6f64d126cb78e1ddf1feb0db61bc975830", func := "loop.example/g03307/laws.FnFields", spec := "fnFields", apart := false, narrowed := true }
def FnFieldsUptoSaid : Prop := fnFieldsUptoRow.holds Try.pinned (OpenSpec.upto fnFieldsSpec)

end Rows
end Go.Proofs.Ytkbgifnmcklmiaa
