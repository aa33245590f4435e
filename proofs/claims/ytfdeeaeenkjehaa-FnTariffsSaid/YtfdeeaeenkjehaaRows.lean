/-
  No cell of these rows narrows 'for every input' (looked for: loops, veiled, ifaces, maps, wideKeys, modest, calm, conditions, laid).
  DERIVED. THE GIVEN ROWS OF THIS SEAT. 6 by the template 'for every input the law returns true; each argument reads behind the call as it read before'; 0 by the template 'total and deterministic' (their statements: YtfdeeaeenkjehaaTotals.lean).
  GIVEN WITH THE SEED: the statements are not yours to turn. If you find one false, say at which input.
  Laid BY PROGRAM, IN A SANDBOX (cutbox-rows.mjs): the forced cells as the released guide's own fill.sh prints them over the translation 08d96fc947ade3bb… (all of the seat's roots in one cut). By AI agents, Wed Nov 11 2026. No macro, syntax, notation, axiom, sorry.
-/
import Derived.Test.YtfdeeaeenkjehaaChecked
import GoSem.Claim
import GoSem.ClaimJoined
import GoSem.ClaimMapViews
import Derived.JoinedTies
import Derived.KernelRfl
namespace Go.Proofs.Ytfdeeaeenkjehaa
/- THE CELL 'sum', in the pinned program and in every row, IS THE sha256 OF THE DUMP (.gsa) THAT YtfdeeaeenkjehaaProg.lean LOADS. Nothing in Lean hashes anything: it is a label: what it is worth is what the hold of that sum in a sandbox is worth. -/
noncomputable def Try.pinned : Pinned := { name := "ytfdeeaeenkjehaa", sum := "08d96fc947ade3bb316d4d2a7939d59a0b9bb780f64993812a52e6cf36607241", checked := Try.checked }
namespace Rows
def none {H : Type} : Left H := { results := [], args := [] }

/-- 'laws.FnExactTariffOk': WHATEVER THE INPUT: true; the input reads as it did. -/
def fnExactTariffOkSpec : ChangeSpec := { name := "fnExactTariffOk", fn := fun _ => fun
  | [d] => { results := [.lit (.bool true)], args := [d] }
  | _ => none }
def fnExactTariffOkRow : OpenClaim := { program := "ytfdeeaeenkjehaa", sum := "08d96fc947ade3bb316d4d2a7939d59a0b9bb780f64993812a52e6cf36607241", func := "loop.example/g03307/laws.FnExactTariffOk", spec := "fnExactTariffOk", apart := false }
def FnExactTariffOkSaid : Prop := fnExactTariffOkRow.holds Try.pinned (OpenSpec.ofChange fnExactTariffOkSpec)

/-- ITS FALSE NEIGHBOUR: 'it returns false'. Refute it at one input. -/
def fnExactTariffOkWrong : ChangeSpec := { name := "fnExactTariffOk", fn := fun _ => fun
  | [d] => { results := [.lit (.bool false)], args := [d] }
  | _ => none }
def FnExactTariffOkWrongFalsely : Prop := fnExactTariffOkRow.holds Try.pinned (OpenSpec.ofChange fnExactTariffOkWrong)

/-- 'laws.FnExactCostOf': WHATEVER THE INPUT: true; the input reads as it did. -/
def fnExactCostOfSpec : ChangeSpec := { name := "fnExactCostOf", fn := fun _ => fun
  | [d1, d2] => { results := [.lit (.bool true)], args := [d1, d2] }
  | _ => none }
def fnExactCostOfRow : OpenClaim := { program := "ytfdeeaeenkjehaa", sum := "08d96fc947ade3bb316d4d2a7939d59a0b9bb780f64993812a52e6cf36607241", func := "loop.example/g03307/laws.FnExactCostOf", spec := "fnExactCostOf", apart := false }
def FnExactCostOfSaid : Prop := fnExactCostOfRow.holds Try.pinned (OpenSpec.ofChange fnExactCostOfSpec)

/-- ITS FALSE NEIGHBOUR: 'it returns false'. Refute it at one input. -/
def fnExactCostOfWrong : ChangeSpec := { name := "fnExactCostOf", fn := fun _ => fun
  | [d1, d2] => { results := [.lit (.bool false)], args := [d1, d2] }
  | _ => none }
def FnExactCostOfWrongFalsely : Prop := fnExactCostOfRow.holds Try.pinned (OpenSpec.ofChange fnExactCostOfWrong)

/-- 'laws.FnExactNextPrice': WHATEVER THE INPUT: true; the input reads as it did. -/
def fnExactNextPriceSpec : ChangeSpec := { name := "fnExactNextPrice", fn := fun _ => fun
  | [d1, d2] => { results := [.lit (.bool true)], args := [d1, d2] }
  | _ => none }
def fnExactNextPriceRow : OpenClaim := { program := "ytfdeeaeenkjehaa", sum := "08d96fc947ade3bb316d4d2a7939d59a0b9bb780f64993812a52e6cf36607241", func := "loop.example/g03307/laws.FnExactNextPrice", spec := "fnExactNextPrice", apart := false }
def FnExactNextPriceSaid : Prop := fnExactNextPriceRow.holds Try.pinned (OpenSpec.ofChange fnExactNextPriceSpec)

/-- ITS FALSE NEIGHBOUR: 'it returns false'. Refute it at one input. -/
def fnExactNextPriceWrong : ChangeSpec := { name := "fnExactNextPrice", fn := fun _ => fun
  | [d1, d2] => { results := [.lit (.bool false)], args := [d1, d2] }
  | _ => none }
def FnExactNextPriceWrongFalsely : Prop := fnExactNextPriceRow.holds Try.pinned (OpenSpec.ofChange fnExactNextPriceWrong)

/-- 'laws.FnExactShareSaves': WHATEVER THE INPUT: true; the input reads as it did. -/
def fnExactShareSavesSpec : ChangeSpec := { name := "fnExactShareSaves", fn := fun _ => fun
  | [d1, d2, d3] => { results := [.lit (.bool true)], args := [d1, d2, d3] }
  | _ => none }
def fnExactShareSavesRow : OpenClaim := { program := "ytfdeeaeenkjehaa", sum := "08d96fc947ade3bb316d4d2a7939d59a0b9bb780f64993812a52e6cf36607241", func := "loop.example/g03307/laws.FnExactShareSaves", spec := "fnExactShareSaves", apart := false }
def FnExactShareSavesSaid : Prop := fnExactShareSavesRow.holds Try.pinned (OpenSpec.ofChange fnExactShareSavesSpec)

/-- ITS FALSE NEIGHBOUR: 'it returns false'. Refute it at one input. -/
def fnExactShareSavesWrong : ChangeSpec := { name := "fnExactShareSaves", fn := fun _ => fun
  | [d1, d2, d3] => { results := [.lit (.bool false)], args := [d1, d2, d3] }
  | _ => none }
def FnExactShareSavesWrongFalsely : Prop := fnExactShareSavesRow.holds Try.pinned (OpenSpec.ofChange fnExactShareSavesWrong)

/-- 'laws.FnExactLitersFor': WHATEVER THE INPUT: true; the input reads as it did. -/
def fnExactLitersForSpec : ChangeSpec := { name := "fnExactLitersFor", fn := fun _ => fun
  | [d1, d2] => { results := [.lit (.bool true)], args := [d1, d2] }
  | _ => none }
def fnExactLitersForRow : OpenClaim := { program := "ytfdeeaeenkjehaa", sum := "08d96fc947ade3bb316d4d2a7939d59a0b9bb780f64993812a52e6cf36607241", func := "loop.example/g03307/laws.FnExactLitersFor", spec := "fnExactLitersFor", unfollowed := true, recurses := true, apart := false }
def FnExactLitersForSaid : Prop := fnExactLitersForRow.holds Try.pinned (OpenSpec.ofChange fnExactLitersForSpec)

/-- ITS FALSE NEIGHBOUR: 'it returns false'. Refute it at one input. -/
def fnExactLitersForWrong : ChangeSpec := { name := "fnExactLitersFor", fn := fun _ => fun
  | [d1, d2] => { results := [.lit (.bool false)], args := [d1, d2] }
  | _ => none }
def FnExactLitersForWrongFalsely : Prop := fnExactLitersForRow.holds Try.pinned (OpenSpec.ofChange fnExactLitersForWrong)

/-- 'laws.FnTariffs': WHATEVER THE INPUT: true; the input reads as it did. -/
def fnTariffsSpec : ChangeSpec := { name := "fnTariffs", fn := fun _ => fun
  | [d] => { results := [.lit (.bool true)], args := [d] }
  | _ => none }
def fnTariffsRow : OpenClaim := { program := "ytfdeeaeenkjehaa", sum := "08d96fc947ade3bb316d4d2a7939d59a0b9bb780f64993812a52e6cf36607241", func := "loop.example/g03307/laws.FnTariffs", spec := "fnTariffs", unfollowed := true, recurses := true, apart := false }
def FnTariffsSaid : Prop := fnTariffsRow.holds Try.pinned (OpenSpec.ofChange fnTariffsSpec)

/-- ITS FALSE NEIGHBOUR: 'it returns false'. Refute it at one input. -/
def fnTariffsWrong : ChangeSpec := { name := "fnTariffs", fn := fun _ => fun
  | [d] => { results := [.lit (.bool false)], args := [d] }
  | _ => none }
def FnTariffsWrongFalsely : Prop := fnTariffsRow.holds Try.pinned (OpenSpec.ofChange fnTariffsWrong)

/- THE SECOND FORM. 'bulk': how many values and letters a reading holds, each counted each time it is reached (what is shared counts as often as it is met; a slice's spare places count too). A statement '..UptoSaid' is the law's where the arguments, and the package variables that the reading takes, are together of bulk at most 1048576: NARROWER than '..Said'. Prove '..Said' where nothing that the law and all that it calls make is longer than what came in: it says more and counts as full. Else prove '..UptoSaid'. A law counts once. -/
mutual
def uptoBulk {H : Type} : DataW H → Nat
  | .lit (.string bytes) => bytes.length + 1
  | .lit _ => 1
  | .nil => 1
  | .ptr d => uptoBulk d + 1
  | .slice elems spare => uptoBulkAll elems + uptoBulkAll spare + 1
  | .agg parts => uptoBulkAll parts + 1
  | .iface _ d => uptoBulk d + 1
  | .map entries => uptoBulkEntries entries + 1
  | .held _ => 1
def uptoBulkAll {H : Type} : List (DataW H) → Nat
  | [] => 0
  | d :: r => uptoBulk d + uptoBulkAll r
def uptoBulkEntries {H : Type} : List (Lit × DataW H) → Nat
  | [] => 0
  | x :: r => uptoBulkEntry x + uptoBulkEntries r
def uptoBulkEntry {H : Type} : Lit × DataW H → Nat
  | (.string bytes, d) => bytes.length + uptoBulk d + 1
  | (_, d) => uptoBulk d + 1
 end
def uptoSmall : (H : Type) → List (DataW H) → Bool := fun _ ds => decide (uptoBulkAll ds ≤ 1048576)
def OpenSpec.upto (s : _root_.Go.ChangeSpec) : _root_.Go.OpenSpec := { _root_.Go.OpenSpec.ofChange s with cond := some uptoSmall }

/-- 'laws.FnExactTariffOk', WHERE WHAT IT READS IS OF BULK AT MOST 1048576: true; the input reads as it did. -/
def fnExactTariffOkUptoRow : OpenClaim := { program := "ytfdeeaeenkjehaa", sum := "08d96fc947ade3bb316d4d2a7939d59a0b9bb780f64993812a52e6cf36607241", func := "loop.example/g03307/laws.FnExactTariffOk", spec := "fnExactTariffOk", apart := false, narrowed := true }
def FnExactTariffOkUptoSaid : Prop := fnExactTariffOkUptoRow.holds Try.pinned (OpenSpec.upto fnExactTariffOkSpec)

/-- 'laws.FnExactCostOf', WHERE WHAT IT READS IS OF BULK AT MOST 1048576: true; the input reads as it did. -/
def fnExactCostOfUptoRow : OpenClaim := { program := "ytfdeeaeenkjehaa", sum := "08d96fc947ade3bb316d4d2a7939d59a0b9bb780f64993812a52e6cf36607241", func := "loop.example/g03307/laws.FnExactCostOf", spec := "fnExactCostOf", apart := false, narrowed := true }
def FnExactCostOfUptoSaid : Prop := fnExactCostOfUptoRow.holds Try.pinned (OpenSpec.upto fnExactCostOfSpec)

/-- 'laws.FnExactNextPrice', WHERE WHAT IT READS IS OF BULK AT MOST 1048576: true; the input reads as it did. -/
def fnExactNextPriceUptoRow : OpenClaim := { program := "ytfdeeaeenkjehaa", sum := "08d96fc947ade3bb316d4d2a7939d59a0b9bb780f64993812a52e6cf36607241", func := "loop.example/g03307/laws.FnExactNextPrice", spec := "fnExactNextPrice", apart := false, narrowed := true }
def FnExactNextPriceUptoSaid : Prop := fnExactNextPriceUptoRow.holds Try.pinned (OpenSpec.upto fnExactNextPriceSpec)

/-- 'laws.FnExactShareSaves', WHERE WHAT IT READS IS OF BULK AT MOST 1048576: true; the input reads as it did. -/
def fnExactShareSavesUptoRow : OpenClaim := { program := "ytfdeeaeenkjehaa", sum := "08d96fc947ade3bb316d4d2a7939d59a0b9bb780f64993812a52e6cf36607241", func := "loop.example/g03307/laws.FnExactShareSaves", spec := "fnExactShareSaves", apart := false, narrowed := true }
def FnExactShareSavesUptoSaid : Prop := fnExactShareSavesUptoRow.holds Try.pinned (OpenSpec.upto fnExactShareSavesSpec)

/-- 'laws.FnExactLitersFor', WHERE WHAT IT READS IS OF BULK AT MOST 1048576: true; the input reads as it did. -/
def fnExactLitersForUptoRow : OpenClaim := { program := "ytfdeeaeenkjehaa", sum := "08d96fc947ade3bb316d4d2a7939d59a0b9bb780f64993812a52e6cf36607241", func := "loop.example/g03307/laws.FnExactLitersFor", spec := "fnExactLitersFor", unfollowed := true, recurses := true, apart := false, narrowed := true }
def FnExactLitersForUptoSaid : Prop := fnExactLitersForUptoRow.holds Try.pinned (OpenSpec.upto fnExactLitersForSpec)

/-- 'laws.FnTariffs', WHERE WHAT IT READS IS OF BULK AT MOST 1048576: true; the input reads as it did. -/
def fnTariffsUptoRow : OpenClaim := { program := "ytfdeeaeenkjehaa", sum := "08d96fc947ade3bb316d4d2a7939d59a0b9bb780f64993812a52e6cf36607241", func := "loop.example/g03307/laws.FnTariffs", spec := "fnTariffs", unfollowed := true, recurses := true, apart := false, narrowed := true }
def FnTariffsUptoSaid : Prop := fnTariffsUptoRow.holds Try.pinned (OpenSpec.upto fnTariffsSpec)

end Rows
end Go.Proofs.Ytfdeeaeenkjehaa
