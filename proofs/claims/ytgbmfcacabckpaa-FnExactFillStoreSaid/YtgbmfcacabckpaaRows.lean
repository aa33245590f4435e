/-
  No cell of these rows narrows 'for every input' (looked for: loops, veiled, ifaces, maps, wideKeys, modest, calm, conditions, laid).
  DERIVED. THE GIVEN ROWS OF THIS SEAT. 4 by the template 'for every input the law returns true; each argument reads behind the call as it read before'; 0 by the template 'total and deterministic' (their statements: YtgbmfcacabckpaaTotals.lean).
  GIVEN WITH THE SEED: the statements are not yours to turn. If you find one false, say at which input.
  Laid BY PROGRAM, IN A SANDBOX (cutbox-rows.mjs): the forced cells as the released guide's own fill.sh prints them over the translation 3876d7dc2aa3cb2b… (all of the seat's roots in one cut). By AI agents, Wed Nov 11 2026. No macro, syntax, notation, axiom, sorry.
-/
import Derived.Test.YtgbmfcacabckpaaChecked
import GoSem.Claim
import GoSem.ClaimJoined
import GoSem.ClaimMapViews
import Derived.JoinedTies
import Derived.KernelRfl
namespace Go.Proofs.Ytgbmfcacabckpaa
/- THE CELL 'sum', in the pinned program and in every row, IS THE sha256 OF THE DUMP (.gsa) THAT YtgbmfcacabckpaaProg.lean LOADS. Nothing in Lean hashes anything: it is a label: what it is worth is what the hold of that sum in a sandbox is worth. -/
noncomputable def Try.pinned : Pinned := { name := "ytgbmfcacabckpaa", sum := "3876d7dc2aa3cb2bcaf649f4e847a7a13c4a2fd83bd2fc83fa2be746973ba434", checked := Try.checked }
namespace Rows
def none {H : Type} : Left H := { results := [], args := [] }

/-- 'laws.FnExactStoreOk': WHATEVER THE INPUT: true; the input reads as it did. -/
def fnExactStoreOkSpec : ChangeSpec := { name := "fnExactStoreOk", fn := fun _ => fun
  | [d] => { results := [.lit (.bool true)], args := [d] }
  | _ => none }
def fnExactStoreOkRow : OpenClaim := { program := "ytgbmfcacabckpaa", sum := "3876d7dc2aa3cb2bcaf649f4e847a7a13c4a2fd83bd2fc83fa2be746973ba434", func := "loop.example/g03307/laws.FnExactStoreOk", spec := "fnExactStoreOk", apart := false }
def FnExactStoreOkSaid : Prop := fnExactStoreOkRow.holds Try.pinned (OpenSpec.ofChange fnExactStoreOkSpec)

/-- ITS FALSE NEIGHBOUR: 'it returns false'. Refute it at one input. -/
def fnExactStoreOkWrong : ChangeSpec := { name := "fnExactStoreOk", fn := fun _ => fun
  | [d] => { results := [.lit (.bool false)], args := [d] }
  | _ => none }
def FnExactStoreOkWrongFalsely : Prop := fnExactStoreOkRow.holds Try.pinned (OpenSpec.ofChange fnExactStoreOkWrong)

/-- 'laws.FnExactUsable': WHATEVER THE INPUT: true; the input reads as it did. -/
def fnExactUsableSpec : ChangeSpec := { name := "fnExactUsable", fn := fun _ => fun
  | [d] => { results := [.lit (.bool true)], args := [d] }
  | _ => none }
def fnExactUsableRow : OpenClaim := { program := "ytgbmfcacabckpaa", sum := "3876d7dc2aa3cb2bcaf649f4e847a7a13c4a2fd83bd2fc83fa2be746973ba434", func := "loop.example/g03307/laws.FnExactUsable", spec := "fnExactUsable", apart := false }
def FnExactUsableSaid : Prop := fnExactUsableRow.holds Try.pinned (OpenSpec.ofChange fnExactUsableSpec)

/-- ITS FALSE NEIGHBOUR: 'it returns false'. Refute it at one input. -/
def fnExactUsableWrong : ChangeSpec := { name := "fnExactUsable", fn := fun _ => fun
  | [d] => { results := [.lit (.bool false)], args := [d] }
  | _ => none }
def FnExactUsableWrongFalsely : Prop := fnExactUsableRow.holds Try.pinned (OpenSpec.ofChange fnExactUsableWrong)

/-- 'laws.FnExactFightFire': WHATEVER THE INPUT: true; the input reads as it did. -/
def fnExactFightFireSpec : ChangeSpec := { name := "fnExactFightFire", fn := fun _ => fun
  | [d1, d2] => { results := [.lit (.bool true)], args := [d1, d2] }
  | _ => none }
def fnExactFightFireRow : OpenClaim := { program := "ytgbmfcacabckpaa", sum := "3876d7dc2aa3cb2bcaf649f4e847a7a13c4a2fd83bd2fc83fa2be746973ba434", func := "loop.example/g03307/laws.FnExactFightFire", spec := "fnExactFightFire", apart := false }
def FnExactFightFireSaid : Prop := fnExactFightFireRow.holds Try.pinned (OpenSpec.ofChange fnExactFightFireSpec)

/-- ITS FALSE NEIGHBOUR: 'it returns false'. Refute it at one input. -/
def fnExactFightFireWrong : ChangeSpec := { name := "fnExactFightFire", fn := fun _ => fun
  | [d1, d2] => { results := [.lit (.bool false)], args := [d1, d2] }
  | _ => none }
def FnExactFightFireWrongFalsely : Prop := fnExactFightFireRow.holds Try.pinned (OpenSpec.ofChange fnExactFightFireWrong)

/-- 'laws.FnExactFillStore': WHATEVER THE INPUT: true; the input reads as it did. -/
def fnExactFillStoreSpec : ChangeSpec := { name := "fnExactFillStore", fn := fun _ => fun
  | [d1, d2] => { results := [.lit (.bool true)], args := [d1, d2] }
  | _ => none }
def fnExactFillStoreRow : OpenClaim := { program := "ytgbmfcacabckpaa", sum := "3876d7dc2aa3cb2bcaf649f4e847a7a13c4a2fd83bd2fc83fa2be746973ba434", func := "loop.example/g03307/laws.FnExactFillStore", spec := "fnExactFillStore", apart := false }
def FnExactFillStoreSaid : Prop := fnExactFillStoreRow.holds Try.pinned (OpenSpec.ofChange fnExactFillStoreSpec)

/-- ITS FALSE NEIGHBOUR: 'it returns false'. Refute it at one input. -/
def fnExactFillStoreWrong : ChangeSpec := { name := "fnExactFillStore", fn := fun _ => fun
  | [d1, d2] => { results := [.lit (.bool false)], args := [d1, d2] }
  | _ => none }
def FnExactFillStoreWrongFalsely : Prop := fnExactFillStoreRow.holds Try.pinned (OpenSpec.ofChange fnExactFillStoreWrong)

/- THE SECOND FORM. 'bulk': how many values and letters a reading holds, each counted each time it is reached (what is shared counts as often as it is met; a slice's spare places count too). A statement '..UptoSaid' is the law's where the arguments, and the package variables that the reading takes, are together of bulk at most 1048576: NARROWER than '..Said'. Prove '..Said' where nothing that the law and all that it calls make is longer than what came in: it says more and counts as full. Else prove '..UptoSaid'. A law counts once. -/
mutual
def uptoBulk {H : Type} : DataW H → Nat
  | .lit (.string bytes) => bytes.length + 1
  | .lit _ => 1
  | .nil => 1
  | .ptr d => uptoBulk d + 1
  | .slice elems spare => uptoBulkAll elems + uptoBulkAll spare + 1
  | .agg parts => uptoBulkAll parts + 1
  | .iface _ d => uptoBulk d + 1
  | .map entries => uptoBulkEntries entries + 1
  | .held _ => 1
def uptoBulkAll {H : Type} : List (DataW H) → Nat
  | [] => 0
  | d :: r => uptoBulk d + uptoBulkAll r
def uptoBulkEntries {H : Type} : List (Lit × DataW H) → Nat
  | [] => 0
  | x :: r => uptoBulkEntry x + uptoBulkEntries r
def uptoBulkEntry {H : Type} : Lit × DataW H → Nat
  | (.string bytes, d) => bytes.length + uptoBulk d + 1
  | (_, d) => uptoBulk d + 1
 end
def uptoSmall : (H : Type) → List (DataW H) → Bool := fun _ ds => decide (uptoBulkAll ds ≤ 1048576)
def OpenSpec.upto (s : _root_.Go.ChangeSpec) : _root_.Go.OpenSpec := { _root_.Go.OpenSpec.ofChange s with cond := some uptoSmall }

/-- 'laws.FnExactStoreOk', WHERE WHAT IT READS IS OF BULK AT MOST 1048576: true; the input reads as it did. -/
def fnExactStoreOkUptoRow : OpenClaim := { program := "ytgbmfcacabckpaa", sum := "3876d7dc2aa3cb2bcaf649f4e847a7a13c4a2fd83bd2fc83fa2be746973ba434", func := "loop.example/g03307/laws.FnExactStoreOk", spec := "fnExactStoreOk", apart := false, narrowed := true }
def FnExactStoreOkUptoSaid : Prop := fnExactStoreOkUptoRow.holds Try.pinned (OpenSpec.upto fnExactStoreOkSpec)

/-- 'laws.FnExactUsable', WHERE WHAT IT READS IS OF BULK AT MOST 1048576: true; the input reads as it did. -/
def fnExactUsableUptoRow : OpenClaim := { program := "ytgbmfcacabckpaa", sum := "3876d7dc2aa3cb2bcaf649f4e847a7a13c4a2fd83bd2fc83fa2be746973ba434", func := "loop.example/g03307/laws.FnExactUsable", spec := "fnExactUsable", apart := false, narrowed := true }
def FnExactUsableUptoSaid : Prop := fnExactUsableUptoRow.holds Try.pinned (OpenSpec.upto fnExactUsableSpec)

/-- 'laws.FnExactFightFire', WHERE WHAT IT READS IS OF BULK AT MOST 1048576: true; the input reads as it did. -/
def fnExactFightFireUptoRow : OpenClaim := { program := "ytgbmfcacabckpaa", sum := "3876d7dc2aa3cb2bcaf649f4e847a7a13c4a2fd83bd2fc83fa2be746973ba434", func := "loop.example/g03307/laws.FnExactFightFire", spec := "fnExactFightFire", apart := false, narrowed := true }
def FnExactFightFireUptoSaid : Prop := fnExactFightFireUptoRow.holds Try.pinned (OpenSpec.upto fnExactFightFireSpec)

/-- 'laws.FnExactFillStore', WHERE WHAT IT READS IS OF BULK AT MOST 1048576: true; the input reads as it did. -/
def fnExactFillStoreUptoRow : OpenClaim := { program := "ytgbmfcacabckpaa", sum := "3876d7dc2aa3cb2bcaf649f4e847a7a13c4a2fd83bd2fc83fa2be746973ba434", func := "loop.example/g03307/laws.FnExactFillStore", spec := "fnExactFillStore", apart := false, narrowed := true }
def FnExactFillStoreUptoSaid : Prop := fnExactFillStoreUptoRow.holds Try.pinned (OpenSpec.upto fnExactFillStoreSpec)

end Rows
end Go.Proofs.Ytgbmfcacabckpaa
