/-
  No cell of these rows narrows 'for every input' (looked for: loops, veiled, ifaces, maps, wideKeys, modest, calm, conditions, laid).
  DERIVED. THE GIVEN ROWS OF THIS SEAT. 7 by the template 'for every input the law returns true; each argument reads behind the call as it read before'; 0 by the template 'total and deterministic' (their statements: YtdkllicbaiodcaaTotals.lean).
  GIVEN WITH THE SEED: the statements are not yours to turn. If you find one false, say at which input.
  Laid BY PROGRAM, IN A SANDBOX (cutbox-rows.mjs): the forced cells as the released guide's own fill.sh prints them over the translation d4a4d583cf8fdc76… (all of the seat's roots in one cut). By AI agents, Wed Nov 11 2026. No macro, syntax, notation, axiom, sorry.
-/
import Derived.Test.YtdkllicbaiodcaaChecked
import GoSem.Claim
import GoSem.ClaimJoined
import GoSem.ClaimMapViews
import Derived.JoinedTies
import Derived.KernelRfl
namespace Go.Proofs.Ytdkllicbaiodcaa
/- THE CELL 'sum', in the pinned program and in every row, IS THE sha256 OF THE DUMP (.gsa) THAT YtdkllicbaiodcaaProg.lean LOADS. Nothing in Lean hashes anything: it is a label: what it is worth is what the hold of that sum in a sandbox is worth. -/
noncomputable def Try.pinned : Pinned := { name := "ytdkllicbaiodcaa", sum := "d4a4d583cf8fdc768d9fa958c44ab189eb89a87734de9ccb82c2fc0dbb202ee8", checked := Try.checked }
namespace Rows
def none {H : Type} : Left H := { results := [], args := [] }

/-- 'laws.FnExactPondOk': WHATEVER THE INPUT: true; the input reads as it did. -/
def fnExactPondOkSpec : ChangeSpec := { name := "fnExactPondOk", fn := fun _ => fun
  | [d] => { results := [.lit (.bool true)], args := [d] }
  | _ => none }
def fnExactPondOkRow : OpenClaim := { program := "ytdkllicbaiodcaa", sum := "d4a4d583cf8fdc768d9fa958c44ab189eb89a87734de9ccb82c2fc0dbb202ee8", func := "loop.example/g03307/laws.FnExactPondOk", spec := "fnExactPondOk", apart := false }
def FnExactPondOkSaid : Prop := fnExactPondOkRow.holds Try.pinned (OpenSpec.ofChange fnExactPondOkSpec)

/-- ITS FALSE NEIGHBOUR: 'it returns false'. Refute it at one input. -/
def fnExactPondOkWrong : ChangeSpec := { name := "fnExactPondOk", fn := fun _ => fun
  | [d] => { results := [.lit (.bool false)], args := [d] }
  | _ => none }
def FnExactPondOkWrongFalsely : Prop := fnExactPondOkRow.holds Try.pinned (OpenSpec.ofChange fnExactPondOkWrong)

/-- 'laws.FnExactLitersOf': WHATEVER THE INPUT: true; the input reads as it did. -/
def fnExactLitersOfSpec : ChangeSpec := { name := "fnExactLitersOf", fn := fun _ => fun
  | [d] => { results := [.lit (.bool true)], args := [d] }
  | _ => none }
def fnExactLitersOfRow : OpenClaim := { program := "ytdkllicbaiodcaa", sum := "d4a4d583cf8fdc768d9fa958c44ab189eb89a87734de9ccb82c2fc0dbb202ee8", func := "loop.example/g03307/laws.FnExactLitersOf", spec := "fnExactLitersOf", apart := false }
def FnExactLitersOfSaid : Prop := fnExactLitersOfRow.holds Try.pinned (OpenSpec.ofChange fnExactLitersOfSpec)

/-- ITS FALSE NEIGHBOUR: 'it returns false'. Refute it at one input. -/
def fnExactLitersOfWrong : ChangeSpec := { name := "fnExactLitersOf", fn := fun _ => fun
  | [d] => { results := [.lit (.bool false)], args := [d] }
  | _ => none }
def FnExactLitersOfWrongFalsely : Prop := fnExactLitersOfRow.holds Try.pinned (OpenSpec.ofChange fnExactLitersOfWrong)

/-- 'laws.FnExactDryDay': WHATEVER THE INPUT: true; the input reads as it did. -/
def fnExactDryDaySpec : ChangeSpec := { name := "fnExactDryDay", fn := fun _ => fun
  | [d1, d2] => { results := [.lit (.bool true)], args := [d1, d2] }
  | _ => none }
def fnExactDryDayRow : OpenClaim := { program := "ytdkllicbaiodcaa", sum := "d4a4d583cf8fdc768d9fa958c44ab189eb89a87734de9ccb82c2fc0dbb202ee8", func := "loop.example/g03307/laws.FnExactDryDay", spec := "fnExactDryDay", apart := false }
def FnExactDryDaySaid : Prop := fnExactDryDayRow.holds Try.pinned (OpenSpec.ofChange fnExactDryDaySpec)

/-- ITS FALSE NEIGHBOUR: 'it returns false'. Refute it at one input. -/
def fnExactDryDayWrong : ChangeSpec := { name := "fnExactDryDay", fn := fun _ => fun
  | [d1, d2] => { results := [.lit (.bool false)], args := [d1, d2] }
  | _ => none }
def FnExactDryDayWrongFalsely : Prop := fnExactDryDayRow.holds Try.pinned (OpenSpec.ofChange fnExactDryDayWrong)

/-- 'laws.FnExactDaysUntilDry': WHATEVER THE INPUT: true; the input reads as it did. -/
def fnExactDaysUntilDrySpec : ChangeSpec := { name := "fnExactDaysUntilDry", fn := fun _ => fun
  | [d1, d2] => { results := [.lit (.bool true)], args := [d1, d2] }
  | _ => none }
def fnExactDaysUntilDryRow : OpenClaim := { program := "ytdkllicbaiodcaa", sum := "d4a4d583cf8fdc768d9fa958c44ab189eb89a87734de9ccb82c2fc0dbb202ee8", func := "loop.example/g03307/laws.FnExactDaysUntilDry", spec := "fnExactDaysUntilDry", apart := false }
def FnExactDaysUntilDrySaid : Prop := fnExactDaysUntilDryRow.holds Try.pinned (OpenSpec.ofChange fnExactDaysUntilDrySpec)

/-- ITS FALSE NEIGHBOUR: 'it returns false'. Refute it at one input. -/
def fnExactDaysUntilDryWrong : ChangeSpec := { name := "fnExactDaysUntilDry", fn := fun _ => fun
  | [d1, d2] => { results := [.lit (.bool false)], args := [d1, d2] }
  | _ => none }
def FnExactDaysUntilDryWrongFalsely : Prop := fnExactDaysUntilDryRow.holds Try.pinned (OpenSpec.ofChange fnExactDaysUntilDryWrong)

/-- 'laws.FnExactLostBy': WHATEVER THE INPUT: true; the input reads as it did. -/
def fnExactLostBySpec : ChangeSpec := { name := "fnExactLostBy", fn := fun _ => fun
  | [d1, d2] => { results := [.lit (.bool true)], args := [d1, d2] }
  | _ => none }
def fnExactLostByRow : OpenClaim := { program := "ytdkllicbaiodcaa", sum := "d4a4d583cf8fdc768d9fa958c44ab189eb89a87734de9ccb82c2fc0dbb202ee8", func := "loop.example/g03307/laws.FnExactLostBy", spec := "fnExactLostBy", apart := false }
def FnExactLostBySaid : Prop := fnExactLostByRow.holds Try.pinned (OpenSpec.ofChange fnExactLostBySpec)

/-- ITS FALSE NEIGHBOUR: 'it returns false'. Refute it at one input. -/
def fnExactLostByWrong : ChangeSpec := { name := "fnExactLostBy", fn := fun _ => fun
  | [d1, d2] => { results := [.lit (.bool false)], args := [d1, d2] }
  | _ => none }
def FnExactLostByWrongFalsely : Prop := fnExactLostByRow.holds Try.pinned (OpenSpec.ofChange fnExactLostByWrong)

/-- 'laws.FnExactCoverSaves': WHATEVER THE INPUT: true; the input reads as it did. -/
def fnExactCoverSavesSpec : ChangeSpec := { name := "fnExactCoverSaves", fn := fun _ => fun
  | [d1, d2] => { results := [.lit (.bool true)], args := [d1, d2] }
  | _ => none }
def fnExactCoverSavesRow : OpenClaim := { program := "ytdkllicbaiodcaa", sum := "d4a4d583cf8fdc768d9fa958c44ab189eb89a87734de9ccb82c2fc0dbb202ee8", func := "loop.example/g03307/laws.FnExactCoverSaves", spec := "fnExactCoverSaves", apart := false }
def FnExactCoverSavesSaid : Prop := fnExactCoverSavesRow.holds Try.pinned (OpenSpec.ofChange fnExactCoverSavesSpec)

/-- ITS FALSE NEIGHBOUR: 'it returns false'. Refute it at one input. -/
def fnExactCoverSavesWrong : ChangeSpec := { name := "fnExactCoverSaves", fn := fun _ => fun
  | [d1, d2] => { results := [.lit (.bool false)], args := [d1, d2] }
  | _ => none }
def FnExactCoverSavesWrongFalsely : Prop := fnExactCoverSavesRow.holds Try.pinned (OpenSpec.ofChange fnExactCoverSavesWrong)

/-- 'laws.FnSuns': WHATEVER THE INPUT: true; the input reads as it did. -/
def fnSunsSpec : ChangeSpec := { name := "fnSuns", fn := fun _ => fun
  | [d] => { results := [.lit (.bool true)], args := [d] }
  | _ => none }
def fnSunsRow : OpenClaim := { program := "ytdkllicbaiodcaa", sum := "d4a4d583cf8fdc768d9fa958c44ab189eb89a87734de9ccb82c2fc0dbb202ee8", func := "loop.example/g03307/laws.FnSuns", spec := "fnSuns", apart := false }
def FnSunsSaid : Prop := fnSunsRow.holds Try.pinned (OpenSpec.ofChange fnSunsSpec)

/-- ITS FALSE NEIGHBOUR: 'it returns false'. Refute it at one input. -/
def fnSunsWrong : ChangeSpec := { name := "fnSuns", fn := fun _ => fun
  | [d] => { results := [.lit (.bool false)], args := [d] }
  | _ => none }
def FnSunsWrongFalsely : Prop := fnSunsRow.holds Try.pinned (OpenSpec.ofChange fnSunsWrong)

/- THE SECOND FORM. 'bulk': how many values and letters a reading holds, each counted each time it is reached (what is shared counts as often as it is met; a slice's spare places count too). A statement '..UptoSaid' is the law's where the arguments, and the package variables that the reading takes, are together of bulk at most 1048576: NARROWER than '..Said'. Prove '..Said' where nothing that the law and all that it calls make is longer than what came in: it says more and counts as full. Else prove '..UptoSaid'. A law counts once. -/
mutual
def uptoBulk {H : Type} : DataW H → Nat
  | .lit (.string bytes) => bytes.length + 1
  | .lit _ => 1
  | .nil => 1
  | .ptr d => uptoBulk d + 1
  | .slice elems spare => uptoBulkAll elems + uptoBulkAll spare + 1
  | .agg parts => uptoBulkAll parts + 1
  | .iface _ d => uptoBulk d + 1
  | .map entries => uptoBulkEntries entries + 1
  | .held _ => 1
def uptoBulkAll {H : Type} : List (DataW H) → Nat
  | [] => 0
  | d :: r => uptoBulk d + uptoBulkAll r
def uptoBulkEntries {H : Type} : List (Lit × DataW H) → Nat
  | [] => 0
  | x :: r => uptoBulkEntry x + uptoBulkEntries r
def uptoBulkEntry {H : Type} : Lit × DataW H → Nat
  | (.string bytes, d) => bytes.length + uptoBulk d + 1
  | (_, d) => uptoBulk d + 1
 end
def uptoSmall : (H : Type) → List (DataW H) → Bool := fun _ ds => decide (uptoBulkAll ds ≤ 1048576)
def OpenSpec.upto (s : _root_.Go.ChangeSpec) : _root_.Go.OpenSpec := { _root_.Go.OpenSpec.ofChange s with cond := some uptoSmall }

/-- 'laws.FnExactPondOk', WHERE WHAT IT READS IS OF BULK AT MOST 1048576: true; the input reads as it did. -/
def fnExactPondOkUptoRow : OpenClaim := { program := "ytdkllicbaiodcaa", sum := "d4a4d583cf8fdc768d9fa958c44ab189eb89a87734de9ccb82c2fc0dbb202ee8", func := "loop.example/g03307/laws.FnExactPondOk", spec := "fnExactPondOk", apart := false, narrowed := true }
def FnExactPondOkUptoSaid : Prop := fnExactPondOkUptoRow.holds Try.pinned (OpenSpec.upto fnExactPondOkSpec)

/-- 'laws.FnExactLitersOf', WHERE WHAT IT READS IS OF BULK AT MOST 1048576: true; the input reads as it did. -/
def fnExactLitersOfUptoRow : OpenClaim := { program := "ytdkllicbaiodcaa", sum := "d4a4d583cf8fdc768d9fa958c44ab189eb89a87734de9ccb82c2fc0dbb202ee8", func := "loop.example/g03307/laws.FnExactLitersOf", spec := "fnExactLitersOf", apart := false, narrowed := true }
def FnExactLitersOfUptoSaid : Prop := fnExactLitersOfUptoRow.holds Try.pinned (OpenSpec.upto fnExactLitersOfSpec)

/-- 'laws.FnExactDryDay', WHERE WHAT IT READS IS OF BULK AT MOST 1048576: true; the input reads as it did. -/
def fnExactDryDayUptoRow : OpenClaim := { program := "ytdkllicbaiodcaa", sum := "d4a4d583cf8fdc768d9fa958c44ab189eb89a87734de9ccb82c2fc0dbb202ee8", func := "loop.example/g03307/laws.FnExactDryDay", spec := "fnExactDryDay", apart := false, narrowed := true }
def FnExactDryDayUptoSaid : Prop := fnExactDryDayUptoRow.holds Try.pinned (OpenSpec.upto fnExactDryDaySpec)

/-- 'laws.FnExactDaysUntilDry', WHERE WHAT IT READS IS OF BULK AT MOST 1048576: true; the input reads as it did. -/
def fnExactDaysUntilDryUptoRow : OpenClaim := { program := "ytdkllicbaiodcaa", sum := "d4a4d583cf8fdc768d9fa958c44ab189eb89a87734de9ccb82c2fc0dbb202ee8", func := "loop.example/g03307/laws.FnExactDaysUntilDry", spec := "fnExactDaysUntilDry", apart := false, narrowed := true }
def FnExactDaysUntilDryUptoSaid : Prop := fnExactDaysUntilDryUptoRow.holds Try.pinned (OpenSpec.upto fnExactDaysUntilDrySpec)

/-- 'laws.FnExactLostBy', WHERE WHAT IT READS IS OF BULK AT MOST 1048576: true; the input reads as it did. -/
def fnExactLostByUptoRow : OpenClaim := { program := "ytdkllicbaiodcaa", sum := "d4a4d583cf8fdc768d9fa958c44ab189eb89a87734de9ccb82c2fc0dbb202ee8", func := "loop.example/g03307/laws.FnExactLostBy", spec := "fnExactLostBy", apart := false, narrowed := true }
def FnExactLostByUptoSaid : Prop := fnExactLostByUptoRow.holds Try.pinned (OpenSpec.upto fnExactLostBySpec)

/-- 'laws.FnExactCoverSaves', WHERE WHAT IT READS IS OF BULK AT MOST 1048576: true; the input reads as it did. -/
def fnExactCoverSavesUptoRow : OpenClaim := { program := "ytdkllicbaiodcaa", sum := "d4a4d583cf8fdc768d9fa958c44ab189eb89a87734de9ccb82c2fc0dbb202ee8", func := "loop.example/g03307/laws.FnExactCoverSaves", spec := "fnExactCoverSaves", apart := false, narrowed := true }
def FnExactCoverSavesUptoSaid : Prop := fnExactCoverSavesUptoRow.holds Try.pinned (OpenSpec.upto fnExactCoverSavesSpec)

/-- 'laws.FnSuns', WHERE WHAT IT READS IS OF BULK AT MOST 1048576: true; the input reads as it did. -/
def fnSunsUptoRow : OpenClaim := { program := "ytdkllicbaiodcaa", sum := "d4a4d583cf8fdc768d9fa958c44ab189eb89a87734de9ccb82c2fc0dbb202ee8", func := "loop.example/g03307/laws.FnSuns", spec := "fnSuns", apart := false, narrowed := true }
def FnSunsUptoSaid : Prop := fnSunsUptoRow.holds Try.pinned (OpenSpec.upto fnSunsSpec)

end Rows
end Go.Proofs.Ytdkllicbaiodcaa
