/-
  No cell of these rows narrows 'for every input' (looked for: loops, veiled, ifaces, maps, wideKeys, modest, calm, conditions, laid).
  DERIVED. THE GIVEN ROWS OF THIS SEAT. 8 by the template 'for every input the law returns true; each argument reads behind the call as it read before'; 0 by the template 'total and deterministic' (their statements: YtcpoeochapnmlaaGreatTotals.lean).
  GIVEN WITH THE SEED: the statements are not yours to turn. If you find one false, say at which input.
  Laid BY PROGRAM, IN A SANDBOX (cutbox-rows.mjs): the forced cells as the released guide's own fill.sh prints them over the translation 3c46cecc3139424a… (all of the seat's roots in one cut). By AI agents, Wed Nov 11 2026. No macro, syntax, notation, axiom, sorry.
-/
import Derived.Test.YtcpoeochapnmlaaGreatChecked
import GoSem.Claim
import GoSem.ClaimJoined
import GoSem.ClaimMapViews
import Derived.JoinedTies
import Derived.KernelRfl
namespace Go.Proofs.YtcpoeochapnmlaaGreat
/- THE CELL 'sum', in the pinned program and in every row, IS THE sha256 OF THE DUMP (.gsa) THAT YtcpoeochapnmlaaGreatProg.lean LOADS. Nothing in Lean hashes anything: it is a label: what it is worth is what the hold of that sum in a sandbox is worth. -/
noncomputable def Tryz.pinned : Pinned := { name := "ytcpoeochapnmlaagreat", sum := "3c46cecc3139424a8c07daaf73940749510ed6e6119e0647813a546b39f8df8c", checked := Tryz.checked }
namespace Rows
def none {H : Type} : Left H := { results := [], args := [] }

/-- 'laws.FnExactInsertEdits': WHATEVER THE INPUT: true; the input reads as it did. -/
def fnExactInsertEditsSpec : ChangeSpec := { name := "fnExactInsertEdits", fn := fun _ => fun
  | [d1, d2] => { results := [.lit (.bool true)], args := [d1, d2] }
  | _ => none }
def fnExactInsertEditsRow : OpenClaim := { program := "ytcpoeochapnmlaagreat", sum := "3c46cecc3139424a8c07daaf73940749510ed6e6119e0647813a546b39f8df8c", func := "loop.example/g00408/laws.FnExactInsertEdits", spec := "fnExactInsertEdits", unfollowed := true, recurses := true, plainKeys := false, apart := false }
def FnExactInsertEditsSaid : Prop := fnExactInsertEditsRow.holds Tryz.pinned (OpenSpec.ofChange fnExactInsertEditsSpec)

/-- ITS FALSE NEIGHBOUR: 'it returns false'. Refute it at one input. -/
def fnExactInsertEditsWrong : ChangeSpec := { name := "fnExactInsertEdits", fn := fun _ => fun
  | [d1, d2] => { results := [.lit (.bool false)], args := [d1, d2] }
  | _ => none }
def FnExactInsertEditsWrongFalsely : Prop := fnExactInsertEditsRow.holds Tryz.pinned (OpenSpec.ofChange fnExactInsertEditsWrong)

/-- 'laws.FnExactUpdateEdits': WHATEVER THE INPUT: true; the input reads as it did. -/
def fnExactUpdateEditsSpec : ChangeSpec := { name := "fnExactUpdateEdits", fn := fun _ => fun
  | [d1, d2] => { results := [.lit (.bool true)], args := [d1, d2] }
  | _ => none }
def fnExactUpdateEditsRow : OpenClaim := { program := "ytcpoeochapnmlaagreat", sum := "3c46cecc3139424a8c07daaf73940749510ed6e6119e0647813a546b39f8df8c", func := "loop.example/g00408/laws.FnExactUpdateEdits", spec := "fnExactUpdateEdits", unfollowed := true, recurses := true, plainKeys := false, apart := false }
def FnExactUpdateEditsSaid : Prop := fnExactUpdateEditsRow.holds Tryz.pinned (OpenSpec.ofChange fnExactUpdateEditsSpec)

/-- ITS FALSE NEIGHBOUR: 'it returns false'. Refute it at one input. -/
def fnExactUpdateEditsWrong : ChangeSpec := { name := "fnExactUpdateEdits", fn := fun _ => fun
  | [d1, d2] => { results := [.lit (.bool false)], args := [d1, d2] }
  | _ => none }
def FnExactUpdateEditsWrongFalsely : Prop := fnExactUpdateEditsRow.holds Tryz.pinned (OpenSpec.ofChange fnExactUpdateEditsWrong)

/-- 'laws.FnExactEditsFor': WHATEVER THE INPUT: true; the input reads as it did. -/
def fnExactEditsForSpec : ChangeSpec := { name := "fnExactEditsFor", fn := fun _ => fun
  | [d1, d2] => { results := [.lit (.bool true)], args := [d1, d2] }
  | _ => none }
def fnExactEditsForRow : OpenClaim := { program := "ytcpoeochapnmlaagreat", sum := "3c46cecc3139424a8c07daaf73940749510ed6e6119e0647813a546b39f8df8c", func := "loop.example/g00408/laws.FnExactEditsFor", spec := "fnExactEditsFor", unfollowed := true, recurses := true, plainKeys := false, apart := false }
def FnExactEditsForSaid : Prop := fnExactEditsForRow.holds Tryz.pinned (OpenSpec.ofChange fnExactEditsForSpec)

/-- ITS FALSE NEIGHBOUR: 'it returns false'. Refute it at one input. -/
def fnExactEditsForWrong : ChangeSpec := { name := "fnExactEditsFor", fn := fun _ => fun
  | [d1, d2] => { results := [.lit (.bool false)], args := [d1, d2] }
  | _ => none }
def FnExactEditsForWrongFalsely : Prop := fnExactEditsForRow.holds Tryz.pinned (OpenSpec.ofChange fnExactEditsForWrong)

/-- 'laws.FnPlains': WHATEVER THE INPUT: true; the input reads as it did. -/
def fnPlainsSpec : ChangeSpec := { name := "fnPlains", fn := fun _ => fun
  | [d] => { results := [.lit (.bool true)], args := [d] }
  | _ => none }
def fnPlainsRow : OpenClaim := { program := "ytcpoeochapnmlaagreat", sum := "3c46cecc3139424a8c07daaf73940749510ed6e6119e0647813a546b39f8df8c", func := "loop.example/g00408/laws.FnPlains", spec := "fnPlains", unfollowed := true, recurses := true, plainKeys := false, apart := false }
def FnPlainsSaid : Prop := fnPlainsRow.holds Tryz.pinned (OpenSpec.ofChange fnPlainsSpec)

/-- ITS FALSE NEIGHBOUR: 'it returns false'. Refute it at one input. -/
def fnPlainsWrong : ChangeSpec := { name := "fnPlains", fn := fun _ => fun
  | [d] => { results := [.lit (.bool false)], args := [d] }
  | _ => none }
def FnPlainsWrongFalsely : Prop := fnPlainsRow.holds Tryz.pinned (OpenSpec.ofChange fnPlainsWrong)

/-- 'laws.FnBacks': WHATEVER THE INPUT: true; the input reads as it did. -/
def fnBacksSpec : ChangeSpec := { name := "fnBacks", fn := fun _ => fun
  | [d] => { results := [.lit (.bool true)], args := [d] }
  | _ => none }
def fnBacksRow : OpenClaim := { program := "ytcpoeochapnmlaagreat", sum := "3c46cecc3139424a8c07daaf73940749510ed6e6119e0647813a546b39f8df8c", func := "loop.example/g00408/laws.FnBacks", spec := "fnBacks", unfollowed := true, recurses := true, plainKeys := false, apart := false }
def FnBacksSaid : Prop := fnBacksRow.holds Tryz.pinned (OpenSpec.ofChange fnBacksSpec)

/-- ITS FALSE NEIGHBOUR: 'it returns false'. Refute it at one input. -/
def fnBacksWrong : ChangeSpec := { name := "fnBacks", fn := fun _ => fun
  | [d] => { results := [.lit (.bool false)], args := [d] }
  | _ => none }
def FnBacksWrongFalsely : Prop := fnBacksRow.holds Tryz.pinned (OpenSpec.ofChange fnBacksWrong)

/-- 'laws.FnInserts': WHATEVER THE INPUT: true; the input reads as it did. -/
def fnInsertsSpec : ChangeSpec := { name := "fnInserts", fn := fun _ => fun
  | [d] => { results := [.lit (.bool true)], args := [d] }
  | _ => none }
def fnInsertsRow : OpenClaim := { program := "ytcpoeochapnmlaagreat", sum := "3c46cecc3139424a8c07daaf73940749510ed6e6119e0647813a546b39f8df8c", func := "loop.example/g00408/laws.FnInserts", spec := "fnInserts", unfollowed := true, recurses := true, plainKeys := false, apart := false }
def FnInsertsSaid : Prop := fnInsertsRow.holds Tryz.pinned (OpenSpec.ofChange fnInsertsSpec)

/-- ITS FALSE NEIGHBOUR: 'it returns false'. Refute it at one input. -/
def fnInsertsWrong : ChangeSpec := { name := "fnInserts", fn := fun _ => fun
  | [d] => { results := [.lit (.bool false)], args := [d] }
  | _ => none }
def FnInsertsWrongFalsely : Prop := fnInsertsRow.holds Tryz.pinned (OpenSpec.ofChange fnInsertsWrong)

/-- 'laws.FnExactCrashConnector': WHATEVER THE INPUT: true; the input reads as it did. -/
def fnExactCrashConnectorSpec : ChangeSpec := { name := "fnExactCrashConnector", fn := fun _ => fun
  | [d] => { results := [.lit (.bool true)], args := [d] }
  | _ => none }
def fnExactCrashConnectorRow : OpenClaim := { program := "ytcpoeochapnmlaagreat", sum := "3c46cecc3139424a8c07daaf73940749510ed6e6119e0647813a546b39f8df8c", func := "loop.example/g00408/laws.FnExactCrashConnector", spec := "fnExactCrashConnector", unfollowed := true, recurses := true, plainKeys := false, apart := false }
def FnExactCrashConnectorSaid : Prop := fnExactCrashConnectorRow.holds Tryz.pinned (OpenSpec.ofChange fnExactCrashConnectorSpec)

/-- ITS FALSE NEIGHBOUR: 'it returns false'. Refute it at one input. -/
def fnExactCrashConnectorWrong : ChangeSpec := { name := "fnExactCrashConnector", fn := fun _ => fun
  | [d] => { results := [.lit (.bool false)], args := [d] }
  | _ => none }
def FnExactCrashConnectorWrongFalsely : Prop := fnExactCrashConnectorRow.holds Tryz.pinned (OpenSpec.ofChange fnExactCrashConnectorWrong)

/-- 'laws.FnExactSaveConnector': WHATEVER THE INPUT: true; the input reads as it did. -/
def fnExactSaveConnectorSpec : ChangeSpec := { name := "fnExactSaveConnector", fn := fun _ => fun
  | [d] => { results := [.lit (.bool true)], args := [d] }
  | _ => none }
def fnExactSaveConnectorRow : OpenClaim := { program := "ytcpoeochapnmlaagreat", sum := "3c46cecc3139424a8c07daaf73940749510ed6e6119e0647813a546b39f8df8c", func := "loop.example/g00408/laws.FnExactSaveConnector", spec := "fnExactSaveConnector", unfollowed := true, recurses := true, plainKeys := false, apart := false }
def FnExactSaveConnectorSaid : Prop := fnExactSaveConnectorRow.holds Tryz.pinned (OpenSpec.ofChange fnExactSaveConnectorSpec)

/-- ITS FALSE NEIGHBOUR: 'it returns false'. Refute it at one input. -/
def fnExactSaveConnectorWrong : ChangeSpec := { name := "fnExactSaveConnector", fn := fun _ => fun
  | [d] => { results := [.lit (.bool false)], args := [d] }
  | _ => none }
def FnExactSaveConnectorWrongFalsely : Prop := fnExactSaveConnectorRow.holds Tryz.pinned (OpenSpec.ofChange fnExactSaveConnectorWrong)

/- THE SECOND FORM. 'bulk': how many values and letters a reading holds, each counted each time it is reached (what is shared counts as often as it is met; a slice's spare places count too). A statement '..UptoSaid' is the law's where the arguments, and the package variables that the reading takes, are together of bulk at most 1048576: NARROWER than '..Said'. Prove '..Said' where nothing that the law and all that it calls make is longer than what came in: it says more and counts as full. Else prove '..UptoSaid'. A law counts once. -/
mutual
def uptoBulk {H : Type} : DataW H → Nat
  | .lit (.string bytes) => bytes.length + 1
  | .lit _ => 1
  | .nil => 1
  | .ptr d => uptoBulk d + 1
  | .slice elems spare => uptoBulkAll elems + uptoBulkAll spare + 1
  | .agg parts => uptoBulkAll parts + 1
  | .iface _ d => uptoBulk d + 1
  | .map entries => uptoBulkEntries entries + 1
  | .held _ => 1
def uptoBulkAll {H : Type} : List (DataW H) → Nat
  | [] => 0
  | d :: r => uptoBulk d + uptoBulkAll r
def uptoBulkEntries {H : Type} : List (Lit × DataW H) → Nat
  | [] => 0
  | x :: r => uptoBulkEntry x + uptoBulkEntries r
def uptoBulkEntry {H : Type} : Lit × DataW H → Nat
  | (.string bytes, d) => bytes.length + uptoBulk d + 1
  | (_, d) => uptoBulk d + 1
 end
def uptoSmall : (H : Type) → List (DataW H) → Bool := fun _ ds => decide (uptoBulkAll ds ≤ 1048576)
def OpenSpec.upto (s : _root_.Go.ChangeSpec) : _root_.Go.OpenSpec := { _root_.Go.OpenSpec.ofChange s with cond := some uptoSmall }

/-- 'laws.FnExactInsertEdits', WHERE WHAT IT READS IS OF BULK AT MOST 1048576: true; the input reads as it did. -/
def fnExactInsertEditsUptoRow : OpenClaim := { program := "ytcpoeochapnmlaagreat", sum := "3c46cecc3139424a8c07daaf73940749510ed6e6119e0647813a546b39f8df8c", func := "loop.example/g00408/laws.FnExactInsertEdits", spec := "fnExactInsertEdits", unfollowed := true, recurses := true, plainKeys := false, apart := false, narrowed := true }
def FnExactInsertEditsUptoSaid : Prop := fnExactInsertEditsUptoRow.holds Tryz.pinned (OpenSpec.upto fnExactInsertEditsSpec)

/-- 'laws.FnExactUpdateEdits', WHERE WHAT IT READS IS OF BULK AT MOST 1048576: true; the input reads as it did. -/
def fnExactUpdateEditsUptoRow : OpenClaim := { program := "ytcpoeochapnmlaagreat", sum := "3c46cecc3139424a8c07daaf73940749510ed6e6119e0647813a546b39f8df8c", func := "loop.example/g00408/laws.FnExactUpdateEdits", spec := "fnExactUpdateEdits", unfollowed := true, recurses := true, plainKeys := false, apart := false, narrowed := true }
def FnExactUpdateEditsUptoSaid : Prop := fnExactUpdateEditsUptoRow.holds Tryz.pinned (OpenSpec.upto fnExactUpdateEditsSpec)

/-- 'laws.FnExactEditsFor', WHERE WHAT IT READS IS OF BULK AT MOST 1048576: true; the input reads as it did. -/
def fnExactEditsForUptoRow : OpenClaim := { program := "ytcpoeochapnmlaagreat", sum := "3c46cecc3139424a8c07daaf73940749510ed6e6119e0647813a546b39f8df8c", func := "loop.example/g00408/laws.FnExactEditsFor", spec := "fnExactEditsFor", unfollowed := true, recurses := true, plainKeys := false, apart := false, narrowed := true }
def FnExactEditsForUptoSaid : Prop := fnExactEditsForUptoRow.holds Tryz.pinned (OpenSpec.upto fnExactEditsForSpec)

/-- 'laws.FnPlains', WHERE WHAT IT READS IS OF BULK AT MOST 1048576: true; the input reads as it did. -/
def fnPlainsUptoRow : OpenClaim := { program := "ytcpoeochapnmlaagreat", sum := "3c46cecc3139424a8c07daaf73940749510ed6e6119e0647813a546b39f8df8c", func := "loop.example/g00408/laws.FnPlains", spec := "fnPlains", unfollowed := true, recurses := true, plainKeys := false, apart := false, narrowed := true }
def FnPlainsUptoSaid : Prop := fnPlainsUptoRow.holds Tryz.pinned (OpenSpec.upto fnPlainsSpec)

/-- 'laws.FnBacks', WHERE WHAT IT READS IS OF BULK AT MOST 1048576: true; the input reads as it did. -/
def fnBacksUptoRow : OpenClaim := { program := "ytcpoeochapnmlaagreat", sum := "3c46cecc3139424a8c07daaf73940749510ed6e6119e0647813a546b39f8df8c", func := "loop.example/g00408/laws.FnBacks", spec := "fnBacks", unfollowed := true, recurses := true, plainKeys := false, apart := false, narrowed := true }
def FnBacksUptoSaid : Prop := fnBacksUptoRow.holds Tryz.pinned (OpenSpec.upto fnBacksSpec)

/-- 'laws.FnInserts', WHERE WHAT IT READS IS OF BULK AT MOST 1048576: true; the input reads as it did. -/
def fnInsertsUptoRow : OpenClaim := { program := "ytcpoeochapnmlaagreat", sum := "3c46cecc3139424a8c07daaf73940749510ed6e6119e0647813a546b39f8df8c", func := "loop.example/g00408/laws.FnInserts", spec := "fnInserts", unfollowed := true, recurses := true, plainKeys := false, apart := false, narrowed := true }
def FnInsertsUptoSaid : Prop := fnInsertsUptoRow.holds Tryz.pinned (OpenSpec.upto fnInsertsSpec)

/-- 'laws.FnExactCrashConnector', WHERE WHAT IT READS IS OF BULK AT MOST 1048576: true; the input reads as it did. -/
def fnExactCrashConnectorUptoRow : OpenClaim := { program := "ytcpoeochapnmlaagreat", sum := "3c46cecc3139424a8c07daaf73940749510ed6e6119e0647813a546b39f8df8c", func := "loop.example/g00408/laws.FnExactCrashConnector", spec := "fnExactCrashConnector", unfollowed := true, recurses := true, plainKeys := false, apart := false, narrowed := true }
def FnExactCrashConnectorUptoSaid : Prop := fnExactCrashConnectorUptoRow.holds Tryz.pinned (OpenSpec.upto fnExactCrashConnectorSpec)

/-- 'laws.FnExactSaveConnector', WHERE WHAT IT READS IS OF BULK AT MOST 1048576: true; the input reads as it did. -/
def fnExactSaveConnectorUptoRow : OpenClaim := { program := "ytcpoeochapnmlaagreat", sum := "3c46cecc3139424a8c07daaf73940749510ed6e6119e0647813a546b39f8df8c", func := "loop.example/g00408/laws.FnExactSaveConnector", spec := "fnExactSaveConnector", unfollowed := true, recurses := true, plainKeys := false, apart := false, narrowed := true }
def FnExactSaveConnectorUptoSaid : Prop := fnExactSaveConnectorUptoRow.holds Tryz.pinned (OpenSpec.upto fnExactSaveConnectorSpec)

end Rows
end Go.Proofs.YtcpoeochapnmlaaGreat
