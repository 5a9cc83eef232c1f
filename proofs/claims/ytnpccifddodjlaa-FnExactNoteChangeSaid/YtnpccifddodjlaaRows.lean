/-
  No cell of these rows narrows 'for every input' (looked for: loops, veiled, ifaces, maps, wideKeys, modest, calm, conditions, laid).
  DERIVED. THE GIVEN ROWS OF THIS SEAT. 9 by the template 'for every input the law returns true; each argument reads behind the call as it read before'; 0 by the template 'total and deterministic' (their statements: YtnpccifddodjlaaTotals.lean).
  GIVEN WITH THE SEED: the statements are not yours to turn. If you find one false, say at which input.
  Laid BY PROGRAM, IN A SANDBOX (cutbox-rows.mjs): the forced cells as the released guide's own fill.sh prints them over the translation acc0cf0573b81153… (all of the seat's roots in one cut). By AI agents, Wed Nov 11 2026. No macro, syntax, notation, axiom, sorry.
-/
import Derived.Test.YtnpccifddodjlaaChecked
import GoSem.Claim
import GoSem.ClaimJoined
import GoSem.ClaimMapViews
import Derived.JoinedTies
import Derived.KernelRfl
namespace Go.Proofs.Ytnpccifddodjlaa
/- THE CELL 'sum', in the pinned program and in every row, IS THE sha256 OF THE DUMP (.gsa) THAT YtnpccifddodjlaaProg.lean LOADS. Nothing in Lean hashes anything: it is a label: what it is worth is what the hold of that sum in a sandbox is worth. -/
noncomputable def Try.pinned : Pinned := { name := "ytnpccifddodjlaa", sum := "acc0cf0573b811536a07bfa3f1e62464017c7198f276772b5c4e061b6addb102", checked := Try.checked }
namespace Rows
def none {H : Type} : Left H := { results := [], args := [] }

/-- 'laws.FnExactSameSent': WHATEVER THE INPUT: true; the input reads as it did. -/
def fnExactSameSentSpec : ChangeSpec := { name := "fnExactSameSent", fn := fun _ => fun
  | [d1, d2] => { results := [.lit (.bool true)], args := [d1, d2] }
  | _ => none }
def fnExactSameSentRow : OpenClaim := { program := "ytnpccifddodjlaa", sum := "acc0cf0573b811536a07bfa3f1e62464017c7198f276772b5c4e061b6addb102", func := "loop.example/g00408/laws.FnExactSameSent", spec := "fnExactSameSent", unfollowed := true, recurses := true, plainKeys := false, apart := false }
def FnExactSameSentSaid : Prop := fnExactSameSentRow.holds Try.pinned (OpenSpec.ofChange fnExactSameSentSpec)

/-- ITS FALSE NEIGHBOUR: 'it returns false'. Refute it at one input. -/
def fnExactSameSentWrong : ChangeSpec := { name := "fnExactSameSent", fn := fun _ => fun
  | [d1, d2] => { results := [.lit (.bool false)], args := [d1, d2] }
  | _ => none }
def FnExactSameSentWrongFalsely : Prop := fnExactSameSentRow.holds Try.pinned (OpenSpec.ofChange fnExactSameSentWrong)

/-- 'laws.FnExactNewPlain': WHATEVER THE INPUT: true; the input reads as it did. -/
def fnExactNewPlainSpec : ChangeSpec := { name := "fnExactNewPlain", fn := fun _ => fun
  | [d] => { results := [.lit (.bool true)], args := [d] }
  | _ => none }
def fnExactNewPlainRow : OpenClaim := { program := "ytnpccifddodjlaa", sum := "acc0cf0573b811536a07bfa3f1e62464017c7198f276772b5c4e061b6addb102", func := "loop.example/g00408/laws.FnExactNewPlain", spec := "fnExactNewPlain", plainKeys := false, apart := false }
def FnExactNewPlainSaid : Prop := fnExactNewPlainRow.holds Try.pinned (OpenSpec.ofChange fnExactNewPlainSpec)

/-- ITS FALSE NEIGHBOUR: 'it returns false'. Refute it at one input. -/
def fnExactNewPlainWrong : ChangeSpec := { name := "fnExactNewPlain", fn := fun _ => fun
  | [d] => { results := [.lit (.bool false)], args := [d] }
  | _ => none }
def FnExactNewPlainWrongFalsely : Prop := fnExactNewPlainRow.holds Try.pinned (OpenSpec.ofChange fnExactNewPlainWrong)

/-- 'laws.FnExactNewStore': WHATEVER THE INPUT: true; the input reads as it did. -/
def fnExactNewStoreSpec : ChangeSpec := { name := "fnExactNewStore", fn := fun _ => fun
  | [d] => { results := [.lit (.bool true)], args := [d] }
  | _ => none }
def fnExactNewStoreRow : OpenClaim := { program := "ytnpccifddodjlaa", sum := "acc0cf0573b811536a07bfa3f1e62464017c7198f276772b5c4e061b6addb102", func := "loop.example/g00408/laws.FnExactNewStore", spec := "fnExactNewStore", plainKeys := false, apart := false }
def FnExactNewStoreSaid : Prop := fnExactNewStoreRow.holds Try.pinned (OpenSpec.ofChange fnExactNewStoreSpec)

/-- ITS FALSE NEIGHBOUR: 'it returns false'. Refute it at one input. -/
def fnExactNewStoreWrong : ChangeSpec := { name := "fnExactNewStore", fn := fun _ => fun
  | [d] => { results := [.lit (.bool false)], args := [d] }
  | _ => none }
def FnExactNewStoreWrongFalsely : Prop := fnExactNewStoreRow.holds Try.pinned (OpenSpec.ofChange fnExactNewStoreWrong)

/-- 'laws.FnExactAppendLog': WHATEVER THE INPUT: true; the input reads as it did. -/
def fnExactAppendLogSpec : ChangeSpec := { name := "fnExactAppendLog", fn := fun _ => fun
  | [d1, d2] => { results := [.lit (.bool true)], args := [d1, d2] }
  | _ => none }
def fnExactAppendLogRow : OpenClaim := { program := "ytnpccifddodjlaa", sum := "acc0cf0573b811536a07bfa3f1e62464017c7198f276772b5c4e061b6addb102", func := "loop.example/g00408/laws.FnExactAppendLog", spec := "fnExactAppendLog", plainKeys := false, apart := false }
def FnExactAppendLogSaid : Prop := fnExactAppendLogRow.holds Try.pinned (OpenSpec.ofChange fnExactAppendLogSpec)

/-- ITS FALSE NEIGHBOUR: 'it returns false'. Refute it at one input. -/
def fnExactAppendLogWrong : ChangeSpec := { name := "fnExactAppendLog", fn := fun _ => fun
  | [d1, d2] => { results := [.lit (.bool false)], args := [d1, d2] }
  | _ => none }
def FnExactAppendLogWrongFalsely : Prop := fnExactAppendLogRow.holds Try.pinned (OpenSpec.ofChange fnExactAppendLogWrong)

/-- 'laws.FnExactRedoAll': WHATEVER THE INPUT: true; the input reads as it did. -/
def fnExactRedoAllSpec : ChangeSpec := { name := "fnExactRedoAll", fn := fun _ => fun
  | [d] => { results := [.lit (.bool true)], args := [d] }
  | _ => none }
def fnExactRedoAllRow : OpenClaim := { program := "ytnpccifddodjlaa", sum := "acc0cf0573b811536a07bfa3f1e62464017c7198f276772b5c4e061b6addb102", func := "loop.example/g00408/laws.FnExactRedoAll", spec := "fnExactRedoAll", plainKeys := false, apart := false }
def FnExactRedoAllSaid : Prop := fnExactRedoAllRow.holds Try.pinned (OpenSpec.ofChange fnExactRedoAllSpec)

/-- ITS FALSE NEIGHBOUR: 'it returns false'. Refute it at one input. -/
def fnExactRedoAllWrong : ChangeSpec := { name := "fnExactRedoAll", fn := fun _ => fun
  | [d] => { results := [.lit (.bool false)], args := [d] }
  | _ => none }
def FnExactRedoAllWrongFalsely : Prop := fnExactRedoAllRow.holds Try.pinned (OpenSpec.ofChange fnExactRedoAllWrong)

/-- 'laws.FnLogs': WHATEVER THE INPUT: true; the input reads as it did. -/
def fnLogsSpec : ChangeSpec := { name := "fnLogs", fn := fun _ => fun
  | [d] => { results := [.lit (.bool true)], args := [d] }
  | _ => none }
def fnLogsRow : OpenClaim := { program := "ytnpccifddodjlaa", sum := "acc0cf0573b811536a07bfa3f1e62464017c7198f276772b5c4e061b6addb102", func := "loop.example/g00408/laws.FnLogs", spec := "fnLogs", unfollowed := true, recurses := true, plainKeys := false, apart := false }
def FnLogsSaid : Prop := fnLogsRow.holds Try.pinned (OpenSpec.ofChange fnLogsSpec)

/-- ITS FALSE NEIGHBOUR: 'it returns false'. Refute it at one input. -/
def fnLogsWrong : ChangeSpec := { name := "fnLogs", fn := fun _ => fun
  | [d] => { results := [.lit (.bool false)], args := [d] }
  | _ => none }
def FnLogsWrongFalsely : Prop := fnLogsRow.holds Try.pinned (OpenSpec.ofChange fnLogsWrong)

/-- 'laws.FnExactReplaySent': WHATEVER THE INPUT: true; the input reads as it did. -/
def fnExactReplaySentSpec : ChangeSpec := { name := "fnExactReplaySent", fn := fun _ => fun
  | [d1, d2] => { results := [.lit (.bool true)], args := [d1, d2] }
  | _ => none }
def fnExactReplaySentRow : OpenClaim := { program := "ytnpccifddodjlaa", sum := "acc0cf0573b811536a07bfa3f1e62464017c7198f276772b5c4e061b6addb102", func := "loop.example/g00408/laws.FnExactReplaySent", spec := "fnExactReplaySent", unfollowed := true, recurses := true, plainKeys := false, apart := false }
def FnExactReplaySentSaid : Prop := fnExactReplaySentRow.holds Try.pinned (OpenSpec.ofChange fnExactReplaySentSpec)

/-- ITS FALSE NEIGHBOUR: 'it returns false'. Refute it at one input. -/
def fnExactReplaySentWrong : ChangeSpec := { name := "fnExactReplaySent", fn := fun _ => fun
  | [d1, d2] => { results := [.lit (.bool false)], args := [d1, d2] }
  | _ => none }
def FnExactReplaySentWrongFalsely : Prop := fnExactReplaySentRow.holds Try.pinned (OpenSpec.ofChange fnExactReplaySentWrong)

/-- 'laws.FnExactOnceOnly': WHATEVER THE INPUT: true; the input reads as it did. -/
def fnExactOnceOnlySpec : ChangeSpec := { name := "fnExactOnceOnly", fn := fun _ => fun
  | [d] => { results := [.lit (.bool true)], args := [d] }
  | _ => none }
def fnExactOnceOnlyRow : OpenClaim := { program := "ytnpccifddodjlaa", sum := "acc0cf0573b811536a07bfa3f1e62464017c7198f276772b5c4e061b6addb102", func := "loop.example/g00408/laws.FnExactOnceOnly", spec := "fnExactOnceOnly", plainKeys := false, apart := false }
def FnExactOnceOnlySaid : Prop := fnExactOnceOnlyRow.holds Try.pinned (OpenSpec.ofChange fnExactOnceOnlySpec)

/-- ITS FALSE NEIGHBOUR: 'it returns false'. Refute it at one input. -/
def fnExactOnceOnlyWrong : ChangeSpec := { name := "fnExactOnceOnly", fn := fun _ => fun
  | [d] => { results := [.lit (.bool false)], args := [d] }
  | _ => none }
def FnExactOnceOnlyWrongFalsely : Prop := fnExactOnceOnlyRow.holds Try.pinned (OpenSpec.ofChange fnExactOnceOnlyWrong)

/-- 'laws.FnExactNoteChange': WHATEVER THE INPUT: true; the input reads as it did. -/
def fnExactNoteChangeSpec : ChangeSpec := { name := "fnExactNoteChange", fn := fun _ => fun
  | [d1, d2, d3] => { results := [.lit (.bool true)], args := [d1, d2, d3] }
  | _ => none }
def fnExactNoteChangeRow : OpenClaim := { program := "ytnpccifddodjlaa", sum := "acc0cf0573b811536a07bfa3f1e62464017c7198f276772b5c4e061b6addb102", func := "loop.example/g00408/laws.FnExactNoteChange", spec := "fnExactNoteChange", unfollowed := true, recurses := true, plainKeys := false, apart := false }
def FnExactNoteChangeSaid : Prop := fnExactNoteChangeRow.holds Try.pinned (OpenSpec.ofChange fnExactNoteChangeSpec)

/-- ITS FALSE NEIGHBOUR: 'it returns false'. Refute it at one input. -/
def fnExactNoteChangeWrong : ChangeSpec := { name := "fnExactNoteChange", fn := fun _ => fun
  | [d1, d2, d3] => { results := [.lit (.bool false)], args := [d1, d2, d3] }
  | _ => none }
def FnExactNoteChangeWrongFalsely : Prop := fnExactNoteChangeRow.holds Try.pinned (OpenSpec.ofChange fnExactNoteChangeWrong)

/- THE SECOND FORM. 'bulk': how many values and letters a reading holds, each counted each time it is reached (what is shared counts as often as it is met; a slice's spare places count too). A statement '..UptoSaid' is the law's where the arguments, and the package variables that the reading takes, are together of bulk at most 1048576: NARROWER than '..Said'. Prove '..Said' where nothing that the law and all that it calls make is longer than what came in: it says more and counts as full. Else prove '..UptoSaid'. A law counts once. -/
mutual
def uptoBulk {H : Type} : DataW H → Nat
  | .lit (.string bytes) => bytes.length + 1
  | .lit _ => 1
  | .nil => 1
  | .ptr d => uptoBulk d + 1
  | .slice elems spare => uptoBulkAll elems + uptoBulkAll spare + 1
  | .agg parts => uptoBulkAll parts + 1
  | .iface _ d => uptoBulk d + 1
  | .map entries => uptoBulkEntries entries + 1
  | .held _ => 1
def uptoBulkAll {H : Type} : List (DataW H) → Nat
  | [] => 0
  | d :: r => uptoBulk d + uptoBulkAll r
def uptoBulkEntries {H : Type} : List (Lit × DataW H) → Nat
  | [] => 0
  | x :: r => uptoBulkEntry x + uptoBulkEntries r
def uptoBulkEntry {H : Type} : Lit × DataW H → Nat
  | (.string bytes, d) => bytes.length + uptoBulk d + 1
  | (_, d) => uptoBulk d + 1
 end
def uptoSmall : (H : Type) → List (DataW H) → Bool := fun _ ds => decide (uptoBulkAll ds ≤ 1048576)
def OpenSpec.upto (s : _root_.Go.ChangeSpec) : _root_.Go.OpenSpec := { _root_.Go.OpenSpec.ofChange s with cond := some uptoSmall }

/-- 'laws.FnExactSameSent', WHERE WHAT IT READS IS OF BULK AT MOST 1048576: true; the input reads as it did. -/
def fnExactSameSentUptoRow : OpenClaim := { program := "ytnpccifddodjlaa", sum := "acc0cf0573b811536a07bfa3f1e62464017c7198f276772b5c4e061b6addb102", func := "loop.example/g00408/laws.FnExactSameSent", spec := "fnExactSameSent", unfollowed := true, recurses := true, plainKeys := false, apart := false, narrowed := true }
def FnExactSameSentUptoSaid : Prop := fnExactSameSentUptoRow.holds Try.pinned (OpenSpec.upto fnExactSameSentSpec)

/-- 'laws.FnExactNewPlain', WHERE WHAT IT READS IS OF BULK AT MOST 1048576: true; the input reads as it did. -/
def fnExactNewPlainUptoRow : OpenClaim := { program := "ytnpccifddodjlaa", sum := "acc0cf0573b811536a07bfa3f1e62464017c7198f276772b5c4e061b6addb102", func := "loop.example/g00408/laws.FnExactNewPlain", spec := "fnExactNewPlain", plainKeys := false, apart := false, narrowed := true }
def FnExactNewPlainUptoSaid : Prop := fnExactNewPlainUptoRow.holds Try.pinned (OpenSpec.upto fnExactNewPlainSpec)

/-- 'laws.FnExactNewStore', WHERE WHAT IT READS IS OF BULK AT MOST 1048576: true; the input reads as it did. -/
def fnExactNewStoreUptoRow : OpenClaim := { program := "ytnpccifddodjlaa", sum := "acc0cf0573b811536a07bfa3f1e62464017c7198f276772b5c4e061b6addb102", func := "loop.example/g00408/laws.FnExactNewStore", spec := "fnExactNewStore", plainKeys := false, apart := false, narrowed := true }
def FnExactNewStoreUptoSaid : Prop := fnExactNewStoreUptoRow.holds Try.pinned (OpenSpec.upto fnExactNewStoreSpec)

/-- 'laws.FnExactAppendLog', WHERE WHAT IT READS IS OF BULK AT MOST 1048576: true; the input reads as it did. -/
def fnExactAppendLogUptoRow : OpenClaim := { program := "ytnpccifddodjlaa", sum := "acc0cf0573b811536a07bfa3f1e62464017c7198f276772b5c4e061b6addb102", func := "loop.example/g00408/laws.FnExactAppendLog", spec := "fnExactAppendLog", plainKeys := false, apart := false, narrowed := true }
def FnExactAppendLogUptoSaid : Prop := fnExactAppendLogUptoRow.holds Try.pinned (OpenSpec.upto fnExactAppendLogSpec)

/-- 'laws.FnExactRedoAll', WHERE WHAT IT READS IS OF BULK AT MOST 1048576: true; the input reads as it did. -/
def fnExactRedoAllUptoRow : OpenClaim := { program := "ytnpccifddodjlaa", sum := "acc0cf0573b811536a07bfa3f1e62464017c7198f276772b5c4e061b6addb102", func := "loop.example/g00408/laws.FnExactRedoAll", spec := "fnExactRedoAll", plainKeys := false, apart := false, narrowed := true }
def FnExactRedoAllUptoSaid : Prop := fnExactRedoAllUptoRow.holds Try.pinned (OpenSpec.upto fnExactRedoAllSpec)

/-- 'laws.FnLogs', WHERE WHAT IT READS IS OF BULK AT MOST 1048576: true; the input reads as it did. -/
def fnLogsUptoRow : OpenClaim := { program := "ytnpccifddodjlaa", sum := "acc0cf0573b811536a07bfa3f1e62464017c7198f276772b5c4e061b6addb102", func := "loop.example/g00408/laws.FnLogs", spec := "fnLogs", unfollowed := true, recurses := true, plainKeys := false, apart := false, narrowed := true }
def FnLogsUptoSaid : Prop := fnLogsUptoRow.holds Try.pinned (OpenSpec.upto fnLogsSpec)

/-- 'laws.FnExactReplaySent', WHERE WHAT IT READS IS OF BULK AT MOST 1048576: true; the input reads as it did. -/
def fnExactReplaySentUptoRow : OpenClaim := { program := "ytnpccifddodjlaa", sum := "acc0cf0573b811536a07bfa3f1e62464017c7198f276772b5c4e061b6addb102", func := "loop.example/g00408/laws.FnExactReplaySent", spec := "fnExactReplaySent", unfollowed := true, recurses := true, plainKeys := false, apart := false, narrowed := true }
def FnExactReplaySentUptoSaid : Prop := fnExactReplaySentUptoRow.holds Try.pinned (OpenSpec.upto fnExactReplaySentSpec)

/-- 'laws.FnExactOnceOnly', WHERE WHAT IT READS IS OF BULK AT MOST 1048576: true; the input reads as it did. -/
def fnExactOnceOnlyUptoRow : OpenClaim := { program := "ytnpccifddodjlaa", sum := "acc0cf0573b811536a07bfa3f1e62464017c7198f276772b5c4e061b6addb102", func := "loop.example/g00408/laws.FnExactOnceOnly", spec := "fnExactOnceOnly", plainKeys := false, apart := false, narrowed := true }
def FnExactOnceOnlyUptoSaid : Prop := fnExactOnceOnlyUptoRow.holds Try.pinned (OpenSpec.upto fnExactOnceOnlySpec)

/-- 'laws.FnExactNoteChange', WHERE WHAT IT READS IS OF BULK AT MOST 1048576: true; the input reads as it did. -/
def fnExactNoteChangeUptoRow : OpenClaim := { program := "ytnpccifddodjlaa", sum := "acc0cf0573b811536a07bfa3f1e62464017c7198f276772b5c4e061b6addb102", func := "loop.example/g00408/laws.FnExactNoteChange", spec := "fnExactNoteChange", unfollowed := true, recurses := true, plainKeys := false, apart := false, narrowed := true }
def FnExactNoteChangeUptoSaid : Prop := fnExactNoteChangeUptoRow.holds Try.pinned (OpenSpec.upto fnExactNoteChangeSpec)

end Rows
end Go.Proofs.Ytnpccifddodjlaa
