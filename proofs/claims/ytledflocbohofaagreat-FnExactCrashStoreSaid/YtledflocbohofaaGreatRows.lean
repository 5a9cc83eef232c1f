/-
  No cell of these rows narrows 'for every input' (looked for: loops, veiled, ifaces, maps, wideKeys, modest, calm, conditions, laid).
  DERIVED. THE GIVEN ROWS OF THIS SEAT. 8 by the template 'for every input the law returns true; each argument reads behind the call as it read before'; 0 by the template 'total and deterministic' (their statements: YtledflocbohofaaGreatTotals.lean).
  GIVEN WITH THE SEED: the statements are not yours to turn. If you find one false, say at which input.
  Laid BY PROGRAM, IN A SANDBOX (cutbox-rows.mjs): the forced cells as the released guide's own fill.sh prints them over the translation d316bb4d44c97a2e… (all of the seat's roots in one cut). By AI agents, Wed Nov 11 2026. No macro, syntax, notation, axiom, sorry.
-/
import Derived.Test.YtledflocbohofaaGreatChecked
import GoSem.Claim
import GoSem.ClaimJoined
import GoSem.ClaimMapViews
import Derived.JoinedTies
import Derived.KernelRfl
namespace Go.Proofs.YtledflocbohofaaGreat
/- THE CELL 'sum', in the pinned program and in every row, IS THE sha256 OF THE DUMP (.gsa) THAT YtledflocbohofaaGreatProg.lean LOADS. Nothing in Lean hashes anything: it is a label: what it is worth is what the hold of that sum in a sandbox is worth. -/
noncomputable def Tryz.pinned : Pinned := { name := "ytledflocbohofaagreat", sum := "d316bb4d44c97a2e5cc8df58e704945f1b06dbc1cf58df38c91ae291b48c9b20", checked := Tryz.checked }
namespace Rows
def none {H : Type} : Left H := { results := [], args := [] }

/-- 'laws.FnExactStoreFault': WHATEVER THE INPUT: true; the input reads as it did. -/
def fnExactStoreFaultSpec : ChangeSpec := { name := "fnExactStoreFault", fn := fun _ => fun
  | [d] => { results := [.lit (.bool true)], args := [d] }
  | _ => none }
def fnExactStoreFaultRow : OpenClaim := { program := "ytledflocbohofaagreat", sum := "d316bb4d44c97a2e5cc8df58e704945f1b06dbc1cf58df38c91ae291b48c9b20", func := "loop.example/g00408/laws.FnExactStoreFault", spec := "fnExactStoreFault", unfollowed := true, recurses := true, plainKeys := false, apart := false }
def FnExactStoreFaultSaid : Prop := fnExactStoreFaultRow.holds Tryz.pinned (OpenSpec.ofChange fnExactStoreFaultSpec)

/-- ITS FALSE NEIGHBOUR: 'it returns false'. Refute it at one input. -/
def fnExactStoreFaultWrong : ChangeSpec := { name := "fnExactStoreFault", fn := fun _ => fun
  | [d] => { results := [.lit (.bool false)], args := [d] }
  | _ => none }
def FnExactStoreFaultWrongFalsely : Prop := fnExactStoreFaultRow.holds Tryz.pinned (OpenSpec.ofChange fnExactStoreFaultWrong)

/-- 'laws.FnExactSameStory': WHATEVER THE INPUT: true; the input reads as it did. -/
def fnExactSameStorySpec : ChangeSpec := { name := "fnExactSameStory", fn := fun _ => fun
  | [d1, d2] => { results := [.lit (.bool true)], args := [d1, d2] }
  | _ => none }
def fnExactSameStoryRow : OpenClaim := { program := "ytledflocbohofaagreat", sum := "d316bb4d44c97a2e5cc8df58e704945f1b06dbc1cf58df38c91ae291b48c9b20", func := "loop.example/g00408/laws.FnExactSameStory", spec := "fnExactSameStory", unfollowed := true, recurses := true, plainKeys := false, apart := false }
def FnExactSameStorySaid : Prop := fnExactSameStoryRow.holds Tryz.pinned (OpenSpec.ofChange fnExactSameStorySpec)

/-- ITS FALSE NEIGHBOUR: 'it returns false'. Refute it at one input. -/
def fnExactSameStoryWrong : ChangeSpec := { name := "fnExactSameStory", fn := fun _ => fun
  | [d1, d2] => { results := [.lit (.bool false)], args := [d1, d2] }
  | _ => none }
def FnExactSameStoryWrongFalsely : Prop := fnExactSameStoryRow.holds Tryz.pinned (OpenSpec.ofChange fnExactSameStoryWrong)

/-- 'laws.FnExactRowsOf': WHATEVER THE INPUT: true; the input reads as it did. -/
def fnExactRowsOfSpec : ChangeSpec := { name := "fnExactRowsOf", fn := fun _ => fun
  | [d] => { results := [.lit (.bool true)], args := [d] }
  | _ => none }
def fnExactRowsOfRow : OpenClaim := { program := "ytledflocbohofaagreat", sum := "d316bb4d44c97a2e5cc8df58e704945f1b06dbc1cf58df38c91ae291b48c9b20", func := "loop.example/g00408/laws.FnExactRowsOf", spec := "fnExactRowsOf", unfollowed := true, recurses := true, plainKeys := false, apart := false }
def FnExactRowsOfSaid : Prop := fnExactRowsOfRow.holds Tryz.pinned (OpenSpec.ofChange fnExactRowsOfSpec)

/-- ITS FALSE NEIGHBOUR: 'it returns false'. Refute it at one input. -/
def fnExactRowsOfWrong : ChangeSpec := { name := "fnExactRowsOf", fn := fun _ => fun
  | [d] => { results := [.lit (.bool false)], args := [d] }
  | _ => none }
def FnExactRowsOfWrongFalsely : Prop := fnExactRowsOfRow.holds Tryz.pinned (OpenSpec.ofChange fnExactRowsOfWrong)

/-- 'laws.FnExactCrashStore': WHATEVER THE INPUT: true; the input reads as it did. -/
def fnExactCrashStoreSpec : ChangeSpec := { name := "fnExactCrashStore", fn := fun _ => fun
  | [d1, d2] => { results := [.lit (.bool true)], args := [d1, d2] }
  | _ => none }
def fnExactCrashStoreRow : OpenClaim := { program := "ytledflocbohofaagreat", sum := "d316bb4d44c97a2e5cc8df58e704945f1b06dbc1cf58df38c91ae291b48c9b20", func := "loop.example/g00408/laws.FnExactCrashStore", spec := "fnExactCrashStore", unfollowed := true, recurses := true, plainKeys := false, apart := false }
def FnExactCrashStoreSaid : Prop := fnExactCrashStoreRow.holds Tryz.pinned (OpenSpec.ofChange fnExactCrashStoreSpec)

/-- ITS FALSE NEIGHBOUR: 'it returns false'. Refute it at one input. -/
def fnExactCrashStoreWrong : ChangeSpec := { name := "fnExactCrashStore", fn := fun _ => fun
  | [d1, d2] => { results := [.lit (.bool false)], args := [d1, d2] }
  | _ => none }
def FnExactCrashStoreWrongFalsely : Prop := fnExactCrashStoreRow.holds Tryz.pinned (OpenSpec.ofChange fnExactCrashStoreWrong)

/-- 'laws.FnExactPullRecord': WHATEVER THE INPUT: true; the input reads as it did. -/
def fnExactPullRecordSpec : ChangeSpec := { name := "fnExactPullRecord", fn := fun _ => fun
  | [d1, d2] => { results := [.lit (.bool true)], args := [d1, d2] }
  | _ => none }
def fnExactPullRecordRow : OpenClaim := { program := "ytledflocbohofaagreat", sum := "d316bb4d44c97a2e5cc8df58e704945f1b06dbc1cf58df38c91ae291b48c9b20", func := "loop.example/g00408/laws.FnExactPullRecord", spec := "fnExactPullRecord", inPlace := ["slices.overlaps[loop.example/g00408/impl.Change]"], unfollowed := true, recurses := true, plainKeys := false, apart := false }
def FnExactPullRecordSaid : Prop := fnExactPullRecordRow.holds Tryz.pinned (OpenSpec.ofChange fnExactPullRecordSpec)

/-- ITS FALSE NEIGHBOUR: 'it returns false'. Refute it at one input. -/
def fnExactPullRecordWrong : ChangeSpec := { name := "fnExactPullRecord", fn := fun _ => fun
  | [d1, d2] => { results := [.lit (.bool false)], args := [d1, d2] }
  | _ => none }
def FnExactPullRecordWrongFalsely : Prop := fnExactPullRecordRow.holds Tryz.pinned (OpenSpec.ofChange fnExactPullRecordWrong)

/-- 'laws.FnExactDrainLog': WHATEVER THE INPUT: true; the input reads as it did. -/
def fnExactDrainLogSpec : ChangeSpec := { name := "fnExactDrainLog", fn := fun _ => fun
  | [d1, d2] => { results := [.lit (.bool true)], args := [d1, d2] }
  | _ => none }
def fnExactDrainLogRow : OpenClaim := { program := "ytledflocbohofaagreat", sum := "d316bb4d44c97a2e5cc8df58e704945f1b06dbc1cf58df38c91ae291b48c9b20", func := "loop.example/g00408/laws.FnExactDrainLog", spec := "fnExactDrainLog", inPlace := ["slices.overlaps[loop.example/g00408/impl.Change]"], unfollowed := true, recurses := true, plainKeys := false, apart := false }
def FnExactDrainLogSaid : Prop := fnExactDrainLogRow.holds Tryz.pinned (OpenSpec.ofChange fnExactDrainLogSpec)

/-- ITS FALSE NEIGHBOUR: 'it returns false'. Refute it at one input. -/
def fnExactDrainLogWrong : ChangeSpec := { name := "fnExactDrainLog", fn := fun _ => fun
  | [d1, d2] => { results := [.lit (.bool false)], args := [d1, d2] }
  | _ => none }
def FnExactDrainLogWrongFalsely : Prop := fnExactDrainLogRow.holds Tryz.pinned (OpenSpec.ofChange fnExactDrainLogWrong)

/-- 'laws.FnExactSentOf': WHATEVER THE INPUT: true; the input reads as it did. -/
def fnExactSentOfSpec : ChangeSpec := { name := "fnExactSentOf", fn := fun _ => fun
  | [d] => { results := [.lit (.bool true)], args := [d] }
  | _ => none }
def fnExactSentOfRow : OpenClaim := { program := "ytledflocbohofaagreat", sum := "d316bb4d44c97a2e5cc8df58e704945f1b06dbc1cf58df38c91ae291b48c9b20", func := "loop.example/g00408/laws.FnExactSentOf", spec := "fnExactSentOf", inPlace := ["slices.overlaps[loop.example/g00408/impl.Change]"], unfollowed := true, recurses := true, plainKeys := false, apart := false }
def FnExactSentOfSaid : Prop := fnExactSentOfRow.holds Tryz.pinned (OpenSpec.ofChange fnExactSentOfSpec)

/-- ITS FALSE NEIGHBOUR: 'it returns false'. Refute it at one input. -/
def fnExactSentOfWrong : ChangeSpec := { name := "fnExactSentOf", fn := fun _ => fun
  | [d] => { results := [.lit (.bool false)], args := [d] }
  | _ => none }
def FnExactSentOfWrongFalsely : Prop := fnExactSentOfRow.holds Tryz.pinned (OpenSpec.ofChange fnExactSentOfWrong)

/-- 'laws.FnExactLogRight': WHATEVER THE INPUT: true; the input reads as it did. -/
def fnExactLogRightSpec : ChangeSpec := { name := "fnExactLogRight", fn := fun _ => fun
  | [d1, d2] => { results := [.lit (.bool true)], args := [d1, d2] }
  | _ => none }
def fnExactLogRightRow : OpenClaim := { program := "ytledflocbohofaagreat", sum := "d316bb4d44c97a2e5cc8df58e704945f1b06dbc1cf58df38c91ae291b48c9b20", func := "loop.example/g00408/laws.FnExactLogRight", spec := "fnExactLogRight", inPlace := ["slices.overlaps[loop.example/g00408/impl.Change]"], unfollowed := true, recurses := true, plainKeys := false, apart := false }
def FnExactLogRightSaid : Prop := fnExactLogRightRow.holds Tryz.pinned (OpenSpec.ofChange fnExactLogRightSpec)

/-- ITS FALSE NEIGHBOUR: 'it returns false'. Refute it at one input. -/
def fnExactLogRightWrong : ChangeSpec := { name := "fnExactLogRight", fn := fun _ => fun
  | [d1, d2] => { results := [.lit (.bool false)], args := [d1, d2] }
  | _ => none }
def FnExactLogRightWrongFalsely : Prop := fnExactLogRightRow.holds Tryz.pinned (OpenSpec.ofChange fnExactLogRightWrong)

/- THE SECOND FORM. 'bulk': how many values and letters a reading holds, each counted each time it is reached (what is shared counts as often as it is met; a slice's spare places count too). A statement '..UptoSaid' is the law's where the arguments, and the package variables that the reading takes, are together of bulk at most 1048576: NARROWER than '..Said'. Prove '..Said' where nothing that the law and all that it calls make is longer than what came in: it says more and counts as full. Else prove '..UptoSaid'. A law counts once. -/
mutual
def uptoBulk {H : Type} : DataW H → Nat
  | .lit (.string bytes) => bytes.length + 1
  | .lit _ => 1
  | .nil => 1
  | .ptr d => uptoBulk d + 1
  | .slice elems spare => uptoBulkAll elems + uptoBulkAll spare + 1
  | .agg parts => uptoBulkAll parts + 1
  | .iface _ d => uptoBulk d + 1
  | .map entries => uptoBulkEntries entries + 1
  | .held _ => 1
def uptoBulkAll {H : Type} : List (DataW H) → Nat
  | [] => 0
  | d :: r => uptoBulk d + uptoBulkAll r
def uptoBulkEntries {H : Type} : List (Lit × DataW H) → Nat
  | [] => 0
  | x :: r => uptoBulkEntry x + uptoBulkEntries r
def uptoBulkEntry {H : Type} : Lit × DataW H → Nat
  | (.string bytes, d) => bytes.length + uptoBulk d + 1
  | (_, d) => uptoBulk d + 1
 end
def uptoSmall : (H : Type) → List (DataW H) → Bool := fun _ ds => decide (uptoBulkAll ds ≤ 1048576)
def OpenSpec.upto (s : _root_.Go.ChangeSpec) : _root_.Go.OpenSpec := { _root_.Go.OpenSpec.ofChange s with cond := some uptoSmall }

/-- 'laws.FnExactStoreFault', WHERE WHAT IT READS IS OF BULK AT MOST 1048576: true; the input reads as it did. -/
def fnExactStoreFaultUptoRow : OpenClaim := { program := "ytledflocbohofaagreat", sum := "d316bb4d44c97a2e5cc8df58e704945f1b06dbc1cf58df38c91ae291b48c9b20", func := "loop.example/g00408/laws.FnExactStoreFault", spec := "fnExactStoreFault", unfollowed := true, recurses := true, plainKeys := false, apart := false, narrowed := true }
def FnExactStoreFaultUptoSaid : Prop := fnExactStoreFaultUptoRow.holds Tryz.pinned (OpenSpec.upto fnExactStoreFaultSpec)

/-- 'laws.FnExactSameStory', WHERE WHAT IT READS IS OF BULK AT MOST 1048576: true; the input reads as it did. -/
def fnExactSameStoryUptoRow : OpenClaim := { program := "ytledflocbohofaagreat", sum := "d316bb4d44c97a2e5cc8df58e704945f1b06dbc1cf58df38c91ae291b48c9b20", func := "loop.example/g00408/laws.FnExactSameStory", spec := "fnExactSameStory", unfollowed := true, recurses := true, plainKeys := false, apart := false, narrowed := true }
def FnExactSameStoryUptoSaid : Prop := fnExactSameStoryUptoRow.holds Tryz.pinned (OpenSpec.upto fnExactSameStorySpec)

/-- 'laws.FnExactRowsOf', WHERE WHAT IT READS IS OF BULK AT MOST 1048576: true; the input reads as it did. -/
def fnExactRowsOfUptoRow : OpenClaim := { program := "ytledflocbohofaagreat", sum := "d316bb4d44c97a2e5cc8df58e704945f1b06dbc1cf58df38c91ae291b48c9b20", func := "loop.example/g00408/laws.FnExactRowsOf", spec := "fnExactRowsOf", unfollowed := true, recurses := true, plainKeys := false, apart := false, narrowed := true }
def FnExactRowsOfUptoSaid : Prop := fnExactRowsOfUptoRow.holds Tryz.pinned (OpenSpec.upto fnExactRowsOfSpec)

/-- 'laws.FnExactCrashStore', WHERE WHAT IT READS IS OF BULK AT MOST 1048576: true; the input reads as it did. -/
def fnExactCrashStoreUptoRow : OpenClaim := { program := "ytledflocbohofaagreat", sum := "d316bb4d44c97a2e5cc8df58e704945f1b06dbc1cf58df38c91ae291b48c9b20", func := "loop.example/g00408/laws.FnExactCrashStore", spec := "fnExactCrashStore", unfollowed := true, recurses := true, plainKeys := false, apart := false, narrowed := true }
def FnExactCrashStoreUptoSaid : Prop := fnExactCrashStoreUptoRow.holds Tryz.pinned (OpenSpec.upto fnExactCrashStoreSpec)

/-- 'laws.FnExactPullRecord', WHERE WHAT IT READS IS OF BULK AT MOST 1048576: true; the input reads as it did. -/
def fnExactPullRecordUptoRow : OpenClaim := { program := "ytledflocbohofaagreat", sum := "d316bb4d44c97a2e5cc8df58e704945f1b06dbc1cf58df38c91ae291b48c9b20", func := "loop.example/g00408/laws.FnExactPullRecord", spec := "fnExactPullRecord", inPlace := ["slices.overlaps[loop.example/g00408/impl.Change]"], unfollowed := true, recurses := true, plainKeys := false, apart := false, narrowed := true }
def FnExactPullRecordUptoSaid : Prop := fnExactPullRecordUptoRow.holds Tryz.pinned (OpenSpec.upto fnExactPullRecordSpec)

/-- 'laws.FnExactDrainLog', WHERE WHAT IT READS IS OF BULK AT MOST 1048576: true; the input reads as it did. -/
def fnExactDrainLogUptoRow : OpenClaim := { program := "ytledflocbohofaagreat", sum := "d316bb4d44c97a2e5cc8df58e704945f1b06dbc1cf58df38c91ae291b48c9b20", func := "loop.example/g00408/laws.FnExactDrainLog", spec := "fnExactDrainLog", inPlace := ["slices.overlaps[loop.example/g00408/impl.Change]"], unfollowed := true, recurses := true, plainKeys := false, apart := false, narrowed := true }
def FnExactDrainLogUptoSaid : Prop := fnExactDrainLogUptoRow.holds Tryz.pinned (OpenSpec.upto fnExactDrainLogSpec)

/-- 'laws.FnExactSentOf', WHERE WHAT IT READS IS OF BULK AT MOST 1048576: true; the input reads as it did. -/
def fnExactSentOfUptoRow : OpenClaim := { program := "ytledflocbohofaagreat", sum := "d316bb4d44c97a2e5cc8df58e704945f1b06dbc1cf58df38c91ae291b48c9b20", func := "loop.example/g00408/laws.FnExactSentOf", spec := "fnExactSentOf", inPlace := ["slices.overlaps[loop.example/g00408/impl.Change]"], unfollowed := true, recurses := true, plainKeys := false, apart := false, narrowed := true }
def FnExactSentOfUptoSaid : Prop := fnExactSentOfUptoRow.holds Tryz.pinned (OpenSpec.upto fnExactSentOfSpec)

/-- 'laws.FnExactLogRight', WHERE WHAT IT READS IS OF BULK AT MOST 1048576: true; the input reads as it did. -/
def fnExactLogRightUptoRow : OpenClaim := { program := "ytledflocbohofaagreat", sum := "d316bb4d44c97a2e5cc8df58e704945f1b06dbc1cf58df38c91ae291b48c9b20", func := "loop.example/g00408/laws.FnExactLogRight", spec := "fnExactLogRight", inPlace := ["slices.overlaps[loop.example/g00408/impl.Change]"], unfollowed := true, recurses := true, plainKeys := false, apart := false, narrowed := true }
def FnExactLogRightUptoSaid : Prop := fnExactLogRightUptoRow.holds Tryz.pinned (OpenSpec.upto fnExactLogRightSpec)

end Rows
end Go.Proofs.YtledflocbohofaaGreat
