/-
  No cell of these rows narrows 'for every input' (looked for: loops, veiled, ifaces, maps, wideKeys, modest, calm, conditions, laid).
  DERIVED. THE GIVEN ROWS OF THIS SEAT. 12 by the template 'for every input the law returns true; each argument reads behind the call as it read before'; 0 by the template 'total and deterministic' (their statements: YtljankkghppaiaaGreatTotals.lean).
  GIVEN WITH THE SEED: the statements are not yours to turn. If you find one false, say at which input.
  Laid BY PROGRAM, IN A SANDBOX (cutbox-rows.mjs): the forced cells as the released guide's own fill.sh prints them over the translation afc44f3a3d882b79… (all of the seat's roots in one cut). By AI agents, Wed Nov 11 2026. No macro, syntax, notation, axiom, sorry.
-/
import Derived.Test.YtljankkghppaiaaGreatChecked
import GoSem.Claim
import GoSem.ClaimJoined
import GoSem.ClaimMapViews
import Derived.JoinedTies
import Derived.KernelRfl
namespace Go.Proofs.YtljankkghppaiaaGreat
/- THE CELL 'sum', in the pinned program and in every row, IS THE sha256 OF THE DUMP (.gsa) THAT YtljankkghppaiaaGreatProg.lean LOADS. Nothing in Lean hashes anything: it is a label: what it is worth is what the hold of that sum in a sandbox is worth. -/
noncomputable def Tryz.pinned : Pinned := { name := "ytljankkghppaiaagreat", sum := "afc44f3a3d882b79e58de99d001724da52b05bd8076fa22501b8ab7f5c86393e", checked := Tryz.checked }
namespace Rows
def none {H : Type} : Left H := { results := [], args := [] }

/-- 'laws.FnExactDoPlain': WHATEVER THE INPUT: true; the input reads as it did. -/
def fnExactDoPlainSpec : ChangeSpec := { name := "fnExactDoPlain", fn := fun _ => fun
  | [d1, d2] => { results := [.lit (.bool true)], args := [d1, d2] }
  | _ => none }
def fnExactDoPlainRow : OpenClaim := { program := "ytljankkghppaiaagreat", sum := "afc44f3a3d882b79e58de99d001724da52b05bd8076fa22501b8ab7f5c86393e", func := "loop.example/g00408/laws.FnExactDoPlain", spec := "fnExactDoPlain", unfollowed := true, recurses := true, plainKeys := false, apart := false }
def FnExactDoPlainSaid : Prop := fnExactDoPlainRow.holds Tryz.pinned (OpenSpec.ofChange fnExactDoPlainSpec)

/-- ITS FALSE NEIGHBOUR: 'it returns false'. Refute it at one input. -/
def fnExactDoPlainWrong : ChangeSpec := { name := "fnExactDoPlain", fn := fun _ => fun
  | [d1, d2] => { results := [.lit (.bool false)], args := [d1, d2] }
  | _ => none }
def FnExactDoPlainWrongFalsely : Prop := fnExactDoPlainRow.holds Tryz.pinned (OpenSpec.ofChange fnExactDoPlainWrong)

/-- 'laws.FnExactRunPlain': WHATEVER THE INPUT: true; the input reads as it did. -/
def fnExactRunPlainSpec : ChangeSpec := { name := "fnExactRunPlain", fn := fun _ => fun
  | [d] => { results := [.lit (.bool true)], args := [d] }
  | _ => none }
def fnExactRunPlainRow : OpenClaim := { program := "ytljankkghppaiaagreat", sum := "afc44f3a3d882b79e58de99d001724da52b05bd8076fa22501b8ab7f5c86393e", func := "loop.example/g00408/laws.FnExactRunPlain", spec := "fnExactRunPlain", unfollowed := true, recurses := true, plainKeys := false, apart := false }
def FnExactRunPlainSaid : Prop := fnExactRunPlainRow.holds Tryz.pinned (OpenSpec.ofChange fnExactRunPlainSpec)

/-- ITS FALSE NEIGHBOUR: 'it returns false'. Refute it at one input. -/
def fnExactRunPlainWrong : ChangeSpec := { name := "fnExactRunPlain", fn := fun _ => fun
  | [d] => { results := [.lit (.bool false)], args := [d] }
  | _ => none }
def FnExactRunPlainWrongFalsely : Prop := fnExactRunPlainRow.holds Tryz.pinned (OpenSpec.ofChange fnExactRunPlainWrong)

/-- 'laws.FnExactStepMiner': WHATEVER THE INPUT: true; the input reads as it did. -/
def fnExactStepMinerSpec : ChangeSpec := { name := "fnExactStepMiner", fn := fun _ => fun
  | [d1, d2] => { results := [.lit (.bool true)], args := [d1, d2] }
  | _ => none }
def fnExactStepMinerRow : OpenClaim := { program := "ytljankkghppaiaagreat", sum := "afc44f3a3d882b79e58de99d001724da52b05bd8076fa22501b8ab7f5c86393e", func := "loop.example/g00408/laws.FnExactStepMiner", spec := "fnExactStepMiner", inPlace := ["slices.overlaps[loop.example/g00408/impl.Change]"], unfollowed := true, recurses := true, plainKeys := false, apart := false }
def FnExactStepMinerSaid : Prop := fnExactStepMinerRow.holds Tryz.pinned (OpenSpec.ofChange fnExactStepMinerSpec)

/-- ITS FALSE NEIGHBOUR: 'it returns false'. Refute it at one input. -/
def fnExactStepMinerWrong : ChangeSpec := { name := "fnExactStepMiner", fn := fun _ => fun
  | [d1, d2] => { results := [.lit (.bool false)], args := [d1, d2] }
  | _ => none }
def FnExactStepMinerWrongFalsely : Prop := fnExactStepMinerRow.holds Tryz.pinned (OpenSpec.ofChange fnExactStepMinerWrong)

/-- 'laws.FnExactMineAll': WHATEVER THE INPUT: true; the input reads as it did. -/
def fnExactMineAllSpec : ChangeSpec := { name := "fnExactMineAll", fn := fun _ => fun
  | [d] => { results := [.lit (.bool true)], args := [d] }
  | _ => none }
def fnExactMineAllRow : OpenClaim := { program := "ytljankkghppaiaagreat", sum := "afc44f3a3d882b79e58de99d001724da52b05bd8076fa22501b8ab7f5c86393e", func := "loop.example/g00408/laws.FnExactMineAll", spec := "fnExactMineAll", inPlace := ["slices.overlaps[loop.example/g00408/impl.Change]"], unfollowed := true, recurses := true, plainKeys := false, apart := false }
def FnExactMineAllSaid : Prop := fnExactMineAllRow.holds Tryz.pinned (OpenSpec.ofChange fnExactMineAllSpec)

/-- ITS FALSE NEIGHBOUR: 'it returns false'. Refute it at one input. -/
def fnExactMineAllWrong : ChangeSpec := { name := "fnExactMineAll", fn := fun _ => fun
  | [d] => { results := [.lit (.bool false)], args := [d] }
  | _ => none }
def FnExactMineAllWrongFalsely : Prop := fnExactMineAllRow.holds Tryz.pinned (OpenSpec.ofChange fnExactMineAllWrong)

/-- 'laws.FnExactLosersIn': WHATEVER THE INPUT: true; the input reads as it did. -/
def fnExactLosersInSpec : ChangeSpec := { name := "fnExactLosersIn", fn := fun _ => fun
  | [d] => { results := [.lit (.bool true)], args := [d] }
  | _ => none }
def fnExactLosersInRow : OpenClaim := { program := "ytljankkghppaiaagreat", sum := "afc44f3a3d882b79e58de99d001724da52b05bd8076fa22501b8ab7f5c86393e", func := "loop.example/g00408/laws.FnExactLosersIn", spec := "fnExactLosersIn", inPlace := ["slices.overlaps[loop.example/g00408/impl.Change]"], unfollowed := true, recurses := true, plainKeys := false, apart := false }
def FnExactLosersInSaid : Prop := fnExactLosersInRow.holds Tryz.pinned (OpenSpec.ofChange fnExactLosersInSpec)

/-- ITS FALSE NEIGHBOUR: 'it returns false'. Refute it at one input. -/
def fnExactLosersInWrong : ChangeSpec := { name := "fnExactLosersIn", fn := fun _ => fun
  | [d] => { results := [.lit (.bool false)], args := [d] }
  | _ => none }
def FnExactLosersInWrongFalsely : Prop := fnExactLosersInRow.holds Tryz.pinned (OpenSpec.ofChange fnExactLosersInWrong)

/-- 'laws.FnExactPullRecord': WHATEVER THE INPUT: true; the input reads as it did. -/
def fnExactPullRecordSpec : ChangeSpec := { name := "fnExactPullRecord", fn := fun _ => fun
  | [d1, d2] => { results := [.lit (.bool true)], args := [d1, d2] }
  | _ => none }
def fnExactPullRecordRow : OpenClaim := { program := "ytljankkghppaiaagreat", sum := "afc44f3a3d882b79e58de99d001724da52b05bd8076fa22501b8ab7f5c86393e", func := "loop.example/g00408/laws.FnExactPullRecord", spec := "fnExactPullRecord", inPlace := ["slices.overlaps[loop.example/g00408/impl.Change]"], unfollowed := true, recurses := true, plainKeys := false, apart := false }
def FnExactPullRecordSaid : Prop := fnExactPullRecordRow.holds Tryz.pinned (OpenSpec.ofChange fnExactPullRecordSpec)

/-- ITS FALSE NEIGHBOUR: 'it returns false'. Refute it at one input. -/
def fnExactPullRecordWrong : ChangeSpec := { name := "fnExactPullRecord", fn := fun _ => fun
  | [d1, d2] => { results := [.lit (.bool false)], args := [d1, d2] }
  | _ => none }
def FnExactPullRecordWrongFalsely : Prop := fnExactPullRecordRow.holds Tryz.pinned (OpenSpec.ofChange fnExactPullRecordWrong)

/-- 'laws.FnExactDrainLog': WHATEVER THE INPUT: true; the input reads as it did. -/
def fnExactDrainLogSpec : ChangeSpec := { name := "fnExactDrainLog", fn := fun _ => fun
  | [d1, d2] => { results := [.lit (.bool true)], args := [d1, d2] }
  | _ => none }
def fnExactDrainLogRow : OpenClaim := { program := "ytljankkghppaiaagreat", sum := "afc44f3a3d882b79e58de99d001724da52b05bd8076fa22501b8ab7f5c86393e", func := "loop.example/g00408/laws.FnExactDrainLog", spec := "fnExactDrainLog", inPlace := ["slices.overlaps[loop.example/g00408/impl.Change]"], unfollowed := true, recurses := true, plainKeys := false, apart := false }
def FnExactDrainLogSaid : Prop := fnExactDrainLogRow.holds Tryz.pinned (OpenSpec.ofChange fnExactDrainLogSpec)

/-- ITS FALSE NEIGHBOUR: 'it returns false'. Refute it at one input. -/
def fnExactDrainLogWrong : ChangeSpec := { name := "fnExactDrainLog", fn := fun _ => fun
  | [d1, d2] => { results := [.lit (.bool false)], args := [d1, d2] }
  | _ => none }
def FnExactDrainLogWrongFalsely : Prop := fnExactDrainLogRow.holds Tryz.pinned (OpenSpec.ofChange fnExactDrainLogWrong)

/-- 'laws.FnExactSentOf': WHATEVER THE INPUT: true; the input reads as it did. -/
def fnExactSentOfSpec : ChangeSpec := { name := "fnExactSentOf", fn := fun _ => fun
  | [d] => { results := [.lit (.bool true)], args := [d] }
  | _ => none }
def fnExactSentOfRow : OpenClaim := { program := "ytljankkghppaiaagreat", sum := "afc44f3a3d882b79e58de99d001724da52b05bd8076fa22501b8ab7f5c86393e", func := "loop.example/g00408/laws.FnExactSentOf", spec := "fnExactSentOf", inPlace := ["slices.overlaps[loop.example/g00408/impl.Change]"], unfollowed := true, recurses := true, plainKeys := false, apart := false }
def FnExactSentOfSaid : Prop := fnExactSentOfRow.holds Tryz.pinned (OpenSpec.ofChange fnExactSentOfSpec)

/-- ITS FALSE NEIGHBOUR: 'it returns false'. Refute it at one input. -/
def fnExactSentOfWrong : ChangeSpec := { name := "fnExactSentOf", fn := fun _ => fun
  | [d] => { results := [.lit (.bool false)], args := [d] }
  | _ => none }
def FnExactSentOfWrongFalsely : Prop := fnExactSentOfRow.holds Tryz.pinned (OpenSpec.ofChange fnExactSentOfWrong)

/-- 'laws.FnExactLogRight': WHATEVER THE INPUT: true; the input reads as it did. -/
def fnExactLogRightSpec : ChangeSpec := { name := "fnExactLogRight", fn := fun _ => fun
  | [d1, d2] => { results := [.lit (.bool true)], args := [d1, d2] }
  | _ => none }
def fnExactLogRightRow : OpenClaim := { program := "ytljankkghppaiaagreat", sum := "afc44f3a3d882b79e58de99d001724da52b05bd8076fa22501b8ab7f5c86393e", func := "loop.example/g00408/laws.FnExactLogRight", spec := "fnExactLogRight", inPlace := ["slices.overlaps[loop.example/g00408/impl.Change]"], unfollowed := true, recurses := true, plainKeys := false, apart := false }
def FnExactLogRightSaid : Prop := fnExactLogRightRow.holds Tryz.pinned (OpenSpec.ofChange fnExactLogRightSpec)

/-- ITS FALSE NEIGHBOUR: 'it returns false'. Refute it at one input. -/
def fnExactLogRightWrong : ChangeSpec := { name := "fnExactLogRight", fn := fun _ => fun
  | [d1, d2] => { results := [.lit (.bool false)], args := [d1, d2] }
  | _ => none }
def FnExactLogRightWrongFalsely : Prop := fnExactLogRightRow.holds Tryz.pinned (OpenSpec.ofChange fnExactLogRightWrong)

/-- 'laws.FnEdits': WHATEVER THE INPUT: true; the input reads as it did. -/
def fnEditsSpec : ChangeSpec := { name := "fnEdits", fn := fun _ => fun
  | [d] => { results := [.lit (.bool true)], args := [d] }
  | _ => none }
def fnEditsRow : OpenClaim := { program := "ytljankkghppaiaagreat", sum := "afc44f3a3d882b79e58de99d001724da52b05bd8076fa22501b8ab7f5c86393e", func := "loop.example/g00408/laws.FnEdits", spec := "fnEdits", unfollowed := true, recurses := true, plainKeys := false, apart := false }
def FnEditsSaid : Prop := fnEditsRow.holds Tryz.pinned (OpenSpec.ofChange fnEditsSpec)

/-- ITS FALSE NEIGHBOUR: 'it returns false'. Refute it at one input. -/
def fnEditsWrong : ChangeSpec := { name := "fnEdits", fn := fun _ => fun
  | [d] => { results := [.lit (.bool false)], args := [d] }
  | _ => none }
def FnEditsWrongFalsely : Prop := fnEditsRow.holds Tryz.pinned (OpenSpec.ofChange fnEditsWrong)

/-- 'laws.FnPlains': WHATEVER THE INPUT: true; the input reads as it did. -/
def fnPlainsSpec : ChangeSpec := { name := "fnPlains", fn := fun _ => fun
  | [d] => { results := [.lit (.bool true)], args := [d] }
  | _ => none }
def fnPlainsRow : OpenClaim := { program := "ytljankkghppaiaagreat", sum := "afc44f3a3d882b79e58de99d001724da52b05bd8076fa22501b8ab7f5c86393e", func := "loop.example/g00408/laws.FnPlains", spec := "fnPlains", unfollowed := true, recurses := true, plainKeys := false, apart := false }
def FnPlainsSaid : Prop := fnPlainsRow.holds Tryz.pinned (OpenSpec.ofChange fnPlainsSpec)

/-- ITS FALSE NEIGHBOUR: 'it returns false'. Refute it at one input. -/
def fnPlainsWrong : ChangeSpec := { name := "fnPlains", fn := fun _ => fun
  | [d] => { results := [.lit (.bool false)], args := [d] }
  | _ => none }
def FnPlainsWrongFalsely : Prop := fnPlainsRow.holds Tryz.pinned (OpenSpec.ofChange fnPlainsWrong)

/-- 'laws.FnBacks': WHATEVER THE INPUT: true; the input reads as it did. -/
def fnBacksSpec : ChangeSpec := { name := "fnBacks", fn := fun _ => fun
  | [d] => { results := [.lit (.bool true)], args := [d] }
  | _ => none }
def fnBacksRow : OpenClaim := { program := "ytljankkghppaiaagreat", sum := "afc44f3a3d882b79e58de99d001724da52b05bd8076fa22501b8ab7f5c86393e", func := "loop.example/g00408/laws.FnBacks", spec := "fnBacks", unfollowed := true, recurses := true, plainKeys := false, apart := false }
def FnBacksSaid : Prop := fnBacksRow.holds Tryz.pinned (OpenSpec.ofChange fnBacksSpec)

/-- ITS FALSE NEIGHBOUR: 'it returns false'. Refute it at one input. -/
def fnBacksWrong : ChangeSpec := { name := "fnBacks", fn := fun _ => fun
  | [d] => { results := [.lit (.bool false)], args := [d] }
  | _ => none }
def FnBacksWrongFalsely : Prop := fnBacksRow.holds Tryz.pinned (OpenSpec.ofChange fnBacksWrong)

/- THE SECOND FORM. 'bulk': how many values and letters a reading holds, each counted each time it is reached (what is shared counts as often as it is met; a slice's spare places count too). A statement '..UptoSaid' is the law's where the arguments, and the package variables that the reading takes, are together of bulk at most 1048576: NARROWER than '..Said'. Prove '..Said' where nothing that the law and all that it calls make is longer than what came in: it says more and counts as full. Else prove '..UptoSaid'. A law counts once. -/
mutual
def uptoBulk {H : Type} : DataW H → Nat
  | .lit (.string bytes) => bytes.length + 1
  | .lit _ => 1
  | .nil => 1
  | .ptr d => uptoBulk d + 1
  | .slice elems spare => uptoBulkAll elems + uptoBulkAll spare + 1
  | .agg parts => uptoBulkAll parts + 1
  | .iface _ d => uptoBulk d + 1
  | .map entries => uptoBulkEntries entries + 1
  | .held _ => 1
def uptoBulkAll {H : Type} : List (DataW H) → Nat
  | [] => 0
  | d :: r => uptoBulk d + uptoBulkAll r
def uptoBulkEntries {H : Type} : List (Lit × DataW H) → Nat
  | [] => 0
  | x :: r => uptoBulkEntry x + uptoBulkEntries r
def uptoBulkEntry {H : Type} : Lit × DataW H → Nat
  | (.string bytes, d) => bytes.length + uptoBulk d + 1
  | (_, d) => uptoBulk d + 1
 end
def uptoSmall : (H : Type) → List (DataW H) → Bool := fun _ ds => decide (uptoBulkAll ds ≤ 1048576)
def OpenSpec.upto (s : _root_.Go.ChangeSpec) : _root_.Go.OpenSpec := { _root_.Go.OpenSpec.ofChange s with cond := some uptoSmall }

/-- 'laws.FnExactDoPlain', WHERE WHAT IT READS IS OF BULK AT MOST 1048576: true; the input reads as it did. -/
def fnExactDoPlainUptoRow : OpenClaim := { program := "ytljankkghppaiaagreat", sum := "afc44f3a3d882b79e58de99d001724da52b05bd8076fa22501b8ab7f5c86393e", func := "loop.example/g00408/laws.FnExactDoPlain", spec := "fnExactDoPlain", unfollowed := true, recurses := true, plainKeys := false, apart := false, narrowed := true }
def FnExactDoPlainUptoSaid : Prop := fnExactDoPlainUptoRow.holds Tryz.pinned (OpenSpec.upto fnExactDoPlainSpec)

/-- 'laws.FnExactRunPlain', WHERE WHAT IT READS IS OF BULK AT MOST 1048576: true; the input reads as it did. -/
def fnExactRunPlainUptoRow : OpenClaim := { program := "ytljankkghppaiaagreat", sum := "afc44f3a3d882b79e58de99d001724da52b05bd8076fa22501b8ab7f5c86393e", func := "loop.example/g00408/laws.FnExactRunPlain", spec := "fnExactRunPlain", unfollowed := true, recurses := true, plainKeys := false, apart := false, narrowed := true }
def FnExactRunPlainUptoSaid : Prop := fnExactRunPlainUptoRow.holds Tryz.pinned (OpenSpec.upto fnExactRunPlainSpec)

/-- 'laws.FnExactStepMiner', WHERE WHAT IT READS IS OF BULK AT MOST 1048576: true; the input reads as it did. -/
def fnExactStepMinerUptoRow : OpenClaim := { program := "ytljankkghppaiaagreat", sum := "afc44f3a3d882b79e58de99d001724da52b05bd8076fa22501b8ab7f5c86393e", func := "loop.example/g00408/laws.FnExactStepMiner", spec := "fnExactStepMiner", inPlace := ["slices.overlaps[loop.example/g00408/impl.Change]"], unfollowed := true, recurses := true, plainKeys := false, apart := false, narrowed := true }
def FnExactStepMinerUptoSaid : Prop := fnExactStepMinerUptoRow.holds Tryz.pinned (OpenSpec.upto fnExactStepMinerSpec)

/-- 'laws.FnExactMineAll', WHERE WHAT IT READS IS OF BULK AT MOST 1048576: true; the input reads as it did. -/
def fnExactMineAllUptoRow : OpenClaim := { program := "ytljankkghppaiaagreat", sum := "afc44f3a3d882b79e58de99d001724da52b05bd8076fa22501b8ab7f5c86393e", func := "loop.example/g00408/laws.FnExactMineAll", spec := "fnExactMineAll", inPlace := ["slices.overlaps[loop.example/g00408/impl.Change]"], unfollowed := true, recurses := true, plainKeys := false, apart := false, narrowed := true }
def FnExactMineAllUptoSaid : Prop := fnExactMineAllUptoRow.holds Tryz.pinned (OpenSpec.upto fnExactMineAllSpec)

/-- 'laws.FnExactLosersIn', WHERE WHAT IT READS IS OF BULK AT MOST 1048576: true; the input reads as it did. -/
def fnExactLosersInUptoRow : OpenClaim := { program := "ytljankkghppaiaagreat", sum := "afc44f3a3d882b79e58de99d001724da52b05bd8076fa22501b8ab7f5c86393e", func := "loop.example/g00408/laws.FnExactLosersIn", spec := "fnExactLosersIn", inPlace := ["slices.overlaps[loop.example/g00408/impl.Change]"], unfollowed := true, recurses := true, plainKeys := false, apart := false, narrowed := true }
def FnExactLosersInUptoSaid : Prop := fnExactLosersInUptoRow.holds Tryz.pinned (OpenSpec.upto fnExactLosersInSpec)

/-- 'laws.FnExactPullRecord', WHERE WHAT IT READS IS OF BULK AT MOST 1048576: true; the input reads as it did. -/
def fnExactPullRecordUptoRow : OpenClaim := { program := "ytljankkghppaiaagreat", sum := "afc44f3a3d882b79e58de99d001724da52b05bd8076fa22501b8ab7f5c86393e", func := "loop.example/g00408/laws.FnExactPullRecord", spec := "fnExactPullRecord", inPlace := ["slices.overlaps[loop.example/g00408/impl.Change]"], unfollowed := true, recurses := true, plainKeys := false, apart := false, narrowed := true }
def FnExactPullRecordUptoSaid : Prop := fnExactPullRecordUptoRow.holds Tryz.pinned (OpenSpec.upto fnExactPullRecordSpec)

/-- 'laws.FnExactDrainLog', WHERE WHAT IT READS IS OF BULK AT MOST 1048576: true; the input reads as it did. -/
def fnExactDrainLogUptoRow : OpenClaim := { program := "ytljankkghppaiaagreat", sum := "afc44f3a3d882b79e58de99d001724da52b05bd8076fa22501b8ab7f5c86393e", func := "loop.example/g00408/laws.FnExactDrainLog", spec := "fnExactDrainLog", inPlace := ["slices.overlaps[loop.example/g00408/impl.Change]"], unfollowed := true, recurses := true, plainKeys := false, apart := false, narrowed := true }
def FnExactDrainLogUptoSaid : Prop := fnExactDrainLogUptoRow.holds Tryz.pinned (OpenSpec.upto fnExactDrainLogSpec)

/-- 'laws.FnExactSentOf', WHERE WHAT IT READS IS OF BULK AT MOST 1048576: true; the input reads as it did. -/
def fnExactSentOfUptoRow : OpenClaim := { program := "ytljankkghppaiaagreat", sum := "afc44f3a3d882b79e58de99d001724da52b05bd8076fa22501b8ab7f5c86393e", func := "loop.example/g00408/laws.FnExactSentOf", spec := "fnExactSentOf", inPlace := ["slices.overlaps[loop.example/g00408/impl.Change]"], unfollowed := true, recurses := true, plainKeys := false, apart := false, narrowed := true }
def FnExactSentOfUptoSaid : Prop := fnExactSentOfUptoRow.holds Tryz.pinned (OpenSpec.upto fnExactSentOfSpec)

/-- 'laws.FnExactLogRight', WHERE WHAT IT READS IS OF BULK AT MOST 1048576: true; the input reads as it did. -/
def fnExactLogRightUptoRow : OpenClaim := { program := "ytljankkghppaiaagreat", sum := "afc44f3a3d882b79e58de99d001724da52b05bd8076fa22501b8ab7f5c86393e", func := "loop.example/g00408/laws.FnExactLogRight", spec := "fnExactLogRight", inPlace := ["slices.overlaps[loop.example/g00408/impl.Change]"], unfollowed := true, recurses := true, plainKeys := false, apart := false, narrowed := true }
def FnExactLogRightUptoSaid : Prop := fnExactLogRightUptoRow.holds Tryz.pinned (OpenSpec.upto fnExactLogRightSpec)

/-- 'laws.FnEdits', WHERE WHAT IT READS IS OF BULK AT MOST 1048576: true; the input reads as it did. -/
def fnEditsUptoRow : OpenClaim := { program := "ytljankkghppaiaagreat", sum := "afc44f3a3d882b79e58de99d001724da52b05bd8076fa22501b8ab7f5c86393e", func := "loop.example/g00408/laws.FnEdits", spec := "fnEdits", unfollowed := true, recurses := true, plainKeys := false, apart := false, narrowed := true }
def FnEditsUptoSaid : Prop := fnEditsUptoRow.holds Tryz.pinned (OpenSpec.upto fnEditsSpec)

/-- 'laws.FnPlains', WHERE WHAT IT READS IS OF BULK AT MOST 1048576: true; the input reads as it did. -/
def fnPlainsUptoRow : OpenClaim := { program := "ytljankkghppaiaagreat", sum := "afc44f3a3d882b79e58de99d001724da52b05bd8076fa22501b8ab7f5c86393e", func := "loop.example/g00408/laws.FnPlains", spec := "fnPlains", unfollowed := true, recurses := true, plainKeys := false, apart := false, narrowed := true }
def FnPlainsUptoSaid : Prop := fnPlainsUptoRow.holds Tryz.pinned (OpenSpec.upto fnPlainsSpec)

/-- 'laws.FnBacks', WHERE WHAT IT READS IS OF BULK AT MOST 1048576: true; the input reads as it did. -/
def fnBacksUptoRow : OpenClaim := { program := "ytljankkghppaiaagreat", sum := "afc44f3a3d882b79e58de99d001724da52b05bd8076fa22501b8ab7f5c86393e", func := "loop.example/g00408/laws.FnBacks", spec := "fnBacks", unfollowed := true, recurses := true, plainKeys := false, apart := false, narrowed := true }
def FnBacksUptoSaid : Prop := fnBacksUptoRow.holds Tryz.pinned (OpenSpec.upto fnBacksSpec)

end Rows
end Go.Proofs.YtljankkghppaiaaGreat
