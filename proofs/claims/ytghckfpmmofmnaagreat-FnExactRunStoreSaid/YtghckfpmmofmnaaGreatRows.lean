/-
  No cell of these rows narrows 'for every input' (looked for: loops, veiled, ifaces, maps, wideKeys, modest, calm, conditions, laid).
  DERIVED. THE GIVEN ROWS OF THIS SEAT. 4 by the template 'for every input the law returns true; each argument reads behind the call as it read before'; 0 by the template 'total and deterministic' (their statements: YtghckfpmmofmnaaGreatTotals.lean).
  GIVEN WITH THE SEED: the statements are not yours to turn. If you find one false, say at which input.
  Laid BY PROGRAM, IN A SANDBOX (cutbox-rows.mjs): the forced cells as the released guide's own fill.sh prints them over the translation f61c38f1be08f1b6… (all of the seat's roots in one cut). By AI agents, Wed Nov 11 2026. No macro, syntax, notation, axiom, sorry.
-/
import Derived.Test.YtghckfpmmofmnaaGreatChecked
import GoSem.Claim
import GoSem.ClaimJoined
import GoSem.ClaimMapViews
import Derived.JoinedTies
import Derived.KernelRfl
namespace Go.Proofs.YtghckfpmmofmnaaGreat
/- THE CELL 'sum', in the pinned program and in every row, IS THE sha256 OF THE DUMP (.gsa) THAT YtghckfpmmofmnaaGreatProg.lean LOADS. Nothing in Lean hashes anything: it is a label: what it is worth is what the hold of that sum in a sandbox is worth. -/
noncomputable def Tryz.pinned : Pinned := { name := "ytghckfpmmofmnaagreat", sum := "f61c38f1be08f1b691783f22be580a46dcb454ce1ca5e268ffc360fc996c78cd", checked := Tryz.checked }
namespace Rows
def none {H : Type} : Left H := { results := [], args := [] }

/-- 'laws.FnExactDoStore': WHATEVER THE INPUT: true; the input reads as it did. -/
def fnExactDoStoreSpec : ChangeSpec := { name := "fnExactDoStore", fn := fun _ => fun
  | [d1, d2] => { results := [.lit (.bool true)], args := [d1, d2] }
  | _ => none }
def fnExactDoStoreRow : OpenClaim := { program := "ytghckfpmmofmnaagreat", sum := "f61c38f1be08f1b691783f22be580a46dcb454ce1ca5e268ffc360fc996c78cd", func := "loop.example/g00408/laws.FnExactDoStore", spec := "fnExactDoStore", unfollowed := true, recurses := true, plainKeys := false, apart := false }
def FnExactDoStoreSaid : Prop := fnExactDoStoreRow.holds Tryz.pinned (OpenSpec.ofChange fnExactDoStoreSpec)

/-- ITS FALSE NEIGHBOUR: 'it returns false'. Refute it at one input. -/
def fnExactDoStoreWrong : ChangeSpec := { name := "fnExactDoStore", fn := fun _ => fun
  | [d1, d2] => { results := [.lit (.bool false)], args := [d1, d2] }
  | _ => none }
def FnExactDoStoreWrongFalsely : Prop := fnExactDoStoreRow.holds Tryz.pinned (OpenSpec.ofChange fnExactDoStoreWrong)

/-- 'laws.FnExactRunStore': WHATEVER THE INPUT: true; the input reads as it did. -/
def fnExactRunStoreSpec : ChangeSpec := { name := "fnExactRunStore", fn := fun _ => fun
  | [d] => { results := [.lit (.bool true)], args := [d] }
  | _ => none }
def fnExactRunStoreRow : OpenClaim := { program := "ytghckfpmmofmnaagreat", sum := "f61c38f1be08f1b691783f22be580a46dcb454ce1ca5e268ffc360fc996c78cd", func := "loop.example/g00408/laws.FnExactRunStore", spec := "fnExactRunStore", unfollowed := true, recurses := true, plainKeys := false, apart := false }
def FnExactRunStoreSaid : Prop := fnExactRunStoreRow.holds Tryz.pinned (OpenSpec.ofChange fnExactRunStoreSpec)

/-- ITS FALSE NEIGHBOUR: 'it returns false'. Refute it at one input. -/
def fnExactRunStoreWrong : ChangeSpec := { name := "fnExactRunStore", fn := fun _ => fun
  | [d] => { results := [.lit (.bool false)], args := [d] }
  | _ => none }
def FnExactRunStoreWrongFalsely : Prop := fnExactRunStoreRow.holds Tryz.pinned (OpenSpec.ofChange fnExactRunStoreWrong)

/-- 'laws.FnExactTakeBack': WHATEVER THE INPUT: true; the input reads as it did. -/
def fnExactTakeBackSpec : ChangeSpec := { name := "fnExactTakeBack", fn := fun _ => fun
  | [d1, d2] => { results := [.lit (.bool true)], args := [d1, d2] }
  | _ => none }
def fnExactTakeBackRow : OpenClaim := { program := "ytghckfpmmofmnaagreat", sum := "f61c38f1be08f1b691783f22be580a46dcb454ce1ca5e268ffc360fc996c78cd", func := "loop.example/g00408/laws.FnExactTakeBack", spec := "fnExactTakeBack", unfollowed := true, recurses := true, plainKeys := false, apart := false }
def FnExactTakeBackSaid : Prop := fnExactTakeBackRow.holds Tryz.pinned (OpenSpec.ofChange fnExactTakeBackSpec)

/-- ITS FALSE NEIGHBOUR: 'it returns false'. Refute it at one input. -/
def fnExactTakeBackWrong : ChangeSpec := { name := "fnExactTakeBack", fn := fun _ => fun
  | [d1, d2] => { results := [.lit (.bool false)], args := [d1, d2] }
  | _ => none }
def FnExactTakeBackWrongFalsely : Prop := fnExactTakeBackRow.holds Tryz.pinned (OpenSpec.ofChange fnExactTakeBackWrong)

/-- 'laws.FnExactRecoverStore': WHATEVER THE INPUT: true; the input reads as it did. -/
def fnExactRecoverStoreSpec : ChangeSpec := { name := "fnExactRecoverStore", fn := fun _ => fun
  | [d] => { results := [.lit (.bool true)], args := [d] }
  | _ => none }
def fnExactRecoverStoreRow : OpenClaim := { program := "ytghckfpmmofmnaagreat", sum := "f61c38f1be08f1b691783f22be580a46dcb454ce1ca5e268ffc360fc996c78cd", func := "loop.example/g00408/laws.FnExactRecoverStore", spec := "fnExactRecoverStore", inPlace := ["slices.overlaps[loop.example/g00408/impl.Change]"], unfollowed := true, recurses := true, plainKeys := false, apart := false }
def FnExactRecoverStoreSaid : Prop := fnExactRecoverStoreRow.holds Tryz.pinned (OpenSpec.ofChange fnExactRecoverStoreSpec)

/-- ITS FALSE NEIGHBOUR: 'it returns false'. Refute it at one input. -/
def fnExactRecoverStoreWrong : ChangeSpec := { name := "fnExactRecoverStore", fn := fun _ => fun
  | [d] => { results := [.lit (.bool false)], args := [d] }
  | _ => none }
def FnExactRecoverStoreWrongFalsely : Prop := fnExactRecoverStoreRow.holds Tryz.pinned (OpenSpec.ofChange fnExactRecoverStoreWrong)

/- THE SECOND FORM. 'bulk': how many values and letters a reading holds, each counted each time it is reached (what is shared counts as often as it is met; a slice's spare places count too). A statement '..UptoSaid' is the law's where the arguments, and the package variables that the reading takes, are together of bulk at most 1048576: NARROWER than '..Said'. Prove '..Said' where nothing that the law and all that it calls make is longer than what came in: it says more and counts as full. Else prove '..UptoSaid'. A law counts once. -/
mutual
def uptoBulk {H : Type} : DataW H → Nat
  | .lit (.string bytes) => bytes.length + 1
  | .lit _ => 1
  | .nil => 1
  | .ptr d => uptoBulk d + 1
  | .slice elems spare => uptoBulkAll elems + uptoBulkAll spare + 1
  | .agg parts => uptoBulkAll parts + 1
  | .iface _ d => uptoBulk d + 1
  | .map entries => uptoBulkEntries entries + 1
  | .held _ => 1
def uptoBulkAll {H : Type} : List (DataW H) → Nat
  | [] => 0
  | d :: r => uptoBulk d + uptoBulkAll r
def uptoBulkEntries {H : Type} : List (Lit × DataW H) → Nat
  | [] => 0
  | x :: r => uptoBulkEntry x + uptoBulkEntries r
def uptoBulkEntry {H : Type} : Lit × DataW H → Nat
  | (.string bytes, d) => bytes.length + uptoBulk d + 1
  | (_, d) => uptoBulk d + 1
 end
def uptoSmall : (H : Type) → List (DataW H) → Bool := fun _ ds => decide (uptoBulkAll ds ≤ 1048576)
def OpenSpec.upto (s : _root_.Go.ChangeSpec) : _root_.Go.OpenSpec := { _root_.Go.OpenSpec.ofChange s with cond := some uptoSmall }

/-- 'laws.FnExactDoStore', WHERE WHAT IT READS IS OF BULK AT MOST 1048576: true; the input reads as it did. -/
def fnExactDoStoreUptoRow : OpenClaim := { program := "ytghckfpmmofmnaagreat", sum := "f61c38f1be08f1b691783f22be580a46dcb454ce1ca5e268ffc360fc996c78cd", func := "loop.example/g00408/laws.FnExactDoStore", spec := "fnExactDoStore", unfollowed := true, recurses := true, plainKeys := false, apart := false, narrowed := true }
def FnExactDoStoreUptoSaid : Prop := fnExactDoStoreUptoRow.holds Tryz.pinned (OpenSpec.upto fnExactDoStoreSpec)

/-- 'laws.FnExactRunStore', WHERE WHAT IT READS IS OF BULK AT MOST 1048576: true; the input reads as it did. -/
def fnExactRunStoreUptoRow : OpenClaim := { program := "ytghckfpmmofmnaagreat", sum := "f61c38f1be08f1b691783f22be580a46dcb454ce1ca5e268ffc360fc996c78cd", func := "loop.example/g00408/laws.FnExactRunStore", spec := "fnExactRunStore", unfollowed := true, recurses := true, plainKeys := false, apart := false, narrowed := true }
def FnExactRunStoreUptoSaid : Prop := fnExactRunStoreUptoRow.holds Tryz.pinned (OpenSpec.upto fnExactRunStoreSpec)

/-- 'laws.FnExactTakeBack', WHERE WHAT IT READS IS OF BULK AT MOST 1048576: true; the input reads as it did. -/
def fnExactTakeBackUptoRow : OpenClaim := { program := "ytghckfpmmofmnaagreat", sum := "f61c38f1be08f1b691783f22be580a46dcb454ce1ca5e268ffc360fc996c78cd", func := "loop.example/g00408/laws.FnExactTakeBack", spec := "fnExactTakeBack", unfollowed := true, recurses := true, plainKeys := false, apart := false, narrowed := true }
def FnExactTakeBackUptoSaid : Prop := fnExactTakeBackUptoRow.holds Tryz.pinned (OpenSpec.upto fnExactTakeBackSpec)

/-- 'laws.FnExactRecoverStore', WHERE WHAT IT READS IS OF BULK AT MOST 1048576: true; the input reads as it did. -/
def fnExactRecoverStoreUptoRow : OpenClaim := { program := "ytghckfpmmofmnaagreat", sum := "f61c38f1be08f1b691783f22be580a46dcb454ce1ca5e268ffc360fc996c78cd", func := "loop.example/g00408/laws.FnExactRecoverStore", spec := "fnExactRecoverStore", inPlace := ["slices.overlaps[loop.example/g00408/impl.Change]"], unfollowed := true, recurses := true, plainKeys := false, apart := false, narrowed := true }
def FnExactRecoverStoreUptoSaid : Prop := fnExactRecoverStoreUptoRow.holds Tryz.pinned (OpenSpec.upto fnExactRecoverStoreSpec)

end Rows
end Go.Proofs.YtghckfpmmofmnaaGreat
