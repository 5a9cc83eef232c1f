/-
  No cell of these rows narrows 'for every input' (looked for: loops, veiled, ifaces, maps, wideKeys, modest, calm, conditions, laid).
  DERIVED. THE GIVEN ROWS OF THIS SEAT. 3 by the template 'for every input the law returns true; each argument reads behind the call as it read before'; 0 by the template 'total and deterministic' (their statements: YtaebhfnbgkbdhaaGreatTotals.lean).
  GIVEN WITH THE SEED: the statements are not yours to turn. If you find one false, say at which input.
  Laid BY PROGRAM, IN A SANDBOX (cutbox-rows.mjs): the forced cells as the released guide's own fill.sh prints them over the translation edb5998343c13a9c… (all of the seat's roots in one cut). By AI agents, Wed Nov 11 2026. No macro, syntax, notation, axiom, sorry.
-/
import Derived.Test.YtaebhfnbgkbdhaaGreatChecked
import GoSem.Claim
import GoSem.ClaimJoined
import GoSem.ClaimMapViews
import Derived.JoinedTies
import Derived.KernelRfl
namespace Go.Proofs.YtaebhfnbgkbdhaaGreat
/- THE CELL 'sum', in the pinned program and in every row, IS THE sha256 OF THE DUMP (.gsa) THAT YtaebhfnbgkbdhaaGreatProg.lean LOADS. Nothing in Lean hashes anything: it is a label: what it is worth is what the hold of that sum in a sandbox is worth. -/
noncomputable def Tryz.pinned : Pinned := { name := "ytaebhfnbgkbdhaagreat", sum := "edb5998343c13a9c5b61fa0373a8dde9c0d92a5a4e890d17e842d6c1925cf0b2", checked := Tryz.checked }
namespace Rows
def none {H : Type} : Left H := { results := [], args := [] }

/-- 'laws.FnPlains': WHATEVER THE INPUT: true; the input reads as it did. -/
def fnPlainsSpec : ChangeSpec := { name := "fnPlains", fn := fun _ => fun
  | [d] => { results := [.lit (.bool true)], args := [d] }
  | _ => none }
def fnPlainsRow : OpenClaim := { program := "ytaebhfnbgkbdhaagreat", sum := "edb5998343c13a9c5b61fa0373a8dde9c0d92a5a4e890d17e842d6c1925cf0b2", func := "loop.example/g00408/laws.FnPlains", spec := "fnPlains", unfollowed := true, recurses := true, plainKeys := false, apart := false }
def FnPlainsSaid : Prop := fnPlainsRow.holds Tryz.pinned (OpenSpec.ofChange fnPlainsSpec)

/-- ITS FALSE NEIGHBOUR: 'it returns false'. Refute it at one input. -/
def fnPlainsWrong : ChangeSpec := { name := "fnPlains", fn := fun _ => fun
  | [d] => { results := [.lit (.bool false)], args := [d] }
  | _ => none }
def FnPlainsWrongFalsely : Prop := fnPlainsRow.holds Tryz.pinned (OpenSpec.ofChange fnPlainsWrong)

/-- 'laws.FnBacks': WHATEVER THE INPUT: true; the input reads as it did. -/
def fnBacksSpec : ChangeSpec := { name := "fnBacks", fn := fun _ => fun
  | [d] => { results := [.lit (.bool true)], args := [d] }
  | _ => none }
def fnBacksRow : OpenClaim := { program := "ytaebhfnbgkbdhaagreat", sum := "edb5998343c13a9c5b61fa0373a8dde9c0d92a5a4e890d17e842d6c1925cf0b2", func := "loop.example/g00408/laws.FnBacks", spec := "fnBacks", unfollowed := true, recurses := true, plainKeys := false, apart := false }
def FnBacksSaid : Prop := fnBacksRow.holds Tryz.pinned (OpenSpec.ofChange fnBacksSpec)

/-- ITS FALSE NEIGHBOUR: 'it returns false'. Refute it at one input. -/
def fnBacksWrong : ChangeSpec := { name := "fnBacks", fn := fun _ => fun
  | [d] => { results := [.lit (.bool false)], args := [d] }
  | _ => none }
def FnBacksWrongFalsely : Prop := fnBacksRow.holds Tryz.pinned (OpenSpec.ofChange fnBacksWrong)

/-- 'laws.FnEdits': WHATEVER THE INPUT: true; the input reads as it did. -/
def fnEditsSpec : ChangeSpec := { name := "fnEdits", fn := fun _ => fun
  | [d] => { results := [.lit (.bool true)], args := [d] }
  | _ => none }
def fnEditsRow : OpenClaim := { program := "ytaebhfnbgkbdhaagreat", sum := "edb5998343c13a9c5b61fa0373a8dde9c0d92a5a4e890d17e842d6c1925cf0b2", func := "loop.example/g00408/laws.FnEdits", spec := "fnEdits", unfollowed := true, recurses := true, plainKeys := false, apart := false }
def FnEditsSaid : Prop := fnEditsRow.holds Tryz.pinned (OpenSpec.ofChange fnEditsSpec)

/-- ITS FALSE NEIGHBOUR: 'it returns false'. Refute it at one input. -/
def fnEditsWrong : ChangeSpec := { name := "fnEdits", fn := fun _ => fun
  | [d] => { results := [.lit (.bool false)], args := [d] }
  | _ => none }
def FnEditsWrongFalsely : Prop := fnEditsRow.holds Tryz.pinned (OpenSpec.ofChange fnEditsWrong)

/- THE SECOND FORM. 'bulk': how many values and letters a reading holds, each counted each time it is reached (what is shared counts as often as it is met; a slice's spare places count too). A statement '..UptoSaid' is the law's where the arguments, and the package variables that the reading takes, are together of bulk at most 1048576: NARROWER than '..Said'. Prove '..Said' where nothing that the law and all that it calls make is longer than what came in: it says more and counts as full. Else prove '..UptoSaid'. A law counts once. -/
mutual
def uptoBulk {H : Type} : DataW H → Nat
  | .lit (.string bytes) => bytes.length + 1
  | .lit _ => 1
  | .nil => 1
  | .ptr d => uptoBulk d + 1
  | .slice elems spare => uptoBulkAll elems + uptoBulkAll spare + 1
  | .agg parts => uptoBulkAll parts + 1
  | .iface _ d => uptoBulk d + 1
  | .map entries => uptoBulkEntries entries + 1
  | .held _ => 1
def uptoBulkAll {H : Type} : List (DataW H) → Nat
  | [] => 0
  | d :: r => uptoBulk d + uptoBulkAll r
def uptoBulkEntries {H : Type} : List (Lit × DataW H) → Nat
  | [] => 0
  | x :: r => uptoBulkEntry x + uptoBulkEntries r
def uptoBulkEntry {H : Type} : Lit × DataW H → Nat
  | (.string bytes, d) => bytes.length + uptoBulk d + 1
  | (_, d) => uptoBulk d + 1
 end
def uptoSmall : (H : Type) → List (DataW H) → Bool := fun _ ds => decide (uptoBulkAll ds ≤ 1048576)
def OpenSpec.upto (s : _root_.Go.ChangeSpec) : _root_.Go.OpenSpec := { _root_.Go.OpenSpec.ofChange s with cond := some uptoSmall }

/-- 'laws.FnPlains', WHERE WHAT IT READS IS OF BULK AT MOST 1048576: true; the input reads as it did. -/
def fnPlainsUptoRow : OpenClaim := { program := "ytaebhfnbgkbdhaagreat", sum := "edb5998343c13a9c5b61fa0373a8dde9c0d92a5a4e890d17e842d6c1925cf0b2", func := "loop.example/g00408/laws.FnPlains", spec := "fnPlains", unfollowed := true, recurses := true, plainKeys := false, apart := false, narrowed := true }
def FnPlainsUptoSaid : Prop := fnPlainsUptoRow.holds Tryz.pinned (OpenSpec.upto fnPlainsSpec)

/-- 'laws.FnBacks', WHERE WHAT IT READS IS OF BULK AT MOST 1048576: true; the input reads as it did. -/
def fnBacksUptoRow : OpenClaim := { program := "ytaebhfnbgkbdhaagreat", sum := "edb5998343c13a9c5b61fa0373a8dde9c0d92a5a4e890d17e842d6c1925cf0b2", func := "loop.example/g00408/laws.FnBacks", spec := "fnBacks", unfollowed := true, recurses := true, plainKeys := false, apart := false, narrowed := true }
def FnBacksUptoSaid : Prop := fnBacksUptoRow.holds Tryz.pinned (OpenSpec.upto fnBacksSpec)

/-- 'laws.FnEdits', WHERE WHAT IT READS IS OF BULK AT MOST 1048576: true; the input reads as it did. -/
def fnEditsUptoRow : OpenClaim := { program := "ytaebhfnbgkbdhaagreat", sum := "edb5998343c13a9c5b61fa0373a8dde9c0d92a5a4e890d17e842d6c1925cf0b2", func := "loop.example/g00408/laws.FnEdits", spec := "fnEdits", unfollowed := true, recurses := true, plainKeys := false, apart := false, narrowed := true }
def FnEditsUptoSaid : Prop := fnEditsUptoRow.holds Tryz.pinned (OpenSpec.upto fnEditsSpec)

end Rows
end Go.Proofs.YtaebhfnbgkbdhaaGreat
