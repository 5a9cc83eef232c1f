/-
  No cell of these rows narrows 'for every input' (looked for: loops, veiled, ifaces, maps, wideKeys, modest, calm, conditions, laid).
  DERIVED. THE GIVEN ROWS OF THIS SEAT. 5 by the template 'for every input the law returns true; each argument reads behind the call as it read before'; 0 by the template 'total and deterministic' (their statements: YtkimdiobckckiaaTotals.lean).
  GIVEN WITH THE SEED: the statements are not yours to turn. If you find one false, say at which input.
  Laid BY PROGRAM, IN A SANDBOX (cutbox-rows.mjs): the forced cells as the released guide's own fill.sh prints them over the translation d5688a9fcf949bb5… (all of the seat's roots in one cut). By AI agents, Wed Nov 11 2026. No macro, syntax, notation, axiom, sorry.
-/
import Derived.Test.YtkimdiobckckiaaChecked
import GoSem.Claim
import GoSem.ClaimJoined
import GoSem.ClaimMapViews
import Derived.JoinedTies
import Derived.KernelRfl
namespace Go.Proofs.Ytkimdiobckckiaa
/- THE CELL 'sum', in the pinned program and in every row, IS THE sha256 OF THE DUMP (.gsa) THAT YtkimdiobckckiaaProg.lean LOADS. Nothing in Lean hashes anything: it is a label: what it is worth is what the hold of that sum in a sandbox is worth. -/
noncomputable def Try.pinned : Pinned := { name := "ytkimdiobckckiaa", sum := "d5688a9fcf949bb56ad86668ee7b48af1a8fb3cf7211cd1082de9f939fd1ef55", checked := Try.checked }
namespace Rows
def none {H : Type} : Left H := { results := [], args := [] }

/-- 'laws.FnExactPlainFault': WHATEVER THE INPUT: true; the input reads as it did. -/
def fnExactPlainFaultSpec : ChangeSpec := { name := "fnExactPlainFault", fn := fun _ => fun
  | [d] => { results := [.lit (.bool true)], args := [d] }
  | _ => none }
def fnExactPlainFaultRow : OpenClaim := { program := "ytkimdiobckckiaa", sum := "d5688a9fcf949bb56ad86668ee7b48af1a8fb3cf7211cd1082de9f939fd1ef55", func := "loop.example/g00408/laws.FnExactPlainFault", spec := "fnExactPlainFault", unfollowed := true, recurses := true, plainKeys := false, apart := false }
def FnExactPlainFaultSaid : Prop := fnExactPlainFaultRow.holds Try.pinned (OpenSpec.ofChange fnExactPlainFaultSpec)

/-- ITS FALSE NEIGHBOUR: 'it returns false'. Refute it at one input. -/
def fnExactPlainFaultWrong : ChangeSpec := { name := "fnExactPlainFault", fn := fun _ => fun
  | [d] => { results := [.lit (.bool false)], args := [d] }
  | _ => none }
def FnExactPlainFaultWrongFalsely : Prop := fnExactPlainFaultRow.holds Try.pinned (OpenSpec.ofChange fnExactPlainFaultWrong)

/-- 'laws.FnExactCommittedOf': WHATEVER THE INPUT: true; the input reads as it did. -/
def fnExactCommittedOfSpec : ChangeSpec := { name := "fnExactCommittedOf", fn := fun _ => fun
  | [d] => { results := [.lit (.bool true)], args := [d] }
  | _ => none }
def fnExactCommittedOfRow : OpenClaim := { program := "ytkimdiobckckiaa", sum := "d5688a9fcf949bb56ad86668ee7b48af1a8fb3cf7211cd1082de9f939fd1ef55", func := "loop.example/g00408/laws.FnExactCommittedOf", spec := "fnExactCommittedOf", unfollowed := true, recurses := true, plainKeys := false, apart := false }
def FnExactCommittedOfSaid : Prop := fnExactCommittedOfRow.holds Try.pinned (OpenSpec.ofChange fnExactCommittedOfSpec)

/-- ITS FALSE NEIGHBOUR: 'it returns false'. Refute it at one input. -/
def fnExactCommittedOfWrong : ChangeSpec := { name := "fnExactCommittedOf", fn := fun _ => fun
  | [d] => { results := [.lit (.bool false)], args := [d] }
  | _ => none }
def FnExactCommittedOfWrongFalsely : Prop := fnExactCommittedOfRow.holds Try.pinned (OpenSpec.ofChange fnExactCommittedOfWrong)

/-- 'laws.FnExactCheckOp': WHATEVER THE INPUT: true; the input reads as it did. -/
def fnExactCheckOpSpec : ChangeSpec := { name := "fnExactCheckOp", fn := fun _ => fun
  | [d1, d2, d3] => { results := [.lit (.bool true)], args := [d1, d2, d3] }
  | _ => none }
def fnExactCheckOpRow : OpenClaim := { program := "ytkimdiobckckiaa", sum := "d5688a9fcf949bb56ad86668ee7b48af1a8fb3cf7211cd1082de9f939fd1ef55", func := "loop.example/g00408/laws.FnExactCheckOp", spec := "fnExactCheckOp", unfollowed := true, recurses := true, plainKeys := false, apart := false }
def FnExactCheckOpSaid : Prop := fnExactCheckOpRow.holds Try.pinned (OpenSpec.ofChange fnExactCheckOpSpec)

/-- ITS FALSE NEIGHBOUR: 'it returns false'. Refute it at one input. -/
def fnExactCheckOpWrong : ChangeSpec := { name := "fnExactCheckOp", fn := fun _ => fun
  | [d1, d2, d3] => { results := [.lit (.bool false)], args := [d1, d2, d3] }
  | _ => none }
def FnExactCheckOpWrongFalsely : Prop := fnExactCheckOpRow.holds Try.pinned (OpenSpec.ofChange fnExactCheckOpWrong)

/-- 'laws.FnExactNewConnector': WHATEVER THE INPUT: true; the input reads as it did. -/
def fnExactNewConnectorSpec : ChangeSpec := { name := "fnExactNewConnector", fn := fun _ => fun
  | [d] => { results := [.lit (.bool true)], args := [d] }
  | _ => none }
def fnExactNewConnectorRow : OpenClaim := { program := "ytkimdiobckckiaa", sum := "d5688a9fcf949bb56ad86668ee7b48af1a8fb3cf7211cd1082de9f939fd1ef55", func := "loop.example/g00408/laws.FnExactNewConnector", spec := "fnExactNewConnector", unfollowed := true, recurses := true, plainKeys := false, apart := false }
def FnExactNewConnectorSaid : Prop := fnExactNewConnectorRow.holds Try.pinned (OpenSpec.ofChange fnExactNewConnectorSpec)

/-- ITS FALSE NEIGHBOUR: 'it returns false'. Refute it at one input. -/
def fnExactNewConnectorWrong : ChangeSpec := { name := "fnExactNewConnector", fn := fun _ => fun
  | [d] => { results := [.lit (.bool false)], args := [d] }
  | _ => none }
def FnExactNewConnectorWrongFalsely : Prop := fnExactNewConnectorRow.holds Try.pinned (OpenSpec.ofChange fnExactNewConnectorWrong)

/-- 'laws.FnExactConnectorFault': WHATEVER THE INPUT: true; the input reads as it did. -/
def fnExactConnectorFaultSpec : ChangeSpec := { name := "fnExactConnectorFault", fn := fun _ => fun
  | [d] => { results := [.lit (.bool true)], args := [d] }
  | _ => none }
def fnExactConnectorFaultRow : OpenClaim := { program := "ytkimdiobckckiaa", sum := "d5688a9fcf949bb56ad86668ee7b48af1a8fb3cf7211cd1082de9f939fd1ef55", func := "loop.example/g00408/laws.FnExactConnectorFault", spec := "fnExactConnectorFault", unfollowed := true, recurses := true, plainKeys := false, apart := false }
def FnExactConnectorFaultSaid : Prop := fnExactConnectorFaultRow.holds Try.pinned (OpenSpec.ofChange fnExactConnectorFaultSpec)

/-- ITS FALSE NEIGHBOUR: 'it returns false'. Refute it at one input. -/
def fnExactConnectorFaultWrong : ChangeSpec := { name := "fnExactConnectorFault", fn := fun _ => fun
  | [d] => { results := [.lit (.bool false)], args := [d] }
  | _ => none }
def FnExactConnectorFaultWrongFalsely : Prop := fnExactConnectorFaultRow.holds Try.pinned (OpenSpec.ofChange fnExactConnectorFaultWrong)

/- THE SECOND FORM. 'bulk': how many values and letters a reading holds, each counted each time it is reached (what is shared counts as often as it is met; a slice's spare places count too). A statement '..UptoSaid' is the law's where the arguments, and the package variables that the reading takes, are together of bulk at most 1048576: NARROWER than '..Said'. Prove '..Said' where nothing that the law and all that it calls make is longer than what came in: it says more and counts as full. Else prove '..UptoSaid'. A law counts once. -/
mutual
def uptoBulk {H : Type} : DataW H → Nat
  | .lit (.string bytes) => bytes.length + 1
  | .lit _ => 1
  | .nil => 1
  | .ptr d => uptoBulk d + 1
  | .slice elems spare => uptoBulkAll elems + uptoBulkAll spare + 1
  | .agg parts => uptoBulkAll parts + 1
  | .iface _ d => uptoBulk d + 1
  | .map entries => uptoBulkEntries entries + 1
  | .held _ => 1
def uptoBulkAll {H : Type} : List (DataW H) → Nat
  | [] => 0
  | d :: r => uptoBulk d + uptoBulkAll r
def uptoBulkEntries {H : Type} : List (Lit × DataW H) → Nat
  | [] => 0
  | x :: r => uptoBulkEntry x + uptoBulkEntries r
def uptoBulkEntry {H : Type} : Lit × DataW H → Nat
  | (.string bytes, d) => bytes.length + uptoBulk d + 1
  | (_, d) => uptoBulk d + 1
 end
def uptoSmall : (H : Type) → List (DataW H) → Bool := fun _ ds => decide (uptoBulkAll ds ≤ 1048576)
def OpenSpec.upto (s : _root_.Go.ChangeSpec) : _root_.Go.OpenSpec := { _root_.Go.OpenSpec.ofChange s with cond := some uptoSmall }

/-- 'laws.FnExactPlainFault', WHERE WHAT IT READS IS OF BULK AT MOST 1048576: true; the input reads as it did. -/
def fnExactPlainFaultUptoRow : OpenClaim := { program := "ytkimdiobckckiaa", sum := "d5688a9fcf949bb56ad86668ee7b48af1a8fb3cf7211cd1082de9f939fd1ef55", func := "loop.example/g00408/laws.FnExactPlainFault", spec := "fnExactPlainFault", unfollowed := true, recurses := true, plainKeys := false, apart := false, narrowed := true }
def FnExactPlainFaultUptoSaid : Prop := fnExactPlainFaultUptoRow.holds Try.pinned (OpenSpec.upto fnExactPlainFaultSpec)

/-- 'laws.FnExactCommittedOf', WHERE WHAT IT READS IS OF BULK AT MOST 1048576: true; the input reads as it did. -/
def fnExactCommittedOfUptoRow : OpenClaim := { program := "ytkimdiobckckiaa", sum := "d5688a9fcf949bb56ad86668ee7b48af1a8fb3cf7211cd1082de9f939fd1ef55", func := "loop.example/g00408/laws.FnExactCommittedOf", spec := "fnExactCommittedOf", unfollowed := true, recurses := true, plainKeys := false, apart := false, narrowed := true }
def FnExactCommittedOfUptoSaid : Prop := fnExactCommittedOfUptoRow.holds Try.pinned (OpenSpec.upto fnExactCommittedOfSpec)

/-- 'laws.FnExactCheckOp', WHERE WHAT IT READS IS OF BULK AT MOST 1048576: true; the input reads as it did. -/
def fnExactCheckOpUptoRow : OpenClaim := { program := "ytkimdiobckckiaa", sum := "d5688a9fcf949bb56ad86668ee7b48af1a8fb3cf7211cd1082de9f939fd1ef55", func := "loop.example/g00408/laws.FnExactCheckOp", spec := "fnExactCheckOp", unfollowed := true, recurses := true, plainKeys := false, apart := false, narrowed := true }
def FnExactCheckOpUptoSaid : Prop := fnExactCheckOpUptoRow.holds Try.pinned (OpenSpec.upto fnExactCheckOpSpec)

/-- 'laws.FnExactNewConnector', WHERE WHAT IT READS IS OF BULK AT MOST 1048576: true; the input reads as it did. -/
def fnExactNewConnectorUptoRow : OpenClaim := { program := "ytkimdiobckckiaa", sum := "d5688a9fcf949bb56ad86668ee7b48af1a8fb3cf7211cd1082de9f939fd1ef55", func := "loop.example/g00408/laws.FnExactNewConnector", spec := "fnExactNewConnector", unfollowed := true, recurses := true, plainKeys := false, apart := false, narrowed := true }
def FnExactNewConnectorUptoSaid : Prop := fnExactNewConnectorUptoRow.holds Try.pinned (OpenSpec.upto fnExactNewConnectorSpec)

/-- 'laws.FnExactConnectorFault', WHERE WHAT IT READS IS OF BULK AT MOST 1048576: true; the input reads as it did. -/
def fnExactConnectorFaultUptoRow : OpenClaim := { program := "ytkimdiobckckiaa", sum := "d5688a9fcf949bb56ad86668ee7b48af1a8fb3cf7211cd1082de9f939fd1ef55", func := "loop.example/g00408/laws.FnExactConnectorFault", spec := "fnExactConnectorFault", unfollowed := true, recurses := true, plainKeys := false, apart := false, narrowed := true }
def FnExactConnectorFaultUptoSaid : Prop := fnExactConnectorFaultUptoRow.holds Try.pinned (OpenSpec.upto fnExactConnectorFaultSpec)

end Rows
end Go.Proofs.Ytkimdiobckckiaa
