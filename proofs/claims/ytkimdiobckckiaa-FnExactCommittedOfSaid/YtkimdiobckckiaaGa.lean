/- Printed by gen.py, a program of this claim: what each Go function computes. -/
import Derived.Test.YtkimdiobckckiaaOUk
import Derived.Test.YtkimdiobckckiaaProg
import Derived.KernelRfl
set_option maxRecDepth 100000
set_option linter.unusedVariables false
namespace OT
open Go
abbrev Row : Type := (Int × Int × Int × (List UInt8) × Unit)
abbrev tRow : Ty := (tupT [i64, i64, i64, .str])
abbrev Change : Type := (Bool × Row × Bool × Row × Unit)
abbrev tChange : Ty := (tupT [.bool, tRow, .bool, tRow])
abbrev Key : Type := (Int × Int × Unit)
abbrev tKey : Ty := (tupT [i64, i64])
abbrev Tx : Type := (Int × (List Change) × (List Int) × (List Key) × Unit)
abbrev tTx : Ty := (tupT [i64, (.slc tChange), (.slc i64), (.slc tKey)])
abbrev Plain : Type := ((List Row) × (List Tx) × Int × Unit)
abbrev tPlain : Ty := (tupT [(.slc tRow), (.slc tTx), i64])
abbrev RowsResult : Type := (Int × (List Row) × Unit)
abbrev tRowsResult : Ty := (tupT [i64, (.slc tRow)])
abbrev Op : Type := (Int × Int × Row × Int × Unit)
abbrev tOp : Ty := (tupT [i64, i64, tRow, i64])
abbrev ChangeResult : Type := (Int × Bool × Change × Unit)
abbrev tChangeResult : Ty := (tupT [i64, .bool, tChange])
abbrev CellResult : Type := (Int × Int × Int × Int × Row × Unit)
abbrev tCellResult : Ty := (tupT [i64, i64, i64, i64, tRow])
abbrev L6Spot : Type := (Int × Int × CellResult × Unit)
abbrev tL6Spot : Ty := (tupT [i64, i64, tCellResult])
abbrev Buffer : Type := (Int × (List Change) × Unit)
abbrev tBuffer : Ty := (tupT [i64, (.slc tChange)])
abbrev Miner : Type := ((List (List UInt8)) × (List Buffer) × Unit)
abbrev tMiner : Ty := (tupT [(.slc (.slc u8)), (.slc tBuffer)])
abbrev MinerResult : Type := (Int × Bool × Bool × Int × (List Change) × Miner × Unit)
abbrev tMinerResult : Ty := (tupT [i64, .bool, .bool, i64, (.slc tChange), tMiner])
abbrev Sent : Type := (Int × Int × (List Change) × Unit)
abbrev tSent : Ty := (tupT [i64, i64, (.slc tChange)])
abbrev Connector : Type := (Miner × Int × Miner × Int × Unit)
abbrev tConnector : Ty := (tupT [tMiner, i64, tMiner, i64])
abbrev ConnectorResult : Type := (Int × Bool × Sent × Connector × Unit)
abbrev tConnectorResult : Ty := (tupT [i64, .bool, tSent, tConnector])
abbrev Seen : Type := (Row × Int × Int × Bool × Int × Int × Unit)
abbrev tSeen : Ty := (tupT [tRow, i64, i64, .bool, i64, i64])
namespace laws_szRow
/-! loop example g00408 laws szRow -/
abbrev Arg : Type := Row × Int × Unit
abbrev Out : Type := Int × Unit
noncomputable def ps : List (PM × Ty) := [(.ro, tRow), (.ro, i64)]
noncomputable def rs : List (Ty × Md) := [(i64, (roMd i64))]
noncomputable def E : Env := { TI := lookN [(9, .str), (42, tRow)], G := lookN [], fz := [], lv := [], lx := [], lf := [], od := [] }
noncomputable def sem (a : Arg) : Option Out := lift fun k => bodyK E k Go.Proofs.Try.f54 ps rs [] [] a
noncomputable def sig : Sig := { ps := ps, rs := rs, F := fun a => sem a }
noncomputable def C : Code := bodyOf Go.Proofs.Try.f54
noncomputable def fin : St → Option Out := outK ps rs [] (Func.results Go.Proofs.Try.f54).toList (mvs [])
noncomputable def K0 : Ex → St → Option Out := endK fin
noncomputable def p (a1 : Arg) : Option Out := bif decide (w64 (a1.2.1 - (a1.1.2.2.2.1.length : Int)) < (0 : Int)) then (some ((-1 : Int), ())) else some (w64 (a1.2.1 - (a1.1.2.2.2.1.length : Int)), ())
noncomputable def raw (k : Nat) (a1 : Arg) : Option Out := p a1
theorem p_eq (k : Nat) (a1 : Arg) : bodyK E k Go.Proofs.Try.f54 ps rs [] [] a1 = p a1 := by kernel_rfl
theorem raw_eq (k : Nat) (a1 : Arg) : bodyK E k Go.Proofs.Try.f54 ps rs [] [] a1 = raw k a1 := (p_eq k a1).trans (by rfl)
theorem ent : EnterOk Go.Proofs.Try.prog 54 sig.cap := ⟨Go.Proofs.Try.f54, Go.Proofs.Try.func54, by kernel_rfl, by kernel_rfl, by kernel_rfl⟩
theorem env : EnvOk Go.Proofs.Try.prog E := env_ok (tl := [(9, .str), (42, tRow)]) (gl := []) rfl rfl (by kernel_rfl) (by kernel_rfl) (fn_nil _)
theorem chk : funOk Go.Proofs.Try.prog E Go.Proofs.Try.f54 ps rs [] = true := by kernel_rfl
theorem snd : Sound Go.Proofs.Try.prog 54 sig := sound_of_body env Go.Proofs.Try.func54 rfl (es := []) (fr := []) chk (fun _ _ h => lift_some h)
end laws_szRow
namespace laws_szRowS
/-! loop example g00408 laws szRowS -/
abbrev Arg : Type := (List Row) × Int × Unit
abbrev Out : Type := Int × Unit
noncomputable def ps : List (PM × Ty) := [(.ro, (.slc tRow)), (.ro, i64)]
noncomputable def rs : List (Ty × Md) := [(i64, (roMd i64))]
noncomputable def E : Env := { TI := lookN [(22, (.slc tRow)), (42, tRow)], G := lookN [(54, laws_szRow.sig)], fz := [], lv := [(5, [0, 1, 5])], lx := [(0, [1])], lf := [], od := [] }
noncomputable def sem (a : Arg) : Option Out := lift fun k => bodyK E k Go.Proofs.Try.f19 ps rs [] [] a
noncomputable def sig : Sig := { ps := ps, rs := rs, F := fun a => sem a }
noncomputable def C : Code := bodyOf Go.Proofs.Try.f19
noncomputable def fin : St → Option Out := outK ps rs [] (Func.results Go.Proofs.Try.f19).toList (mvs [])
noncomputable def K0 : Ex → St → Option Out := endK fin
noncomputable def S0 (rec : St → Option Out) (a1 : Arg) : (Int × Int) → Option Out := fun v402 => rec ({ n := 27, sl := [(0, .val (.slc tRow) a1.1), (1, .val i64 v402.1), (5, .val i64 v402.2)], vr := [], lent := [] })
noncomputable def X0_0 (K : Ex → St → Option Out) (a1 : Arg) : Int → Option Out := fun z => K (.exit 0) ({ n := 27, sl := [(1, .val i64 z)], vr := [], lent := [] })
noncomputable def b0 (self : (Int × Int) → Option Out) (e0 : Int → Option Out) (a1 : Arg) (v402 : Int × Int) : Option Out := bif decide (v402.2 < (a1.1.length : Int)) then (if 0 ≤ v402.2 then ((a1.1[v402.2.toNat]?).bind fun x603 => (laws_szRow.sem (x603, v402.1, ())).bind fun r604 => bif decide (r604.1 < (0 : Int)) then (some ((-1 : Int), ())) else self (r604.1, w64 (v402.2 + (1 : Int)))) else none) else e0 v402.1
noncomputable def B0 (k : Nat) (self : (Int × Int) → Option Out) (e0 : Int → Option Out) (a1 : Arg) (v402 : Int × Int) : Option Out := b0 self e0 a1 v402
theorem b0_eq (k : Nat) (rec : St → Option Out) (K : Ex → St → Option Out) (a1 : Arg) (v402 : Int × Int) : codeK E k fin (sub [1, 1, 1, 0, 1, 0, 0] C) ({ n := 27, sl := [(0, .val (.slc tRow) a1.1), (1, .val i64 v402.1), (5, .val i64 v402.2)], vr := [], lent := [] }) (loopC rec (keepF [0, 1, 5] []) K) = b0 (S0 rec a1) (X0_0 K a1) a1 v402 := by kernel_rfl
theorem B0_eq (k : Nat) (rec : St → Option Out) (K : Ex → St → Option Out) (a1 : Arg) (v402 : Int × Int) : codeK E k fin (sub [1, 1, 1, 0, 1, 0, 0] C) ({ n := 27, sl := [(0, .val (.slc tRow) a1.1), (1, .val i64 v402.1), (5, .val i64 v402.2)], vr := [], lent := [] }) (loopC rec (keepF [0, 1, 5] []) K) = B0 k (S0 rec a1) (X0_0 K a1) a1 v402 := (b0_eq k rec K a1 v402).trans (by rfl)
noncomputable def l0 (k : Nat) (a1 : Arg) (e0 : Int → Option Out) (v : Int × Int) : Option Out := rawIter (fun self v => B0 k self e0 a1 v) k v
theorem l0_eq (k : Nat) (K : Ex → St → Option Out) (a1 : Arg) (v402 : Int × Int) : iterK (codeK E k fin (sub [1, 1, 1, 0, 1, 0, 0] C)) (keepF [0, 1, 5] []) K k ({ n := 27, sl := [(0, .val (.slc tRow) a1.1), (1, .val i64 v402.1), (5, .val i64 v402.2)], vr := [], lent := [] }) = l0 k a1 (X0_0 K a1) v402 :=
  iter_raw _ _ K (fun v402 => ({ n := 27, sl := [(0, .val (.slc tRow) a1.1), (1, .val i64 v402.1), (5, .val i64 v402.2)], vr := [], lent := [] } : St)) (fun self v => B0 k self (X0_0 K a1) a1 v) (fun rec v => B0_eq k rec K a1 v) k v402
noncomputable def q0 (a1 : Arg) (z605 : Int) : Option Out := some (z605, ())
noncomputable def Q0 (k : Nat) (a1 : Arg) (z605 : Int) : Option Out := q0 a1 z605
theorem q0_eq (k : Nat) (a1 : Arg) (z605 : Int) : (blockC 0 (seqC (codeK E k fin (sub [1, 1, 1, 1] C)) K0)) (.exit 0) ({ n := 27, sl := [(1, .val i64 z605)], vr := [], lent := [] }) = q0 a1 z605 := by kernel_rfl
theorem Q0_eq (k : Nat) (a1 : Arg) (z605 : Int) : (blockC 0 (seqC (codeK E k fin (sub [1, 1, 1, 1] C)) K0)) (.exit 0) ({ n := 27, sl := [(1, .val i64 z605)], vr := [], lent := [] }) = Q0 k a1 z605 := (q0_eq k a1 z605).trans (by rfl)
noncomputable def s0 (k : Nat) (a1 : Arg) : (Int × Int) → Option Out := fun v402 => iterK (codeK E k fin (sub [1, 1, 1, 0, 1, 0, 0] C)) (keepF [0, 1, 5] []) (blockC 0 (seqC (codeK E k fin (sub [1, 1, 1, 1] C)) K0)) k ({ n := 27, sl := [(0, .val (.slc tRow) a1.1), (1, .val i64 v402.1), (5, .val i64 v402.2)], vr := [], lent := [] })
noncomputable def r0 (k : Nat) (a1 : Arg) : (Int × Int) → Option Out := fun v402 => l0 k a1 (fun z => Q0 k a1 z) v402
theorem s0_eq (k : Nat) (a1 : Arg) : s0 k a1 = r0 k a1 := by
  funext v402;
  have h0 : X0_0 ((blockC 0 (seqC (codeK E k fin (sub [1, 1, 1, 1] C)) K0))) a1 = fun z => Q0 k a1 z := funext fun z => Q0_eq k a1 z
  refine (l0_eq k ((blockC 0 (seqC (codeK E k fin (sub [1, 1, 1, 1] C)) K0))) a1 v402).trans ?_
  rw [h0]
  rfl
noncomputable def p (l0 : (Int × Int) → Option Out) (a1 : Arg) : Option Out := bif decide (w64 (a1.2.1 - (a1.1.length : Int)) < (0 : Int)) then (some ((-1 : Int), ())) else l0 (w64 (a1.2.1 - (a1.1.length : Int)), (0 : Int))
noncomputable def raw (k : Nat) (a1 : Arg) : Option Out := p (r0 k a1) a1
theorem p_eq (k : Nat) (a1 : Arg) : bodyK E k Go.Proofs.Try.f19 ps rs [] [] a1 = p (s0 k a1) a1 := by kernel_rfl
theorem raw_eq (k : Nat) (a1 : Arg) : bodyK E k Go.Proofs.Try.f19 ps rs [] [] a1 = raw k a1 := (p_eq k a1).trans (by rw [s0_eq]; rfl)
theorem ent : EnterOk Go.Proofs.Try.prog 19 sig.cap := ⟨Go.Proofs.Try.f19, Go.Proofs.Try.func19, by kernel_rfl, by kernel_rfl, by kernel_rfl⟩
theorem env : EnvOk Go.Proofs.Try.prog E := env_ok (tl := [(22, (.slc tRow)), (42, tRow)]) (gl := [(54, laws_szRow.sig)]) rfl rfl (by kernel_rfl) (by kernel_rfl) (fn_cons laws_szRow.snd laws_szRow.ent (fn_nil _))
theorem chk : funOk Go.Proofs.Try.prog E Go.Proofs.Try.f19 ps rs [] = true := by kernel_rfl
theorem snd : Sound Go.Proofs.Try.prog 19 sig := sound_of_body env Go.Proofs.Try.func19 rfl (es := []) (fr := []) chk (fun _ _ h => lift_some h)
end laws_szRowS
namespace laws_szChange
/-! loop example g00408 laws szChange -/
abbrev Arg : Type := Change × Int × Unit
abbrev Out : Type := Int × Unit
noncomputable def ps : List (PM × Ty) := [(.ro, tChange), (.ro, i64)]
noncomputable def rs : List (Ty × Md) := [(i64, (roMd i64))]
noncomputable def E : Env := { TI := lookN [(42, tRow), (205, tChange)], G := lookN [(54, laws_szRow.sig)], fz := [], lv := [], lx := [], lf := [], od := [] }
noncomputable def sem (a : Arg) : Option Out := lift fun k => bodyK E k Go.Proofs.Try.f152 ps rs [] [] a
noncomputable def sig : Sig := { ps := ps, rs := rs, F := fun a => sem a }
noncomputable def C : Code := bodyOf Go.Proofs.Try.f152
noncomputable def fin : St → Option Out := outK ps rs [] (Func.results Go.Proofs.Try.f152).toList (mvs [])
noncomputable def K0 : Ex → St → Option Out := endK fin
noncomputable def p (a1 : Arg) : Option Out := (laws_szRow.sem (a1.1.2.1, a1.2.1, ())).bind fun r2 => bif decide (r2.1 < (0 : Int)) then (some ((-1 : Int), ())) else (laws_szRow.sem (a1.1.2.2.2.1, r2.1, ())).bind fun r3 => bif decide (r3.1 < (0 : Int)) then (some ((-1 : Int), ())) else some (r3.1, ())
noncomputable def raw (k : Nat) (a1 : Arg) : Option Out := p a1
theorem p_eq (k : Nat) (a1 : Arg) : bodyK E k Go.Proofs.Try.f152 ps rs [] [] a1 = p a1 := by kernel_rfl
theorem raw_eq (k : Nat) (a1 : Arg) : bodyK E k Go.Proofs.Try.f152 ps rs [] [] a1 = raw k a1 := (p_eq k a1).trans (by rfl)
theorem ent : EnterOk Go.Proofs.Try.prog 152 sig.cap := ⟨Go.Proofs.Try.f152, Go.Proofs.Try.func152, by kernel_rfl, by kernel_rfl, by kernel_rfl⟩
theorem env : EnvOk Go.Proofs.Try.prog E := env_ok (tl := [(42, tRow), (205, tChange)]) (gl := [(54, laws_szRow.sig)]) rfl rfl (by kernel_rfl) (by kernel_rfl) (fn_cons laws_szRow.snd laws_szRow.ent (fn_nil _))
theorem chk : funOk Go.Proofs.Try.prog E Go.Proofs.Try.f152 ps rs [] = true := by kernel_rfl
theorem snd : Sound Go.Proofs.Try.prog 152 sig := sound_of_body env Go.Proofs.Try.func152 rfl (es := []) (fr := []) chk (fun _ _ h => lift_some h)
end laws_szChange
namespace laws_szChangeS
/-! loop example g00408 laws szChangeS -/
abbrev Arg : Type := (List Change) × Int × Unit
abbrev Out : Type := Int × Unit
noncomputable def ps : List (PM × Ty) := [(.ro, (.slc tChange)), (.ro, i64)]
noncomputable def rs : List (Ty × Md) := [(i64, (roMd i64))]
noncomputable def E : Env := { TI := lookN [(110, (.slc tChange)), (205, tChange)], G := lookN [(152, laws_szChange.sig)], fz := [], lv := [(5, [0, 1, 5])], lx := [(0, [1])], lf := [], od := [] }
noncomputable def sem (a : Arg) : Option Out := lift fun k => bodyK E k Go.Proofs.Try.f103 ps rs [] [] a
noncomputable def sig : Sig := { ps := ps, rs := rs, F := fun a => sem a }
noncomputable def C : Code := bodyOf Go.Proofs.Try.f103
noncomputable def fin : St → Option Out := outK ps rs [] (Func.results Go.Proofs.Try.f103).toList (mvs [])
noncomputable def K0 : Ex → St → Option Out := endK fin
noncomputable def S0 (rec : St → Option Out) (a1 : Arg) : (Int × Int) → Option Out := fun v402 => rec ({ n := 27, sl := [(0, .val (.slc tChange) a1.1), (1, .val i64 v402.1), (5, .val i64 v402.2)], vr := [], lent := [] })
noncomputable def X0_0 (K : Ex → St → Option Out) (a1 : Arg) : Int → Option Out := fun z => K (.exit 0) ({ n := 27, sl := [(1, .val i64 z)], vr := [], lent := [] })
noncomputable def b0 (self : (Int × Int) → Option Out) (e0 : Int → Option Out) (a1 : Arg) (v402 : Int × Int) : Option Out := bif decide (v402.2 < (a1.1.length : Int)) then (if 0 ≤ v402.2 then ((a1.1[v402.2.toNat]?).bind fun x603 => (laws_szChange.sem (x603, v402.1, ())).bind fun r604 => bif decide (r604.1 < (0 : Int)) then (some ((-1 : Int), ())) else self (r604.1, w64 (v402.2 + (1 : Int)))) else none) else e0 v402.1
noncomputable def B0 (k : Nat) (self : (Int × Int) → Option Out) (e0 : Int → Option Out) (a1 : Arg) (v402 : Int × Int) : Option Out := b0 self e0 a1 v402
theorem b0_eq (k : Nat) (rec : St → Option Out) (K : Ex → St → Option Out) (a1 : Arg) (v402 : Int × Int) : codeK E k fin (sub [1, 1, 1, 0, 1, 0, 0] C) ({ n := 27, sl := [(0, .val (.slc tChange) a1.1), (1, .val i64 v402.1), (5, .val i64 v402.2)], vr := [], lent := [] }) (loopC rec (keepF [0, 1, 5] []) K) = b0 (S0 rec a1) (X0_0 K a1) a1 v402 := by kernel_rfl
theorem B0_eq (k : Nat) (rec : St → Option Out) (K : Ex → St → Option Out) (a1 : Arg) (v402 : Int × Int) : codeK E k fin (sub [1, 1, 1, 0, 1, 0, 0] C) ({ n := 27, sl := [(0, .val (.slc tChange) a1.1), (1, .val i64 v402.1), (5, .val i64 v402.2)], vr := [], lent := [] }) (loopC rec (keepF [0, 1, 5] []) K) = B0 k (S0 rec a1) (X0_0 K a1) a1 v402 := (b0_eq k rec K a1 v402).trans (by rfl)
noncomputable def l0 (k : Nat) (a1 : Arg) (e0 : Int → Option Out) (v : Int × Int) : Option Out := rawIter (fun self v => B0 k self e0 a1 v) k v
theorem l0_eq (k : Nat) (K : Ex → St → Option Out) (a1 : Arg) (v402 : Int × Int) : iterK (codeK E k fin (sub [1, 1, 1, 0, 1, 0, 0] C)) (keepF [0, 1, 5] []) K k ({ n := 27, sl := [(0, .val (.slc tChange) a1.1), (1, .val i64 v402.1), (5, .val i64 v402.2)], vr := [], lent := [] }) = l0 k a1 (X0_0 K a1) v402 :=
  iter_raw _ _ K (fun v402 => ({ n := 27, sl := [(0, .val (.slc tChange) a1.1), (1, .val i64 v402.1), (5, .val i64 v402.2)], vr := [], lent := [] } : St)) (fun self v => B0 k self (X0_0 K a1) a1 v) (fun rec v => B0_eq k rec K a1 v) k v402
noncomputable def q0 (a1 : Arg) (z605 : Int) : Option Out := some (z605, ())
noncomputable def Q0 (k : Nat) (a1 : Arg) (z605 : Int) : Option Out := q0 a1 z605
theorem q0_eq (k : Nat) (a1 : Arg) (z605 : Int) : (blockC 0 (seqC (codeK E k fin (sub [1, 1, 1, 1] C)) K0)) (.exit 0) ({ n := 27, sl := [(1, .val i64 z605)], vr := [], lent := [] }) = q0 a1 z605 := by kernel_rfl
theorem Q0_eq (k : Nat) (a1 : Arg) (z605 : Int) : (blockC 0 (seqC (codeK E k fin (sub [1, 1, 1, 1] C)) K0)) (.exit 0) ({ n := 27, sl := [(1, .val i64 z605)], vr := [], lent := [] }) = Q0 k a1 z605 := (q0_eq k a1 z605).trans (by rfl)
noncomputable def s0 (k : Nat) (a1 : Arg) : (Int × Int) → Option Out := fun v402 => iterK (codeK E k fin (sub [1, 1, 1, 0, 1, 0, 0] C)) (keepF [0, 1, 5] []) (blockC 0 (seqC (codeK E k fin (sub [1, 1, 1, 1] C)) K0)) k ({ n := 27, sl := [(0, .val (.slc tChange) a1.1), (1, .val i64 v402.1), (5, .val i64 v402.2)], vr := [], lent := [] })
noncomputable def r0 (k : Nat) (a1 : Arg) : (Int × Int) → Option Out := fun v402 => l0 k a1 (fun z => Q0 k a1 z) v402
theorem s0_eq (k : Nat) (a1 : Arg) : s0 k a1 = r0 k a1 := by
  funext v402;
  have h0 : X0_0 ((blockC 0 (seqC (codeK E k fin (sub [1, 1, 1, 1] C)) K0))) a1 = fun z => Q0 k a1 z := funext fun z => Q0_eq k a1 z
  refine (l0_eq k ((blockC 0 (seqC (codeK E k fin (sub [1, 1, 1, 1] C)) K0))) a1 v402).trans ?_
  rw [h0]
  rfl
noncomputable def p (l0 : (Int × Int) → Option Out) (a1 : Arg) : Option Out := bif decide (w64 (a1.2.1 - (a1.1.length : Int)) < (0 : Int)) then (some ((-1 : Int), ())) else l0 (w64 (a1.2.1 - (a1.1.length : Int)), (0 : Int))
noncomputable def raw (k : Nat) (a1 : Arg) : Option Out := p (r0 k a1) a1
theorem p_eq (k : Nat) (a1 : Arg) : bodyK E k Go.Proofs.Try.f103 ps rs [] [] a1 = p (s0 k a1) a1 := by kernel_rfl
theorem raw_eq (k : Nat) (a1 : Arg) : bodyK E k Go.Proofs.Try.f103 ps rs [] [] a1 = raw k a1 := (p_eq k a1).trans (by rw [s0_eq]; rfl)
theorem ent : EnterOk Go.Proofs.Try.prog 103 sig.cap := ⟨Go.Proofs.Try.f103, Go.Proofs.Try.func103, by kernel_rfl, by kernel_rfl, by kernel_rfl⟩
theorem env : EnvOk Go.Proofs.Try.prog E := env_ok (tl := [(110, (.slc tChange)), (205, tChange)]) (gl := [(152, laws_szChange.sig)]) rfl rfl (by kernel_rfl) (by kernel_rfl) (fn_cons laws_szChange.snd laws_szChange.ent (fn_nil _))
theorem chk : funOk Go.Proofs.Try.prog E Go.Proofs.Try.f103 ps rs [] = true := by kernel_rfl
theorem snd : Sound Go.Proofs.Try.prog 103 sig := sound_of_body env Go.Proofs.Try.func103 rfl (es := []) (fr := []) chk (fun _ _ h => lift_some h)
end laws_szChangeS
namespace laws_szInt64S
/-! loop example g00408 laws szInt64S -/
abbrev Arg : Type := (List Int) × Int × Unit
abbrev Out : Type := Int × Unit
noncomputable def ps : List (PM × Ty) := [(.ro, (.slc i64)), (.ro, i64)]
noncomputable def rs : List (Ty × Md) := [(i64, (roMd i64))]
noncomputable def E : Env := { TI := lookN [(96, (.slc i64))], G := lookN [], fz := [], lv := [], lx := [], lf := [], od := [] }
noncomputable def sem (a : Arg) : Option Out := lift fun k => bodyK E k Go.Proofs.Try.f104 ps rs [] [] a
noncomputable def sig : Sig := { ps := ps, rs := rs, F := fun a => sem a }
noncomputable def C : Code := bodyOf Go.Proofs.Try.f104
noncomputable def fin : St → Option Out := outK ps rs [] (Func.results Go.Proofs.Try.f104).toList (mvs [])
noncomputable def K0 : Ex → St → Option Out := endK fin
noncomputable def p (a1 : Arg) : Option Out := bif decide (w64 (a1.2.1 - (a1.1.length : Int)) < (0 : Int)) then (some ((-1 : Int), ())) else some (w64 (a1.2.1 - (a1.1.length : Int)), ())
noncomputable def raw (k : Nat) (a1 : Arg) : Option Out := p a1
theorem p_eq (k : Nat) (a1 : Arg) : bodyK E k Go.Proofs.Try.f104 ps rs [] [] a1 = p a1 := by kernel_rfl
theorem raw_eq (k : Nat) (a1 : Arg) : bodyK E k Go.Proofs.Try.f104 ps rs [] [] a1 = raw k a1 := (p_eq k a1).trans (by rfl)
theorem ent : EnterOk Go.Proofs.Try.prog 104 sig.cap := ⟨Go.Proofs.Try.f104, Go.Proofs.Try.func104, by kernel_rfl, by kernel_rfl, by kernel_rfl⟩
theorem env : EnvOk Go.Proofs.Try.prog E := env_ok (tl := [(96, (.slc i64))]) (gl := []) rfl rfl (by kernel_rfl) (by kernel_rfl) (fn_nil _)
theorem chk : funOk Go.Proofs.Try.prog E Go.Proofs.Try.f104 ps rs [] = true := by kernel_rfl
theorem snd : Sound Go.Proofs.Try.prog 104 sig := sound_of_body env Go.Proofs.Try.func104 rfl (es := []) (fr := []) chk (fun _ _ h => lift_some h)
end laws_szInt64S
namespace laws_szKeyS
/-! loop example g00408 laws szKeyS -/
abbrev Arg : Type := (List Key) × Int × Unit
abbrev Out : Type := Int × Unit
noncomputable def ps : List (PM × Ty) := [(.ro, (.slc tKey)), (.ro, i64)]
noncomputable def rs : List (Ty × Md) := [(i64, (roMd i64))]
noncomputable def E : Env := { TI := lookN [(111, (.slc tKey))], G := lookN [], fz := [], lv := [], lx := [], lf := [], od := [] }
noncomputable def sem (a : Arg) : Option Out := lift fun k => bodyK E k Go.Proofs.Try.f105 ps rs [] [] a
noncomputable def sig : Sig := { ps := ps, rs := rs, F := fun a => sem a }
noncomputable def C : Code := bodyOf Go.Proofs.Try.f105
noncomputable def fin : St → Option Out := outK ps rs [] (Func.results Go.Proofs.Try.f105).toList (mvs [])
noncomputable def K0 : Ex → St → Option Out := endK fin
noncomputable def p (a1 : Arg) : Option Out := bif decide (w64 (a1.2.1 - (a1.1.length : Int)) < (0 : Int)) then (some ((-1 : Int), ())) else some (w64 (a1.2.1 - (a1.1.length : Int)), ())
noncomputable def raw (k : Nat) (a1 : Arg) : Option Out := p a1
theorem p_eq (k : Nat) (a1 : Arg) : bodyK E k Go.Proofs.Try.f105 ps rs [] [] a1 = p a1 := by kernel_rfl
theorem raw_eq (k : Nat) (a1 : Arg) : bodyK E k Go.Proofs.Try.f105 ps rs [] [] a1 = raw k a1 := (p_eq k a1).trans (by rfl)
theorem ent : EnterOk Go.Proofs.Try.prog 105 sig.cap := ⟨Go.Proofs.Try.f105, Go.Proofs.Try.func105, by kernel_rfl, by kernel_rfl, by kernel_rfl⟩
theorem env : EnvOk Go.Proofs.Try.prog E := env_ok (tl := [(111, (.slc tKey))]) (gl := []) rfl rfl (by kernel_rfl) (by kernel_rfl) (fn_nil _)
theorem chk : funOk Go.Proofs.Try.prog E Go.Proofs.Try.f105 ps rs [] = true := by kernel_rfl
theorem snd : Sound Go.Proofs.Try.prog 105 sig := sound_of_body env Go.Proofs.Try.func105 rfl (es := []) (fr := []) chk (fun _ _ h => lift_some h)
end laws_szKeyS
namespace laws_szTx
/-! loop example g00408 laws szTx -/
abbrev Arg : Type := Tx × Int × Unit
abbrev Out : Type := Int × Unit
noncomputable def ps : List (PM × Ty) := [(.ro, tTx), (.ro, i64)]
noncomputable def rs : List (Ty × Md) := [(i64, (roMd i64))]
noncomputable def E : Env := { TI := lookN [(96, (.slc i64)), (110, (.slc tChange)), (111, (.slc tKey)), (113, tTx)], G := lookN [(103, laws_szChangeS.sig), (104, laws_szInt64S.sig), (105, laws_szKeyS.sig)], fz := [], lv := [], lx := [], lf := [], od := [] }
noncomputable def sem (a : Arg) : Option Out := lift fun k => bodyK E k Go.Proofs.Try.f55 ps rs [] [] a
noncomputable def sig : Sig := { ps := ps, rs := rs, F := fun a => sem a }
noncomputable def C : Code := bodyOf Go.Proofs.Try.f55
noncomputable def fin : St → Option Out := outK ps rs [] (Func.results Go.Proofs.Try.f55).toList (mvs [])
noncomputable def K0 : Ex → St → Option Out := endK fin
noncomputable def p (a1 : Arg) : Option Out := (laws_szChangeS.sem (a1.1.2.1, a1.2.1, ())).bind fun r2 => bif decide (r2.1 < (0 : Int)) then (some ((-1 : Int), ())) else (laws_szInt64S.sem (a1.1.2.2.1, r2.1, ())).bind fun r3 => bif decide (r3.1 < (0 : Int)) then (some ((-1 : Int), ())) else (laws_szKeyS.sem (a1.1.2.2.2.1, r3.1, ())).bind fun r4 => bif decide (r4.1 < (0 : Int)) then (some ((-1 : Int), ())) else some (r4.1, ())
noncomputable def raw (k : Nat) (a1 : Arg) : Option Out := p a1
theorem p_eq (k : Nat) (a1 : Arg) : bodyK E k Go.Proofs.Try.f55 ps rs [] [] a1 = p a1 := by kernel_rfl
theorem raw_eq (k : Nat) (a1 : Arg) : bodyK E k Go.Proofs.Try.f55 ps rs [] [] a1 = raw k a1 := (p_eq k a1).trans (by rfl)
theorem ent : EnterOk Go.Proofs.Try.prog 55 sig.cap := ⟨Go.Proofs.Try.f55, Go.Proofs.Try.func55, by kernel_rfl, by kernel_rfl, by kernel_rfl⟩
theorem env : EnvOk Go.Proofs.Try.prog E := env_ok (tl := [(96, (.slc i64)), (110, (.slc tChange)), (111, (.slc tKey)), (113, tTx)]) (gl := [(103, laws_szChangeS.sig), (104, laws_szInt64S.sig), (105, laws_szKeyS.sig)]) rfl rfl (by kernel_rfl) (by kernel_rfl) (fn_cons laws_szChangeS.snd laws_szChangeS.ent (fn_cons laws_szInt64S.snd laws_szInt64S.ent (fn_cons laws_szKeyS.snd laws_szKeyS.ent (fn_nil _))))
theorem chk : funOk Go.Proofs.Try.prog E Go.Proofs.Try.f55 ps rs [] = true := by kernel_rfl
theorem snd : Sound Go.Proofs.Try.prog 55 sig := sound_of_body env Go.Proofs.Try.func55 rfl (es := []) (fr := []) chk (fun _ _ h => lift_some h)
end laws_szTx
namespace laws_szTxS
/-! loop example g00408 laws szTxS -/
abbrev Arg : Type := (List Tx) × Int × Unit
abbrev Out : Type := Int × Unit
noncomputable def ps : List (PM × Ty) := [(.ro, (.slc tTx)), (.ro, i64)]
noncomputable def rs : List (Ty × Md) := [(i64, (roMd i64))]
noncomputable def E : Env := { TI := lookN [(23, (.slc tTx)), (113, tTx)], G := lookN [(55, laws_szTx.sig)], fz := [], lv := [(5, [0, 1, 5])], lx := [(0, [1])], lf := [], od := [] }
noncomputable def sem (a : Arg) : Option Out := lift fun k => bodyK E k Go.Proofs.Try.f20 ps rs [] [] a
noncomputable def sig : Sig := { ps := ps, rs := rs, F := fun a => sem a }
noncomputable def C : Code := bodyOf Go.Proofs.Try.f20
noncomputable def fin : St → Option Out := outK ps rs [] (Func.results Go.Proofs.Try.f20).toList (mvs [])
noncomputable def K0 : Ex → St → Option Out := endK fin
noncomputable def S0 (rec : St → Option Out) (a1 : Arg) : (Int × Int) → Option Out := fun v402 => rec ({ n := 27, sl := [(0, .val (.slc tTx) a1.1), (1, .val i64 v402.1), (5, .val i64 v402.2)], vr := [], lent := [] })
noncomputable def X0_0 (K : Ex → St → Option Out) (a1 : Arg) : Int → Option Out := fun z => K (.exit 0) ({ n := 27, sl := [(1, .val i64 z)], vr := [], lent := [] })
noncomputable def b0 (self : (Int × Int) → Option Out) (e0 : Int → Option Out) (a1 : Arg) (v402 : Int × Int) : Option Out := bif decide (v402.2 < (a1.1.length : Int)) then (if 0 ≤ v402.2 then ((a1.1[v402.2.toNat]?).bind fun x603 => (laws_szTx.sem (x603, v402.1, ())).bind fun r604 => bif decide (r604.1 < (0 : Int)) then (some ((-1 : Int), ())) else self (r604.1, w64 (v402.2 + (1 : Int)))) else none) else e0 v402.1
noncomputable def B0 (k : Nat) (self : (Int × Int) → Option Out) (e0 : Int → Option Out) (a1 : Arg) (v402 : Int × Int) : Option Out := b0 self e0 a1 v402
theorem b0_eq (k : Nat) (rec : St → Option Out) (K : Ex → St → Option Out) (a1 : Arg) (v402 : Int × Int) : codeK E k fin (sub [1, 1, 1, 0, 1, 0, 0] C) ({ n := 27, sl := [(0, .val (.slc tTx) a1.1), (1, .val i64 v402.1), (5, .val i64 v402.2)], vr := [], lent := [] }) (loopC rec (keepF [0, 1, 5] []) K) = b0 (S0 rec a1) (X0_0 K a1) a1 v402 := by kernel_rfl
theorem B0_eq (k : Nat) (rec : St → Option Out) (K : Ex → St → Option Out) (a1 : Arg) (v402 : Int × Int) : codeK E k fin (sub [1, 1, 1, 0, 1, 0, 0] C) ({ n := 27, sl := [(0, .val (.slc tTx) a1.1), (1, .val i64 v402.1), (5, .val i64 v402.2)], vr := [], lent := [] }) (loopC rec (keepF [0, 1, 5] []) K) = B0 k (S0 rec a1) (X0_0 K a1) a1 v402 := (b0_eq k rec K a1 v402).trans (by rfl)
noncomputable def l0 (k : Nat) (a1 : Arg) (e0 : Int → Option Out) (v : Int × Int) : Option Out := rawIter (fun self v => B0 k self e0 a1 v) k v
theorem l0_eq (k : Nat) (K : Ex → St → Option Out) (a1 : Arg) (v402 : Int × Int) : iterK (codeK E k fin (sub [1, 1, 1, 0, 1, 0, 0] C)) (keepF [0, 1, 5] []) K k ({ n := 27, sl := [(0, .val (.slc tTx) a1.1), (1, .val i64 v402.1), (5, .val i64 v402.2)], vr := [], lent := [] }) = l0 k a1 (X0_0 K a1) v402 :=
  iter_raw _ _ K (fun v402 => ({ n := 27, sl := [(0, .val (.slc tTx) a1.1), (1, .val i64 v402.1), (5, .val i64 v402.2)], vr := [], lent := [] } : St)) (fun self v => B0 k self (X0_0 K a1) a1 v) (fun rec v => B0_eq k rec K a1 v) k v402
noncomputable def q0 (a1 : Arg) (z605 : Int) : Option Out := some (z605, ())
noncomputable def Q0 (k : Nat) (a1 : Arg) (z605 : Int) : Option Out := q0 a1 z605
theorem q0_eq (k : Nat) (a1 : Arg) (z605 : Int) : (blockC 0 (seqC (codeK E k fin (sub [1, 1, 1, 1] C)) K0)) (.exit 0) ({ n := 27, sl := [(1, .val i64 z605)], vr := [], lent := [] }) = q0 a1 z605 := by kernel_rfl
theorem Q0_eq (k : Nat) (a1 : Arg) (z605 : Int) : (blockC 0 (seqC (codeK E k fin (sub [1, 1, 1, 1] C)) K0)) (.exit 0) ({ n := 27, sl := [(1, .val i64 z605)], vr := [], lent := [] }) = Q0 k a1 z605 := (q0_eq k a1 z605).trans (by rfl)
noncomputable def s0 (k : Nat) (a1 : Arg) : (Int × Int) → Option Out := fun v402 => iterK (codeK E k fin (sub [1, 1, 1, 0, 1, 0, 0] C)) (keepF [0, 1, 5] []) (blockC 0 (seqC (codeK E k fin (sub [1, 1, 1, 1] C)) K0)) k ({ n := 27, sl := [(0, .val (.slc tTx) a1.1), (1, .val i64 v402.1), (5, .val i64 v402.2)], vr := [], lent := [] })
noncomputable def r0 (k : Nat) (a1 : Arg) : (Int × Int) → Option Out := fun v402 => l0 k a1 (fun z => Q0 k a1 z) v402
theorem s0_eq (k : Nat) (a1 : Arg) : s0 k a1 = r0 k a1 := by
  funext v402;
  have h0 : X0_0 ((blockC 0 (seqC (codeK E k fin (sub [1, 1, 1, 1] C)) K0))) a1 = fun z => Q0 k a1 z := funext fun z => Q0_eq k a1 z
  refine (l0_eq k ((blockC 0 (seqC (codeK E k fin (sub [1, 1, 1, 1] C)) K0))) a1 v402).trans ?_
  rw [h0]
  rfl
noncomputable def p (l0 : (Int × Int) → Option Out) (a1 : Arg) : Option Out := bif decide (w64 (a1.2.1 - (a1.1.length : Int)) < (0 : Int)) then (some ((-1 : Int), ())) else l0 (w64 (a1.2.1 - (a1.1.length : Int)), (0 : Int))
noncomputable def raw (k : Nat) (a1 : Arg) : Option Out := p (r0 k a1) a1
theorem p_eq (k : Nat) (a1 : Arg) : bodyK E k Go.Proofs.Try.f20 ps rs [] [] a1 = p (s0 k a1) a1 := by kernel_rfl
theorem raw_eq (k : Nat) (a1 : Arg) : bodyK E k Go.Proofs.Try.f20 ps rs [] [] a1 = raw k a1 := (p_eq k a1).trans (by rw [s0_eq]; rfl)
theorem ent : EnterOk Go.Proofs.Try.prog 20 sig.cap := ⟨Go.Proofs.Try.f20, Go.Proofs.Try.func20, by kernel_rfl, by kernel_rfl, by kernel_rfl⟩
theorem env : EnvOk Go.Proofs.Try.prog E := env_ok (tl := [(23, (.slc tTx)), (113, tTx)]) (gl := [(55, laws_szTx.sig)]) rfl rfl (by kernel_rfl) (by kernel_rfl) (fn_cons laws_szTx.snd laws_szTx.ent (fn_nil _))
theorem chk : funOk Go.Proofs.Try.prog E Go.Proofs.Try.f20 ps rs [] = true := by kernel_rfl
theorem snd : Sound Go.Proofs.Try.prog 20 sig := sound_of_body env Go.Proofs.Try.func20 rfl (es := []) (fr := []) chk (fun _ _ h => lift_some h)
end laws_szTxS
namespace laws_szPlain
/-! loop example g00408 laws szPlain -/
abbrev Arg : Type := Plain × Int × Unit
abbrev Out : Type := Int × Unit
noncomputable def ps : List (PM × Ty) := [(.ro, tPlain), (.ro, i64)]
noncomputable def rs : List (Ty × Md) := [(i64, (roMd i64))]
noncomputable def E : Env := { TI := lookN [(22, (.slc tRow)), (23, (.slc tTx)), (25, tPlain)], G := lookN [(19, laws_szRowS.sig), (20, laws_szTxS.sig)], fz := [], lv := [], lx := [], lf := [], od := [] }
noncomputable def sem (a : Arg) : Option Out := lift fun k => bodyK E k Go.Proofs.Try.f8 ps rs [] [] a
noncomputable def sig : Sig := { ps := ps, rs := rs, F := fun a => sem a }
noncomputable def C : Code := bodyOf Go.Proofs.Try.f8
noncomputable def fin : St → Option Out := outK ps rs [] (Func.results Go.Proofs.Try.f8).toList (mvs [])
noncomputable def K0 : Ex → St → Option Out := endK fin
noncomputable def p (a1 : Arg) : Option Out := (laws_szRowS.sem (a1.1.1, a1.2.1, ())).bind fun r2 => bif decide (r2.1 < (0 : Int)) then (some ((-1 : Int), ())) else (laws_szTxS.sem (a1.1.2.1, r2.1, ())).bind fun r3 => bif decide (r3.1 < (0 : Int)) then (some ((-1 : Int), ())) else some (r3.1, ())
noncomputable def raw (k : Nat) (a1 : Arg) : Option Out := p a1
theorem p_eq (k : Nat) (a1 : Arg) : bodyK E k Go.Proofs.Try.f8 ps rs [] [] a1 = p a1 := by kernel_rfl
theorem raw_eq (k : Nat) (a1 : Arg) : bodyK E k Go.Proofs.Try.f8 ps rs [] [] a1 = raw k a1 := (p_eq k a1).trans (by rfl)
theorem ent : EnterOk Go.Proofs.Try.prog 8 sig.cap := ⟨Go.Proofs.Try.f8, Go.Proofs.Try.func8, by kernel_rfl, by kernel_rfl, by kernel_rfl⟩
theorem env : EnvOk Go.Proofs.Try.prog E := env_ok (tl := [(22, (.slc tRow)), (23, (.slc tTx)), (25, tPlain)]) (gl := [(19, laws_szRowS.sig), (20, laws_szTxS.sig)]) rfl rfl (by kernel_rfl) (by kernel_rfl) (fn_cons laws_szRowS.snd laws_szRowS.ent (fn_cons laws_szTxS.snd laws_szTxS.ent (fn_nil _)))
theorem chk : funOk Go.Proofs.Try.prog E Go.Proofs.Try.f8 ps rs [] = true := by kernel_rfl
theorem snd : Sound Go.Proofs.Try.prog 8 sig := sound_of_body env Go.Proofs.Try.func8 rfl (es := []) (fr := []) chk (fun _ _ h => lift_some h)
end laws_szPlain
namespace spec_l10Inverse
/-! loop example g00408 spec l10Inverse -/
abbrev Arg : Type := (List Change) × Unit
abbrev Out : Type := (List Change) × Unit
noncomputable def ps : List (PM × Ty) := [(.ro, (.slc tChange))]
noncomputable def rs : List (Ty × Md) := [((.slc tChange), (ownMd (.slc tChange)))]
noncomputable def E : Env := { TI := lookN [(4, .bool), (48, tRow), (50, tChange), (65, (.slc tChange))], G := lookN [], fz := [], lv := [(3, [0, 3, 4])], lx := [(0, [3])], lf := [], od := [] }
noncomputable def sem (a : Arg) : Option Out := lift fun k => bodyK E k Go.Proofs.Try.f150 ps rs [] [] a
noncomputable def sig : Sig := { ps := ps, rs := rs, F := fun a => sem a }
noncomputable def C : Code := bodyOf Go.Proofs.Try.f150
noncomputable def fin : St → Option Out := outK ps rs [] (Func.results Go.Proofs.Try.f150).toList (mvs [])
noncomputable def K0 : Ex → St → Option Out := endK fin
noncomputable def S0 (rec : St → Option Out) (a1 : Arg) : ((List Change) × Int) → Option Out := fun v402 => rec ({ n := 31, sl := [(0, .val (.slc tChange) a1.1), (3, .own (.slc tChange) (ownMd (.slc tChange)) [] v402.1), (4, .val i64 v402.2)], vr := [], lent := [] })
noncomputable def X0_0 (K : Ex → St → Option Out) (a1 : Arg) : (List Change) → Option Out := fun z => K (.exit 0) ({ n := 31, sl := [(3, .own (.slc tChange) (ownMd (.slc tChange)) [] z)], vr := [], lent := [] })
noncomputable def b0 (self : ((List Change) × Int) → Option Out) (e0 : (List Change) → Option Out) (a1 : Arg) (v402 : (List Change) × Int) : Option Out := bif decide ((0 : Int) ≤ v402.2) then (if 0 ≤ v402.2 then ((a1.1[v402.2.toNat]?).bind fun x603 => if v402.1.length + [(x603.2.2.1, x603.2.2.2.1, x603.1, x603.2.1, ())].length ≤ CAP then (let y604 := v402.1 ++ [(x603.2.2.1, x603.2.2.2.1, x603.1, x603.2.1, ())]; self (y604, w64 (v402.2 - (1 : Int)))) else none) else none) else e0 v402.1
noncomputable def B0 (k : Nat) (self : ((List Change) × Int) → Option Out) (e0 : (List Change) → Option Out) (a1 : Arg) (v402 : (List Change) × Int) : Option Out := b0 self e0 a1 v402
theorem b0_eq (k : Nat) (rec : St → Option Out) (K : Ex → St → Option Out) (a1 : Arg) (v402 : (List Change) × Int) : codeK E k fin (sub [1, 1, 0, 1, 0, 0] C) ({ n := 31, sl := [(0, .val (.slc tChange) a1.1), (3, .own (.slc tChange) (ownMd (.slc tChange)) [] v402.1), (4, .val i64 v402.2)], vr := [], lent := [] }) (loopC rec (keepF [0, 3, 4] []) K) = b0 (S0 rec a1) (X0_0 K a1) a1 v402 := by kernel_rfl
theorem B0_eq (k : Nat) (rec : St → Option Out) (K : Ex → St → Option Out) (a1 : Arg) (v402 : (List Change) × Int) : codeK E k fin (sub [1, 1, 0, 1, 0, 0] C) ({ n := 31, sl := [(0, .val (.slc tChange) a1.1), (3, .own (.slc tChange) (ownMd (.slc tChange)) [] v402.1), (4, .val i64 v402.2)], vr := [], lent := [] }) (loopC rec (keepF [0, 3, 4] []) K) = B0 k (S0 rec a1) (X0_0 K a1) a1 v402 := (b0_eq k rec K a1 v402).trans (by rfl)
noncomputable def l0 (k : Nat) (a1 : Arg) (e0 : (List Change) → Option Out) (v : (List Change) × Int) : Option Out := rawIter (fun self v => B0 k self e0 a1 v) k v
theorem l0_eq (k : Nat) (K : Ex → St → Option Out) (a1 : Arg) (v402 : (List Change) × Int) : iterK (codeK E k fin (sub [1, 1, 0, 1, 0, 0] C)) (keepF [0, 3, 4] []) K k ({ n := 31, sl := [(0, .val (.slc tChange) a1.1), (3, .own (.slc tChange) (ownMd (.slc tChange)) [] v402.1), (4, .val i64 v402.2)], vr := [], lent := [] }) = l0 k a1 (X0_0 K a1) v402 :=
  iter_raw _ _ K (fun v402 => ({ n := 31, sl := [(0, .val (.slc tChange) a1.1), (3, .own (.slc tChange) (ownMd (.slc tChange)) [] v402.1), (4, .val i64 v402.2)], vr := [], lent := [] } : St)) (fun self v => B0 k self (X0_0 K a1) a1 v) (fun rec v => B0_eq k rec K a1 v) k v402
noncomputable def q0 (a1 : Arg) (z605 : (List Change)) : Option Out := some (z605, ())
noncomputable def Q0 (k : Nat) (a1 : Arg) (z605 : (List Change)) : Option Out := q0 a1 z605
theorem q0_eq (k : Nat) (a1 : Arg) (z605 : (List Change)) : (blockC 0 (seqC (codeK E k fin (sub [1, 1, 1] C)) K0)) (.exit 0) ({ n := 31, sl := [(3, .own (.slc tChange) (ownMd (.slc tChange)) [] z605)], vr := [], lent := [] }) = q0 a1 z605 := by kernel_rfl
theorem Q0_eq (k : Nat) (a1 : Arg) (z605 : (List Change)) : (blockC 0 (seqC (codeK E k fin (sub [1, 1, 1] C)) K0)) (.exit 0) ({ n := 31, sl := [(3, .own (.slc tChange) (ownMd (.slc tChange)) [] z605)], vr := [], lent := [] }) = Q0 k a1 z605 := (q0_eq k a1 z605).trans (by rfl)
noncomputable def s0 (k : Nat) (a1 : Arg) : ((List Change) × Int) → Option Out := fun v402 => iterK (codeK E k fin (sub [1, 1, 0, 1, 0, 0] C)) (keepF [0, 3, 4] []) (blockC 0 (seqC (codeK E k fin (sub [1, 1, 1] C)) K0)) k ({ n := 31, sl := [(0, .val (.slc tChange) a1.1), (3, .own (.slc tChange) (ownMd (.slc tChange)) [] v402.1), (4, .val i64 v402.2)], vr := [], lent := [] })
noncomputable def r0 (k : Nat) (a1 : Arg) : ((List Change) × Int) → Option Out := fun v402 => l0 k a1 (fun z => Q0 k a1 z) v402
theorem s0_eq (k : Nat) (a1 : Arg) : s0 k a1 = r0 k a1 := by
  funext v402;
  have h0 : X0_0 ((blockC 0 (seqC (codeK E k fin (sub [1, 1, 1] C)) K0))) a1 = fun z => Q0 k a1 z := funext fun z => Q0_eq k a1 z
  refine (l0_eq k ((blockC 0 (seqC (codeK E k fin (sub [1, 1, 1] C)) K0))) a1 v402).trans ?_
  rw [h0]
  rfl
noncomputable def p (l0 : ((List Change) × Int) → Option Out) (a1 : Arg) : Option Out := l0 (([] : List Change), w64 ((a1.1.length : Int) - (1 : Int)))
noncomputable def raw (k : Nat) (a1 : Arg) : Option Out := p (r0 k a1) a1
theorem p_eq (k : Nat) (a1 : Arg) : bodyK E k Go.Proofs.Try.f150 ps rs [] [] a1 = p (s0 k a1) a1 := by kernel_rfl
theorem raw_eq (k : Nat) (a1 : Arg) : bodyK E k Go.Proofs.Try.f150 ps rs [] [] a1 = raw k a1 := (p_eq k a1).trans (by rw [s0_eq]; rfl)
theorem ent : EnterOk Go.Proofs.Try.prog 150 sig.cap := ⟨Go.Proofs.Try.f150, Go.Proofs.Try.func150, by kernel_rfl, by kernel_rfl, by kernel_rfl⟩
theorem env : EnvOk Go.Proofs.Try.prog E := env_ok (tl := [(4, .bool), (48, tRow), (50, tChange), (65, (.slc tChange))]) (gl := []) rfl rfl (by kernel_rfl) (by kernel_rfl) (fn_nil _)
theorem chk : funOk Go.Proofs.Try.prog E Go.Proofs.Try.f150 ps rs [] = true := by kernel_rfl
theorem snd : Sound Go.Proofs.Try.prog 150 sig := sound_of_body env Go.Proofs.Try.func150 rfl (es := []) (fr := []) chk (fun _ _ h => lift_some h)
end spec_l10Inverse
namespace spec_l6Key
/-! loop example g00408 spec l6Key -/
abbrev Arg : Type := Change × Unit
abbrev Out : Type := Int × Int × Unit
noncomputable def ps : List (PM × Ty) := [(.ro, (.ptr tChange))]
noncomputable def rs : List (Ty × Md) := [(i64, (roMd i64)), (i64, (roMd i64))]
noncomputable def E : Env := { TI := lookN [(2, i64), (4, .bool), (48, tRow), (50, tChange)], G := lookN [], fz := [], lv := [], lx := [], lf := [], od := [(2, [0, 1, 2, 3, 4, 5, 6, 7, 8, 9, 10, 11]), (3, [0, 1, 2, 3, 4, 5, 6, 7, 8, 9, 10, 11])] }
noncomputable def sem (a : Arg) : Option Out := lift fun k => bodyK E k Go.Proofs.Try.f190 ps rs [] [] a
noncomputable def sig : Sig := { ps := ps, rs := rs, F := fun a => sem a }
noncomputable def C : Code := bodyOf Go.Proofs.Try.f190
noncomputable def fin : St → Option Out := outK ps rs [] (Func.results Go.Proofs.Try.f190).toList (mvs [])
noncomputable def K0 : Ex → St → Option Out := endK fin
noncomputable def p (a1 : Arg) : Option Out := bif a1.1.2.2.1 then (some (a1.1.2.2.2.1.1, a1.1.2.2.2.1.2.1, ())) else some (a1.1.2.1.1, a1.1.2.1.2.1, ())
noncomputable def raw (k : Nat) (a1 : Arg) : Option Out := p a1
theorem p_eq (k : Nat) (a1 : Arg) : bodyK E k Go.Proofs.Try.f190 ps rs [] [] a1 = p a1 := by kernel_rfl
theorem raw_eq (k : Nat) (a1 : Arg) : bodyK E k Go.Proofs.Try.f190 ps rs [] [] a1 = raw k a1 := (p_eq k a1).trans (by rfl)
theorem ent : EnterOk Go.Proofs.Try.prog 190 sig.cap := ⟨Go.Proofs.Try.f190, Go.Proofs.Try.func190, by kernel_rfl, by kernel_rfl, by kernel_rfl⟩
theorem env : EnvOk Go.Proofs.Try.prog E := env_ok (tl := [(2, i64), (4, .bool), (48, tRow), (50, tChange)]) (gl := []) rfl rfl (by kernel_rfl) (by kernel_rfl) (fn_nil _)
theorem chk : funOk Go.Proofs.Try.prog E Go.Proofs.Try.f190 ps rs [] = true := by kernel_rfl
theorem snd : Sound Go.Proofs.Try.prog 190 sig := sound_of_body env Go.Proofs.Try.func190 rfl (es := []) (fr := []) chk (fun _ _ h => lift_some h)
end spec_l6Key
namespace spec_l6At
/-! loop example g00408 spec l6At -/
abbrev Arg : Type := (List Row) × Int × Int × Unit
abbrev Out : Type := Int × Unit
noncomputable def ps : List (PM × Ty) := [(.ro, (.slc tRow)), (.ro, i64), (.ro, i64)]
noncomputable def rs : List (Ty × Md) := [(i64, (roMd i64))]
noncomputable def E : Env := { TI := lookN [(2, i64), (28, (.slc tRow)), (48, tRow)], G := lookN [], fz := [], lv := [(2, [0, 1, 2, 7])], lx := [(0, [])], lf := [], od := [] }
noncomputable def sem (a : Arg) : Option Out := lift fun k => bodyK E k Go.Proofs.Try.f191 ps rs [] [] a
noncomputable def sig : Sig := { ps := ps, rs := rs, F := fun a => sem a }
noncomputable def C : Code := bodyOf Go.Proofs.Try.f191
noncomputable def fin : St → Option Out := outK ps rs [] (Func.results Go.Proofs.Try.f191).toList (mvs [])
noncomputable def K0 : Ex → St → Option Out := endK fin
noncomputable def S0 (rec : St → Option Out) (a1 : Arg) : (Int) → Option Out := fun v402 => rec ({ n := 31, sl := [(0, .val (.slc tRow) a1.1), (1, .val i64 a1.2.1), (2, .val i64 a1.2.2.1), (7, .val i64 v402)], vr := [], lent := [] })
noncomputable def X0_0 (K : Ex → St → Option Out) (a1 : Arg) : (Unit) → Option Out := fun z => K (.exit 0) ({ n := 31, sl := [], vr := [], lent := [] })
noncomputable def b0 (self : Int → Option Out) (e0 : (Unit) → Option Out) (a1 : Arg) (v402 : Int) : Option Out := bif decide (v402 < (a1.1.length : Int)) then (if 0 ≤ v402 then ((a1.1[v402.toNat]?).bind fun x603 => bif decide (x603.1 = a1.2.1) then (if 0 ≤ v402 then ((a1.1[v402.toNat]?).bind fun x604 => bif decide (x604.2.1 = a1.2.2.1) then (some (v402, ())) else self (w64 (v402 + (1 : Int)))) else none) else self (w64 (v402 + (1 : Int)))) else none) else e0 ()
noncomputable def B0 (k : Nat) (self : Int → Option Out) (e0 : (Unit) → Option Out) (a1 : Arg) (v402 : Int) : Option Out := b0 self e0 a1 v402
theorem b0_eq (k : Nat) (rec : St → Option Out) (K : Ex → St → Option Out) (a1 : Arg) (v402 : Int) : codeK E k fin (sub [1, 0, 1, 0, 0] C) ({ n := 31, sl := [(0, .val (.slc tRow) a1.1), (1, .val i64 a1.2.1), (2, .val i64 a1.2.2.1), (7, .val i64 v402)], vr := [], lent := [] }) (loopC rec (keepF [0, 1, 2, 7] []) K) = b0 (S0 rec a1) (X0_0 K a1) a1 v402 := by kernel_rfl
theorem B0_eq (k : Nat) (rec : St → Option Out) (K : Ex → St → Option Out) (a1 : Arg) (v402 : Int) : codeK E k fin (sub [1, 0, 1, 0, 0] C) ({ n := 31, sl := [(0, .val (.slc tRow) a1.1), (1, .val i64 a1.2.1), (2, .val i64 a1.2.2.1), (7, .val i64 v402)], vr := [], lent := [] }) (loopC rec (keepF [0, 1, 2, 7] []) K) = B0 k (S0 rec a1) (X0_0 K a1) a1 v402 := (b0_eq k rec K a1 v402).trans (by rfl)
noncomputable def l0 (k : Nat) (a1 : Arg) (e0 : (Unit) → Option Out) (v : Int) : Option Out := rawIter (fun self v => B0 k self e0 a1 v) k v
theorem l0_eq (k : Nat) (K : Ex → St → Option Out) (a1 : Arg) (v402 : Int) : iterK (codeK E k fin (sub [1, 0, 1, 0, 0] C)) (keepF [0, 1, 2, 7] []) K k ({ n := 31, sl := [(0, .val (.slc tRow) a1.1), (1, .val i64 a1.2.1), (2, .val i64 a1.2.2.1), (7, .val i64 v402)], vr := [], lent := [] }) = l0 k a1 (X0_0 K a1) v402 :=
  iter_raw _ _ K (fun v402 => ({ n := 31, sl := [(0, .val (.slc tRow) a1.1), (1, .val i64 a1.2.1), (2, .val i64 a1.2.2.1), (7, .val i64 v402)], vr := [], lent := [] } : St)) (fun self v => B0 k self (X0_0 K a1) a1 v) (fun rec v => B0_eq k rec K a1 v) k v402
noncomputable def q0 (a1 : Arg) (z605 : (Unit)) : Option Out := some ((-1 : Int), ())
noncomputable def Q0 (k : Nat) (a1 : Arg) (z605 : (Unit)) : Option Out := q0 a1 z605
theorem q0_eq (k : Nat) (a1 : Arg) (z605 : (Unit)) : (blockC 0 (seqC (codeK E k fin (sub [1, 1] C)) K0)) (.exit 0) ({ n := 31, sl := [], vr := [], lent := [] }) = q0 a1 z605 := by kernel_rfl
theorem Q0_eq (k : Nat) (a1 : Arg) (z605 : (Unit)) : (blockC 0 (seqC (codeK E k fin (sub [1, 1] C)) K0)) (.exit 0) ({ n := 31, sl := [], vr := [], lent := [] }) = Q0 k a1 z605 := (q0_eq k a1 z605).trans (by rfl)
noncomputable def s0 (k : Nat) (a1 : Arg) : (Int) → Option Out := fun v402 => iterK (codeK E k fin (sub [1, 0, 1, 0, 0] C)) (keepF [0, 1, 2, 7] []) (blockC 0 (seqC (codeK E k fin (sub [1, 1] C)) K0)) k ({ n := 31, sl := [(0, .val (.slc tRow) a1.1), (1, .val i64 a1.2.1), (2, .val i64 a1.2.2.1), (7, .val i64 v402)], vr := [], lent := [] })
noncomputable def r0 (k : Nat) (a1 : Arg) : (Int) → Option Out := fun v402 => l0 k a1 (fun z => Q0 k a1 z) v402
theorem s0_eq (k : Nat) (a1 : Arg) : s0 k a1 = r0 k a1 := by
  funext v402;
  have h0 : X0_0 ((blockC 0 (seqC (codeK E k fin (sub [1, 1] C)) K0))) a1 = fun z => Q0 k a1 z := funext fun z => Q0_eq k a1 z
  refine (l0_eq k ((blockC 0 (seqC (codeK E k fin (sub [1, 1] C)) K0))) a1 v402).trans ?_
  rw [h0]
  rfl
noncomputable def p (l0 : (Int) → Option Out) (a1 : Arg) : Option Out := l0 (0 : Int)
noncomputable def raw (k : Nat) (a1 : Arg) : Option Out := p (r0 k a1) a1
theorem p_eq (k : Nat) (a1 : Arg) : bodyK E k Go.Proofs.Try.f191 ps rs [] [] a1 = p (s0 k a1) a1 := by kernel_rfl
theorem raw_eq (k : Nat) (a1 : Arg) : bodyK E k Go.Proofs.Try.f191 ps rs [] [] a1 = raw k a1 := (p_eq k a1).trans (by rw [s0_eq]; rfl)
theorem ent : EnterOk Go.Proofs.Try.prog 191 sig.cap := ⟨Go.Proofs.Try.f191, Go.Proofs.Try.func191, by kernel_rfl, by kernel_rfl, by kernel_rfl⟩
theorem env : EnvOk Go.Proofs.Try.prog E := env_ok (tl := [(2, i64), (28, (.slc tRow)), (48, tRow)]) (gl := []) rfl rfl (by kernel_rfl) (by kernel_rfl) (fn_nil _)
theorem chk : funOk Go.Proofs.Try.prog E Go.Proofs.Try.f191 ps rs [] = true := by kernel_rfl
theorem snd : Sound Go.Proofs.Try.prog 191 sig := sound_of_body env Go.Proofs.Try.func191 rfl (es := []) (fr := []) chk (fun _ _ h => lift_some h)
end spec_l6At
namespace spec_l1Before
/-! loop example g00408 spec l1Before -/
abbrev Arg : Type := Row × Row × Unit
abbrev Out : Type := Bool × Unit
noncomputable def ps : List (PM × Ty) := [(.ro, (.ptr tRow)), (.ro, (.ptr tRow))]
noncomputable def rs : List (Ty × Md) := [(.bool, (roMd .bool))]
noncomputable def E : Env := { TI := lookN [(2, i64), (48, tRow)], G := lookN [], fz := [], lv := [], lx := [], lf := [], od := [(1, [0, 1, 2, 3, 4, 5, 6, 7, 8, 9, 10, 11, 12, 13, 14, 15, 16, 17, 18, 19, 20, 21, 22, 23, 24, 25, 26, 27, 28, 29, 30, 31])] }
noncomputable def sem (a : Arg) : Option Out := lift fun k => bodyK E k Go.Proofs.Try.f107 ps rs [] [] a
noncomputable def sig : Sig := { ps := ps, rs := rs, F := fun a => sem a }
noncomputable def C : Code := bodyOf Go.Proofs.Try.f107
noncomputable def fin : St → Option Out := outK ps rs [] (Func.results Go.Proofs.Try.f107).toList (mvs [])
noncomputable def K0 : Ex → St → Option Out := endK fin
noncomputable def p (a1 : Arg) : Option Out := bif decide (a1.1.1 < a1.2.1.1) then (some (true, ())) else bif decide (a1.1.1 = a1.2.1.1) then (some (decide (a1.1.2.1 < a1.2.1.2.1), ())) else some (false, ())
noncomputable def raw (k : Nat) (a1 : Arg) : Option Out := p a1
theorem p_eq (k : Nat) (a1 : Arg) : bodyK E k Go.Proofs.Try.f107 ps rs [] [] a1 = p a1 := by kernel_rfl
theorem raw_eq (k : Nat) (a1 : Arg) : bodyK E k Go.Proofs.Try.f107 ps rs [] [] a1 = raw k a1 := (p_eq k a1).trans (by rfl)
theorem ent : EnterOk Go.Proofs.Try.prog 107 sig.cap := ⟨Go.Proofs.Try.f107, Go.Proofs.Try.func107, by kernel_rfl, by kernel_rfl, by kernel_rfl⟩
theorem env : EnvOk Go.Proofs.Try.prog E := env_ok (tl := [(2, i64), (48, tRow)]) (gl := []) rfl rfl (by kernel_rfl) (by kernel_rfl) (fn_nil _)
theorem chk : funOk Go.Proofs.Try.prog E Go.Proofs.Try.f107 ps rs [] = true := by kernel_rfl
theorem snd : Sound Go.Proofs.Try.prog 107 sig := sound_of_body env Go.Proofs.Try.func107 rfl (es := []) (fr := []) chk (fun _ _ h => lift_some h)
end spec_l1Before
namespace spec_l6Put
/-! loop example g00408 spec l6Put -/
abbrev Arg : Type := (List Row) × Row × Unit
abbrev Out : Type := (List Row) × Unit
noncomputable def ps : List (PM × Ty) := [(.ro, (.slc tRow)), (.ro, tRow)]
noncomputable def rs : List (Ty × Md) := [((.slc tRow), (ownMd (.slc tRow)))]
noncomputable def E : Env := { TI := lookN [(28, (.slc tRow)), (48, tRow)], G := lookN [(107, spec_l1Before.sig)], fz := [], lv := [(2, [0, 3, 5])], lx := [(0, [0, 3, 5])], lf := [], od := [(5, [0, 1, 4, 5, 6, 2, 3, 7, 8])] }
noncomputable def sem (a : Arg) : Option Out := lift fun k => bodyK E k Go.Proofs.Try.f192 ps rs [] [] a
noncomputable def sig : Sig := { ps := ps, rs := rs, F := fun a => sem a }
noncomputable def C : Code := bodyOf Go.Proofs.Try.f192
noncomputable def fin : St → Option Out := outK ps rs [] (Func.results Go.Proofs.Try.f192).toList (mvs [])
noncomputable def K0 : Ex → St → Option Out := endK fin
noncomputable def S0 (rec : St → Option Out) (a1 : Arg) : (Int) → Option Out := fun v402 => rec ({ n := 32, sl := [(0, .val (.slc tRow) a1.1), (3, .box tRow (roMd tRow) [] a1.2.1), (5, .val i64 v402)], vr := [], lent := [] })
noncomputable def X0_0 (K : Ex → St → Option Out) (a1 : Arg) : Int → Option Out := fun z => K (.exit 0) ({ n := 32, sl := [(0, .val (.slc tRow) a1.1), (3, .box tRow (roMd tRow) [] a1.2.1), (5, .val i64 z)], vr := [], lent := [] })
noncomputable def b0 (self : Int → Option Out) (e0 : Int → Option Out) (a1 : Arg) (v402 : Int) : Option Out := bif decide (v402 < (a1.1.length : Int)) then (if 0 ≤ v402 then ((a1.1[v402.toNat]?).bind fun x603 => (spec_l1Before.sem (x603, a1.2.1, ())).bind fun r604 => bif r604.1 then (self (w64 (v402 + (1 : Int)))) else e0 v402) else none) else e0 v402
noncomputable def B0 (k : Nat) (self : Int → Option Out) (e0 : Int → Option Out) (a1 : Arg) (v402 : Int) : Option Out := b0 self e0 a1 v402
theorem b0_eq (k : Nat) (rec : St → Option Out) (K : Ex → St → Option Out) (a1 : Arg) (v402 : Int) : codeK E k fin (sub [1, 1, 0, 0, 0] C) ({ n := 32, sl := [(0, .val (.slc tRow) a1.1), (3, .box tRow (roMd tRow) [] a1.2.1), (5, .val i64 v402)], vr := [], lent := [] }) (loopC rec (keepF [0, 3, 5] []) K) = b0 (S0 rec a1) (X0_0 K a1) a1 v402 := by kernel_rfl
theorem B0_eq (k : Nat) (rec : St → Option Out) (K : Ex → St → Option Out) (a1 : Arg) (v402 : Int) : codeK E k fin (sub [1, 1, 0, 0, 0] C) ({ n := 32, sl := [(0, .val (.slc tRow) a1.1), (3, .box tRow (roMd tRow) [] a1.2.1), (5, .val i64 v402)], vr := [], lent := [] }) (loopC rec (keepF [0, 3, 5] []) K) = B0 k (S0 rec a1) (X0_0 K a1) a1 v402 := (b0_eq k rec K a1 v402).trans (by rfl)
noncomputable def l0 (k : Nat) (a1 : Arg) (e0 : Int → Option Out) (v : Int) : Option Out := rawIter (fun self v => B0 k self e0 a1 v) k v
theorem l0_eq (k : Nat) (K : Ex → St → Option Out) (a1 : Arg) (v402 : Int) : iterK (codeK E k fin (sub [1, 1, 0, 0, 0] C)) (keepF [0, 3, 5] []) K k ({ n := 32, sl := [(0, .val (.slc tRow) a1.1), (3, .box tRow (roMd tRow) [] a1.2.1), (5, .val i64 v402)], vr := [], lent := [] }) = l0 k a1 (X0_0 K a1) v402 :=
  iter_raw _ _ K (fun v402 => ({ n := 32, sl := [(0, .val (.slc tRow) a1.1), (3, .box tRow (roMd tRow) [] a1.2.1), (5, .val i64 v402)], vr := [], lent := [] } : St)) (fun self v => B0 k self (X0_0 K a1) a1 v) (fun rec v => B0_eq k rec K a1 v) k v402
noncomputable def q0 (a1 : Arg) (z605 : Int) : Option Out := if 0 ≤ z605 ∧ z605 ≤ (a1.1.length : Int) then (if ([] : List Row).length + ((a1.1.take z605.toNat).drop 0).length ≤ CAP then (let y606 := ([] : List Row) ++ ((a1.1.take z605.toNat).drop 0); if 0 ≤ z605 ∧ z605 ≤ (a1.1.length : Int) then (if y606.length + [a1.2.1].length ≤ CAP then (if (y606 ++ [a1.2.1]).length + ((a1.1.take a1.1.length).drop z605.toNat).length ≤ CAP then (let y607 := (y606 ++ [a1.2.1]) ++ ((a1.1.take a1.1.length).drop z605.toNat); some (y607, ())) else none) else none) else none) else none) else none
noncomputable def Q0 (k : Nat) (a1 : Arg) (z605 : Int) : Option Out := q0 a1 z605
theorem q0_eq (k : Nat) (a1 : Arg) (z605 : Int) : (blockC 0 (seqC (codeK E k fin (sub [1, 1, 1] C)) K0)) (.exit 0) ({ n := 32, sl := [(0, .val (.slc tRow) a1.1), (3, .box tRow (roMd tRow) [] a1.2.1), (5, .val i64 z605)], vr := [], lent := [] }) = q0 a1 z605 := by kernel_rfl
theorem Q0_eq (k : Nat) (a1 : Arg) (z605 : Int) : (blockC 0 (seqC (codeK E k fin (sub [1, 1, 1] C)) K0)) (.exit 0) ({ n := 32, sl := [(0, .val (.slc tRow) a1.1), (3, .box tRow (roMd tRow) [] a1.2.1), (5, .val i64 z605)], vr := [], lent := [] }) = Q0 k a1 z605 := (q0_eq k a1 z605).trans (by rfl)
noncomputable def s0 (k : Nat) (a1 : Arg) : (Int) → Option Out := fun v402 => iterK (codeK E k fin (sub [1, 1, 0, 0, 0] C)) (keepF [0, 3, 5] []) (blockC 0 (seqC (codeK E k fin (sub [1, 1, 1] C)) K0)) k ({ n := 32, sl := [(0, .val (.slc tRow) a1.1), (3, .box tRow (roMd tRow) [] a1.2.1), (5, .val i64 v402)], vr := [], lent := [] })
noncomputable def r0 (k : Nat) (a1 : Arg) : (Int) → Option Out := fun v402 => l0 k a1 (fun z => Q0 k a1 z) v402
theorem s0_eq (k : Nat) (a1 : Arg) : s0 k a1 = r0 k a1 := by
  funext v402;
  have h0 : X0_0 ((blockC 0 (seqC (codeK E k fin (sub [1, 1, 1] C)) K0))) a1 = fun z => Q0 k a1 z := funext fun z => Q0_eq k a1 z
  refine (l0_eq k ((blockC 0 (seqC (codeK E k fin (sub [1, 1, 1] C)) K0))) a1 v402).trans ?_
  rw [h0]
  rfl
noncomputable def p (l0 : (Int) → Option Out) (a1 : Arg) : Option Out := l0 (0 : Int)
noncomputable def raw (k : Nat) (a1 : Arg) : Option Out := p (r0 k a1) a1
theorem p_eq (k : Nat) (a1 : Arg) : bodyK E k Go.Proofs.Try.f192 ps rs [] [] a1 = p (s0 k a1) a1 := by kernel_rfl
theorem raw_eq (k : Nat) (a1 : Arg) : bodyK E k Go.Proofs.Try.f192 ps rs [] [] a1 = raw k a1 := (p_eq k a1).trans (by rw [s0_eq]; rfl)
theorem ent : EnterOk Go.Proofs.Try.prog 192 sig.cap := ⟨Go.Proofs.Try.f192, Go.Proofs.Try.func192, by kernel_rfl, by kernel_rfl, by kernel_rfl⟩
theorem env : EnvOk Go.Proofs.Try.prog E := env_ok (tl := [(28, (.slc tRow)), (48, tRow)]) (gl := [(107, spec_l1Before.sig)]) rfl rfl (by kernel_rfl) (by kernel_rfl) (fn_cons spec_l1Before.snd spec_l1Before.ent (fn_nil _))
theorem chk : funOk Go.Proofs.Try.prog E Go.Proofs.Try.f192 ps rs [] = true := by kernel_rfl
theorem snd : Sound Go.Proofs.Try.prog 192 sig := sound_of_body env Go.Proofs.Try.func192 rfl (es := []) (fr := []) chk (fun _ _ h => lift_some h)
end spec_l6Put
namespace spec_l6Do
/-! loop example g00408 spec l6Do -/
abbrev Arg : Type := (List Row) × Change × Unit
abbrev Out : Type := (List Row) × Bool × Unit
noncomputable def ps : List (PM × Ty) := [(.ro, (.slc tRow)), (.ro, (.ptr tChange))]
noncomputable def rs : List (Ty × Md) := [((.slc tRow), (ownMd (.slc tRow))), (.bool, (roMd .bool))]
noncomputable def E : Env := { TI := lookN [(4, .bool), (28, (.slc tRow)), (48, tRow), (50, tChange)], G := lookN [(190, spec_l6Key.sig), (191, spec_l6At.sig), (192, spec_l6Put.sig)], fz := [], lv := [(7, [0, 1, 8, 9, 10])], lx := [(0, [1, 9])], lf := [], od := [(3, [0, 1, 2, 3, 4, 5, 6, 7, 8, 9, 10, 11, 12, 13, 14, 15, 16, 17, 18, 19, 20, 21])] }
noncomputable def sem (a : Arg) : Option Out := lift fun k => bodyK E k Go.Proofs.Try.f151 ps rs [] [] a
noncomputable def sig : Sig := { ps := ps, rs := rs, F := fun a => sem a }
noncomputable def C : Code := bodyOf Go.Proofs.Try.f151
noncomputable def fin : St → Option Out := outK ps rs [] (Func.results Go.Proofs.Try.f151).toList (mvs [])
noncomputable def K0 : Ex → St → Option Out := endK fin
noncomputable def S0 (rec : St → Option Out) (a1 : Arg) (c1011 : Int) : ((List Row) × Int) → Option Out := fun v1010 => rec ({ n := 70, sl := [(0, .val (.slc tRow) a1.1), (1, .cp tChange a1.2.1), (8, .val i64 c1011), (9, .own (.slc tRow) (ownMd (.slc tRow)) [] v1010.1), (10, .val i64 v1010.2)], vr := [], lent := [] })
noncomputable def X0_0 (K : Ex → St → Option Out) (a1 : Arg) (c1011 : Int) : (List Row) → Option Out := fun z => K (.exit 0) ({ n := 70, sl := [(1, .cp tChange a1.2.1), (9, .own (.slc tRow) (ownMd (.slc tRow)) [] z)], vr := [], lent := [] })
noncomputable def b0 (self : ((List Row) × Int) → Option Out) (e0 : (List Row) → Option Out) (a1 : Arg) (c1011 : Int) (v1010 : (List Row) × Int) : Option Out := bif decide (v1010.2 < (a1.1.length : Int)) then (bif !decide (v1010.2 = c1011) then (if 0 ≤ v1010.2 then ((a1.1[v1010.2.toNat]?).bind fun x1212 => if v1010.1.length + [x1212].length ≤ CAP then (self (v1010.1 ++ [x1212], w64 (v1010.2 + (1 : Int)))) else none) else none) else self (v1010.1, w64 (v1010.2 + (1 : Int)))) else e0 v1010.1
noncomputable def B0 (k : Nat) (self : ((List Row) × Int) → Option Out) (e0 : (List Row) → Option Out) (a1 : Arg) (c1011 : Int) (v1010 : (List Row) × Int) : Option Out := b0 self e0 a1 c1011 v1010
theorem b0_eq (k : Nat) (rec : St → Option Out) (K : Ex → St → Option Out) (a1 : Arg) (c1011 : Int) (v1010 : (List Row) × Int) : codeK E k fin (sub [1, 1, 1, 1, 1, 0, 1, 0, 0] C) ({ n := 70, sl := [(0, .val (.slc tRow) a1.1), (1, .cp tChange a1.2.1), (8, .val i64 c1011), (9, .own (.slc tRow) (ownMd (.slc tRow)) [] v1010.1), (10, .val i64 v1010.2)], vr := [], lent := [] }) (loopC rec (keepF [0, 1, 8, 9, 10] []) K) = b0 (S0 rec a1 c1011) (X0_0 K a1 c1011) a1 c1011 v1010 := by kernel_rfl
theorem B0_eq (k : Nat) (rec : St → Option Out) (K : Ex → St → Option Out) (a1 : Arg) (c1011 : Int) (v1010 : (List Row) × Int) : codeK E k fin (sub [1, 1, 1, 1, 1, 0, 1, 0, 0] C) ({ n := 70, sl := [(0, .val (.slc tRow) a1.1), (1, .cp tChange a1.2.1), (8, .val i64 c1011), (9, .own (.slc tRow) (ownMd (.slc tRow)) [] v1010.1), (10, .val i64 v1010.2)], vr := [], lent := [] }) (loopC rec (keepF [0, 1, 8, 9, 10] []) K) = B0 k (S0 rec a1 c1011) (X0_0 K a1 c1011) a1 c1011 v1010 := (b0_eq k rec K a1 c1011 v1010).trans (by rfl)
noncomputable def l0 (k : Nat) (a1 : Arg) (c1011 : Int) (e0 : (List Row) → Option Out) (v : (List Row) × Int) : Option Out := rawIter (fun self v => B0 k self e0 a1 c1011 v) k v
theorem l0_eq (k : Nat) (K : Ex → St → Option Out) (a1 : Arg) (c1011 : Int) (v1010 : (List Row) × Int) : iterK (codeK E k fin (sub [1, 1, 1, 1, 1, 0, 1, 0, 0] C)) (keepF [0, 1, 8, 9, 10] []) K k ({ n := 70, sl := [(0, .val (.slc tRow) a1.1), (1, .cp tChange a1.2.1), (8, .val i64 c1011), (9, .own (.slc tRow) (ownMd (.slc tRow)) [] v1010.1), (10, .val i64 v1010.2)], vr := [], lent := [] }) = l0 k a1 c1011 (X0_0 K a1 c1011) v1010 :=
  iter_raw _ _ K (fun v1010 => ({ n := 70, sl := [(0, .val (.slc tRow) a1.1), (1, .cp tChange a1.2.1), (8, .val i64 c1011), (9, .own (.slc tRow) (ownMd (.slc tRow)) [] v1010.1), (10, .val i64 v1010.2)], vr := [], lent := [] } : St)) (fun self v => B0 k self (X0_0 K a1 c1011) a1 c1011 v) (fun rec v => B0_eq k rec K a1 c1011 v) k v1010
noncomputable def q0 (a1 : Arg) (c1011 : Int) (z1213 : (List Row)) : Option Out := bif a1.2.1.2.2.1 then ((spec_l6Put.sem (z1213, a1.2.1.2.2.2.1, ())).bind fun r1214 => some (r1214.1, true, ())) else some (z1213, true, ())
noncomputable def Q0 (k : Nat) (a1 : Arg) (c1011 : Int) (z1213 : (List Row)) : Option Out := q0 a1 c1011 z1213
theorem q0_eq (k : Nat) (a1 : Arg) (c1011 : Int) (z1213 : (List Row)) : (blockC 0 (seqC (codeK E k fin (sub [1, 1, 1, 1, 1, 1] C)) K0)) (.exit 0) ({ n := 70, sl := [(1, .cp tChange a1.2.1), (9, .own (.slc tRow) (ownMd (.slc tRow)) [] z1213)], vr := [], lent := [] }) = q0 a1 c1011 z1213 := by kernel_rfl
theorem Q0_eq (k : Nat) (a1 : Arg) (c1011 : Int) (z1213 : (List Row)) : (blockC 0 (seqC (codeK E k fin (sub [1, 1, 1, 1, 1, 1] C)) K0)) (.exit 0) ({ n := 70, sl := [(1, .cp tChange a1.2.1), (9, .own (.slc tRow) (ownMd (.slc tRow)) [] z1213)], vr := [], lent := [] }) = Q0 k a1 c1011 z1213 := (q0_eq k a1 c1011 z1213).trans (by rfl)
noncomputable def s0 (k : Nat) (a1 : Arg) : Int → ((List Row) × Int) → Option Out := fun c1011 v1010 => iterK (codeK E k fin (sub [1, 1, 1, 1, 1, 0, 1, 0, 0] C)) (keepF [0, 1, 8, 9, 10] []) (blockC 0 (seqC (codeK E k fin (sub [1, 1, 1, 1, 1, 1] C)) K0)) k ({ n := 70, sl := [(0, .val (.slc tRow) a1.1), (1, .cp tChange a1.2.1), (8, .val i64 c1011), (9, .own (.slc tRow) (ownMd (.slc tRow)) [] v1010.1), (10, .val i64 v1010.2)], vr := [], lent := [] })
noncomputable def r0 (k : Nat) (a1 : Arg) : Int → ((List Row) × Int) → Option Out := fun c1011 v1010 => l0 k a1 c1011 (fun z => Q0 k a1 c1011 z) v1010
theorem s0_eq (k : Nat) (a1 : Arg) : s0 k a1 = r0 k a1 := by
  funext c1011; funext v1010;
  have h0 : X0_0 ((blockC 0 (seqC (codeK E k fin (sub [1, 1, 1, 1, 1, 1] C)) K0))) a1 c1011 = fun z => Q0 k a1 c1011 z := funext fun z => Q0_eq k a1 c1011 z
  refine (l0_eq k ((blockC 0 (seqC (codeK E k fin (sub [1, 1, 1, 1, 1, 1] C)) K0))) a1 c1011 v1010).trans ?_
  rw [h0]
  rfl
noncomputable def p (l0 : Int → ((List Row) × Int) → Option Out) (a1 : Arg) : Option Out := (spec_l6Key.sem (a1.2.1, ())).bind fun r2 => (spec_l6At.sem (a1.1, r2.1, r2.2.1, ())).bind fun r3 => let j609 : Option Out := l0 r3.1 (([] : List Row), (0 : Int)); bif !(a1.2.1.1 == (decide ((0 : Int) ≤ r3.1))) then (some (([] : List Row), false, ())) else bif decide ((0 : Int) ≤ r3.1) then (if 0 ≤ r3.1 then ((a1.1[r3.1.toNat]?).bind fun x4 => bif !(Ty.eq tRow x4 a1.2.1.2.1) then (some (([] : List Row), false, ())) else j609) else none) else j609
noncomputable def raw (k : Nat) (a1 : Arg) : Option Out := p (r0 k a1) a1
theorem p_eq (k : Nat) (a1 : Arg) : bodyK E k Go.Proofs.Try.f151 ps rs [] [] a1 = p (s0 k a1) a1 := by kernel_rfl
theorem raw_eq (k : Nat) (a1 : Arg) : bodyK E k Go.Proofs.Try.f151 ps rs [] [] a1 = raw k a1 := (p_eq k a1).trans (by rw [s0_eq]; rfl)
theorem ent : EnterOk Go.Proofs.Try.prog 151 sig.cap := ⟨Go.Proofs.Try.f151, Go.Proofs.Try.func151, by kernel_rfl, by kernel_rfl, by kernel_rfl⟩
theorem env : EnvOk Go.Proofs.Try.prog E := env_ok (tl := [(4, .bool), (28, (.slc tRow)), (48, tRow), (50, tChange)]) (gl := [(190, spec_l6Key.sig), (191, spec_l6At.sig), (192, spec_l6Put.sig)]) rfl rfl (by kernel_rfl) (by kernel_rfl) (fn_cons spec_l6Key.snd spec_l6Key.ent (fn_cons spec_l6At.snd spec_l6At.ent (fn_cons spec_l6Put.snd spec_l6Put.ent (fn_nil _))))
theorem chk : funOk Go.Proofs.Try.prog E Go.Proofs.Try.f151 ps rs [] = true := by kernel_rfl
theorem snd : Sound Go.Proofs.Try.prog 151 sig := sound_of_body env Go.Proofs.Try.func151 rfl (es := []) (fr := []) chk (fun _ _ h => lift_some h)
end spec_l6Do
namespace spec_l11Undo
/-! loop example g00408 spec l11Undo -/
abbrev Arg : Type := (List Row) × (List Change) × Unit
abbrev Out : Type := (List Row) × Bool × Unit
noncomputable def ps : List (PM × Ty) := [(.ro, (.slc tRow)), (.ro, (.slc tChange))]
noncomputable def rs : List (Ty × Md) := [((.slc tRow), (roMd (.slc tRow))), (.bool, (roMd .bool))]
noncomputable def E : Env := { TI := lookN [(28, (.slc tRow)), (65, (.slc tChange))], G := lookN [(150, spec_l10Inverse.sig), (151, spec_l6Do.sig)], fz := [], lv := [(3, [0, 6, 7])], lx := [(0, [0])], lf := [(3, [(0, (.slc false (.pair .leaf (.pair .leaf (.pair .leaf (.pair .leaf .leaf))))))])], od := [] }
noncomputable def sem (a : Arg) : Option Out := lift fun k => bodyK E k Go.Proofs.Try.f98 ps rs [] [] a
noncomputable def sig : Sig := { ps := ps, rs := rs, F := fun a => sem a }
noncomputable def C : Code := bodyOf Go.Proofs.Try.f98
noncomputable def fin : St → Option Out := outK ps rs [] (Func.results Go.Proofs.Try.f98).toList (mvs [])
noncomputable def K0 : Ex → St → Option Out := endK fin
noncomputable def S0 (rec : St → Option Out) (a1 : Arg) (c404 : List Change) : ((List Row) × Int) → Option Out := fun v403 => rec ({ n := 30, sl := [(0, .val (.slc tRow) v403.1), (6, .own (.slc tChange) (ownMd (.slc tChange)) [] c404), (7, .val i64 v403.2)], vr := [], lent := [] })
noncomputable def X0_0 (K : Ex → St → Option Out) (a1 : Arg) (c404 : List Change) : (List Row) → Option Out := fun z => K (.exit 0) ({ n := 30, sl := [(0, .val (.slc tRow) z)], vr := [], lent := [] })
noncomputable def b0 (self : ((List Row) × Int) → Option Out) (e0 : (List Row) → Option Out) (a1 : Arg) (c404 : List Change) (v403 : (List Row) × Int) : Option Out := bif decide (v403.2 < (c404.length : Int)) then (if 0 ≤ v403.2 ∧ v403.2 < (c404.length : Int) then ((c404[v403.2.toNat]?).bind fun x605 => (spec_l6Do.sem (v403.1, x605, ())).bind fun r606 => bif !r606.2.1 then (some (([] : List Row), false, ())) else self (r606.1, w64 (v403.2 + (1 : Int)))) else none) else e0 v403.1
noncomputable def B0 (k : Nat) (self : ((List Row) × Int) → Option Out) (e0 : (List Row) → Option Out) (a1 : Arg) (c404 : List Change) (v403 : (List Row) × Int) : Option Out := b0 self e0 a1 c404 v403
theorem b0_eq (k : Nat) (rec : St → Option Out) (K : Ex → St → Option Out) (a1 : Arg) (c404 : List Change) (v403 : (List Row) × Int) : codeK E k fin (sub [1, 1, 0, 1, 0, 0] C) ({ n := 30, sl := [(0, .val (.slc tRow) v403.1), (6, .own (.slc tChange) (ownMd (.slc tChange)) [] c404), (7, .val i64 v403.2)], vr := [], lent := [] }) (loopC rec (keepF [0, 6, 7] [(0, (.slc false (.pair .leaf (.pair .leaf (.pair .leaf (.pair .leaf .leaf))))))]) K) = b0 (S0 rec a1 c404) (X0_0 K a1 c404) a1 c404 v403 := by kernel_rfl
theorem B0_eq (k : Nat) (rec : St → Option Out) (K : Ex → St → Option Out) (a1 : Arg) (c404 : List Change) (v403 : (List Row) × Int) : codeK E k fin (sub [1, 1, 0, 1, 0, 0] C) ({ n := 30, sl := [(0, .val (.slc tRow) v403.1), (6, .own (.slc tChange) (ownMd (.slc tChange)) [] c404), (7, .val i64 v403.2)], vr := [], lent := [] }) (loopC rec (keepF [0, 6, 7] [(0, (.slc false (.pair .leaf (.pair .leaf (.pair .leaf (.pair .leaf .leaf))))))]) K) = B0 k (S0 rec a1 c404) (X0_0 K a1 c404) a1 c404 v403 := (b0_eq k rec K a1 c404 v403).trans (by rfl)
noncomputable def l0 (k : Nat) (a1 : Arg) (c404 : List Change) (e0 : (List Row) → Option Out) (v : (List Row) × Int) : Option Out := rawIter (fun self v => B0 k self e0 a1 c404 v) k v
theorem l0_eq (k : Nat) (K : Ex → St → Option Out) (a1 : Arg) (c404 : List Change) (v403 : (List Row) × Int) : iterK (codeK E k fin (sub [1, 1, 0, 1, 0, 0] C)) (keepF [0, 6, 7] [(0, (.slc false (.pair .leaf (.pair .leaf (.pair .leaf (.pair .leaf .leaf))))))]) K k ({ n := 30, sl := [(0, .val (.slc tRow) v403.1), (6, .own (.slc tChange) (ownMd (.slc tChange)) [] c404), (7, .val i64 v403.2)], vr := [], lent := [] }) = l0 k a1 c404 (X0_0 K a1 c404) v403 :=
  iter_raw _ _ K (fun v403 => ({ n := 30, sl := [(0, .val (.slc tRow) v403.1), (6, .own (.slc tChange) (ownMd (.slc tChange)) [] c404), (7, .val i64 v403.2)], vr := [], lent := [] } : St)) (fun self v => B0 k self (X0_0 K a1 c404) a1 c404 v) (fun rec v => B0_eq k rec K a1 c404 v) k v403
noncomputable def q0 (a1 : Arg) (c404 : List Change) (z607 : (List Row)) : Option Out := some (z607, true, ())
noncomputable def Q0 (k : Nat) (a1 : Arg) (c404 : List Change) (z607 : (List Row)) : Option Out := q0 a1 c404 z607
theorem q0_eq (k : Nat) (a1 : Arg) (c404 : List Change) (z607 : (List Row)) : (blockC 0 (seqC (codeK E k fin (sub [1, 1, 1] C)) K0)) (.exit 0) ({ n := 30, sl := [(0, .val (.slc tRow) z607)], vr := [], lent := [] }) = q0 a1 c404 z607 := by kernel_rfl
theorem Q0_eq (k : Nat) (a1 : Arg) (c404 : List Change) (z607 : (List Row)) : (blockC 0 (seqC (codeK E k fin (sub [1, 1, 1] C)) K0)) (.exit 0) ({ n := 30, sl := [(0, .val (.slc tRow) z607)], vr := [], lent := [] }) = Q0 k a1 c404 z607 := (q0_eq k a1 c404 z607).trans (by rfl)
noncomputable def s0 (k : Nat) (a1 : Arg) : (List Change) → ((List Row) × Int) → Option Out := fun c404 v403 => iterK (codeK E k fin (sub [1, 1, 0, 1, 0, 0] C)) (keepF [0, 6, 7] [(0, (.slc false (.pair .leaf (.pair .leaf (.pair .leaf (.pair .leaf .leaf))))))]) (blockC 0 (seqC (codeK E k fin (sub [1, 1, 1] C)) K0)) k ({ n := 30, sl := [(0, .val (.slc tRow) v403.1), (6, .own (.slc tChange) (ownMd (.slc tChange)) [] c404), (7, .val i64 v403.2)], vr := [], lent := [] })
noncomputable def r0 (k : Nat) (a1 : Arg) : (List Change) → ((List Row) × Int) → Option Out := fun c404 v403 => l0 k a1 c404 (fun z => Q0 k a1 c404 z) v403
theorem s0_eq (k : Nat) (a1 : Arg) : s0 k a1 = r0 k a1 := by
  funext c404; funext v403;
  have h0 : X0_0 ((blockC 0 (seqC (codeK E k fin (sub [1, 1, 1] C)) K0))) a1 c404 = fun z => Q0 k a1 c404 z := funext fun z => Q0_eq k a1 c404 z
  refine (l0_eq k ((blockC 0 (seqC (codeK E k fin (sub [1, 1, 1] C)) K0))) a1 c404 v403).trans ?_
  rw [h0]
  rfl
noncomputable def p (l0 : (List Change) → ((List Row) × Int) → Option Out) (a1 : Arg) : Option Out := (spec_l10Inverse.sem (a1.2.1, ())).bind fun r2 => l0 r2.1 (a1.1, (0 : Int))
noncomputable def raw (k : Nat) (a1 : Arg) : Option Out := p (r0 k a1) a1
theorem p_eq (k : Nat) (a1 : Arg) : bodyK E k Go.Proofs.Try.f98 ps rs [] [] a1 = p (s0 k a1) a1 := by kernel_rfl
theorem raw_eq (k : Nat) (a1 : Arg) : bodyK E k Go.Proofs.Try.f98 ps rs [] [] a1 = raw k a1 := (p_eq k a1).trans (by rw [s0_eq]; rfl)
theorem ent : EnterOk Go.Proofs.Try.prog 98 sig.cap := ⟨Go.Proofs.Try.f98, Go.Proofs.Try.func98, by kernel_rfl, by kernel_rfl, by kernel_rfl⟩
theorem env : EnvOk Go.Proofs.Try.prog E := env_ok (tl := [(28, (.slc tRow)), (65, (.slc tChange))]) (gl := [(150, spec_l10Inverse.sig), (151, spec_l6Do.sig)]) rfl rfl (by kernel_rfl) (by kernel_rfl) (fn_cons spec_l10Inverse.snd spec_l10Inverse.ent (fn_cons spec_l6Do.snd spec_l6Do.ent (fn_nil _)))
theorem chk : funOk Go.Proofs.Try.prog E Go.Proofs.Try.f98 ps rs [] = true := by kernel_rfl
theorem snd : Sound Go.Proofs.Try.prog 98 sig := sound_of_body env Go.Proofs.Try.func98 rfl (es := []) (fr := []) chk (fun _ _ h => lift_some h)
end spec_l11Undo
namespace spec_l11Back
/-! loop example g00408 spec l11Back -/
abbrev Arg : Type := (List Row) × (List Tx) × Unit
abbrev Out : Type := (List Row) × Bool × Unit
noncomputable def ps : List (PM × Ty) := [(.ro, (.slc tRow)), (.ro, (.slc tTx))]
noncomputable def rs : List (Ty × Md) := [((.slc tRow), (roMd (.slc tRow))), (.bool, (roMd .bool))]
noncomputable def E : Env := { TI := lookN [(28, (.slc tRow)), (29, (.slc tTx)), (65, (.slc tChange)), (99, tTx)], G := lookN [(98, spec_l11Undo.sig)], fz := [], lv := [(3, [1, 6, 7])], lx := [(0, [6])], lf := [(3, [(6, (.slc false (.pair .leaf (.pair .leaf (.pair .leaf (.pair .leaf .leaf))))))])], od := [] }
noncomputable def sem (a : Arg) : Option Out := lift fun k => bodyK E k Go.Proofs.Try.f50 ps rs [] [] a
noncomputable def sig : Sig := { ps := ps, rs := rs, F := fun a => sem a }
noncomputable def C : Code := bodyOf Go.Proofs.Try.f50
noncomputable def fin : St → Option Out := outK ps rs [] (Func.results Go.Proofs.Try.f50).toList (mvs [])
noncomputable def K0 : Ex → St → Option Out := endK fin
noncomputable def S0 (rec : St → Option Out) (a1 : Arg) : ((List Row) × Int) → Option Out := fun v402 => rec ({ n := 33, sl := [(1, .val (.slc tTx) a1.2.1), (6, .val (.slc tRow) v402.1), (7, .val i64 v402.2)], vr := [], lent := [] })
noncomputable def X0_0 (K : Ex → St → Option Out) (a1 : Arg) : (List Row) → Option Out := fun z => K (.exit 0) ({ n := 33, sl := [(6, .val (.slc tRow) z)], vr := [], lent := [] })
noncomputable def b0 (self : ((List Row) × Int) → Option Out) (e0 : (List Row) → Option Out) (a1 : Arg) (v402 : (List Row) × Int) : Option Out := bif decide (v402.2 < (a1.2.1.length : Int)) then (if 0 ≤ v402.2 then ((a1.2.1[v402.2.toNat]?).bind fun x603 => (spec_l11Undo.sem (v402.1, x603.2.1, ())).bind fun r604 => bif !r604.2.1 then (some (([] : List Row), false, ())) else self (r604.1, w64 (v402.2 + (1 : Int)))) else none) else e0 v402.1
noncomputable def B0 (k : Nat) (self : ((List Row) × Int) → Option Out) (e0 : (List Row) → Option Out) (a1 : Arg) (v402 : (List Row) × Int) : Option Out := b0 self e0 a1 v402
theorem b0_eq (k : Nat) (rec : St → Option Out) (K : Ex → St → Option Out) (a1 : Arg) (v402 : (List Row) × Int) : codeK E k fin (sub [1, 1, 0, 1, 0, 0] C) ({ n := 33, sl := [(1, .val (.slc tTx) a1.2.1), (6, .val (.slc tRow) v402.1), (7, .val i64 v402.2)], vr := [], lent := [] }) (loopC rec (keepF [1, 6, 7] [(6, (.slc false (.pair .leaf (.pair .leaf (.pair .leaf (.pair .leaf .leaf))))))]) K) = b0 (S0 rec a1) (X0_0 K a1) a1 v402 := by kernel_rfl
theorem B0_eq (k : Nat) (rec : St → Option Out) (K : Ex → St → Option Out) (a1 : Arg) (v402 : (List Row) × Int) : codeK E k fin (sub [1, 1, 0, 1, 0, 0] C) ({ n := 33, sl := [(1, .val (.slc tTx) a1.2.1), (6, .val (.slc tRow) v402.1), (7, .val i64 v402.2)], vr := [], lent := [] }) (loopC rec (keepF [1, 6, 7] [(6, (.slc false (.pair .leaf (.pair .leaf (.pair .leaf (.pair .leaf .leaf))))))]) K) = B0 k (S0 rec a1) (X0_0 K a1) a1 v402 := (b0_eq k rec K a1 v402).trans (by rfl)
noncomputable def l0 (k : Nat) (a1 : Arg) (e0 : (List Row) → Option Out) (v : (List Row) × Int) : Option Out := rawIter (fun self v => B0 k self e0 a1 v) k v
theorem l0_eq (k : Nat) (K : Ex → St → Option Out) (a1 : Arg) (v402 : (List Row) × Int) : iterK (codeK E k fin (sub [1, 1, 0, 1, 0, 0] C)) (keepF [1, 6, 7] [(6, (.slc false (.pair .leaf (.pair .leaf (.pair .leaf (.pair .leaf .leaf))))))]) K k ({ n := 33, sl := [(1, .val (.slc tTx) a1.2.1), (6, .val (.slc tRow) v402.1), (7, .val i64 v402.2)], vr := [], lent := [] }) = l0 k a1 (X0_0 K a1) v402 :=
  iter_raw _ _ K (fun v402 => ({ n := 33, sl := [(1, .val (.slc tTx) a1.2.1), (6, .val (.slc tRow) v402.1), (7, .val i64 v402.2)], vr := [], lent := [] } : St)) (fun self v => B0 k self (X0_0 K a1) a1 v) (fun rec v => B0_eq k rec K a1 v) k v402
noncomputable def q0 (a1 : Arg) (z605 : (List Row)) : Option Out := some (z605, true, ())
noncomputable def Q0 (k : Nat) (a1 : Arg) (z605 : (List Row)) : Option Out := q0 a1 z605
theorem q0_eq (k : Nat) (a1 : Arg) (z605 : (List Row)) : (blockC 0 (seqC (codeK E k fin (sub [1, 1, 1] C)) K0)) (.exit 0) ({ n := 33, sl := [(6, .val (.slc tRow) z605)], vr := [], lent := [] }) = q0 a1 z605 := by kernel_rfl
theorem Q0_eq (k : Nat) (a1 : Arg) (z605 : (List Row)) : (blockC 0 (seqC (codeK E k fin (sub [1, 1, 1] C)) K0)) (.exit 0) ({ n := 33, sl := [(6, .val (.slc tRow) z605)], vr := [], lent := [] }) = Q0 k a1 z605 := (q0_eq k a1 z605).trans (by rfl)
noncomputable def s0 (k : Nat) (a1 : Arg) : ((List Row) × Int) → Option Out := fun v402 => iterK (codeK E k fin (sub [1, 1, 0, 1, 0, 0] C)) (keepF [1, 6, 7] [(6, (.slc false (.pair .leaf (.pair .leaf (.pair .leaf (.pair .leaf .leaf))))))]) (blockC 0 (seqC (codeK E k fin (sub [1, 1, 1] C)) K0)) k ({ n := 33, sl := [(1, .val (.slc tTx) a1.2.1), (6, .val (.slc tRow) v402.1), (7, .val i64 v402.2)], vr := [], lent := [] })
noncomputable def r0 (k : Nat) (a1 : Arg) : ((List Row) × Int) → Option Out := fun v402 => l0 k a1 (fun z => Q0 k a1 z) v402
theorem s0_eq (k : Nat) (a1 : Arg) : s0 k a1 = r0 k a1 := by
  funext v402;
  have h0 : X0_0 ((blockC 0 (seqC (codeK E k fin (sub [1, 1, 1] C)) K0))) a1 = fun z => Q0 k a1 z := funext fun z => Q0_eq k a1 z
  refine (l0_eq k ((blockC 0 (seqC (codeK E k fin (sub [1, 1, 1] C)) K0))) a1 v402).trans ?_
  rw [h0]
  rfl
noncomputable def p (l0 : ((List Row) × Int) → Option Out) (a1 : Arg) : Option Out := if ([] : List Row).length + a1.1.length ≤ CAP then (l0 (([] : List Row) ++ a1.1, (0 : Int))) else none
noncomputable def raw (k : Nat) (a1 : Arg) : Option Out := p (r0 k a1) a1
theorem p_eq (k : Nat) (a1 : Arg) : bodyK E k Go.Proofs.Try.f50 ps rs [] [] a1 = p (s0 k a1) a1 := by kernel_rfl
theorem raw_eq (k : Nat) (a1 : Arg) : bodyK E k Go.Proofs.Try.f50 ps rs [] [] a1 = raw k a1 := (p_eq k a1).trans (by rw [s0_eq]; rfl)
theorem ent : EnterOk Go.Proofs.Try.prog 50 sig.cap := ⟨Go.Proofs.Try.f50, Go.Proofs.Try.func50, by kernel_rfl, by kernel_rfl, by kernel_rfl⟩
theorem env : EnvOk Go.Proofs.Try.prog E := env_ok (tl := [(28, (.slc tRow)), (29, (.slc tTx)), (65, (.slc tChange)), (99, tTx)]) (gl := [(98, spec_l11Undo.sig)]) rfl rfl (by kernel_rfl) (by kernel_rfl) (fn_cons spec_l11Undo.snd spec_l11Undo.ent (fn_nil _))
theorem chk : funOk Go.Proofs.Try.prog E Go.Proofs.Try.f50 ps rs [] = true := by kernel_rfl
theorem snd : Sound Go.Proofs.Try.prog 50 sig := sound_of_body env Go.Proofs.Try.func50 rfl (es := []) (fr := []) chk (fun _ _ h => lift_some h)
end spec_l11Back
namespace spec_l1In
/-! loop example g00408 spec l1In -/
abbrev Arg : Type := Int × Int × Int × Unit
abbrev Out : Type := Bool × Unit
noncomputable def ps : List (PM × Ty) := [(.ro, i64), (.ro, i64), (.ro, i64)]
noncomputable def rs : List (Ty × Md) := [(.bool, (roMd .bool))]
noncomputable def E : Env := { TI := lookN [], G := lookN [], fz := [], lv := [], lx := [], lf := [], od := [] }
noncomputable def sem (a : Arg) : Option Out := lift fun k => bodyK E k Go.Proofs.Try.f88 ps rs [] [] a
noncomputable def sig : Sig := { ps := ps, rs := rs, F := fun a => sem a }
noncomputable def C : Code := bodyOf Go.Proofs.Try.f88
noncomputable def fin : St → Option Out := outK ps rs [] (Func.results Go.Proofs.Try.f88).toList (mvs [])
noncomputable def K0 : Ex → St → Option Out := endK fin
noncomputable def p (a1 : Arg) : Option Out := bif decide (a1.2.1 ≤ a1.1) then (some (decide (a1.1 ≤ a1.2.2.1), ())) else some (false, ())
noncomputable def raw (k : Nat) (a1 : Arg) : Option Out := p a1
theorem p_eq (k : Nat) (a1 : Arg) : bodyK E k Go.Proofs.Try.f88 ps rs [] [] a1 = p a1 := by kernel_rfl
theorem raw_eq (k : Nat) (a1 : Arg) : bodyK E k Go.Proofs.Try.f88 ps rs [] [] a1 = raw k a1 := (p_eq k a1).trans (by rfl)
theorem ent : EnterOk Go.Proofs.Try.prog 88 sig.cap := ⟨Go.Proofs.Try.f88, Go.Proofs.Try.func88, by kernel_rfl, by kernel_rfl, by kernel_rfl⟩
theorem env : EnvOk Go.Proofs.Try.prog E := env_ok (tl := []) (gl := []) rfl rfl (by kernel_rfl) (by kernel_rfl) (fn_nil _)
theorem chk : funOk Go.Proofs.Try.prog E Go.Proofs.Try.f88 ps rs [] = true := by kernel_rfl
theorem snd : Sound Go.Proofs.Try.prog 88 sig := sound_of_body env Go.Proofs.Try.func88 rfl (es := []) (fr := []) chk (fun _ _ h => lift_some h)
end spec_l1In
namespace spec_l1Text
/-! loop example g00408 spec l1Text -/
abbrev Arg : Type := (List UInt8) × Unit
abbrev Out : Type := Bool × Unit
noncomputable def ps : List (PM × Ty) := [(.ro, .str)]
noncomputable def rs : List (Ty × Md) := [(.bool, (roMd .bool))]
noncomputable def E : Env := { TI := lookN [(9, .str)], G := lookN [], fz := [], lv := [(2, [0, 3])], lx := [(0, [0])], lf := [], od := [] }
noncomputable def sem (a : Arg) : Option Out := lift fun k => bodyK E k Go.Proofs.Try.f153 ps rs [] [] a
noncomputable def sig : Sig := { ps := ps, rs := rs, F := fun a => sem a }
noncomputable def C : Code := bodyOf Go.Proofs.Try.f153
noncomputable def fin : St → Option Out := outK ps rs [] (Func.results Go.Proofs.Try.f153).toList (mvs [])
noncomputable def K0 : Ex → St → Option Out := endK fin
noncomputable def S0 (rec : St → Option Out) (a1 : Arg) : (Int) → Option Out := fun v402 => rec ({ n := 23, sl := [(0, .val .str a1.1), (3, .val i64 v402)], vr := [], lent := [] })
noncomputable def X0_0 (K : Ex → St → Option Out) (a1 : Arg) : (Unit) → Option Out := fun z => K (.exit 0) ({ n := 23, sl := [(0, .val .str a1.1)], vr := [], lent := [] })
noncomputable def b0 (self : Int → Option Out) (e0 : (Unit) → Option Out) (a1 : Arg) (v402 : Int) : Option Out := bif decide (v402 < (a1.1.length : Int)) then (if 0 ≤ v402 then ((a1.1[v402.toNat]?).bind fun x603 => bif decide ((x603.toNat : Int) < (97 : Int)) then (some (false, ())) else if 0 ≤ v402 then ((a1.1[v402.toNat]?).bind fun x604 => bif decide ((122 : Int) < (x604.toNat : Int)) then (some (false, ())) else self (w64 (v402 + (1 : Int)))) else none) else none) else e0 ()
noncomputable def B0 (k : Nat) (self : Int → Option Out) (e0 : (Unit) → Option Out) (a1 : Arg) (v402 : Int) : Option Out := b0 self e0 a1 v402
theorem b0_eq (k : Nat) (rec : St → Option Out) (K : Ex → St → Option Out) (a1 : Arg) (v402 : Int) : codeK E k fin (sub [1, 0, 1, 0, 0] C) ({ n := 23, sl := [(0, .val .str a1.1), (3, .val i64 v402)], vr := [], lent := [] }) (loopC rec (keepF [0, 3] []) K) = b0 (S0 rec a1) (X0_0 K a1) a1 v402 := by kernel_rfl
theorem B0_eq (k : Nat) (rec : St → Option Out) (K : Ex → St → Option Out) (a1 : Arg) (v402 : Int) : codeK E k fin (sub [1, 0, 1, 0, 0] C) ({ n := 23, sl := [(0, .val .str a1.1), (3, .val i64 v402)], vr := [], lent := [] }) (loopC rec (keepF [0, 3] []) K) = B0 k (S0 rec a1) (X0_0 K a1) a1 v402 := (b0_eq k rec K a1 v402).trans (by rfl)
noncomputable def l0 (k : Nat) (a1 : Arg) (e0 : (Unit) → Option Out) (v : Int) : Option Out := rawIter (fun self v => B0 k self e0 a1 v) k v
theorem l0_eq (k : Nat) (K : Ex → St → Option Out) (a1 : Arg) (v402 : Int) : iterK (codeK E k fin (sub [1, 0, 1, 0, 0] C)) (keepF [0, 3] []) K k ({ n := 23, sl := [(0, .val .str a1.1), (3, .val i64 v402)], vr := [], lent := [] }) = l0 k a1 (X0_0 K a1) v402 :=
  iter_raw _ _ K (fun v402 => ({ n := 23, sl := [(0, .val .str a1.1), (3, .val i64 v402)], vr := [], lent := [] } : St)) (fun self v => B0 k self (X0_0 K a1) a1 v) (fun rec v => B0_eq k rec K a1 v) k v402
noncomputable def q0 (a1 : Arg) (z605 : (Unit)) : Option Out := some (decide ((a1.1.length : Int) ≤ (8 : Int)), ())
noncomputable def Q0 (k : Nat) (a1 : Arg) (z605 : (Unit)) : Option Out := q0 a1 z605
theorem q0_eq (k : Nat) (a1 : Arg) (z605 : (Unit)) : (blockC 0 (seqC (codeK E k fin (sub [1, 1] C)) K0)) (.exit 0) ({ n := 23, sl := [(0, .val .str a1.1)], vr := [], lent := [] }) = q0 a1 z605 := by kernel_rfl
theorem Q0_eq (k : Nat) (a1 : Arg) (z605 : (Unit)) : (blockC 0 (seqC (codeK E k fin (sub [1, 1] C)) K0)) (.exit 0) ({ n := 23, sl := [(0, .val .str a1.1)], vr := [], lent := [] }) = Q0 k a1 z605 := (q0_eq k a1 z605).trans (by rfl)
noncomputable def s0 (k : Nat) (a1 : Arg) : (Int) → Option Out := fun v402 => iterK (codeK E k fin (sub [1, 0, 1, 0, 0] C)) (keepF [0, 3] []) (blockC 0 (seqC (codeK E k fin (sub [1, 1] C)) K0)) k ({ n := 23, sl := [(0, .val .str a1.1), (3, .val i64 v402)], vr := [], lent := [] })
noncomputable def r0 (k : Nat) (a1 : Arg) : (Int) → Option Out := fun v402 => l0 k a1 (fun z => Q0 k a1 z) v402
theorem s0_eq (k : Nat) (a1 : Arg) : s0 k a1 = r0 k a1 := by
  funext v402;
  have h0 : X0_0 ((blockC 0 (seqC (codeK E k fin (sub [1, 1] C)) K0))) a1 = fun z => Q0 k a1 z := funext fun z => Q0_eq k a1 z
  refine (l0_eq k ((blockC 0 (seqC (codeK E k fin (sub [1, 1] C)) K0))) a1 v402).trans ?_
  rw [h0]
  rfl
noncomputable def p (l0 : (Int) → Option Out) (a1 : Arg) : Option Out := l0 (0 : Int)
noncomputable def raw (k : Nat) (a1 : Arg) : Option Out := p (r0 k a1) a1
theorem p_eq (k : Nat) (a1 : Arg) : bodyK E k Go.Proofs.Try.f153 ps rs [] [] a1 = p (s0 k a1) a1 := by kernel_rfl
theorem raw_eq (k : Nat) (a1 : Arg) : bodyK E k Go.Proofs.Try.f153 ps rs [] [] a1 = raw k a1 := (p_eq k a1).trans (by rw [s0_eq]; rfl)
theorem ent : EnterOk Go.Proofs.Try.prog 153 sig.cap := ⟨Go.Proofs.Try.f153, Go.Proofs.Try.func153, by kernel_rfl, by kernel_rfl, by kernel_rfl⟩
theorem env : EnvOk Go.Proofs.Try.prog E := env_ok (tl := [(9, .str)]) (gl := []) rfl rfl (by kernel_rfl) (by kernel_rfl) (fn_nil _)
theorem chk : funOk Go.Proofs.Try.prog E Go.Proofs.Try.f153 ps rs [] = true := by kernel_rfl
theorem snd : Sound Go.Proofs.Try.prog 153 sig := sound_of_body env Go.Proofs.Try.func153 rfl (es := []) (fr := []) chk (fun _ _ h => lift_some h)
end spec_l1Text
namespace spec_l1Fault
/-! loop example g00408 spec l1Fault -/
abbrev Arg : Type := Row × Unit
abbrev Out : Type := Int × Unit
noncomputable def ps : List (PM × Ty) := [(.ro, (.ptr tRow))]
noncomputable def rs : List (Ty × Md) := [(i64, (roMd i64))]
noncomputable def E : Env := { TI := lookN [(2, i64), (9, .str), (48, tRow)], G := lookN [(88, spec_l1In.sig), (153, spec_l1Text.sig)], fz := [], lv := [], lx := [], lf := [], od := [] }
noncomputable def sem (a : Arg) : Option Out := lift fun k => bodyK E k Go.Proofs.Try.f106 ps rs [] [] a
noncomputable def sig : Sig := { ps := ps, rs := rs, F := fun a => sem a }
noncomputable def C : Code := bodyOf Go.Proofs.Try.f106
noncomputable def fin : St → Option Out := outK ps rs [] (Func.results Go.Proofs.Try.f106).toList (mvs [])
noncomputable def K0 : Ex → St → Option Out := endK fin
noncomputable def p (a1 : Arg) : Option Out := (spec_l1In.sem (a1.1.1, (0 : Int), (3 : Int), ())).bind fun r2 => bif !r2.1 then (some ((3 : Int), ())) else (spec_l1In.sem (a1.1.2.1, (1 : Int), (99 : Int), ())).bind fun r3 => bif !r3.1 then (some ((3 : Int), ())) else (spec_l1In.sem (a1.1.2.2.1, (0 : Int), (999 : Int), ())).bind fun r4 => bif !r4.1 then (some ((3 : Int), ())) else (spec_l1Text.sem (a1.1.2.2.2.1, ())).bind fun r5 => bif !r5.1 then (some ((5 : Int), ())) else some ((0 : Int), ())
noncomputable def raw (k : Nat) (a1 : Arg) : Option Out := p a1
theorem p_eq (k : Nat) (a1 : Arg) : bodyK E k Go.Proofs.Try.f106 ps rs [] [] a1 = p a1 := by kernel_rfl
theorem raw_eq (k : Nat) (a1 : Arg) : bodyK E k Go.Proofs.Try.f106 ps rs [] [] a1 = raw k a1 := (p_eq k a1).trans (by rfl)
theorem ent : EnterOk Go.Proofs.Try.prog 106 sig.cap := ⟨Go.Proofs.Try.f106, Go.Proofs.Try.func106, by kernel_rfl, by kernel_rfl, by kernel_rfl⟩
theorem env : EnvOk Go.Proofs.Try.prog E := env_ok (tl := [(2, i64), (9, .str), (48, tRow)]) (gl := [(88, spec_l1In.sig), (153, spec_l1Text.sig)]) rfl rfl (by kernel_rfl) (by kernel_rfl) (fn_cons spec_l1In.snd spec_l1In.ent (fn_cons spec_l1Text.snd spec_l1Text.ent (fn_nil _)))
theorem chk : funOk Go.Proofs.Try.prog E Go.Proofs.Try.f106 ps rs [] = true := by kernel_rfl
theorem snd : Sound Go.Proofs.Try.prog 106 sig := sound_of_body env Go.Proofs.Try.func106 rfl (es := []) (fr := []) chk (fun _ _ h => lift_some h)
end spec_l1Fault
namespace spec_l6Rows
/-! loop example g00408 spec l6Rows -/
abbrev Arg : Type := (List Row) × Unit
abbrev Out : Type := Int × Unit
noncomputable def ps : List (PM × Ty) := [(.ro, (.slc tRow))]
noncomputable def rs : List (Ty × Md) := [(i64, (roMd i64))]
noncomputable def E : Env := { TI := lookN [(28, (.slc tRow))], G := lookN [(106, spec_l1Fault.sig), (107, spec_l1Before.sig)], fz := [], lv := [(4, [0, 3])], lx := [(0, [])], lf := [], od := [(9, [0, 1, 2, 3, 4, 5, 6, 7, 8, 9, 10, 11, 12])] }
noncomputable def sem (a : Arg) : Option Out := lift fun k => bodyK E k Go.Proofs.Try.f56 ps rs [] [] a
noncomputable def sig : Sig := { ps := ps, rs := rs, F := fun a => sem a }
noncomputable def C : Code := bodyOf Go.Proofs.Try.f56
noncomputable def fin : St → Option Out := outK ps rs [] (Func.results Go.Proofs.Try.f56).toList (mvs [])
noncomputable def K0 : Ex → St → Option Out := endK fin
noncomputable def S0 (rec : St → Option Out) (a1 : Arg) : (Int) → Option Out := fun v402 => rec ({ n := 34, sl := [(0, .val (.slc tRow) a1.1), (3, .val i64 v402)], vr := [], lent := [] })
noncomputable def X0_0 (K : Ex → St → Option Out) (a1 : Arg) : (Unit) → Option Out := fun z => K (.exit 0) ({ n := 34, sl := [], vr := [], lent := [] })
noncomputable def b0 (self : Int → Option Out) (e0 : (Unit) → Option Out) (a1 : Arg) (v402 : Int) : Option Out := bif decide (v402 < (a1.1.length : Int)) then (if 0 ≤ v402 then ((a1.1[v402.toNat]?).bind fun x603 => (spec_l1Fault.sem (x603, ())).bind fun r604 => bif !decide (r604.1 = (0 : Int)) then (some (r604.1, ())) else bif decide ((0 : Int) < v402) then (if 0 ≤ w64 (v402 - (1 : Int)) then ((a1.1[(w64 (v402 - (1 : Int))).toNat]?).bind fun x605 => if 0 ≤ v402 then ((a1.1[v402.toNat]?).bind fun x606 => (spec_l1Before.sem (x605, x606, ())).bind fun r607 => bif !r607.1 then (some ((1 : Int), ())) else self (w64 (v402 + (1 : Int)))) else none) else none) else self (w64 (v402 + (1 : Int)))) else none) else e0 ()
noncomputable def B0 (k : Nat) (self : Int → Option Out) (e0 : (Unit) → Option Out) (a1 : Arg) (v402 : Int) : Option Out := b0 self e0 a1 v402
theorem b0_eq (k : Nat) (rec : St → Option Out) (K : Ex → St → Option Out) (a1 : Arg) (v402 : Int) : codeK E k fin (sub [1, 1, 0, 1, 0, 0] C) ({ n := 34, sl := [(0, .val (.slc tRow) a1.1), (3, .val i64 v402)], vr := [], lent := [] }) (loopC rec (keepF [0, 3] []) K) = b0 (S0 rec a1) (X0_0 K a1) a1 v402 := by kernel_rfl
theorem B0_eq (k : Nat) (rec : St → Option Out) (K : Ex → St → Option Out) (a1 : Arg) (v402 : Int) : codeK E k fin (sub [1, 1, 0, 1, 0, 0] C) ({ n := 34, sl := [(0, .val (.slc tRow) a1.1), (3, .val i64 v402)], vr := [], lent := [] }) (loopC rec (keepF [0, 3] []) K) = B0 k (S0 rec a1) (X0_0 K a1) a1 v402 := (b0_eq k rec K a1 v402).trans (by rfl)
noncomputable def l0 (k : Nat) (a1 : Arg) (e0 : (Unit) → Option Out) (v : Int) : Option Out := rawIter (fun self v => B0 k self e0 a1 v) k v
theorem l0_eq (k : Nat) (K : Ex → St → Option Out) (a1 : Arg) (v402 : Int) : iterK (codeK E k fin (sub [1, 1, 0, 1, 0, 0] C)) (keepF [0, 3] []) K k ({ n := 34, sl := [(0, .val (.slc tRow) a1.1), (3, .val i64 v402)], vr := [], lent := [] }) = l0 k a1 (X0_0 K a1) v402 :=
  iter_raw _ _ K (fun v402 => ({ n := 34, sl := [(0, .val (.slc tRow) a1.1), (3, .val i64 v402)], vr := [], lent := [] } : St)) (fun self v => B0 k self (X0_0 K a1) a1 v) (fun rec v => B0_eq k rec K a1 v) k v402
noncomputable def q0 (a1 : Arg) (z608 : (Unit)) : Option Out := some ((0 : Int), ())
noncomputable def Q0 (k : Nat) (a1 : Arg) (z608 : (Unit)) : Option Out := q0 a1 z608
theorem q0_eq (k : Nat) (a1 : Arg) (z608 : (Unit)) : (blockC 0 (seqC (codeK E k fin (sub [1, 1, 1] C)) K0)) (.exit 0) ({ n := 34, sl := [], vr := [], lent := [] }) = q0 a1 z608 := by kernel_rfl
theorem Q0_eq (k : Nat) (a1 : Arg) (z608 : (Unit)) : (blockC 0 (seqC (codeK E k fin (sub [1, 1, 1] C)) K0)) (.exit 0) ({ n := 34, sl := [], vr := [], lent := [] }) = Q0 k a1 z608 := (q0_eq k a1 z608).trans (by rfl)
noncomputable def s0 (k : Nat) (a1 : Arg) : (Int) → Option Out := fun v402 => iterK (codeK E k fin (sub [1, 1, 0, 1, 0, 0] C)) (keepF [0, 3] []) (blockC 0 (seqC (codeK E k fin (sub [1, 1, 1] C)) K0)) k ({ n := 34, sl := [(0, .val (.slc tRow) a1.1), (3, .val i64 v402)], vr := [], lent := [] })
noncomputable def r0 (k : Nat) (a1 : Arg) : (Int) → Option Out := fun v402 => l0 k a1 (fun z => Q0 k a1 z) v402
theorem s0_eq (k : Nat) (a1 : Arg) : s0 k a1 = r0 k a1 := by
  funext v402;
  have h0 : X0_0 ((blockC 0 (seqC (codeK E k fin (sub [1, 1, 1] C)) K0))) a1 = fun z => Q0 k a1 z := funext fun z => Q0_eq k a1 z
  refine (l0_eq k ((blockC 0 (seqC (codeK E k fin (sub [1, 1, 1] C)) K0))) a1 v402).trans ?_
  rw [h0]
  rfl
noncomputable def p (l0 : (Int) → Option Out) (a1 : Arg) : Option Out := bif decide ((60 : Int) < (a1.1.length : Int)) then (some ((2 : Int), ())) else l0 (0 : Int)
noncomputable def raw (k : Nat) (a1 : Arg) : Option Out := p (r0 k a1) a1
theorem p_eq (k : Nat) (a1 : Arg) : bodyK E k Go.Proofs.Try.f56 ps rs [] [] a1 = p (s0 k a1) a1 := by kernel_rfl
theorem raw_eq (k : Nat) (a1 : Arg) : bodyK E k Go.Proofs.Try.f56 ps rs [] [] a1 = raw k a1 := (p_eq k a1).trans (by rw [s0_eq]; rfl)
theorem ent : EnterOk Go.Proofs.Try.prog 56 sig.cap := ⟨Go.Proofs.Try.f56, Go.Proofs.Try.func56, by kernel_rfl, by kernel_rfl, by kernel_rfl⟩
theorem env : EnvOk Go.Proofs.Try.prog E := env_ok (tl := [(28, (.slc tRow))]) (gl := [(106, spec_l1Fault.sig), (107, spec_l1Before.sig)]) rfl rfl (by kernel_rfl) (by kernel_rfl) (fn_cons spec_l1Fault.snd spec_l1Fault.ent (fn_cons spec_l1Before.snd spec_l1Before.ent (fn_nil _)))
theorem chk : funOk Go.Proofs.Try.prog E Go.Proofs.Try.f56 ps rs [] = true := by kernel_rfl
theorem snd : Sound Go.Proofs.Try.prog 56 sig := sound_of_body env Go.Proofs.Try.func56 rfl (es := []) (fr := []) chk (fun _ _ h => lift_some h)
end spec_l6Rows
namespace spec_l6Change
/-! loop example g00408 spec l6Change -/
abbrev Arg : Type := Change × Unit
abbrev Out : Type := Int × Unit
noncomputable def ps : List (PM × Ty) := [(.ro, (.ptr tChange))]
noncomputable def rs : List (Ty × Md) := [(i64, (roMd i64))]
noncomputable def E : Env := { TI := lookN [(2, i64), (4, .bool), (48, tRow), (50, tChange)], G := lookN [(106, spec_l1Fault.sig)], fz := [], lv := [], lx := [], lf := [], od := [(1, [0, 1, 2, 3, 4, 5, 6, 7, 8, 9, 10, 11, 12, 13, 14, 15, 16, 17, 18, 19, 20, 21, 22, 23, 24, 25, 26, 27, 28, 29, 30, 31, 32, 33, 34, 35, 36, 37, 38, 39, 40, 41, 42, 43, 44, 45, 46, 47, 48, 49])] }
noncomputable def sem (a : Arg) : Option Out := lift fun k => bodyK E k Go.Proofs.Try.f193 ps rs [] [] a
noncomputable def sig : Sig := { ps := ps, rs := rs, F := fun a => sem a }
noncomputable def C : Code := bodyOf Go.Proofs.Try.f193
noncomputable def fin : St → Option Out := outK ps rs [] (Func.results Go.Proofs.Try.f193).toList (mvs [])
noncomputable def K0 : Ex → St → Option Out := endK fin
noncomputable def p (a1 : Arg) : Option Out := let j5 : Option Out := bif a1.1.1 then ((spec_l1Fault.sem (a1.1.2.1, ())).bind fun r6 => bif !decide (r6.1 = (0 : Int)) then (some (r6.1, ())) else bif a1.1.2.2.1 then ((spec_l1Fault.sem (a1.1.2.2.2.1, ())).bind fun r8 => some (r8.1, ())) else some ((0 : Int), ())) else bif a1.1.2.2.1 then ((spec_l1Fault.sem (a1.1.2.2.2.1, ())).bind fun r9 => some (r9.1, ())) else some ((0 : Int), ()); bif !a1.1.1 then (bif !a1.1.2.2.1 then (some ((1 : Int), ())) else bif a1.1.1 then (bif a1.1.2.2.1 then (bif !decide (a1.1.2.1.1 = a1.1.2.2.2.1.1) then (some ((1 : Int), ())) else bif !decide (a1.1.2.1.2.1 = a1.1.2.2.2.1.2.1) then (some ((1 : Int), ())) else j5) else j5) else j5) else bif a1.1.1 then (bif a1.1.2.2.1 then (bif !decide (a1.1.2.1.1 = a1.1.2.2.2.1.1) then (some ((1 : Int), ())) else bif !decide (a1.1.2.1.2.1 = a1.1.2.2.2.1.2.1) then (some ((1 : Int), ())) else j5) else j5) else j5
noncomputable def raw (k : Nat) (a1 : Arg) : Option Out := p a1
theorem p_eq (k : Nat) (a1 : Arg) : bodyK E k Go.Proofs.Try.f193 ps rs [] [] a1 = p a1 := by kernel_rfl
theorem raw_eq (k : Nat) (a1 : Arg) : bodyK E k Go.Proofs.Try.f193 ps rs [] [] a1 = raw k a1 := (p_eq k a1).trans (by rfl)
theorem ent : EnterOk Go.Proofs.Try.prog 193 sig.cap := ⟨Go.Proofs.Try.f193, Go.Proofs.Try.func193, by kernel_rfl, by kernel_rfl, by kernel_rfl⟩
theorem env : EnvOk Go.Proofs.Try.prog E := env_ok (tl := [(2, i64), (4, .bool), (48, tRow), (50, tChange)]) (gl := [(106, spec_l1Fault.sig)]) rfl rfl (by kernel_rfl) (by kernel_rfl) (fn_cons spec_l1Fault.snd spec_l1Fault.ent (fn_nil _))
theorem chk : funOk Go.Proofs.Try.prog E Go.Proofs.Try.f193 ps rs [] = true := by kernel_rfl
theorem snd : Sound Go.Proofs.Try.prog 193 sig := sound_of_body env Go.Proofs.Try.func193 rfl (es := []) (fr := []) chk (fun _ _ h => lift_some h)
end spec_l6Change
namespace spec_l9Change
/-! loop example g00408 spec l9Change -/
abbrev Arg : Type := Change × Unit
abbrev Out : Type := Int × Unit
noncomputable def ps : List (PM × Ty) := [(.ro, (.ptr tChange))]
noncomputable def rs : List (Ty × Md) := [(i64, (roMd i64))]
noncomputable def E : Env := { TI := lookN [(4, .bool), (48, tRow), (50, tChange)], G := lookN [(193, spec_l6Change.sig)], fz := [], lv := [], lx := [], lf := [], od := [(4, [0, 1, 2, 3, 4, 5, 6, 7, 8, 9, 10, 11, 12, 13, 14, 15, 16, 17, 18, 19, 20])] }
noncomputable def sem (a : Arg) : Option Out := lift fun k => bodyK E k Go.Proofs.Try.f154 ps rs [] [] a
noncomputable def sig : Sig := { ps := ps, rs := rs, F := fun a => sem a }
noncomputable def C : Code := bodyOf Go.Proofs.Try.f154
noncomputable def fin : St → Option Out := outK ps rs [] (Func.results Go.Proofs.Try.f154).toList (mvs [])
noncomputable def K0 : Ex → St → Option Out := endK fin
noncomputable def p (a1 : Arg) : Option Out := (spec_l6Change.sem (a1.1, ())).bind fun r2 => bif !decide (r2.1 = (0 : Int)) then (some (r2.1, ())) else bif a1.1.1 then (bif a1.1.2.2.1 then (bif (Ty.eq tRow a1.1.2.1 a1.1.2.2.2.1) then (some ((1 : Int), ())) else some ((0 : Int), ())) else some ((0 : Int), ())) else some ((0 : Int), ())
noncomputable def raw (k : Nat) (a1 : Arg) : Option Out := p a1
theorem p_eq (k : Nat) (a1 : Arg) : bodyK E k Go.Proofs.Try.f154 ps rs [] [] a1 = p a1 := by kernel_rfl
theorem raw_eq (k : Nat) (a1 : Arg) : bodyK E k Go.Proofs.Try.f154 ps rs [] [] a1 = raw k a1 := (p_eq k a1).trans (by rfl)
theorem ent : EnterOk Go.Proofs.Try.prog 154 sig.cap := ⟨Go.Proofs.Try.f154, Go.Proofs.Try.func154, by kernel_rfl, by kernel_rfl, by kernel_rfl⟩
theorem env : EnvOk Go.Proofs.Try.prog E := env_ok (tl := [(4, .bool), (48, tRow), (50, tChange)]) (gl := [(193, spec_l6Change.sig)]) rfl rfl (by kernel_rfl) (by kernel_rfl) (fn_cons spec_l6Change.snd spec_l6Change.ent (fn_nil _))
theorem chk : funOk Go.Proofs.Try.prog E Go.Proofs.Try.f154 ps rs [] = true := by kernel_rfl
theorem snd : Sound Go.Proofs.Try.prog 154 sig := sound_of_body env Go.Proofs.Try.func154 rfl (es := []) (fr := []) chk (fun _ _ h => lift_some h)
end spec_l9Change
namespace spec_l10Locks
/-! loop example g00408 spec l10Locks -/
abbrev Arg : Type := Tx × Key × Unit
abbrev Out : Type := Bool × Unit
noncomputable def ps : List (PM × Ty) := [(.ro, (.ptr tTx)), (.ro, tKey)]
noncomputable def rs : List (Ty × Md) := [(.bool, (roMd .bool))]
noncomputable def E : Env := { TI := lookN [(97, (.slc tKey)), (99, tTx), (146, tKey)], G := lookN [], fz := [], lv := [(2, [0, 3, 5])], lx := [(0, [])], lf := [], od := [(4, [0, 1, 2, 3, 4, 5, 6, 7, 8])] }
noncomputable def sem (a : Arg) : Option Out := lift fun k => bodyK E k Go.Proofs.Try.f155 ps rs [] [] a
noncomputable def sig : Sig := { ps := ps, rs := rs, F := fun a => sem a }
noncomputable def C : Code := bodyOf Go.Proofs.Try.f155
noncomputable def fin : St → Option Out := outK ps rs [] (Func.results Go.Proofs.Try.f155).toList (mvs [])
noncomputable def K0 : Ex → St → Option Out := endK fin
noncomputable def S0 (rec : St → Option Out) (a1 : Arg) : (Int) → Option Out := fun v402 => rec ({ n := 24, sl := [(0, .cp tTx a1.1), (3, .box tKey (roMd tKey) [] a1.2.1), (5, .val i64 v402)], vr := [], lent := [] })
noncomputable def X0_0 (K : Ex → St → Option Out) (a1 : Arg) : (Unit) → Option Out := fun z => K (.exit 0) ({ n := 24, sl := [], vr := [], lent := [] })
noncomputable def b0 (self : Int → Option Out) (e0 : (Unit) → Option Out) (a1 : Arg) (v402 : Int) : Option Out := bif decide (v402 < (a1.1.2.2.2.1.length : Int)) then (if 0 ≤ v402 then ((a1.1.2.2.2.1[v402.toNat]?).bind fun x603 => bif (Ty.eq tKey x603 a1.2.1) then (some (true, ())) else self (w64 (v402 + (1 : Int)))) else none) else e0 ()
noncomputable def B0 (k : Nat) (self : Int → Option Out) (e0 : (Unit) → Option Out) (a1 : Arg) (v402 : Int) : Option Out := b0 self e0 a1 v402
theorem b0_eq (k : Nat) (rec : St → Option Out) (K : Ex → St → Option Out) (a1 : Arg) (v402 : Int) : codeK E k fin (sub [1, 0, 1, 0, 0] C) ({ n := 24, sl := [(0, .cp tTx a1.1), (3, .box tKey (roMd tKey) [] a1.2.1), (5, .val i64 v402)], vr := [], lent := [] }) (loopC rec (keepF [0, 3, 5] []) K) = b0 (S0 rec a1) (X0_0 K a1) a1 v402 := by kernel_rfl
theorem B0_eq (k : Nat) (rec : St → Option Out) (K : Ex → St → Option Out) (a1 : Arg) (v402 : Int) : codeK E k fin (sub [1, 0, 1, 0, 0] C) ({ n := 24, sl := [(0, .cp tTx a1.1), (3, .box tKey (roMd tKey) [] a1.2.1), (5, .val i64 v402)], vr := [], lent := [] }) (loopC rec (keepF [0, 3, 5] []) K) = B0 k (S0 rec a1) (X0_0 K a1) a1 v402 := (b0_eq k rec K a1 v402).trans (by rfl)
noncomputable def l0 (k : Nat) (a1 : Arg) (e0 : (Unit) → Option Out) (v : Int) : Option Out := rawIter (fun self v => B0 k self e0 a1 v) k v
theorem l0_eq (k : Nat) (K : Ex → St → Option Out) (a1 : Arg) (v402 : Int) : iterK (codeK E k fin (sub [1, 0, 1, 0, 0] C)) (keepF [0, 3, 5] []) K k ({ n := 24, sl := [(0, .cp tTx a1.1), (3, .box tKey (roMd tKey) [] a1.2.1), (5, .val i64 v402)], vr := [], lent := [] }) = l0 k a1 (X0_0 K a1) v402 :=
  iter_raw _ _ K (fun v402 => ({ n := 24, sl := [(0, .cp tTx a1.1), (3, .box tKey (roMd tKey) [] a1.2.1), (5, .val i64 v402)], vr := [], lent := [] } : St)) (fun self v => B0 k self (X0_0 K a1) a1 v) (fun rec v => B0_eq k rec K a1 v) k v402
noncomputable def q0 (a1 : Arg) (z604 : (Unit)) : Option Out := some (false, ())
noncomputable def Q0 (k : Nat) (a1 : Arg) (z604 : (Unit)) : Option Out := q0 a1 z604
theorem q0_eq (k : Nat) (a1 : Arg) (z604 : (Unit)) : (blockC 0 (seqC (codeK E k fin (sub [1, 1] C)) K0)) (.exit 0) ({ n := 24, sl := [], vr := [], lent := [] }) = q0 a1 z604 := by kernel_rfl
theorem Q0_eq (k : Nat) (a1 : Arg) (z604 : (Unit)) : (blockC 0 (seqC (codeK E k fin (sub [1, 1] C)) K0)) (.exit 0) ({ n := 24, sl := [], vr := [], lent := [] }) = Q0 k a1 z604 := (q0_eq k a1 z604).trans (by rfl)
noncomputable def s0 (k : Nat) (a1 : Arg) : (Int) → Option Out := fun v402 => iterK (codeK E k fin (sub [1, 0, 1, 0, 0] C)) (keepF [0, 3, 5] []) (blockC 0 (seqC (codeK E k fin (sub [1, 1] C)) K0)) k ({ n := 24, sl := [(0, .cp tTx a1.1), (3, .box tKey (roMd tKey) [] a1.2.1), (5, .val i64 v402)], vr := [], lent := [] })
noncomputable def r0 (k : Nat) (a1 : Arg) : (Int) → Option Out := fun v402 => l0 k a1 (fun z => Q0 k a1 z) v402
theorem s0_eq (k : Nat) (a1 : Arg) : s0 k a1 = r0 k a1 := by
  funext v402;
  have h0 : X0_0 ((blockC 0 (seqC (codeK E k fin (sub [1, 1] C)) K0))) a1 = fun z => Q0 k a1 z := funext fun z => Q0_eq k a1 z
  refine (l0_eq k ((blockC 0 (seqC (codeK E k fin (sub [1, 1] C)) K0))) a1 v402).trans ?_
  rw [h0]
  rfl
noncomputable def p (l0 : (Int) → Option Out) (a1 : Arg) : Option Out := l0 (0 : Int)
noncomputable def raw (k : Nat) (a1 : Arg) : Option Out := p (r0 k a1) a1
theorem p_eq (k : Nat) (a1 : Arg) : bodyK E k Go.Proofs.Try.f155 ps rs [] [] a1 = p (s0 k a1) a1 := by kernel_rfl
theorem raw_eq (k : Nat) (a1 : Arg) : bodyK E k Go.Proofs.Try.f155 ps rs [] [] a1 = raw k a1 := (p_eq k a1).trans (by rw [s0_eq]; rfl)
theorem ent : EnterOk Go.Proofs.Try.prog 155 sig.cap := ⟨Go.Proofs.Try.f155, Go.Proofs.Try.func155, by kernel_rfl, by kernel_rfl, by kernel_rfl⟩
theorem env : EnvOk Go.Proofs.Try.prog E := env_ok (tl := [(97, (.slc tKey)), (99, tTx), (146, tKey)]) (gl := []) rfl rfl (by kernel_rfl) (by kernel_rfl) (fn_nil _)
theorem chk : funOk Go.Proofs.Try.prog E Go.Proofs.Try.f155 ps rs [] = true := by kernel_rfl
theorem snd : Sound Go.Proofs.Try.prog 155 sig := sound_of_body env Go.Proofs.Try.func155 rfl (es := []) (fr := []) chk (fun _ _ h => lift_some h)
end spec_l10Locks
namespace spec_l10KeyOf
/-! loop example g00408 spec l10KeyOf -/
abbrev Arg : Type := Change × Unit
abbrev Out : Type := Key × Unit
noncomputable def ps : List (PM × Ty) := [(.ro, (.ptr tChange))]
noncomputable def rs : List (Ty × Md) := [(tKey, (roMd tKey))]
noncomputable def E : Env := { TI := lookN [(146, tKey)], G := lookN [(190, spec_l6Key.sig)], fz := [], lv := [], lx := [], lf := [], od := [] }
noncomputable def sem (a : Arg) : Option Out := lift fun k => bodyK E k Go.Proofs.Try.f156 ps rs [] [] a
noncomputable def sig : Sig := { ps := ps, rs := rs, F := fun a => sem a }
noncomputable def C : Code := bodyOf Go.Proofs.Try.f156
noncomputable def fin : St → Option Out := outK ps rs [] (Func.results Go.Proofs.Try.f156).toList (mvs [])
noncomputable def K0 : Ex → St → Option Out := endK fin
noncomputable def p (a1 : Arg) : Option Out := (spec_l6Key.sem (a1.1, ())).bind fun r2 => some ((r2.1, r2.2.1, ()), ())
noncomputable def raw (k : Nat) (a1 : Arg) : Option Out := p a1
theorem p_eq (k : Nat) (a1 : Arg) : bodyK E k Go.Proofs.Try.f156 ps rs [] [] a1 = p a1 := by kernel_rfl
theorem raw_eq (k : Nat) (a1 : Arg) : bodyK E k Go.Proofs.Try.f156 ps rs [] [] a1 = raw k a1 := (p_eq k a1).trans (by rfl)
theorem ent : EnterOk Go.Proofs.Try.prog 156 sig.cap := ⟨Go.Proofs.Try.f156, Go.Proofs.Try.func156, by kernel_rfl, by kernel_rfl, by kernel_rfl⟩
theorem env : EnvOk Go.Proofs.Try.prog E := env_ok (tl := [(146, tKey)]) (gl := [(190, spec_l6Key.sig)]) rfl rfl (by kernel_rfl) (by kernel_rfl) (fn_cons spec_l6Key.snd spec_l6Key.ent (fn_nil _))
theorem chk : funOk Go.Proofs.Try.prog E Go.Proofs.Try.f156 ps rs [] = true := by kernel_rfl
theorem snd : Sound Go.Proofs.Try.prog 156 sig := sound_of_body env Go.Proofs.Try.func156 rfl (es := []) (fr := []) chk (fun _ _ h => lift_some h)
end spec_l10KeyOf
namespace spec_l10Undo
/-! loop example g00408 spec l10Undo -/
abbrev Arg : Type := Tx × Unit
abbrev Out : Type := Int × Unit
noncomputable def ps : List (PM × Ty) := [(.ro, (.ptr tTx))]
noncomputable def rs : List (Ty × Md) := [(i64, (roMd i64))]
noncomputable def E : Env := { TI := lookN [(65, (.slc tChange)), (99, tTx)], G := lookN [(154, spec_l9Change.sig), (155, spec_l10Locks.sig), (156, spec_l10KeyOf.sig)], fz := [], lv := [(2, [0, 3])], lx := [(0, [])], lf := [], od := [] }
noncomputable def sem (a : Arg) : Option Out := lift fun k => bodyK E k Go.Proofs.Try.f108 ps rs [] [] a
noncomputable def sig : Sig := { ps := ps, rs := rs, F := fun a => sem a }
noncomputable def C : Code := bodyOf Go.Proofs.Try.f108
noncomputable def fin : St → Option Out := outK ps rs [] (Func.results Go.Proofs.Try.f108).toList (mvs [])
noncomputable def K0 : Ex → St → Option Out := endK fin
noncomputable def S0 (rec : St → Option Out) (a1 : Arg) : (Int) → Option Out := fun v402 => rec ({ n := 34, sl := [(0, .cp tTx a1.1), (3, .val i64 v402)], vr := [], lent := [] })
noncomputable def X0_0 (K : Ex → St → Option Out) (a1 : Arg) : (Unit) → Option Out := fun z => K (.exit 0) ({ n := 34, sl := [], vr := [], lent := [] })
noncomputable def b0 (self : Int → Option Out) (e0 : (Unit) → Option Out) (a1 : Arg) (v402 : Int) : Option Out := bif decide (v402 < (a1.1.2.1.length : Int)) then (if 0 ≤ v402 then ((a1.1.2.1[v402.toNat]?).bind fun x603 => (spec_l9Change.sem (x603, ())).bind fun r604 => bif !decide (r604.1 = (0 : Int)) then (some (r604.1, ())) else if 0 ≤ v402 then ((a1.1.2.1[v402.toNat]?).bind fun x605 => (spec_l10KeyOf.sem (x605, ())).bind fun r606 => (spec_l10Locks.sem (a1.1, r606.1, ())).bind fun r607 => bif !r607.1 then (some ((8 : Int), ())) else self (w64 (v402 + (1 : Int)))) else none) else none) else e0 ()
noncomputable def B0 (k : Nat) (self : Int → Option Out) (e0 : (Unit) → Option Out) (a1 : Arg) (v402 : Int) : Option Out := b0 self e0 a1 v402
theorem b0_eq (k : Nat) (rec : St → Option Out) (K : Ex → St → Option Out) (a1 : Arg) (v402 : Int) : codeK E k fin (sub [1, 0, 1, 0, 0] C) ({ n := 34, sl := [(0, .cp tTx a1.1), (3, .val i64 v402)], vr := [], lent := [] }) (loopC rec (keepF [0, 3] []) K) = b0 (S0 rec a1) (X0_0 K a1) a1 v402 := by kernel_rfl
theorem B0_eq (k : Nat) (rec : St → Option Out) (K : Ex → St → Option Out) (a1 : Arg) (v402 : Int) : codeK E k fin (sub [1, 0, 1, 0, 0] C) ({ n := 34, sl := [(0, .cp tTx a1.1), (3, .val i64 v402)], vr := [], lent := [] }) (loopC rec (keepF [0, 3] []) K) = B0 k (S0 rec a1) (X0_0 K a1) a1 v402 := (b0_eq k rec K a1 v402).trans (by rfl)
noncomputable def l0 (k : Nat) (a1 : Arg) (e0 : (Unit) → Option Out) (v : Int) : Option Out := rawIter (fun self v => B0 k self e0 a1 v) k v
theorem l0_eq (k : Nat) (K : Ex → St → Option Out) (a1 : Arg) (v402 : Int) : iterK (codeK E k fin (sub [1, 0, 1, 0, 0] C)) (keepF [0, 3] []) K k ({ n := 34, sl := [(0, .cp tTx a1.1), (3, .val i64 v402)], vr := [], lent := [] }) = l0 k a1 (X0_0 K a1) v402 :=
  iter_raw _ _ K (fun v402 => ({ n := 34, sl := [(0, .cp tTx a1.1), (3, .val i64 v402)], vr := [], lent := [] } : St)) (fun self v => B0 k self (X0_0 K a1) a1 v) (fun rec v => B0_eq k rec K a1 v) k v402
noncomputable def q0 (a1 : Arg) (z608 : (Unit)) : Option Out := some ((0 : Int), ())
noncomputable def Q0 (k : Nat) (a1 : Arg) (z608 : (Unit)) : Option Out := q0 a1 z608
theorem q0_eq (k : Nat) (a1 : Arg) (z608 : (Unit)) : (blockC 0 (seqC (codeK E k fin (sub [1, 1] C)) K0)) (.exit 0) ({ n := 34, sl := [], vr := [], lent := [] }) = q0 a1 z608 := by kernel_rfl
theorem Q0_eq (k : Nat) (a1 : Arg) (z608 : (Unit)) : (blockC 0 (seqC (codeK E k fin (sub [1, 1] C)) K0)) (.exit 0) ({ n := 34, sl := [], vr := [], lent := [] }) = Q0 k a1 z608 := (q0_eq k a1 z608).trans (by rfl)
noncomputable def s0 (k : Nat) (a1 : Arg) : (Int) → Option Out := fun v402 => iterK (codeK E k fin (sub [1, 0, 1, 0, 0] C)) (keepF [0, 3] []) (blockC 0 (seqC (codeK E k fin (sub [1, 1] C)) K0)) k ({ n := 34, sl := [(0, .cp tTx a1.1), (3, .val i64 v402)], vr := [], lent := [] })
noncomputable def r0 (k : Nat) (a1 : Arg) : (Int) → Option Out := fun v402 => l0 k a1 (fun z => Q0 k a1 z) v402
theorem s0_eq (k : Nat) (a1 : Arg) : s0 k a1 = r0 k a1 := by
  funext v402;
  have h0 : X0_0 ((blockC 0 (seqC (codeK E k fin (sub [1, 1] C)) K0))) a1 = fun z => Q0 k a1 z := funext fun z => Q0_eq k a1 z
  refine (l0_eq k ((blockC 0 (seqC (codeK E k fin (sub [1, 1] C)) K0))) a1 v402).trans ?_
  rw [h0]
  rfl
noncomputable def p (l0 : (Int) → Option Out) (a1 : Arg) : Option Out := l0 (0 : Int)
noncomputable def raw (k : Nat) (a1 : Arg) : Option Out := p (r0 k a1) a1
theorem p_eq (k : Nat) (a1 : Arg) : bodyK E k Go.Proofs.Try.f108 ps rs [] [] a1 = p (s0 k a1) a1 := by kernel_rfl
theorem raw_eq (k : Nat) (a1 : Arg) : bodyK E k Go.Proofs.Try.f108 ps rs [] [] a1 = raw k a1 := (p_eq k a1).trans (by rw [s0_eq]; rfl)
theorem ent : EnterOk Go.Proofs.Try.prog 108 sig.cap := ⟨Go.Proofs.Try.f108, Go.Proofs.Try.func108, by kernel_rfl, by kernel_rfl, by kernel_rfl⟩
theorem env : EnvOk Go.Proofs.Try.prog E := env_ok (tl := [(65, (.slc tChange)), (99, tTx)]) (gl := [(154, spec_l9Change.sig), (155, spec_l10Locks.sig), (156, spec_l10KeyOf.sig)]) rfl rfl (by kernel_rfl) (by kernel_rfl) (fn_cons spec_l9Change.snd spec_l9Change.ent (fn_cons spec_l10Locks.snd spec_l10Locks.ent (fn_cons spec_l10KeyOf.snd spec_l10KeyOf.ent (fn_nil _))))
theorem chk : funOk Go.Proofs.Try.prog E Go.Proofs.Try.f108 ps rs [] = true := by kernel_rfl
theorem snd : Sound Go.Proofs.Try.prog 108 sig := sound_of_body env Go.Proofs.Try.func108 rfl (es := []) (fr := []) chk (fun _ _ h => lift_some h)
end spec_l10Undo
namespace spec_l10Key
/-! loop example g00408 spec l10Key -/
abbrev Arg : Type := Key × Unit
abbrev Out : Type := Bool × Unit
noncomputable def ps : List (PM × Ty) := [(.ro, (.ptr tKey))]
noncomputable def rs : List (Ty × Md) := [(.bool, (roMd .bool))]
noncomputable def E : Env := { TI := lookN [(2, i64), (146, tKey)], G := lookN [(88, spec_l1In.sig)], fz := [], lv := [], lx := [], lf := [], od := [] }
noncomputable def sem (a : Arg) : Option Out := lift fun k => bodyK E k Go.Proofs.Try.f157 ps rs [] [] a
noncomputable def sig : Sig := { ps := ps, rs := rs, F := fun a => sem a }
noncomputable def C : Code := bodyOf Go.Proofs.Try.f157
noncomputable def fin : St → Option Out := outK ps rs [] (Func.results Go.Proofs.Try.f157).toList (mvs [])
noncomputable def K0 : Ex → St → Option Out := endK fin
noncomputable def p (a1 : Arg) : Option Out := (spec_l1In.sem (a1.1.1, (0 : Int), (3 : Int), ())).bind fun r2 => bif r2.1 then ((spec_l1In.sem (a1.1.2.1, (1 : Int), (99 : Int), ())).bind fun r3 => some (r3.1, ())) else some (false, ())
noncomputable def raw (k : Nat) (a1 : Arg) : Option Out := p a1
theorem p_eq (k : Nat) (a1 : Arg) : bodyK E k Go.Proofs.Try.f157 ps rs [] [] a1 = p a1 := by kernel_rfl
theorem raw_eq (k : Nat) (a1 : Arg) : bodyK E k Go.Proofs.Try.f157 ps rs [] [] a1 = raw k a1 := (p_eq k a1).trans (by rfl)
theorem ent : EnterOk Go.Proofs.Try.prog 157 sig.cap := ⟨Go.Proofs.Try.f157, Go.Proofs.Try.func157, by kernel_rfl, by kernel_rfl, by kernel_rfl⟩
theorem env : EnvOk Go.Proofs.Try.prog E := env_ok (tl := [(2, i64), (146, tKey)]) (gl := [(88, spec_l1In.sig)]) rfl rfl (by kernel_rfl) (by kernel_rfl) (fn_cons spec_l1In.snd spec_l1In.ent (fn_nil _))
theorem chk : funOk Go.Proofs.Try.prog E Go.Proofs.Try.f157 ps rs [] = true := by kernel_rfl
theorem snd : Sound Go.Proofs.Try.prog 157 sig := sound_of_body env Go.Proofs.Try.func157 rfl (es := []) (fr := []) chk (fun _ _ h => lift_some h)
end spec_l10Key
namespace spec_l10Marks
/-! loop example g00408 spec l10Marks -/
abbrev Arg : Type := Tx × Unit
abbrev Out : Type := Int × Unit
noncomputable def ps : List (PM × Ty) := [(.ro, (.ptr tTx))]
noncomputable def rs : List (Ty × Md) := [(i64, (roMd i64))]
noncomputable def E : Env := { TI := lookN [(2, i64), (65, (.slc tChange)), (96, (.slc i64)), (97, (.slc tKey)), (99, tTx), (146, tKey)], G := lookN [(88, spec_l1In.sig), (157, spec_l10Key.sig)], fz := [], lv := [(4, [0, 3]), (9, [0, 4]), (14, [0, 4, 5])], lx := [(0, [0]), (2, []), (4, [0, 4])], lf := [], od := [(6, [0, 1, 2, 3, 4, 5, 6, 7, 8, 9, 10, 11, 12, 13, 14, 15, 16, 17, 18, 19, 20, 21, 22, 23, 24, 25, 26, 27, 28, 29, 30, 31, 32, 33, 34, 35]), (16, [0, 1, 2, 3, 4, 5, 6, 7, 8, 9, 10, 11, 12, 13, 14])], ar := [(6, [3, 6, 10, 21, 24, 28, 32])] }
noncomputable def sem (a : Arg) : Option Out := lift fun k => bodyK E k Go.Proofs.Try.f109 ps rs [] [] a
noncomputable def sig : Sig := { ps := ps, rs := rs, F := fun a => sem a }
noncomputable def C : Code := bodyOf Go.Proofs.Try.f109
noncomputable def fin : St → Option Out := outK ps rs [] (Func.results Go.Proofs.Try.f109).toList (mvs [])
noncomputable def K0 : Ex → St → Option Out := endK fin
noncomputable def S0 (rec : St → Option Out) (a1 : Arg) : (Int) → Option Out := fun v402 => rec ({ n := 102, sl := [(0, .cp tTx a1.1), (3, .val i64 v402)], vr := [], lent := [] })
noncomputable def X0_0 (K : Ex → St → Option Out) (a1 : Arg) : (Unit) → Option Out := fun z => K (.exit 0) ({ n := 102, sl := [(0, .cp tTx a1.1)], vr := [], lent := [] })
noncomputable def b0 (self : Int → Option Out) (e0 : (Unit) → Option Out) (a1 : Arg) (v402 : Int) : Option Out := bif decide (v402 < (a1.1.2.2.1.length : Int)) then (if 0 ≤ v402 then ((a1.1.2.2.1[v402.toNat]?).bind fun x603 => (spec_l1In.sem (x603, (0 : Int), (a1.1.2.1.length : Int), ())).bind fun r604 => bif !r604.1 then (some ((3 : Int), ())) else bif decide ((0 : Int) < v402) then (if 0 ≤ v402 then ((a1.1.2.2.1[v402.toNat]?).bind fun x605 => if 0 ≤ w64 (v402 - (1 : Int)) then ((a1.1.2.2.1[(w64 (v402 - (1 : Int))).toNat]?).bind fun x606 => bif decide (x605 < x606) then (some ((3 : Int), ())) else self (w64 (v402 + (1 : Int)))) else none) else none) else self (w64 (v402 + (1 : Int)))) else none) else e0 ()
noncomputable def B0 (k : Nat) (self : Int → Option Out) (e0 : (Unit) → Option Out) (a1 : Arg) (v402 : Int) : Option Out := b0 self e0 a1 v402
theorem b0_eq (k : Nat) (rec : St → Option Out) (K : Ex → St → Option Out) (a1 : Arg) (v402 : Int) : codeK E k fin (sub [1, 1, 0, 1, 0, 0] C) ({ n := 102, sl := [(0, .cp tTx a1.1), (3, .val i64 v402)], vr := [], lent := [] }) (loopC rec (keepF [0, 3] []) K) = b0 (S0 rec a1) (X0_0 K a1) a1 v402 := by kernel_rfl
theorem B0_eq (k : Nat) (rec : St → Option Out) (K : Ex → St → Option Out) (a1 : Arg) (v402 : Int) : codeK E k fin (sub [1, 1, 0, 1, 0, 0] C) ({ n := 102, sl := [(0, .cp tTx a1.1), (3, .val i64 v402)], vr := [], lent := [] }) (loopC rec (keepF [0, 3] []) K) = B0 k (S0 rec a1) (X0_0 K a1) a1 v402 := (b0_eq k rec K a1 v402).trans (by rfl)
noncomputable def l0 (k : Nat) (a1 : Arg) (e0 : (Unit) → Option Out) (v : Int) : Option Out := rawIter (fun self v => B0 k self e0 a1 v) k v
theorem l0_eq (k : Nat) (K : Ex → St → Option Out) (a1 : Arg) (v402 : Int) : iterK (codeK E k fin (sub [1, 1, 0, 1, 0, 0] C)) (keepF [0, 3] []) K k ({ n := 102, sl := [(0, .cp tTx a1.1), (3, .val i64 v402)], vr := [], lent := [] }) = l0 k a1 (X0_0 K a1) v402 :=
  iter_raw _ _ K (fun v402 => ({ n := 102, sl := [(0, .cp tTx a1.1), (3, .val i64 v402)], vr := [], lent := [] } : St)) (fun self v => B0 k self (X0_0 K a1) a1 v) (fun rec v => B0_eq k rec K a1 v) k v402
noncomputable def S1 (rec : St → Option Out) (a1 : Arg) : (Tx × Int) → Option Out := fun v1008 => rec ({ n := 102, sl := [(0, .cp tTx v1008.1), (4, .val i64 v1008.2)], vr := [], lent := [] })
noncomputable def X1_2 (K : Ex → St → Option Out) (a1 : Arg) : (Unit) → Option Out := fun z => K (.exit 2) ({ n := 102, sl := [], vr := [], lent := [] })
noncomputable def S2 (rec : St → Option Out) (a1 : Arg) (c1612 : Tx) (c1613 : Int) : (Int) → Option Out := fun v1611 => rec ({ n := 102, sl := [(0, .cp tTx c1612), (4, .val i64 c1613), (5, .val i64 v1611)], vr := [], lent := [] })
noncomputable def X2_4 (K : Ex → St → Option Out) (a1 : Arg) (c1612 : Tx) (c1613 : Int) : (Unit) → Option Out := fun z => K (.exit 4) ({ n := 102, sl := [(0, .cp tTx c1612), (4, .val i64 c1613)], vr := [], lent := [] })
noncomputable def b2 (self : Int → Option Out) (e4 : (Unit) → Option Out) (a1 : Arg) (c1612 : Tx) (c1613 : Int) (v1611 : Int) : Option Out := bif decide (v1611 < c1613) then (if 0 ≤ v1611 then ((c1612.2.2.2.1[v1611.toNat]?).bind fun x1814 => if 0 ≤ c1613 then ((c1612.2.2.2.1[c1613.toNat]?).bind fun x1815 => bif (Ty.eq tKey x1814 x1815) then (some ((6 : Int), ())) else self (w64 (v1611 + (1 : Int)))) else none) else none) else e4 ()
noncomputable def B2 (k : Nat) (self : Int → Option Out) (e4 : (Unit) → Option Out) (a1 : Arg) (c1612 : Tx) (c1613 : Int) (v1611 : Int) : Option Out := b2 self e4 a1 c1612 c1613 v1611
theorem b2_eq (k : Nat) (rec : St → Option Out) (K : Ex → St → Option Out) (a1 : Arg) (c1612 : Tx) (c1613 : Int) (v1611 : Int) : codeK E k fin (sub [1, 1, 1, 0, 1, 0, 0, 1, 0, 0, 1, 1, 0, 0] C) ({ n := 102, sl := [(0, .cp tTx c1612), (4, .val i64 c1613), (5, .val i64 v1611)], vr := [], lent := [] }) (loopC rec (keepF [0, 4, 5] []) K) = b2 (S2 rec a1 c1612 c1613) (X2_4 K a1 c1612 c1613) a1 c1612 c1613 v1611 := by kernel_rfl
theorem B2_eq (k : Nat) (rec : St → Option Out) (K : Ex → St → Option Out) (a1 : Arg) (c1612 : Tx) (c1613 : Int) (v1611 : Int) : codeK E k fin (sub [1, 1, 1, 0, 1, 0, 0, 1, 0, 0, 1, 1, 0, 0] C) ({ n := 102, sl := [(0, .cp tTx c1612), (4, .val i64 c1613), (5, .val i64 v1611)], vr := [], lent := [] }) (loopC rec (keepF [0, 4, 5] []) K) = B2 k (S2 rec a1 c1612 c1613) (X2_4 K a1 c1612 c1613) a1 c1612 c1613 v1611 := (b2_eq k rec K a1 c1612 c1613 v1611).trans (by rfl)
noncomputable def l2 (k : Nat) (a1 : Arg) (c1612 : Tx) (c1613 : Int) (e4 : (Unit) → Option Out) (v : Int) : Option Out := rawIter (fun self v => B2 k self e4 a1 c1612 c1613 v) k v
theorem l2_eq (k : Nat) (K : Ex → St → Option Out) (a1 : Arg) (c1612 : Tx) (c1613 : Int) (v1611 : Int) : iterK (codeK E k fin (sub [1, 1, 1, 0, 1, 0, 0, 1, 0, 0, 1, 1, 0, 0] C)) (keepF [0, 4, 5] []) K k ({ n := 102, sl := [(0, .cp tTx c1612), (4, .val i64 c1613), (5, .val i64 v1611)], vr := [], lent := [] }) = l2 k a1 c1612 c1613 (X2_4 K a1 c1612 c1613) v1611 :=
  iter_raw _ _ K (fun v1611 => ({ n := 102, sl := [(0, .cp tTx c1612), (4, .val i64 c1613), (5, .val i64 v1611)], vr := [], lent := [] } : St)) (fun self v => B2 k self (X2_4 K a1 c1612 c1613) a1 c1612 c1613 v) (fun rec v => B2_eq k rec K a1 c1612 c1613 v) k v1611
noncomputable def q1 (self : (Tx × Int) → Option Out) (e2 : (Unit) → Option Out) (a1 : Arg) (c1612 : Tx) (c1613 : Int) (z1816 : (Unit)) : Option Out := self (c1612, w64 (c1613 + (1 : Int)))
noncomputable def Q1 (k : Nat) (self : (Tx × Int) → Option Out) (e2 : (Unit) → Option Out) (a1 : Arg) (c1612 : Tx) (c1613 : Int) (z1816 : (Unit)) : Option Out := q1 self e2 a1 c1612 c1613 z1816
theorem q1_eq (k : Nat) (rec : St → Option Out) (K : Ex → St → Option Out) (a1 : Arg) (c1612 : Tx) (c1613 : Int) (z1816 : (Unit)) : (blockC 4 (blockC 3 (seqC (codeK E k fin (sub [1, 1, 1, 0, 1, 0, 0, 1, 1] C)) (loopC rec (keepF [0, 4] []) K)))) (.exit 4) ({ n := 102, sl := [(0, .cp tTx c1612), (4, .val i64 c1613)], vr := [], lent := [] }) = q1 (S1 rec a1) (X1_2 K a1) a1 c1612 c1613 z1816 := by kernel_rfl
theorem Q1_eq (k : Nat) (rec : St → Option Out) (K : Ex → St → Option Out) (a1 : Arg) (c1612 : Tx) (c1613 : Int) (z1816 : (Unit)) : (blockC 4 (blockC 3 (seqC (codeK E k fin (sub [1, 1, 1, 0, 1, 0, 0, 1, 1] C)) (loopC rec (keepF [0, 4] []) K)))) (.exit 4) ({ n := 102, sl := [(0, .cp tTx c1612), (4, .val i64 c1613)], vr := [], lent := [] }) = Q1 k (S1 rec a1) (X1_2 K a1) a1 c1612 c1613 z1816 := (q1_eq k rec K a1 c1612 c1613 z1816).trans (by rfl)
noncomputable def s2 (k : Nat) (rec : St → Option Out) (K : Ex → St → Option Out) (a1 : Arg) : Tx → Int → (Int) → Option Out := fun c1612 c1613 v1611 => iterK (codeK E k fin (sub [1, 1, 1, 0, 1, 0, 0, 1, 0, 0, 1, 1, 0, 0] C)) (keepF [0, 4, 5] []) (blockC 4 (blockC 3 (seqC (codeK E k fin (sub [1, 1, 1, 0, 1, 0, 0, 1, 1] C)) (loopC rec (keepF [0, 4] []) K)))) k ({ n := 102, sl := [(0, .cp tTx c1612), (4, .val i64 c1613), (5, .val i64 v1611)], vr := [], lent := [] })
noncomputable def r2 (k : Nat) (self : (Tx × Int) → Option Out) (e2 : (Unit) → Option Out) (a1 : Arg) : Tx → Int → (Int) → Option Out := fun c1612 c1613 v1611 => l2 k a1 c1612 c1613 (fun z => Q1 k self e2 a1 c1612 c1613 z) v1611
theorem s2_eq (k : Nat) (rec : St → Option Out) (K : Ex → St → Option Out) (a1 : Arg) : s2 k rec K a1 = r2 k (S1 rec a1) (X1_2 K a1) a1 := by
  funext c1612; funext c1613; funext v1611;
  have h4 : X2_4 ((blockC 4 (blockC 3 (seqC (codeK E k fin (sub [1, 1, 1, 0, 1, 0, 0, 1, 1] C)) (loopC rec (keepF [0, 4] []) K))))) a1 c1612 c1613 = fun z => Q1 k (S1 rec a1) (X1_2 K a1) a1 c1612 c1613 z := funext fun z => Q1_eq k rec K a1 c1612 c1613 z
  refine (l2_eq k ((blockC 4 (blockC 3 (seqC (codeK E k fin (sub [1, 1, 1, 0, 1, 0, 0, 1, 1] C)) (loopC rec (keepF [0, 4] []) K))))) a1 c1612 c1613 v1611).trans ?_
  rw [h4]
  rfl
noncomputable def b1 (self : (Tx × Int) → Option Out) (e2 : (Unit) → Option Out) (l2 : Tx → Int → (Int) → Option Out) (a1 : Arg) (v1008 : Tx × Int) : Option Out := bif decide (v1008.2 < (v1008.1.2.2.2.1.length : Int)) then (if 0 ≤ v1008.2 then ((v1008.1.2.2.2.1[v1008.2.toNat]?).bind fun x1209 => (spec_l10Key.sem (x1209, ())).bind fun r1210 => bif !r1210.1 then (some ((3 : Int), ())) else l2 v1008.1 v1008.2 (0 : Int)) else none) else e2 ()
noncomputable def B1 (k : Nat) (self : (Tx × Int) → Option Out) (e2 : (Unit) → Option Out) (a1 : Arg) (v1008 : Tx × Int) : Option Out := b1 self e2 (r2 k self e2 a1) a1 v1008
theorem b1_eq (k : Nat) (rec : St → Option Out) (K : Ex → St → Option Out) (a1 : Arg) (v1008 : Tx × Int) : codeK E k fin (sub [1, 1, 1, 0, 1, 0, 0] C) ({ n := 102, sl := [(0, .cp tTx v1008.1), (4, .val i64 v1008.2)], vr := [], lent := [] }) (loopC rec (keepF [0, 4] []) K) = b1 (S1 rec a1) (X1_2 K a1) (s2 k rec K a1) a1 v1008 := by kernel_rfl
theorem B1_eq (k : Nat) (rec : St → Option Out) (K : Ex → St → Option Out) (a1 : Arg) (v1008 : Tx × Int) : codeK E k fin (sub [1, 1, 1, 0, 1, 0, 0] C) ({ n := 102, sl := [(0, .cp tTx v1008.1), (4, .val i64 v1008.2)], vr := [], lent := [] }) (loopC rec (keepF [0, 4] []) K) = B1 k (S1 rec a1) (X1_2 K a1) a1 v1008 := (b1_eq k rec K a1 v1008).trans (by rw [s2_eq]; rfl)
noncomputable def l1 (k : Nat) (a1 : Arg) (e2 : (Unit) → Option Out) (v : Tx × Int) : Option Out := rawIter (fun self v => B1 k self e2 a1 v) k v
theorem l1_eq (k : Nat) (K : Ex → St → Option Out) (a1 : Arg) (v1008 : Tx × Int) : iterK (codeK E k fin (sub [1, 1, 1, 0, 1, 0, 0] C)) (keepF [0, 4] []) K k ({ n := 102, sl := [(0, .cp tTx v1008.1), (4, .val i64 v1008.2)], vr := [], lent := [] }) = l1 k a1 (X1_2 K a1) v1008 :=
  iter_raw _ _ K (fun v1008 => ({ n := 102, sl := [(0, .cp tTx v1008.1), (4, .val i64 v1008.2)], vr := [], lent := [] } : St)) (fun self v => B1 k self (X1_2 K a1) a1 v) (fun rec v => B1_eq k rec K a1 v) k v1008
noncomputable def q2 (a1 : Arg) (z1817 : (Unit)) : Option Out := some ((0 : Int), ())
noncomputable def Q2 (k : Nat) (a1 : Arg) (z1817 : (Unit)) : Option Out := q2 a1 z1817
theorem q2_eq (k : Nat) (a1 : Arg) (z1817 : (Unit)) : (blockC 2 (seqC (codeK E k fin (sub [1, 1, 1, 1] C)) K0)) (.exit 2) ({ n := 102, sl := [], vr := [], lent := [] }) = q2 a1 z1817 := by kernel_rfl
theorem Q2_eq (k : Nat) (a1 : Arg) (z1817 : (Unit)) : (blockC 2 (seqC (codeK E k fin (sub [1, 1, 1, 1] C)) K0)) (.exit 2) ({ n := 102, sl := [], vr := [], lent := [] }) = Q2 k a1 z1817 := (q2_eq k a1 z1817).trans (by rfl)
noncomputable def s1 (k : Nat) (a1 : Arg) : (Tx × Int) → Option Out := fun v1008 => iterK (codeK E k fin (sub [1, 1, 1, 0, 1, 0, 0] C)) (keepF [0, 4] []) (blockC 2 (seqC (codeK E k fin (sub [1, 1, 1, 1] C)) K0)) k ({ n := 102, sl := [(0, .cp tTx v1008.1), (4, .val i64 v1008.2)], vr := [], lent := [] })
noncomputable def r1 (k : Nat) (a1 : Arg) : (Tx × Int) → Option Out := fun v1008 => l1 k a1 (fun z => Q2 k a1 z) v1008
theorem s1_eq (k : Nat) (a1 : Arg) : s1 k a1 = r1 k a1 := by
  funext v1008;
  have h2 : X1_2 ((blockC 2 (seqC (codeK E k fin (sub [1, 1, 1, 1] C)) K0))) a1 = fun z => Q2 k a1 z := funext fun z => Q2_eq k a1 z
  refine (l1_eq k ((blockC 2 (seqC (codeK E k fin (sub [1, 1, 1, 1] C)) K0))) a1 v1008).trans ?_
  rw [h2]
  rfl
noncomputable def q0 (l1 : (Tx × Int) → Option Out) (a1 : Arg) (z607 : (Unit)) : Option Out := l1 (a1.1, (0 : Int))
noncomputable def Q0 (k : Nat) (a1 : Arg) (z607 : (Unit)) : Option Out := q0 (r1 k a1) a1 z607
theorem q0_eq (k : Nat) (a1 : Arg) (z607 : (Unit)) : (blockC 0 (seqC (codeK E k fin (sub [1, 1, 1] C)) K0)) (.exit 0) ({ n := 102, sl := [(0, .cp tTx a1.1)], vr := [], lent := [] }) = q0 (s1 k a1) a1 z607 := by kernel_rfl
theorem Q0_eq (k : Nat) (a1 : Arg) (z607 : (Unit)) : (blockC 0 (seqC (codeK E k fin (sub [1, 1, 1] C)) K0)) (.exit 0) ({ n := 102, sl := [(0, .cp tTx a1.1)], vr := [], lent := [] }) = Q0 k a1 z607 := (q0_eq k a1 z607).trans (by rw [s1_eq]; rfl)
noncomputable def s0 (k : Nat) (a1 : Arg) : (Int) → Option Out := fun v402 => iterK (codeK E k fin (sub [1, 1, 0, 1, 0, 0] C)) (keepF [0, 3] []) (blockC 0 (seqC (codeK E k fin (sub [1, 1, 1] C)) K0)) k ({ n := 102, sl := [(0, .cp tTx a1.1), (3, .val i64 v402)], vr := [], lent := [] })
noncomputable def r0 (k : Nat) (a1 : Arg) : (Int) → Option Out := fun v402 => l0 k a1 (fun z => Q0 k a1 z) v402
theorem s0_eq (k : Nat) (a1 : Arg) : s0 k a1 = r0 k a1 := by
  funext v402;
  have h0 : X0_0 ((blockC 0 (seqC (codeK E k fin (sub [1, 1, 1] C)) K0))) a1 = fun z => Q0 k a1 z := funext fun z => Q0_eq k a1 z
  refine (l0_eq k ((blockC 0 (seqC (codeK E k fin (sub [1, 1, 1] C)) K0))) a1 v402).trans ?_
  rw [h0]
  rfl
noncomputable def p (l0 : (Int) → Option Out) (a1 : Arg) : Option Out := bif decide ((8 : Int) < (a1.1.2.2.1.length : Int)) then (some ((2 : Int), ())) else bif decide ((12 : Int) < (a1.1.2.2.2.1.length : Int)) then (some ((2 : Int), ())) else l0 (0 : Int)
noncomputable def raw (k : Nat) (a1 : Arg) : Option Out := p (r0 k a1) a1
theorem p_eq (k : Nat) (a1 : Arg) : bodyK E k Go.Proofs.Try.f109 ps rs [] [] a1 = p (s0 k a1) a1 := by kernel_rfl
theorem raw_eq (k : Nat) (a1 : Arg) : bodyK E k Go.Proofs.Try.f109 ps rs [] [] a1 = raw k a1 := (p_eq k a1).trans (by rw [s0_eq]; rfl)
theorem ent : EnterOk Go.Proofs.Try.prog 109 sig.cap := ⟨Go.Proofs.Try.f109, Go.Proofs.Try.func109, by kernel_rfl, by kernel_rfl, by kernel_rfl⟩
theorem env : EnvOk Go.Proofs.Try.prog E := env_ok (tl := [(2, i64), (65, (.slc tChange)), (96, (.slc i64)), (97, (.slc tKey)), (99, tTx), (146, tKey)]) (gl := [(88, spec_l1In.sig), (157, spec_l10Key.sig)]) rfl rfl (by kernel_rfl) (by kernel_rfl) (fn_cons spec_l1In.snd spec_l1In.ent (fn_cons spec_l10Key.snd spec_l10Key.ent (fn_nil _)))
theorem chk : funOk Go.Proofs.Try.prog E Go.Proofs.Try.f109 ps rs [] = true := by kernel_rfl
theorem snd : Sound Go.Proofs.Try.prog 109 sig := sound_of_body env Go.Proofs.Try.func109 rfl (es := []) (fr := []) chk (fun _ _ h => lift_some h)
end spec_l10Marks
namespace spec_l10Lock
/-! loop example g00408 spec l10Lock -/
abbrev Arg : Type := (List Tx) × Key × Unit
abbrev Out : Type := Int × Unit
noncomputable def ps : List (PM × Ty) := [(.ro, (.slc tTx)), (.ro, tKey)]
noncomputable def rs : List (Ty × Md) := [(i64, (roMd i64))]
noncomputable def E : Env := { TI := lookN [(2, i64), (29, (.slc tTx)), (99, tTx), (146, tKey)], G := lookN [(155, spec_l10Locks.sig)], fz := [], lv := [(2, [0, 3, 5])], lx := [(0, [])], lf := [], od := [(4, [0, 1, 2, 3, 4])] }
noncomputable def sem (a : Arg) : Option Out := lift fun k => bodyK E k Go.Proofs.Try.f158 ps rs [] [] a
noncomputable def sig : Sig := { ps := ps, rs := rs, F := fun a => sem a }
noncomputable def C : Code := bodyOf Go.Proofs.Try.f158
noncomputable def fin : St → Option Out := outK ps rs [] (Func.results Go.Proofs.Try.f158).toList (mvs [])
noncomputable def K0 : Ex → St → Option Out := endK fin
noncomputable def S0 (rec : St → Option Out) (a1 : Arg) : (Int) → Option Out := fun v402 => rec ({ n := 22, sl := [(0, .val (.slc tTx) a1.1), (3, .box tKey (roMd tKey) [] a1.2.1), (5, .val i64 v402)], vr := [], lent := [] })
noncomputable def X0_0 (K : Ex → St → Option Out) (a1 : Arg) : (Unit) → Option Out := fun z => K (.exit 0) ({ n := 22, sl := [], vr := [], lent := [] })
noncomputable def b0 (self : Int → Option Out) (e0 : (Unit) → Option Out) (a1 : Arg) (v402 : Int) : Option Out := bif decide (v402 < (a1.1.length : Int)) then (if 0 ≤ v402 then ((a1.1[v402.toNat]?).bind fun x603 => (spec_l10Locks.sem (x603, a1.2.1, ())).bind fun r604 => bif r604.1 then (if 0 ≤ v402 then ((a1.1[v402.toNat]?).bind fun x605 => some (x605.1, ())) else none) else self (w64 (v402 + (1 : Int)))) else none) else e0 ()
noncomputable def B0 (k : Nat) (self : Int → Option Out) (e0 : (Unit) → Option Out) (a1 : Arg) (v402 : Int) : Option Out := b0 self e0 a1 v402
theorem b0_eq (k : Nat) (rec : St → Option Out) (K : Ex → St → Option Out) (a1 : Arg) (v402 : Int) : codeK E k fin (sub [1, 0, 1, 0, 0] C) ({ n := 22, sl := [(0, .val (.slc tTx) a1.1), (3, .box tKey (roMd tKey) [] a1.2.1), (5, .val i64 v402)], vr := [], lent := [] }) (loopC rec (keepF [0, 3, 5] []) K) = b0 (S0 rec a1) (X0_0 K a1) a1 v402 := by kernel_rfl
theorem B0_eq (k : Nat) (rec : St → Option Out) (K : Ex → St → Option Out) (a1 : Arg) (v402 : Int) : codeK E k fin (sub [1, 0, 1, 0, 0] C) ({ n := 22, sl := [(0, .val (.slc tTx) a1.1), (3, .box tKey (roMd tKey) [] a1.2.1), (5, .val i64 v402)], vr := [], lent := [] }) (loopC rec (keepF [0, 3, 5] []) K) = B0 k (S0 rec a1) (X0_0 K a1) a1 v402 := (b0_eq k rec K a1 v402).trans (by rfl)
noncomputable def l0 (k : Nat) (a1 : Arg) (e0 : (Unit) → Option Out) (v : Int) : Option Out := rawIter (fun self v => B0 k self e0 a1 v) k v
theorem l0_eq (k : Nat) (K : Ex → St → Option Out) (a1 : Arg) (v402 : Int) : iterK (codeK E k fin (sub [1, 0, 1, 0, 0] C)) (keepF [0, 3, 5] []) K k ({ n := 22, sl := [(0, .val (.slc tTx) a1.1), (3, .box tKey (roMd tKey) [] a1.2.1), (5, .val i64 v402)], vr := [], lent := [] }) = l0 k a1 (X0_0 K a1) v402 :=
  iter_raw _ _ K (fun v402 => ({ n := 22, sl := [(0, .val (.slc tTx) a1.1), (3, .box tKey (roMd tKey) [] a1.2.1), (5, .val i64 v402)], vr := [], lent := [] } : St)) (fun self v => B0 k self (X0_0 K a1) a1 v) (fun rec v => B0_eq k rec K a1 v) k v402
noncomputable def q0 (a1 : Arg) (z606 : (Unit)) : Option Out := some ((0 : Int), ())
noncomputable def Q0 (k : Nat) (a1 : Arg) (z606 : (Unit)) : Option Out := q0 a1 z606
theorem q0_eq (k : Nat) (a1 : Arg) (z606 : (Unit)) : (blockC 0 (seqC (codeK E k fin (sub [1, 1] C)) K0)) (.exit 0) ({ n := 22, sl := [], vr := [], lent := [] }) = q0 a1 z606 := by kernel_rfl
theorem Q0_eq (k : Nat) (a1 : Arg) (z606 : (Unit)) : (blockC 0 (seqC (codeK E k fin (sub [1, 1] C)) K0)) (.exit 0) ({ n := 22, sl := [], vr := [], lent := [] }) = Q0 k a1 z606 := (q0_eq k a1 z606).trans (by rfl)
noncomputable def s0 (k : Nat) (a1 : Arg) : (Int) → Option Out := fun v402 => iterK (codeK E k fin (sub [1, 0, 1, 0, 0] C)) (keepF [0, 3, 5] []) (blockC 0 (seqC (codeK E k fin (sub [1, 1] C)) K0)) k ({ n := 22, sl := [(0, .val (.slc tTx) a1.1), (3, .box tKey (roMd tKey) [] a1.2.1), (5, .val i64 v402)], vr := [], lent := [] })
noncomputable def r0 (k : Nat) (a1 : Arg) : (Int) → Option Out := fun v402 => l0 k a1 (fun z => Q0 k a1 z) v402
theorem s0_eq (k : Nat) (a1 : Arg) : s0 k a1 = r0 k a1 := by
  funext v402;
  have h0 : X0_0 ((blockC 0 (seqC (codeK E k fin (sub [1, 1] C)) K0))) a1 = fun z => Q0 k a1 z := funext fun z => Q0_eq k a1 z
  refine (l0_eq k ((blockC 0 (seqC (codeK E k fin (sub [1, 1] C)) K0))) a1 v402).trans ?_
  rw [h0]
  rfl
noncomputable def p (l0 : (Int) → Option Out) (a1 : Arg) : Option Out := l0 (0 : Int)
noncomputable def raw (k : Nat) (a1 : Arg) : Option Out := p (r0 k a1) a1
theorem p_eq (k : Nat) (a1 : Arg) : bodyK E k Go.Proofs.Try.f158 ps rs [] [] a1 = p (s0 k a1) a1 := by kernel_rfl
theorem raw_eq (k : Nat) (a1 : Arg) : bodyK E k Go.Proofs.Try.f158 ps rs [] [] a1 = raw k a1 := (p_eq k a1).trans (by rw [s0_eq]; rfl)
theorem ent : EnterOk Go.Proofs.Try.prog 158 sig.cap := ⟨Go.Proofs.Try.f158, Go.Proofs.Try.func158, by kernel_rfl, by kernel_rfl, by kernel_rfl⟩
theorem env : EnvOk Go.Proofs.Try.prog E := env_ok (tl := [(2, i64), (29, (.slc tTx)), (99, tTx), (146, tKey)]) (gl := [(155, spec_l10Locks.sig)]) rfl rfl (by kernel_rfl) (by kernel_rfl) (fn_cons spec_l10Locks.snd spec_l10Locks.ent (fn_nil _))
theorem chk : funOk Go.Proofs.Try.prog E Go.Proofs.Try.f158 ps rs [] = true := by kernel_rfl
theorem snd : Sound Go.Proofs.Try.prog 158 sig := sound_of_body env Go.Proofs.Try.func158 rfl (es := []) (fr := []) chk (fun _ _ h => lift_some h)
end spec_l10Lock
namespace spec_l10Apart
/-! loop example g00408 spec l10Apart -/
abbrev Arg : Type := (List Tx) × Unit
abbrev Out : Type := Bool × Unit
noncomputable def ps : List (PM × Ty) := [(.ro, (.slc tTx))]
noncomputable def rs : List (Ty × Md) := [(.bool, (roMd .bool))]
noncomputable def E : Env := { TI := lookN [(2, i64), (29, (.slc tTx)), (97, (.slc tKey)), (99, tTx), (146, tKey)], G := lookN [(158, spec_l10Lock.sig)], fz := [], lv := [(2, [0, 3]), (5, [0, 3, 4])], lx := [(0, []), (2, [0, 3])], lf := [], od := [(7, [0, 1, 2, 3, 4, 5, 6, 7, 8, 10, 11, 12, 13, 14, 9, 15])] }
noncomputable def sem (a : Arg) : Option Out := lift fun k => bodyK E k Go.Proofs.Try.f110 ps rs [] [] a
noncomputable def sig : Sig := { ps := ps, rs := rs, F := fun a => sem a }
noncomputable def C : Code := bodyOf Go.Proofs.Try.f110
noncomputable def fin : St → Option Out := outK ps rs [] (Func.results Go.Proofs.Try.f110).toList (mvs [])
noncomputable def K0 : Ex → St → Option Out := endK fin
noncomputable def S0 (rec : St → Option Out) (a1 : Arg) : ((List Tx) × Int) → Option Out := fun v402 => rec ({ n := 37, sl := [(0, .val (.slc tTx) v402.1), (3, .val i64 v402.2)], vr := [], lent := [] })
noncomputable def X0_0 (K : Ex → St → Option Out) (a1 : Arg) : (Unit) → Option Out := fun z => K (.exit 0) ({ n := 37, sl := [], vr := [], lent := [] })
noncomputable def S1 (rec : St → Option Out) (a1 : Arg) (c1004 : List Tx) (c1005 : Int) : (Int) → Option Out := fun v1003 => rec ({ n := 37, sl := [(0, .val (.slc tTx) c1004), (3, .val i64 c1005), (4, .val i64 v1003)], vr := [], lent := [] })
noncomputable def X1_2 (K : Ex → St → Option Out) (a1 : Arg) (c1004 : List Tx) (c1005 : Int) : (Unit) → Option Out := fun z => K (.exit 2) ({ n := 37, sl := [(0, .val (.slc tTx) c1004), (3, .val i64 c1005)], vr := [], lent := [] })
noncomputable def b1 (self : Int → Option Out) (e2 : (Unit) → Option Out) (a1 : Arg) (c1004 : List Tx) (c1005 : Int) (v1003 : Int) : Option Out := if 0 ≤ c1005 then ((c1004[c1005.toNat]?).bind fun x1206 => bif decide (v1003 < (x1206.2.2.2.1.length : Int)) then (if 0 ≤ c1005 then ((c1004[c1005.toNat]?).bind fun x1207 => if 0 ≤ v1003 then ((x1207.2.2.2.1[v1003.toNat]?).bind fun x1208 => if 0 ≤ c1005 then ((c1004[c1005.toNat]?).bind fun x1209 => (spec_l10Lock.sem (c1004, x1208, ())).bind fun r1210 => bif !decide (r1210.1 = x1209.1) then (some (false, ())) else self (w64 (v1003 + (1 : Int)))) else none) else none) else none) else e2 ()) else none
noncomputable def B1 (k : Nat) (self : Int → Option Out) (e2 : (Unit) → Option Out) (a1 : Arg) (c1004 : List Tx) (c1005 : Int) (v1003 : Int) : Option Out := b1 self e2 a1 c1004 c1005 v1003
theorem b1_eq (k : Nat) (rec : St → Option Out) (K : Ex → St → Option Out) (a1 : Arg) (c1004 : List Tx) (c1005 : Int) (v1003 : Int) : codeK E k fin (sub [1, 0, 1, 0, 0, 1, 0, 0, 1, 0, 0] C) ({ n := 37, sl := [(0, .val (.slc tTx) c1004), (3, .val i64 c1005), (4, .val i64 v1003)], vr := [], lent := [] }) (loopC rec (keepF [0, 3, 4] []) K) = b1 (S1 rec a1 c1004 c1005) (X1_2 K a1 c1004 c1005) a1 c1004 c1005 v1003 := by kernel_rfl
theorem B1_eq (k : Nat) (rec : St → Option Out) (K : Ex → St → Option Out) (a1 : Arg) (c1004 : List Tx) (c1005 : Int) (v1003 : Int) : codeK E k fin (sub [1, 0, 1, 0, 0, 1, 0, 0, 1, 0, 0] C) ({ n := 37, sl := [(0, .val (.slc tTx) c1004), (3, .val i64 c1005), (4, .val i64 v1003)], vr := [], lent := [] }) (loopC rec (keepF [0, 3, 4] []) K) = B1 k (S1 rec a1 c1004 c1005) (X1_2 K a1 c1004 c1005) a1 c1004 c1005 v1003 := (b1_eq k rec K a1 c1004 c1005 v1003).trans (by rfl)
noncomputable def l1 (k : Nat) (a1 : Arg) (c1004 : List Tx) (c1005 : Int) (e2 : (Unit) → Option Out) (v : Int) : Option Out := rawIter (fun self v => B1 k self e2 a1 c1004 c1005 v) k v
theorem l1_eq (k : Nat) (K : Ex → St → Option Out) (a1 : Arg) (c1004 : List Tx) (c1005 : Int) (v1003 : Int) : iterK (codeK E k fin (sub [1, 0, 1, 0, 0, 1, 0, 0, 1, 0, 0] C)) (keepF [0, 3, 4] []) K k ({ n := 37, sl := [(0, .val (.slc tTx) c1004), (3, .val i64 c1005), (4, .val i64 v1003)], vr := [], lent := [] }) = l1 k a1 c1004 c1005 (X1_2 K a1 c1004 c1005) v1003 :=
  iter_raw _ _ K (fun v1003 => ({ n := 37, sl := [(0, .val (.slc tTx) c1004), (3, .val i64 c1005), (4, .val i64 v1003)], vr := [], lent := [] } : St)) (fun self v => B1 k self (X1_2 K a1 c1004 c1005) a1 c1004 c1005 v) (fun rec v => B1_eq k rec K a1 c1004 c1005 v) k v1003
noncomputable def q0 (self : ((List Tx) × Int) → Option Out) (e0 : (Unit) → Option Out) (a1 : Arg) (c1004 : List Tx) (c1005 : Int) (z1211 : (Unit)) : Option Out := self (c1004, w64 (c1005 + (1 : Int)))
noncomputable def Q0 (k : Nat) (self : ((List Tx) × Int) → Option Out) (e0 : (Unit) → Option Out) (a1 : Arg) (c1004 : List Tx) (c1005 : Int) (z1211 : (Unit)) : Option Out := q0 self e0 a1 c1004 c1005 z1211
theorem q0_eq (k : Nat) (rec : St → Option Out) (K : Ex → St → Option Out) (a1 : Arg) (c1004 : List Tx) (c1005 : Int) (z1211 : (Unit)) : (blockC 2 (blockC 1 (seqC (codeK E k fin (sub [1, 0, 1, 0, 0, 1, 1] C)) (loopC rec (keepF [0, 3] []) K)))) (.exit 2) ({ n := 37, sl := [(0, .val (.slc tTx) c1004), (3, .val i64 c1005)], vr := [], lent := [] }) = q0 (S0 rec a1) (X0_0 K a1) a1 c1004 c1005 z1211 := by kernel_rfl
theorem Q0_eq (k : Nat) (rec : St → Option Out) (K : Ex → St → Option Out) (a1 : Arg) (c1004 : List Tx) (c1005 : Int) (z1211 : (Unit)) : (blockC 2 (blockC 1 (seqC (codeK E k fin (sub [1, 0, 1, 0, 0, 1, 1] C)) (loopC rec (keepF [0, 3] []) K)))) (.exit 2) ({ n := 37, sl := [(0, .val (.slc tTx) c1004), (3, .val i64 c1005)], vr := [], lent := [] }) = Q0 k (S0 rec a1) (X0_0 K a1) a1 c1004 c1005 z1211 := (q0_eq k rec K a1 c1004 c1005 z1211).trans (by rfl)
noncomputable def s1 (k : Nat) (rec : St → Option Out) (K : Ex → St → Option Out) (a1 : Arg) : (List Tx) → Int → (Int) → Option Out := fun c1004 c1005 v1003 => iterK (codeK E k fin (sub [1, 0, 1, 0, 0, 1, 0, 0, 1, 0, 0] C)) (keepF [0, 3, 4] []) (blockC 2 (blockC 1 (seqC (codeK E k fin (sub [1, 0, 1, 0, 0, 1, 1] C)) (loopC rec (keepF [0, 3] []) K)))) k ({ n := 37, sl := [(0, .val (.slc tTx) c1004), (3, .val i64 c1005), (4, .val i64 v1003)], vr := [], lent := [] })
noncomputable def r1 (k : Nat) (self : ((List Tx) × Int) → Option Out) (e0 : (Unit) → Option Out) (a1 : Arg) : (List Tx) → Int → (Int) → Option Out := fun c1004 c1005 v1003 => l1 k a1 c1004 c1005 (fun z => Q0 k self e0 a1 c1004 c1005 z) v1003
theorem s1_eq (k : Nat) (rec : St → Option Out) (K : Ex → St → Option Out) (a1 : Arg) : s1 k rec K a1 = r1 k (S0 rec a1) (X0_0 K a1) a1 := by
  funext c1004; funext c1005; funext v1003;
  have h2 : X1_2 ((blockC 2 (blockC 1 (seqC (codeK E k fin (sub [1, 0, 1, 0, 0, 1, 1] C)) (loopC rec (keepF [0, 3] []) K))))) a1 c1004 c1005 = fun z => Q0 k (S0 rec a1) (X0_0 K a1) a1 c1004 c1005 z := funext fun z => Q0_eq k rec K a1 c1004 c1005 z
  refine (l1_eq k ((blockC 2 (blockC 1 (seqC (codeK E k fin (sub [1, 0, 1, 0, 0, 1, 1] C)) (loopC rec (keepF [0, 3] []) K))))) a1 c1004 c1005 v1003).trans ?_
  rw [h2]
  rfl
noncomputable def b0 (self : ((List Tx) × Int) → Option Out) (e0 : (Unit) → Option Out) (l1 : (List Tx) → Int → (Int) → Option Out) (a1 : Arg) (v402 : (List Tx) × Int) : Option Out := bif decide (v402.2 < (v402.1.length : Int)) then (l1 v402.1 v402.2 (0 : Int)) else e0 ()
noncomputable def B0 (k : Nat) (self : ((List Tx) × Int) → Option Out) (e0 : (Unit) → Option Out) (a1 : Arg) (v402 : (List Tx) × Int) : Option Out := b0 self e0 (r1 k self e0 a1) a1 v402
theorem b0_eq (k : Nat) (rec : St → Option Out) (K : Ex → St → Option Out) (a1 : Arg) (v402 : (List Tx) × Int) : codeK E k fin (sub [1, 0, 1, 0, 0] C) ({ n := 37, sl := [(0, .val (.slc tTx) v402.1), (3, .val i64 v402.2)], vr := [], lent := [] }) (loopC rec (keepF [0, 3] []) K) = b0 (S0 rec a1) (X0_0 K a1) (s1 k rec K a1) a1 v402 := by kernel_rfl
theorem B0_eq (k : Nat) (rec : St → Option Out) (K : Ex → St → Option Out) (a1 : Arg) (v402 : (List Tx) × Int) : codeK E k fin (sub [1, 0, 1, 0, 0] C) ({ n := 37, sl := [(0, .val (.slc tTx) v402.1), (3, .val i64 v402.2)], vr := [], lent := [] }) (loopC rec (keepF [0, 3] []) K) = B0 k (S0 rec a1) (X0_0 K a1) a1 v402 := (b0_eq k rec K a1 v402).trans (by rw [s1_eq]; rfl)
noncomputable def l0 (k : Nat) (a1 : Arg) (e0 : (Unit) → Option Out) (v : (List Tx) × Int) : Option Out := rawIter (fun self v => B0 k self e0 a1 v) k v
theorem l0_eq (k : Nat) (K : Ex → St → Option Out) (a1 : Arg) (v402 : (List Tx) × Int) : iterK (codeK E k fin (sub [1, 0, 1, 0, 0] C)) (keepF [0, 3] []) K k ({ n := 37, sl := [(0, .val (.slc tTx) v402.1), (3, .val i64 v402.2)], vr := [], lent := [] }) = l0 k a1 (X0_0 K a1) v402 :=
  iter_raw _ _ K (fun v402 => ({ n := 37, sl := [(0, .val (.slc tTx) v402.1), (3, .val i64 v402.2)], vr := [], lent := [] } : St)) (fun self v => B0 k self (X0_0 K a1) a1 v) (fun rec v => B0_eq k rec K a1 v) k v402
noncomputable def q1 (a1 : Arg) (z1212 : (Unit)) : Option Out := some (true, ())
noncomputable def Q1 (k : Nat) (a1 : Arg) (z1212 : (Unit)) : Option Out := q1 a1 z1212
theorem q1_eq (k : Nat) (a1 : Arg) (z1212 : (Unit)) : (blockC 0 (seqC (codeK E k fin (sub [1, 1] C)) K0)) (.exit 0) ({ n := 37, sl := [], vr := [], lent := [] }) = q1 a1 z1212 := by kernel_rfl
theorem Q1_eq (k : Nat) (a1 : Arg) (z1212 : (Unit)) : (blockC 0 (seqC (codeK E k fin (sub [1, 1] C)) K0)) (.exit 0) ({ n := 37, sl := [], vr := [], lent := [] }) = Q1 k a1 z1212 := (q1_eq k a1 z1212).trans (by rfl)
noncomputable def s0 (k : Nat) (a1 : Arg) : ((List Tx) × Int) → Option Out := fun v402 => iterK (codeK E k fin (sub [1, 0, 1, 0, 0] C)) (keepF [0, 3] []) (blockC 0 (seqC (codeK E k fin (sub [1, 1] C)) K0)) k ({ n := 37, sl := [(0, .val (.slc tTx) v402.1), (3, .val i64 v402.2)], vr := [], lent := [] })
noncomputable def r0 (k : Nat) (a1 : Arg) : ((List Tx) × Int) → Option Out := fun v402 => l0 k a1 (fun z => Q1 k a1 z) v402
theorem s0_eq (k : Nat) (a1 : Arg) : s0 k a1 = r0 k a1 := by
  funext v402;
  have h0 : X0_0 ((blockC 0 (seqC (codeK E k fin (sub [1, 1] C)) K0))) a1 = fun z => Q1 k a1 z := funext fun z => Q1_eq k a1 z
  refine (l0_eq k ((blockC 0 (seqC (codeK E k fin (sub [1, 1] C)) K0))) a1 v402).trans ?_
  rw [h0]
  rfl
noncomputable def p (l0 : ((List Tx) × Int) → Option Out) (a1 : Arg) : Option Out := l0 (a1.1, (0 : Int))
noncomputable def raw (k : Nat) (a1 : Arg) : Option Out := p (r0 k a1) a1
theorem p_eq (k : Nat) (a1 : Arg) : bodyK E k Go.Proofs.Try.f110 ps rs [] [] a1 = p (s0 k a1) a1 := by kernel_rfl
theorem raw_eq (k : Nat) (a1 : Arg) : bodyK E k Go.Proofs.Try.f110 ps rs [] [] a1 = raw k a1 := (p_eq k a1).trans (by rw [s0_eq]; rfl)
theorem ent : EnterOk Go.Proofs.Try.prog 110 sig.cap := ⟨Go.Proofs.Try.f110, Go.Proofs.Try.func110, by kernel_rfl, by kernel_rfl, by kernel_rfl⟩
theorem env : EnvOk Go.Proofs.Try.prog E := env_ok (tl := [(2, i64), (29, (.slc tTx)), (97, (.slc tKey)), (99, tTx), (146, tKey)]) (gl := [(158, spec_l10Lock.sig)]) rfl rfl (by kernel_rfl) (by kernel_rfl) (fn_cons spec_l10Lock.snd spec_l10Lock.ent (fn_nil _))
theorem chk : funOk Go.Proofs.Try.prog E Go.Proofs.Try.f110 ps rs [] = true := by kernel_rfl
theorem snd : Sound Go.Proofs.Try.prog 110 sig := sound_of_body env Go.Proofs.Try.func110 rfl (es := []) (fr := []) chk (fun _ _ h => lift_some h)
end spec_l10Apart
namespace spec_l10Count
/-! loop example g00408 spec l10Count -/
abbrev Arg : Type := (List Tx) × Unit
abbrev Out : Type := Int × Unit
noncomputable def ps : List (PM × Ty) := [(.ro, (.slc tTx))]
noncomputable def rs : List (Ty × Md) := [(i64, (roMd i64))]
noncomputable def E : Env := { TI := lookN [(29, (.slc tTx)), (65, (.slc tChange)), (99, tTx)], G := lookN [], fz := [], lv := [(3, [0, 3, 4])], lx := [(0, [3])], lf := [], od := [] }
noncomputable def sem (a : Arg) : Option Out := lift fun k => bodyK E k Go.Proofs.Try.f111 ps rs [] [] a
noncomputable def sig : Sig := { ps := ps, rs := rs, F := fun a => sem a }
noncomputable def C : Code := bodyOf Go.Proofs.Try.f111
noncomputable def fin : St → Option Out := outK ps rs [] (Func.results Go.Proofs.Try.f111).toList (mvs [])
noncomputable def K0 : Ex → St → Option Out := endK fin
noncomputable def S0 (rec : St → Option Out) (a1 : Arg) : (Int × Int) → Option Out := fun v402 => rec ({ n := 20, sl := [(0, .val (.slc tTx) a1.1), (3, .val i64 v402.1), (4, .val i64 v402.2)], vr := [], lent := [] })
noncomputable def X0_0 (K : Ex → St → Option Out) (a1 : Arg) : Int → Option Out := fun z => K (.exit 0) ({ n := 20, sl := [(3, .val i64 z)], vr := [], lent := [] })
noncomputable def b0 (self : (Int × Int) → Option Out) (e0 : Int → Option Out) (a1 : Arg) (v402 : Int × Int) : Option Out := bif decide (v402.2 < (a1.1.length : Int)) then (if 0 ≤ v402.2 then ((a1.1[v402.2.toNat]?).bind fun x603 => self (w64 (v402.1 + (x603.2.1.length : Int)), w64 (v402.2 + (1 : Int)))) else none) else e0 v402.1
noncomputable def B0 (k : Nat) (self : (Int × Int) → Option Out) (e0 : Int → Option Out) (a1 : Arg) (v402 : Int × Int) : Option Out := b0 self e0 a1 v402
theorem b0_eq (k : Nat) (rec : St → Option Out) (K : Ex → St → Option Out) (a1 : Arg) (v402 : Int × Int) : codeK E k fin (sub [1, 1, 0, 1, 0, 0] C) ({ n := 20, sl := [(0, .val (.slc tTx) a1.1), (3, .val i64 v402.1), (4, .val i64 v402.2)], vr := [], lent := [] }) (loopC rec (keepF [0, 3, 4] []) K) = b0 (S0 rec a1) (X0_0 K a1) a1 v402 := by kernel_rfl
theorem B0_eq (k : Nat) (rec : St → Option Out) (K : Ex → St → Option Out) (a1 : Arg) (v402 : Int × Int) : codeK E k fin (sub [1, 1, 0, 1, 0, 0] C) ({ n := 20, sl := [(0, .val (.slc tTx) a1.1), (3, .val i64 v402.1), (4, .val i64 v402.2)], vr := [], lent := [] }) (loopC rec (keepF [0, 3, 4] []) K) = B0 k (S0 rec a1) (X0_0 K a1) a1 v402 := (b0_eq k rec K a1 v402).trans (by rfl)
noncomputable def l0 (k : Nat) (a1 : Arg) (e0 : Int → Option Out) (v : Int × Int) : Option Out := rawIter (fun self v => B0 k self e0 a1 v) k v
theorem l0_eq (k : Nat) (K : Ex → St → Option Out) (a1 : Arg) (v402 : Int × Int) : iterK (codeK E k fin (sub [1, 1, 0, 1, 0, 0] C)) (keepF [0, 3, 4] []) K k ({ n := 20, sl := [(0, .val (.slc tTx) a1.1), (3, .val i64 v402.1), (4, .val i64 v402.2)], vr := [], lent := [] }) = l0 k a1 (X0_0 K a1) v402 :=
  iter_raw _ _ K (fun v402 => ({ n := 20, sl := [(0, .val (.slc tTx) a1.1), (3, .val i64 v402.1), (4, .val i64 v402.2)], vr := [], lent := [] } : St)) (fun self v => B0 k self (X0_0 K a1) a1 v) (fun rec v => B0_eq k rec K a1 v) k v402
noncomputable def q0 (a1 : Arg) (z604 : Int) : Option Out := some (z604, ())
noncomputable def Q0 (k : Nat) (a1 : Arg) (z604 : Int) : Option Out := q0 a1 z604
theorem q0_eq (k : Nat) (a1 : Arg) (z604 : Int) : (blockC 0 (seqC (codeK E k fin (sub [1, 1, 1] C)) K0)) (.exit 0) ({ n := 20, sl := [(3, .val i64 z604)], vr := [], lent := [] }) = q0 a1 z604 := by kernel_rfl
theorem Q0_eq (k : Nat) (a1 : Arg) (z604 : Int) : (blockC 0 (seqC (codeK E k fin (sub [1, 1, 1] C)) K0)) (.exit 0) ({ n := 20, sl := [(3, .val i64 z604)], vr := [], lent := [] }) = Q0 k a1 z604 := (q0_eq k a1 z604).trans (by rfl)
noncomputable def s0 (k : Nat) (a1 : Arg) : (Int × Int) → Option Out := fun v402 => iterK (codeK E k fin (sub [1, 1, 0, 1, 0, 0] C)) (keepF [0, 3, 4] []) (blockC 0 (seqC (codeK E k fin (sub [1, 1, 1] C)) K0)) k ({ n := 20, sl := [(0, .val (.slc tTx) a1.1), (3, .val i64 v402.1), (4, .val i64 v402.2)], vr := [], lent := [] })
noncomputable def r0 (k : Nat) (a1 : Arg) : (Int × Int) → Option Out := fun v402 => l0 k a1 (fun z => Q0 k a1 z) v402
theorem s0_eq (k : Nat) (a1 : Arg) : s0 k a1 = r0 k a1 := by
  funext v402;
  have h0 : X0_0 ((blockC 0 (seqC (codeK E k fin (sub [1, 1, 1] C)) K0))) a1 = fun z => Q0 k a1 z := funext fun z => Q0_eq k a1 z
  refine (l0_eq k ((blockC 0 (seqC (codeK E k fin (sub [1, 1, 1] C)) K0))) a1 v402).trans ?_
  rw [h0]
  rfl
noncomputable def p (l0 : (Int × Int) → Option Out) (a1 : Arg) : Option Out := l0 ((0 : Int), (0 : Int))
noncomputable def raw (k : Nat) (a1 : Arg) : Option Out := p (r0 k a1) a1
theorem p_eq (k : Nat) (a1 : Arg) : bodyK E k Go.Proofs.Try.f111 ps rs [] [] a1 = p (s0 k a1) a1 := by kernel_rfl
theorem raw_eq (k : Nat) (a1 : Arg) : bodyK E k Go.Proofs.Try.f111 ps rs [] [] a1 = raw k a1 := (p_eq k a1).trans (by rw [s0_eq]; rfl)
theorem ent : EnterOk Go.Proofs.Try.prog 111 sig.cap := ⟨Go.Proofs.Try.f111, Go.Proofs.Try.func111, by kernel_rfl, by kernel_rfl, by kernel_rfl⟩
theorem env : EnvOk Go.Proofs.Try.prog E := env_ok (tl := [(29, (.slc tTx)), (65, (.slc tChange)), (99, tTx)]) (gl := []) rfl rfl (by kernel_rfl) (by kernel_rfl) (fn_nil _)
theorem chk : funOk Go.Proofs.Try.prog E Go.Proofs.Try.f111 ps rs [] = true := by kernel_rfl
theorem snd : Sound Go.Proofs.Try.prog 111 sig := sound_of_body env Go.Proofs.Try.func111 rfl (es := []) (fr := []) chk (fun _ _ h => lift_some h)
end spec_l10Count
namespace spec_l10Fault
/-! loop example g00408 spec l10Fault -/
abbrev Arg : Type := (List Tx) × Unit
abbrev Out : Type := Int × Unit
noncomputable def ps : List (PM × Ty) := [(.ro, (.slc tTx))]
noncomputable def rs : List (Ty × Md) := [(i64, (roMd i64))]
noncomputable def E : Env := { TI := lookN [(2, i64), (29, (.slc tTx)), (99, tTx)], G := lookN [(88, spec_l1In.sig), (108, spec_l10Undo.sig), (109, spec_l10Marks.sig), (110, spec_l10Apart.sig), (111, spec_l10Count.sig)], fz := [], lv := [(4, [0, 3])], lx := [(0, [0])], lf := [], od := [(9, [0, 1, 2, 3, 4, 5, 6, 7, 8, 9, 10, 11, 12, 13, 14])] }
noncomputable def sem (a : Arg) : Option Out := lift fun k => bodyK E k Go.Proofs.Try.f58 ps rs [] [] a
noncomputable def sig : Sig := { ps := ps, rs := rs, F := fun a => sem a }
noncomputable def C : Code := bodyOf Go.Proofs.Try.f58
noncomputable def fin : St → Option Out := outK ps rs [] (Func.results Go.Proofs.Try.f58).toList (mvs [])
noncomputable def K0 : Ex → St → Option Out := endK fin
noncomputable def S0 (rec : St → Option Out) (a1 : Arg) : (Int) → Option Out := fun v402 => rec ({ n := 56, sl := [(0, .val (.slc tTx) a1.1), (3, .val i64 v402)], vr := [], lent := [] })
noncomputable def X0_0 (K : Ex → St → Option Out) (a1 : Arg) : (Unit) → Option Out := fun z => K (.exit 0) ({ n := 56, sl := [(0, .val (.slc tTx) a1.1)], vr := [], lent := [] })
noncomputable def b0 (self : Int → Option Out) (e0 : (Unit) → Option Out) (a1 : Arg) (v402 : Int) : Option Out := bif decide (v402 < (a1.1.length : Int)) then (if 0 ≤ v402 then ((a1.1[v402.toNat]?).bind fun x603 => (spec_l1In.sem (x603.1, (1 : Int), (99 : Int), ())).bind fun r604 => bif !r604.1 then (some ((3 : Int), ())) else let j608 : Option Out := (spec_l10Undo.sem (x603, ())).bind fun r609 => bif !decide (r609.1 = (0 : Int)) then (some (r609.1, ())) else (spec_l10Marks.sem (x603, ())).bind fun r610 => bif !decide (r610.1 = (0 : Int)) then (some (r610.1, ())) else self (w64 (v402 + (1 : Int))); bif decide ((0 : Int) < v402) then (if 0 ≤ w64 (v402 - (1 : Int)) then ((a1.1[(w64 (v402 - (1 : Int))).toNat]?).bind fun x605 => bif decide (x603.1 ≤ x605.1) then (some ((1 : Int), ())) else j608) else none) else j608) else none) else e0 ()
noncomputable def B0 (k : Nat) (self : Int → Option Out) (e0 : (Unit) → Option Out) (a1 : Arg) (v402 : Int) : Option Out := b0 self e0 a1 v402
theorem b0_eq (k : Nat) (rec : St → Option Out) (K : Ex → St → Option Out) (a1 : Arg) (v402 : Int) : codeK E k fin (sub [1, 1, 0, 1, 0, 0] C) ({ n := 56, sl := [(0, .val (.slc tTx) a1.1), (3, .val i64 v402)], vr := [], lent := [] }) (loopC rec (keepF [0, 3] []) K) = b0 (S0 rec a1) (X0_0 K a1) a1 v402 := by kernel_rfl
theorem B0_eq (k : Nat) (rec : St → Option Out) (K : Ex → St → Option Out) (a1 : Arg) (v402 : Int) : codeK E k fin (sub [1, 1, 0, 1, 0, 0] C) ({ n := 56, sl := [(0, .val (.slc tTx) a1.1), (3, .val i64 v402)], vr := [], lent := [] }) (loopC rec (keepF [0, 3] []) K) = B0 k (S0 rec a1) (X0_0 K a1) a1 v402 := (b0_eq k rec K a1 v402).trans (by rfl)
noncomputable def l0 (k : Nat) (a1 : Arg) (e0 : (Unit) → Option Out) (v : Int) : Option Out := rawIter (fun self v => B0 k self e0 a1 v) k v
theorem l0_eq (k : Nat) (K : Ex → St → Option Out) (a1 : Arg) (v402 : Int) : iterK (codeK E k fin (sub [1, 1, 0, 1, 0, 0] C)) (keepF [0, 3] []) K k ({ n := 56, sl := [(0, .val (.slc tTx) a1.1), (3, .val i64 v402)], vr := [], lent := [] }) = l0 k a1 (X0_0 K a1) v402 :=
  iter_raw _ _ K (fun v402 => ({ n := 56, sl := [(0, .val (.slc tTx) a1.1), (3, .val i64 v402)], vr := [], lent := [] } : St)) (fun self v => B0 k self (X0_0 K a1) a1 v) (fun rec v => B0_eq k rec K a1 v) k v402
noncomputable def q0 (a1 : Arg) (z611 : (Unit)) : Option Out := (spec_l10Apart.sem (a1.1, ())).bind fun r612 => bif !r612.1 then (some ((7 : Int), ())) else (spec_l10Count.sem (a1.1, ())).bind fun r613 => bif decide ((12 : Int) < r613.1) then (some ((2 : Int), ())) else some ((0 : Int), ())
noncomputable def Q0 (k : Nat) (a1 : Arg) (z611 : (Unit)) : Option Out := q0 a1 z611
theorem q0_eq (k : Nat) (a1 : Arg) (z611 : (Unit)) : (blockC 0 (seqC (codeK E k fin (sub [1, 1, 1] C)) K0)) (.exit 0) ({ n := 56, sl := [(0, .val (.slc tTx) a1.1)], vr := [], lent := [] }) = q0 a1 z611 := by kernel_rfl
theorem Q0_eq (k : Nat) (a1 : Arg) (z611 : (Unit)) : (blockC 0 (seqC (codeK E k fin (sub [1, 1, 1] C)) K0)) (.exit 0) ({ n := 56, sl := [(0, .val (.slc tTx) a1.1)], vr := [], lent := [] }) = Q0 k a1 z611 := (q0_eq k a1 z611).trans (by rfl)
noncomputable def s0 (k : Nat) (a1 : Arg) : (Int) → Option Out := fun v402 => iterK (codeK E k fin (sub [1, 1, 0, 1, 0, 0] C)) (keepF [0, 3] []) (blockC 0 (seqC (codeK E k fin (sub [1, 1, 1] C)) K0)) k ({ n := 56, sl := [(0, .val (.slc tTx) a1.1), (3, .val i64 v402)], vr := [], lent := [] })
noncomputable def r0 (k : Nat) (a1 : Arg) : (Int) → Option Out := fun v402 => l0 k a1 (fun z => Q0 k a1 z) v402
theorem s0_eq (k : Nat) (a1 : Arg) : s0 k a1 = r0 k a1 := by
  funext v402;
  have h0 : X0_0 ((blockC 0 (seqC (codeK E k fin (sub [1, 1, 1] C)) K0))) a1 = fun z => Q0 k a1 z := funext fun z => Q0_eq k a1 z
  refine (l0_eq k ((blockC 0 (seqC (codeK E k fin (sub [1, 1, 1] C)) K0))) a1 v402).trans ?_
  rw [h0]
  rfl
noncomputable def p (l0 : (Int) → Option Out) (a1 : Arg) : Option Out := bif decide ((4 : Int) < (a1.1.length : Int)) then (some ((2 : Int), ())) else l0 (0 : Int)
noncomputable def raw (k : Nat) (a1 : Arg) : Option Out := p (r0 k a1) a1
theorem p_eq (k : Nat) (a1 : Arg) : bodyK E k Go.Proofs.Try.f58 ps rs [] [] a1 = p (s0 k a1) a1 := by kernel_rfl
theorem raw_eq (k : Nat) (a1 : Arg) : bodyK E k Go.Proofs.Try.f58 ps rs [] [] a1 = raw k a1 := (p_eq k a1).trans (by rw [s0_eq]; rfl)
theorem ent : EnterOk Go.Proofs.Try.prog 58 sig.cap := ⟨Go.Proofs.Try.f58, Go.Proofs.Try.func58, by kernel_rfl, by kernel_rfl, by kernel_rfl⟩
theorem env : EnvOk Go.Proofs.Try.prog E := env_ok (tl := [(2, i64), (29, (.slc tTx)), (99, tTx)]) (gl := [(88, spec_l1In.sig), (108, spec_l10Undo.sig), (109, spec_l10Marks.sig), (110, spec_l10Apart.sig), (111, spec_l10Count.sig)]) rfl rfl (by kernel_rfl) (by kernel_rfl) (fn_cons spec_l1In.snd spec_l1In.ent (fn_cons spec_l10Undo.snd spec_l10Undo.ent (fn_cons spec_l10Marks.snd spec_l10Marks.ent (fn_cons spec_l10Apart.snd spec_l10Apart.ent (fn_cons spec_l10Count.snd spec_l10Count.ent (fn_nil _))))))
theorem chk : funOk Go.Proofs.Try.prog E Go.Proofs.Try.f58 ps rs [] = true := by kernel_rfl
theorem snd : Sound Go.Proofs.Try.prog 58 sig := sound_of_body env Go.Proofs.Try.func58 rfl (es := []) (fr := []) chk (fun _ _ h => lift_some h)
end spec_l10Fault
namespace spec_l10Room
/-! loop example g00408 spec l10Room -/
abbrev Arg : Type := (List Row) × (List Tx) × Key × Unit
abbrev Out : Type := Int × Unit
noncomputable def ps : List (PM × Ty) := [(.ro, (.slc tRow)), (.ro, (.slc tTx)), (.ro, tKey)]
noncomputable def rs : List (Ty × Md) := [(i64, (roMd i64))]
noncomputable def E : Env := { TI := lookN [(2, i64), (28, (.slc tRow)), (29, (.slc tTx)), (48, tRow), (97, (.slc tKey)), (99, tTx), (146, tKey)], G := lookN [], fz := [], lv := [(3, [0, 1, 5, 7, 8]), (7, [1, 5, 7, 9]), (14, [7, 10, 11]), (18, [7, 10, 11, 12, 13])], lx := [(0, [1, 5, 7]), (2, [5, 7]), (4, [10]), (6, [7, 10, 11, 12])], lf := [], od := [(5, [0, 1, 2, 3, 4, 5, 6, 7, 8, 9, 10, 11, 12, 13, 14]), (20, [0, 1, 2, 3, 4, 5, 6, 7, 8, 9])] }
noncomputable def sem (a : Arg) : Option Out := lift fun k => bodyK E k Go.Proofs.Try.f89 ps rs [] [] a
noncomputable def sig : Sig := { ps := ps, rs := rs, F := fun a => sem a }
noncomputable def C : Code := bodyOf Go.Proofs.Try.f89
noncomputable def fin : St → Option Out := outK ps rs [] (Func.results Go.Proofs.Try.f89).toList (mvs [])
noncomputable def K0 : Ex → St → Option Out := endK fin
noncomputable def S0 (rec : St → Option Out) (a1 : Arg) : ((List Key) × Int) → Option Out := fun v402 => rec ({ n := 82, sl := [(0, .val (.slc tRow) a1.1), (1, .val (.slc tTx) a1.2.1), (5, .box tKey (roMd tKey) [] a1.2.2.1), (7, .own (.slc tKey) (ownMd (.slc tKey)) [] v402.1), (8, .val i64 v402.2)], vr := [], lent := [] })
noncomputable def X0_0 (K : Ex → St → Option Out) (a1 : Arg) : (List Key) → Option Out := fun z => K (.exit 0) ({ n := 82, sl := [(1, .val (.slc tTx) a1.2.1), (5, .box tKey (roMd tKey) [] a1.2.2.1), (7, .own (.slc tKey) (ownMd (.slc tKey)) [] z)], vr := [], lent := [] })
noncomputable def b0 (self : ((List Key) × Int) → Option Out) (e0 : (List Key) → Option Out) (a1 : Arg) (v402 : (List Key) × Int) : Option Out := bif decide (v402.2 < (a1.1.length : Int)) then (if 0 ≤ v402.2 then ((a1.1[v402.2.toNat]?).bind fun x603 => if 0 ≤ v402.2 then ((a1.1[v402.2.toNat]?).bind fun x604 => if v402.1.length + [(x603.1, x604.2.1, ())].length ≤ CAP then (self (v402.1 ++ [(x603.1, x604.2.1, ())], w64 (v402.2 + (1 : Int)))) else none) else none) else none) else e0 v402.1
noncomputable def B0 (k : Nat) (self : ((List Key) × Int) → Option Out) (e0 : (List Key) → Option Out) (a1 : Arg) (v402 : (List Key) × Int) : Option Out := b0 self e0 a1 v402
theorem b0_eq (k : Nat) (rec : St → Option Out) (K : Ex → St → Option Out) (a1 : Arg) (v402 : (List Key) × Int) : codeK E k fin (sub [1, 1, 0, 1, 0, 0] C) ({ n := 82, sl := [(0, .val (.slc tRow) a1.1), (1, .val (.slc tTx) a1.2.1), (5, .box tKey (roMd tKey) [] a1.2.2.1), (7, .own (.slc tKey) (ownMd (.slc tKey)) [] v402.1), (8, .val i64 v402.2)], vr := [], lent := [] }) (loopC rec (keepF [0, 1, 5, 7, 8] []) K) = b0 (S0 rec a1) (X0_0 K a1) a1 v402 := by kernel_rfl
theorem B0_eq (k : Nat) (rec : St → Option Out) (K : Ex → St → Option Out) (a1 : Arg) (v402 : (List Key) × Int) : codeK E k fin (sub [1, 1, 0, 1, 0, 0] C) ({ n := 82, sl := [(0, .val (.slc tRow) a1.1), (1, .val (.slc tTx) a1.2.1), (5, .box tKey (roMd tKey) [] a1.2.2.1), (7, .own (.slc tKey) (ownMd (.slc tKey)) [] v402.1), (8, .val i64 v402.2)], vr := [], lent := [] }) (loopC rec (keepF [0, 1, 5, 7, 8] []) K) = B0 k (S0 rec a1) (X0_0 K a1) a1 v402 := (b0_eq k rec K a1 v402).trans (by rfl)
noncomputable def l0 (k : Nat) (a1 : Arg) (e0 : (List Key) → Option Out) (v : (List Key) × Int) : Option Out := rawIter (fun self v => B0 k self e0 a1 v) k v
theorem l0_eq (k : Nat) (K : Ex → St → Option Out) (a1 : Arg) (v402 : (List Key) × Int) : iterK (codeK E k fin (sub [1, 1, 0, 1, 0, 0] C)) (keepF [0, 1, 5, 7, 8] []) K k ({ n := 82, sl := [(0, .val (.slc tRow) a1.1), (1, .val (.slc tTx) a1.2.1), (5, .box tKey (roMd tKey) [] a1.2.2.1), (7, .own (.slc tKey) (ownMd (.slc tKey)) [] v402.1), (8, .val i64 v402.2)], vr := [], lent := [] }) = l0 k a1 (X0_0 K a1) v402 :=
  iter_raw _ _ K (fun v402 => ({ n := 82, sl := [(0, .val (.slc tRow) a1.1), (1, .val (.slc tTx) a1.2.1), (5, .box tKey (roMd tKey) [] a1.2.2.1), (7, .own (.slc tKey) (ownMd (.slc tKey)) [] v402.1), (8, .val i64 v402.2)], vr := [], lent := [] } : St)) (fun self v => B0 k self (X0_0 K a1) a1 v) (fun rec v => B0_eq k rec K a1 v) k v402
noncomputable def S1 (rec : St → Option Out) (a1 : Arg) : ((List Key) × Int) → Option Out := fun v1006 => rec ({ n := 82, sl := [(1, .val (.slc tTx) a1.2.1), (5, .box tKey (roMd tKey) [] a1.2.2.1), (7, .own (.slc tKey) (ownMd (.slc tKey)) [] v1006.1), (9, .val i64 v1006.2)], vr := [], lent := [] })
noncomputable def X1_2 (K : Ex → St → Option Out) (a1 : Arg) : (List Key) → Option Out := fun z => K (.exit 2) ({ n := 82, sl := [(5, .box tKey (roMd tKey) [] a1.2.2.1), (7, .own (.slc tKey) (ownMd (.slc tKey)) [] z)], vr := [], lent := [] })
noncomputable def b1 (self : ((List Key) × Int) → Option Out) (e2 : (List Key) → Option Out) (a1 : Arg) (v1006 : (List Key) × Int) : Option Out := bif decide (v1006.2 < (a1.2.1.length : Int)) then (if 0 ≤ v1006.2 then ((a1.2.1[v1006.2.toNat]?).bind fun x1207 => if v1006.1.length + x1207.2.2.2.1.length ≤ CAP then (self (v1006.1 ++ x1207.2.2.2.1, w64 (v1006.2 + (1 : Int)))) else none) else none) else e2 v1006.1
noncomputable def B1 (k : Nat) (self : ((List Key) × Int) → Option Out) (e2 : (List Key) → Option Out) (a1 : Arg) (v1006 : (List Key) × Int) : Option Out := b1 self e2 a1 v1006
theorem b1_eq (k : Nat) (rec : St → Option Out) (K : Ex → St → Option Out) (a1 : Arg) (v1006 : (List Key) × Int) : codeK E k fin (sub [1, 1, 1, 0, 1, 0, 0] C) ({ n := 82, sl := [(1, .val (.slc tTx) a1.2.1), (5, .box tKey (roMd tKey) [] a1.2.2.1), (7, .own (.slc tKey) (ownMd (.slc tKey)) [] v1006.1), (9, .val i64 v1006.2)], vr := [], lent := [] }) (loopC rec (keepF [1, 5, 7, 9] []) K) = b1 (S1 rec a1) (X1_2 K a1) a1 v1006 := by kernel_rfl
theorem B1_eq (k : Nat) (rec : St → Option Out) (K : Ex → St → Option Out) (a1 : Arg) (v1006 : (List Key) × Int) : codeK E k fin (sub [1, 1, 1, 0, 1, 0, 0] C) ({ n := 82, sl := [(1, .val (.slc tTx) a1.2.1), (5, .box tKey (roMd tKey) [] a1.2.2.1), (7, .own (.slc tKey) (ownMd (.slc tKey)) [] v1006.1), (9, .val i64 v1006.2)], vr := [], lent := [] }) (loopC rec (keepF [1, 5, 7, 9] []) K) = B1 k (S1 rec a1) (X1_2 K a1) a1 v1006 := (b1_eq k rec K a1 v1006).trans (by rfl)
noncomputable def l1 (k : Nat) (a1 : Arg) (e2 : (List Key) → Option Out) (v : (List Key) × Int) : Option Out := rawIter (fun self v => B1 k self e2 a1 v) k v
theorem l1_eq (k : Nat) (K : Ex → St → Option Out) (a1 : Arg) (v1006 : (List Key) × Int) : iterK (codeK E k fin (sub [1, 1, 1, 0, 1, 0, 0] C)) (keepF [1, 5, 7, 9] []) K k ({ n := 82, sl := [(1, .val (.slc tTx) a1.2.1), (5, .box tKey (roMd tKey) [] a1.2.2.1), (7, .own (.slc tKey) (ownMd (.slc tKey)) [] v1006.1), (9, .val i64 v1006.2)], vr := [], lent := [] }) = l1 k a1 (X1_2 K a1) v1006 :=
  iter_raw _ _ K (fun v1006 => ({ n := 82, sl := [(1, .val (.slc tTx) a1.2.1), (5, .box tKey (roMd tKey) [] a1.2.2.1), (7, .own (.slc tKey) (ownMd (.slc tKey)) [] v1006.1), (9, .val i64 v1006.2)], vr := [], lent := [] } : St)) (fun self v => B1 k self (X1_2 K a1) a1 v) (fun rec v => B1_eq k rec K a1 v) k v1006
noncomputable def S2 (rec : St → Option Out) (a1 : Arg) : ((List Key) × Int × Int) → Option Out := fun v2213 => rec ({ n := 82, sl := [(7, .own (.slc tKey) (ownMd (.slc tKey)) [] v2213.1), (10, .val i64 v2213.2.1), (11, .val i64 v2213.2.2)], vr := [], lent := [] })
noncomputable def X2_4 (K : Ex → St → Option Out) (a1 : Arg) : Int → Option Out := fun z => K (.exit 4) ({ n := 82, sl := [(10, .val i64 z)], vr := [], lent := [] })
noncomputable def S3 (rec : St → Option Out) (a1 : Arg) (c2815 : List Key) (c2816 : Int) (c2817 : Int) : (Bool × Int) → Option Out := fun v2814 => rec ({ n := 82, sl := [(7, .own (.slc tKey) (ownMd (.slc tKey)) [] c2815), (10, .val i64 c2816), (11, .val i64 c2817), (12, .val .bool v2814.1), (13, .val i64 v2814.2)], vr := [], lent := [] })
noncomputable def X3_6 (K : Ex → St → Option Out) (a1 : Arg) (c2815 : List Key) (c2816 : Int) (c2817 : Int) : Bool → Option Out := fun z => K (.exit 6) ({ n := 82, sl := [(7, .own (.slc tKey) (ownMd (.slc tKey)) [] c2815), (10, .val i64 c2816), (11, .val i64 c2817), (12, .val .bool z)], vr := [], lent := [] })
noncomputable def b3 (self : (Bool × Int) → Option Out) (e6 : Bool → Option Out) (a1 : Arg) (c2815 : List Key) (c2816 : Int) (c2817 : Int) (v2814 : Bool × Int) : Option Out := bif decide (v2814.2 < c2817) then (bif v2814.1 then (if 0 ≤ v2814.2 ∧ v2814.2 < (c2815.length : Int) then ((c2815[v2814.2.toNat]?).bind fun x3018 => if 0 ≤ c2817 ∧ c2817 < (c2815.length : Int) then ((c2815[c2817.toNat]?).bind fun x3019 => self (!(Ty.eq tKey x3018 x3019), w64 (v2814.2 + (1 : Int)))) else none) else none) else e6 v2814.1) else e6 v2814.1
noncomputable def B3 (k : Nat) (self : (Bool × Int) → Option Out) (e6 : Bool → Option Out) (a1 : Arg) (c2815 : List Key) (c2816 : Int) (c2817 : Int) (v2814 : Bool × Int) : Option Out := b3 self e6 a1 c2815 c2816 c2817 v2814
theorem b3_eq (k : Nat) (rec : St → Option Out) (K : Ex → St → Option Out) (a1 : Arg) (c2815 : List Key) (c2816 : Int) (c2817 : Int) (v2814 : Bool × Int) : codeK E k fin (sub [1, 1, 1, 1, 1, 1, 0, 1, 0, 0, 1, 0, 0, 1, 0, 1, 0, 0] C) ({ n := 82, sl := [(7, .own (.slc tKey) (ownMd (.slc tKey)) [] c2815), (10, .val i64 c2816), (11, .val i64 c2817), (12, .val .bool v2814.1), (13, .val i64 v2814.2)], vr := [], lent := [] }) (loopC rec (keepF [7, 10, 11, 12, 13] []) K) = b3 (S3 rec a1 c2815 c2816 c2817) (X3_6 K a1 c2815 c2816 c2817) a1 c2815 c2816 c2817 v2814 := by kernel_rfl
theorem B3_eq (k : Nat) (rec : St → Option Out) (K : Ex → St → Option Out) (a1 : Arg) (c2815 : List Key) (c2816 : Int) (c2817 : Int) (v2814 : Bool × Int) : codeK E k fin (sub [1, 1, 1, 1, 1, 1, 0, 1, 0, 0, 1, 0, 0, 1, 0, 1, 0, 0] C) ({ n := 82, sl := [(7, .own (.slc tKey) (ownMd (.slc tKey)) [] c2815), (10, .val i64 c2816), (11, .val i64 c2817), (12, .val .bool v2814.1), (13, .val i64 v2814.2)], vr := [], lent := [] }) (loopC rec (keepF [7, 10, 11, 12, 13] []) K) = B3 k (S3 rec a1 c2815 c2816 c2817) (X3_6 K a1 c2815 c2816 c2817) a1 c2815 c2816 c2817 v2814 := (b3_eq k rec K a1 c2815 c2816 c2817 v2814).trans (by rfl)
noncomputable def l3 (k : Nat) (a1 : Arg) (c2815 : List Key) (c2816 : Int) (c2817 : Int) (e6 : Bool → Option Out) (v : Bool × Int) : Option Out := rawIter (fun self v => B3 k self e6 a1 c2815 c2816 c2817 v) k v
theorem l3_eq (k : Nat) (K : Ex → St → Option Out) (a1 : Arg) (c2815 : List Key) (c2816 : Int) (c2817 : Int) (v2814 : Bool × Int) : iterK (codeK E k fin (sub [1, 1, 1, 1, 1, 1, 0, 1, 0, 0, 1, 0, 0, 1, 0, 1, 0, 0] C)) (keepF [7, 10, 11, 12, 13] []) K k ({ n := 82, sl := [(7, .own (.slc tKey) (ownMd (.slc tKey)) [] c2815), (10, .val i64 c2816), (11, .val i64 c2817), (12, .val .bool v2814.1), (13, .val i64 v2814.2)], vr := [], lent := [] }) = l3 k a1 c2815 c2816 c2817 (X3_6 K a1 c2815 c2816 c2817) v2814 :=
  iter_raw _ _ K (fun v2814 => ({ n := 82, sl := [(7, .own (.slc tKey) (ownMd (.slc tKey)) [] c2815), (10, .val i64 c2816), (11, .val i64 c2817), (12, .val .bool v2814.1), (13, .val i64 v2814.2)], vr := [], lent := [] } : St)) (fun self v => B3 k self (X3_6 K a1 c2815 c2816 c2817) a1 c2815 c2816 c2817 v) (fun rec v => B3_eq k rec K a1 c2815 c2816 c2817 v) k v2814
noncomputable def q2 (self : ((List Key) × Int × Int) → Option Out) (e4 : Int → Option Out) (a1 : Arg) (c2815 : List Key) (c2816 : Int) (c2817 : Int) (z3020 : Bool) : Option Out := bif z3020 then (self (c2815, w64 (c2816 + (1 : Int)), w64 (c2817 + (1 : Int)))) else self (c2815, c2816, w64 (c2817 + (1 : Int)))
noncomputable def Q2 (k : Nat) (self : ((List Key) × Int × Int) → Option Out) (e4 : Int → Option Out) (a1 : Arg) (c2815 : List Key) (c2816 : Int) (c2817 : Int) (z3020 : Bool) : Option Out := q2 self e4 a1 c2815 c2816 c2817 z3020
theorem q2_eq (k : Nat) (rec : St → Option Out) (K : Ex → St → Option Out) (a1 : Arg) (c2815 : List Key) (c2816 : Int) (c2817 : Int) (z3020 : Bool) : (blockC 6 (seqC (codeK E k fin (sub [1, 1, 1, 1, 1, 1, 0, 1, 0, 0, 1, 0, 0, 1, 1] C)) (blockC 5 (seqC (codeK E k fin (sub [1, 1, 1, 1, 1, 1, 0, 1, 0, 0, 1, 1] C)) (loopC rec (keepF [7, 10, 11] []) K))))) (.exit 6) ({ n := 82, sl := [(7, .own (.slc tKey) (ownMd (.slc tKey)) [] c2815), (10, .val i64 c2816), (11, .val i64 c2817), (12, .val .bool z3020)], vr := [], lent := [] }) = q2 (S2 rec a1) (X2_4 K a1) a1 c2815 c2816 c2817 z3020 := by kernel_rfl
theorem Q2_eq (k : Nat) (rec : St → Option Out) (K : Ex → St → Option Out) (a1 : Arg) (c2815 : List Key) (c2816 : Int) (c2817 : Int) (z3020 : Bool) : (blockC 6 (seqC (codeK E k fin (sub [1, 1, 1, 1, 1, 1, 0, 1, 0, 0, 1, 0, 0, 1, 1] C)) (blockC 5 (seqC (codeK E k fin (sub [1, 1, 1, 1, 1, 1, 0, 1, 0, 0, 1, 1] C)) (loopC rec (keepF [7, 10, 11] []) K))))) (.exit 6) ({ n := 82, sl := [(7, .own (.slc tKey) (ownMd (.slc tKey)) [] c2815), (10, .val i64 c2816), (11, .val i64 c2817), (12, .val .bool z3020)], vr := [], lent := [] }) = Q2 k (S2 rec a1) (X2_4 K a1) a1 c2815 c2816 c2817 z3020 := (q2_eq k rec K a1 c2815 c2816 c2817 z3020).trans (by rfl)
noncomputable def s3 (k : Nat) (rec : St → Option Out) (K : Ex → St → Option Out) (a1 : Arg) : (List Key) → Int → Int → (Bool × Int) → Option Out := fun c2815 c2816 c2817 v2814 => iterK (codeK E k fin (sub [1, 1, 1, 1, 1, 1, 0, 1, 0, 0, 1, 0, 0, 1, 0, 1, 0, 0] C)) (keepF [7, 10, 11, 12, 13] []) (blockC 6 (seqC (codeK E k fin (sub [1, 1, 1, 1, 1, 1, 0, 1, 0, 0, 1, 0, 0, 1, 1] C)) (blockC 5 (seqC (codeK E k fin (sub [1, 1, 1, 1, 1, 1, 0, 1, 0, 0, 1, 1] C)) (loopC rec (keepF [7, 10, 11] []) K))))) k ({ n := 82, sl := [(7, .own (.slc tKey) (ownMd (.slc tKey)) [] c2815), (10, .val i64 c2816), (11, .val i64 c2817), (12, .val .bool v2814.1), (13, .val i64 v2814.2)], vr := [], lent := [] })
noncomputable def r3 (k : Nat) (self : ((List Key) × Int × Int) → Option Out) (e4 : Int → Option Out) (a1 : Arg) : (List Key) → Int → Int → (Bool × Int) → Option Out := fun c2815 c2816 c2817 v2814 => l3 k a1 c2815 c2816 c2817 (fun z => Q2 k self e4 a1 c2815 c2816 c2817 z) v2814
theorem s3_eq (k : Nat) (rec : St → Option Out) (K : Ex → St → Option Out) (a1 : Arg) : s3 k rec K a1 = r3 k (S2 rec a1) (X2_4 K a1) a1 := by
  funext c2815; funext c2816; funext c2817; funext v2814;
  have h6 : X3_6 ((blockC 6 (seqC (codeK E k fin (sub [1, 1, 1, 1, 1, 1, 0, 1, 0, 0, 1, 0, 0, 1, 1] C)) (blockC 5 (seqC (codeK E k fin (sub [1, 1, 1, 1, 1, 1, 0, 1, 0, 0, 1, 1] C)) (loopC rec (keepF [7, 10, 11] []) K)))))) a1 c2815 c2816 c2817 = fun z => Q2 k (S2 rec a1) (X2_4 K a1) a1 c2815 c2816 c2817 z := funext fun z => Q2_eq k rec K a1 c2815 c2816 c2817 z
  refine (l3_eq k ((blockC 6 (seqC (codeK E k fin (sub [1, 1, 1, 1, 1, 1, 0, 1, 0, 0, 1, 0, 0, 1, 1] C)) (blockC 5 (seqC (codeK E k fin (sub [1, 1, 1, 1, 1, 1, 0, 1, 0, 0, 1, 1] C)) (loopC rec (keepF [7, 10, 11] []) K)))))) a1 c2815 c2816 c2817 v2814).trans ?_
  rw [h6]
  rfl
noncomputable def b2 (self : ((List Key) × Int × Int) → Option Out) (e4 : Int → Option Out) (l3 : (List Key) → Int → Int → (Bool × Int) → Option Out) (a1 : Arg) (v2213 : (List Key) × Int × Int) : Option Out := bif decide (v2213.2.2 < (v2213.1.length : Int)) then (l3 v2213.1 v2213.2.1 v2213.2.2 (true, (0 : Int))) else e4 v2213.2.1
noncomputable def B2 (k : Nat) (self : ((List Key) × Int × Int) → Option Out) (e4 : Int → Option Out) (a1 : Arg) (v2213 : (List Key) × Int × Int) : Option Out := b2 self e4 (r3 k self e4 a1) a1 v2213
theorem b2_eq (k : Nat) (rec : St → Option Out) (K : Ex → St → Option Out) (a1 : Arg) (v2213 : (List Key) × Int × Int) : codeK E k fin (sub [1, 1, 1, 1, 1, 1, 0, 1, 0, 0] C) ({ n := 82, sl := [(7, .own (.slc tKey) (ownMd (.slc tKey)) [] v2213.1), (10, .val i64 v2213.2.1), (11, .val i64 v2213.2.2)], vr := [], lent := [] }) (loopC rec (keepF [7, 10, 11] []) K) = b2 (S2 rec a1) (X2_4 K a1) (s3 k rec K a1) a1 v2213 := by kernel_rfl
theorem B2_eq (k : Nat) (rec : St → Option Out) (K : Ex → St → Option Out) (a1 : Arg) (v2213 : (List Key) × Int × Int) : codeK E k fin (sub [1, 1, 1, 1, 1, 1, 0, 1, 0, 0] C) ({ n := 82, sl := [(7, .own (.slc tKey) (ownMd (.slc tKey)) [] v2213.1), (10, .val i64 v2213.2.1), (11, .val i64 v2213.2.2)], vr := [], lent := [] }) (loopC rec (keepF [7, 10, 11] []) K) = B2 k (S2 rec a1) (X2_4 K a1) a1 v2213 := (b2_eq k rec K a1 v2213).trans (by rw [s3_eq]; rfl)
noncomputable def l2 (k : Nat) (a1 : Arg) (e4 : Int → Option Out) (v : (List Key) × Int × Int) : Option Out := rawIter (fun self v => B2 k self e4 a1 v) k v
theorem l2_eq (k : Nat) (K : Ex → St → Option Out) (a1 : Arg) (v2213 : (List Key) × Int × Int) : iterK (codeK E k fin (sub [1, 1, 1, 1, 1, 1, 0, 1, 0, 0] C)) (keepF [7, 10, 11] []) K k ({ n := 82, sl := [(7, .own (.slc tKey) (ownMd (.slc tKey)) [] v2213.1), (10, .val i64 v2213.2.1), (11, .val i64 v2213.2.2)], vr := [], lent := [] }) = l2 k a1 (X2_4 K a1) v2213 :=
  iter_raw _ _ K (fun v2213 => ({ n := 82, sl := [(7, .own (.slc tKey) (ownMd (.slc tKey)) [] v2213.1), (10, .val i64 v2213.2.1), (11, .val i64 v2213.2.2)], vr := [], lent := [] } : St)) (fun self v => B2 k self (X2_4 K a1) a1 v) (fun rec v => B2_eq k rec K a1 v) k v2213
noncomputable def q3 (a1 : Arg) (z3021 : Int) : Option Out := some (z3021, ())
noncomputable def Q3 (k : Nat) (a1 : Arg) (z3021 : Int) : Option Out := q3 a1 z3021
theorem q3_eq (k : Nat) (a1 : Arg) (z3021 : Int) : (blockC 4 (seqC (codeK E k fin (sub [1, 1, 1, 1, 1, 1, 1] C)) K0)) (.exit 4) ({ n := 82, sl := [(10, .val i64 z3021)], vr := [], lent := [] }) = q3 a1 z3021 := by kernel_rfl
theorem Q3_eq (k : Nat) (a1 : Arg) (z3021 : Int) : (blockC 4 (seqC (codeK E k fin (sub [1, 1, 1, 1, 1, 1, 1] C)) K0)) (.exit 4) ({ n := 82, sl := [(10, .val i64 z3021)], vr := [], lent := [] }) = Q3 k a1 z3021 := (q3_eq k a1 z3021).trans (by rfl)
noncomputable def s2 (k : Nat) (a1 : Arg) : ((List Key) × Int × Int) → Option Out := fun v2213 => iterK (codeK E k fin (sub [1, 1, 1, 1, 1, 1, 0, 1, 0, 0] C)) (keepF [7, 10, 11] []) (blockC 4 (seqC (codeK E k fin (sub [1, 1, 1, 1, 1, 1, 1] C)) K0)) k ({ n := 82, sl := [(7, .own (.slc tKey) (ownMd (.slc tKey)) [] v2213.1), (10, .val i64 v2213.2.1), (11, .val i64 v2213.2.2)], vr := [], lent := [] })
noncomputable def r2 (k : Nat) (a1 : Arg) : ((List Key) × Int × Int) → Option Out := fun v2213 => l2 k a1 (fun z => Q3 k a1 z) v2213
theorem s2_eq (k : Nat) (a1 : Arg) : s2 k a1 = r2 k a1 := by
  funext v2213;
  have h4 : X2_4 ((blockC 4 (seqC (codeK E k fin (sub [1, 1, 1, 1, 1, 1, 1] C)) K0))) a1 = fun z => Q3 k a1 z := funext fun z => Q3_eq k a1 z
  refine (l2_eq k ((blockC 4 (seqC (codeK E k fin (sub [1, 1, 1, 1, 1, 1, 1] C)) K0))) a1 v2213).trans ?_
  rw [h4]
  rfl
noncomputable def q1 (l2 : ((List Key) × Int × Int) → Option Out) (a1 : Arg) (z1208 : (List Key)) : Option Out := let j1812 := fun (p1811 : List Key) => (l2 (p1811, (0 : Int), (0 : Int)) : Option Out); bif !decide (a1.2.2.1.2.1 = (0 : Int)) then (if z1208.length + [a1.2.2.1].length ≤ CAP then (j1812 (z1208 ++ [a1.2.2.1])) else none) else j1812 z1208
noncomputable def Q1 (k : Nat) (a1 : Arg) (z1208 : (List Key)) : Option Out := q1 (r2 k a1) a1 z1208
theorem q1_eq (k : Nat) (a1 : Arg) (z1208 : (List Key)) : (blockC 2 (seqC (codeK E k fin (sub [1, 1, 1, 1] C)) K0)) (.exit 2) ({ n := 82, sl := [(5, .box tKey (roMd tKey) [] a1.2.2.1), (7, .own (.slc tKey) (ownMd (.slc tKey)) [] z1208)], vr := [], lent := [] }) = q1 (s2 k a1) a1 z1208 := by kernel_rfl
theorem Q1_eq (k : Nat) (a1 : Arg) (z1208 : (List Key)) : (blockC 2 (seqC (codeK E k fin (sub [1, 1, 1, 1] C)) K0)) (.exit 2) ({ n := 82, sl := [(5, .box tKey (roMd tKey) [] a1.2.2.1), (7, .own (.slc tKey) (ownMd (.slc tKey)) [] z1208)], vr := [], lent := [] }) = Q1 k a1 z1208 := (q1_eq k a1 z1208).trans (by rw [s2_eq]; rfl)
noncomputable def s1 (k : Nat) (a1 : Arg) : ((List Key) × Int) → Option Out := fun v1006 => iterK (codeK E k fin (sub [1, 1, 1, 0, 1, 0, 0] C)) (keepF [1, 5, 7, 9] []) (blockC 2 (seqC (codeK E k fin (sub [1, 1, 1, 1] C)) K0)) k ({ n := 82, sl := [(1, .val (.slc tTx) a1.2.1), (5, .box tKey (roMd tKey) [] a1.2.2.1), (7, .own (.slc tKey) (ownMd (.slc tKey)) [] v1006.1), (9, .val i64 v1006.2)], vr := [], lent := [] })
noncomputable def r1 (k : Nat) (a1 : Arg) : ((List Key) × Int) → Option Out := fun v1006 => l1 k a1 (fun z => Q1 k a1 z) v1006
theorem s1_eq (k : Nat) (a1 : Arg) : s1 k a1 = r1 k a1 := by
  funext v1006;
  have h2 : X1_2 ((blockC 2 (seqC (codeK E k fin (sub [1, 1, 1, 1] C)) K0))) a1 = fun z => Q1 k a1 z := funext fun z => Q1_eq k a1 z
  refine (l1_eq k ((blockC 2 (seqC (codeK E k fin (sub [1, 1, 1, 1] C)) K0))) a1 v1006).trans ?_
  rw [h2]
  rfl
noncomputable def q0 (l1 : ((List Key) × Int) → Option Out) (a1 : Arg) (z605 : (List Key)) : Option Out := l1 (z605, (0 : Int))
noncomputable def Q0 (k : Nat) (a1 : Arg) (z605 : (List Key)) : Option Out := q0 (r1 k a1) a1 z605
theorem q0_eq (k : Nat) (a1 : Arg) (z605 : (List Key)) : (blockC 0 (seqC (codeK E k fin (sub [1, 1, 1] C)) K0)) (.exit 0) ({ n := 82, sl := [(1, .val (.slc tTx) a1.2.1), (5, .box tKey (roMd tKey) [] a1.2.2.1), (7, .own (.slc tKey) (ownMd (.slc tKey)) [] z605)], vr := [], lent := [] }) = q0 (s1 k a1) a1 z605 := by kernel_rfl
theorem Q0_eq (k : Nat) (a1 : Arg) (z605 : (List Key)) : (blockC 0 (seqC (codeK E k fin (sub [1, 1, 1] C)) K0)) (.exit 0) ({ n := 82, sl := [(1, .val (.slc tTx) a1.2.1), (5, .box tKey (roMd tKey) [] a1.2.2.1), (7, .own (.slc tKey) (ownMd (.slc tKey)) [] z605)], vr := [], lent := [] }) = Q0 k a1 z605 := (q0_eq k a1 z605).trans (by rw [s1_eq]; rfl)
noncomputable def s0 (k : Nat) (a1 : Arg) : ((List Key) × Int) → Option Out := fun v402 => iterK (codeK E k fin (sub [1, 1, 0, 1, 0, 0] C)) (keepF [0, 1, 5, 7, 8] []) (blockC 0 (seqC (codeK E k fin (sub [1, 1, 1] C)) K0)) k ({ n := 82, sl := [(0, .val (.slc tRow) a1.1), (1, .val (.slc tTx) a1.2.1), (5, .box tKey (roMd tKey) [] a1.2.2.1), (7, .own (.slc tKey) (ownMd (.slc tKey)) [] v402.1), (8, .val i64 v402.2)], vr := [], lent := [] })
noncomputable def r0 (k : Nat) (a1 : Arg) : ((List Key) × Int) → Option Out := fun v402 => l0 k a1 (fun z => Q0 k a1 z) v402
theorem s0_eq (k : Nat) (a1 : Arg) : s0 k a1 = r0 k a1 := by
  funext v402;
  have h0 : X0_0 ((blockC 0 (seqC (codeK E k fin (sub [1, 1, 1] C)) K0))) a1 = fun z => Q0 k a1 z := funext fun z => Q0_eq k a1 z
  refine (l0_eq k ((blockC 0 (seqC (codeK E k fin (sub [1, 1, 1] C)) K0))) a1 v402).trans ?_
  rw [h0]
  rfl
noncomputable def p (l0 : ((List Key) × Int) → Option Out) (a1 : Arg) : Option Out := l0 (([] : List Key), (0 : Int))
noncomputable def raw (k : Nat) (a1 : Arg) : Option Out := p (r0 k a1) a1
theorem p_eq (k : Nat) (a1 : Arg) : bodyK E k Go.Proofs.Try.f89 ps rs [] [] a1 = p (s0 k a1) a1 := by kernel_rfl
theorem raw_eq (k : Nat) (a1 : Arg) : bodyK E k Go.Proofs.Try.f89 ps rs [] [] a1 = raw k a1 := (p_eq k a1).trans (by rw [s0_eq]; rfl)
theorem ent : EnterOk Go.Proofs.Try.prog 89 sig.cap := ⟨Go.Proofs.Try.f89, Go.Proofs.Try.func89, by kernel_rfl, by kernel_rfl, by kernel_rfl⟩
theorem env : EnvOk Go.Proofs.Try.prog E := env_ok (tl := [(2, i64), (28, (.slc tRow)), (29, (.slc tTx)), (48, tRow), (97, (.slc tKey)), (99, tTx), (146, tKey)]) (gl := []) rfl rfl (by kernel_rfl) (by kernel_rfl) (fn_nil _)
theorem chk : funOk Go.Proofs.Try.prog E Go.Proofs.Try.f89 ps rs [] = true := by kernel_rfl
theorem snd : Sound Go.Proofs.Try.prog 89 sig := sound_of_body env Go.Proofs.Try.func89 rfl (es := []) (fr := []) chk (fun _ _ h => lift_some h)
end spec_l10Room
namespace spec_l11Fault
/-! loop example g00408 spec l11Fault -/
abbrev Arg : Type := Plain × Unit
abbrev Out : Type := Int × Unit
noncomputable def ps : List (PM × Ty) := [(.ro, (.ptr tPlain))]
noncomputable def rs : List (Ty × Md) := [(i64, (roMd i64))]
noncomputable def E : Env := { TI := lookN [(2, i64), (28, (.slc tRow)), (29, (.slc tTx)), (31, tPlain), (99, tTx), (146, tKey)], G := lookN [(50, spec_l11Back.sig), (56, spec_l6Rows.sig), (58, spec_l10Fault.sig), (88, spec_l1In.sig), (89, spec_l10Room.sig)], fz := [], lv := [], lx := [], lf := [], od := [(8, [0, 1, 2, 3, 4, 5, 6, 7, 8, 9, 10, 11, 12, 13, 14, 15, 16, 17, 18, 19, 20, 21, 22, 23, 24, 25]), (10, [0, 1, 2, 3, 4, 5, 6, 7, 8, 9, 10]), (12, [0, 1, 2, 3, 4, 5, 6, 7, 8, 9, 10, 11, 12, 13])], ar := [(8, [3, 13, 18, 22])] }
noncomputable def sem (a : Arg) : Option Out := lift fun k => bodyK E k Go.Proofs.Try.f44 ps rs [] [] a
noncomputable def sig : Sig := { ps := ps, rs := rs, F := fun a => sem a }
noncomputable def C : Code := bodyOf Go.Proofs.Try.f44
noncomputable def fin : St → Option Out := outK ps rs [] (Func.results Go.Proofs.Try.f44).toList (mvs [])
noncomputable def K0 : Ex → St → Option Out := endK fin
noncomputable def p (a1 : Arg) : Option Out := (spec_l6Rows.sem (a1.1.1, ())).bind fun r2 => bif !decide (r2.1 = (0 : Int)) then (some (r2.1, ())) else (spec_l10Fault.sem (a1.1.2.1, ())).bind fun r3 => bif !decide (r3.1 = (0 : Int)) then (some (r3.1, ())) else let j8 : Option Out := (spec_l10Room.sem (a1.1.1, a1.1.2.1, ((0 : Int), (0 : Int), ()), ())).bind fun r9 => bif decide ((12 : Int) < r9.1) then (some ((2 : Int), ())) else (spec_l11Back.sem (a1.1.1, a1.1.2.1, ())).bind fun r10 => bif !r10.2.1 then (some ((8 : Int), ())) else some ((0 : Int), ()); (spec_l1In.sem (a1.1.2.2.1, (1 : Int), (100 : Int), ())).bind fun r4 => bif !r4.1 then (some ((3 : Int), ())) else bif decide ((0 : Int) < (a1.1.2.1.length : Int)) then (if 0 ≤ w64 ((a1.1.2.1.length : Int) - (1 : Int)) then ((a1.1.2.1[(w64 ((a1.1.2.1.length : Int) - (1 : Int))).toNat]?).bind fun x5 => bif decide (a1.1.2.2.1 ≤ x5.1) then (some ((3 : Int), ())) else j8) else none) else j8
noncomputable def raw (k : Nat) (a1 : Arg) : Option Out := p a1
theorem p_eq (k : Nat) (a1 : Arg) : bodyK E k Go.Proofs.Try.f44 ps rs [] [] a1 = p a1 := by kernel_rfl
theorem raw_eq (k : Nat) (a1 : Arg) : bodyK E k Go.Proofs.Try.f44 ps rs [] [] a1 = raw k a1 := (p_eq k a1).trans (by rfl)
theorem ent : EnterOk Go.Proofs.Try.prog 44 sig.cap := ⟨Go.Proofs.Try.f44, Go.Proofs.Try.func44, by kernel_rfl, by kernel_rfl, by kernel_rfl⟩
theorem env : EnvOk Go.Proofs.Try.prog E := env_ok (tl := [(2, i64), (28, (.slc tRow)), (29, (.slc tTx)), (31, tPlain), (99, tTx), (146, tKey)]) (gl := [(50, spec_l11Back.sig), (56, spec_l6Rows.sig), (58, spec_l10Fault.sig), (88, spec_l1In.sig), (89, spec_l10Room.sig)]) rfl rfl (by kernel_rfl) (by kernel_rfl) (fn_cons spec_l11Back.snd spec_l11Back.ent (fn_cons spec_l6Rows.snd spec_l6Rows.ent (fn_cons spec_l10Fault.snd spec_l10Fault.ent (fn_cons spec_l1In.snd spec_l1In.ent (fn_cons spec_l10Room.snd spec_l10Room.ent (fn_nil _))))))
theorem chk : funOk Go.Proofs.Try.prog E Go.Proofs.Try.f44 ps rs [] = true := by kernel_rfl
theorem snd : Sound Go.Proofs.Try.prog 44 sig := sound_of_body env Go.Proofs.Try.func44 rfl (es := []) (fr := []) chk (fun _ _ h => lift_some h)
end spec_l11Fault
namespace laws_toRow
/-! loop example g00408 laws toRow -/
abbrev Arg : Type := Row × Unit
abbrev Out : Type := Row × Unit
noncomputable def ps : List (PM × Ty) := [(.ro, tRow)]
noncomputable def rs : List (Ty × Md) := [(tRow, (roMd tRow))]
noncomputable def E : Env := { TI := lookN [(2, i64), (9, .str), (42, tRow), (48, tRow)], G := lookN [], fz := [], lv := [], lx := [], lf := [], od := [] }
noncomputable def sem (a : Arg) : Option Out := lift fun k => bodyK E k Go.Proofs.Try.f61 ps rs [] [] a
noncomputable def sig : Sig := { ps := ps, rs := rs, F := fun a => sem a }
noncomputable def C : Code := bodyOf Go.Proofs.Try.f61
noncomputable def fin : St → Option Out := outK ps rs [] (Func.results Go.Proofs.Try.f61).toList (mvs [])
noncomputable def K0 : Ex → St → Option Out := endK fin
noncomputable def p (a1 : Arg) : Option Out := some ((a1.1.1, a1.1.2.1, a1.1.2.2.1, a1.1.2.2.2.1, ()), ())
noncomputable def raw (k : Nat) (a1 : Arg) : Option Out := p a1
theorem p_eq (k : Nat) (a1 : Arg) : bodyK E k Go.Proofs.Try.f61 ps rs [] [] a1 = p a1 := by kernel_rfl
theorem raw_eq (k : Nat) (a1 : Arg) : bodyK E k Go.Proofs.Try.f61 ps rs [] [] a1 = raw k a1 := (p_eq k a1).trans (by rfl)
theorem ent : EnterOk Go.Proofs.Try.prog 61 sig.cap := ⟨Go.Proofs.Try.f61, Go.Proofs.Try.func61, by kernel_rfl, by kernel_rfl, by kernel_rfl⟩
theorem env : EnvOk Go.Proofs.Try.prog E := env_ok (tl := [(2, i64), (9, .str), (42, tRow), (48, tRow)]) (gl := []) rfl rfl (by kernel_rfl) (by kernel_rfl) (fn_nil _)
theorem chk : funOk Go.Proofs.Try.prog E Go.Proofs.Try.f61 ps rs [] = true := by kernel_rfl
theorem snd : Sound Go.Proofs.Try.prog 61 sig := sound_of_body env Go.Proofs.Try.func61 rfl (es := []) (fr := []) chk (fun _ _ h => lift_some h)
end laws_toRow
namespace laws_toRowS
/-! loop example g00408 laws toRowS -/
abbrev Arg : Type := (List Row) × Unit
abbrev Out : Type := (List Row) × Unit
noncomputable def ps : List (PM × Ty) := [(.ro, (.slc tRow))]
noncomputable def rs : List (Ty × Md) := [((.slc tRow), (ownMd (.slc tRow)))]
noncomputable def E : Env := { TI := lookN [(22, (.slc tRow)), (28, (.slc tRow)), (42, tRow), (48, tRow)], G := lookN [(61, laws_toRow.sig)], fz := [], lv := [(3, [0, 3, 4])], lx := [(0, [3])], lf := [], od := [] }
noncomputable def sem (a : Arg) : Option Out := lift fun k => bodyK E k Go.Proofs.Try.f23 ps rs [] [] a
noncomputable def sig : Sig := { ps := ps, rs := rs, F := fun a => sem a }
noncomputable def C : Code := bodyOf Go.Proofs.Try.f23
noncomputable def fin : St → Option Out := outK ps rs [] (Func.results Go.Proofs.Try.f23).toList (mvs [])
noncomputable def K0 : Ex → St → Option Out := endK fin
noncomputable def S0 (rec : St → Option Out) (a1 : Arg) : ((List Row) × Int) → Option Out := fun v402 => rec ({ n := 23, sl := [(0, .val (.slc tRow) a1.1), (3, .own (.slc tRow) (ownMd (.slc tRow)) [] v402.1), (4, .val i64 v402.2)], vr := [], lent := [] })
noncomputable def X0_0 (K : Ex → St → Option Out) (a1 : Arg) : (List Row) → Option Out := fun z => K (.exit 0) ({ n := 23, sl := [(3, .own (.slc tRow) (ownMd (.slc tRow)) [] z)], vr := [], lent := [] })
noncomputable def b0 (self : ((List Row) × Int) → Option Out) (e0 : (List Row) → Option Out) (a1 : Arg) (v402 : (List Row) × Int) : Option Out := bif decide (v402.2 < (a1.1.length : Int)) then (if 0 ≤ v402.2 then ((a1.1[v402.2.toNat]?).bind fun x603 => (laws_toRow.sem (x603, ())).bind fun r604 => if 0 ≤ v402.2 ∧ v402.2 < (v402.1.length : Int) then ((v402.1[v402.2.toNat]?).bind fun x605 => self (v402.1.set v402.2.toNat r604.1, w64 (v402.2 + (1 : Int)))) else none) else none) else e0 v402.1
noncomputable def B0 (k : Nat) (self : ((List Row) × Int) → Option Out) (e0 : (List Row) → Option Out) (a1 : Arg) (v402 : (List Row) × Int) : Option Out := b0 self e0 a1 v402
theorem b0_eq (k : Nat) (rec : St → Option Out) (K : Ex → St → Option Out) (a1 : Arg) (v402 : (List Row) × Int) : codeK E k fin (sub [1, 1, 0, 1, 0, 0] C) ({ n := 23, sl := [(0, .val (.slc tRow) a1.1), (3, .own (.slc tRow) (ownMd (.slc tRow)) [] v402.1), (4, .val i64 v402.2)], vr := [], lent := [] }) (loopC rec (keepF [0, 3, 4] []) K) = b0 (S0 rec a1) (X0_0 K a1) a1 v402 := by kernel_rfl
theorem B0_eq (k : Nat) (rec : St → Option Out) (K : Ex → St → Option Out) (a1 : Arg) (v402 : (List Row) × Int) : codeK E k fin (sub [1, 1, 0, 1, 0, 0] C) ({ n := 23, sl := [(0, .val (.slc tRow) a1.1), (3, .own (.slc tRow) (ownMd (.slc tRow)) [] v402.1), (4, .val i64 v402.2)], vr := [], lent := [] }) (loopC rec (keepF [0, 3, 4] []) K) = B0 k (S0 rec a1) (X0_0 K a1) a1 v402 := (b0_eq k rec K a1 v402).trans (by rfl)
noncomputable def l0 (k : Nat) (a1 : Arg) (e0 : (List Row) → Option Out) (v : (List Row) × Int) : Option Out := rawIter (fun self v => B0 k self e0 a1 v) k v
theorem l0_eq (k : Nat) (K : Ex → St → Option Out) (a1 : Arg) (v402 : (List Row) × Int) : iterK (codeK E k fin (sub [1, 1, 0, 1, 0, 0] C)) (keepF [0, 3, 4] []) K k ({ n := 23, sl := [(0, .val (.slc tRow) a1.1), (3, .own (.slc tRow) (ownMd (.slc tRow)) [] v402.1), (4, .val i64 v402.2)], vr := [], lent := [] }) = l0 k a1 (X0_0 K a1) v402 :=
  iter_raw _ _ K (fun v402 => ({ n := 23, sl := [(0, .val (.slc tRow) a1.1), (3, .own (.slc tRow) (ownMd (.slc tRow)) [] v402.1), (4, .val i64 v402.2)], vr := [], lent := [] } : St)) (fun self v => B0 k self (X0_0 K a1) a1 v) (fun rec v => B0_eq k rec K a1 v) k v402
noncomputable def q0 (a1 : Arg) (z606 : (List Row)) : Option Out := some (z606, ())
noncomputable def Q0 (k : Nat) (a1 : Arg) (z606 : (List Row)) : Option Out := q0 a1 z606
theorem q0_eq (k : Nat) (a1 : Arg) (z606 : (List Row)) : (blockC 0 (seqC (codeK E k fin (sub [1, 1, 1] C)) K0)) (.exit 0) ({ n := 23, sl := [(3, .own (.slc tRow) (ownMd (.slc tRow)) [] z606)], vr := [], lent := [] }) = q0 a1 z606 := by kernel_rfl
theorem Q0_eq (k : Nat) (a1 : Arg) (z606 : (List Row)) : (blockC 0 (seqC (codeK E k fin (sub [1, 1, 1] C)) K0)) (.exit 0) ({ n := 23, sl := [(3, .own (.slc tRow) (ownMd (.slc tRow)) [] z606)], vr := [], lent := [] }) = Q0 k a1 z606 := (q0_eq k a1 z606).trans (by rfl)
noncomputable def s0 (k : Nat) (a1 : Arg) : ((List Row) × Int) → Option Out := fun v402 => iterK (codeK E k fin (sub [1, 1, 0, 1, 0, 0] C)) (keepF [0, 3, 4] []) (blockC 0 (seqC (codeK E k fin (sub [1, 1, 1] C)) K0)) k ({ n := 23, sl := [(0, .val (.slc tRow) a1.1), (3, .own (.slc tRow) (ownMd (.slc tRow)) [] v402.1), (4, .val i64 v402.2)], vr := [], lent := [] })
noncomputable def r0 (k : Nat) (a1 : Arg) : ((List Row) × Int) → Option Out := fun v402 => l0 k a1 (fun z => Q0 k a1 z) v402
theorem s0_eq (k : Nat) (a1 : Arg) : s0 k a1 = r0 k a1 := by
  funext v402;
  have h0 : X0_0 ((blockC 0 (seqC (codeK E k fin (sub [1, 1, 1] C)) K0))) a1 = fun z => Q0 k a1 z := funext fun z => Q0_eq k a1 z
  refine (l0_eq k ((blockC 0 (seqC (codeK E k fin (sub [1, 1, 1] C)) K0))) a1 v402).trans ?_
  rw [h0]
  rfl
noncomputable def p (l0 : ((List Row) × Int) → Option Out) (a1 : Arg) : Option Out := if 0 ≤ (a1.1.length : Int) ∧ (a1.1.length : Int) ≤ (a1.1.length : Int) ∧ (a1.1.length : Int) ≤ (CAP : Int) then (l0 (List.replicate (a1.1.length : Int).toNat ((0 : Int), (0 : Int), (0 : Int), ([] : List UInt8), ()), (0 : Int))) else none
noncomputable def raw (k : Nat) (a1 : Arg) : Option Out := p (r0 k a1) a1
theorem p_eq (k : Nat) (a1 : Arg) : bodyK E k Go.Proofs.Try.f23 ps rs [] [] a1 = p (s0 k a1) a1 := by kernel_rfl
theorem raw_eq (k : Nat) (a1 : Arg) : bodyK E k Go.Proofs.Try.f23 ps rs [] [] a1 = raw k a1 := (p_eq k a1).trans (by rw [s0_eq]; rfl)
theorem ent : EnterOk Go.Proofs.Try.prog 23 sig.cap := ⟨Go.Proofs.Try.f23, Go.Proofs.Try.func23, by kernel_rfl, by kernel_rfl, by kernel_rfl⟩
theorem env : EnvOk Go.Proofs.Try.prog E := env_ok (tl := [(22, (.slc tRow)), (28, (.slc tRow)), (42, tRow), (48, tRow)]) (gl := [(61, laws_toRow.sig)]) rfl rfl (by kernel_rfl) (by kernel_rfl) (fn_cons laws_toRow.snd laws_toRow.ent (fn_nil _))
theorem chk : funOk Go.Proofs.Try.prog E Go.Proofs.Try.f23 ps rs [] = true := by kernel_rfl
theorem snd : Sound Go.Proofs.Try.prog 23 sig := sound_of_body env Go.Proofs.Try.func23 rfl (es := []) (fr := []) chk (fun _ _ h => lift_some h)
end laws_toRowS
namespace laws_toChange
/-! loop example g00408 laws toChange -/
abbrev Arg : Type := Change × Unit
abbrev Out : Type := Change × Unit
noncomputable def ps : List (PM × Ty) := [(.ro, tChange)]
noncomputable def rs : List (Ty × Md) := [(tChange, (roMd tChange))]
noncomputable def E : Env := { TI := lookN [(4, .bool), (42, tRow), (48, tRow), (50, tChange), (205, tChange)], G := lookN [(61, laws_toRow.sig)], fz := [], lv := [], lx := [], lf := [], od := [] }
noncomputable def sem (a : Arg) : Option Out := lift fun k => bodyK E k Go.Proofs.Try.f162 ps rs [] [] a
noncomputable def sig : Sig := { ps := ps, rs := rs, F := fun a => sem a }
noncomputable def C : Code := bodyOf Go.Proofs.Try.f162
noncomputable def fin : St → Option Out := outK ps rs [] (Func.results Go.Proofs.Try.f162).toList (mvs [])
noncomputable def K0 : Ex → St → Option Out := endK fin
noncomputable def p (a1 : Arg) : Option Out := (laws_toRow.sem (a1.1.2.1, ())).bind fun r2 => (laws_toRow.sem (a1.1.2.2.2.1, ())).bind fun r3 => some ((a1.1.1, r2.1, a1.1.2.2.1, r3.1, ()), ())
noncomputable def raw (k : Nat) (a1 : Arg) : Option Out := p a1
theorem p_eq (k : Nat) (a1 : Arg) : bodyK E k Go.Proofs.Try.f162 ps rs [] [] a1 = p a1 := by kernel_rfl
theorem raw_eq (k : Nat) (a1 : Arg) : bodyK E k Go.Proofs.Try.f162 ps rs [] [] a1 = raw k a1 := (p_eq k a1).trans (by rfl)
theorem ent : EnterOk Go.Proofs.Try.prog 162 sig.cap := ⟨Go.Proofs.Try.f162, Go.Proofs.Try.func162, by kernel_rfl, by kernel_rfl, by kernel_rfl⟩
theorem env : EnvOk Go.Proofs.Try.prog E := env_ok (tl := [(4, .bool), (42, tRow), (48, tRow), (50, tChange), (205, tChange)]) (gl := [(61, laws_toRow.sig)]) rfl rfl (by kernel_rfl) (by kernel_rfl) (fn_cons laws_toRow.snd laws_toRow.ent (fn_nil _))
theorem chk : funOk Go.Proofs.Try.prog E Go.Proofs.Try.f162 ps rs [] = true := by kernel_rfl
theorem snd : Sound Go.Proofs.Try.prog 162 sig := sound_of_body env Go.Proofs.Try.func162 rfl (es := []) (fr := []) chk (fun _ _ h => lift_some h)
end laws_toChange
namespace laws_toChangeS
/-! loop example g00408 laws toChangeS -/
abbrev Arg : Type := (List Change) × Unit
abbrev Out : Type := (List Change) × Unit
noncomputable def ps : List (PM × Ty) := [(.ro, (.slc tChange))]
noncomputable def rs : List (Ty × Md) := [((.slc tChange), (ownMd (.slc tChange)))]
noncomputable def E : Env := { TI := lookN [(50, tChange), (65, (.slc tChange)), (110, (.slc tChange)), (205, tChange)], G := lookN [(162, laws_toChange.sig)], fz := [], lv := [(3, [0, 3, 4])], lx := [(0, [3])], lf := [], od := [] }
noncomputable def sem (a : Arg) : Option Out := lift fun k => bodyK E k Go.Proofs.Try.f116 ps rs [] [] a
noncomputable def sig : Sig := { ps := ps, rs := rs, F := fun a => sem a }
noncomputable def C : Code := bodyOf Go.Proofs.Try.f116
noncomputable def fin : St → Option Out := outK ps rs [] (Func.results Go.Proofs.Try.f116).toList (mvs [])
noncomputable def K0 : Ex → St → Option Out := endK fin
noncomputable def S0 (rec : St → Option Out) (a1 : Arg) : ((List Change) × Int) → Option Out := fun v402 => rec ({ n := 23, sl := [(0, .val (.slc tChange) a1.1), (3, .own (.slc tChange) (ownMd (.slc tChange)) [] v402.1), (4, .val i64 v402.2)], vr := [], lent := [] })
noncomputable def X0_0 (K : Ex → St → Option Out) (a1 : Arg) : (List Change) → Option Out := fun z => K (.exit 0) ({ n := 23, sl := [(3, .own (.slc tChange) (ownMd (.slc tChange)) [] z)], vr := [], lent := [] })
noncomputable def b0 (self : ((List Change) × Int) → Option Out) (e0 : (List Change) → Option Out) (a1 : Arg) (v402 : (List Change) × Int) : Option Out := bif decide (v402.2 < (a1.1.length : Int)) then (if 0 ≤ v402.2 then ((a1.1[v402.2.toNat]?).bind fun x603 => (laws_toChange.sem (x603, ())).bind fun r604 => if 0 ≤ v402.2 ∧ v402.2 < (v402.1.length : Int) then ((v402.1[v402.2.toNat]?).bind fun x605 => self (v402.1.set v402.2.toNat r604.1, w64 (v402.2 + (1 : Int)))) else none) else none) else e0 v402.1
noncomputable def B0 (k : Nat) (self : ((List Change) × Int) → Option Out) (e0 : (List Change) → Option Out) (a1 : Arg) (v402 : (List Change) × Int) : Option Out := b0 self e0 a1 v402
theorem b0_eq (k : Nat) (rec : St → Option Out) (K : Ex → St → Option Out) (a1 : Arg) (v402 : (List Change) × Int) : codeK E k fin (sub [1, 1, 0, 1, 0, 0] C) ({ n := 23, sl := [(0, .val (.slc tChange) a1.1), (3, .own (.slc tChange) (ownMd (.slc tChange)) [] v402.1), (4, .val i64 v402.2)], vr := [], lent := [] }) (loopC rec (keepF [0, 3, 4] []) K) = b0 (S0 rec a1) (X0_0 K a1) a1 v402 := by kernel_rfl
theorem B0_eq (k : Nat) (rec : St → Option Out) (K : Ex → St → Option Out) (a1 : Arg) (v402 : (List Change) × Int) : codeK E k fin (sub [1, 1, 0, 1, 0, 0] C) ({ n := 23, sl := [(0, .val (.slc tChange) a1.1), (3, .own (.slc tChange) (ownMd (.slc tChange)) [] v402.1), (4, .val i64 v402.2)], vr := [], lent := [] }) (loopC rec (keepF [0, 3, 4] []) K) = B0 k (S0 rec a1) (X0_0 K a1) a1 v402 := (b0_eq k rec K a1 v402).trans (by rfl)
noncomputable def l0 (k : Nat) (a1 : Arg) (e0 : (List Change) → Option Out) (v : (List Change) × Int) : Option Out := rawIter (fun self v => B0 k self e0 a1 v) k v
theorem l0_eq (k : Nat) (K : Ex → St → Option Out) (a1 : Arg) (v402 : (List Change) × Int) : iterK (codeK E k fin (sub [1, 1, 0, 1, 0, 0] C)) (keepF [0, 3, 4] []) K k ({ n := 23, sl := [(0, .val (.slc tChange) a1.1), (3, .own (.slc tChange) (ownMd (.slc tChange)) [] v402.1), (4, .val i64 v402.2)], vr := [], lent := [] }) = l0 k a1 (X0_0 K a1) v402 :=
  iter_raw _ _ K (fun v402 => ({ n := 23, sl := [(0, .val (.slc tChange) a1.1), (3, .own (.slc tChange) (ownMd (.slc tChange)) [] v402.1), (4, .val i64 v402.2)], vr := [], lent := [] } : St)) (fun self v => B0 k self (X0_0 K a1) a1 v) (fun rec v => B0_eq k rec K a1 v) k v402
noncomputable def q0 (a1 : Arg) (z606 : (List Change)) : Option Out := some (z606, ())
noncomputable def Q0 (k : Nat) (a1 : Arg) (z606 : (List Change)) : Option Out := q0 a1 z606
theorem q0_eq (k : Nat) (a1 : Arg) (z606 : (List Change)) : (blockC 0 (seqC (codeK E k fin (sub [1, 1, 1] C)) K0)) (.exit 0) ({ n := 23, sl := [(3, .own (.slc tChange) (ownMd (.slc tChange)) [] z606)], vr := [], lent := [] }) = q0 a1 z606 := by kernel_rfl
theorem Q0_eq (k : Nat) (a1 : Arg) (z606 : (List Change)) : (blockC 0 (seqC (codeK E k fin (sub [1, 1, 1] C)) K0)) (.exit 0) ({ n := 23, sl := [(3, .own (.slc tChange) (ownMd (.slc tChange)) [] z606)], vr := [], lent := [] }) = Q0 k a1 z606 := (q0_eq k a1 z606).trans (by rfl)
noncomputable def s0 (k : Nat) (a1 : Arg) : ((List Change) × Int) → Option Out := fun v402 => iterK (codeK E k fin (sub [1, 1, 0, 1, 0, 0] C)) (keepF [0, 3, 4] []) (blockC 0 (seqC (codeK E k fin (sub [1, 1, 1] C)) K0)) k ({ n := 23, sl := [(0, .val (.slc tChange) a1.1), (3, .own (.slc tChange) (ownMd (.slc tChange)) [] v402.1), (4, .val i64 v402.2)], vr := [], lent := [] })
noncomputable def r0 (k : Nat) (a1 : Arg) : ((List Change) × Int) → Option Out := fun v402 => l0 k a1 (fun z => Q0 k a1 z) v402
theorem s0_eq (k : Nat) (a1 : Arg) : s0 k a1 = r0 k a1 := by
  funext v402;
  have h0 : X0_0 ((blockC 0 (seqC (codeK E k fin (sub [1, 1, 1] C)) K0))) a1 = fun z => Q0 k a1 z := funext fun z => Q0_eq k a1 z
  refine (l0_eq k ((blockC 0 (seqC (codeK E k fin (sub [1, 1, 1] C)) K0))) a1 v402).trans ?_
  rw [h0]
  rfl
noncomputable def p (l0 : ((List Change) × Int) → Option Out) (a1 : Arg) : Option Out := if 0 ≤ (a1.1.length : Int) ∧ (a1.1.length : Int) ≤ (a1.1.length : Int) ∧ (a1.1.length : Int) ≤ (CAP : Int) then (l0 (List.replicate (a1.1.length : Int).toNat (false, ((0 : Int), (0 : Int), (0 : Int), ([] : List UInt8), ()), false, ((0 : Int), (0 : Int), (0 : Int), ([] : List UInt8), ()), ()), (0 : Int))) else none
noncomputable def raw (k : Nat) (a1 : Arg) : Option Out := p (r0 k a1) a1
theorem p_eq (k : Nat) (a1 : Arg) : bodyK E k Go.Proofs.Try.f116 ps rs [] [] a1 = p (s0 k a1) a1 := by kernel_rfl
theorem raw_eq (k : Nat) (a1 : Arg) : bodyK E k Go.Proofs.Try.f116 ps rs [] [] a1 = raw k a1 := (p_eq k a1).trans (by rw [s0_eq]; rfl)
theorem ent : EnterOk Go.Proofs.Try.prog 116 sig.cap := ⟨Go.Proofs.Try.f116, Go.Proofs.Try.func116, by kernel_rfl, by kernel_rfl, by kernel_rfl⟩
theorem env : EnvOk Go.Proofs.Try.prog E := env_ok (tl := [(50, tChange), (65, (.slc tChange)), (110, (.slc tChange)), (205, tChange)]) (gl := [(162, laws_toChange.sig)]) rfl rfl (by kernel_rfl) (by kernel_rfl) (fn_cons laws_toChange.snd laws_toChange.ent (fn_nil _))
theorem chk : funOk Go.Proofs.Try.prog E Go.Proofs.Try.f116 ps rs [] = true := by kernel_rfl
theorem snd : Sound Go.Proofs.Try.prog 116 sig := sound_of_body env Go.Proofs.Try.func116 rfl (es := []) (fr := []) chk (fun _ _ h => lift_some h)
end laws_toChangeS
namespace laws_toInt64S
/-! loop example g00408 laws toInt64S -/
abbrev Arg : Type := (List Int) × Unit
abbrev Out : Type := (List Int) × Unit
noncomputable def ps : List (PM × Ty) := [(.ro, (.slc i64))]
noncomputable def rs : List (Ty × Md) := [((.slc i64), (ownMd (.slc i64)))]
noncomputable def E : Env := { TI := lookN [(2, i64), (96, (.slc i64))], G := lookN [], fz := [], lv := [(3, [0, 3, 4])], lx := [(0, [3])], lf := [], od := [] }
noncomputable def sem (a : Arg) : Option Out := lift fun k => bodyK E k Go.Proofs.Try.f117 ps rs [] [] a
noncomputable def sig : Sig := { ps := ps, rs := rs, F := fun a => sem a }
noncomputable def C : Code := bodyOf Go.Proofs.Try.f117
noncomputable def fin : St → Option Out := outK ps rs [] (Func.results Go.Proofs.Try.f117).toList (mvs [])
noncomputable def K0 : Ex → St → Option Out := endK fin
noncomputable def S0 (rec : St → Option Out) (a1 : Arg) : ((List Int) × Int) → Option Out := fun v402 => rec ({ n := 22, sl := [(0, .val (.slc i64) a1.1), (3, .own (.slc i64) (ownMd (.slc i64)) [] v402.1), (4, .val i64 v402.2)], vr := [], lent := [] })
noncomputable def X0_0 (K : Ex → St → Option Out) (a1 : Arg) : (List Int) → Option Out := fun z => K (.exit 0) ({ n := 22, sl := [(3, .own (.slc i64) (ownMd (.slc i64)) [] z)], vr := [], lent := [] })
noncomputable def b0 (self : ((List Int) × Int) → Option Out) (e0 : (List Int) → Option Out) (a1 : Arg) (v402 : (List Int) × Int) : Option Out := bif decide (v402.2 < (a1.1.length : Int)) then (if 0 ≤ v402.2 then ((a1.1[v402.2.toNat]?).bind fun x603 => if 0 ≤ v402.2 ∧ v402.2 < (v402.1.length : Int) then ((v402.1[v402.2.toNat]?).bind fun x604 => self (v402.1.set v402.2.toNat x603, w64 (v402.2 + (1 : Int)))) else none) else none) else e0 v402.1
noncomputable def B0 (k : Nat) (self : ((List Int) × Int) → Option Out) (e0 : (List Int) → Option Out) (a1 : Arg) (v402 : (List Int) × Int) : Option Out := b0 self e0 a1 v402
theorem b0_eq (k : Nat) (rec : St → Option Out) (K : Ex → St → Option Out) (a1 : Arg) (v402 : (List Int) × Int) : codeK E k fin (sub [1, 1, 0, 1, 0, 0] C) ({ n := 22, sl := [(0, .val (.slc i64) a1.1), (3, .own (.slc i64) (ownMd (.slc i64)) [] v402.1), (4, .val i64 v402.2)], vr := [], lent := [] }) (loopC rec (keepF [0, 3, 4] []) K) = b0 (S0 rec a1) (X0_0 K a1) a1 v402 := by kernel_rfl
theorem B0_eq (k : Nat) (rec : St → Option Out) (K : Ex → St → Option Out) (a1 : Arg) (v402 : (List Int) × Int) : codeK E k fin (sub [1, 1, 0, 1, 0, 0] C) ({ n := 22, sl := [(0, .val (.slc i64) a1.1), (3, .own (.slc i64) (ownMd (.slc i64)) [] v402.1), (4, .val i64 v402.2)], vr := [], lent := [] }) (loopC rec (keepF [0, 3, 4] []) K) = B0 k (S0 rec a1) (X0_0 K a1) a1 v402 := (b0_eq k rec K a1 v402).trans (by rfl)
noncomputable def l0 (k : Nat) (a1 : Arg) (e0 : (List Int) → Option Out) (v : (List Int) × Int) : Option Out := rawIter (fun self v => B0 k self e0 a1 v) k v
theorem l0_eq (k : Nat) (K : Ex → St → Option Out) (a1 : Arg) (v402 : (List Int) × Int) : iterK (codeK E k fin (sub [1, 1, 0, 1, 0, 0] C)) (keepF [0, 3, 4] []) K k ({ n := 22, sl := [(0, .val (.slc i64) a1.1), (3, .own (.slc i64) (ownMd (.slc i64)) [] v402.1), (4, .val i64 v402.2)], vr := [], lent := [] }) = l0 k a1 (X0_0 K a1) v402 :=
  iter_raw _ _ K (fun v402 => ({ n := 22, sl := [(0, .val (.slc i64) a1.1), (3, .own (.slc i64) (ownMd (.slc i64)) [] v402.1), (4, .val i64 v402.2)], vr := [], lent := [] } : St)) (fun self v => B0 k self (X0_0 K a1) a1 v) (fun rec v => B0_eq k rec K a1 v) k v402
noncomputable def q0 (a1 : Arg) (z605 : (List Int)) : Option Out := some (z605, ())
noncomputable def Q0 (k : Nat) (a1 : Arg) (z605 : (List Int)) : Option Out := q0 a1 z605
theorem q0_eq (k : Nat) (a1 : Arg) (z605 : (List Int)) : (blockC 0 (seqC (codeK E k fin (sub [1, 1, 1] C)) K0)) (.exit 0) ({ n := 22, sl := [(3, .own (.slc i64) (ownMd (.slc i64)) [] z605)], vr := [], lent := [] }) = q0 a1 z605 := by kernel_rfl
theorem Q0_eq (k : Nat) (a1 : Arg) (z605 : (List Int)) : (blockC 0 (seqC (codeK E k fin (sub [1, 1, 1] C)) K0)) (.exit 0) ({ n := 22, sl := [(3, .own (.slc i64) (ownMd (.slc i64)) [] z605)], vr := [], lent := [] }) = Q0 k a1 z605 := (q0_eq k a1 z605).trans (by rfl)
noncomputable def s0 (k : Nat) (a1 : Arg) : ((List Int) × Int) → Option Out := fun v402 => iterK (codeK E k fin (sub [1, 1, 0, 1, 0, 0] C)) (keepF [0, 3, 4] []) (blockC 0 (seqC (codeK E k fin (sub [1, 1, 1] C)) K0)) k ({ n := 22, sl := [(0, .val (.slc i64) a1.1), (3, .own (.slc i64) (ownMd (.slc i64)) [] v402.1), (4, .val i64 v402.2)], vr := [], lent := [] })
noncomputable def r0 (k : Nat) (a1 : Arg) : ((List Int) × Int) → Option Out := fun v402 => l0 k a1 (fun z => Q0 k a1 z) v402
theorem s0_eq (k : Nat) (a1 : Arg) : s0 k a1 = r0 k a1 := by
  funext v402;
  have h0 : X0_0 ((blockC 0 (seqC (codeK E k fin (sub [1, 1, 1] C)) K0))) a1 = fun z => Q0 k a1 z := funext fun z => Q0_eq k a1 z
  refine (l0_eq k ((blockC 0 (seqC (codeK E k fin (sub [1, 1, 1] C)) K0))) a1 v402).trans ?_
  rw [h0]
  rfl
noncomputable def p (l0 : ((List Int) × Int) → Option Out) (a1 : Arg) : Option Out := if 0 ≤ (a1.1.length : Int) ∧ (a1.1.length : Int) ≤ (a1.1.length : Int) ∧ (a1.1.length : Int) ≤ (CAP : Int) then (l0 (List.replicate (a1.1.length : Int).toNat (0 : Int), (0 : Int))) else none
noncomputable def raw (k : Nat) (a1 : Arg) : Option Out := p (r0 k a1) a1
theorem p_eq (k : Nat) (a1 : Arg) : bodyK E k Go.Proofs.Try.f117 ps rs [] [] a1 = p (s0 k a1) a1 := by kernel_rfl
theorem raw_eq (k : Nat) (a1 : Arg) : bodyK E k Go.Proofs.Try.f117 ps rs [] [] a1 = raw k a1 := (p_eq k a1).trans (by rw [s0_eq]; rfl)
theorem ent : EnterOk Go.Proofs.Try.prog 117 sig.cap := ⟨Go.Proofs.Try.f117, Go.Proofs.Try.func117, by kernel_rfl, by kernel_rfl, by kernel_rfl⟩
theorem env : EnvOk Go.Proofs.Try.prog E := env_ok (tl := [(2, i64), (96, (.slc i64))]) (gl := []) rfl rfl (by kernel_rfl) (by kernel_rfl) (fn_nil _)
theorem chk : funOk Go.Proofs.Try.prog E Go.Proofs.Try.f117 ps rs [] = true := by kernel_rfl
theorem snd : Sound Go.Proofs.Try.prog 117 sig := sound_of_body env Go.Proofs.Try.func117 rfl (es := []) (fr := []) chk (fun _ _ h => lift_some h)
end laws_toInt64S
namespace laws_toKey
/-! loop example g00408 laws toKey -/
abbrev Arg : Type := Key × Unit
abbrev Out : Type := Key × Unit
noncomputable def ps : List (PM × Ty) := [(.ro, tKey)]
noncomputable def rs : List (Ty × Md) := [(tKey, (roMd tKey))]
noncomputable def E : Env := { TI := lookN [(2, i64), (146, tKey), (219, tKey)], G := lookN [], fz := [], lv := [], lx := [], lf := [], od := [] }
noncomputable def sem (a : Arg) : Option Out := lift fun k => bodyK E k Go.Proofs.Try.f163 ps rs [] [] a
noncomputable def sig : Sig := { ps := ps, rs := rs, F := fun a => sem a }
noncomputable def C : Code := bodyOf Go.Proofs.Try.f163
noncomputable def fin : St → Option Out := outK ps rs [] (Func.results Go.Proofs.Try.f163).toList (mvs [])
noncomputable def K0 : Ex → St → Option Out := endK fin
noncomputable def p (a1 : Arg) : Option Out := some ((a1.1.1, a1.1.2.1, ()), ())
noncomputable def raw (k : Nat) (a1 : Arg) : Option Out := p a1
theorem p_eq (k : Nat) (a1 : Arg) : bodyK E k Go.Proofs.Try.f163 ps rs [] [] a1 = p a1 := by kernel_rfl
theorem raw_eq (k : Nat) (a1 : Arg) : bodyK E k Go.Proofs.Try.f163 ps rs [] [] a1 = raw k a1 := (p_eq k a1).trans (by rfl)
theorem ent : EnterOk Go.Proofs.Try.prog 163 sig.cap := ⟨Go.Proofs.Try.f163, Go.Proofs.Try.func163, by kernel_rfl, by kernel_rfl, by kernel_rfl⟩
theorem env : EnvOk Go.Proofs.Try.prog E := env_ok (tl := [(2, i64), (146, tKey), (219, tKey)]) (gl := []) rfl rfl (by kernel_rfl) (by kernel_rfl) (fn_nil _)
theorem chk : funOk Go.Proofs.Try.prog E Go.Proofs.Try.f163 ps rs [] = true := by kernel_rfl
theorem snd : Sound Go.Proofs.Try.prog 163 sig := sound_of_body env Go.Proofs.Try.func163 rfl (es := []) (fr := []) chk (fun _ _ h => lift_some h)
end laws_toKey
namespace laws_toKeyS
/-! loop example g00408 laws toKeyS -/
abbrev Arg : Type := (List Key) × Unit
abbrev Out : Type := (List Key) × Unit
noncomputable def ps : List (PM × Ty) := [(.ro, (.slc tKey))]
noncomputable def rs : List (Ty × Md) := [((.slc tKey), (ownMd (.slc tKey)))]
noncomputable def E : Env := { TI := lookN [(97, (.slc tKey)), (111, (.slc tKey)), (146, tKey), (219, tKey)], G := lookN [(163, laws_toKey.sig)], fz := [], lv := [(3, [0, 3, 4])], lx := [(0, [3])], lf := [], od := [] }
noncomputable def sem (a : Arg) : Option Out := lift fun k => bodyK E k Go.Proofs.Try.f118 ps rs [] [] a
noncomputable def sig : Sig := { ps := ps, rs := rs, F := fun a => sem a }
noncomputable def C : Code := bodyOf Go.Proofs.Try.f118
noncomputable def fin : St → Option Out := outK ps rs [] (Func.results Go.Proofs.Try.f118).toList (mvs [])
noncomputable def K0 : Ex → St → Option Out := endK fin
noncomputable def S0 (rec : St → Option Out) (a1 : Arg) : ((List Key) × Int) → Option Out := fun v402 => rec ({ n := 23, sl := [(0, .val (.slc tKey) a1.1), (3, .own (.slc tKey) (ownMd (.slc tKey)) [] v402.1), (4, .val i64 v402.2)], vr := [], lent := [] })
noncomputable def X0_0 (K : Ex → St → Option Out) (a1 : Arg) : (List Key) → Option Out := fun z => K (.exit 0) ({ n := 23, sl := [(3, .own (.slc tKey) (ownMd (.slc tKey)) [] z)], vr := [], lent := [] })
noncomputable def b0 (self : ((List Key) × Int) → Option Out) (e0 : (List Key) → Option Out) (a1 : Arg) (v402 : (List Key) × Int) : Option Out := bif decide (v402.2 < (a1.1.length : Int)) then (if 0 ≤ v402.2 then ((a1.1[v402.2.toNat]?).bind fun x603 => (laws_toKey.sem (x603, ())).bind fun r604 => if 0 ≤ v402.2 ∧ v402.2 < (v402.1.length : Int) then ((v402.1[v402.2.toNat]?).bind fun x605 => self (v402.1.set v402.2.toNat r604.1, w64 (v402.2 + (1 : Int)))) else none) else none) else e0 v402.1
noncomputable def B0 (k : Nat) (self : ((List Key) × Int) → Option Out) (e0 : (List Key) → Option Out) (a1 : Arg) (v402 : (List Key) × Int) : Option Out := b0 self e0 a1 v402
theorem b0_eq (k : Nat) (rec : St → Option Out) (K : Ex → St → Option Out) (a1 : Arg) (v402 : (List Key) × Int) : codeK E k fin (sub [1, 1, 0, 1, 0, 0] C) ({ n := 23, sl := [(0, .val (.slc tKey) a1.1), (3, .own (.slc tKey) (ownMd (.slc tKey)) [] v402.1), (4, .val i64 v402.2)], vr := [], lent := [] }) (loopC rec (keepF [0, 3, 4] []) K) = b0 (S0 rec a1) (X0_0 K a1) a1 v402 := by kernel_rfl
theorem B0_eq (k : Nat) (rec : St → Option Out) (K : Ex → St → Option Out) (a1 : Arg) (v402 : (List Key) × Int) : codeK E k fin (sub [1, 1, 0, 1, 0, 0] C) ({ n := 23, sl := [(0, .val (.slc tKey) a1.1), (3, .own (.slc tKey) (ownMd (.slc tKey)) [] v402.1), (4, .val i64 v402.2)], vr := [], lent := [] }) (loopC rec (keepF [0, 3, 4] []) K) = B0 k (S0 rec a1) (X0_0 K a1) a1 v402 := (b0_eq k rec K a1 v402).trans (by rfl)
noncomputable def l0 (k : Nat) (a1 : Arg) (e0 : (List Key) → Option Out) (v : (List Key) × Int) : Option Out := rawIter (fun self v => B0 k self e0 a1 v) k v
theorem l0_eq (k : Nat) (K : Ex → St → Option Out) (a1 : Arg) (v402 : (List Key) × Int) : iterK (codeK E k fin (sub [1, 1, 0, 1, 0, 0] C)) (keepF [0, 3, 4] []) K k ({ n := 23, sl := [(0, .val (.slc tKey) a1.1), (3, .own (.slc tKey) (ownMd (.slc tKey)) [] v402.1), (4, .val i64 v402.2)], vr := [], lent := [] }) = l0 k a1 (X0_0 K a1) v402 :=
  iter_raw _ _ K (fun v402 => ({ n := 23, sl := [(0, .val (.slc tKey) a1.1), (3, .own (.slc tKey) (ownMd (.slc tKey)) [] v402.1), (4, .val i64 v402.2)], vr := [], lent := [] } : St)) (fun self v => B0 k self (X0_0 K a1) a1 v) (fun rec v => B0_eq k rec K a1 v) k v402
noncomputable def q0 (a1 : Arg) (z606 : (List Key)) : Option Out := some (z606, ())
noncomputable def Q0 (k : Nat) (a1 : Arg) (z606 : (List Key)) : Option Out := q0 a1 z606
theorem q0_eq (k : Nat) (a1 : Arg) (z606 : (List Key)) : (blockC 0 (seqC (codeK E k fin (sub [1, 1, 1] C)) K0)) (.exit 0) ({ n := 23, sl := [(3, .own (.slc tKey) (ownMd (.slc tKey)) [] z606)], vr := [], lent := [] }) = q0 a1 z606 := by kernel_rfl
theorem Q0_eq (k : Nat) (a1 : Arg) (z606 : (List Key)) : (blockC 0 (seqC (codeK E k fin (sub [1, 1, 1] C)) K0)) (.exit 0) ({ n := 23, sl := [(3, .own (.slc tKey) (ownMd (.slc tKey)) [] z606)], vr := [], lent := [] }) = Q0 k a1 z606 := (q0_eq k a1 z606).trans (by rfl)
noncomputable def s0 (k : Nat) (a1 : Arg) : ((List Key) × Int) → Option Out := fun v402 => iterK (codeK E k fin (sub [1, 1, 0, 1, 0, 0] C)) (keepF [0, 3, 4] []) (blockC 0 (seqC (codeK E k fin (sub [1, 1, 1] C)) K0)) k ({ n := 23, sl := [(0, .val (.slc tKey) a1.1), (3, .own (.slc tKey) (ownMd (.slc tKey)) [] v402.1), (4, .val i64 v402.2)], vr := [], lent := [] })
noncomputable def r0 (k : Nat) (a1 : Arg) : ((List Key) × Int) → Option Out := fun v402 => l0 k a1 (fun z => Q0 k a1 z) v402
theorem s0_eq (k : Nat) (a1 : Arg) : s0 k a1 = r0 k a1 := by
  funext v402;
  have h0 : X0_0 ((blockC 0 (seqC (codeK E k fin (sub [1, 1, 1] C)) K0))) a1 = fun z => Q0 k a1 z := funext fun z => Q0_eq k a1 z
  refine (l0_eq k ((blockC 0 (seqC (codeK E k fin (sub [1, 1, 1] C)) K0))) a1 v402).trans ?_
  rw [h0]
  rfl
noncomputable def p (l0 : ((List Key) × Int) → Option Out) (a1 : Arg) : Option Out := if 0 ≤ (a1.1.length : Int) ∧ (a1.1.length : Int) ≤ (a1.1.length : Int) ∧ (a1.1.length : Int) ≤ (CAP : Int) then (l0 (List.replicate (a1.1.length : Int).toNat ((0 : Int), (0 : Int), ()), (0 : Int))) else none
noncomputable def raw (k : Nat) (a1 : Arg) : Option Out := p (r0 k a1) a1
theorem p_eq (k : Nat) (a1 : Arg) : bodyK E k Go.Proofs.Try.f118 ps rs [] [] a1 = p (s0 k a1) a1 := by kernel_rfl
theorem raw_eq (k : Nat) (a1 : Arg) : bodyK E k Go.Proofs.Try.f118 ps rs [] [] a1 = raw k a1 := (p_eq k a1).trans (by rw [s0_eq]; rfl)
theorem ent : EnterOk Go.Proofs.Try.prog 118 sig.cap := ⟨Go.Proofs.Try.f118, Go.Proofs.Try.func118, by kernel_rfl, by kernel_rfl, by kernel_rfl⟩
theorem env : EnvOk Go.Proofs.Try.prog E := env_ok (tl := [(97, (.slc tKey)), (111, (.slc tKey)), (146, tKey), (219, tKey)]) (gl := [(163, laws_toKey.sig)]) rfl rfl (by kernel_rfl) (by kernel_rfl) (fn_cons laws_toKey.snd laws_toKey.ent (fn_nil _))
theorem chk : funOk Go.Proofs.Try.prog E Go.Proofs.Try.f118 ps rs [] = true := by kernel_rfl
theorem snd : Sound Go.Proofs.Try.prog 118 sig := sound_of_body env Go.Proofs.Try.func118 rfl (es := []) (fr := []) chk (fun _ _ h => lift_some h)
end laws_toKeyS
namespace laws_toTx
/-! loop example g00408 laws toTx -/
abbrev Arg : Type := Tx × Unit
abbrev Out : Type := Tx × Unit
noncomputable def ps : List (PM × Ty) := [(.ro, tTx)]
noncomputable def rs : List (Ty × Md) := [(tTx, (ownMd tTx))]
noncomputable def E : Env := { TI := lookN [(2, i64), (65, (.slc tChange)), (96, (.slc i64)), (97, (.slc tKey)), (99, tTx), (110, (.slc tChange)), (111, (.slc tKey)), (113, tTx)], G := lookN [(116, laws_toChangeS.sig), (117, laws_toInt64S.sig), (118, laws_toKeyS.sig)], fz := [], lv := [], lx := [], lf := [], od := [] }
noncomputable def sem (a : Arg) : Option Out := lift fun k => bodyK E k Go.Proofs.Try.f62 ps rs [] [] a
noncomputable def sig : Sig := { ps := ps, rs := rs, F := fun a => sem a }
noncomputable def C : Code := bodyOf Go.Proofs.Try.f62
noncomputable def fin : St → Option Out := outK ps rs [] (Func.results Go.Proofs.Try.f62).toList (mvs [])
noncomputable def K0 : Ex → St → Option Out := endK fin
noncomputable def p (a1 : Arg) : Option Out := (laws_toChangeS.sem (a1.1.2.1, ())).bind fun r2 => (laws_toInt64S.sem (a1.1.2.2.1, ())).bind fun r3 => (laws_toKeyS.sem (a1.1.2.2.2.1, ())).bind fun r4 => some ((a1.1.1, r2.1, r3.1, r4.1, ()), ())
noncomputable def raw (k : Nat) (a1 : Arg) : Option Out := p a1
theorem p_eq (k : Nat) (a1 : Arg) : bodyK E k Go.Proofs.Try.f62 ps rs [] [] a1 = p a1 := by kernel_rfl
theorem raw_eq (k : Nat) (a1 : Arg) : bodyK E k Go.Proofs.Try.f62 ps rs [] [] a1 = raw k a1 := (p_eq k a1).trans (by rfl)
theorem ent : EnterOk Go.Proofs.Try.prog 62 sig.cap := ⟨Go.Proofs.Try.f62, Go.Proofs.Try.func62, by kernel_rfl, by kernel_rfl, by kernel_rfl⟩
theorem env : EnvOk Go.Proofs.Try.prog E := env_ok (tl := [(2, i64), (65, (.slc tChange)), (96, (.slc i64)), (97, (.slc tKey)), (99, tTx), (110, (.slc tChange)), (111, (.slc tKey)), (113, tTx)]) (gl := [(116, laws_toChangeS.sig), (117, laws_toInt64S.sig), (118, laws_toKeyS.sig)]) rfl rfl (by kernel_rfl) (by kernel_rfl) (fn_cons laws_toChangeS.snd laws_toChangeS.ent (fn_cons laws_toInt64S.snd laws_toInt64S.ent (fn_cons laws_toKeyS.snd laws_toKeyS.ent (fn_nil _))))
theorem chk : funOk Go.Proofs.Try.prog E Go.Proofs.Try.f62 ps rs [] = true := by kernel_rfl
theorem snd : Sound Go.Proofs.Try.prog 62 sig := sound_of_body env Go.Proofs.Try.func62 rfl (es := []) (fr := []) chk (fun _ _ h => lift_some h)
end laws_toTx
namespace laws_toTxS
/-! loop example g00408 laws toTxS -/
abbrev Arg : Type := (List Tx) × Unit
abbrev Out : Type := (List Tx) × Unit
noncomputable def ps : List (PM × Ty) := [(.ro, (.slc tTx))]
noncomputable def rs : List (Ty × Md) := [((.slc tTx), (ownMd (.slc tTx)))]
noncomputable def E : Env := { TI := lookN [(23, (.slc tTx)), (29, (.slc tTx)), (99, tTx), (113, tTx)], G := lookN [(62, laws_toTx.sig)], fz := [], lv := [(3, [0, 3, 4])], lx := [(0, [3])], lf := [], od := [] }
noncomputable def sem (a : Arg) : Option Out := lift fun k => bodyK E k Go.Proofs.Try.f24 ps rs [] [] a
noncomputable def sig : Sig := { ps := ps, rs := rs, F := fun a => sem a }
noncomputable def C : Code := bodyOf Go.Proofs.Try.f24
noncomputable def fin : St → Option Out := outK ps rs [] (Func.results Go.Proofs.Try.f24).toList (mvs [])
noncomputable def K0 : Ex → St → Option Out := endK fin
noncomputable def S0 (rec : St → Option Out) (a1 : Arg) : ((List Tx) × Int) → Option Out := fun v402 => rec ({ n := 23, sl := [(0, .val (.slc tTx) a1.1), (3, .own (.slc tTx) (ownMd (.slc tTx)) [] v402.1), (4, .val i64 v402.2)], vr := [], lent := [] })
noncomputable def X0_0 (K : Ex → St → Option Out) (a1 : Arg) : (List Tx) → Option Out := fun z => K (.exit 0) ({ n := 23, sl := [(3, .own (.slc tTx) (ownMd (.slc tTx)) [] z)], vr := [], lent := [] })
noncomputable def b0 (self : ((List Tx) × Int) → Option Out) (e0 : (List Tx) → Option Out) (a1 : Arg) (v402 : (List Tx) × Int) : Option Out := bif decide (v402.2 < (a1.1.length : Int)) then (if 0 ≤ v402.2 then ((a1.1[v402.2.toNat]?).bind fun x603 => (laws_toTx.sem (x603, ())).bind fun r604 => if 0 ≤ v402.2 ∧ v402.2 < (v402.1.length : Int) then ((v402.1[v402.2.toNat]?).bind fun x605 => self (v402.1.set v402.2.toNat r604.1, w64 (v402.2 + (1 : Int)))) else none) else none) else e0 v402.1
noncomputable def B0 (k : Nat) (self : ((List Tx) × Int) → Option Out) (e0 : (List Tx) → Option Out) (a1 : Arg) (v402 : (List Tx) × Int) : Option Out := b0 self e0 a1 v402
theorem b0_eq (k : Nat) (rec : St → Option Out) (K : Ex → St → Option Out) (a1 : Arg) (v402 : (List Tx) × Int) : codeK E k fin (sub [1, 1, 0, 1, 0, 0] C) ({ n := 23, sl := [(0, .val (.slc tTx) a1.1), (3, .own (.slc tTx) (ownMd (.slc tTx)) [] v402.1), (4, .val i64 v402.2)], vr := [], lent := [] }) (loopC rec (keepF [0, 3, 4] []) K) = b0 (S0 rec a1) (X0_0 K a1) a1 v402 := by kernel_rfl
theorem B0_eq (k : Nat) (rec : St → Option Out) (K : Ex → St → Option Out) (a1 : Arg) (v402 : (List Tx) × Int) : codeK E k fin (sub [1, 1, 0, 1, 0, 0] C) ({ n := 23, sl := [(0, .val (.slc tTx) a1.1), (3, .own (.slc tTx) (ownMd (.slc tTx)) [] v402.1), (4, .val i64 v402.2)], vr := [], lent := [] }) (loopC rec (keepF [0, 3, 4] []) K) = B0 k (S0 rec a1) (X0_0 K a1) a1 v402 := (b0_eq k rec K a1 v402).trans (by rfl)
noncomputable def l0 (k : Nat) (a1 : Arg) (e0 : (List Tx) → Option Out) (v : (List Tx) × Int) : Option Out := rawIter (fun self v => B0 k self e0 a1 v) k v
theorem l0_eq (k : Nat) (K : Ex → St → Option Out) (a1 : Arg) (v402 : (List Tx) × Int) : iterK (codeK E k fin (sub [1, 1, 0, 1, 0, 0] C)) (keepF [0, 3, 4] []) K k ({ n := 23, sl := [(0, .val (.slc tTx) a1.1), (3, .own (.slc tTx) (ownMd (.slc tTx)) [] v402.1), (4, .val i64 v402.2)], vr := [], lent := [] }) = l0 k a1 (X0_0 K a1) v402 :=
  iter_raw _ _ K (fun v402 => ({ n := 23, sl := [(0, .val (.slc tTx) a1.1), (3, .own (.slc tTx) (ownMd (.slc tTx)) [] v402.1), (4, .val i64 v402.2)], vr := [], lent := [] } : St)) (fun self v => B0 k self (X0_0 K a1) a1 v) (fun rec v => B0_eq k rec K a1 v) k v402
noncomputable def q0 (a1 : Arg) (z606 : (List Tx)) : Option Out := some (z606, ())
noncomputable def Q0 (k : Nat) (a1 : Arg) (z606 : (List Tx)) : Option Out := q0 a1 z606
theorem q0_eq (k : Nat) (a1 : Arg) (z606 : (List Tx)) : (blockC 0 (seqC (codeK E k fin (sub [1, 1, 1] C)) K0)) (.exit 0) ({ n := 23, sl := [(3, .own (.slc tTx) (ownMd (.slc tTx)) [] z606)], vr := [], lent := [] }) = q0 a1 z606 := by kernel_rfl
theorem Q0_eq (k : Nat) (a1 : Arg) (z606 : (List Tx)) : (blockC 0 (seqC (codeK E k fin (sub [1, 1, 1] C)) K0)) (.exit 0) ({ n := 23, sl := [(3, .own (.slc tTx) (ownMd (.slc tTx)) [] z606)], vr := [], lent := [] }) = Q0 k a1 z606 := (q0_eq k a1 z606).trans (by rfl)
noncomputable def s0 (k : Nat) (a1 : Arg) : ((List Tx) × Int) → Option Out := fun v402 => iterK (codeK E k fin (sub [1, 1, 0, 1, 0, 0] C)) (keepF [0, 3, 4] []) (blockC 0 (seqC (codeK E k fin (sub [1, 1, 1] C)) K0)) k ({ n := 23, sl := [(0, .val (.slc tTx) a1.1), (3, .own (.slc tTx) (ownMd (.slc tTx)) [] v402.1), (4, .val i64 v402.2)], vr := [], lent := [] })
noncomputable def r0 (k : Nat) (a1 : Arg) : ((List Tx) × Int) → Option Out := fun v402 => l0 k a1 (fun z => Q0 k a1 z) v402
theorem s0_eq (k : Nat) (a1 : Arg) : s0 k a1 = r0 k a1 := by
  funext v402;
  have h0 : X0_0 ((blockC 0 (seqC (codeK E k fin (sub [1, 1, 1] C)) K0))) a1 = fun z => Q0 k a1 z := funext fun z => Q0_eq k a1 z
  refine (l0_eq k ((blockC 0 (seqC (codeK E k fin (sub [1, 1, 1] C)) K0))) a1 v402).trans ?_
  rw [h0]
  rfl
noncomputable def p (l0 : ((List Tx) × Int) → Option Out) (a1 : Arg) : Option Out := if 0 ≤ (a1.1.length : Int) ∧ (a1.1.length : Int) ≤ (a1.1.length : Int) ∧ (a1.1.length : Int) ≤ (CAP : Int) then (l0 (List.replicate (a1.1.length : Int).toNat ((0 : Int), ([] : List Change), ([] : List Int), ([] : List Key), ()), (0 : Int))) else none
noncomputable def raw (k : Nat) (a1 : Arg) : Option Out := p (r0 k a1) a1
theorem p_eq (k : Nat) (a1 : Arg) : bodyK E k Go.Proofs.Try.f24 ps rs [] [] a1 = p (s0 k a1) a1 := by kernel_rfl
theorem raw_eq (k : Nat) (a1 : Arg) : bodyK E k Go.Proofs.Try.f24 ps rs [] [] a1 = raw k a1 := (p_eq k a1).trans (by rw [s0_eq]; rfl)
theorem ent : EnterOk Go.Proofs.Try.prog 24 sig.cap := ⟨Go.Proofs.Try.f24, Go.Proofs.Try.func24, by kernel_rfl, by kernel_rfl, by kernel_rfl⟩
theorem env : EnvOk Go.Proofs.Try.prog E := env_ok (tl := [(23, (.slc tTx)), (29, (.slc tTx)), (99, tTx), (113, tTx)]) (gl := [(62, laws_toTx.sig)]) rfl rfl (by kernel_rfl) (by kernel_rfl) (fn_cons laws_toTx.snd laws_toTx.ent (fn_nil _))
theorem chk : funOk Go.Proofs.Try.prog E Go.Proofs.Try.f24 ps rs [] = true := by kernel_rfl
theorem snd : Sound Go.Proofs.Try.prog 24 sig := sound_of_body env Go.Proofs.Try.func24 rfl (es := []) (fr := []) chk (fun _ _ h => lift_some h)
end laws_toTxS
namespace laws_toPlain
/-! loop example g00408 laws toPlain -/
abbrev Arg : Type := Plain × Unit
abbrev Out : Type := Plain × Unit
noncomputable def ps : List (PM × Ty) := [(.ro, tPlain)]
noncomputable def rs : List (Ty × Md) := [(tPlain, (ownMd tPlain))]
noncomputable def E : Env := { TI := lookN [(2, i64), (22, (.slc tRow)), (23, (.slc tTx)), (25, tPlain), (28, (.slc tRow)), (29, (.slc tTx)), (31, tPlain)], G := lookN [(23, laws_toRowS.sig), (24, laws_toTxS.sig)], fz := [], lv := [], lx := [], lf := [], od := [] }
noncomputable def sem (a : Arg) : Option Out := lift fun k => bodyK E k Go.Proofs.Try.f10 ps rs [] [] a
noncomputable def sig : Sig := { ps := ps, rs := rs, F := fun a => sem a }
noncomputable def C : Code := bodyOf Go.Proofs.Try.f10
noncomputable def fin : St → Option Out := outK ps rs [] (Func.results Go.Proofs.Try.f10).toList (mvs [])
noncomputable def K0 : Ex → St → Option Out := endK fin
noncomputable def p (a1 : Arg) : Option Out := (laws_toRowS.sem (a1.1.1, ())).bind fun r2 => (laws_toTxS.sem (a1.1.2.1, ())).bind fun r3 => some ((r2.1, r3.1, a1.1.2.2.1, ()), ())
noncomputable def raw (k : Nat) (a1 : Arg) : Option Out := p a1
theorem p_eq (k : Nat) (a1 : Arg) : bodyK E k Go.Proofs.Try.f10 ps rs [] [] a1 = p a1 := by kernel_rfl
theorem raw_eq (k : Nat) (a1 : Arg) : bodyK E k Go.Proofs.Try.f10 ps rs [] [] a1 = raw k a1 := (p_eq k a1).trans (by rfl)
theorem ent : EnterOk Go.Proofs.Try.prog 10 sig.cap := ⟨Go.Proofs.Try.f10, Go.Proofs.Try.func10, by kernel_rfl, by kernel_rfl, by kernel_rfl⟩
theorem env : EnvOk Go.Proofs.Try.prog E := env_ok (tl := [(2, i64), (22, (.slc tRow)), (23, (.slc tTx)), (25, tPlain), (28, (.slc tRow)), (29, (.slc tTx)), (31, tPlain)]) (gl := [(23, laws_toRowS.sig), (24, laws_toTxS.sig)]) rfl rfl (by kernel_rfl) (by kernel_rfl) (fn_cons laws_toRowS.snd laws_toRowS.ent (fn_cons laws_toTxS.snd laws_toTxS.ent (fn_nil _)))
theorem chk : funOk Go.Proofs.Try.prog E Go.Proofs.Try.f10 ps rs [] = true := by kernel_rfl
theorem snd : Sound Go.Proofs.Try.prog 10 sig := sound_of_body env Go.Proofs.Try.func10 rfl (es := []) (fr := []) chk (fun _ _ h => lift_some h)
end laws_toPlain
namespace impl_in
/-! loop example g00408 impl in -/
abbrev Arg : Type := Int × Int × Int × Unit
abbrev Out : Type := Bool × Unit
noncomputable def ps : List (PM × Ty) := [(.ro, i64), (.ro, i64), (.ro, i64)]
noncomputable def rs : List (Ty × Md) := [(.bool, (roMd .bool))]
noncomputable def E : Env := { TI := lookN [], G := lookN [], fz := [], lv := [], lx := [], lf := [], od := [] }
noncomputable def sem (a : Arg) : Option Out := lift fun k => bodyK E k Go.Proofs.Try.f47 ps rs [] [] a
noncomputable def sig : Sig := { ps := ps, rs := rs, F := fun a => sem a }
noncomputable def C : Code := bodyOf Go.Proofs.Try.f47
noncomputable def fin : St → Option Out := outK ps rs [] (Func.results Go.Proofs.Try.f47).toList (mvs [])
noncomputable def K0 : Ex → St → Option Out := endK fin
noncomputable def p (a1 : Arg) : Option Out := bif decide (a1.2.1 ≤ a1.1) then (some (decide (a1.1 ≤ a1.2.2.1), ())) else some (false, ())
noncomputable def raw (k : Nat) (a1 : Arg) : Option Out := p a1
theorem p_eq (k : Nat) (a1 : Arg) : bodyK E k Go.Proofs.Try.f47 ps rs [] [] a1 = p a1 := by kernel_rfl
theorem raw_eq (k : Nat) (a1 : Arg) : bodyK E k Go.Proofs.Try.f47 ps rs [] [] a1 = raw k a1 := (p_eq k a1).trans (by rfl)
theorem ent : EnterOk Go.Proofs.Try.prog 47 sig.cap := ⟨Go.Proofs.Try.f47, Go.Proofs.Try.func47, by kernel_rfl, by kernel_rfl, by kernel_rfl⟩
theorem env : EnvOk Go.Proofs.Try.prog E := env_ok (tl := []) (gl := []) rfl rfl (by kernel_rfl) (by kernel_rfl) (fn_nil _)
theorem chk : funOk Go.Proofs.Try.prog E Go.Proofs.Try.f47 ps rs [] = true := by kernel_rfl
theorem snd : Sound Go.Proofs.Try.prog 47 sig := sound_of_body env Go.Proofs.Try.func47 rfl (es := []) (fr := []) chk (fun _ _ h => lift_some h)
end impl_in
namespace impl_RowFault
/-! loop example g00408 impl RowFault -/
abbrev Arg : Type := Row × Unit
abbrev Out : Type := Int × Unit
noncomputable def ps : List (PM × Ty) := [(.ro, tRow)]
noncomputable def rs : List (Ty × Md) := [(i64, (roMd i64))]
noncomputable def E : Env := { TI := lookN [(2, i64), (9, .str), (48, tRow)], G := lookN [(47, impl_in.sig)], fz := [], lv := [(6, [1, 26, 27])], lx := [(0, [])], lf := [], od := [] }
noncomputable def sem (a : Arg) : Option Out := lift fun k => bodyK E k Go.Proofs.Try.f90 ps rs [] [] a
noncomputable def sig : Sig := { ps := ps, rs := rs, F := fun a => sem a }
noncomputable def C : Code := bodyOf Go.Proofs.Try.f90
noncomputable def fin : St → Option Out := outK ps rs [] (Func.results Go.Proofs.Try.f90).toList (mvs [])
noncomputable def K0 : Ex → St → Option Out := endK fin
noncomputable def S0 (rec : St → Option Out) (a1 : Arg) : (Int) → Option Out := fun v405 => rec ({ n := 43, sl := [(1, .box tRow (roMd tRow) [] a1.1), (26, .val i64 (a1.1.2.2.2.1.length : Int)), (27, .val i64 v405)], vr := [], lent := [] })
noncomputable def X0_0 (K : Ex → St → Option Out) (a1 : Arg) : (Unit) → Option Out := fun z => K (.exit 0) ({ n := 43, sl := [], vr := [], lent := [] })
noncomputable def b0 (self : Int → Option Out) (e0 : (Unit) → Option Out) (a1 : Arg) (v405 : Int) : Option Out := bif decide (v405 < (a1.1.2.2.2.1.length : Int)) then (if 0 ≤ v405 then ((a1.1.2.2.2.1[v405.toNat]?).bind fun x606 => bif decide ((x606.toNat : Int) < (97 : Int)) then (some ((5 : Int), ())) else if 0 ≤ v405 then ((a1.1.2.2.2.1[v405.toNat]?).bind fun x607 => bif decide ((122 : Int) < (x607.toNat : Int)) then (some ((5 : Int), ())) else self (w64 (v405 + (1 : Int)))) else none) else none) else e0 ()
noncomputable def B0 (k : Nat) (self : Int → Option Out) (e0 : (Unit) → Option Out) (a1 : Arg) (v405 : Int) : Option Out := b0 self e0 a1 v405
theorem b0_eq (k : Nat) (rec : St → Option Out) (K : Ex → St → Option Out) (a1 : Arg) (v405 : Int) : codeK E k fin (sub [1, 1, 1, 0, 1, 0, 0] C) ({ n := 43, sl := [(1, .box tRow (roMd tRow) [] a1.1), (26, .val i64 (a1.1.2.2.2.1.length : Int)), (27, .val i64 v405)], vr := [], lent := [] }) (loopC rec (keepF [1, 26, 27] []) K) = b0 (S0 rec a1) (X0_0 K a1) a1 v405 := by kernel_rfl
theorem B0_eq (k : Nat) (rec : St → Option Out) (K : Ex → St → Option Out) (a1 : Arg) (v405 : Int) : codeK E k fin (sub [1, 1, 1, 0, 1, 0, 0] C) ({ n := 43, sl := [(1, .box tRow (roMd tRow) [] a1.1), (26, .val i64 (a1.1.2.2.2.1.length : Int)), (27, .val i64 v405)], vr := [], lent := [] }) (loopC rec (keepF [1, 26, 27] []) K) = B0 k (S0 rec a1) (X0_0 K a1) a1 v405 := (b0_eq k rec K a1 v405).trans (by rfl)
noncomputable def l0 (k : Nat) (a1 : Arg) (e0 : (Unit) → Option Out) (v : Int) : Option Out := rawIter (fun self v => B0 k self e0 a1 v) k v
theorem l0_eq (k : Nat) (K : Ex → St → Option Out) (a1 : Arg) (v405 : Int) : iterK (codeK E k fin (sub [1, 1, 1, 0, 1, 0, 0] C)) (keepF [1, 26, 27] []) K k ({ n := 43, sl := [(1, .box tRow (roMd tRow) [] a1.1), (26, .val i64 (a1.1.2.2.2.1.length : Int)), (27, .val i64 v405)], vr := [], lent := [] }) = l0 k a1 (X0_0 K a1) v405 :=
  iter_raw _ _ K (fun v405 => ({ n := 43, sl := [(1, .box tRow (roMd tRow) [] a1.1), (26, .val i64 (a1.1.2.2.2.1.length : Int)), (27, .val i64 v405)], vr := [], lent := [] } : St)) (fun self v => B0 k self (X0_0 K a1) a1 v) (fun rec v => B0_eq k rec K a1 v) k v405
noncomputable def q0 (a1 : Arg) (z608 : (Unit)) : Option Out := some ((0 : Int), ())
noncomputable def Q0 (k : Nat) (a1 : Arg) (z608 : (Unit)) : Option Out := q0 a1 z608
theorem q0_eq (k : Nat) (a1 : Arg) (z608 : (Unit)) : (blockC 0 (seqC (codeK E k fin (sub [1, 1, 1, 1] C)) K0)) (.exit 0) ({ n := 43, sl := [], vr := [], lent := [] }) = q0 a1 z608 := by kernel_rfl
theorem Q0_eq (k : Nat) (a1 : Arg) (z608 : (Unit)) : (blockC 0 (seqC (codeK E k fin (sub [1, 1, 1, 1] C)) K0)) (.exit 0) ({ n := 43, sl := [], vr := [], lent := [] }) = Q0 k a1 z608 := (q0_eq k a1 z608).trans (by rfl)
noncomputable def s0 (k : Nat) (a1 : Arg) : (Int) → Option Out := fun v405 => iterK (codeK E k fin (sub [1, 1, 1, 0, 1, 0, 0] C)) (keepF [1, 26, 27] []) (blockC 0 (seqC (codeK E k fin (sub [1, 1, 1, 1] C)) K0)) k ({ n := 43, sl := [(1, .box tRow (roMd tRow) [] a1.1), (26, .val i64 (a1.1.2.2.2.1.length : Int)), (27, .val i64 v405)], vr := [], lent := [] })
noncomputable def r0 (k : Nat) (a1 : Arg) : (Int) → Option Out := fun v405 => l0 k a1 (fun z => Q0 k a1 z) v405
theorem s0_eq (k : Nat) (a1 : Arg) : s0 k a1 = r0 k a1 := by
  funext v405;
  have h0 : X0_0 ((blockC 0 (seqC (codeK E k fin (sub [1, 1, 1, 1] C)) K0))) a1 = fun z => Q0 k a1 z := funext fun z => Q0_eq k a1 z
  refine (l0_eq k ((blockC 0 (seqC (codeK E k fin (sub [1, 1, 1, 1] C)) K0))) a1 v405).trans ?_
  rw [h0]
  rfl
noncomputable def p (l0 : (Int) → Option Out) (a1 : Arg) : Option Out := (impl_in.sem (a1.1.1, (0 : Int), (3 : Int), ())).bind fun r2 => bif !r2.1 then (some ((3 : Int), ())) else (impl_in.sem (a1.1.2.1, (1 : Int), (99 : Int), ())).bind fun r3 => bif !r3.1 then (some ((3 : Int), ())) else (impl_in.sem (a1.1.2.2.1, (0 : Int), (999 : Int), ())).bind fun r4 => bif !r4.1 then (some ((3 : Int), ())) else bif decide ((8 : Int) < (a1.1.2.2.2.1.length : Int)) then (some ((5 : Int), ())) else l0 (0 : Int)
noncomputable def raw (k : Nat) (a1 : Arg) : Option Out := p (r0 k a1) a1
theorem p_eq (k : Nat) (a1 : Arg) : bodyK E k Go.Proofs.Try.f90 ps rs [] [] a1 = p (s0 k a1) a1 := by kernel_rfl
theorem raw_eq (k : Nat) (a1 : Arg) : bodyK E k Go.Proofs.Try.f90 ps rs [] [] a1 = raw k a1 := (p_eq k a1).trans (by rw [s0_eq]; rfl)
theorem ent : EnterOk Go.Proofs.Try.prog 90 sig.cap := ⟨Go.Proofs.Try.f90, Go.Proofs.Try.func90, by kernel_rfl, by kernel_rfl, by kernel_rfl⟩
theorem env : EnvOk Go.Proofs.Try.prog E := env_ok (tl := [(2, i64), (9, .str), (48, tRow)]) (gl := [(47, impl_in.sig)]) rfl rfl (by kernel_rfl) (by kernel_rfl) (fn_cons impl_in.snd impl_in.ent (fn_nil _))
theorem chk : funOk Go.Proofs.Try.prog E Go.Proofs.Try.f90 ps rs [] = true := by kernel_rfl
theorem snd : Sound Go.Proofs.Try.prog 90 sig := sound_of_body env Go.Proofs.Try.func90 rfl (es := []) (fr := []) chk (fun _ _ h => lift_some h)
end impl_RowFault
namespace impl_IsBefore
/-! loop example g00408 impl IsBefore -/
abbrev Arg : Type := Row × Row × Unit
abbrev Out : Type := Bool × Unit
noncomputable def ps : List (PM × Ty) := [(.ro, tRow), (.ro, tRow)]
noncomputable def rs : List (Ty × Md) := [(.bool, (roMd .bool))]
noncomputable def E : Env := { TI := lookN [(2, i64), (48, tRow)], G := lookN [], fz := [], lv := [], lx := [], lf := [], od := [] }
noncomputable def sem (a : Arg) : Option Out := lift fun k => bodyK E k Go.Proofs.Try.f91 ps rs [] [] a
noncomputable def sig : Sig := { ps := ps, rs := rs, F := fun a => sem a }
noncomputable def C : Code := bodyOf Go.Proofs.Try.f91
noncomputable def fin : St → Option Out := outK ps rs [] (Func.results Go.Proofs.Try.f91).toList (mvs [])
noncomputable def K0 : Ex → St → Option Out := endK fin
noncomputable def p (a1 : Arg) : Option Out := bif decide (a1.1.1 < a1.2.1.1) then (some (true, ())) else bif decide (a1.1.1 = a1.2.1.1) then (some (decide (a1.1.2.1 < a1.2.1.2.1), ())) else some (false, ())
noncomputable def raw (k : Nat) (a1 : Arg) : Option Out := p a1
theorem p_eq (k : Nat) (a1 : Arg) : bodyK E k Go.Proofs.Try.f91 ps rs [] [] a1 = p a1 := by kernel_rfl
theorem raw_eq (k : Nat) (a1 : Arg) : bodyK E k Go.Proofs.Try.f91 ps rs [] [] a1 = raw k a1 := (p_eq k a1).trans (by rfl)
theorem ent : EnterOk Go.Proofs.Try.prog 91 sig.cap := ⟨Go.Proofs.Try.f91, Go.Proofs.Try.func91, by kernel_rfl, by kernel_rfl, by kernel_rfl⟩
theorem env : EnvOk Go.Proofs.Try.prog E := env_ok (tl := [(2, i64), (48, tRow)]) (gl := []) rfl rfl (by kernel_rfl) (by kernel_rfl) (fn_nil _)
theorem chk : funOk Go.Proofs.Try.prog E Go.Proofs.Try.f91 ps rs [] = true := by kernel_rfl
theorem snd : Sound Go.Proofs.Try.prog 91 sig := sound_of_body env Go.Proofs.Try.func91 rfl (es := []) (fr := []) chk (fun _ _ h => lift_some h)
end impl_IsBefore
end OT
