/- The proof's parts, merged: Printed by gen.py, a program of this claim  what each Go function computes.. No conditions but those that each states. -/
import Derived.Test.YtkimdiobckckiaaQc
import Derived.Test.YtkimdiobckckiaaProg
import Derived.KernelRfl
set_option maxRecDepth 100000
set_option linter.unusedVariables false
namespace OT
open Go Go.Proofs.Try
abbrev Row : Type := (Int × Int × Int × (List UInt8) × Unit)
abbrev tRow : Ty := (tupT [i64, i64, i64, .str])
abbrev Change : Type := (Bool × Row × Bool × Row × Unit)
abbrev tChange : Ty := (tupT [.bool, tRow, .bool, tRow])
abbrev Key : Type := (Int × Int × Unit)
abbrev tKey : Ty := (tupT [i64, i64])
abbrev Tx : Type := (Int × (List Change) × (List Int) × (List Key) × Unit)
abbrev tTx : Ty := (tupT [i64, (.slc tChange), (.slc i64), (.slc tKey)])
abbrev Plain : Type := ((List Row) × (List Tx) × Int × Unit)
abbrev tPlain : Ty := (tupT [(.slc tRow), (.slc tTx), i64])
abbrev RowsResult : Type := (Int × (List Row) × Unit)
abbrev tRowsResult : Ty := (tupT [i64, (.slc tRow)])
abbrev Op : Type := (Int × Int × Row × Int × Unit)
abbrev tOp : Ty := (tupT [i64, i64, tRow, i64])
abbrev ChangeResult : Type := (Int × Bool × Change × Unit)
abbrev tChangeResult : Ty := (tupT [i64, .bool, tChange])
abbrev CellResult : Type := (Int × Int × Int × Int × Row × Unit)
abbrev tCellResult : Ty := (tupT [i64, i64, i64, i64, tRow])
abbrev L6Spot : Type := (Int × Int × CellResult × Unit)
abbrev tL6Spot : Ty := (tupT [i64, i64, tCellResult])
abbrev Buffer : Type := (Int × (List Change) × Unit)
abbrev tBuffer : Ty := (tupT [i64, (.slc tChange)])
abbrev Miner : Type := ((List (List UInt8)) × (List Buffer) × Unit)
abbrev tMiner : Ty := (tupT [(.slc (.slc u8)), (.slc tBuffer)])
abbrev MinerResult : Type := (Int × Bool × Bool × Int × (List Change) × Miner × Unit)
abbrev tMinerResult : Ty := (tupT [i64, .bool, .bool, i64, (.slc tChange), tMiner])
abbrev Sent : Type := (Int × Int × (List Change) × Unit)
abbrev tSent : Ty := (tupT [i64, i64, (.slc tChange)])
abbrev Connector : Type := (Miner × Int × Miner × Int × Unit)
abbrev tConnector : Ty := (tupT [tMiner, i64, tMiner, i64])
abbrev ConnectorResult : Type := (Int × Bool × Sent × Connector × Unit)
abbrev tConnectorResult : Ty := (tupT [i64, .bool, tSent, tConnector])
abbrev Seen : Type := (Row × Int × Int × Bool × Int × Int × Unit)
abbrev tSeen : Ty := (tupT [tRow, i64, i64, .bool, i64, i64])
namespace laws_szRow
/-! loop example g00408 laws szRow -/
abbrev Arg : Type := Row × Int × Unit
abbrev Out : Type := Int × Unit
noncomputable def ps : PQ := [(.ro, tRow), (.ro, i64)]
noncomputable def rs : RQ := [(i64, (roMd i64))]
noncomputable def tl : TL := [(9, .str), (42, tRow)]
noncomputable def gl : GL := []
noncomputable def E : Env := { TI := lookN tl, G := lookN gl }
noncomputable def W (k : Nat) (a : Arg) : Option Out := bodyK E k f54 ps rs [] [] a
noncomputable def sem (a : Arg) : Option Out := lift fun k => W k a
noncomputable def sig : Sig := { ps := ps, rs := rs, F := sem }
noncomputable def p (a1 : Arg) : Option Out := bif decide (w64 (a1.2.1 - (a1.1.2.2.2.1.length : Int)) < (0 : Int)) then (some ((-1 : Int), ())) else some (w64 (a1.2.1 - (a1.1.2.2.2.1.length : Int)), ())
noncomputable def raw (k : Nat) (a1 : Arg) : Option Out := p a1
theorem raw_eq (k : Nat) (a1 : Arg) : W k a1 = raw k a1 := by kernel_rfl
theorem ok : Ok prog 54 sig := fn_ok func54 (tl := tl) (gl := gl) (es := []) (fr := []) rfl rfl (by kernel_rfl) (fn_nil _) (fun _ => rfl)
end laws_szRow
namespace laws_szRowS
/-! loop example g00408 laws szRowS -/
abbrev Arg : Type := (List Row) × Int × Unit
abbrev Out : Type := Int × Unit
noncomputable def ps : PQ := [(.ro, (.slc tRow)), (.ro, i64)]
noncomputable def rs : RQ := [(i64, (roMd i64))]
noncomputable def tl : TL := [(22, (.slc tRow)), (42, tRow)]
noncomputable def gl : GL := [(54, laws_szRow.sig)]
noncomputable def E : Env := { TI := lookN tl, G := lookN gl, lv := [(5, [0, 1, 5])], lx := [(0, [1])] }
noncomputable def W (k : Nat) (a : Arg) : Option Out := bodyK E k f19 ps rs [] [] a
noncomputable def sem (a : Arg) : Option Out := lift fun k => W k a
noncomputable def sig : Sig := { ps := ps, rs := rs, F := sem }
noncomputable def C : Code := bodyOf f19
noncomputable def fin : St → Option Out := outK ps rs [] (Func.results f19).toList (mvs [])
noncomputable def K0 : Ex → St → Option Out := endK fin
noncomputable def T0 (a1 : Arg) (v402 : Int × Int) : St := { n := 27, sl := [(0, .val (.slc tRow) a1.1), (1, .val i64 v402.1), (5, .val i64 v402.2)], vr := [], lent := [] }
noncomputable def N0 (k : Nat) : St → (Ex → St → Option Out) → Option Out := codeK E k fin (sub [1, 1, 1, 0, 1, 0, 0] C)
noncomputable def M0 : St → St := keepF [0, 1, 5] []
noncomputable def S0 (rec : RT Out) (a1 : Arg) : (Int × Int) → Option Out := fun v402 => rec (T0 a1 v402)
noncomputable def X0_0 (K : KT Out) (a1 : Arg) : Int → Option Out := fun z => K (.exit 0) ({ n := 27, sl := [(1, .val i64 z)], vr := [], lent := [] })
noncomputable def b0 (self : (Int × Int) → Option Out) (e0 : Int → Option Out) (a1 : Arg) (v402 : Int × Int) : Option Out := bif decide (v402.2 < (a1.1.length : Int)) then (if 0 ≤ v402.2 then ((a1.1[v402.2.toNat]?).bind fun x603 => (laws_szRow.sem (x603, v402.1, ())).bind fun r604 => bif decide (r604.1 < (0 : Int)) then (some ((-1 : Int), ())) else self (r604.1, w64 (v402.2 + (1 : Int)))) else none) else e0 v402.1
noncomputable def B0 (k : Nat) (self : (Int × Int) → Option Out) (e0 : Int → Option Out) (a1 : Arg) (v402 : Int × Int) : Option Out := b0 self e0 a1 v402
theorem B0_eq (k : Nat) (rec : RT Out) (K : KT Out) (a1 : Arg) (v402 : Int × Int) : N0 k (T0 a1 v402) (loopC rec M0 K) = B0 k (S0 rec a1) (X0_0 K a1) a1 v402 := by kernel_rfl
noncomputable def l0 (k : Nat) (a1 : Arg) (e0 : Int → Option Out) (v : Int × Int) : Option Out := rawIter (fun self v => B0 k self e0 a1 v) k v
theorem l0_eq (k : Nat) (K : KT Out) (a1 : Arg) (v402 : Int × Int) : iterK (N0 k) M0 K k (T0 a1 v402) = l0 k a1 (X0_0 K a1) v402 :=
  iter_raw _ _ K (fun v402 => (T0 a1 v402)) (fun self v => B0 k self (X0_0 K a1) a1 v) (fun rec v => B0_eq k rec K a1 v) k v402
noncomputable def q0 (a1 : Arg) (z605 : Int) : Option Out := some (z605, ())
noncomputable def Q0 (k : Nat) (a1 : Arg) (z605 : Int) : Option Out := q0 a1 z605
theorem Q0_eq (k : Nat) (a1 : Arg) (z605 : Int) : X0_0 (blockC 0 (seqC (codeK E k fin (sub [1, 1, 1, 1] C)) K0)) a1 z605 = Q0 k a1 z605 := by kernel_rfl
noncomputable def s0 (k : Nat) (a1 : Arg) : (Int × Int) → Option Out := fun v402 => iterK (N0 k) M0 (blockC 0 (seqC (codeK E k fin (sub [1, 1, 1, 1] C)) K0)) k (T0 a1 v402)
noncomputable def r0 (k : Nat) (a1 : Arg) : (Int × Int) → Option Out := fun v402 => l0 k a1 (fun z => Q0 k a1 z) v402
theorem s0_eq (k : Nat) (a1 : Arg) : s0 k a1 = r0 k a1 := by
  funext v402;
  have h0 : X0_0 ((blockC 0 (seqC (codeK E k fin (sub [1, 1, 1, 1] C)) K0))) a1 = fun z => Q0 k a1 z := funext fun z => Q0_eq k a1 z
  refine (l0_eq k ((blockC 0 (seqC (codeK E k fin (sub [1, 1, 1, 1] C)) K0))) a1 v402).trans ?_
  rw [h0]
  rfl
noncomputable def p (l0 : (Int × Int) → Option Out) (a1 : Arg) : Option Out := bif decide (w64 (a1.2.1 - (a1.1.length : Int)) < (0 : Int)) then (some ((-1 : Int), ())) else l0 (w64 (a1.2.1 - (a1.1.length : Int)), (0 : Int))
noncomputable def raw (k : Nat) (a1 : Arg) : Option Out := p (r0 k a1) a1
theorem p_eq (k : Nat) (a1 : Arg) : W k a1 = p (s0 k a1) a1 := by kernel_rfl
theorem raw_eq (k : Nat) (a1 : Arg) : W k a1 = raw k a1 := (p_eq k a1).trans (by rw [s0_eq]; rfl)
theorem ok : Ok prog 19 sig := fn_ok func19 (tl := tl) (gl := gl) (es := []) (fr := []) rfl rfl (by kernel_rfl) (fc laws_szRow.ok (fn_nil _)) (fun _ => rfl)
end laws_szRowS
namespace laws_szChange
/-! loop example g00408 laws szChange -/
abbrev Arg : Type := Change × Int × Unit
abbrev Out : Type := Int × Unit
noncomputable def ps : PQ := [(.ro, tChange), (.ro, i64)]
noncomputable def rs : RQ := [(i64, (roMd i64))]
noncomputable def tl : TL := [(42, tRow), (205, tChange)]
noncomputable def gl : GL := [(54, laws_szRow.sig)]
noncomputable def E : Env := { TI := lookN tl, G := lookN gl }
noncomputable def W (k : Nat) (a : Arg) : Option Out := bodyK E k f152 ps rs [] [] a
noncomputable def sem (a : Arg) : Option Out := lift fun k => W k a
noncomputable def sig : Sig := { ps := ps, rs := rs, F := sem }
noncomputable def p (a1 : Arg) : Option Out := (laws_szRow.sem (a1.1.2.1, a1.2.1, ())).bind fun r2 => bif decide (r2.1 < (0 : Int)) then (some ((-1 : Int), ())) else (laws_szRow.sem (a1.1.2.2.2.1, r2.1, ())).bind fun r3 => bif decide (r3.1 < (0 : Int)) then (some ((-1 : Int), ())) else some (r3.1, ())
noncomputable def raw (k : Nat) (a1 : Arg) : Option Out := p a1
theorem raw_eq (k : Nat) (a1 : Arg) : W k a1 = raw k a1 := by kernel_rfl
theorem ok : Ok prog 152 sig := fn_ok func152 (tl := tl) (gl := gl) (es := []) (fr := []) rfl rfl (by kernel_rfl) (fc laws_szRow.ok (fn_nil _)) (fun _ => rfl)
end laws_szChange
namespace laws_szChangeS
/-! loop example g00408 laws szChangeS -/
abbrev Arg : Type := (List Change) × Int × Unit
abbrev Out : Type := Int × Unit
noncomputable def ps : PQ := [(.ro, (.slc tChange)), (.ro, i64)]
noncomputable def rs : RQ := [(i64, (roMd i64))]
noncomputable def tl : TL := [(110, (.slc tChange)), (205, tChange)]
noncomputable def gl : GL := [(152, laws_szChange.sig)]
noncomputable def E : Env := { TI := lookN tl, G := lookN gl, lv := [(5, [0, 1, 5])], lx := [(0, [1])] }
noncomputable def W (k : Nat) (a : Arg) : Option Out := bodyK E k f103 ps rs [] [] a
noncomputable def sem (a : Arg) : Option Out := lift fun k => W k a
noncomputable def sig : Sig := { ps := ps, rs := rs, F := sem }
noncomputable def C : Code := bodyOf f103
noncomputable def fin : St → Option Out := outK ps rs [] (Func.results f103).toList (mvs [])
noncomputable def K0 : Ex → St → Option Out := endK fin
noncomputable def T0 (a1 : Arg) (v402 : Int × Int) : St := { n := 27, sl := [(0, .val (.slc tChange) a1.1), (1, .val i64 v402.1), (5, .val i64 v402.2)], vr := [], lent := [] }
noncomputable def N0 (k : Nat) : St → (Ex → St → Option Out) → Option Out := codeK E k fin (sub [1, 1, 1, 0, 1, 0, 0] C)
noncomputable def M0 : St → St := keepF [0, 1, 5] []
noncomputable def S0 (rec : RT Out) (a1 : Arg) : (Int × Int) → Option Out := fun v402 => rec (T0 a1 v402)
noncomputable def X0_0 (K : KT Out) (a1 : Arg) : Int → Option Out := fun z => K (.exit 0) ({ n := 27, sl := [(1, .val i64 z)], vr := [], lent := [] })
noncomputable def b0 (self : (Int × Int) → Option Out) (e0 : Int → Option Out) (a1 : Arg) (v402 : Int × Int) : Option Out := bif decide (v402.2 < (a1.1.length : Int)) then (if 0 ≤ v402.2 then ((a1.1[v402.2.toNat]?).bind fun x603 => (laws_szChange.sem (x603, v402.1, ())).bind fun r604 => bif decide (r604.1 < (0 : Int)) then (some ((-1 : Int), ())) else self (r604.1, w64 (v402.2 + (1 : Int)))) else none) else e0 v402.1
noncomputable def B0 (k : Nat) (self : (Int × Int) → Option Out) (e0 : Int → Option Out) (a1 : Arg) (v402 : Int × Int) : Option Out := b0 self e0 a1 v402
theorem B0_eq (k : Nat) (rec : RT Out) (K : KT Out) (a1 : Arg) (v402 : Int × Int) : N0 k (T0 a1 v402) (loopC rec M0 K) = B0 k (S0 rec a1) (X0_0 K a1) a1 v402 := by kernel_rfl
noncomputable def l0 (k : Nat) (a1 : Arg) (e0 : Int → Option Out) (v : Int × Int) : Option Out := rawIter (fun self v => B0 k self e0 a1 v) k v
theorem l0_eq (k : Nat) (K : KT Out) (a1 : Arg) (v402 : Int × Int) : iterK (N0 k) M0 K k (T0 a1 v402) = l0 k a1 (X0_0 K a1) v402 :=
  iter_raw _ _ K (fun v402 => (T0 a1 v402)) (fun self v => B0 k self (X0_0 K a1) a1 v) (fun rec v => B0_eq k rec K a1 v) k v402
noncomputable def q0 (a1 : Arg) (z605 : Int) : Option Out := some (z605, ())
noncomputable def Q0 (k : Nat) (a1 : Arg) (z605 : Int) : Option Out := q0 a1 z605
theorem Q0_eq (k : Nat) (a1 : Arg) (z605 : Int) : X0_0 (blockC 0 (seqC (codeK E k fin (sub [1, 1, 1, 1] C)) K0)) a1 z605 = Q0 k a1 z605 := by kernel_rfl
noncomputable def s0 (k : Nat) (a1 : Arg) : (Int × Int) → Option Out := fun v402 => iterK (N0 k) M0 (blockC 0 (seqC (codeK E k fin (sub [1, 1, 1, 1] C)) K0)) k (T0 a1 v402)
noncomputable def r0 (k : Nat) (a1 : Arg) : (Int × Int) → Option Out := fun v402 => l0 k a1 (fun z => Q0 k a1 z) v402
theorem s0_eq (k : Nat) (a1 : Arg) : s0 k a1 = r0 k a1 := by
  funext v402;
  have h0 : X0_0 ((blockC 0 (seqC (codeK E k fin (sub [1, 1, 1, 1] C)) K0))) a1 = fun z => Q0 k a1 z := funext fun z => Q0_eq k a1 z
  refine (l0_eq k ((blockC 0 (seqC (codeK E k fin (sub [1, 1, 1, 1] C)) K0))) a1 v402).trans ?_
  rw [h0]
  rfl
noncomputable def p (l0 : (Int × Int) → Option Out) (a1 : Arg) : Option Out := bif decide (w64 (a1.2.1 - (a1.1.length : Int)) < (0 : Int)) then (some ((-1 : Int), ())) else l0 (w64 (a1.2.1 - (a1.1.length : Int)), (0 : Int))
noncomputable def raw (k : Nat) (a1 : Arg) : Option Out := p (r0 k a1) a1
theorem p_eq (k : Nat) (a1 : Arg) : W k a1 = p (s0 k a1) a1 := by kernel_rfl
theorem raw_eq (k : Nat) (a1 : Arg) : W k a1 = raw k a1 := (p_eq k a1).trans (by rw [s0_eq]; rfl)
theorem ok : Ok prog 103 sig := fn_ok func103 (tl := tl) (gl := gl) (es := []) (fr := []) rfl rfl (by kernel_rfl) (fc laws_szChange.ok (fn_nil _)) (fun _ => rfl)
end laws_szChangeS
namespace laws_szInt64S
/-! loop example g00408 laws szInt64S -/
abbrev Arg : Type := (List Int) × Int × Unit
abbrev Out : Type := Int × Unit
noncomputable def ps : PQ := [(.ro, (.slc i64)), (.ro, i64)]
noncomputable def rs : RQ := [(i64, (roMd i64))]
noncomputable def tl : TL := [(96, (.slc i64))]
noncomputable def gl : GL := []
noncomputable def E : Env := { TI := lookN tl, G := lookN gl }
noncomputable def W (k : Nat) (a : Arg) : Option Out := bodyK E k f104 ps rs [] [] a
noncomputable def sem (a : Arg) : Option Out := lift fun k => W k a
noncomputable def sig : Sig := { ps := ps, rs := rs, F := sem }
noncomputable def p (a1 : Arg) : Option Out := bif decide (w64 (a1.2.1 - (a1.1.length : Int)) < (0 : Int)) then (some ((-1 : Int), ())) else some (w64 (a1.2.1 - (a1.1.length : Int)), ())
noncomputable def raw (k : Nat) (a1 : Arg) : Option Out := p a1
theorem raw_eq (k : Nat) (a1 : Arg) : W k a1 = raw k a1 := by kernel_rfl
theorem ok : Ok prog 104 sig := fn_ok func104 (tl := tl) (gl := gl) (es := []) (fr := []) rfl rfl (by kernel_rfl) (fn_nil _) (fun _ => rfl)
end laws_szInt64S
namespace laws_szKeyS
/-! loop example g00408 laws szKeyS -/
abbrev Arg : Type := (List Key) × Int × Unit
abbrev Out : Type := Int × Unit
noncomputable def ps : PQ := [(.ro, (.slc tKey)), (.ro, i64)]
noncomputable def rs : RQ := [(i64, (roMd i64))]
noncomputable def tl : TL := [(111, (.slc tKey))]
noncomputable def gl : GL := []
noncomputable def E : Env := { TI := lookN tl, G := lookN gl }
noncomputable def W (k : Nat) (a : Arg) : Option Out := bodyK E k f105 ps rs [] [] a
noncomputable def sem (a : Arg) : Option Out := lift fun k => W k a
noncomputable def sig : Sig := { ps := ps, rs := rs, F := sem }
noncomputable def p (a1 : Arg) : Option Out := bif decide (w64 (a1.2.1 - (a1.1.length : Int)) < (0 : Int)) then (some ((-1 : Int), ())) else some (w64 (a1.2.1 - (a1.1.length : Int)), ())
noncomputable def raw (k : Nat) (a1 : Arg) : Option Out := p a1
theorem raw_eq (k : Nat) (a1 : Arg) : W k a1 = raw k a1 := by kernel_rfl
theorem ok : Ok prog 105 sig := fn_ok func105 (tl := tl) (gl := gl) (es := []) (fr := []) rfl rfl (by kernel_rfl) (fn_nil _) (fun _ => rfl)
end laws_szKeyS
namespace laws_szTx
/-! loop example g00408 laws szTx -/
abbrev Arg : Type := Tx × Int × Unit
abbrev Out : Type := Int × Unit
noncomputable def ps : PQ := [(.ro, tTx), (.ro, i64)]
noncomputable def rs : RQ := [(i64, (roMd i64))]
noncomputable def tl : TL := [(96, (.slc i64)), (110, (.slc tChange)), (111, (.slc tKey)), (113, tTx)]
noncomputable def gl : GL := [(103, laws_szChangeS.sig), (104, laws_szInt64S.sig), (105, laws_szKeyS.sig)]
noncomputable def E : Env := { TI := lookN tl, G := lookN gl }
noncomputable def W (k : Nat) (a : Arg) : Option Out := bodyK E k f55 ps rs [] [] a
noncomputable def sem (a : Arg) : Option Out := lift fun k => W k a
noncomputable def sig : Sig := { ps := ps, rs := rs, F := sem }
noncomputable def p (a1 : Arg) : Option Out := (laws_szChangeS.sem (a1.1.2.1, a1.2.1, ())).bind fun r2 => bif decide (r2.1 < (0 : Int)) then (some ((-1 : Int), ())) else (laws_szInt64S.sem (a1.1.2.2.1, r2.1, ())).bind fun r3 => bif decide (r3.1 < (0 : Int)) then (some ((-1 : Int), ())) else (laws_szKeyS.sem (a1.1.2.2.2.1, r3.1, ())).bind fun r4 => bif decide (r4.1 < (0 : Int)) then (some ((-1 : Int), ())) else some (r4.1, ())
noncomputable def raw (k : Nat) (a1 : Arg) : Option Out := p a1
theorem raw_eq (k : Nat) (a1 : Arg) : W k a1 = raw k a1 := by kernel_rfl
theorem ok : Ok prog 55 sig := fn_ok func55 (tl := tl) (gl := gl) (es := []) (fr := []) rfl rfl (by kernel_rfl) (fc laws_szChangeS.ok (fc laws_szInt64S.ok (fc laws_szKeyS.ok (fn_nil _)))) (fun _ => rfl)
end laws_szTx
namespace laws_szTxS
/-! loop example g00408 laws szTxS -/
abbrev Arg : Type := (List Tx) × Int × Unit
abbrev Out : Type := Int × Unit
noncomputable def ps : PQ := [(.ro, (.slc tTx)), (.ro, i64)]
noncomputable def rs : RQ := [(i64, (roMd i64))]
noncomputable def tl : TL := [(23, (.slc tTx)), (113, tTx)]
noncomputable def gl : GL := [(55, laws_szTx.sig)]
noncomputable def E : Env := { TI := lookN tl, G := lookN gl, lv := [(5, [0, 1, 5])], lx := [(0, [1])] }
noncomputable def W (k : Nat) (a : Arg) : Option Out := bodyK E k f20 ps rs [] [] a
noncomputable def sem (a : Arg) : Option Out := lift fun k => W k a
noncomputable def sig : Sig := { ps := ps, rs := rs, F := sem }
noncomputable def C : Code := bodyOf f20
noncomputable def fin : St → Option Out := outK ps rs [] (Func.results f20).toList (mvs [])
noncomputable def K0 : Ex → St → Option Out := endK fin
noncomputable def T0 (a1 : Arg) (v402 : Int × Int) : St := { n := 27, sl := [(0, .val (.slc tTx) a1.1), (1, .val i64 v402.1), (5, .val i64 v402.2)], vr := [], lent := [] }
noncomputable def N0 (k : Nat) : St → (Ex → St → Option Out) → Option Out := codeK E k fin (sub [1, 1, 1, 0, 1, 0, 0] C)
noncomputable def M0 : St → St := keepF [0, 1, 5] []
noncomputable def S0 (rec : RT Out) (a1 : Arg) : (Int × Int) → Option Out := fun v402 => rec (T0 a1 v402)
noncomputable def X0_0 (K : KT Out) (a1 : Arg) : Int → Option Out := fun z => K (.exit 0) ({ n := 27, sl := [(1, .val i64 z)], vr := [], lent := [] })
noncomputable def b0 (self : (Int × Int) → Option Out) (e0 : Int → Option Out) (a1 : Arg) (v402 : Int × Int) : Option Out := bif decide (v402.2 < (a1.1.length : Int)) then (if 0 ≤ v402.2 then ((a1.1[v402.2.toNat]?).bind fun x603 => (laws_szTx.sem (x603, v402.1, ())).bind fun r604 => bif decide (r604.1 < (0 : Int)) then (some ((-1 : Int), ())) else self (r604.1, w64 (v402.2 + (1 : Int)))) else none) else e0 v402.1
noncomputable def B0 (k : Nat) (self : (Int × Int) → Option Out) (e0 : Int → Option Out) (a1 : Arg) (v402 : Int × Int) : Option Out := b0 self e0 a1 v402
theorem B0_eq (k : Nat) (rec : RT Out) (K : KT Out) (a1 : Arg) (v402 : Int × Int) : N0 k (T0 a1 v402) (loopC rec M0 K) = B0 k (S0 rec a1) (X0_0 K a1) a1 v402 := by kernel_rfl
noncomputable def l0 (k : Nat) (a1 : Arg) (e0 : Int → Option Out) (v : Int × Int) : Option Out := rawIter (fun self v => B0 k self e0 a1 v) k v
theorem l0_eq (k : Nat) (K : KT Out) (a1 : Arg) (v402 : Int × Int) : iterK (N0 k) M0 K k (T0 a1 v402) = l0 k a1 (X0_0 K a1) v402 :=
  iter_raw _ _ K (fun v402 => (T0 a1 v402)) (fun self v => B0 k self (X0_0 K a1) a1 v) (fun rec v => B0_eq k rec K a1 v) k v402
noncomputable def q0 (a1 : Arg) (z605 : Int) : Option Out := some (z605, ())
noncomputable def Q0 (k : Nat) (a1 : Arg) (z605 : Int) : Option Out := q0 a1 z605
theorem Q0_eq (k : Nat) (a1 : Arg) (z605 : Int) : X0_0 (blockC 0 (seqC (codeK E k fin (sub [1, 1, 1, 1] C)) K0)) a1 z605 = Q0 k a1 z605 := by kernel_rfl
noncomputable def s0 (k : Nat) (a1 : Arg) : (Int × Int) → Option Out := fun v402 => iterK (N0 k) M0 (blockC 0 (seqC (codeK E k fin (sub [1, 1, 1, 1] C)) K0)) k (T0 a1 v402)
noncomputable def r0 (k : Nat) (a1 : Arg) : (Int × Int) → Option Out := fun v402 => l0 k a1 (fun z => Q0 k a1 z) v402
theorem s0_eq (k : Nat) (a1 : Arg) : s0 k a1 = r0 k a1 := by
  funext v402;
  have h0 : X0_0 ((blockC 0 (seqC (codeK E k fin (sub [1, 1, 1, 1] C)) K0))) a1 = fun z => Q0 k a1 z := funext fun z => Q0_eq k a1 z
  refine (l0_eq k ((blockC 0 (seqC (codeK E k fin (sub [1, 1, 1, 1] C)) K0))) a1 v402).trans ?_
  rw [h0]
  rfl
noncomputable def p (l0 : (Int × Int) → Option Out) (a1 : Arg) : Option Out := bif decide (w64 (a1.2.1 - (a1.1.length : Int)) < (0 : Int)) then (some ((-1 : Int), ())) else l0 (w64 (a1.2.1 - (a1.1.length : Int)), (0 : Int))
noncomputable def raw (k : Nat) (a1 : Arg) : Option Out := p (r0 k a1) a1
theorem p_eq (k : Nat) (a1 : Arg) : W k a1 = p (s0 k a1) a1 := by kernel_rfl
theorem raw_eq (k : Nat) (a1 : Arg) : W k a1 = raw k a1 := (p_eq k a1).trans (by rw [s0_eq]; rfl)
theorem ok : Ok prog 20 sig := fn_ok func20 (tl := tl) (gl := gl) (es := []) (fr := []) rfl rfl (by kernel_rfl) (fc laws_szTx.ok (fn_nil _)) (fun _ => rfl)
end laws_szTxS
namespace spec_l6Key
/-! loop example g00408 spec l6Key -/
abbrev Arg : Type := Change × Unit
abbrev Out : Type := Int × Int × Unit
noncomputable def ps : PQ := [(.ro, (.ptr tChange))]
noncomputable def rs : RQ := [(i64, (roMd i64)), (i64, (roMd i64))]
noncomputable def tl : TL := [(2, i64), (4, .bool), (48, tRow), (50, tChange)]
noncomputable def gl : GL := []
noncomputable def E : Env := { TI := lookN tl, G := lookN gl, od := [(2, [0, 1, 2, 3, 4, 5, 6, 7, 8, 9, 10, 11]), (3, [0, 1, 2, 3, 4, 5, 6, 7, 8, 9, 10, 11])] }
noncomputable def W (k : Nat) (a : Arg) : Option Out := bodyK E k f190 ps rs [] [] a
noncomputable def sem (a : Arg) : Option Out := lift fun k => W k a
noncomputable def sig : Sig := { ps := ps, rs := rs, F := sem }
noncomputable def p (a1 : Arg) : Option Out := bif a1.1.2.2.1 then (some (a1.1.2.2.2.1.1, a1.1.2.2.2.1.2.1, ())) else some (a1.1.2.1.1, a1.1.2.1.2.1, ())
noncomputable def raw (k : Nat) (a1 : Arg) : Option Out := p a1
theorem raw_eq (k : Nat) (a1 : Arg) : W k a1 = raw k a1 := by kernel_rfl
theorem ok : Ok prog 190 sig := fn_ok func190 (tl := tl) (gl := gl) (es := []) (fr := []) rfl rfl (by kernel_rfl) (fn_nil _) (fun _ => rfl)
end spec_l6Key
namespace spec_l6At
/-! loop example g00408 spec l6At -/
abbrev Arg : Type := (List Row) × Int × Int × Unit
abbrev Out : Type := Int × Unit
noncomputable def ps : PQ := [(.ro, (.slc tRow)), (.ro, i64), (.ro, i64)]
noncomputable def rs : RQ := [(i64, (roMd i64))]
noncomputable def tl : TL := [(2, i64), (28, (.slc tRow)), (48, tRow)]
noncomputable def gl : GL := []
noncomputable def E : Env := { TI := lookN tl, G := lookN gl, lv := [(2, [0, 1, 2, 7])], lx := [(0, [])] }
noncomputable def W (k : Nat) (a : Arg) : Option Out := bodyK E k f191 ps rs [] [] a
noncomputable def sem (a : Arg) : Option Out := lift fun k => W k a
noncomputable def sig : Sig := { ps := ps, rs := rs, F := sem }
noncomputable def C : Code := bodyOf f191
noncomputable def fin : St → Option Out := outK ps rs [] (Func.results f191).toList (mvs [])
noncomputable def K0 : Ex → St → Option Out := endK fin
noncomputable def T0 (a1 : Arg) (v402 : Int) : St := { n := 31, sl := [(0, .val (.slc tRow) a1.1), (1, .val i64 a1.2.1), (2, .val i64 a1.2.2.1), (7, .val i64 v402)], vr := [], lent := [] }
noncomputable def N0 (k : Nat) : St → (Ex → St → Option Out) → Option Out := codeK E k fin (sub [1, 0, 1, 0, 0] C)
noncomputable def M0 : St → St := keepF [0, 1, 2, 7] []
noncomputable def S0 (rec : RT Out) (a1 : Arg) : (Int) → Option Out := fun v402 => rec (T0 a1 v402)
noncomputable def X0_0 (K : KT Out) (a1 : Arg) : (Unit) → Option Out := fun z => K (.exit 0) ({ n := 31, sl := [], vr := [], lent := [] })
noncomputable def b0 (self : Int → Option Out) (e0 : (Unit) → Option Out) (a1 : Arg) (v402 : Int) : Option Out := bif decide (v402 < (a1.1.length : Int)) then (if 0 ≤ v402 then ((a1.1[v402.toNat]?).bind fun x603 => bif decide (x603.1 = a1.2.1) then (if 0 ≤ v402 then ((a1.1[v402.toNat]?).bind fun x604 => bif decide (x604.2.1 = a1.2.2.1) then (some (v402, ())) else self (w64 (v402 + (1 : Int)))) else none) else self (w64 (v402 + (1 : Int)))) else none) else e0 ()
noncomputable def B0 (k : Nat) (self : Int → Option Out) (e0 : (Unit) → Option Out) (a1 : Arg) (v402 : Int) : Option Out := b0 self e0 a1 v402
theorem B0_eq (k : Nat) (rec : RT Out) (K : KT Out) (a1 : Arg) (v402 : Int) : N0 k (T0 a1 v402) (loopC rec M0 K) = B0 k (S0 rec a1) (X0_0 K a1) a1 v402 := by kernel_rfl
noncomputable def l0 (k : Nat) (a1 : Arg) (e0 : (Unit) → Option Out) (v : Int) : Option Out := rawIter (fun self v => B0 k self e0 a1 v) k v
theorem l0_eq (k : Nat) (K : KT Out) (a1 : Arg) (v402 : Int) : iterK (N0 k) M0 K k (T0 a1 v402) = l0 k a1 (X0_0 K a1) v402 :=
  iter_raw _ _ K (fun v402 => (T0 a1 v402)) (fun self v => B0 k self (X0_0 K a1) a1 v) (fun rec v => B0_eq k rec K a1 v) k v402
noncomputable def q0 (a1 : Arg) (z605 : (Unit)) : Option Out := some ((-1 : Int), ())
noncomputable def Q0 (k : Nat) (a1 : Arg) (z605 : (Unit)) : Option Out := q0 a1 z605
theorem Q0_eq (k : Nat) (a1 : Arg) (z605 : (Unit)) : X0_0 (blockC 0 (seqC (codeK E k fin (sub [1, 1] C)) K0)) a1 z605 = Q0 k a1 z605 := by kernel_rfl
noncomputable def s0 (k : Nat) (a1 : Arg) : (Int) → Option Out := fun v402 => iterK (N0 k) M0 (blockC 0 (seqC (codeK E k fin (sub [1, 1] C)) K0)) k (T0 a1 v402)
noncomputable def r0 (k : Nat) (a1 : Arg) : (Int) → Option Out := fun v402 => l0 k a1 (fun z => Q0 k a1 z) v402
theorem s0_eq (k : Nat) (a1 : Arg) : s0 k a1 = r0 k a1 := by
  funext v402;
  have h0 : X0_0 ((blockC 0 (seqC (codeK E k fin (sub [1, 1] C)) K0))) a1 = fun z => Q0 k a1 z := funext fun z => Q0_eq k a1 z
  refine (l0_eq k ((blockC 0 (seqC (codeK E k fin (sub [1, 1] C)) K0))) a1 v402).trans ?_
  rw [h0]
  rfl
noncomputable def p (l0 : (Int) → Option Out) (a1 : Arg) : Option Out := l0 (0 : Int)
noncomputable def raw (k : Nat) (a1 : Arg) : Option Out := p (r0 k a1) a1
theorem p_eq (k : Nat) (a1 : Arg) : W k a1 = p (s0 k a1) a1 := by kernel_rfl
theorem raw_eq (k : Nat) (a1 : Arg) : W k a1 = raw k a1 := (p_eq k a1).trans (by rw [s0_eq]; rfl)
theorem ok : Ok prog 191 sig := fn_ok func191 (tl := tl) (gl := gl) (es := []) (fr := []) rfl rfl (by kernel_rfl) (fn_nil _) (fun _ => rfl)
end spec_l6At
namespace spec_l1Before
/-! loop example g00408 spec l1Before -/
abbrev Arg : Type := Row × Row × Unit
abbrev Out : Type := Bool × Unit
noncomputable def ps : PQ := [(.ro, (.ptr tRow)), (.ro, (.ptr tRow))]
noncomputable def rs : RQ := [(.bool, (roMd .bool))]
noncomputable def tl : TL := [(2, i64), (48, tRow)]
noncomputable def gl : GL := []
noncomputable def E : Env := { TI := lookN tl, G := lookN gl, od := [(1, [0, 1, 2, 3, 4, 5, 6, 7, 8, 9, 10, 11, 12, 13, 14, 15, 16, 17, 18, 19, 20, 21, 22, 23, 24, 25, 26, 27, 28, 29, 30, 31])] }
noncomputable def W (k : Nat) (a : Arg) : Option Out := bodyK E k f107 ps rs [] [] a
noncomputable def sem (a : Arg) : Option Out := lift fun k => W k a
noncomputable def sig : Sig := { ps := ps, rs := rs, F := sem }
noncomputable def p (a1 : Arg) : Option Out := bif decide (a1.1.1 < a1.2.1.1) then (some (true, ())) else bif decide (a1.1.1 = a1.2.1.1) then (some (decide (a1.1.2.1 < a1.2.1.2.1), ())) else some (false, ())
noncomputable def raw (k : Nat) (a1 : Arg) : Option Out := p a1
theorem raw_eq (k : Nat) (a1 : Arg) : W k a1 = raw k a1 := by kernel_rfl
theorem ok : Ok prog 107 sig := fn_ok func107 (tl := tl) (gl := gl) (es := []) (fr := []) rfl rfl (by kernel_rfl) (fn_nil _) (fun _ => rfl)
end spec_l1Before
namespace spec_l1In
/-! loop example g00408 spec l1In -/
abbrev Arg : Type := Int × Int × Int × Unit
abbrev Out : Type := Bool × Unit
noncomputable def ps : PQ := [(.ro, i64), (.ro, i64), (.ro, i64)]
noncomputable def rs : RQ := [(.bool, (roMd .bool))]
noncomputable def tl : TL := []
noncomputable def gl : GL := []
noncomputable def E : Env := { TI := lookN tl, G := lookN gl }
noncomputable def W (k : Nat) (a : Arg) : Option Out := bodyK E k f88 ps rs [] [] a
noncomputable def sem (a : Arg) : Option Out := lift fun k => W k a
noncomputable def sig : Sig := { ps := ps, rs := rs, F := sem }
noncomputable def p (a1 : Arg) : Option Out := bif decide (a1.2.1 ≤ a1.1) then (some (decide (a1.1 ≤ a1.2.2.1), ())) else some (false, ())
noncomputable def raw (k : Nat) (a1 : Arg) : Option Out := p a1
theorem raw_eq (k : Nat) (a1 : Arg) : W k a1 = raw k a1 := by kernel_rfl
theorem ok : Ok prog 88 sig := fn_ok func88 (tl := tl) (gl := gl) (es := []) (fr := []) rfl rfl (by kernel_rfl) (fn_nil _) (fun _ => rfl)
end spec_l1In
namespace spec_l1Text
/-! loop example g00408 spec l1Text -/
abbrev Arg : Type := (List UInt8) × Unit
abbrev Out : Type := Bool × Unit
noncomputable def ps : PQ := [(.ro, .str)]
noncomputable def rs : RQ := [(.bool, (roMd .bool))]
noncomputable def tl : TL := [(9, .str)]
noncomputable def gl : GL := []
noncomputable def E : Env := { TI := lookN tl, G := lookN gl, lv := [(2, [0, 3])], lx := [(0, [0])] }
noncomputable def W (k : Nat) (a : Arg) : Option Out := bodyK E k f153 ps rs [] [] a
noncomputable def sem (a : Arg) : Option Out := lift fun k => W k a
noncomputable def sig : Sig := { ps := ps, rs := rs, F := sem }
noncomputable def C : Code := bodyOf f153
noncomputable def fin : St → Option Out := outK ps rs [] (Func.results f153).toList (mvs [])
noncomputable def K0 : Ex → St → Option Out := endK fin
noncomputable def T0 (a1 : Arg) (v402 : Int) : St := { n := 23, sl := [(0, .val .str a1.1), (3, .val i64 v402)], vr := [], lent := [] }
noncomputable def N0 (k : Nat) : St → (Ex → St → Option Out) → Option Out := codeK E k fin (sub [1, 0, 1, 0, 0] C)
noncomputable def M0 : St → St := keepF [0, 3] []
noncomputable def S0 (rec : RT Out) (a1 : Arg) : (Int) → Option Out := fun v402 => rec (T0 a1 v402)
noncomputable def X0_0 (K : KT Out) (a1 : Arg) : (Unit) → Option Out := fun z => K (.exit 0) ({ n := 23, sl := [(0, .val .str a1.1)], vr := [], lent := [] })
noncomputable def b0 (self : Int → Option Out) (e0 : (Unit) → Option Out) (a1 : Arg) (v402 : Int) : Option Out := bif decide (v402 < (a1.1.length : Int)) then (if 0 ≤ v402 then ((a1.1[v402.toNat]?).bind fun x603 => bif decide ((x603.toNat : Int) < (97 : Int)) then (some (false, ())) else if 0 ≤ v402 then ((a1.1[v402.toNat]?).bind fun x604 => bif decide ((122 : Int) < (x604.toNat : Int)) then (some (false, ())) else self (w64 (v402 + (1 : Int)))) else none) else none) else e0 ()
noncomputable def B0 (k : Nat) (self : Int → Option Out) (e0 : (Unit) → Option Out) (a1 : Arg) (v402 : Int) : Option Out := b0 self e0 a1 v402
theorem B0_eq (k : Nat) (rec : RT Out) (K : KT Out) (a1 : Arg) (v402 : Int) : N0 k (T0 a1 v402) (loopC rec M0 K) = B0 k (S0 rec a1) (X0_0 K a1) a1 v402 := by kernel_rfl
noncomputable def l0 (k : Nat) (a1 : Arg) (e0 : (Unit) → Option Out) (v : Int) : Option Out := rawIter (fun self v => B0 k self e0 a1 v) k v
theorem l0_eq (k : Nat) (K : KT Out) (a1 : Arg) (v402 : Int) : iterK (N0 k) M0 K k (T0 a1 v402) = l0 k a1 (X0_0 K a1) v402 :=
  iter_raw _ _ K (fun v402 => (T0 a1 v402)) (fun self v => B0 k self (X0_0 K a1) a1 v) (fun rec v => B0_eq k rec K a1 v) k v402
noncomputable def q0 (a1 : Arg) (z605 : (Unit)) : Option Out := some (decide ((a1.1.length : Int) ≤ (8 : Int)), ())
noncomputable def Q0 (k : Nat) (a1 : Arg) (z605 : (Unit)) : Option Out := q0 a1 z605
theorem Q0_eq (k : Nat) (a1 : Arg) (z605 : (Unit)) : X0_0 (blockC 0 (seqC (codeK E k fin (sub [1, 1] C)) K0)) a1 z605 = Q0 k a1 z605 := by kernel_rfl
noncomputable def s0 (k : Nat) (a1 : Arg) : (Int) → Option Out := fun v402 => iterK (N0 k) M0 (blockC 0 (seqC (codeK E k fin (sub [1, 1] C)) K0)) k (T0 a1 v402)
noncomputable def r0 (k : Nat) (a1 : Arg) : (Int) → Option Out := fun v402 => l0 k a1 (fun z => Q0 k a1 z) v402
theorem s0_eq (k : Nat) (a1 : Arg) : s0 k a1 = r0 k a1 := by
  funext v402;
  have h0 : X0_0 ((blockC 0 (seqC (codeK E k fin (sub [1, 1] C)) K0))) a1 = fun z => Q0 k a1 z := funext fun z => Q0_eq k a1 z
  refine (l0_eq k ((blockC 0 (seqC (codeK E k fin (sub [1, 1] C)) K0))) a1 v402).trans ?_
  rw [h0]
  rfl
noncomputable def p (l0 : (Int) → Option Out) (a1 : Arg) : Option Out := l0 (0 : Int)
noncomputable def raw (k : Nat) (a1 : Arg) : Option Out := p (r0 k a1) a1
theorem p_eq (k : Nat) (a1 : Arg) : W k a1 = p (s0 k a1) a1 := by kernel_rfl
theorem raw_eq (k : Nat) (a1 : Arg) : W k a1 = raw k a1 := (p_eq k a1).trans (by rw [s0_eq]; rfl)
theorem ok : Ok prog 153 sig := fn_ok func153 (tl := tl) (gl := gl) (es := []) (fr := []) rfl rfl (by kernel_rfl) (fn_nil _) (fun _ => rfl)
end spec_l1Text
namespace spec_l1Fault
/-! loop example g00408 spec l1Fault -/
abbrev Arg : Type := Row × Unit
abbrev Out : Type := Int × Unit
noncomputable def ps : PQ := [(.ro, (.ptr tRow))]
noncomputable def rs : RQ := [(i64, (roMd i64))]
noncomputable def tl : TL := [(2, i64), (9, .str), (48, tRow)]
noncomputable def gl : GL := [(88, spec_l1In.sig), (153, spec_l1Text.sig)]
noncomputable def E : Env := { TI := lookN tl, G := lookN gl }
noncomputable def W (k : Nat) (a : Arg) : Option Out := bodyK E k f106 ps rs [] [] a
noncomputable def sem (a : Arg) : Option Out := lift fun k => W k a
noncomputable def sig : Sig := { ps := ps, rs := rs, F := sem }
noncomputable def p (a1 : Arg) : Option Out := (spec_l1In.sem (a1.1.1, (0 : Int), (3 : Int), ())).bind fun r2 => bif !r2.1 then (some ((3 : Int), ())) else (spec_l1In.sem (a1.1.2.1, (1 : Int), (99 : Int), ())).bind fun r3 => bif !r3.1 then (some ((3 : Int), ())) else (spec_l1In.sem (a1.1.2.2.1, (0 : Int), (999 : Int), ())).bind fun r4 => bif !r4.1 then (some ((3 : Int), ())) else (spec_l1Text.sem (a1.1.2.2.2.1, ())).bind fun r5 => bif !r5.1 then (some ((5 : Int), ())) else some ((0 : Int), ())
noncomputable def raw (k : Nat) (a1 : Arg) : Option Out := p a1
theorem raw_eq (k : Nat) (a1 : Arg) : W k a1 = raw k a1 := by kernel_rfl
theorem ok : Ok prog 106 sig := fn_ok func106 (tl := tl) (gl := gl) (es := []) (fr := []) rfl rfl (by kernel_rfl) (fc spec_l1In.ok (fc spec_l1Text.ok (fn_nil _))) (fun _ => rfl)
end spec_l1Fault
namespace spec_l6Rows
/-! loop example g00408 spec l6Rows -/
abbrev Arg : Type := (List Row) × Unit
abbrev Out : Type := Int × Unit
noncomputable def ps : PQ := [(.ro, (.slc tRow))]
noncomputable def rs : RQ := [(i64, (roMd i64))]
noncomputable def tl : TL := [(28, (.slc tRow))]
noncomputable def gl : GL := [(106, spec_l1Fault.sig), (107, spec_l1Before.sig)]
noncomputable def E : Env := { TI := lookN tl, G := lookN gl, lv := [(4, [0, 3])], lx := [(0, [])], od := [(9, [0, 1, 2, 3, 4, 5, 6, 7, 8, 9, 10, 11, 12])] }
noncomputable def W (k : Nat) (a : Arg) : Option Out := bodyK E k f56 ps rs [] [] a
noncomputable def sem (a : Arg) : Option Out := lift fun k => W k a
noncomputable def sig : Sig := { ps := ps, rs := rs, F := sem }
noncomputable def C : Code := bodyOf f56
noncomputable def fin : St → Option Out := outK ps rs [] (Func.results f56).toList (mvs [])
noncomputable def K0 : Ex → St → Option Out := endK fin
noncomputable def T0 (a1 : Arg) (v402 : Int) : St := { n := 34, sl := [(0, .val (.slc tRow) a1.1), (3, .val i64 v402)], vr := [], lent := [] }
noncomputable def N0 (k : Nat) : St → (Ex → St → Option Out) → Option Out := codeK E k fin (sub [1, 1, 0, 1, 0, 0] C)
noncomputable def M0 : St → St := keepF [0, 3] []
noncomputable def S0 (rec : RT Out) (a1 : Arg) : (Int) → Option Out := fun v402 => rec (T0 a1 v402)
noncomputable def X0_0 (K : KT Out) (a1 : Arg) : (Unit) → Option Out := fun z => K (.exit 0) ({ n := 34, sl := [], vr := [], lent := [] })
noncomputable def b0 (self : Int → Option Out) (e0 : (Unit) → Option Out) (a1 : Arg) (v402 : Int) : Option Out := bif decide (v402 < (a1.1.length : Int)) then (if 0 ≤ v402 then ((a1.1[v402.toNat]?).bind fun x603 => (spec_l1Fault.sem (x603, ())).bind fun r604 => bif !decide (r604.1 = (0 : Int)) then (some (r604.1, ())) else bif decide ((0 : Int) < v402) then (if 0 ≤ w64 (v402 - (1 : Int)) then ((a1.1[(w64 (v402 - (1 : Int))).toNat]?).bind fun x605 => if 0 ≤ v402 then ((a1.1[v402.toNat]?).bind fun x606 => (spec_l1Before.sem (x605, x606, ())).bind fun r607 => bif !r607.1 then (some ((1 : Int), ())) else self (w64 (v402 + (1 : Int)))) else none) else none) else self (w64 (v402 + (1 : Int)))) else none) else e0 ()
noncomputable def B0 (k : Nat) (self : Int → Option Out) (e0 : (Unit) → Option Out) (a1 : Arg) (v402 : Int) : Option Out := b0 self e0 a1 v402
theorem B0_eq (k : Nat) (rec : RT Out) (K : KT Out) (a1 : Arg) (v402 : Int) : N0 k (T0 a1 v402) (loopC rec M0 K) = B0 k (S0 rec a1) (X0_0 K a1) a1 v402 := by kernel_rfl
noncomputable def l0 (k : Nat) (a1 : Arg) (e0 : (Unit) → Option Out) (v : Int) : Option Out := rawIter (fun self v => B0 k self e0 a1 v) k v
theorem l0_eq (k : Nat) (K : KT Out) (a1 : Arg) (v402 : Int) : iterK (N0 k) M0 K k (T0 a1 v402) = l0 k a1 (X0_0 K a1) v402 :=
  iter_raw _ _ K (fun v402 => (T0 a1 v402)) (fun self v => B0 k self (X0_0 K a1) a1 v) (fun rec v => B0_eq k rec K a1 v) k v402
noncomputable def q0 (a1 : Arg) (z608 : (Unit)) : Option Out := some ((0 : Int), ())
noncomputable def Q0 (k : Nat) (a1 : Arg) (z608 : (Unit)) : Option Out := q0 a1 z608
theorem Q0_eq (k : Nat) (a1 : Arg) (z608 : (Unit)) : X0_0 (blockC 0 (seqC (codeK E k fin (sub [1, 1, 1] C)) K0)) a1 z608 = Q0 k a1 z608 := by kernel_rfl
noncomputable def s0 (k : Nat) (a1 : Arg) : (Int) → Option Out := fun v402 => iterK (N0 k) M0 (blockC 0 (seqC (codeK E k fin (sub [1, 1, 1] C)) K0)) k (T0 a1 v402)
noncomputable def r0 (k : Nat) (a1 : Arg) : (Int) → Option Out := fun v402 => l0 k a1 (fun z => Q0 k a1 z) v402
theorem s0_eq (k : Nat) (a1 : Arg) : s0 k a1 = r0 k a1 := by
  funext v402;
  have h0 : X0_0 ((blockC 0 (seqC (codeK E k fin (sub [1, 1, 1] C)) K0))) a1 = fun z => Q0 k a1 z := funext fun z => Q0_eq k a1 z
  refine (l0_eq k ((blockC 0 (seqC (codeK E k fin (sub [1, 1, 1] C)) K0))) a1 v402).trans ?_
  rw [h0]
  rfl
noncomputable def p (l0 : (Int) → Option Out) (a1 : Arg) : Option Out := bif decide ((60 : Int) < (a1.1.length : Int)) then (some ((2 : Int), ())) else l0 (0 : Int)
noncomputable def raw (k : Nat) (a1 : Arg) : Option Out := p (r0 k a1) a1
theorem p_eq (k : Nat) (a1 : Arg) : W k a1 = p (s0 k a1) a1 := by kernel_rfl
theorem raw_eq (k : Nat) (a1 : Arg) : W k a1 = raw k a1 := (p_eq k a1).trans (by rw [s0_eq]; rfl)
theorem ok : Ok prog 56 sig := fn_ok func56 (tl := tl) (gl := gl) (es := []) (fr := []) rfl rfl (by kernel_rfl) (fc spec_l1Fault.ok (fc spec_l1Before.ok (fn_nil _))) (fun _ => rfl)
end spec_l6Rows
namespace spec_l6Change
/-! loop example g00408 spec l6Change -/
abbrev Arg : Type := Change × Unit
abbrev Out : Type := Int × Unit
noncomputable def ps : PQ := [(.ro, (.ptr tChange))]
noncomputable def rs : RQ := [(i64, (roMd i64))]
noncomputable def tl : TL := [(2, i64), (4, .bool), (48, tRow), (50, tChange)]
noncomputable def gl : GL := [(106, spec_l1Fault.sig)]
noncomputable def E : Env := { TI := lookN tl, G := lookN gl, od := [(1, [0, 1, 2, 3, 4, 5, 6, 7, 8, 9, 10, 11, 12, 13, 14, 15, 16, 17, 18, 19, 20, 21, 22, 23, 24, 25, 26, 27, 28, 29, 30, 31, 32, 33, 34, 35, 36, 37, 38, 39, 40, 41, 42, 43, 44, 45, 46, 47, 48, 49])] }
noncomputable def W (k : Nat) (a : Arg) : Option Out := bodyK E k f193 ps rs [] [] a
noncomputable def sem (a : Arg) : Option Out := lift fun k => W k a
noncomputable def sig : Sig := { ps := ps, rs := rs, F := sem }
noncomputable def p (a1 : Arg) : Option Out := let j5 : Option Out := bif a1.1.1 then ((spec_l1Fault.sem (a1.1.2.1, ())).bind fun r6 => bif !decide (r6.1 = (0 : Int)) then (some (r6.1, ())) else bif a1.1.2.2.1 then ((spec_l1Fault.sem (a1.1.2.2.2.1, ())).bind fun r8 => some (r8.1, ())) else some ((0 : Int), ())) else bif a1.1.2.2.1 then ((spec_l1Fault.sem (a1.1.2.2.2.1, ())).bind fun r9 => some (r9.1, ())) else some ((0 : Int), ()); bif !a1.1.1 then (bif !a1.1.2.2.1 then (some ((1 : Int), ())) else bif a1.1.1 then (bif a1.1.2.2.1 then (bif !decide (a1.1.2.1.1 = a1.1.2.2.2.1.1) then (some ((1 : Int), ())) else bif !decide (a1.1.2.1.2.1 = a1.1.2.2.2.1.2.1) then (some ((1 : Int), ())) else j5) else j5) else j5) else bif a1.1.1 then (bif a1.1.2.2.1 then (bif !decide (a1.1.2.1.1 = a1.1.2.2.2.1.1) then (some ((1 : Int), ())) else bif !decide (a1.1.2.1.2.1 = a1.1.2.2.2.1.2.1) then (some ((1 : Int), ())) else j5) else j5) else j5
noncomputable def raw (k : Nat) (a1 : Arg) : Option Out := p a1
theorem raw_eq (k : Nat) (a1 : Arg) : W k a1 = raw k a1 := by kernel_rfl
theorem ok : Ok prog 193 sig := fn_ok func193 (tl := tl) (gl := gl) (es := []) (fr := []) rfl rfl (by kernel_rfl) (fc spec_l1Fault.ok (fn_nil _)) (fun _ => rfl)
end spec_l6Change
namespace spec_l9Change
/-! loop example g00408 spec l9Change -/
abbrev Arg : Type := Change × Unit
abbrev Out : Type := Int × Unit
noncomputable def ps : PQ := [(.ro, (.ptr tChange))]
noncomputable def rs : RQ := [(i64, (roMd i64))]
noncomputable def tl : TL := [(4, .bool), (48, tRow), (50, tChange)]
noncomputable def gl : GL := [(193, spec_l6Change.sig)]
noncomputable def E : Env := { TI := lookN tl, G := lookN gl, od := [(4, [0, 1, 2, 3, 4, 5, 6, 7, 8, 9, 10, 11, 12, 13, 14, 15, 16, 17, 18, 19, 20])] }
noncomputable def W (k : Nat) (a : Arg) : Option Out := bodyK E k f154 ps rs [] [] a
noncomputable def sem (a : Arg) : Option Out := lift fun k => W k a
noncomputable def sig : Sig := { ps := ps, rs := rs, F := sem }
noncomputable def p (a1 : Arg) : Option Out := (spec_l6Change.sem (a1.1, ())).bind fun r2 => bif !decide (r2.1 = (0 : Int)) then (some (r2.1, ())) else bif a1.1.1 then (bif a1.1.2.2.1 then (bif (Ty.eq tRow a1.1.2.1 a1.1.2.2.2.1) then (some ((1 : Int), ())) else some ((0 : Int), ())) else some ((0 : Int), ())) else some ((0 : Int), ())
noncomputable def raw (k : Nat) (a1 : Arg) : Option Out := p a1
theorem raw_eq (k : Nat) (a1 : Arg) : W k a1 = raw k a1 := by kernel_rfl
theorem ok : Ok prog 154 sig := fn_ok func154 (tl := tl) (gl := gl) (es := []) (fr := []) rfl rfl (by kernel_rfl) (fc spec_l6Change.ok (fn_nil _)) (fun _ => rfl)
end spec_l9Change
namespace spec_l10Locks
/-! loop example g00408 spec l10Locks -/
abbrev Arg : Type := Tx × Key × Unit
abbrev Out : Type := Bool × Unit
noncomputable def ps : PQ := [(.ro, (.ptr tTx)), (.ro, tKey)]
noncomputable def rs : RQ := [(.bool, (roMd .bool))]
noncomputable def tl : TL := [(97, (.slc tKey)), (99, tTx), (146, tKey)]
noncomputable def gl : GL := []
noncomputable def E : Env := { TI := lookN tl, G := lookN gl, lv := [(2, [0, 3, 5])], lx := [(0, [])], od := [(4, [0, 1, 2, 3, 4, 5, 6, 7, 8])] }
noncomputable def W (k : Nat) (a : Arg) : Option Out := bodyK E k f155 ps rs [] [] a
noncomputable def sem (a : Arg) : Option Out := lift fun k => W k a
noncomputable def sig : Sig := { ps := ps, rs := rs, F := sem }
noncomputable def C : Code := bodyOf f155
noncomputable def fin : St → Option Out := outK ps rs [] (Func.results f155).toList (mvs [])
noncomputable def K0 : Ex → St → Option Out := endK fin
noncomputable def T0 (a1 : Arg) (v402 : Int) : St := { n := 24, sl := [(0, .cp tTx a1.1), (3, .box tKey (roMd tKey) [] a1.2.1), (5, .val i64 v402)], vr := [], lent := [] }
noncomputable def N0 (k : Nat) : St → (Ex → St → Option Out) → Option Out := codeK E k fin (sub [1, 0, 1, 0, 0] C)
noncomputable def M0 : St → St := keepF [0, 3, 5] []
noncomputable def S0 (rec : RT Out) (a1 : Arg) : (Int) → Option Out := fun v402 => rec (T0 a1 v402)
noncomputable def X0_0 (K : KT Out) (a1 : Arg) : (Unit) → Option Out := fun z => K (.exit 0) ({ n := 24, sl := [], vr := [], lent := [] })
noncomputable def b0 (self : Int → Option Out) (e0 : (Unit) → Option Out) (a1 : Arg) (v402 : Int) : Option Out := bif decide (v402 < (a1.1.2.2.2.1.length : Int)) then (if 0 ≤ v402 then ((a1.1.2.2.2.1[v402.toNat]?).bind fun x603 => bif (Ty.eq tKey x603 a1.2.1) then (some (true, ())) else self (w64 (v402 + (1 : Int)))) else none) else e0 ()
noncomputable def B0 (k : Nat) (self : Int → Option Out) (e0 : (Unit) → Option Out) (a1 : Arg) (v402 : Int) : Option Out := b0 self e0 a1 v402
theorem B0_eq (k : Nat) (rec : RT Out) (K : KT Out) (a1 : Arg) (v402 : Int) : N0 k (T0 a1 v402) (loopC rec M0 K) = B0 k (S0 rec a1) (X0_0 K a1) a1 v402 := by kernel_rfl
noncomputable def l0 (k : Nat) (a1 : Arg) (e0 : (Unit) → Option Out) (v : Int) : Option Out := rawIter (fun self v => B0 k self e0 a1 v) k v
theorem l0_eq (k : Nat) (K : KT Out) (a1 : Arg) (v402 : Int) : iterK (N0 k) M0 K k (T0 a1 v402) = l0 k a1 (X0_0 K a1) v402 :=
  iter_raw _ _ K (fun v402 => (T0 a1 v402)) (fun self v => B0 k self (X0_0 K a1) a1 v) (fun rec v => B0_eq k rec K a1 v) k v402
noncomputable def q0 (a1 : Arg) (z604 : (Unit)) : Option Out := some (false, ())
noncomputable def Q0 (k : Nat) (a1 : Arg) (z604 : (Unit)) : Option Out := q0 a1 z604
theorem Q0_eq (k : Nat) (a1 : Arg) (z604 : (Unit)) : X0_0 (blockC 0 (seqC (codeK E k fin (sub [1, 1] C)) K0)) a1 z604 = Q0 k a1 z604 := by kernel_rfl
noncomputable def s0 (k : Nat) (a1 : Arg) : (Int) → Option Out := fun v402 => iterK (N0 k) M0 (blockC 0 (seqC (codeK E k fin (sub [1, 1] C)) K0)) k (T0 a1 v402)
noncomputable def r0 (k : Nat) (a1 : Arg) : (Int) → Option Out := fun v402 => l0 k a1 (fun z => Q0 k a1 z) v402
theorem s0_eq (k : Nat) (a1 : Arg) : s0 k a1 = r0 k a1 := by
  funext v402;
  have h0 : X0_0 ((blockC 0 (seqC (codeK E k fin (sub [1, 1] C)) K0))) a1 = fun z => Q0 k a1 z := funext fun z => Q0_eq k a1 z
  refine (l0_eq k ((blockC 0 (seqC (codeK E k fin (sub [1, 1] C)) K0))) a1 v402).trans ?_
  rw [h0]
  rfl
noncomputable def p (l0 : (Int) → Option Out) (a1 : Arg) : Option Out := l0 (0 : Int)
noncomputable def raw (k : Nat) (a1 : Arg) : Option Out := p (r0 k a1) a1
theorem p_eq (k : Nat) (a1 : Arg) : W k a1 = p (s0 k a1) a1 := by kernel_rfl
theorem raw_eq (k : Nat) (a1 : Arg) : W k a1 = raw k a1 := (p_eq k a1).trans (by rw [s0_eq]; rfl)
theorem ok : Ok prog 155 sig := fn_ok func155 (tl := tl) (gl := gl) (es := []) (fr := []) rfl rfl (by kernel_rfl) (fn_nil _) (fun _ => rfl)
end spec_l10Locks
namespace spec_l10KeyOf
/-! loop example g00408 spec l10KeyOf -/
abbrev Arg : Type := Change × Unit
abbrev Out : Type := Key × Unit
noncomputable def ps : PQ := [(.ro, (.ptr tChange))]
noncomputable def rs : RQ := [(tKey, (roMd tKey))]
noncomputable def tl : TL := [(146, tKey)]
noncomputable def gl : GL := [(190, spec_l6Key.sig)]
noncomputable def E : Env := { TI := lookN tl, G := lookN gl }
noncomputable def W (k : Nat) (a : Arg) : Option Out := bodyK E k f156 ps rs [] [] a
noncomputable def sem (a : Arg) : Option Out := lift fun k => W k a
noncomputable def sig : Sig := { ps := ps, rs := rs, F := sem }
noncomputable def p (a1 : Arg) : Option Out := (spec_l6Key.sem (a1.1, ())).bind fun r2 => some ((r2.1, r2.2.1, ()), ())
noncomputable def raw (k : Nat) (a1 : Arg) : Option Out := p a1
theorem raw_eq (k : Nat) (a1 : Arg) : W k a1 = raw k a1 := by kernel_rfl
theorem ok : Ok prog 156 sig := fn_ok func156 (tl := tl) (gl := gl) (es := []) (fr := []) rfl rfl (by kernel_rfl) (fc spec_l6Key.ok (fn_nil _)) (fun _ => rfl)
end spec_l10KeyOf
namespace spec_l10Undo
/-! loop example g00408 spec l10Undo -/
abbrev Arg : Type := Tx × Unit
abbrev Out : Type := Int × Unit
noncomputable def ps : PQ := [(.ro, (.ptr tTx))]
noncomputable def rs : RQ := [(i64, (roMd i64))]
noncomputable def tl : TL := [(65, (.slc tChange)), (99, tTx)]
noncomputable def gl : GL := [(154, spec_l9Change.sig), (155, spec_l10Locks.sig), (156, spec_l10KeyOf.sig)]
noncomputable def E : Env := { TI := lookN tl, G := lookN gl, lv := [(2, [0, 3])], lx := [(0, [])] }
noncomputable def W (k : Nat) (a : Arg) : Option Out := bodyK E k f108 ps rs [] [] a
noncomputable def sem (a : Arg) : Option Out := lift fun k => W k a
noncomputable def sig : Sig := { ps := ps, rs := rs, F := sem }
noncomputable def C : Code := bodyOf f108
noncomputable def fin : St → Option Out := outK ps rs [] (Func.results f108).toList (mvs [])
noncomputable def K0 : Ex → St → Option Out := endK fin
noncomputable def T0 (a1 : Arg) (v402 : Int) : St := { n := 34, sl := [(0, .cp tTx a1.1), (3, .val i64 v402)], vr := [], lent := [] }
noncomputable def N0 (k : Nat) : St → (Ex → St → Option Out) → Option Out := codeK E k fin (sub [1, 0, 1, 0, 0] C)
noncomputable def M0 : St → St := keepF [0, 3] []
noncomputable def S0 (rec : RT Out) (a1 : Arg) : (Int) → Option Out := fun v402 => rec (T0 a1 v402)
noncomputable def X0_0 (K : KT Out) (a1 : Arg) : (Unit) → Option Out := fun z => K (.exit 0) ({ n := 34, sl := [], vr := [], lent := [] })
noncomputable def b0 (self : Int → Option Out) (e0 : (Unit) → Option Out) (a1 : Arg) (v402 : Int) : Option Out := bif decide (v402 < (a1.1.2.1.length : Int)) then (if 0 ≤ v402 then ((a1.1.2.1[v402.toNat]?).bind fun x603 => (spec_l9Change.sem (x603, ())).bind fun r604 => bif !decide (r604.1 = (0 : Int)) then (some (r604.1, ())) else if 0 ≤ v402 then ((a1.1.2.1[v402.toNat]?).bind fun x605 => (spec_l10KeyOf.sem (x605, ())).bind fun r606 => (spec_l10Locks.sem (a1.1, r606.1, ())).bind fun r607 => bif !r607.1 then (some ((8 : Int), ())) else self (w64 (v402 + (1 : Int)))) else none) else none) else e0 ()
noncomputable def B0 (k : Nat) (self : Int → Option Out) (e0 : (Unit) → Option Out) (a1 : Arg) (v402 : Int) : Option Out := b0 self e0 a1 v402
theorem B0_eq (k : Nat) (rec : RT Out) (K : KT Out) (a1 : Arg) (v402 : Int) : N0 k (T0 a1 v402) (loopC rec M0 K) = B0 k (S0 rec a1) (X0_0 K a1) a1 v402 := by kernel_rfl
noncomputable def l0 (k : Nat) (a1 : Arg) (e0 : (Unit) → Option Out) (v : Int) : Option Out := rawIter (fun self v => B0 k self e0 a1 v) k v
theorem l0_eq (k : Nat) (K : KT Out) (a1 : Arg) (v402 : Int) : iterK (N0 k) M0 K k (T0 a1 v402) = l0 k a1 (X0_0 K a1) v402 :=
  iter_raw _ _ K (fun v402 => (T0 a1 v402)) (fun self v => B0 k self (X0_0 K a1) a1 v) (fun rec v => B0_eq k rec K a1 v) k v402
noncomputable def q0 (a1 : Arg) (z608 : (Unit)) : Option Out := some ((0 : Int), ())
noncomputable def Q0 (k : Nat) (a1 : Arg) (z608 : (Unit)) : Option Out := q0 a1 z608
theorem Q0_eq (k : Nat) (a1 : Arg) (z608 : (Unit)) : X0_0 (blockC 0 (seqC (codeK E k fin (sub [1, 1] C)) K0)) a1 z608 = Q0 k a1 z608 := by kernel_rfl
noncomputable def s0 (k : Nat) (a1 : Arg) : (Int) → Option Out := fun v402 => iterK (N0 k) M0 (blockC 0 (seqC (codeK E k fin (sub [1, 1] C)) K0)) k (T0 a1 v402)
noncomputable def r0 (k : Nat) (a1 : Arg) : (Int) → Option Out := fun v402 => l0 k a1 (fun z => Q0 k a1 z) v402
theorem s0_eq (k : Nat) (a1 : Arg) : s0 k a1 = r0 k a1 := by
  funext v402;
  have h0 : X0_0 ((blockC 0 (seqC (codeK E k fin (sub [1, 1] C)) K0))) a1 = fun z => Q0 k a1 z := funext fun z => Q0_eq k a1 z
  refine (l0_eq k ((blockC 0 (seqC (codeK E k fin (sub [1, 1] C)) K0))) a1 v402).trans ?_
  rw [h0]
  rfl
noncomputable def p (l0 : (Int) → Option Out) (a1 : Arg) : Option Out := l0 (0 : Int)
noncomputable def raw (k : Nat) (a1 : Arg) : Option Out := p (r0 k a1) a1
theorem p_eq (k : Nat) (a1 : Arg) : W k a1 = p (s0 k a1) a1 := by kernel_rfl
theorem raw_eq (k : Nat) (a1 : Arg) : W k a1 = raw k a1 := (p_eq k a1).trans (by rw [s0_eq]; rfl)
theorem ok : Ok prog 108 sig := fn_ok func108 (tl := tl) (gl := gl) (es := []) (fr := []) rfl rfl (by kernel_rfl) (fc spec_l9Change.ok (fc spec_l10Locks.ok (fc spec_l10KeyOf.ok (fn_nil _)))) (fun _ => rfl)
end spec_l10Undo
namespace spec_l10Key
/-! loop example g00408 spec l10Key -/
abbrev Arg : Type := Key × Unit
abbrev Out : Type := Bool × Unit
noncomputable def ps : PQ := [(.ro, (.ptr tKey))]
noncomputable def rs : RQ := [(.bool, (roMd .bool))]
noncomputable def tl : TL := [(2, i64), (146, tKey)]
noncomputable def gl : GL := [(88, spec_l1In.sig)]
noncomputable def E : Env := { TI := lookN tl, G := lookN gl }
noncomputable def W (k : Nat) (a : Arg) : Option Out := bodyK E k f157 ps rs [] [] a
noncomputable def sem (a : Arg) : Option Out := lift fun k => W k a
noncomputable def sig : Sig := { ps := ps, rs := rs, F := sem }
noncomputable def p (a1 : Arg) : Option Out := (spec_l1In.sem (a1.1.1, (0 : Int), (3 : Int), ())).bind fun r2 => bif r2.1 then ((spec_l1In.sem (a1.1.2.1, (1 : Int), (99 : Int), ())).bind fun r3 => some (r3.1, ())) else some (false, ())
noncomputable def raw (k : Nat) (a1 : Arg) : Option Out := p a1
theorem raw_eq (k : Nat) (a1 : Arg) : W k a1 = raw k a1 := by kernel_rfl
theorem ok : Ok prog 157 sig := fn_ok func157 (tl := tl) (gl := gl) (es := []) (fr := []) rfl rfl (by kernel_rfl) (fc spec_l1In.ok (fn_nil _)) (fun _ => rfl)
end spec_l10Key
namespace spec_l10Marks
/-! loop example g00408 spec l10Marks -/
abbrev Arg : Type := Tx × Unit
abbrev Out : Type := Int × Unit
noncomputable def ps : PQ := [(.ro, (.ptr tTx))]
noncomputable def rs : RQ := [(i64, (roMd i64))]
noncomputable def tl : TL := [(2, i64), (65, (.slc tChange)), (96, (.slc i64)), (97, (.slc tKey)), (99, tTx), (146, tKey)]
noncomputable def gl : GL := [(88, spec_l1In.sig), (157, spec_l10Key.sig)]
noncomputable def E : Env := { TI := lookN tl, G := lookN gl, lv := [(4, [0, 3]), (9, [0, 4]), (14, [0, 4, 5])], lx := [(0, [0]), (2, []), (4, [0, 4])], od := [(6, [0, 1, 2, 3, 4, 5, 6, 7, 8, 9, 10, 11, 12, 13, 14, 15, 16, 17, 18, 19, 20, 21, 22, 23, 24, 25, 26, 27, 28, 29, 30, 31, 32, 33, 34, 35]), (16, [0, 1, 2, 3, 4, 5, 6, 7, 8, 9, 10, 11, 12, 13, 14])], ar := [(6, [3, 6, 10, 21, 24, 28, 32])] }
noncomputable def W (k : Nat) (a : Arg) : Option Out := bodyK E k f109 ps rs [] [] a
noncomputable def sem (a : Arg) : Option Out := lift fun k => W k a
noncomputable def sig : Sig := { ps := ps, rs := rs, F := sem }
noncomputable def C : Code := bodyOf f109
noncomputable def fin : St → Option Out := outK ps rs [] (Func.results f109).toList (mvs [])
noncomputable def K0 : Ex → St → Option Out := endK fin
noncomputable def T0 (a1 : Arg) (v402 : Int) : St := { n := 102, sl := [(0, .cp tTx a1.1), (3, .val i64 v402)], vr := [], lent := [] }
noncomputable def N0 (k : Nat) : St → (Ex → St → Option Out) → Option Out := codeK E k fin (sub [1, 1, 0, 1, 0, 0] C)
noncomputable def M0 : St → St := keepF [0, 3] []
noncomputable def S0 (rec : RT Out) (a1 : Arg) : (Int) → Option Out := fun v402 => rec (T0 a1 v402)
noncomputable def X0_0 (K : KT Out) (a1 : Arg) : (Unit) → Option Out := fun z => K (.exit 0) ({ n := 102, sl := [(0, .cp tTx a1.1)], vr := [], lent := [] })
noncomputable def b0 (self : Int → Option Out) (e0 : (Unit) → Option Out) (a1 : Arg) (v402 : Int) : Option Out := bif decide (v402 < (a1.1.2.2.1.length : Int)) then (if 0 ≤ v402 then ((a1.1.2.2.1[v402.toNat]?).bind fun x603 => (spec_l1In.sem (x603, (0 : Int), (a1.1.2.1.length : Int), ())).bind fun r604 => bif !r604.1 then (some ((3 : Int), ())) else bif decide ((0 : Int) < v402) then (if 0 ≤ v402 then ((a1.1.2.2.1[v402.toNat]?).bind fun x605 => if 0 ≤ w64 (v402 - (1 : Int)) then ((a1.1.2.2.1[(w64 (v402 - (1 : Int))).toNat]?).bind fun x606 => bif decide (x605 < x606) then (some ((3 : Int), ())) else self (w64 (v402 + (1 : Int)))) else none) else none) else self (w64 (v402 + (1 : Int)))) else none) else e0 ()
noncomputable def B0 (k : Nat) (self : Int → Option Out) (e0 : (Unit) → Option Out) (a1 : Arg) (v402 : Int) : Option Out := b0 self e0 a1 v402
theorem B0_eq (k : Nat) (rec : RT Out) (K : KT Out) (a1 : Arg) (v402 : Int) : N0 k (T0 a1 v402) (loopC rec M0 K) = B0 k (S0 rec a1) (X0_0 K a1) a1 v402 := by kernel_rfl
noncomputable def l0 (k : Nat) (a1 : Arg) (e0 : (Unit) → Option Out) (v : Int) : Option Out := rawIter (fun self v => B0 k self e0 a1 v) k v
theorem l0_eq (k : Nat) (K : KT Out) (a1 : Arg) (v402 : Int) : iterK (N0 k) M0 K k (T0 a1 v402) = l0 k a1 (X0_0 K a1) v402 :=
  iter_raw _ _ K (fun v402 => (T0 a1 v402)) (fun self v => B0 k self (X0_0 K a1) a1 v) (fun rec v => B0_eq k rec K a1 v) k v402
noncomputable def T1 (a1 : Arg) (v1008 : Tx × Int) : St := { n := 102, sl := [(0, .cp tTx v1008.1), (4, .val i64 v1008.2)], vr := [], lent := [] }
noncomputable def N1 (k : Nat) : St → (Ex → St → Option Out) → Option Out := codeK E k fin (sub [1, 1, 1, 0, 1, 0, 0] C)
noncomputable def M1 : St → St := keepF [0, 4] []
noncomputable def S1 (rec : RT Out) (a1 : Arg) : (Tx × Int) → Option Out := fun v1008 => rec (T1 a1 v1008)
noncomputable def X1_2 (K : KT Out) (a1 : Arg) : (Unit) → Option Out := fun z => K (.exit 2) ({ n := 102, sl := [], vr := [], lent := [] })
noncomputable def T2 (a1 : Arg) (c1612 : Tx) (c1613 : Int) (v1611 : Int) : St := { n := 102, sl := [(0, .cp tTx c1612), (4, .val i64 c1613), (5, .val i64 v1611)], vr := [], lent := [] }
noncomputable def N2 (k : Nat) : St → (Ex → St → Option Out) → Option Out := codeK E k fin (sub [1, 1, 1, 0, 1, 0, 0, 1, 0, 0, 1, 1, 0, 0] C)
noncomputable def M2 : St → St := keepF [0, 4, 5] []
noncomputable def S2 (rec : RT Out) (a1 : Arg) (c1612 : Tx) (c1613 : Int) : (Int) → Option Out := fun v1611 => rec (T2 a1 c1612 c1613 v1611)
noncomputable def X2_4 (K : KT Out) (a1 : Arg) (c1612 : Tx) (c1613 : Int) : (Unit) → Option Out := fun z => K (.exit 4) ({ n := 102, sl := [(0, .cp tTx c1612), (4, .val i64 c1613)], vr := [], lent := [] })
noncomputable def b2 (self : Int → Option Out) (e4 : (Unit) → Option Out) (a1 : Arg) (c1612 : Tx) (c1613 : Int) (v1611 : Int) : Option Out := bif decide (v1611 < c1613) then (if 0 ≤ v1611 then ((c1612.2.2.2.1[v1611.toNat]?).bind fun x1814 => if 0 ≤ c1613 then ((c1612.2.2.2.1[c1613.toNat]?).bind fun x1815 => bif (Ty.eq tKey x1814 x1815) then (some ((6 : Int), ())) else self (w64 (v1611 + (1 : Int)))) else none) else none) else e4 ()
noncomputable def B2 (k : Nat) (self : Int → Option Out) (e4 : (Unit) → Option Out) (a1 : Arg) (c1612 : Tx) (c1613 : Int) (v1611 : Int) : Option Out := b2 self e4 a1 c1612 c1613 v1611
theorem B2_eq (k : Nat) (rec : RT Out) (K : KT Out) (a1 : Arg) (c1612 : Tx) (c1613 : Int) (v1611 : Int) : N2 k (T2 a1 c1612 c1613 v1611) (loopC rec M2 K) = B2 k (S2 rec a1 c1612 c1613) (X2_4 K a1 c1612 c1613) a1 c1612 c1613 v1611 := by kernel_rfl
noncomputable def l2 (k : Nat) (a1 : Arg) (c1612 : Tx) (c1613 : Int) (e4 : (Unit) → Option Out) (v : Int) : Option Out := rawIter (fun self v => B2 k self e4 a1 c1612 c1613 v) k v
theorem l2_eq (k : Nat) (K : KT Out) (a1 : Arg) (c1612 : Tx) (c1613 : Int) (v1611 : Int) : iterK (N2 k) M2 K k (T2 a1 c1612 c1613 v1611) = l2 k a1 c1612 c1613 (X2_4 K a1 c1612 c1613) v1611 :=
  iter_raw _ _ K (fun v1611 => (T2 a1 c1612 c1613 v1611)) (fun self v => B2 k self (X2_4 K a1 c1612 c1613) a1 c1612 c1613 v) (fun rec v => B2_eq k rec K a1 c1612 c1613 v) k v1611
noncomputable def q1 (self : (Tx × Int) → Option Out) (e2 : (Unit) → Option Out) (a1 : Arg) (c1612 : Tx) (c1613 : Int) (z1816 : (Unit)) : Option Out := self (c1612, w64 (c1613 + (1 : Int)))
noncomputable def Q1 (k : Nat) (self : (Tx × Int) → Option Out) (e2 : (Unit) → Option Out) (a1 : Arg) (c1612 : Tx) (c1613 : Int) (z1816 : (Unit)) : Option Out := q1 self e2 a1 c1612 c1613 z1816
theorem Q1_eq (k : Nat) (rec : RT Out) (K : KT Out) (a1 : Arg) (c1612 : Tx) (c1613 : Int) (z1816 : (Unit)) : X2_4 (blockC 4 (blockC 3 (seqC (codeK E k fin (sub [1, 1, 1, 0, 1, 0, 0, 1, 1] C)) (loopC rec (keepF [0, 4] []) K)))) a1 c1612 c1613 z1816 = Q1 k (S1 rec a1) (X1_2 K a1) a1 c1612 c1613 z1816 := by kernel_rfl
noncomputable def s2 (k : Nat) (rec : RT Out) (K : KT Out) (a1 : Arg) : Tx → Int → (Int) → Option Out := fun c1612 c1613 v1611 => iterK (N2 k) M2 (blockC 4 (blockC 3 (seqC (codeK E k fin (sub [1, 1, 1, 0, 1, 0, 0, 1, 1] C)) (loopC rec (keepF [0, 4] []) K)))) k (T2 a1 c1612 c1613 v1611)
noncomputable def r2 (k : Nat) (self : (Tx × Int) → Option Out) (e2 : (Unit) → Option Out) (a1 : Arg) : Tx → Int → (Int) → Option Out := fun c1612 c1613 v1611 => l2 k a1 c1612 c1613 (fun z => Q1 k self e2 a1 c1612 c1613 z) v1611
theorem s2_eq (k : Nat) (rec : RT Out) (K : KT Out) (a1 : Arg) : s2 k rec K a1 = r2 k (S1 rec a1) (X1_2 K a1) a1 := by
  funext c1612; funext c1613; funext v1611;
  have h4 : X2_4 ((blockC 4 (blockC 3 (seqC (codeK E k fin (sub [1, 1, 1, 0, 1, 0, 0, 1, 1] C)) (loopC rec (keepF [0, 4] []) K))))) a1 c1612 c1613 = fun z => Q1 k (S1 rec a1) (X1_2 K a1) a1 c1612 c1613 z := funext fun z => Q1_eq k rec K a1 c1612 c1613 z
  refine (l2_eq k ((blockC 4 (blockC 3 (seqC (codeK E k fin (sub [1, 1, 1, 0, 1, 0, 0, 1, 1] C)) (loopC rec (keepF [0, 4] []) K))))) a1 c1612 c1613 v1611).trans ?_
  rw [h4]
  rfl
noncomputable def b1 (self : (Tx × Int) → Option Out) (e2 : (Unit) → Option Out) (l2 : Tx → Int → (Int) → Option Out) (a1 : Arg) (v1008 : Tx × Int) : Option Out := bif decide (v1008.2 < (v1008.1.2.2.2.1.length : Int)) then (if 0 ≤ v1008.2 then ((v1008.1.2.2.2.1[v1008.2.toNat]?).bind fun x1209 => (spec_l10Key.sem (x1209, ())).bind fun r1210 => bif !r1210.1 then (some ((3 : Int), ())) else l2 v1008.1 v1008.2 (0 : Int)) else none) else e2 ()
noncomputable def B1 (k : Nat) (self : (Tx × Int) → Option Out) (e2 : (Unit) → Option Out) (a1 : Arg) (v1008 : Tx × Int) : Option Out := b1 self e2 (r2 k self e2 a1) a1 v1008
theorem b1_eq (k : Nat) (rec : RT Out) (K : KT Out) (a1 : Arg) (v1008 : Tx × Int) : N1 k (T1 a1 v1008) (loopC rec M1 K) = b1 (S1 rec a1) (X1_2 K a1) (s2 k rec K a1) a1 v1008 := by kernel_rfl
theorem B1_eq (k : Nat) (rec : RT Out) (K : KT Out) (a1 : Arg) (v1008 : Tx × Int) : N1 k (T1 a1 v1008) (loopC rec M1 K) = B1 k (S1 rec a1) (X1_2 K a1) a1 v1008 := (b1_eq k rec K a1 v1008).trans (by rw [s2_eq]; rfl)
noncomputable def l1 (k : Nat) (a1 : Arg) (e2 : (Unit) → Option Out) (v : Tx × Int) : Option Out := rawIter (fun self v => B1 k self e2 a1 v) k v
theorem l1_eq (k : Nat) (K : KT Out) (a1 : Arg) (v1008 : Tx × Int) : iterK (N1 k) M1 K k (T1 a1 v1008) = l1 k a1 (X1_2 K a1) v1008 :=
  iter_raw _ _ K (fun v1008 => (T1 a1 v1008)) (fun self v => B1 k self (X1_2 K a1) a1 v) (fun rec v => B1_eq k rec K a1 v) k v1008
noncomputable def q2 (a1 : Arg) (z1817 : (Unit)) : Option Out := some ((0 : Int), ())
noncomputable def Q2 (k : Nat) (a1 : Arg) (z1817 : (Unit)) : Option Out := q2 a1 z1817
theorem Q2_eq (k : Nat) (a1 : Arg) (z1817 : (Unit)) : X1_2 (blockC 2 (seqC (codeK E k fin (sub [1, 1, 1, 1] C)) K0)) a1 z1817 = Q2 k a1 z1817 := by kernel_rfl
noncomputable def s1 (k : Nat) (a1 : Arg) : (Tx × Int) → Option Out := fun v1008 => iterK (N1 k) M1 (blockC 2 (seqC (codeK E k fin (sub [1, 1, 1, 1] C)) K0)) k (T1 a1 v1008)
noncomputable def r1 (k : Nat) (a1 : Arg) : (Tx × Int) → Option Out := fun v1008 => l1 k a1 (fun z => Q2 k a1 z) v1008
theorem s1_eq (k : Nat) (a1 : Arg) : s1 k a1 = r1 k a1 := by
  funext v1008;
  have h2 : X1_2 ((blockC 2 (seqC (codeK E k fin (sub [1, 1, 1, 1] C)) K0))) a1 = fun z => Q2 k a1 z := funext fun z => Q2_eq k a1 z
  refine (l1_eq k ((blockC 2 (seqC (codeK E k fin (sub [1, 1, 1, 1] C)) K0))) a1 v1008).trans ?_
  rw [h2]
  rfl
noncomputable def q0 (l1 : (Tx × Int) → Option Out) (a1 : Arg) (z607 : (Unit)) : Option Out := l1 (a1.1, (0 : Int))
noncomputable def Q0 (k : Nat) (a1 : Arg) (z607 : (Unit)) : Option Out := q0 (r1 k a1) a1 z607
theorem q0_eq (k : Nat) (a1 : Arg) (z607 : (Unit)) : X0_0 (blockC 0 (seqC (codeK E k fin (sub [1, 1, 1] C)) K0)) a1 z607 = q0 (s1 k a1) a1 z607 := by kernel_rfl
theorem Q0_eq (k : Nat) (a1 : Arg) (z607 : (Unit)) : X0_0 (blockC 0 (seqC (codeK E k fin (sub [1, 1, 1] C)) K0)) a1 z607 = Q0 k a1 z607 := (q0_eq k a1 z607).trans (by rw [s1_eq]; rfl)
noncomputable def s0 (k : Nat) (a1 : Arg) : (Int) → Option Out := fun v402 => iterK (N0 k) M0 (blockC 0 (seqC (codeK E k fin (sub [1, 1, 1] C)) K0)) k (T0 a1 v402)
noncomputable def r0 (k : Nat) (a1 : Arg) : (Int) → Option Out := fun v402 => l0 k a1 (fun z => Q0 k a1 z) v402
theorem s0_eq (k : Nat) (a1 : Arg) : s0 k a1 = r0 k a1 := by
  funext v402;
  have h0 : X0_0 ((blockC 0 (seqC (codeK E k fin (sub [1, 1, 1] C)) K0))) a1 = fun z => Q0 k a1 z := funext fun z => Q0_eq k a1 z
  refine (l0_eq k ((blockC 0 (seqC (codeK E k fin (sub [1, 1, 1] C)) K0))) a1 v402).trans ?_
  rw [h0]
  rfl
noncomputable def p (l0 : (Int) → Option Out) (a1 : Arg) : Option Out := bif decide ((8 : Int) < (a1.1.2.2.1.length : Int)) then (some ((2 : Int), ())) else bif decide ((12 : Int) < (a1.1.2.2.2.1.length : Int)) then (some ((2 : Int), ())) else l0 (0 : Int)
noncomputable def raw (k : Nat) (a1 : Arg) : Option Out := p (r0 k a1) a1
theorem p_eq (k : Nat) (a1 : Arg) : W k a1 = p (s0 k a1) a1 := by kernel_rfl
theorem raw_eq (k : Nat) (a1 : Arg) : W k a1 = raw k a1 := (p_eq k a1).trans (by rw [s0_eq]; rfl)
theorem ok : Ok prog 109 sig := fn_ok func109 (tl := tl) (gl := gl) (es := []) (fr := []) rfl rfl (by kernel_rfl) (fc spec_l1In.ok (fc spec_l10Key.ok (fn_nil _))) (fun _ => rfl)
end spec_l10Marks
namespace spec_l10Lock
/-! loop example g00408 spec l10Lock -/
abbrev Arg : Type := (List Tx) × Key × Unit
abbrev Out : Type := Int × Unit
noncomputable def ps : PQ := [(.ro, (.slc tTx)), (.ro, tKey)]
noncomputable def rs : RQ := [(i64, (roMd i64))]
noncomputable def tl : TL := [(2, i64), (29, (.slc tTx)), (99, tTx), (146, tKey)]
noncomputable def gl : GL := [(155, spec_l10Locks.sig)]
noncomputable def E : Env := { TI := lookN tl, G := lookN gl, lv := [(2, [0, 3, 5])], lx := [(0, [])], od := [(4, [0, 1, 2, 3, 4])] }
noncomputable def W (k : Nat) (a : Arg) : Option Out := bodyK E k f158 ps rs [] [] a
noncomputable def sem (a : Arg) : Option Out := lift fun k => W k a
noncomputable def sig : Sig := { ps := ps, rs := rs, F := sem }
noncomputable def C : Code := bodyOf f158
noncomputable def fin : St → Option Out := outK ps rs [] (Func.results f158).toList (mvs [])
noncomputable def K0 : Ex → St → Option Out := endK fin
noncomputable def T0 (a1 : Arg) (v402 : Int) : St := { n := 22, sl := [(0, .val (.slc tTx) a1.1), (3, .box tKey (roMd tKey) [] a1.2.1), (5, .val i64 v402)], vr := [], lent := [] }
noncomputable def N0 (k : Nat) : St → (Ex → St → Option Out) → Option Out := codeK E k fin (sub [1, 0, 1, 0, 0] C)
noncomputable def M0 : St → St := keepF [0, 3, 5] []
noncomputable def S0 (rec : RT Out) (a1 : Arg) : (Int) → Option Out := fun v402 => rec (T0 a1 v402)
noncomputable def X0_0 (K : KT Out) (a1 : Arg) : (Unit) → Option Out := fun z => K (.exit 0) ({ n := 22, sl := [], vr := [], lent := [] })
noncomputable def b0 (self : Int → Option Out) (e0 : (Unit) → Option Out) (a1 : Arg) (v402 : Int) : Option Out := bif decide (v402 < (a1.1.length : Int)) then (if 0 ≤ v402 then ((a1.1[v402.toNat]?).bind fun x603 => (spec_l10Locks.sem (x603, a1.2.1, ())).bind fun r604 => bif r604.1 then (if 0 ≤ v402 then ((a1.1[v402.toNat]?).bind fun x605 => some (x605.1, ())) else none) else self (w64 (v402 + (1 : Int)))) else none) else e0 ()
noncomputable def B0 (k : Nat) (self : Int → Option Out) (e0 : (Unit) → Option Out) (a1 : Arg) (v402 : Int) : Option Out := b0 self e0 a1 v402
theorem B0_eq (k : Nat) (rec : RT Out) (K : KT Out) (a1 : Arg) (v402 : Int) : N0 k (T0 a1 v402) (loopC rec M0 K) = B0 k (S0 rec a1) (X0_0 K a1) a1 v402 := by kernel_rfl
noncomputable def l0 (k : Nat) (a1 : Arg) (e0 : (Unit) → Option Out) (v : Int) : Option Out := rawIter (fun self v => B0 k self e0 a1 v) k v
theorem l0_eq (k : Nat) (K : KT Out) (a1 : Arg) (v402 : Int) : iterK (N0 k) M0 K k (T0 a1 v402) = l0 k a1 (X0_0 K a1) v402 :=
  iter_raw _ _ K (fun v402 => (T0 a1 v402)) (fun self v => B0 k self (X0_0 K a1) a1 v) (fun rec v => B0_eq k rec K a1 v) k v402
noncomputable def q0 (a1 : Arg) (z606 : (Unit)) : Option Out := some ((0 : Int), ())
noncomputable def Q0 (k : Nat) (a1 : Arg) (z606 : (Unit)) : Option Out := q0 a1 z606
theorem Q0_eq (k : Nat) (a1 : Arg) (z606 : (Unit)) : X0_0 (blockC 0 (seqC (codeK E k fin (sub [1, 1] C)) K0)) a1 z606 = Q0 k a1 z606 := by kernel_rfl
noncomputable def s0 (k : Nat) (a1 : Arg) : (Int) → Option Out := fun v402 => iterK (N0 k) M0 (blockC 0 (seqC (codeK E k fin (sub [1, 1] C)) K0)) k (T0 a1 v402)
noncomputable def r0 (k : Nat) (a1 : Arg) : (Int) → Option Out := fun v402 => l0 k a1 (fun z => Q0 k a1 z) v402
theorem s0_eq (k : Nat) (a1 : Arg) : s0 k a1 = r0 k a1 := by
  funext v402;
  have h0 : X0_0 ((blockC 0 (seqC (codeK E k fin (sub [1, 1] C)) K0))) a1 = fun z => Q0 k a1 z := funext fun z => Q0_eq k a1 z
  refine (l0_eq k ((blockC 0 (seqC (codeK E k fin (sub [1, 1] C)) K0))) a1 v402).trans ?_
  rw [h0]
  rfl
noncomputable def p (l0 : (Int) → Option Out) (a1 : Arg) : Option Out := l0 (0 : Int)
noncomputable def raw (k : Nat) (a1 : Arg) : Option Out := p (r0 k a1) a1
theorem p_eq (k : Nat) (a1 : Arg) : W k a1 = p (s0 k a1) a1 := by kernel_rfl
theorem raw_eq (k : Nat) (a1 : Arg) : W k a1 = raw k a1 := (p_eq k a1).trans (by rw [s0_eq]; rfl)
theorem ok : Ok prog 158 sig := fn_ok func158 (tl := tl) (gl := gl) (es := []) (fr := []) rfl rfl (by kernel_rfl) (fc spec_l10Locks.ok (fn_nil _)) (fun _ => rfl)
end spec_l10Lock
namespace spec_l10Apart
/-! loop example g00408 spec l10Apart -/
abbrev Arg : Type := (List Tx) × Unit
abbrev Out : Type := Bool × Unit
noncomputable def ps : PQ := [(.ro, (.slc tTx))]
noncomputable def rs : RQ := [(.bool, (roMd .bool))]
noncomputable def tl : TL := [(2, i64), (29, (.slc tTx)), (97, (.slc tKey)), (99, tTx), (146, tKey)]
noncomputable def gl : GL := [(158, spec_l10Lock.sig)]
noncomputable def E : Env := { TI := lookN tl, G := lookN gl, lv := [(2, [0, 3]), (5, [0, 3, 4])], lx := [(0, []), (2, [0, 3])], od := [(7, [0, 1, 2, 3, 4, 5, 6, 7, 8, 10, 11, 12, 13, 14, 9, 15])] }
noncomputable def W (k : Nat) (a : Arg) : Option Out := bodyK E k f110 ps rs [] [] a
noncomputable def sem (a : Arg) : Option Out := lift fun k => W k a
noncomputable def sig : Sig := { ps := ps, rs := rs, F := sem }
noncomputable def C : Code := bodyOf f110
noncomputable def fin : St → Option Out := outK ps rs [] (Func.results f110).toList (mvs [])
noncomputable def K0 : Ex → St → Option Out := endK fin
noncomputable def T0 (a1 : Arg) (v402 : (List Tx) × Int) : St := { n := 37, sl := [(0, .val (.slc tTx) v402.1), (3, .val i64 v402.2)], vr := [], lent := [] }
noncomputable def N0 (k : Nat) : St → (Ex → St → Option Out) → Option Out := codeK E k fin (sub [1, 0, 1, 0, 0] C)
noncomputable def M0 : St → St := keepF [0, 3] []
noncomputable def S0 (rec : RT Out) (a1 : Arg) : ((List Tx) × Int) → Option Out := fun v402 => rec (T0 a1 v402)
noncomputable def X0_0 (K : KT Out) (a1 : Arg) : (Unit) → Option Out := fun z => K (.exit 0) ({ n := 37, sl := [], vr := [], lent := [] })
noncomputable def T1 (a1 : Arg) (c1004 : List Tx) (c1005 : Int) (v1003 : Int) : St := { n := 37, sl := [(0, .val (.slc tTx) c1004), (3, .val i64 c1005), (4, .val i64 v1003)], vr := [], lent := [] }
noncomputable def N1 (k : Nat) : St → (Ex → St → Option Out) → Option Out := codeK E k fin (sub [1, 0, 1, 0, 0, 1, 0, 0, 1, 0, 0] C)
noncomputable def M1 : St → St := keepF [0, 3, 4] []
noncomputable def S1 (rec : RT Out) (a1 : Arg) (c1004 : List Tx) (c1005 : Int) : (Int) → Option Out := fun v1003 => rec (T1 a1 c1004 c1005 v1003)
noncomputable def X1_2 (K : KT Out) (a1 : Arg) (c1004 : List Tx) (c1005 : Int) : (Unit) → Option Out := fun z => K (.exit 2) ({ n := 37, sl := [(0, .val (.slc tTx) c1004), (3, .val i64 c1005)], vr := [], lent := [] })
noncomputable def b1 (self : Int → Option Out) (e2 : (Unit) → Option Out) (a1 : Arg) (c1004 : List Tx) (c1005 : Int) (v1003 : Int) : Option Out := if 0 ≤ c1005 then ((c1004[c1005.toNat]?).bind fun x1206 => bif decide (v1003 < (x1206.2.2.2.1.length : Int)) then (if 0 ≤ c1005 then ((c1004[c1005.toNat]?).bind fun x1207 => if 0 ≤ v1003 then ((x1207.2.2.2.1[v1003.toNat]?).bind fun x1208 => if 0 ≤ c1005 then ((c1004[c1005.toNat]?).bind fun x1209 => (spec_l10Lock.sem (c1004, x1208, ())).bind fun r1210 => bif !decide (r1210.1 = x1209.1) then (some (false, ())) else self (w64 (v1003 + (1 : Int)))) else none) else none) else none) else e2 ()) else none
noncomputable def B1 (k : Nat) (self : Int → Option Out) (e2 : (Unit) → Option Out) (a1 : Arg) (c1004 : List Tx) (c1005 : Int) (v1003 : Int) : Option Out := b1 self e2 a1 c1004 c1005 v1003
theorem B1_eq (k : Nat) (rec : RT Out) (K : KT Out) (a1 : Arg) (c1004 : List Tx) (c1005 : Int) (v1003 : Int) : N1 k (T1 a1 c1004 c1005 v1003) (loopC rec M1 K) = B1 k (S1 rec a1 c1004 c1005) (X1_2 K a1 c1004 c1005) a1 c1004 c1005 v1003 := by kernel_rfl
noncomputable def l1 (k : Nat) (a1 : Arg) (c1004 : List Tx) (c1005 : Int) (e2 : (Unit) → Option Out) (v : Int) : Option Out := rawIter (fun self v => B1 k self e2 a1 c1004 c1005 v) k v
theorem l1_eq (k : Nat) (K : KT Out) (a1 : Arg) (c1004 : List Tx) (c1005 : Int) (v1003 : Int) : iterK (N1 k) M1 K k (T1 a1 c1004 c1005 v1003) = l1 k a1 c1004 c1005 (X1_2 K a1 c1004 c1005) v1003 :=
  iter_raw _ _ K (fun v1003 => (T1 a1 c1004 c1005 v1003)) (fun self v => B1 k self (X1_2 K a1 c1004 c1005) a1 c1004 c1005 v) (fun rec v => B1_eq k rec K a1 c1004 c1005 v) k v1003
noncomputable def q0 (self : ((List Tx) × Int) → Option Out) (e0 : (Unit) → Option Out) (a1 : Arg) (c1004 : List Tx) (c1005 : Int) (z1211 : (Unit)) : Option Out := self (c1004, w64 (c1005 + (1 : Int)))
noncomputable def Q0 (k : Nat) (self : ((List Tx) × Int) → Option Out) (e0 : (Unit) → Option Out) (a1 : Arg) (c1004 : List Tx) (c1005 : Int) (z1211 : (Unit)) : Option Out := q0 self e0 a1 c1004 c1005 z1211
theorem Q0_eq (k : Nat) (rec : RT Out) (K : KT Out) (a1 : Arg) (c1004 : List Tx) (c1005 : Int) (z1211 : (Unit)) : X1_2 (blockC 2 (blockC 1 (seqC (codeK E k fin (sub [1, 0, 1, 0, 0, 1, 1] C)) (loopC rec (keepF [0, 3] []) K)))) a1 c1004 c1005 z1211 = Q0 k (S0 rec a1) (X0_0 K a1) a1 c1004 c1005 z1211 := by kernel_rfl
noncomputable def s1 (k : Nat) (rec : RT Out) (K : KT Out) (a1 : Arg) : (List Tx) → Int → (Int) → Option Out := fun c1004 c1005 v1003 => iterK (N1 k) M1 (blockC 2 (blockC 1 (seqC (codeK E k fin (sub [1, 0, 1, 0, 0, 1, 1] C)) (loopC rec (keepF [0, 3] []) K)))) k (T1 a1 c1004 c1005 v1003)
noncomputable def r1 (k : Nat) (self : ((List Tx) × Int) → Option Out) (e0 : (Unit) → Option Out) (a1 : Arg) : (List Tx) → Int → (Int) → Option Out := fun c1004 c1005 v1003 => l1 k a1 c1004 c1005 (fun z => Q0 k self e0 a1 c1004 c1005 z) v1003
theorem s1_eq (k : Nat) (rec : RT Out) (K : KT Out) (a1 : Arg) : s1 k rec K a1 = r1 k (S0 rec a1) (X0_0 K a1) a1 := by
  funext c1004; funext c1005; funext v1003;
  have h2 : X1_2 ((blockC 2 (blockC 1 (seqC (codeK E k fin (sub [1, 0, 1, 0, 0, 1, 1] C)) (loopC rec (keepF [0, 3] []) K))))) a1 c1004 c1005 = fun z => Q0 k (S0 rec a1) (X0_0 K a1) a1 c1004 c1005 z := funext fun z => Q0_eq k rec K a1 c1004 c1005 z
  refine (l1_eq k ((blockC 2 (blockC 1 (seqC (codeK E k fin (sub [1, 0, 1, 0, 0, 1, 1] C)) (loopC rec (keepF [0, 3] []) K))))) a1 c1004 c1005 v1003).trans ?_
  rw [h2]
  rfl
noncomputable def b0 (self : ((List Tx) × Int) → Option Out) (e0 : (Unit) → Option Out) (l1 : (List Tx) → Int → (Int) → Option Out) (a1 : Arg) (v402 : (List Tx) × Int) : Option Out := bif decide (v402.2 < (v402.1.length : Int)) then (l1 v402.1 v402.2 (0 : Int)) else e0 ()
noncomputable def B0 (k : Nat) (self : ((List Tx) × Int) → Option Out) (e0 : (Unit) → Option Out) (a1 : Arg) (v402 : (List Tx) × Int) : Option Out := b0 self e0 (r1 k self e0 a1) a1 v402
theorem b0_eq (k : Nat) (rec : RT Out) (K : KT Out) (a1 : Arg) (v402 : (List Tx) × Int) : N0 k (T0 a1 v402) (loopC rec M0 K) = b0 (S0 rec a1) (X0_0 K a1) (s1 k rec K a1) a1 v402 := by kernel_rfl
theorem B0_eq (k : Nat) (rec : RT Out) (K : KT Out) (a1 : Arg) (v402 : (List Tx) × Int) : N0 k (T0 a1 v402) (loopC rec M0 K) = B0 k (S0 rec a1) (X0_0 K a1) a1 v402 := (b0_eq k rec K a1 v402).trans (by rw [s1_eq]; rfl)
noncomputable def l0 (k : Nat) (a1 : Arg) (e0 : (Unit) → Option Out) (v : (List Tx) × Int) : Option Out := rawIter (fun self v => B0 k self e0 a1 v) k v
theorem l0_eq (k : Nat) (K : KT Out) (a1 : Arg) (v402 : (List Tx) × Int) : iterK (N0 k) M0 K k (T0 a1 v402) = l0 k a1 (X0_0 K a1) v402 :=
  iter_raw _ _ K (fun v402 => (T0 a1 v402)) (fun self v => B0 k self (X0_0 K a1) a1 v) (fun rec v => B0_eq k rec K a1 v) k v402
noncomputable def q1 (a1 : Arg) (z1212 : (Unit)) : Option Out := some (true, ())
noncomputable def Q1 (k : Nat) (a1 : Arg) (z1212 : (Unit)) : Option Out := q1 a1 z1212
theorem Q1_eq (k : Nat) (a1 : Arg) (z1212 : (Unit)) : X0_0 (blockC 0 (seqC (codeK E k fin (sub [1, 1] C)) K0)) a1 z1212 = Q1 k a1 z1212 := by kernel_rfl
noncomputable def s0 (k : Nat) (a1 : Arg) : ((List Tx) × Int) → Option Out := fun v402 => iterK (N0 k) M0 (blockC 0 (seqC (codeK E k fin (sub [1, 1] C)) K0)) k (T0 a1 v402)
noncomputable def r0 (k : Nat) (a1 : Arg) : ((List Tx) × Int) → Option Out := fun v402 => l0 k a1 (fun z => Q1 k a1 z) v402
theorem s0_eq (k : Nat) (a1 : Arg) : s0 k a1 = r0 k a1 := by
  funext v402;
  have h0 : X0_0 ((blockC 0 (seqC (codeK E k fin (sub [1, 1] C)) K0))) a1 = fun z => Q1 k a1 z := funext fun z => Q1_eq k a1 z
  refine (l0_eq k ((blockC 0 (seqC (codeK E k fin (sub [1, 1] C)) K0))) a1 v402).trans ?_
  rw [h0]
  rfl
noncomputable def p (l0 : ((List Tx) × Int) → Option Out) (a1 : Arg) : Option Out := l0 (a1.1, (0 : Int))
noncomputable def raw (k : Nat) (a1 : Arg) : Option Out := p (r0 k a1) a1
theorem p_eq (k : Nat) (a1 : Arg) : W k a1 = p (s0 k a1) a1 := by kernel_rfl
theorem raw_eq (k : Nat) (a1 : Arg) : W k a1 = raw k a1 := (p_eq k a1).trans (by rw [s0_eq]; rfl)
theorem ok : Ok prog 110 sig := fn_ok func110 (tl := tl) (gl := gl) (es := []) (fr := []) rfl rfl (by kernel_rfl) (fc spec_l10Lock.ok (fn_nil _)) (fun _ => rfl)
end spec_l10Apart
namespace spec_l10Count
/-! loop example g00408 spec l10Count -/
abbrev Arg : Type := (List Tx) × Unit
abbrev Out : Type := Int × Unit
noncomputable def ps : PQ := [(.ro, (.slc tTx))]
noncomputable def rs : RQ := [(i64, (roMd i64))]
noncomputable def tl : TL := [(29, (.slc tTx)), (65, (.slc tChange)), (99, tTx)]
noncomputable def gl : GL := []
noncomputable def E : Env := { TI := lookN tl, G := lookN gl, lv := [(3, [0, 3, 4])], lx := [(0, [3])] }
noncomputable def W (k : Nat) (a : Arg) : Option Out := bodyK E k f111 ps rs [] [] a
noncomputable def sem (a : Arg) : Option Out := lift fun k => W k a
noncomputable def sig : Sig := { ps := ps, rs := rs, F := sem }
noncomputable def C : Code := bodyOf f111
noncomputable def fin : St → Option Out := outK ps rs [] (Func.results f111).toList (mvs [])
noncomputable def K0 : Ex → St → Option Out := endK fin
noncomputable def T0 (a1 : Arg) (v402 : Int × Int) : St := { n := 20, sl := [(0, .val (.slc tTx) a1.1), (3, .val i64 v402.1), (4, .val i64 v402.2)], vr := [], lent := [] }
noncomputable def N0 (k : Nat) : St → (Ex → St → Option Out) → Option Out := codeK E k fin (sub [1, 1, 0, 1, 0, 0] C)
noncomputable def M0 : St → St := keepF [0, 3, 4] []
noncomputable def S0 (rec : RT Out) (a1 : Arg) : (Int × Int) → Option Out := fun v402 => rec (T0 a1 v402)
noncomputable def X0_0 (K : KT Out) (a1 : Arg) : Int → Option Out := fun z => K (.exit 0) ({ n := 20, sl := [(3, .val i64 z)], vr := [], lent := [] })
noncomputable def b0 (self : (Int × Int) → Option Out) (e0 : Int → Option Out) (a1 : Arg) (v402 : Int × Int) : Option Out := bif decide (v402.2 < (a1.1.length : Int)) then (if 0 ≤ v402.2 then ((a1.1[v402.2.toNat]?).bind fun x603 => self (w64 (v402.1 + (x603.2.1.length : Int)), w64 (v402.2 + (1 : Int)))) else none) else e0 v402.1
noncomputable def B0 (k : Nat) (self : (Int × Int) → Option Out) (e0 : Int → Option Out) (a1 : Arg) (v402 : Int × Int) : Option Out := b0 self e0 a1 v402
theorem B0_eq (k : Nat) (rec : RT Out) (K : KT Out) (a1 : Arg) (v402 : Int × Int) : N0 k (T0 a1 v402) (loopC rec M0 K) = B0 k (S0 rec a1) (X0_0 K a1) a1 v402 := by kernel_rfl
noncomputable def l0 (k : Nat) (a1 : Arg) (e0 : Int → Option Out) (v : Int × Int) : Option Out := rawIter (fun self v => B0 k self e0 a1 v) k v
theorem l0_eq (k : Nat) (K : KT Out) (a1 : Arg) (v402 : Int × Int) : iterK (N0 k) M0 K k (T0 a1 v402) = l0 k a1 (X0_0 K a1) v402 :=
  iter_raw _ _ K (fun v402 => (T0 a1 v402)) (fun self v => B0 k self (X0_0 K a1) a1 v) (fun rec v => B0_eq k rec K a1 v) k v402
noncomputable def q0 (a1 : Arg) (z604 : Int) : Option Out := some (z604, ())
noncomputable def Q0 (k : Nat) (a1 : Arg) (z604 : Int) : Option Out := q0 a1 z604
theorem Q0_eq (k : Nat) (a1 : Arg) (z604 : Int) : X0_0 (blockC 0 (seqC (codeK E k fin (sub [1, 1, 1] C)) K0)) a1 z604 = Q0 k a1 z604 := by kernel_rfl
noncomputable def s0 (k : Nat) (a1 : Arg) : (Int × Int) → Option Out := fun v402 => iterK (N0 k) M0 (blockC 0 (seqC (codeK E k fin (sub [1, 1, 1] C)) K0)) k (T0 a1 v402)
noncomputable def r0 (k : Nat) (a1 : Arg) : (Int × Int) → Option Out := fun v402 => l0 k a1 (fun z => Q0 k a1 z) v402
theorem s0_eq (k : Nat) (a1 : Arg) : s0 k a1 = r0 k a1 := by
  funext v402;
  have h0 : X0_0 ((blockC 0 (seqC (codeK E k fin (sub [1, 1, 1] C)) K0))) a1 = fun z => Q0 k a1 z := funext fun z => Q0_eq k a1 z
  refine (l0_eq k ((blockC 0 (seqC (codeK E k fin (sub [1, 1, 1] C)) K0))) a1 v402).trans ?_
  rw [h0]
  rfl
noncomputable def p (l0 : (Int × Int) → Option Out) (a1 : Arg) : Option Out := l0 ((0 : Int), (0 : Int))
noncomputable def raw (k : Nat) (a1 : Arg) : Option Out := p (r0 k a1) a1
theorem p_eq (k : Nat) (a1 : Arg) : W k a1 = p (s0 k a1) a1 := by kernel_rfl
theorem raw_eq (k : Nat) (a1 : Arg) : W k a1 = raw k a1 := (p_eq k a1).trans (by rw [s0_eq]; rfl)
theorem ok : Ok prog 111 sig := fn_ok func111 (tl := tl) (gl := gl) (es := []) (fr := []) rfl rfl (by kernel_rfl) (fn_nil _) (fun _ => rfl)
end spec_l10Count
namespace spec_l10Fault
/-! loop example g00408 spec l10Fault -/
abbrev Arg : Type := (List Tx) × Unit
abbrev Out : Type := Int × Unit
noncomputable def ps : PQ := [(.ro, (.slc tTx))]
noncomputable def rs : RQ := [(i64, (roMd i64))]
noncomputable def tl : TL := [(2, i64), (29, (.slc tTx)), (99, tTx)]
noncomputable def gl : GL := [(88, spec_l1In.sig), (108, spec_l10Undo.sig), (109, spec_l10Marks.sig), (110, spec_l10Apart.sig), (111, spec_l10Count.sig)]
noncomputable def E : Env := { TI := lookN tl, G := lookN gl, lv := [(4, [0, 3])], lx := [(0, [0])], od := [(9, [0, 1, 2, 3, 4, 5, 6, 7, 8, 9, 10, 11, 12, 13, 14])] }
noncomputable def W (k : Nat) (a : Arg) : Option Out := bodyK E k f58 ps rs [] [] a
noncomputable def sem (a : Arg) : Option Out := lift fun k => W k a
noncomputable def sig : Sig := { ps := ps, rs := rs, F := sem }
noncomputable def C : Code := bodyOf f58
noncomputable def fin : St → Option Out := outK ps rs [] (Func.results f58).toList (mvs [])
noncomputable def K0 : Ex → St → Option Out := endK fin
noncomputable def T0 (a1 : Arg) (v402 : Int) : St := { n := 56, sl := [(0, .val (.slc tTx) a1.1), (3, .val i64 v402)], vr := [], lent := [] }
noncomputable def N0 (k : Nat) : St → (Ex → St → Option Out) → Option Out := codeK E k fin (sub [1, 1, 0, 1, 0, 0] C)
noncomputable def M0 : St → St := keepF [0, 3] []
noncomputable def S0 (rec : RT Out) (a1 : Arg) : (Int) → Option Out := fun v402 => rec (T0 a1 v402)
noncomputable def X0_0 (K : KT Out) (a1 : Arg) : (Unit) → Option Out := fun z => K (.exit 0) ({ n := 56, sl := [(0, .val (.slc tTx) a1.1)], vr := [], lent := [] })
noncomputable def b0 (self : Int → Option Out) (e0 : (Unit) → Option Out) (a1 : Arg) (v402 : Int) : Option Out := bif decide (v402 < (a1.1.length : Int)) then (if 0 ≤ v402 then ((a1.1[v402.toNat]?).bind fun x603 => (spec_l1In.sem (x603.1, (1 : Int), (99 : Int), ())).bind fun r604 => bif !r604.1 then (some ((3 : Int), ())) else let j608 : Option Out := (spec_l10Undo.sem (x603, ())).bind fun r609 => bif !decide (r609.1 = (0 : Int)) then (some (r609.1, ())) else (spec_l10Marks.sem (x603, ())).bind fun r610 => bif !decide (r610.1 = (0 : Int)) then (some (r610.1, ())) else self (w64 (v402 + (1 : Int))); bif decide ((0 : Int) < v402) then (if 0 ≤ w64 (v402 - (1 : Int)) then ((a1.1[(w64 (v402 - (1 : Int))).toNat]?).bind fun x605 => bif decide (x603.1 ≤ x605.1) then (some ((1 : Int), ())) else j608) else none) else j608) else none) else e0 ()
noncomputable def B0 (k : Nat) (self : Int → Option Out) (e0 : (Unit) → Option Out) (a1 : Arg) (v402 : Int) : Option Out := b0 self e0 a1 v402
theorem B0_eq (k : Nat) (rec : RT Out) (K : KT Out) (a1 : Arg) (v402 : Int) : N0 k (T0 a1 v402) (loopC rec M0 K) = B0 k (S0 rec a1) (X0_0 K a1) a1 v402 := by kernel_rfl
noncomputable def l0 (k : Nat) (a1 : Arg) (e0 : (Unit) → Option Out) (v : Int) : Option Out := rawIter (fun self v => B0 k self e0 a1 v) k v
theorem l0_eq (k : Nat) (K : KT Out) (a1 : Arg) (v402 : Int) : iterK (N0 k) M0 K k (T0 a1 v402) = l0 k a1 (X0_0 K a1) v402 :=
  iter_raw _ _ K (fun v402 => (T0 a1 v402)) (fun self v => B0 k self (X0_0 K a1) a1 v) (fun rec v => B0_eq k rec K a1 v) k v402
noncomputable def q0 (a1 : Arg) (z611 : (Unit)) : Option Out := (spec_l10Apart.sem (a1.1, ())).bind fun r612 => bif !r612.1 then (some ((7 : Int), ())) else (spec_l10Count.sem (a1.1, ())).bind fun r613 => bif decide ((12 : Int) < r613.1) then (some ((2 : Int), ())) else some ((0 : Int), ())
noncomputable def Q0 (k : Nat) (a1 : Arg) (z611 : (Unit)) : Option Out := q0 a1 z611
theorem Q0_eq (k : Nat) (a1 : Arg) (z611 : (Unit)) : X0_0 (blockC 0 (seqC (codeK E k fin (sub [1, 1, 1] C)) K0)) a1 z611 = Q0 k a1 z611 := by kernel_rfl
noncomputable def s0 (k : Nat) (a1 : Arg) : (Int) → Option Out := fun v402 => iterK (N0 k) M0 (blockC 0 (seqC (codeK E k fin (sub [1, 1, 1] C)) K0)) k (T0 a1 v402)
noncomputable def r0 (k : Nat) (a1 : Arg) : (Int) → Option Out := fun v402 => l0 k a1 (fun z => Q0 k a1 z) v402
theorem s0_eq (k : Nat) (a1 : Arg) : s0 k a1 = r0 k a1 := by
  funext v402;
  have h0 : X0_0 ((blockC 0 (seqC (codeK E k fin (sub [1, 1, 1] C)) K0))) a1 = fun z => Q0 k a1 z := funext fun z => Q0_eq k a1 z
  refine (l0_eq k ((blockC 0 (seqC (codeK E k fin (sub [1, 1, 1] C)) K0))) a1 v402).trans ?_
  rw [h0]
  rfl
noncomputable def p (l0 : (Int) → Option Out) (a1 : Arg) : Option Out := bif decide ((4 : Int) < (a1.1.length : Int)) then (some ((2 : Int), ())) else l0 (0 : Int)
noncomputable def raw (k : Nat) (a1 : Arg) : Option Out := p (r0 k a1) a1
theorem p_eq (k : Nat) (a1 : Arg) : W k a1 = p (s0 k a1) a1 := by kernel_rfl
theorem raw_eq (k : Nat) (a1 : Arg) : W k a1 = raw k a1 := (p_eq k a1).trans (by rw [s0_eq]; rfl)
theorem ok : Ok prog 58 sig := fn_ok func58 (tl := tl) (gl := gl) (es := []) (fr := []) rfl rfl (by kernel_rfl) (fc spec_l1In.ok (fc spec_l10Undo.ok (fc spec_l10Marks.ok (fc spec_l10Apart.ok (fc spec_l10Count.ok (fn_nil _)))))) (fun _ => rfl)
end spec_l10Fault
namespace spec_l10Room
/-! loop example g00408 spec l10Room -/
abbrev Arg : Type := (List Row) × (List Tx) × Key × Unit
abbrev Out : Type := Int × Unit
noncomputable def ps : PQ := [(.ro, (.slc tRow)), (.ro, (.slc tTx)), (.ro, tKey)]
noncomputable def rs : RQ := [(i64, (roMd i64))]
noncomputable def tl : TL := [(2, i64), (28, (.slc tRow)), (29, (.slc tTx)), (48, tRow), (97, (.slc tKey)), (99, tTx), (146, tKey)]
noncomputable def gl : GL := []
noncomputable def E : Env := { TI := lookN tl, G := lookN gl, lv := [(3, [0, 1, 5, 7, 8]), (7, [1, 5, 7, 9]), (14, [7, 10, 11]), (18, [7, 10, 11, 12, 13])], lx := [(0, [1, 5, 7]), (2, [5, 7]), (4, [10]), (6, [7, 10, 11, 12])], od := [(5, [0, 1, 2, 3, 4, 5, 6, 7, 8, 9, 10, 11, 12, 13, 14]), (20, [0, 1, 2, 3, 4, 5, 6, 7, 8, 9])] }
noncomputable def W (k : Nat) (a : Arg) : Option Out := bodyK E k f89 ps rs [] [] a
noncomputable def sem (a : Arg) : Option Out := lift fun k => W k a
noncomputable def sig : Sig := { ps := ps, rs := rs, F := sem }
noncomputable def C : Code := bodyOf f89
noncomputable def fin : St → Option Out := outK ps rs [] (Func.results f89).toList (mvs [])
noncomputable def K0 : Ex → St → Option Out := endK fin
noncomputable def T0 (a1 : Arg) (v402 : (List Key) × Int) : St := { n := 82, sl := [(0, .val (.slc tRow) a1.1), (1, .val (.slc tTx) a1.2.1), (5, .box tKey (roMd tKey) [] a1.2.2.1), (7, .own (.slc tKey) (ownMd (.slc tKey)) [] v402.1), (8, .val i64 v402.2)], vr := [], lent := [] }
noncomputable def N0 (k : Nat) : St → (Ex → St → Option Out) → Option Out := codeK E k fin (sub [1, 1, 0, 1, 0, 0] C)
noncomputable def M0 : St → St := keepF [0, 1, 5, 7, 8] []
noncomputable def S0 (rec : RT Out) (a1 : Arg) : ((List Key) × Int) → Option Out := fun v402 => rec (T0 a1 v402)
noncomputable def X0_0 (K : KT Out) (a1 : Arg) : (List Key) → Option Out := fun z => K (.exit 0) ({ n := 82, sl := [(1, .val (.slc tTx) a1.2.1), (5, .box tKey (roMd tKey) [] a1.2.2.1), (7, .own (.slc tKey) (ownMd (.slc tKey)) [] z)], vr := [], lent := [] })
noncomputable def b0 (self : ((List Key) × Int) → Option Out) (e0 : (List Key) → Option Out) (a1 : Arg) (v402 : (List Key) × Int) : Option Out := bif decide (v402.2 < (a1.1.length : Int)) then (if 0 ≤ v402.2 then ((a1.1[v402.2.toNat]?).bind fun x603 => if 0 ≤ v402.2 then ((a1.1[v402.2.toNat]?).bind fun x604 => if v402.1.length + [(x603.1, x604.2.1, ())].length ≤ CAP then (self (v402.1 ++ [(x603.1, x604.2.1, ())], w64 (v402.2 + (1 : Int)))) else none) else none) else none) else e0 v402.1
noncomputable def B0 (k : Nat) (self : ((List Key) × Int) → Option Out) (e0 : (List Key) → Option Out) (a1 : Arg) (v402 : (List Key) × Int) : Option Out := b0 self e0 a1 v402
theorem B0_eq (k : Nat) (rec : RT Out) (K : KT Out) (a1 : Arg) (v402 : (List Key) × Int) : N0 k (T0 a1 v402) (loopC rec M0 K) = B0 k (S0 rec a1) (X0_0 K a1) a1 v402 := by kernel_rfl
noncomputable def l0 (k : Nat) (a1 : Arg) (e0 : (List Key) → Option Out) (v : (List Key) × Int) : Option Out := rawIter (fun self v => B0 k self e0 a1 v) k v
theorem l0_eq (k : Nat) (K : KT Out) (a1 : Arg) (v402 : (List Key) × Int) : iterK (N0 k) M0 K k (T0 a1 v402) = l0 k a1 (X0_0 K a1) v402 :=
  iter_raw _ _ K (fun v402 => (T0 a1 v402)) (fun self v => B0 k self (X0_0 K a1) a1 v) (fun rec v => B0_eq k rec K a1 v) k v402
noncomputable def T1 (a1 : Arg) (v1006 : (List Key) × Int) : St := { n := 82, sl := [(1, .val (.slc tTx) a1.2.1), (5, .box tKey (roMd tKey) [] a1.2.2.1), (7, .own (.slc tKey) (ownMd (.slc tKey)) [] v1006.1), (9, .val i64 v1006.2)], vr := [], lent := [] }
noncomputable def N1 (k : Nat) : St → (Ex → St → Option Out) → Option Out := codeK E k fin (sub [1, 1, 1, 0, 1, 0, 0] C)
noncomputable def M1 : St → St := keepF [1, 5, 7, 9] []
noncomputable def S1 (rec : RT Out) (a1 : Arg) : ((List Key) × Int) → Option Out := fun v1006 => rec (T1 a1 v1006)
noncomputable def X1_2 (K : KT Out) (a1 : Arg) : (List Key) → Option Out := fun z => K (.exit 2) ({ n := 82, sl := [(5, .box tKey (roMd tKey) [] a1.2.2.1), (7, .own (.slc tKey) (ownMd (.slc tKey)) [] z)], vr := [], lent := [] })
noncomputable def b1 (self : ((List Key) × Int) → Option Out) (e2 : (List Key) → Option Out) (a1 : Arg) (v1006 : (List Key) × Int) : Option Out := bif decide (v1006.2 < (a1.2.1.length : Int)) then (if 0 ≤ v1006.2 then ((a1.2.1[v1006.2.toNat]?).bind fun x1207 => if v1006.1.length + x1207.2.2.2.1.length ≤ CAP then (self (v1006.1 ++ x1207.2.2.2.1, w64 (v1006.2 + (1 : Int)))) else none) else none) else e2 v1006.1
noncomputable def B1 (k : Nat) (self : ((List Key) × Int) → Option Out) (e2 : (List Key) → Option Out) (a1 : Arg) (v1006 : (List Key) × Int) : Option Out := b1 self e2 a1 v1006
theorem B1_eq (k : Nat) (rec : RT Out) (K : KT Out) (a1 : Arg) (v1006 : (List Key) × Int) : N1 k (T1 a1 v1006) (loopC rec M1 K) = B1 k (S1 rec a1) (X1_2 K a1) a1 v1006 := by kernel_rfl
noncomputable def l1 (k : Nat) (a1 : Arg) (e2 : (List Key) → Option Out) (v : (List Key) × Int) : Option Out := rawIter (fun self v => B1 k self e2 a1 v) k v
theorem l1_eq (k : Nat) (K : KT Out) (a1 : Arg) (v1006 : (List Key) × Int) : iterK (N1 k) M1 K k (T1 a1 v1006) = l1 k a1 (X1_2 K a1) v1006 :=
  iter_raw _ _ K (fun v1006 => (T1 a1 v1006)) (fun self v => B1 k self (X1_2 K a1) a1 v) (fun rec v => B1_eq k rec K a1 v) k v1006
noncomputable def T2 (a1 : Arg) (v2213 : (List Key) × Int × Int) : St := { n := 82, sl := [(7, .own (.slc tKey) (ownMd (.slc tKey)) [] v2213.1), (10, .val i64 v2213.2.1), (11, .val i64 v2213.2.2)], vr := [], lent := [] }
noncomputable def N2 (k : Nat) : St → (Ex → St → Option Out) → Option Out := codeK E k fin (sub [1, 1, 1, 1, 1, 1, 0, 1, 0, 0] C)
noncomputable def M2 : St → St := keepF [7, 10, 11] []
noncomputable def S2 (rec : RT Out) (a1 : Arg) : ((List Key) × Int × Int) → Option Out := fun v2213 => rec (T2 a1 v2213)
noncomputable def X2_4 (K : KT Out) (a1 : Arg) : Int → Option Out := fun z => K (.exit 4) ({ n := 82, sl := [(10, .val i64 z)], vr := [], lent := [] })
noncomputable def T3 (a1 : Arg) (c2815 : List Key) (c2816 : Int) (c2817 : Int) (v2814 : Bool × Int) : St := { n := 82, sl := [(7, .own (.slc tKey) (ownMd (.slc tKey)) [] c2815), (10, .val i64 c2816), (11, .val i64 c2817), (12, .val .bool v2814.1), (13, .val i64 v2814.2)], vr := [], lent := [] }
noncomputable def N3 (k : Nat) : St → (Ex → St → Option Out) → Option Out := codeK E k fin (sub [1, 1, 1, 1, 1, 1, 0, 1, 0, 0, 1, 0, 0, 1, 0, 1, 0, 0] C)
noncomputable def M3 : St → St := keepF [7, 10, 11, 12, 13] []
noncomputable def S3 (rec : RT Out) (a1 : Arg) (c2815 : List Key) (c2816 : Int) (c2817 : Int) : (Bool × Int) → Option Out := fun v2814 => rec (T3 a1 c2815 c2816 c2817 v2814)
noncomputable def X3_6 (K : KT Out) (a1 : Arg) (c2815 : List Key) (c2816 : Int) (c2817 : Int) : Bool → Option Out := fun z => K (.exit 6) ({ n := 82, sl := [(7, .own (.slc tKey) (ownMd (.slc tKey)) [] c2815), (10, .val i64 c2816), (11, .val i64 c2817), (12, .val .bool z)], vr := [], lent := [] })
noncomputable def b3 (self : (Bool × Int) → Option Out) (e6 : Bool → Option Out) (a1 : Arg) (c2815 : List Key) (c2816 : Int) (c2817 : Int) (v2814 : Bool × Int) : Option Out := bif decide (v2814.2 < c2817) then (bif v2814.1 then (if 0 ≤ v2814.2 ∧ v2814.2 < (c2815.length : Int) then ((c2815[v2814.2.toNat]?).bind fun x3018 => if 0 ≤ c2817 ∧ c2817 < (c2815.length : Int) then ((c2815[c2817.toNat]?).bind fun x3019 => self (!(Ty.eq tKey x3018 x3019), w64 (v2814.2 + (1 : Int)))) else none) else none) else e6 v2814.1) else e6 v2814.1
noncomputable def B3 (k : Nat) (self : (Bool × Int) → Option Out) (e6 : Bool → Option Out) (a1 : Arg) (c2815 : List Key) (c2816 : Int) (c2817 : Int) (v2814 : Bool × Int) : Option Out := b3 self e6 a1 c2815 c2816 c2817 v2814
theorem B3_eq (k : Nat) (rec : RT Out) (K : KT Out) (a1 : Arg) (c2815 : List Key) (c2816 : Int) (c2817 : Int) (v2814 : Bool × Int) : N3 k (T3 a1 c2815 c2816 c2817 v2814) (loopC rec M3 K) = B3 k (S3 rec a1 c2815 c2816 c2817) (X3_6 K a1 c2815 c2816 c2817) a1 c2815 c2816 c2817 v2814 := by kernel_rfl
noncomputable def l3 (k : Nat) (a1 : Arg) (c2815 : List Key) (c2816 : Int) (c2817 : Int) (e6 : Bool → Option Out) (v : Bool × Int) : Option Out := rawIter (fun self v => B3 k self e6 a1 c2815 c2816 c2817 v) k v
theorem l3_eq (k : Nat) (K : KT Out) (a1 : Arg) (c2815 : List Key) (c2816 : Int) (c2817 : Int) (v2814 : Bool × Int) : iterK (N3 k) M3 K k (T3 a1 c2815 c2816 c2817 v2814) = l3 k a1 c2815 c2816 c2817 (X3_6 K a1 c2815 c2816 c2817) v2814 :=
  iter_raw _ _ K (fun v2814 => (T3 a1 c2815 c2816 c2817 v2814)) (fun self v => B3 k self (X3_6 K a1 c2815 c2816 c2817) a1 c2815 c2816 c2817 v) (fun rec v => B3_eq k rec K a1 c2815 c2816 c2817 v) k v2814
noncomputable def q2 (self : ((List Key) × Int × Int) → Option Out) (e4 : Int → Option Out) (a1 : Arg) (c2815 : List Key) (c2816 : Int) (c2817 : Int) (z3020 : Bool) : Option Out := bif z3020 then (self (c2815, w64 (c2816 + (1 : Int)), w64 (c2817 + (1 : Int)))) else self (c2815, c2816, w64 (c2817 + (1 : Int)))
noncomputable def Q2 (k : Nat) (self : ((List Key) × Int × Int) → Option Out) (e4 : Int → Option Out) (a1 : Arg) (c2815 : List Key) (c2816 : Int) (c2817 : Int) (z3020 : Bool) : Option Out := q2 self e4 a1 c2815 c2816 c2817 z3020
theorem Q2_eq (k : Nat) (rec : RT Out) (K : KT Out) (a1 : Arg) (c2815 : List Key) (c2816 : Int) (c2817 : Int) (z3020 : Bool) : X3_6 (blockC 6 (seqC (codeK E k fin (sub [1, 1, 1, 1, 1, 1, 0, 1, 0, 0, 1, 0, 0, 1, 1] C)) (blockC 5 (seqC (codeK E k fin (sub [1, 1, 1, 1, 1, 1, 0, 1, 0, 0, 1, 1] C)) (loopC rec (keepF [7, 10, 11] []) K))))) a1 c2815 c2816 c2817 z3020 = Q2 k (S2 rec a1) (X2_4 K a1) a1 c2815 c2816 c2817 z3020 := by kernel_rfl
noncomputable def s3 (k : Nat) (rec : RT Out) (K : KT Out) (a1 : Arg) : (List Key) → Int → Int → (Bool × Int) → Option Out := fun c2815 c2816 c2817 v2814 => iterK (N3 k) M3 (blockC 6 (seqC (codeK E k fin (sub [1, 1, 1, 1, 1, 1, 0, 1, 0, 0, 1, 0, 0, 1, 1] C)) (blockC 5 (seqC (codeK E k fin (sub [1, 1, 1, 1, 1, 1, 0, 1, 0, 0, 1, 1] C)) (loopC rec (keepF [7, 10, 11] []) K))))) k (T3 a1 c2815 c2816 c2817 v2814)
noncomputable def r3 (k : Nat) (self : ((List Key) × Int × Int) → Option Out) (e4 : Int → Option Out) (a1 : Arg) : (List Key) → Int → Int → (Bool × Int) → Option Out := fun c2815 c2816 c2817 v2814 => l3 k a1 c2815 c2816 c2817 (fun z => Q2 k self e4 a1 c2815 c2816 c2817 z) v2814
theorem s3_eq (k : Nat) (rec : RT Out) (K : KT Out) (a1 : Arg) : s3 k rec K a1 = r3 k (S2 rec a1) (X2_4 K a1) a1 := by
  funext c2815; funext c2816; funext c2817; funext v2814;
  have h6 : X3_6 ((blockC 6 (seqC (codeK E k fin (sub [1, 1, 1, 1, 1, 1, 0, 1, 0, 0, 1, 0, 0, 1, 1] C)) (blockC 5 (seqC (codeK E k fin (sub [1, 1, 1, 1, 1, 1, 0, 1, 0, 0, 1, 1] C)) (loopC rec (keepF [7, 10, 11] []) K)))))) a1 c2815 c2816 c2817 = fun z => Q2 k (S2 rec a1) (X2_4 K a1) a1 c2815 c2816 c2817 z := funext fun z => Q2_eq k rec K a1 c2815 c2816 c2817 z
  refine (l3_eq k ((blockC 6 (seqC (codeK E k fin (sub [1, 1, 1, 1, 1, 1, 0, 1, 0, 0, 1, 0, 0, 1, 1] C)) (blockC 5 (seqC (codeK E k fin (sub [1, 1, 1, 1, 1, 1, 0, 1, 0, 0, 1, 1] C)) (loopC rec (keepF [7, 10, 11] []) K)))))) a1 c2815 c2816 c2817 v2814).trans ?_
  rw [h6]
  rfl
noncomputable def b2 (self : ((List Key) × Int × Int) → Option Out) (e4 : Int → Option Out) (l3 : (List Key) → Int → Int → (Bool × Int) → Option Out) (a1 : Arg) (v2213 : (List Key) × Int × Int) : Option Out := bif decide (v2213.2.2 < (v2213.1.length : Int)) then (l3 v2213.1 v2213.2.1 v2213.2.2 (true, (0 : Int))) else e4 v2213.2.1
noncomputable def B2 (k : Nat) (self : ((List Key) × Int × Int) → Option Out) (e4 : Int → Option Out) (a1 : Arg) (v2213 : (List Key) × Int × Int) : Option Out := b2 self e4 (r3 k self e4 a1) a1 v2213
theorem b2_eq (k : Nat) (rec : RT Out) (K : KT Out) (a1 : Arg) (v2213 : (List Key) × Int × Int) : N2 k (T2 a1 v2213) (loopC rec M2 K) = b2 (S2 rec a1) (X2_4 K a1) (s3 k rec K a1) a1 v2213 := by kernel_rfl
theorem B2_eq (k : Nat) (rec : RT Out) (K : KT Out) (a1 : Arg) (v2213 : (List Key) × Int × Int) : N2 k (T2 a1 v2213) (loopC rec M2 K) = B2 k (S2 rec a1) (X2_4 K a1) a1 v2213 := (b2_eq k rec K a1 v2213).trans (by rw [s3_eq]; rfl)
noncomputable def l2 (k : Nat) (a1 : Arg) (e4 : Int → Option Out) (v : (List Key) × Int × Int) : Option Out := rawIter (fun self v => B2 k self e4 a1 v) k v
theorem l2_eq (k : Nat) (K : KT Out) (a1 : Arg) (v2213 : (List Key) × Int × Int) : iterK (N2 k) M2 K k (T2 a1 v2213) = l2 k a1 (X2_4 K a1) v2213 :=
  iter_raw _ _ K (fun v2213 => (T2 a1 v2213)) (fun self v => B2 k self (X2_4 K a1) a1 v) (fun rec v => B2_eq k rec K a1 v) k v2213
noncomputable def q3 (a1 : Arg) (z3021 : Int) : Option Out := some (z3021, ())
noncomputable def Q3 (k : Nat) (a1 : Arg) (z3021 : Int) : Option Out := q3 a1 z3021
theorem Q3_eq (k : Nat) (a1 : Arg) (z3021 : Int) : X2_4 (blockC 4 (seqC (codeK E k fin (sub [1, 1, 1, 1, 1, 1, 1] C)) K0)) a1 z3021 = Q3 k a1 z3021 := by kernel_rfl
noncomputable def s2 (k : Nat) (a1 : Arg) : ((List Key) × Int × Int) → Option Out := fun v2213 => iterK (N2 k) M2 (blockC 4 (seqC (codeK E k fin (sub [1, 1, 1, 1, 1, 1, 1] C)) K0)) k (T2 a1 v2213)
noncomputable def r2 (k : Nat) (a1 : Arg) : ((List Key) × Int × Int) → Option Out := fun v2213 => l2 k a1 (fun z => Q3 k a1 z) v2213
theorem s2_eq (k : Nat) (a1 : Arg) : s2 k a1 = r2 k a1 := by
  funext v2213;
  have h4 : X2_4 ((blockC 4 (seqC (codeK E k fin (sub [1, 1, 1, 1, 1, 1, 1] C)) K0))) a1 = fun z => Q3 k a1 z := funext fun z => Q3_eq k a1 z
  refine (l2_eq k ((blockC 4 (seqC (codeK E k fin (sub [1, 1, 1, 1, 1, 1, 1] C)) K0))) a1 v2213).trans ?_
  rw [h4]
  rfl
noncomputable def q1 (l2 : ((List Key) × Int × Int) → Option Out) (a1 : Arg) (z1208 : (List Key)) : Option Out := let j1812 := fun (p1811 : List Key) => (l2 (p1811, (0 : Int), (0 : Int)) : Option Out); bif !decide (a1.2.2.1.2.1 = (0 : Int)) then (if z1208.length + [a1.2.2.1].length ≤ CAP then (j1812 (z1208 ++ [a1.2.2.1])) else none) else j1812 z1208
noncomputable def Q1 (k : Nat) (a1 : Arg) (z1208 : (List Key)) : Option Out := q1 (r2 k a1) a1 z1208
theorem q1_eq (k : Nat) (a1 : Arg) (z1208 : (List Key)) : X1_2 (blockC 2 (seqC (codeK E k fin (sub [1, 1, 1, 1] C)) K0)) a1 z1208 = q1 (s2 k a1) a1 z1208 := by kernel_rfl
theorem Q1_eq (k : Nat) (a1 : Arg) (z1208 : (List Key)) : X1_2 (blockC 2 (seqC (codeK E k fin (sub [1, 1, 1, 1] C)) K0)) a1 z1208 = Q1 k a1 z1208 := (q1_eq k a1 z1208).trans (by rw [s2_eq]; rfl)
noncomputable def s1 (k : Nat) (a1 : Arg) : ((List Key) × Int) → Option Out := fun v1006 => iterK (N1 k) M1 (blockC 2 (seqC (codeK E k fin (sub [1, 1, 1, 1] C)) K0)) k (T1 a1 v1006)
noncomputable def r1 (k : Nat) (a1 : Arg) : ((List Key) × Int) → Option Out := fun v1006 => l1 k a1 (fun z => Q1 k a1 z) v1006
theorem s1_eq (k : Nat) (a1 : Arg) : s1 k a1 = r1 k a1 := by
  funext v1006;
  have h2 : X1_2 ((blockC 2 (seqC (codeK E k fin (sub [1, 1, 1, 1] C)) K0))) a1 = fun z => Q1 k a1 z := funext fun z => Q1_eq k a1 z
  refine (l1_eq k ((blockC 2 (seqC (codeK E k fin (sub [1, 1, 1, 1] C)) K0))) a1 v1006).trans ?_
  rw [h2]
  rfl
noncomputable def q0 (l1 : ((List Key) × Int) → Option Out) (a1 : Arg) (z605 : (List Key)) : Option Out := l1 (z605, (0 : Int))
noncomputable def Q0 (k : Nat) (a1 : Arg) (z605 : (List Key)) : Option Out := q0 (r1 k a1) a1 z605
theorem q0_eq (k : Nat) (a1 : Arg) (z605 : (List Key)) : X0_0 (blockC 0 (seqC (codeK E k fin (sub [1, 1, 1] C)) K0)) a1 z605 = q0 (s1 k a1) a1 z605 := by kernel_rfl
theorem Q0_eq (k : Nat) (a1 : Arg) (z605 : (List Key)) : X0_0 (blockC 0 (seqC (codeK E k fin (sub [1, 1, 1] C)) K0)) a1 z605 = Q0 k a1 z605 := (q0_eq k a1 z605).trans (by rw [s1_eq]; rfl)
noncomputable def s0 (k : Nat) (a1 : Arg) : ((List Key) × Int) → Option Out := fun v402 => iterK (N0 k) M0 (blockC 0 (seqC (codeK E k fin (sub [1, 1, 1] C)) K0)) k (T0 a1 v402)
noncomputable def r0 (k : Nat) (a1 : Arg) : ((List Key) × Int) → Option Out := fun v402 => l0 k a1 (fun z => Q0 k a1 z) v402
theorem s0_eq (k : Nat) (a1 : Arg) : s0 k a1 = r0 k a1 := by
  funext v402;
  have h0 : X0_0 ((blockC 0 (seqC (codeK E k fin (sub [1, 1, 1] C)) K0))) a1 = fun z => Q0 k a1 z := funext fun z => Q0_eq k a1 z
  refine (l0_eq k ((blockC 0 (seqC (codeK E k fin (sub [1, 1, 1] C)) K0))) a1 v402).trans ?_
  rw [h0]
  rfl
noncomputable def p (l0 : ((List Key) × Int) → Option Out) (a1 : Arg) : Option Out := l0 (([] : List Key), (0 : Int))
noncomputable def raw (k : Nat) (a1 : Arg) : Option Out := p (r0 k a1) a1
theorem p_eq (k : Nat) (a1 : Arg) : W k a1 = p (s0 k a1) a1 := by kernel_rfl
theorem raw_eq (k : Nat) (a1 : Arg) : W k a1 = raw k a1 := (p_eq k a1).trans (by rw [s0_eq]; rfl)
theorem ok : Ok prog 89 sig := fn_ok func89 (tl := tl) (gl := gl) (es := []) (fr := []) rfl rfl (by kernel_rfl) (fn_nil _) (fun _ => rfl)
end spec_l10Room
namespace laws_toRow
/-! loop example g00408 laws toRow -/
abbrev Arg : Type := Row × Unit
abbrev Out : Type := Row × Unit
noncomputable def ps : PQ := [(.ro, tRow)]
noncomputable def rs : RQ := [(tRow, (roMd tRow))]
noncomputable def tl : TL := [(2, i64), (9, .str), (42, tRow), (48, tRow)]
noncomputable def gl : GL := []
noncomputable def E : Env := { TI := lookN tl, G := lookN gl }
noncomputable def W (k : Nat) (a : Arg) : Option Out := bodyK E k f61 ps rs [] [] a
noncomputable def sem (a : Arg) : Option Out := lift fun k => W k a
noncomputable def sig : Sig := { ps := ps, rs := rs, F := sem }
noncomputable def p (a1 : Arg) : Option Out := some ((a1.1.1, a1.1.2.1, a1.1.2.2.1, a1.1.2.2.2.1, ()), ())
noncomputable def raw (k : Nat) (a1 : Arg) : Option Out := p a1
theorem raw_eq (k : Nat) (a1 : Arg) : W k a1 = raw k a1 := by kernel_rfl
theorem ok : Ok prog 61 sig := fn_ok func61 (tl := tl) (gl := gl) (es := []) (fr := []) rfl rfl (by kernel_rfl) (fn_nil _) (fun _ => rfl)
end laws_toRow
namespace laws_toRowS
/-! loop example g00408 laws toRowS -/
abbrev Arg : Type := (List Row) × Unit
abbrev Out : Type := (List Row) × Unit
noncomputable def ps : PQ := [(.ro, (.slc tRow))]
noncomputable def rs : RQ := [((.slc tRow), (ownMd (.slc tRow)))]
noncomputable def tl : TL := [(22, (.slc tRow)), (28, (.slc tRow)), (42, tRow), (48, tRow)]
noncomputable def gl : GL := [(61, laws_toRow.sig)]
noncomputable def E : Env := { TI := lookN tl, G := lookN gl, lv := [(3, [0, 3, 4])], lx := [(0, [3])] }
noncomputable def W (k : Nat) (a : Arg) : Option Out := bodyK E k f23 ps rs [] [] a
noncomputable def sem (a : Arg) : Option Out := lift fun k => W k a
noncomputable def sig : Sig := { ps := ps, rs := rs, F := sem }
noncomputable def C : Code := bodyOf f23
noncomputable def fin : St → Option Out := outK ps rs [] (Func.results f23).toList (mvs [])
noncomputable def K0 : Ex → St → Option Out := endK fin
noncomputable def T0 (a1 : Arg) (v402 : (List Row) × Int) : St := { n := 23, sl := [(0, .val (.slc tRow) a1.1), (3, .own (.slc tRow) (ownMd (.slc tRow)) [] v402.1), (4, .val i64 v402.2)], vr := [], lent := [] }
noncomputable def N0 (k : Nat) : St → (Ex → St → Option Out) → Option Out := codeK E k fin (sub [1, 1, 0, 1, 0, 0] C)
noncomputable def M0 : St → St := keepF [0, 3, 4] []
noncomputable def S0 (rec : RT Out) (a1 : Arg) : ((List Row) × Int) → Option Out := fun v402 => rec (T0 a1 v402)
noncomputable def X0_0 (K : KT Out) (a1 : Arg) : (List Row) → Option Out := fun z => K (.exit 0) ({ n := 23, sl := [(3, .own (.slc tRow) (ownMd (.slc tRow)) [] z)], vr := [], lent := [] })
noncomputable def b0 (self : ((List Row) × Int) → Option Out) (e0 : (List Row) → Option Out) (a1 : Arg) (v402 : (List Row) × Int) : Option Out := bif decide (v402.2 < (a1.1.length : Int)) then (if 0 ≤ v402.2 then ((a1.1[v402.2.toNat]?).bind fun x603 => (laws_toRow.sem (x603, ())).bind fun r604 => if 0 ≤ v402.2 ∧ v402.2 < (v402.1.length : Int) then ((v402.1[v402.2.toNat]?).bind fun x605 => self (v402.1.set v402.2.toNat r604.1, w64 (v402.2 + (1 : Int)))) else none) else none) else e0 v402.1
noncomputable def B0 (k : Nat) (self : ((List Row) × Int) → Option Out) (e0 : (List Row) → Option Out) (a1 : Arg) (v402 : (List Row) × Int) : Option Out := b0 self e0 a1 v402
theorem B0_eq (k : Nat) (rec : RT Out) (K : KT Out) (a1 : Arg) (v402 : (List Row) × Int) : N0 k (T0 a1 v402) (loopC rec M0 K) = B0 k (S0 rec a1) (X0_0 K a1) a1 v402 := by kernel_rfl
noncomputable def l0 (k : Nat) (a1 : Arg) (e0 : (List Row) → Option Out) (v : (List Row) × Int) : Option Out := rawIter (fun self v => B0 k self e0 a1 v) k v
theorem l0_eq (k : Nat) (K : KT Out) (a1 : Arg) (v402 : (List Row) × Int) : iterK (N0 k) M0 K k (T0 a1 v402) = l0 k a1 (X0_0 K a1) v402 :=
  iter_raw _ _ K (fun v402 => (T0 a1 v402)) (fun self v => B0 k self (X0_0 K a1) a1 v) (fun rec v => B0_eq k rec K a1 v) k v402
noncomputable def q0 (a1 : Arg) (z606 : (List Row)) : Option Out := some (z606, ())
noncomputable def Q0 (k : Nat) (a1 : Arg) (z606 : (List Row)) : Option Out := q0 a1 z606
theorem Q0_eq (k : Nat) (a1 : Arg) (z606 : (List Row)) : X0_0 (blockC 0 (seqC (codeK E k fin (sub [1, 1, 1] C)) K0)) a1 z606 = Q0 k a1 z606 := by kernel_rfl
noncomputable def s0 (k : Nat) (a1 : Arg) : ((List Row) × Int) → Option Out := fun v402 => iterK (N0 k) M0 (blockC 0 (seqC (codeK E k fin (sub [1, 1, 1] C)) K0)) k (T0 a1 v402)
noncomputable def r0 (k : Nat) (a1 : Arg) : ((List Row) × Int) → Option Out := fun v402 => l0 k a1 (fun z => Q0 k a1 z) v402
theorem s0_eq (k : Nat) (a1 : Arg) : s0 k a1 = r0 k a1 := by
  funext v402;
  have h0 : X0_0 ((blockC 0 (seqC (codeK E k fin (sub [1, 1, 1] C)) K0))) a1 = fun z => Q0 k a1 z := funext fun z => Q0_eq k a1 z
  refine (l0_eq k ((blockC 0 (seqC (codeK E k fin (sub [1, 1, 1] C)) K0))) a1 v402).trans ?_
  rw [h0]
  rfl
noncomputable def p (l0 : ((List Row) × Int) → Option Out) (a1 : Arg) : Option Out := if 0 ≤ (a1.1.length : Int) ∧ (a1.1.length : Int) ≤ (a1.1.length : Int) ∧ (a1.1.length : Int) ≤ (CAP : Int) then (l0 (List.replicate (a1.1.length : Int).toNat ((0 : Int), (0 : Int), (0 : Int), ([] : List UInt8), ()), (0 : Int))) else none
noncomputable def raw (k : Nat) (a1 : Arg) : Option Out := p (r0 k a1) a1
theorem p_eq (k : Nat) (a1 : Arg) : W k a1 = p (s0 k a1) a1 := by kernel_rfl
theorem raw_eq (k : Nat) (a1 : Arg) : W k a1 = raw k a1 := (p_eq k a1).trans (by rw [s0_eq]; rfl)
theorem ok : Ok prog 23 sig := fn_ok func23 (tl := tl) (gl := gl) (es := []) (fr := []) rfl rfl (by kernel_rfl) (fc laws_toRow.ok (fn_nil _)) (fun _ => rfl)
end laws_toRowS
namespace laws_toChange
/-! loop example g00408 laws toChange -/
abbrev Arg : Type := Change × Unit
abbrev Out : Type := Change × Unit
noncomputable def ps : PQ := [(.ro, tChange)]
noncomputable def rs : RQ := [(tChange, (roMd tChange))]
noncomputable def tl : TL := [(4, .bool), (42, tRow), (48, tRow), (50, tChange), (205, tChange)]
noncomputable def gl : GL := [(61, laws_toRow.sig)]
noncomputable def E : Env := { TI := lookN tl, G := lookN gl }
noncomputable def W (k : Nat) (a : Arg) : Option Out := bodyK E k f162 ps rs [] [] a
noncomputable def sem (a : Arg) : Option Out := lift fun k => W k a
noncomputable def sig : Sig := { ps := ps, rs := rs, F := sem }
noncomputable def p (a1 : Arg) : Option Out := (laws_toRow.sem (a1.1.2.1, ())).bind fun r2 => (laws_toRow.sem (a1.1.2.2.2.1, ())).bind fun r3 => some ((a1.1.1, r2.1, a1.1.2.2.1, r3.1, ()), ())
noncomputable def raw (k : Nat) (a1 : Arg) : Option Out := p a1
theorem raw_eq (k : Nat) (a1 : Arg) : W k a1 = raw k a1 := by kernel_rfl
theorem ok : Ok prog 162 sig := fn_ok func162 (tl := tl) (gl := gl) (es := []) (fr := []) rfl rfl (by kernel_rfl) (fc laws_toRow.ok (fn_nil _)) (fun _ => rfl)
end laws_toChange
namespace laws_toChangeS
/-! loop example g00408 laws toChangeS -/
abbrev Arg : Type := (List Change) × Unit
abbrev Out : Type := (List Change) × Unit
noncomputable def ps : PQ := [(.ro, (.slc tChange))]
noncomputable def rs : RQ := [((.slc tChange), (ownMd (.slc tChange)))]
noncomputable def tl : TL := [(50, tChange), (65, (.slc tChange)), (110, (.slc tChange)), (205, tChange)]
noncomputable def gl : GL := [(162, laws_toChange.sig)]
noncomputable def E : Env := { TI := lookN tl, G := lookN gl, lv := [(3, [0, 3, 4])], lx := [(0, [3])] }
noncomputable def W (k : Nat) (a : Arg) : Option Out := bodyK E k f116 ps rs [] [] a
noncomputable def sem (a : Arg) : Option Out := lift fun k => W k a
noncomputable def sig : Sig := { ps := ps, rs := rs, F := sem }
noncomputable def C : Code := bodyOf f116
noncomputable def fin : St → Option Out := outK ps rs [] (Func.results f116).toList (mvs [])
noncomputable def K0 : Ex → St → Option Out := endK fin
noncomputable def T0 (a1 : Arg) (v402 : (List Change) × Int) : St := { n := 23, sl := [(0, .val (.slc tChange) a1.1), (3, .own (.slc tChange) (ownMd (.slc tChange)) [] v402.1), (4, .val i64 v402.2)], vr := [], lent := [] }
noncomputable def N0 (k : Nat) : St → (Ex → St → Option Out) → Option Out := codeK E k fin (sub [1, 1, 0, 1, 0, 0] C)
noncomputable def M0 : St → St := keepF [0, 3, 4] []
noncomputable def S0 (rec : RT Out) (a1 : Arg) : ((List Change) × Int) → Option Out := fun v402 => rec (T0 a1 v402)
noncomputable def X0_0 (K : KT Out) (a1 : Arg) : (List Change) → Option Out := fun z => K (.exit 0) ({ n := 23, sl := [(3, .own (.slc tChange) (ownMd (.slc tChange)) [] z)], vr := [], lent := [] })
noncomputable def b0 (self : ((List Change) × Int) → Option Out) (e0 : (List Change) → Option Out) (a1 : Arg) (v402 : (List Change) × Int) : Option Out := bif decide (v402.2 < (a1.1.length : Int)) then (if 0 ≤ v402.2 then ((a1.1[v402.2.toNat]?).bind fun x603 => (laws_toChange.sem (x603, ())).bind fun r604 => if 0 ≤ v402.2 ∧ v402.2 < (v402.1.length : Int) then ((v402.1[v402.2.toNat]?).bind fun x605 => self (v402.1.set v402.2.toNat r604.1, w64 (v402.2 + (1 : Int)))) else none) else none) else e0 v402.1
noncomputable def B0 (k : Nat) (self : ((List Change) × Int) → Option Out) (e0 : (List Change) → Option Out) (a1 : Arg) (v402 : (List Change) × Int) : Option Out := b0 self e0 a1 v402
theorem B0_eq (k : Nat) (rec : RT Out) (K : KT Out) (a1 : Arg) (v402 : (List Change) × Int) : N0 k (T0 a1 v402) (loopC rec M0 K) = B0 k (S0 rec a1) (X0_0 K a1) a1 v402 := by kernel_rfl
noncomputable def l0 (k : Nat) (a1 : Arg) (e0 : (List Change) → Option Out) (v : (List Change) × Int) : Option Out := rawIter (fun self v => B0 k self e0 a1 v) k v
theorem l0_eq (k : Nat) (K : KT Out) (a1 : Arg) (v402 : (List Change) × Int) : iterK (N0 k) M0 K k (T0 a1 v402) = l0 k a1 (X0_0 K a1) v402 :=
  iter_raw _ _ K (fun v402 => (T0 a1 v402)) (fun self v => B0 k self (X0_0 K a1) a1 v) (fun rec v => B0_eq k rec K a1 v) k v402
noncomputable def q0 (a1 : Arg) (z606 : (List Change)) : Option Out := some (z606, ())
noncomputable def Q0 (k : Nat) (a1 : Arg) (z606 : (List Change)) : Option Out := q0 a1 z606
theorem Q0_eq (k : Nat) (a1 : Arg) (z606 : (List Change)) : X0_0 (blockC 0 (seqC (codeK E k fin (sub [1, 1, 1] C)) K0)) a1 z606 = Q0 k a1 z606 := by kernel_rfl
noncomputable def s0 (k : Nat) (a1 : Arg) : ((List Change) × Int) → Option Out := fun v402 => iterK (N0 k) M0 (blockC 0 (seqC (codeK E k fin (sub [1, 1, 1] C)) K0)) k (T0 a1 v402)
noncomputable def r0 (k : Nat) (a1 : Arg) : ((List Change) × Int) → Option Out := fun v402 => l0 k a1 (fun z => Q0 k a1 z) v402
theorem s0_eq (k : Nat) (a1 : Arg) : s0 k a1 = r0 k a1 := by
  funext v402;
  have h0 : X0_0 ((blockC 0 (seqC (codeK E k fin (sub [1, 1, 1] C)) K0))) a1 = fun z => Q0 k a1 z := funext fun z => Q0_eq k a1 z
  refine (l0_eq k ((blockC 0 (seqC (codeK E k fin (sub [1, 1, 1] C)) K0))) a1 v402).trans ?_
  rw [h0]
  rfl
noncomputable def p (l0 : ((List Change) × Int) → Option Out) (a1 : Arg) : Option Out := if 0 ≤ (a1.1.length : Int) ∧ (a1.1.length : Int) ≤ (a1.1.length : Int) ∧ (a1.1.length : Int) ≤ (CAP : Int) then (l0 (List.replicate (a1.1.length : Int).toNat (false, ((0 : Int), (0 : Int), (0 : Int), ([] : List UInt8), ()), false, ((0 : Int), (0 : Int), (0 : Int), ([] : List UInt8), ()), ()), (0 : Int))) else none
noncomputable def raw (k : Nat) (a1 : Arg) : Option Out := p (r0 k a1) a1
theorem p_eq (k : Nat) (a1 : Arg) : W k a1 = p (s0 k a1) a1 := by kernel_rfl
theorem raw_eq (k : Nat) (a1 : Arg) : W k a1 = raw k a1 := (p_eq k a1).trans (by rw [s0_eq]; rfl)
theorem ok : Ok prog 116 sig := fn_ok func116 (tl := tl) (gl := gl) (es := []) (fr := []) rfl rfl (by kernel_rfl) (fc laws_toChange.ok (fn_nil _)) (fun _ => rfl)
end laws_toChangeS
namespace laws_toInt64S
/-! loop example g00408 laws toInt64S -/
abbrev Arg : Type := (List Int) × Unit
abbrev Out : Type := (List Int) × Unit
noncomputable def ps : PQ := [(.ro, (.slc i64))]
noncomputable def rs : RQ := [((.slc i64), (ownMd (.slc i64)))]
noncomputable def tl : TL := [(2, i64), (96, (.slc i64))]
noncomputable def gl : GL := []
noncomputable def E : Env := { TI := lookN tl, G := lookN gl, lv := [(3, [0, 3, 4])], lx := [(0, [3])] }
noncomputable def W (k : Nat) (a : Arg) : Option Out := bodyK E k f117 ps rs [] [] a
noncomputable def sem (a : Arg) : Option Out := lift fun k => W k a
noncomputable def sig : Sig := { ps := ps, rs := rs, F := sem }
noncomputable def C : Code := bodyOf f117
noncomputable def fin : St → Option Out := outK ps rs [] (Func.results f117).toList (mvs [])
noncomputable def K0 : Ex → St → Option Out := endK fin
noncomputable def T0 (a1 : Arg) (v402 : (List Int) × Int) : St := { n := 22, sl := [(0, .val (.slc i64) a1.1), (3, .own (.slc i64) (ownMd (.slc i64)) [] v402.1), (4, .val i64 v402.2)], vr := [], lent := [] }
noncomputable def N0 (k : Nat) : St → (Ex → St → Option Out) → Option Out := codeK E k fin (sub [1, 1, 0, 1, 0, 0] C)
noncomputable def M0 : St → St := keepF [0, 3, 4] []
noncomputable def S0 (rec : RT Out) (a1 : Arg) : ((List Int) × Int) → Option Out := fun v402 => rec (T0 a1 v402)
noncomputable def X0_0 (K : KT Out) (a1 : Arg) : (List Int) → Option Out := fun z => K (.exit 0) ({ n := 22, sl := [(3, .own (.slc i64) (ownMd (.slc i64)) [] z)], vr := [], lent := [] })
noncomputable def b0 (self : ((List Int) × Int) → Option Out) (e0 : (List Int) → Option Out) (a1 : Arg) (v402 : (List Int) × Int) : Option Out := bif decide (v402.2 < (a1.1.length : Int)) then (if 0 ≤ v402.2 then ((a1.1[v402.2.toNat]?).bind fun x603 => if 0 ≤ v402.2 ∧ v402.2 < (v402.1.length : Int) then ((v402.1[v402.2.toNat]?).bind fun x604 => self (v402.1.set v402.2.toNat x603, w64 (v402.2 + (1 : Int)))) else none) else none) else e0 v402.1
noncomputable def B0 (k : Nat) (self : ((List Int) × Int) → Option Out) (e0 : (List Int) → Option Out) (a1 : Arg) (v402 : (List Int) × Int) : Option Out := b0 self e0 a1 v402
theorem B0_eq (k : Nat) (rec : RT Out) (K : KT Out) (a1 : Arg) (v402 : (List Int) × Int) : N0 k (T0 a1 v402) (loopC rec M0 K) = B0 k (S0 rec a1) (X0_0 K a1) a1 v402 := by kernel_rfl
noncomputable def l0 (k : Nat) (a1 : Arg) (e0 : (List Int) → Option Out) (v : (List Int) × Int) : Option Out := rawIter (fun self v => B0 k self e0 a1 v) k v
theorem l0_eq (k : Nat) (K : KT Out) (a1 : Arg) (v402 : (List Int) × Int) : iterK (N0 k) M0 K k (T0 a1 v402) = l0 k a1 (X0_0 K a1) v402 :=
  iter_raw _ _ K (fun v402 => (T0 a1 v402)) (fun self v => B0 k self (X0_0 K a1) a1 v) (fun rec v => B0_eq k rec K a1 v) k v402
noncomputable def q0 (a1 : Arg) (z605 : (List Int)) : Option Out := some (z605, ())
noncomputable def Q0 (k : Nat) (a1 : Arg) (z605 : (List Int)) : Option Out := q0 a1 z605
theorem Q0_eq (k : Nat) (a1 : Arg) (z605 : (List Int)) : X0_0 (blockC 0 (seqC (codeK E k fin (sub [1, 1, 1] C)) K0)) a1 z605 = Q0 k a1 z605 := by kernel_rfl
noncomputable def s0 (k : Nat) (a1 : Arg) : ((List Int) × Int) → Option Out := fun v402 => iterK (N0 k) M0 (blockC 0 (seqC (codeK E k fin (sub [1, 1, 1] C)) K0)) k (T0 a1 v402)
noncomputable def r0 (k : Nat) (a1 : Arg) : ((List Int) × Int) → Option Out := fun v402 => l0 k a1 (fun z => Q0 k a1 z) v402
theorem s0_eq (k : Nat) (a1 : Arg) : s0 k a1 = r0 k a1 := by
  funext v402;
  have h0 : X0_0 ((blockC 0 (seqC (codeK E k fin (sub [1, 1, 1] C)) K0))) a1 = fun z => Q0 k a1 z := funext fun z => Q0_eq k a1 z
  refine (l0_eq k ((blockC 0 (seqC (codeK E k fin (sub [1, 1, 1] C)) K0))) a1 v402).trans ?_
  rw [h0]
  rfl
noncomputable def p (l0 : ((List Int) × Int) → Option Out) (a1 : Arg) : Option Out := if 0 ≤ (a1.1.length : Int) ∧ (a1.1.length : Int) ≤ (a1.1.length : Int) ∧ (a1.1.length : Int) ≤ (CAP : Int) then (l0 (List.replicate (a1.1.length : Int).toNat (0 : Int), (0 : Int))) else none
noncomputable def raw (k : Nat) (a1 : Arg) : Option Out := p (r0 k a1) a1
theorem p_eq (k : Nat) (a1 : Arg) : W k a1 = p (s0 k a1) a1 := by kernel_rfl
theorem raw_eq (k : Nat) (a1 : Arg) : W k a1 = raw k a1 := (p_eq k a1).trans (by rw [s0_eq]; rfl)
theorem ok : Ok prog 117 sig := fn_ok func117 (tl := tl) (gl := gl) (es := []) (fr := []) rfl rfl (by kernel_rfl) (fn_nil _) (fun _ => rfl)
end laws_toInt64S
namespace laws_toKey
/-! loop example g00408 laws toKey -/
abbrev Arg : Type := Key × Unit
abbrev Out : Type := Key × Unit
noncomputable def ps : PQ := [(.ro, tKey)]
noncomputable def rs : RQ := [(tKey, (roMd tKey))]
noncomputable def tl : TL := [(2, i64), (146, tKey), (219, tKey)]
noncomputable def gl : GL := []
noncomputable def E : Env := { TI := lookN tl, G := lookN gl }
noncomputable def W (k : Nat) (a : Arg) : Option Out := bodyK E k f163 ps rs [] [] a
noncomputable def sem (a : Arg) : Option Out := lift fun k => W k a
noncomputable def sig : Sig := { ps := ps, rs := rs, F := sem }
noncomputable def p (a1 : Arg) : Option Out := some ((a1.1.1, a1.1.2.1, ()), ())
noncomputable def raw (k : Nat) (a1 : Arg) : Option Out := p a1
theorem raw_eq (k : Nat) (a1 : Arg) : W k a1 = raw k a1 := by kernel_rfl
theorem ok : Ok prog 163 sig := fn_ok func163 (tl := tl) (gl := gl) (es := []) (fr := []) rfl rfl (by kernel_rfl) (fn_nil _) (fun _ => rfl)
end laws_toKey
namespace laws_toKeyS
/-! loop example g00408 laws toKeyS -/
abbrev Arg : Type := (List Key) × Unit
abbrev Out : Type := (List Key) × Unit
noncomputable def ps : PQ := [(.ro, (.slc tKey))]
noncomputable def rs : RQ := [((.slc tKey), (ownMd (.slc tKey)))]
noncomputable def tl : TL := [(97, (.slc tKey)), (111, (.slc tKey)), (146, tKey), (219, tKey)]
noncomputable def gl : GL := [(163, laws_toKey.sig)]
noncomputable def E : Env := { TI := lookN tl, G := lookN gl, lv := [(3, [0, 3, 4])], lx := [(0, [3])] }
noncomputable def W (k : Nat) (a : Arg) : Option Out := bodyK E k f118 ps rs [] [] a
noncomputable def sem (a : Arg) : Option Out := lift fun k => W k a
noncomputable def sig : Sig := { ps := ps, rs := rs, F := sem }
noncomputable def C : Code := bodyOf f118
noncomputable def fin : St → Option Out := outK ps rs [] (Func.results f118).toList (mvs [])
noncomputable def K0 : Ex → St → Option Out := endK fin
noncomputable def T0 (a1 : Arg) (v402 : (List Key) × Int) : St := { n := 23, sl := [(0, .val (.slc tKey) a1.1), (3, .own (.slc tKey) (ownMd (.slc tKey)) [] v402.1), (4, .val i64 v402.2)], vr := [], lent := [] }
noncomputable def N0 (k : Nat) : St → (Ex → St → Option Out) → Option Out := codeK E k fin (sub [1, 1, 0, 1, 0, 0] C)
noncomputable def M0 : St → St := keepF [0, 3, 4] []
noncomputable def S0 (rec : RT Out) (a1 : Arg) : ((List Key) × Int) → Option Out := fun v402 => rec (T0 a1 v402)
noncomputable def X0_0 (K : KT Out) (a1 : Arg) : (List Key) → Option Out := fun z => K (.exit 0) ({ n := 23, sl := [(3, .own (.slc tKey) (ownMd (.slc tKey)) [] z)], vr := [], lent := [] })
noncomputable def b0 (self : ((List Key) × Int) → Option Out) (e0 : (List Key) → Option Out) (a1 : Arg) (v402 : (List Key) × Int) : Option Out := bif decide (v402.2 < (a1.1.length : Int)) then (if 0 ≤ v402.2 then ((a1.1[v402.2.toNat]?).bind fun x603 => (laws_toKey.sem (x603, ())).bind fun r604 => if 0 ≤ v402.2 ∧ v402.2 < (v402.1.length : Int) then ((v402.1[v402.2.toNat]?).bind fun x605 => self (v402.1.set v402.2.toNat r604.1, w64 (v402.2 + (1 : Int)))) else none) else none) else e0 v402.1
noncomputable def B0 (k : Nat) (self : ((List Key) × Int) → Option Out) (e0 : (List Key) → Option Out) (a1 : Arg) (v402 : (List Key) × Int) : Option Out := b0 self e0 a1 v402
theorem B0_eq (k : Nat) (rec : RT Out) (K : KT Out) (a1 : Arg) (v402 : (List Key) × Int) : N0 k (T0 a1 v402) (loopC rec M0 K) = B0 k (S0 rec a1) (X0_0 K a1) a1 v402 := by kernel_rfl
noncomputable def l0 (k : Nat) (a1 : Arg) (e0 : (List Key) → Option Out) (v : (List Key) × Int) : Option Out := rawIter (fun self v => B0 k self e0 a1 v) k v
theorem l0_eq (k : Nat) (K : KT Out) (a1 : Arg) (v402 : (List Key) × Int) : iterK (N0 k) M0 K k (T0 a1 v402) = l0 k a1 (X0_0 K a1) v402 :=
  iter_raw _ _ K (fun v402 => (T0 a1 v402)) (fun self v => B0 k self (X0_0 K a1) a1 v) (fun rec v => B0_eq k rec K a1 v) k v402
noncomputable def q0 (a1 : Arg) (z606 : (List Key)) : Option Out := some (z606, ())
noncomputable def Q0 (k : Nat) (a1 : Arg) (z606 : (List Key)) : Option Out := q0 a1 z606
theorem Q0_eq (k : Nat) (a1 : Arg) (z606 : (List Key)) : X0_0 (blockC 0 (seqC (codeK E k fin (sub [1, 1, 1] C)) K0)) a1 z606 = Q0 k a1 z606 := by kernel_rfl
noncomputable def s0 (k : Nat) (a1 : Arg) : ((List Key) × Int) → Option Out := fun v402 => iterK (N0 k) M0 (blockC 0 (seqC (codeK E k fin (sub [1, 1, 1] C)) K0)) k (T0 a1 v402)
noncomputable def r0 (k : Nat) (a1 : Arg) : ((List Key) × Int) → Option Out := fun v402 => l0 k a1 (fun z => Q0 k a1 z) v402
theorem s0_eq (k : Nat) (a1 : Arg) : s0 k a1 = r0 k a1 := by
  funext v402;
  have h0 : X0_0 ((blockC 0 (seqC (codeK E k fin (sub [1, 1, 1] C)) K0))) a1 = fun z => Q0 k a1 z := funext fun z => Q0_eq k a1 z
  refine (l0_eq k ((blockC 0 (seqC (codeK E k fin (sub [1, 1, 1] C)) K0))) a1 v402).trans ?_
  rw [h0]
  rfl
noncomputable def p (l0 : ((List Key) × Int) → Option Out) (a1 : Arg) : Option Out := if 0 ≤ (a1.1.length : Int) ∧ (a1.1.length : Int) ≤ (a1.1.length : Int) ∧ (a1.1.length : Int) ≤ (CAP : Int) then (l0 (List.replicate (a1.1.length : Int).toNat ((0 : Int), (0 : Int), ()), (0 : Int))) else none
noncomputable def raw (k : Nat) (a1 : Arg) : Option Out := p (r0 k a1) a1
theorem p_eq (k : Nat) (a1 : Arg) : W k a1 = p (s0 k a1) a1 := by kernel_rfl
theorem raw_eq (k : Nat) (a1 : Arg) : W k a1 = raw k a1 := (p_eq k a1).trans (by rw [s0_eq]; rfl)
theorem ok : Ok prog 118 sig := fn_ok func118 (tl := tl) (gl := gl) (es := []) (fr := []) rfl rfl (by kernel_rfl) (fc laws_toKey.ok (fn_nil _)) (fun _ => rfl)
end laws_toKeyS
namespace laws_toTx
/-! loop example g00408 laws toTx -/
abbrev Arg : Type := Tx × Unit
abbrev Out : Type := Tx × Unit
noncomputable def ps : PQ := [(.ro, tTx)]
noncomputable def rs : RQ := [(tTx, (ownMd tTx))]
noncomputable def tl : TL := [(2, i64), (65, (.slc tChange)), (96, (.slc i64)), (97, (.slc tKey)), (99, tTx), (110, (.slc tChange)), (111, (.slc tKey)), (113, tTx)]
noncomputable def gl : GL := [(116, laws_toChangeS.sig), (117, laws_toInt64S.sig), (118, laws_toKeyS.sig)]
noncomputable def E : Env := { TI := lookN tl, G := lookN gl }
noncomputable def W (k : Nat) (a : Arg) : Option Out := bodyK E k f62 ps rs [] [] a
noncomputable def sem (a : Arg) : Option Out := lift fun k => W k a
noncomputable def sig : Sig := { ps := ps, rs := rs, F := sem }
noncomputable def p (a1 : Arg) : Option Out := (laws_toChangeS.sem (a1.1.2.1, ())).bind fun r2 => (laws_toInt64S.sem (a1.1.2.2.1, ())).bind fun r3 => (laws_toKeyS.sem (a1.1.2.2.2.1, ())).bind fun r4 => some ((a1.1.1, r2.1, r3.1, r4.1, ()), ())
noncomputable def raw (k : Nat) (a1 : Arg) : Option Out := p a1
theorem raw_eq (k : Nat) (a1 : Arg) : W k a1 = raw k a1 := by kernel_rfl
theorem ok : Ok prog 62 sig := fn_ok func62 (tl := tl) (gl := gl) (es := []) (fr := []) rfl rfl (by kernel_rfl) (fc laws_toChangeS.ok (fc laws_toInt64S.ok (fc laws_toKeyS.ok (fn_nil _)))) (fun _ => rfl)
end laws_toTx
namespace laws_toTxS
/-! loop example g00408 laws toTxS -/
abbrev Arg : Type := (List Tx) × Unit
abbrev Out : Type := (List Tx) × Unit
noncomputable def ps : PQ := [(.ro, (.slc tTx))]
noncomputable def rs : RQ := [((.slc tTx), (ownMd (.slc tTx)))]
noncomputable def tl : TL := [(23, (.slc tTx)), (29, (.slc tTx)), (99, tTx), (113, tTx)]
noncomputable def gl : GL := [(62, laws_toTx.sig)]
noncomputable def E : Env := { TI := lookN tl, G := lookN gl, lv := [(3, [0, 3, 4])], lx := [(0, [3])] }
noncomputable def W (k : Nat) (a : Arg) : Option Out := bodyK E k f24 ps rs [] [] a
noncomputable def sem (a : Arg) : Option Out := lift fun k => W k a
noncomputable def sig : Sig := { ps := ps, rs := rs, F := sem }
noncomputable def C : Code := bodyOf f24
noncomputable def fin : St → Option Out := outK ps rs [] (Func.results f24).toList (mvs [])
noncomputable def K0 : Ex → St → Option Out := endK fin
noncomputable def T0 (a1 : Arg) (v402 : (List Tx) × Int) : St := { n := 23, sl := [(0, .val (.slc tTx) a1.1), (3, .own (.slc tTx) (ownMd (.slc tTx)) [] v402.1), (4, .val i64 v402.2)], vr := [], lent := [] }
noncomputable def N0 (k : Nat) : St → (Ex → St → Option Out) → Option Out := codeK E k fin (sub [1, 1, 0, 1, 0, 0] C)
noncomputable def M0 : St → St := keepF [0, 3, 4] []
noncomputable def S0 (rec : RT Out) (a1 : Arg) : ((List Tx) × Int) → Option Out := fun v402 => rec (T0 a1 v402)
noncomputable def X0_0 (K : KT Out) (a1 : Arg) : (List Tx) → Option Out := fun z => K (.exit 0) ({ n := 23, sl := [(3, .own (.slc tTx) (ownMd (.slc tTx)) [] z)], vr := [], lent := [] })
noncomputable def b0 (self : ((List Tx) × Int) → Option Out) (e0 : (List Tx) → Option Out) (a1 : Arg) (v402 : (List Tx) × Int) : Option Out := bif decide (v402.2 < (a1.1.length : Int)) then (if 0 ≤ v402.2 then ((a1.1[v402.2.toNat]?).bind fun x603 => (laws_toTx.sem (x603, ())).bind fun r604 => if 0 ≤ v402.2 ∧ v402.2 < (v402.1.length : Int) then ((v402.1[v402.2.toNat]?).bind fun x605 => self (v402.1.set v402.2.toNat r604.1, w64 (v402.2 + (1 : Int)))) else none) else none) else e0 v402.1
noncomputable def B0 (k : Nat) (self : ((List Tx) × Int) → Option Out) (e0 : (List Tx) → Option Out) (a1 : Arg) (v402 : (List Tx) × Int) : Option Out := b0 self e0 a1 v402
theorem B0_eq (k : Nat) (rec : RT Out) (K : KT Out) (a1 : Arg) (v402 : (List Tx) × Int) : N0 k (T0 a1 v402) (loopC rec M0 K) = B0 k (S0 rec a1) (X0_0 K a1) a1 v402 := by kernel_rfl
noncomputable def l0 (k : Nat) (a1 : Arg) (e0 : (List Tx) → Option Out) (v : (List Tx) × Int) : Option Out := rawIter (fun self v => B0 k self e0 a1 v) k v
theorem l0_eq (k : Nat) (K : KT Out) (a1 : Arg) (v402 : (List Tx) × Int) : iterK (N0 k) M0 K k (T0 a1 v402) = l0 k a1 (X0_0 K a1) v402 :=
  iter_raw _ _ K (fun v402 => (T0 a1 v402)) (fun self v => B0 k self (X0_0 K a1) a1 v) (fun rec v => B0_eq k rec K a1 v) k v402
noncomputable def q0 (a1 : Arg) (z606 : (List Tx)) : Option Out := some (z606, ())
noncomputable def Q0 (k : Nat) (a1 : Arg) (z606 : (List Tx)) : Option Out := q0 a1 z606
theorem Q0_eq (k : Nat) (a1 : Arg) (z606 : (List Tx)) : X0_0 (blockC 0 (seqC (codeK E k fin (sub [1, 1, 1] C)) K0)) a1 z606 = Q0 k a1 z606 := by kernel_rfl
noncomputable def s0 (k : Nat) (a1 : Arg) : ((List Tx) × Int) → Option Out := fun v402 => iterK (N0 k) M0 (blockC 0 (seqC (codeK E k fin (sub [1, 1, 1] C)) K0)) k (T0 a1 v402)
noncomputable def r0 (k : Nat) (a1 : Arg) : ((List Tx) × Int) → Option Out := fun v402 => l0 k a1 (fun z => Q0 k a1 z) v402
theorem s0_eq (k : Nat) (a1 : Arg) : s0 k a1 = r0 k a1 := by
  funext v402;
  have h0 : X0_0 ((blockC 0 (seqC (codeK E k fin (sub [1, 1, 1] C)) K0))) a1 = fun z => Q0 k a1 z := funext fun z => Q0_eq k a1 z
  refine (l0_eq k ((blockC 0 (seqC (codeK E k fin (sub [1, 1, 1] C)) K0))) a1 v402).trans ?_
  rw [h0]
  rfl
noncomputable def p (l0 : ((List Tx) × Int) → Option Out) (a1 : Arg) : Option Out := if 0 ≤ (a1.1.length : Int) ∧ (a1.1.length : Int) ≤ (a1.1.length : Int) ∧ (a1.1.length : Int) ≤ (CAP : Int) then (l0 (List.replicate (a1.1.length : Int).toNat ((0 : Int), ([] : List Change), ([] : List Int), ([] : List Key), ()), (0 : Int))) else none
noncomputable def raw (k : Nat) (a1 : Arg) : Option Out := p (r0 k a1) a1
theorem p_eq (k : Nat) (a1 : Arg) : W k a1 = p (s0 k a1) a1 := by kernel_rfl
theorem raw_eq (k : Nat) (a1 : Arg) : W k a1 = raw k a1 := (p_eq k a1).trans (by rw [s0_eq]; rfl)
theorem ok : Ok prog 24 sig := fn_ok func24 (tl := tl) (gl := gl) (es := []) (fr := []) rfl rfl (by kernel_rfl) (fc laws_toTx.ok (fn_nil _)) (fun _ => rfl)
end laws_toTxS
namespace impl_in
/-! loop example g00408 impl in -/
abbrev Arg : Type := Int × Int × Int × Unit
abbrev Out : Type := Bool × Unit
noncomputable def ps : PQ := [(.ro, i64), (.ro, i64), (.ro, i64)]
noncomputable def rs : RQ := [(.bool, (roMd .bool))]
noncomputable def tl : TL := []
noncomputable def gl : GL := []
noncomputable def E : Env := { TI := lookN tl, G := lookN gl }
noncomputable def W (k : Nat) (a : Arg) : Option Out := bodyK E k f47 ps rs [] [] a
noncomputable def sem (a : Arg) : Option Out := lift fun k => W k a
noncomputable def sig : Sig := { ps := ps, rs := rs, F := sem }
noncomputable def p (a1 : Arg) : Option Out := bif decide (a1.2.1 ≤ a1.1) then (some (decide (a1.1 ≤ a1.2.2.1), ())) else some (false, ())
noncomputable def raw (k : Nat) (a1 : Arg) : Option Out := p a1
theorem raw_eq (k : Nat) (a1 : Arg) : W k a1 = raw k a1 := by kernel_rfl
theorem ok : Ok prog 47 sig := fn_ok func47 (tl := tl) (gl := gl) (es := []) (fr := []) rfl rfl (by kernel_rfl) (fn_nil _) (fun _ => rfl)
end impl_in
namespace impl_RowFault
/-! loop example g00408 impl RowFault -/
abbrev Arg : Type := Row × Unit
abbrev Out : Type := Int × Unit
noncomputable def ps : PQ := [(.ro, tRow)]
noncomputable def rs : RQ := [(i64, (roMd i64))]
noncomputable def tl : TL := [(2, i64), (9, .str), (48, tRow)]
noncomputable def gl : GL := [(47, impl_in.sig)]
noncomputable def E : Env := { TI := lookN tl, G := lookN gl, lv := [(6, [1, 26, 27])], lx := [(0, [])] }
noncomputable def W (k : Nat) (a : Arg) : Option Out := bodyK E k f90 ps rs [] [] a
noncomputable def sem (a : Arg) : Option Out := lift fun k => W k a
noncomputable def sig : Sig := { ps := ps, rs := rs, F := sem }
noncomputable def C : Code := bodyOf f90
noncomputable def fin : St → Option Out := outK ps rs [] (Func.results f90).toList (mvs [])
noncomputable def K0 : Ex → St → Option Out := endK fin
noncomputable def T0 (a1 : Arg) (v405 : Int) : St := { n := 43, sl := [(1, .box tRow (roMd tRow) [] a1.1), (26, .val i64 (a1.1.2.2.2.1.length : Int)), (27, .val i64 v405)], vr := [], lent := [] }
noncomputable def N0 (k : Nat) : St → (Ex → St → Option Out) → Option Out := codeK E k fin (sub [1, 1, 1, 0, 1, 0, 0] C)
noncomputable def M0 : St → St := keepF [1, 26, 27] []
noncomputable def S0 (rec : RT Out) (a1 : Arg) : (Int) → Option Out := fun v405 => rec (T0 a1 v405)
noncomputable def X0_0 (K : KT Out) (a1 : Arg) : (Unit) → Option Out := fun z => K (.exit 0) ({ n := 43, sl := [], vr := [], lent := [] })
noncomputable def b0 (self : Int → Option Out) (e0 : (Unit) → Option Out) (a1 : Arg) (v405 : Int) : Option Out := bif decide (v405 < (a1.1.2.2.2.1.length : Int)) then (if 0 ≤ v405 then ((a1.1.2.2.2.1[v405.toNat]?).bind fun x606 => bif decide ((x606.toNat : Int) < (97 : Int)) then (some ((5 : Int), ())) else if 0 ≤ v405 then ((a1.1.2.2.2.1[v405.toNat]?).bind fun x607 => bif decide ((122 : Int) < (x607.toNat : Int)) then (some ((5 : Int), ())) else self (w64 (v405 + (1 : Int)))) else none) else none) else e0 ()
noncomputable def B0 (k : Nat) (self : Int → Option Out) (e0 : (Unit) → Option Out) (a1 : Arg) (v405 : Int) : Option Out := b0 self e0 a1 v405
theorem B0_eq (k : Nat) (rec : RT Out) (K : KT Out) (a1 : Arg) (v405 : Int) : N0 k (T0 a1 v405) (loopC rec M0 K) = B0 k (S0 rec a1) (X0_0 K a1) a1 v405 := by kernel_rfl
noncomputable def l0 (k : Nat) (a1 : Arg) (e0 : (Unit) → Option Out) (v : Int) : Option Out := rawIter (fun self v => B0 k self e0 a1 v) k v
theorem l0_eq (k : Nat) (K : KT Out) (a1 : Arg) (v405 : Int) : iterK (N0 k) M0 K k (T0 a1 v405) = l0 k a1 (X0_0 K a1) v405 :=
  iter_raw _ _ K (fun v405 => (T0 a1 v405)) (fun self v => B0 k self (X0_0 K a1) a1 v) (fun rec v => B0_eq k rec K a1 v) k v405
noncomputable def q0 (a1 : Arg) (z608 : (Unit)) : Option Out := some ((0 : Int), ())
noncomputable def Q0 (k : Nat) (a1 : Arg) (z608 : (Unit)) : Option Out := q0 a1 z608
theorem Q0_eq (k : Nat) (a1 : Arg) (z608 : (Unit)) : X0_0 (blockC 0 (seqC (codeK E k fin (sub [1, 1, 1, 1] C)) K0)) a1 z608 = Q0 k a1 z608 := by kernel_rfl
noncomputable def s0 (k : Nat) (a1 : Arg) : (Int) → Option Out := fun v405 => iterK (N0 k) M0 (blockC 0 (seqC (codeK E k fin (sub [1, 1, 1, 1] C)) K0)) k (T0 a1 v405)
noncomputable def r0 (k : Nat) (a1 : Arg) : (Int) → Option Out := fun v405 => l0 k a1 (fun z => Q0 k a1 z) v405
theorem s0_eq (k : Nat) (a1 : Arg) : s0 k a1 = r0 k a1 := by
  funext v405;
  have h0 : X0_0 ((blockC 0 (seqC (codeK E k fin (sub [1, 1, 1, 1] C)) K0))) a1 = fun z => Q0 k a1 z := funext fun z => Q0_eq k a1 z
  refine (l0_eq k ((blockC 0 (seqC (codeK E k fin (sub [1, 1, 1, 1] C)) K0))) a1 v405).trans ?_
  rw [h0]
  rfl
noncomputable def p (l0 : (Int) → Option Out) (a1 : Arg) : Option Out := (impl_in.sem (a1.1.1, (0 : Int), (3 : Int), ())).bind fun r2 => bif !r2.1 then (some ((3 : Int), ())) else (impl_in.sem (a1.1.2.1, (1 : Int), (99 : Int), ())).bind fun r3 => bif !r3.1 then (some ((3 : Int), ())) else (impl_in.sem (a1.1.2.2.1, (0 : Int), (999 : Int), ())).bind fun r4 => bif !r4.1 then (some ((3 : Int), ())) else bif decide ((8 : Int) < (a1.1.2.2.2.1.length : Int)) then (some ((5 : Int), ())) else l0 (0 : Int)
noncomputable def raw (k : Nat) (a1 : Arg) : Option Out := p (r0 k a1) a1
theorem p_eq (k : Nat) (a1 : Arg) : W k a1 = p (s0 k a1) a1 := by kernel_rfl
theorem raw_eq (k : Nat) (a1 : Arg) : W k a1 = raw k a1 := (p_eq k a1).trans (by rw [s0_eq]; rfl)
theorem ok : Ok prog 90 sig := fn_ok func90 (tl := tl) (gl := gl) (es := []) (fr := []) rfl rfl (by kernel_rfl) (fc impl_in.ok (fn_nil _)) (fun _ => rfl)
end impl_RowFault
namespace impl_IsBefore
/-! loop example g00408 impl IsBefore -/
abbrev Arg : Type := Row × Row × Unit
abbrev Out : Type := Bool × Unit
noncomputable def ps : PQ := [(.ro, tRow), (.ro, tRow)]
noncomputable def rs : RQ := [(.bool, (roMd .bool))]
noncomputable def tl : TL := [(2, i64), (48, tRow)]
noncomputable def gl : GL := []
noncomputable def E : Env := { TI := lookN tl, G := lookN gl }
noncomputable def W (k : Nat) (a : Arg) : Option Out := bodyK E k f91 ps rs [] [] a
noncomputable def sem (a : Arg) : Option Out := lift fun k => W k a
noncomputable def sig : Sig := { ps := ps, rs := rs, F := sem }
noncomputable def p (a1 : Arg) : Option Out := bif decide (a1.1.1 < a1.2.1.1) then (some (true, ())) else bif decide (a1.1.1 = a1.2.1.1) then (some (decide (a1.1.2.1 < a1.2.1.2.1), ())) else some (false, ())
noncomputable def raw (k : Nat) (a1 : Arg) : Option Out := p a1
theorem raw_eq (k : Nat) (a1 : Arg) : W k a1 = raw k a1 := by kernel_rfl
theorem ok : Ok prog 91 sig := fn_ok func91 (tl := tl) (gl := gl) (es := []) (fr := []) rfl rfl (by kernel_rfl) (fn_nil _) (fun _ => rfl)
end impl_IsBefore
namespace impl_RowsFault
/-! loop example g00408 impl RowsFault -/
abbrev Arg : Type := (List Row) × Unit
abbrev Out : Type := Int × Unit
noncomputable def ps : PQ := [(.ro, (.slc tRow))]
noncomputable def rs : RQ := [(i64, (roMd i64))]
noncomputable def tl : TL := [(28, (.slc tRow)), (48, tRow)]
noncomputable def gl : GL := [(90, impl_RowFault.sig), (91, impl_IsBefore.sig)]
noncomputable def E : Env := { TI := lookN tl, G := lookN gl, lv := [(4, [0, 9, 10, 11])], lx := [(0, [])], od := [(9, [0, 1, 2, 3, 4, 5, 6, 7, 8, 9, 10, 11])] }
noncomputable def W (k : Nat) (a : Arg) : Option Out := bodyK E k f45 ps rs [] [] a
noncomputable def sem (a : Arg) : Option Out := lift fun k => W k a
noncomputable def sig : Sig := { ps := ps, rs := rs, F := sem }
noncomputable def C : Code := bodyOf f45
noncomputable def fin : St → Option Out := outK ps rs [] (Func.results f45).toList (mvs [])
noncomputable def K0 : Ex → St → Option Out := endK fin
noncomputable def T0 (a1 : Arg) (v402 : Int) : St := { n := 34, sl := [(0, .val (.slc tRow) a1.1), (9, .val (.slc tRow) a1.1), (10, .val i64 (a1.1.length : Int)), (11, .val i64 v402)], vr := [], lent := [] }
noncomputable def N0 (k : Nat) : St → (Ex → St → Option Out) → Option Out := codeK E k fin (sub [1, 1, 0, 1, 0, 0] C)
noncomputable def M0 : St → St := keepF [0, 9, 10, 11] []
noncomputable def S0 (rec : RT Out) (a1 : Arg) : (Int) → Option Out := fun v402 => rec (T0 a1 v402)
noncomputable def X0_0 (K : KT Out) (a1 : Arg) : (Unit) → Option Out := fun z => K (.exit 0) ({ n := 34, sl := [], vr := [], lent := [] })
noncomputable def b0 (self : Int → Option Out) (e0 : (Unit) → Option Out) (a1 : Arg) (v402 : Int) : Option Out := bif decide (v402 < (a1.1.length : Int)) then (if 0 ≤ v402 then ((a1.1[v402.toNat]?).bind fun x603 => (impl_RowFault.sem (x603, ())).bind fun r604 => bif !decide (r604.1 = (0 : Int)) then (some (r604.1, ())) else bif decide ((0 : Int) < v402) then (if 0 ≤ w64 (v402 - (1 : Int)) then ((a1.1[(w64 (v402 - (1 : Int))).toNat]?).bind fun x605 => (impl_IsBefore.sem (x605, x603, ())).bind fun r606 => bif !r606.1 then (some ((1 : Int), ())) else self (w64 (v402 + (1 : Int)))) else none) else self (w64 (v402 + (1 : Int)))) else none) else e0 ()
noncomputable def B0 (k : Nat) (self : Int → Option Out) (e0 : (Unit) → Option Out) (a1 : Arg) (v402 : Int) : Option Out := b0 self e0 a1 v402
theorem B0_eq (k : Nat) (rec : RT Out) (K : KT Out) (a1 : Arg) (v402 : Int) : N0 k (T0 a1 v402) (loopC rec M0 K) = B0 k (S0 rec a1) (X0_0 K a1) a1 v402 := by kernel_rfl
noncomputable def l0 (k : Nat) (a1 : Arg) (e0 : (Unit) → Option Out) (v : Int) : Option Out := rawIter (fun self v => B0 k self e0 a1 v) k v
theorem l0_eq (k : Nat) (K : KT Out) (a1 : Arg) (v402 : Int) : iterK (N0 k) M0 K k (T0 a1 v402) = l0 k a1 (X0_0 K a1) v402 :=
  iter_raw _ _ K (fun v402 => (T0 a1 v402)) (fun self v => B0 k self (X0_0 K a1) a1 v) (fun rec v => B0_eq k rec K a1 v) k v402
noncomputable def q0 (a1 : Arg) (z607 : (Unit)) : Option Out := some ((0 : Int), ())
noncomputable def Q0 (k : Nat) (a1 : Arg) (z607 : (Unit)) : Option Out := q0 a1 z607
theorem Q0_eq (k : Nat) (a1 : Arg) (z607 : (Unit)) : X0_0 (blockC 0 (seqC (codeK E k fin (sub [1, 1, 1] C)) K0)) a1 z607 = Q0 k a1 z607 := by kernel_rfl
noncomputable def s0 (k : Nat) (a1 : Arg) : (Int) → Option Out := fun v402 => iterK (N0 k) M0 (blockC 0 (seqC (codeK E k fin (sub [1, 1, 1] C)) K0)) k (T0 a1 v402)
noncomputable def r0 (k : Nat) (a1 : Arg) : (Int) → Option Out := fun v402 => l0 k a1 (fun z => Q0 k a1 z) v402
theorem s0_eq (k : Nat) (a1 : Arg) : s0 k a1 = r0 k a1 := by
  funext v402;
  have h0 : X0_0 ((blockC 0 (seqC (codeK E k fin (sub [1, 1, 1] C)) K0))) a1 = fun z => Q0 k a1 z := funext fun z => Q0_eq k a1 z
  refine (l0_eq k ((blockC 0 (seqC (codeK E k fin (sub [1, 1, 1] C)) K0))) a1 v402).trans ?_
  rw [h0]
  rfl
noncomputable def p (l0 : (Int) → Option Out) (a1 : Arg) : Option Out := bif decide ((60 : Int) < (a1.1.length : Int)) then (some ((2 : Int), ())) else l0 (0 : Int)
noncomputable def raw (k : Nat) (a1 : Arg) : Option Out := p (r0 k a1) a1
theorem p_eq (k : Nat) (a1 : Arg) : W k a1 = p (s0 k a1) a1 := by kernel_rfl
theorem raw_eq (k : Nat) (a1 : Arg) : W k a1 = raw k a1 := (p_eq k a1).trans (by rw [s0_eq]; rfl)
theorem ok : Ok prog 45 sig := fn_ok func45 (tl := tl) (gl := gl) (es := []) (fr := []) rfl rfl (by kernel_rfl) (fc impl_RowFault.ok (fc impl_IsBefore.ok (fn_nil _))) (fun _ => rfl)
end impl_RowsFault
namespace impl_isTx
/-! loop example g00408 impl isTx -/
abbrev Arg : Type := Int × Unit
abbrev Out : Type := Bool × Unit
noncomputable def ps : PQ := [(.ro, i64)]
noncomputable def rs : RQ := [(.bool, (roMd .bool))]
noncomputable def tl : TL := []
noncomputable def gl : GL := [(47, impl_in.sig)]
noncomputable def E : Env := { TI := lookN tl, G := lookN gl }
noncomputable def W (k : Nat) (a : Arg) : Option Out := bodyK E k f92 ps rs [] [] a
noncomputable def sem (a : Arg) : Option Out := lift fun k => W k a
noncomputable def sig : Sig := { ps := ps, rs := rs, F := sem }
noncomputable def p (a1 : Arg) : Option Out := (impl_in.sem (a1.1, (1 : Int), (99 : Int), ())).bind fun r2 => some (r2.1, ())
noncomputable def raw (k : Nat) (a1 : Arg) : Option Out := p a1
theorem raw_eq (k : Nat) (a1 : Arg) : W k a1 = raw k a1 := by kernel_rfl
theorem ok : Ok prog 92 sig := fn_ok func92 (tl := tl) (gl := gl) (es := []) (fr := []) rfl rfl (by kernel_rfl) (fc impl_in.ok (fn_nil _)) (fun _ => rfl)
end impl_isTx
namespace impl_order
/-! loop example g00408 impl order -/
abbrev Arg : Type := Row × Row × Unit
abbrev Out : Type := Int × Unit
noncomputable def ps : PQ := [(.ro, tRow), (.ro, tRow)]
noncomputable def rs : RQ := [(i64, (roMd i64))]
noncomputable def tl : TL := [(48, tRow)]
noncomputable def gl : GL := [(91, impl_IsBefore.sig)]
noncomputable def E : Env := { TI := lookN tl, G := lookN gl }
noncomputable def W (k : Nat) (a : Arg) : Option Out := bodyK E k f123 ps rs [] [] a
noncomputable def sem (a : Arg) : Option Out := lift fun k => W k a
noncomputable def sig : Sig := { ps := ps, rs := rs, F := sem }
noncomputable def p (a1 : Arg) : Option Out := (impl_IsBefore.sem (a1.1, a1.2.1, ())).bind fun r2 => bif r2.1 then (some ((-1 : Int), ())) else (impl_IsBefore.sem (a1.2.1, a1.1, ())).bind fun r3 => bif r3.1 then (some ((1 : Int), ())) else some ((0 : Int), ())
noncomputable def raw (k : Nat) (a1 : Arg) : Option Out := p a1
theorem raw_eq (k : Nat) (a1 : Arg) : W k a1 = raw k a1 := by kernel_rfl
theorem ok : Ok prog 123 sig := fn_ok func123 (tl := tl) (gl := gl) (es := []) (fr := []) rfl rfl (by kernel_rfl) (fc impl_IsBefore.ok (fn_nil _)) (fun _ => rfl)
end impl_order
namespace impl_changeFault
/-! loop example g00408 impl changeFault -/
abbrev Arg : Type := Change × Unit
abbrev Out : Type := Int × Unit
noncomputable def ps : PQ := [(.ro, tChange)]
noncomputable def rs : RQ := [(i64, (roMd i64))]
noncomputable def tl : TL := [(4, .bool), (48, tRow), (50, tChange)]
noncomputable def gl : GL := [(90, impl_RowFault.sig), (123, impl_order.sig)]
noncomputable def E : Env := { TI := lookN tl, G := lookN gl }
noncomputable def W (k : Nat) (a : Arg) : Option Out := bodyK E k f147 ps rs [] [] a
noncomputable def sem (a : Arg) : Option Out := lift fun k => W k a
noncomputable def sig : Sig := { ps := ps, rs := rs, F := sem }
noncomputable def p (a1 : Arg) : Option Out := let j7 : Option Out := bif a1.1.1 then ((impl_RowFault.sem (a1.1.2.1, ())).bind fun r8 => bif !decide (r8.1 = (0 : Int)) then (some (r8.1, ())) else bif a1.1.2.2.1 then ((impl_RowFault.sem (a1.1.2.2.2.1, ())).bind fun r10 => some (r10.1, ())) else some ((0 : Int), ())) else bif a1.1.2.2.1 then ((impl_RowFault.sem (a1.1.2.2.2.1, ())).bind fun r11 => some (r11.1, ())) else some ((0 : Int), ()); bif !a1.1.1 then (bif !a1.1.2.2.1 then (some ((1 : Int), ())) else bif a1.1.1 then (bif a1.1.2.2.1 then ((impl_order.sem (a1.1.2.1, a1.1.2.2.2.1, ())).bind fun r2 => bif !decide (r2.1 = (0 : Int)) then (some ((1 : Int), ())) else j7) else j7) else j7) else bif a1.1.1 then (bif a1.1.2.2.1 then ((impl_order.sem (a1.1.2.1, a1.1.2.2.2.1, ())).bind fun r3 => bif !decide (r3.1 = (0 : Int)) then (some ((1 : Int), ())) else j7) else j7) else j7
noncomputable def raw (k : Nat) (a1 : Arg) : Option Out := p a1
theorem raw_eq (k : Nat) (a1 : Arg) : W k a1 = raw k a1 := by kernel_rfl
theorem ok : Ok prog 147 sig := fn_ok func147 (tl := tl) (gl := gl) (es := []) (fr := []) rfl rfl (by kernel_rfl) (fc impl_RowFault.ok (fc impl_order.ok (fn_nil _))) (fun _ => rfl)
end impl_changeFault
namespace impl_singleFault
/-! loop example g00408 impl singleFault -/
abbrev Arg : Type := Change × Unit
abbrev Out : Type := Int × Unit
noncomputable def ps : PQ := [(.ro, tChange)]
noncomputable def rs : RQ := [(i64, (roMd i64))]
noncomputable def tl : TL := [(4, .bool), (48, tRow), (50, tChange)]
noncomputable def gl : GL := [(147, impl_changeFault.sig)]
noncomputable def E : Env := { TI := lookN tl, G := lookN gl }
noncomputable def W (k : Nat) (a : Arg) : Option Out := bodyK E k f143 ps rs [] [] a
noncomputable def sem (a : Arg) : Option Out := lift fun k => W k a
noncomputable def sig : Sig := { ps := ps, rs := rs, F := sem }
noncomputable def p (a1 : Arg) : Option Out := (impl_changeFault.sem (a1.1, ())).bind fun r2 => bif !decide (r2.1 = (0 : Int)) then (some (r2.1, ())) else bif a1.1.1 then (bif a1.1.2.2.1 then (bif (Ty.eq tRow a1.1.2.1 a1.1.2.2.2.1) then (some ((1 : Int), ())) else some ((0 : Int), ())) else some ((0 : Int), ())) else some ((0 : Int), ())
noncomputable def raw (k : Nat) (a1 : Arg) : Option Out := p a1
theorem raw_eq (k : Nat) (a1 : Arg) : W k a1 = raw k a1 := by kernel_rfl
theorem ok : Ok prog 143 sig := fn_ok func143 (tl := tl) (gl := gl) (es := []) (fr := []) rfl rfl (by kernel_rfl) (fc impl_changeFault.ok (fn_nil _)) (fun _ => rfl)
end impl_singleFault
namespace slices_Index_Key
/-! slices Index   loop example g00408 impl Key loop example g00408 impl Key  -/
abbrev Arg : Type := (List Key) × Key × Unit
abbrev Out : Type := Int × Unit
noncomputable def ps : PQ := [(.ro, (.slc tKey)), (.ro, tKey)]
noncomputable def rs : RQ := [(i64, (roMd i64))]
noncomputable def tl : TL := [(97, (.slc tKey)), (146, tKey)]
noncomputable def gl : GL := []
noncomputable def E : Env := { TI := lookN tl, G := lookN gl, lv := [(2, [0, 3, 7, 8])], lx := [(0, [])], od := [(4, [0, 1, 2, 3, 4, 5])] }
noncomputable def W (k : Nat) (a : Arg) : Option Out := bodyK E k f189 ps rs [] [] a
noncomputable def sem (a : Arg) : Option Out := lift fun k => W k a
noncomputable def sig : Sig := { ps := ps, rs := rs, F := sem }
noncomputable def C : Code := bodyOf f189
noncomputable def fin : St → Option Out := outK ps rs [] (Func.results f189).toList (mvs [])
noncomputable def K0 : Ex → St → Option Out := endK fin
noncomputable def T0 (a1 : Arg) (v402 : Int) : St := { n := 19, sl := [(0, .val (.slc tKey) a1.1), (3, .box tKey (roMd tKey) [] a1.2.1), (7, .val i64 (a1.1.length : Int)), (8, .val i64 v402)], vr := [], lent := [] }
noncomputable def N0 (k : Nat) : St → (Ex → St → Option Out) → Option Out := codeK E k fin (sub [1, 0, 1, 0, 0] C)
noncomputable def M0 : St → St := keepF [0, 3, 7, 8] []
noncomputable def S0 (rec : RT Out) (a1 : Arg) : (Int) → Option Out := fun v402 => rec (T0 a1 v402)
noncomputable def X0_0 (K : KT Out) (a1 : Arg) : (Unit) → Option Out := fun z => K (.exit 0) ({ n := 19, sl := [], vr := [], lent := [] })
noncomputable def b0 (self : Int → Option Out) (e0 : (Unit) → Option Out) (a1 : Arg) (v402 : Int) : Option Out := bif decide (v402 < (a1.1.length : Int)) then (if 0 ≤ v402 then ((a1.1[v402.toNat]?).bind fun x603 => bif (Ty.eq tKey a1.2.1 x603) then (some (v402, ())) else self (w64 (v402 + (1 : Int)))) else none) else e0 ()
noncomputable def B0 (k : Nat) (self : Int → Option Out) (e0 : (Unit) → Option Out) (a1 : Arg) (v402 : Int) : Option Out := b0 self e0 a1 v402
theorem B0_eq (k : Nat) (rec : RT Out) (K : KT Out) (a1 : Arg) (v402 : Int) : N0 k (T0 a1 v402) (loopC rec M0 K) = B0 k (S0 rec a1) (X0_0 K a1) a1 v402 := by kernel_rfl
noncomputable def l0 (k : Nat) (a1 : Arg) (e0 : (Unit) → Option Out) (v : Int) : Option Out := rawIter (fun self v => B0 k self e0 a1 v) k v
theorem l0_eq (k : Nat) (K : KT Out) (a1 : Arg) (v402 : Int) : iterK (N0 k) M0 K k (T0 a1 v402) = l0 k a1 (X0_0 K a1) v402 :=
  iter_raw _ _ K (fun v402 => (T0 a1 v402)) (fun self v => B0 k self (X0_0 K a1) a1 v) (fun rec v => B0_eq k rec K a1 v) k v402
noncomputable def q0 (a1 : Arg) (z604 : (Unit)) : Option Out := some ((-1 : Int), ())
noncomputable def Q0 (k : Nat) (a1 : Arg) (z604 : (Unit)) : Option Out := q0 a1 z604
theorem Q0_eq (k : Nat) (a1 : Arg) (z604 : (Unit)) : X0_0 (blockC 0 (seqC (codeK E k fin (sub [1, 1] C)) K0)) a1 z604 = Q0 k a1 z604 := by kernel_rfl
noncomputable def s0 (k : Nat) (a1 : Arg) : (Int) → Option Out := fun v402 => iterK (N0 k) M0 (blockC 0 (seqC (codeK E k fin (sub [1, 1] C)) K0)) k (T0 a1 v402)
noncomputable def r0 (k : Nat) (a1 : Arg) : (Int) → Option Out := fun v402 => l0 k a1 (fun z => Q0 k a1 z) v402
theorem s0_eq (k : Nat) (a1 : Arg) : s0 k a1 = r0 k a1 := by
  funext v402;
  have h0 : X0_0 ((blockC 0 (seqC (codeK E k fin (sub [1, 1] C)) K0))) a1 = fun z => Q0 k a1 z := funext fun z => Q0_eq k a1 z
  refine (l0_eq k ((blockC 0 (seqC (codeK E k fin (sub [1, 1] C)) K0))) a1 v402).trans ?_
  rw [h0]
  rfl
noncomputable def p (l0 : (Int) → Option Out) (a1 : Arg) : Option Out := l0 (0 : Int)
noncomputable def raw (k : Nat) (a1 : Arg) : Option Out := p (r0 k a1) a1
theorem p_eq (k : Nat) (a1 : Arg) : W k a1 = p (s0 k a1) a1 := by kernel_rfl
theorem raw_eq (k : Nat) (a1 : Arg) : W k a1 = raw k a1 := (p_eq k a1).trans (by rw [s0_eq]; rfl)
theorem ok : Ok prog 189 sig := fn_ok func189 (tl := tl) (gl := gl) (es := []) (fr := []) rfl rfl (by kernel_rfl) (fn_nil _) (fun _ => rfl)
end slices_Index_Key
namespace slices_Contains_Key
/-! slices Contains   loop example g00408 impl Key loop example g00408 impl Key  -/
abbrev Arg : Type := (List Key) × Key × Unit
abbrev Out : Type := Bool × Unit
noncomputable def ps : PQ := [(.ro, (.slc tKey)), (.ro, tKey)]
noncomputable def rs : RQ := [(.bool, (roMd .bool))]
noncomputable def tl : TL := [(146, tKey)]
noncomputable def gl : GL := [(189, slices_Index_Key.sig)]
noncomputable def E : Env := { TI := lookN tl, G := lookN gl }
noncomputable def W (k : Nat) (a : Arg) : Option Out := bodyK E k f144 ps rs [] [] a
noncomputable def sem (a : Arg) : Option Out := lift fun k => W k a
noncomputable def sig : Sig := { ps := ps, rs := rs, F := sem }
noncomputable def p (a1 : Arg) : Option Out := (slices_Index_Key.sem (a1.1, a1.2.1, ())).bind fun r2 => some (decide ((0 : Int) ≤ r2.1), ())
noncomputable def raw (k : Nat) (a1 : Arg) : Option Out := p a1
theorem raw_eq (k : Nat) (a1 : Arg) : W k a1 = raw k a1 := by kernel_rfl
theorem ok : Ok prog 144 sig := fn_ok func144 (tl := tl) (gl := gl) (es := []) (fr := []) rfl rfl (by kernel_rfl) (fc slices_Index_Key.ok (fn_nil _)) (fun _ => rfl)
end slices_Contains_Key
namespace impl_Change_key
/-!  loop example g00408 impl Change  key -/
abbrev Arg : Type := Change × Unit
abbrev Out : Type := Row × Unit
noncomputable def ps : PQ := [(.ro, tChange)]
noncomputable def rs : RQ := [(tRow, (roMd tRow))]
noncomputable def tl : TL := [(4, .bool), (48, tRow), (50, tChange)]
noncomputable def gl : GL := []
noncomputable def E : Env := { TI := lookN tl, G := lookN gl }
noncomputable def W (k : Nat) (a : Arg) : Option Out := bodyK E k f164 ps rs [] [] a
noncomputable def sem (a : Arg) : Option Out := lift fun k => W k a
noncomputable def sig : Sig := { ps := ps, rs := rs, F := sem }
noncomputable def p (a1 : Arg) : Option Out := bif a1.1.2.2.1 then (some (a1.1.2.2.2.1, ())) else some (a1.1.2.1, ())
noncomputable def raw (k : Nat) (a1 : Arg) : Option Out := p a1
theorem raw_eq (k : Nat) (a1 : Arg) : W k a1 = raw k a1 := by kernel_rfl
theorem ok : Ok prog 164 sig := fn_ok func164 (tl := tl) (gl := gl) (es := []) (fr := []) rfl rfl (by kernel_rfl) (fn_nil _) (fun _ => rfl)
end impl_Change_key
namespace impl_Change_lock
/-!  loop example g00408 impl Change  lock -/
abbrev Arg : Type := Change × Unit
abbrev Out : Type := Key × Unit
noncomputable def ps : PQ := [(.ro, tChange)]
noncomputable def rs : RQ := [(tKey, (roMd tKey))]
noncomputable def tl : TL := [(48, tRow), (50, tChange), (146, tKey)]
noncomputable def gl : GL := [(164, impl_Change_key.sig)]
noncomputable def E : Env := { TI := lookN tl, G := lookN gl, od := [(1, [0, 3, 1, 2, 4, 5, 6, 7])] }
noncomputable def W (k : Nat) (a : Arg) : Option Out := bodyK E k f145 ps rs [] [] a
noncomputable def sem (a : Arg) : Option Out := lift fun k => W k a
noncomputable def sig : Sig := { ps := ps, rs := rs, F := sem }
noncomputable def p (a1 : Arg) : Option Out := (impl_Change_key.sem (a1.1, ())).bind fun r2 => (impl_Change_key.sem (a1.1, ())).bind fun r3 => some ((r2.1.1, r3.1.2.1, ()), ())
noncomputable def raw (k : Nat) (a1 : Arg) : Option Out := p a1
theorem raw_eq (k : Nat) (a1 : Arg) : W k a1 = raw k a1 := by kernel_rfl
theorem ok : Ok prog 145 sig := fn_ok func145 (tl := tl) (gl := gl) (es := []) (fr := []) rfl rfl (by kernel_rfl) (fc impl_Change_key.ok (fn_nil _)) (fun _ => rfl)
end impl_Change_lock
namespace impl_isKey
/-! loop example g00408 impl isKey -/
abbrev Arg : Type := Int × Int × Unit
abbrev Out : Type := Bool × Unit
noncomputable def ps : PQ := [(.ro, i64), (.ro, i64)]
noncomputable def rs : RQ := [(.bool, (roMd .bool))]
noncomputable def tl : TL := []
noncomputable def gl : GL := [(47, impl_in.sig)]
noncomputable def E : Env := { TI := lookN tl, G := lookN gl }
noncomputable def W (k : Nat) (a : Arg) : Option Out := bodyK E k f146 ps rs [] [] a
noncomputable def sem (a : Arg) : Option Out := lift fun k => W k a
noncomputable def sig : Sig := { ps := ps, rs := rs, F := sem }
noncomputable def p (a1 : Arg) : Option Out := (impl_in.sem (a1.1, (0 : Int), (3 : Int), ())).bind fun r2 => bif r2.1 then ((impl_in.sem (a1.2.1, (1 : Int), (99 : Int), ())).bind fun r3 => some (r3.1, ())) else some (false, ())
noncomputable def raw (k : Nat) (a1 : Arg) : Option Out := p a1
theorem raw_eq (k : Nat) (a1 : Arg) : W k a1 = raw k a1 := by kernel_rfl
theorem ok : Ok prog 146 sig := fn_ok func146 (tl := tl) (gl := gl) (es := []) (fr := []) rfl rfl (by kernel_rfl) (fc impl_in.ok (fn_nil _)) (fun _ => rfl)
end impl_isKey
end OT
