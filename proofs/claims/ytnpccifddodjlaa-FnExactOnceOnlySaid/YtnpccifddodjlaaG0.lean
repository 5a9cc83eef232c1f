/- Printed by gen.py, a program of this claim: what each Go function computes. -/
import Derived.Test.YtnpccifddodjlaaOUk
import Derived.Test.YtnpccifddodjlaaProg
import Derived.KernelRfl
set_option maxRecDepth 100000
set_option linter.unusedVariables false
namespace OT
open Go
abbrev Row : Type := (Int × Int × Int × (List UInt8) × Unit)
abbrev tRow : Ty := (tupT [i64, i64, i64, .str])
abbrev Change : Type := (Bool × Row × Bool × Row × Unit)
abbrev tChange : Ty := (tupT [.bool, tRow, .bool, tRow])
abbrev Sent : Type := (Int × Int × (List Change) × Unit)
abbrev tSent : Ty := (tupT [i64, i64, (.slc tChange)])
abbrev Key : Type := (Int × Int × Unit)
abbrev tKey : Ty := (tupT [i64, i64])
abbrev Tx : Type := (Int × (List Change) × (List Int) × (List Key) × Unit)
abbrev tTx : Ty := (tupT [i64, (.slc tChange), (.slc i64), (.slc tKey)])
abbrev Plain : Type := ((List Row) × (List Tx) × Int × Unit)
abbrev tPlain : Ty := (tupT [(.slc tRow), (.slc tTx), i64])
abbrev PlainResult : Type := (Int × Int × Plain × Unit)
abbrev tPlainResult : Ty := (tupT [i64, i64, tPlain])
abbrev Log : Type := ((List UInt8) × (List UInt8) × Unit)
abbrev tLog : Ty := (tupT [(.slc u8), (.slc u8)])
abbrev Store : Type := (Bool × (List (List UInt8)) × Log × (List Tx) × Int × Unit)
abbrev tStore : Ty := (tupT [.bool, (.slc (.slc u8)), tLog, (.slc tTx), i64])
abbrev StoreResult : Type := (Int × Int × Store × Unit)
abbrev tStoreResult : Ty := (tupT [i64, i64, tStore])
abbrev Run : Type := (Int × (List UInt8) × Unit)
abbrev tRun : Ty := (tupT [i64, (.slc u8)])
abbrev Record : Type := (Int × Int × Int × (List Run) × Unit)
abbrev tRecord : Ty := (tupT [i64, i64, i64, (.slc tRun)])
abbrev RecordResult : Type := (Int × Int × Record × Unit)
abbrev tRecordResult : Ty := (tupT [i64, i64, tRecord])
abbrev LogResult : Type := (Int × Log × Unit)
abbrev tLogResult : Ty := (tupT [i64, tLog])
abbrev EditsResult : Type := (Int × (List Run) × (List (List UInt8)) × Unit)
abbrev tEditsResult : Ty := (tupT [i64, (.slc tRun), (.slc (.slc u8))])
abbrev L1Src : Type := ((List UInt8) × Int × Unit)
abbrev tL1Src : Ty := (tupT [(.slc u8), i64])
abbrev RecordsResult : Type := (Int × Int × (List Record) × Unit)
abbrev tRecordsResult : Ty := (tupT [i64, i64, (.slc tRecord)])
abbrev RowsResult : Type := (Int × (List Row) × Unit)
abbrev tRowsResult : Ty := (tupT [i64, (.slc tRow)])
abbrev Buffer : Type := (Int × (List Change) × Unit)
abbrev tBuffer : Ty := (tupT [i64, (.slc tChange)])
abbrev Miner : Type := ((List (List UInt8)) × (List Buffer) × Unit)
abbrev tMiner : Ty := (tupT [(.slc (.slc u8)), (.slc tBuffer)])
abbrev Connector : Type := (Miner × Int × Miner × Int × Unit)
abbrev tConnector : Ty := (tupT [tMiner, i64, tMiner, i64])
abbrev SentResult : Type := (Int × (List Sent) × Connector × Unit)
abbrev tSentResult : Ty := (tupT [i64, (.slc tSent), tConnector])
abbrev TxsResult : Type := (Int × (List Tx) × Unit)
abbrev tTxsResult : Ty := (tupT [i64, (.slc tTx)])
namespace laws_szRow
/-! loop example g00408 laws szRow -/
abbrev Arg : Type := Row × Int × Unit
abbrev Out : Type := Int × Unit
noncomputable def ps : List (PM × Ty) := [(.ro, tRow), (.ro, i64)]
noncomputable def rs : List (Ty × Md) := [(i64, (roMd i64))]
noncomputable def E : Env := { TI := lookN [(9, .str), (119, tRow)], G := lookN [], fz := [], lv := [], lx := [], lf := [], od := [] }
noncomputable def sem (a : Arg) : Option Out := lift fun k => bodyK E k Go.Proofs.Try.f137 ps rs [] [] a
noncomputable def sig : Sig := { ps := ps, rs := rs, F := fun a => sem a }
noncomputable def C : Code := bodyOf Go.Proofs.Try.f137
noncomputable def fin : St → Option Out := outK ps rs [] (Func.results Go.Proofs.Try.f137).toList (mvs [])
noncomputable def K0 : Ex → St → Option Out := endK fin
noncomputable def p (a1 : Arg) : Option Out := bif decide (w64 (a1.2.1 - (a1.1.2.2.2.1.length : Int)) < (0 : Int)) then (some ((-1 : Int), ())) else some (w64 (a1.2.1 - (a1.1.2.2.2.1.length : Int)), ())
noncomputable def raw (k : Nat) (a1 : Arg) : Option Out := p a1
theorem p_eq (k : Nat) (a1 : Arg) : bodyK E k Go.Proofs.Try.f137 ps rs [] [] a1 = p a1 := by kernel_rfl
theorem raw_eq (k : Nat) (a1 : Arg) : bodyK E k Go.Proofs.Try.f137 ps rs [] [] a1 = raw k a1 := (p_eq k a1).trans (by rfl)
theorem ent : EnterOk Go.Proofs.Try.prog 137 sig.cap := ⟨Go.Proofs.Try.f137, Go.Proofs.Try.func137, by kernel_rfl, by kernel_rfl, by kernel_rfl⟩
theorem env : EnvOk Go.Proofs.Try.prog E := env_ok (tl := [(9, .str), (119, tRow)]) (gl := []) rfl rfl (by kernel_rfl) (by kernel_rfl) (fn_nil _)
theorem chk : funOk Go.Proofs.Try.prog E Go.Proofs.Try.f137 ps rs [] = true := by kernel_rfl
theorem snd : Sound Go.Proofs.Try.prog 137 sig := sound_of_body env Go.Proofs.Try.func137 rfl (es := []) (fr := []) chk (fun _ _ h => lift_some h)
end laws_szRow
namespace laws_szChange
/-! loop example g00408 laws szChange -/
abbrev Arg : Type := Change × Int × Unit
abbrev Out : Type := Int × Unit
noncomputable def ps : List (PM × Ty) := [(.ro, tChange), (.ro, i64)]
noncomputable def rs : List (Ty × Md) := [(i64, (roMd i64))]
noncomputable def E : Env := { TI := lookN [(119, tRow), (121, tChange)], G := lookN [(137, laws_szRow.sig)], fz := [], lv := [], lx := [], lf := [], od := [] }
noncomputable def sem (a : Arg) : Option Out := lift fun k => bodyK E k Go.Proofs.Try.f73 ps rs [] [] a
noncomputable def sig : Sig := { ps := ps, rs := rs, F := fun a => sem a }
noncomputable def C : Code := bodyOf Go.Proofs.Try.f73
noncomputable def fin : St → Option Out := outK ps rs [] (Func.results Go.Proofs.Try.f73).toList (mvs [])
noncomputable def K0 : Ex → St → Option Out := endK fin
noncomputable def p (a1 : Arg) : Option Out := (laws_szRow.sem (a1.1.2.1, a1.2.1, ())).bind fun r2 => bif decide (r2.1 < (0 : Int)) then (some ((-1 : Int), ())) else (laws_szRow.sem (a1.1.2.2.2.1, r2.1, ())).bind fun r3 => bif decide (r3.1 < (0 : Int)) then (some ((-1 : Int), ())) else some (r3.1, ())
noncomputable def raw (k : Nat) (a1 : Arg) : Option Out := p a1
theorem p_eq (k : Nat) (a1 : Arg) : bodyK E k Go.Proofs.Try.f73 ps rs [] [] a1 = p a1 := by kernel_rfl
theorem raw_eq (k : Nat) (a1 : Arg) : bodyK E k Go.Proofs.Try.f73 ps rs [] [] a1 = raw k a1 := (p_eq k a1).trans (by rfl)
theorem ent : EnterOk Go.Proofs.Try.prog 73 sig.cap := ⟨Go.Proofs.Try.f73, Go.Proofs.Try.func73, by kernel_rfl, by kernel_rfl, by kernel_rfl⟩
theorem env : EnvOk Go.Proofs.Try.prog E := env_ok (tl := [(119, tRow), (121, tChange)]) (gl := [(137, laws_szRow.sig)]) rfl rfl (by kernel_rfl) (by kernel_rfl) (fn_cons laws_szRow.snd laws_szRow.ent (fn_nil _))
theorem chk : funOk Go.Proofs.Try.prog E Go.Proofs.Try.f73 ps rs [] = true := by kernel_rfl
theorem snd : Sound Go.Proofs.Try.prog 73 sig := sound_of_body env Go.Proofs.Try.func73 rfl (es := []) (fr := []) chk (fun _ _ h => lift_some h)
end laws_szChange
namespace laws_szChangeS
/-! loop example g00408 laws szChangeS -/
abbrev Arg : Type := (List Change) × Int × Unit
abbrev Out : Type := Int × Unit
noncomputable def ps : List (PM × Ty) := [(.ro, (.slc tChange)), (.ro, i64)]
noncomputable def rs : List (Ty × Md) := [(i64, (roMd i64))]
noncomputable def E : Env := { TI := lookN [(121, tChange), (138, (.slc tChange))], G := lookN [(73, laws_szChange.sig)], fz := [], lv := [(5, [0, 1, 5])], lx := [(0, [1])], lf := [], od := [] }
noncomputable def sem (a : Arg) : Option Out := lift fun k => bodyK E k Go.Proofs.Try.f178 ps rs [] [] a
noncomputable def sig : Sig := { ps := ps, rs := rs, F := fun a => sem a }
noncomputable def C : Code := bodyOf Go.Proofs.Try.f178
noncomputable def fin : St → Option Out := outK ps rs [] (Func.results Go.Proofs.Try.f178).toList (mvs [])
noncomputable def K0 : Ex → St → Option Out := endK fin
noncomputable def S0 (rec : St → Option Out) (a1 : Arg) : (Int × Int) → Option Out := fun v402 => rec ({ n := 27, sl := [(0, .val (.slc tChange) a1.1), (1, .val i64 v402.1), (5, .val i64 v402.2)], vr := [], lent := [] })
noncomputable def X0_0 (K : Ex → St → Option Out) (a1 : Arg) : Int → Option Out := fun z => K (.exit 0) ({ n := 27, sl := [(1, .val i64 z)], vr := [], lent := [] })
noncomputable def b0 (self : (Int × Int) → Option Out) (e0 : Int → Option Out) (a1 : Arg) (v402 : Int × Int) : Option Out := bif decide (v402.2 < (a1.1.length : Int)) then (if 0 ≤ v402.2 then ((a1.1[v402.2.toNat]?).bind fun x603 => (laws_szChange.sem (x603, v402.1, ())).bind fun r604 => bif decide (r604.1 < (0 : Int)) then (some ((-1 : Int), ())) else self (r604.1, w64 (v402.2 + (1 : Int)))) else none) else e0 v402.1
noncomputable def B0 (k : Nat) (self : (Int × Int) → Option Out) (e0 : Int → Option Out) (a1 : Arg) (v402 : Int × Int) : Option Out := b0 self e0 a1 v402
theorem b0_eq (k : Nat) (rec : St → Option Out) (K : Ex → St → Option Out) (a1 : Arg) (v402 : Int × Int) : codeK E k fin (sub [1, 1, 1, 0, 1, 0, 0] C) ({ n := 27, sl := [(0, .val (.slc tChange) a1.1), (1, .val i64 v402.1), (5, .val i64 v402.2)], vr := [], lent := [] }) (loopC rec (keepF [0, 1, 5] []) K) = b0 (S0 rec a1) (X0_0 K a1) a1 v402 := by kernel_rfl
theorem B0_eq (k : Nat) (rec : St → Option Out) (K : Ex → St → Option Out) (a1 : Arg) (v402 : Int × Int) : codeK E k fin (sub [1, 1, 1, 0, 1, 0, 0] C) ({ n := 27, sl := [(0, .val (.slc tChange) a1.1), (1, .val i64 v402.1), (5, .val i64 v402.2)], vr := [], lent := [] }) (loopC rec (keepF [0, 1, 5] []) K) = B0 k (S0 rec a1) (X0_0 K a1) a1 v402 := (b0_eq k rec K a1 v402).trans (by rfl)
noncomputable def l0 (k : Nat) (a1 : Arg) (e0 : Int → Option Out) (v : Int × Int) : Option Out := rawIter (fun self v => B0 k self e0 a1 v) k v
theorem l0_eq (k : Nat) (K : Ex → St → Option Out) (a1 : Arg) (v402 : Int × Int) : iterK (codeK E k fin (sub [1, 1, 1, 0, 1, 0, 0] C)) (keepF [0, 1, 5] []) K k ({ n := 27, sl := [(0, .val (.slc tChange) a1.1), (1, .val i64 v402.1), (5, .val i64 v402.2)], vr := [], lent := [] }) = l0 k a1 (X0_0 K a1) v402 :=
  iter_raw _ _ K (fun v402 => ({ n := 27, sl := [(0, .val (.slc tChange) a1.1), (1, .val i64 v402.1), (5, .val i64 v402.2)], vr := [], lent := [] } : St)) (fun self v => B0 k self (X0_0 K a1) a1 v) (fun rec v => B0_eq k rec K a1 v) k v402
noncomputable def q0 (a1 : Arg) (z605 : Int) : Option Out := some (z605, ())
noncomputable def Q0 (k : Nat) (a1 : Arg) (z605 : Int) : Option Out := q0 a1 z605
theorem q0_eq (k : Nat) (a1 : Arg) (z605 : Int) : (blockC 0 (seqC (codeK E k fin (sub [1, 1, 1, 1] C)) K0)) (.exit 0) ({ n := 27, sl := [(1, .val i64 z605)], vr := [], lent := [] }) = q0 a1 z605 := by kernel_rfl
theorem Q0_eq (k : Nat) (a1 : Arg) (z605 : Int) : (blockC 0 (seqC (codeK E k fin (sub [1, 1, 1, 1] C)) K0)) (.exit 0) ({ n := 27, sl := [(1, .val i64 z605)], vr := [], lent := [] }) = Q0 k a1 z605 := (q0_eq k a1 z605).trans (by rfl)
noncomputable def s0 (k : Nat) (a1 : Arg) : (Int × Int) → Option Out := fun v402 => iterK (codeK E k fin (sub [1, 1, 1, 0, 1, 0, 0] C)) (keepF [0, 1, 5] []) (blockC 0 (seqC (codeK E k fin (sub [1, 1, 1, 1] C)) K0)) k ({ n := 27, sl := [(0, .val (.slc tChange) a1.1), (1, .val i64 v402.1), (5, .val i64 v402.2)], vr := [], lent := [] })
noncomputable def r0 (k : Nat) (a1 : Arg) : (Int × Int) → Option Out := fun v402 => l0 k a1 (fun z => Q0 k a1 z) v402
theorem s0_eq (k : Nat) (a1 : Arg) : s0 k a1 = r0 k a1 := by
  funext v402;
  have h0 : X0_0 ((blockC 0 (seqC (codeK E k fin (sub [1, 1, 1, 1] C)) K0))) a1 = fun z => Q0 k a1 z := funext fun z => Q0_eq k a1 z
  refine (l0_eq k ((blockC 0 (seqC (codeK E k fin (sub [1, 1, 1, 1] C)) K0))) a1 v402).trans ?_
  rw [h0]
  rfl
noncomputable def p (l0 : (Int × Int) → Option Out) (a1 : Arg) : Option Out := bif decide (w64 (a1.2.1 - (a1.1.length : Int)) < (0 : Int)) then (some ((-1 : Int), ())) else l0 (w64 (a1.2.1 - (a1.1.length : Int)), (0 : Int))
noncomputable def raw (k : Nat) (a1 : Arg) : Option Out := p (r0 k a1) a1
theorem p_eq (k : Nat) (a1 : Arg) : bodyK E k Go.Proofs.Try.f178 ps rs [] [] a1 = p (s0 k a1) a1 := by kernel_rfl
theorem raw_eq (k : Nat) (a1 : Arg) : bodyK E k Go.Proofs.Try.f178 ps rs [] [] a1 = raw k a1 := (p_eq k a1).trans (by rw [s0_eq]; rfl)
theorem ent : EnterOk Go.Proofs.Try.prog 178 sig.cap := ⟨Go.Proofs.Try.f178, Go.Proofs.Try.func178, by kernel_rfl, by kernel_rfl, by kernel_rfl⟩
theorem env : EnvOk Go.Proofs.Try.prog E := env_ok (tl := [(121, tChange), (138, (.slc tChange))]) (gl := [(73, laws_szChange.sig)]) rfl rfl (by kernel_rfl) (by kernel_rfl) (fn_cons laws_szChange.snd laws_szChange.ent (fn_nil _))
theorem chk : funOk Go.Proofs.Try.prog E Go.Proofs.Try.f178 ps rs [] = true := by kernel_rfl
theorem snd : Sound Go.Proofs.Try.prog 178 sig := sound_of_body env Go.Proofs.Try.func178 rfl (es := []) (fr := []) chk (fun _ _ h => lift_some h)
end laws_szChangeS
namespace laws_szSent
/-! loop example g00408 laws szSent -/
abbrev Arg : Type := Sent × Int × Unit
abbrev Out : Type := Int × Unit
noncomputable def ps : List (PM × Ty) := [(.ro, tSent), (.ro, i64)]
noncomputable def rs : List (Ty × Md) := [(i64, (roMd i64))]
noncomputable def E : Env := { TI := lookN [(138, (.slc tChange)), (140, tSent)], G := lookN [(178, laws_szChangeS.sig)], fz := [], lv := [], lx := [], lf := [], od := [] }
noncomputable def sem (a : Arg) : Option Out := lift fun k => bodyK E k Go.Proofs.Try.f83 ps rs [] [] a
noncomputable def sig : Sig := { ps := ps, rs := rs, F := fun a => sem a }
noncomputable def C : Code := bodyOf Go.Proofs.Try.f83
noncomputable def fin : St → Option Out := outK ps rs [] (Func.results Go.Proofs.Try.f83).toList (mvs [])
noncomputable def K0 : Ex → St → Option Out := endK fin
noncomputable def p (a1 : Arg) : Option Out := (laws_szChangeS.sem (a1.1.2.2.1, a1.2.1, ())).bind fun r2 => bif decide (r2.1 < (0 : Int)) then (some ((-1 : Int), ())) else some (r2.1, ())
noncomputable def raw (k : Nat) (a1 : Arg) : Option Out := p a1
theorem p_eq (k : Nat) (a1 : Arg) : bodyK E k Go.Proofs.Try.f83 ps rs [] [] a1 = p a1 := by kernel_rfl
theorem raw_eq (k : Nat) (a1 : Arg) : bodyK E k Go.Proofs.Try.f83 ps rs [] [] a1 = raw k a1 := (p_eq k a1).trans (by rfl)
theorem ent : EnterOk Go.Proofs.Try.prog 83 sig.cap := ⟨Go.Proofs.Try.f83, Go.Proofs.Try.func83, by kernel_rfl, by kernel_rfl, by kernel_rfl⟩
theorem env : EnvOk Go.Proofs.Try.prog E := env_ok (tl := [(138, (.slc tChange)), (140, tSent)]) (gl := [(178, laws_szChangeS.sig)]) rfl rfl (by kernel_rfl) (by kernel_rfl) (fn_cons laws_szChangeS.snd laws_szChangeS.ent (fn_nil _))
theorem chk : funOk Go.Proofs.Try.prog E Go.Proofs.Try.f83 ps rs [] = true := by kernel_rfl
theorem snd : Sound Go.Proofs.Try.prog 83 sig := sound_of_body env Go.Proofs.Try.func83 rfl (es := []) (fr := []) chk (fun _ _ h => lift_some h)
end laws_szSent
namespace laws_szSentS
/-! loop example g00408 laws szSentS -/
abbrev Arg : Type := (List Sent) × Int × Unit
abbrev Out : Type := Int × Unit
noncomputable def ps : List (PM × Ty) := [(.ro, (.slc tSent)), (.ro, i64)]
noncomputable def rs : List (Ty × Md) := [(i64, (roMd i64))]
noncomputable def E : Env := { TI := lookN [(22, (.slc tSent)), (140, tSent)], G := lookN [(83, laws_szSent.sig)], fz := [], lv := [(5, [0, 1, 5])], lx := [(0, [1])], lf := [], od := [] }
noncomputable def sem (a : Arg) : Option Out := lift fun k => bodyK E k Go.Proofs.Try.f12 ps rs [] [] a
noncomputable def sig : Sig := { ps := ps, rs := rs, F := fun a => sem a }
noncomputable def C : Code := bodyOf Go.Proofs.Try.f12
noncomputable def fin : St → Option Out := outK ps rs [] (Func.results Go.Proofs.Try.f12).toList (mvs [])
noncomputable def K0 : Ex → St → Option Out := endK fin
noncomputable def S0 (rec : St → Option Out) (a1 : Arg) : (Int × Int) → Option Out := fun v402 => rec ({ n := 27, sl := [(0, .val (.slc tSent) a1.1), (1, .val i64 v402.1), (5, .val i64 v402.2)], vr := [], lent := [] })
noncomputable def X0_0 (K : Ex → St → Option Out) (a1 : Arg) : Int → Option Out := fun z => K (.exit 0) ({ n := 27, sl := [(1, .val i64 z)], vr := [], lent := [] })
noncomputable def b0 (self : (Int × Int) → Option Out) (e0 : Int → Option Out) (a1 : Arg) (v402 : Int × Int) : Option Out := bif decide (v402.2 < (a1.1.length : Int)) then (if 0 ≤ v402.2 then ((a1.1[v402.2.toNat]?).bind fun x603 => (laws_szSent.sem (x603, v402.1, ())).bind fun r604 => bif decide (r604.1 < (0 : Int)) then (some ((-1 : Int), ())) else self (r604.1, w64 (v402.2 + (1 : Int)))) else none) else e0 v402.1
noncomputable def B0 (k : Nat) (self : (Int × Int) → Option Out) (e0 : Int → Option Out) (a1 : Arg) (v402 : Int × Int) : Option Out := b0 self e0 a1 v402
theorem b0_eq (k : Nat) (rec : St → Option Out) (K : Ex → St → Option Out) (a1 : Arg) (v402 : Int × Int) : codeK E k fin (sub [1, 1, 1, 0, 1, 0, 0] C) ({ n := 27, sl := [(0, .val (.slc tSent) a1.1), (1, .val i64 v402.1), (5, .val i64 v402.2)], vr := [], lent := [] }) (loopC rec (keepF [0, 1, 5] []) K) = b0 (S0 rec a1) (X0_0 K a1) a1 v402 := by kernel_rfl
theorem B0_eq (k : Nat) (rec : St → Option Out) (K : Ex → St → Option Out) (a1 : Arg) (v402 : Int × Int) : codeK E k fin (sub [1, 1, 1, 0, 1, 0, 0] C) ({ n := 27, sl := [(0, .val (.slc tSent) a1.1), (1, .val i64 v402.1), (5, .val i64 v402.2)], vr := [], lent := [] }) (loopC rec (keepF [0, 1, 5] []) K) = B0 k (S0 rec a1) (X0_0 K a1) a1 v402 := (b0_eq k rec K a1 v402).trans (by rfl)
noncomputable def l0 (k : Nat) (a1 : Arg) (e0 : Int → Option Out) (v : Int × Int) : Option Out := rawIter (fun self v => B0 k self e0 a1 v) k v
theorem l0_eq (k : Nat) (K : Ex → St → Option Out) (a1 : Arg) (v402 : Int × Int) : iterK (codeK E k fin (sub [1, 1, 1, 0, 1, 0, 0] C)) (keepF [0, 1, 5] []) K k ({ n := 27, sl := [(0, .val (.slc tSent) a1.1), (1, .val i64 v402.1), (5, .val i64 v402.2)], vr := [], lent := [] }) = l0 k a1 (X0_0 K a1) v402 :=
  iter_raw _ _ K (fun v402 => ({ n := 27, sl := [(0, .val (.slc tSent) a1.1), (1, .val i64 v402.1), (5, .val i64 v402.2)], vr := [], lent := [] } : St)) (fun self v => B0 k self (X0_0 K a1) a1 v) (fun rec v => B0_eq k rec K a1 v) k v402
noncomputable def q0 (a1 : Arg) (z605 : Int) : Option Out := some (z605, ())
noncomputable def Q0 (k : Nat) (a1 : Arg) (z605 : Int) : Option Out := q0 a1 z605
theorem q0_eq (k : Nat) (a1 : Arg) (z605 : Int) : (blockC 0 (seqC (codeK E k fin (sub [1, 1, 1, 1] C)) K0)) (.exit 0) ({ n := 27, sl := [(1, .val i64 z605)], vr := [], lent := [] }) = q0 a1 z605 := by kernel_rfl
theorem Q0_eq (k : Nat) (a1 : Arg) (z605 : Int) : (blockC 0 (seqC (codeK E k fin (sub [1, 1, 1, 1] C)) K0)) (.exit 0) ({ n := 27, sl := [(1, .val i64 z605)], vr := [], lent := [] }) = Q0 k a1 z605 := (q0_eq k a1 z605).trans (by rfl)
noncomputable def s0 (k : Nat) (a1 : Arg) : (Int × Int) → Option Out := fun v402 => iterK (codeK E k fin (sub [1, 1, 1, 0, 1, 0, 0] C)) (keepF [0, 1, 5] []) (blockC 0 (seqC (codeK E k fin (sub [1, 1, 1, 1] C)) K0)) k ({ n := 27, sl := [(0, .val (.slc tSent) a1.1), (1, .val i64 v402.1), (5, .val i64 v402.2)], vr := [], lent := [] })
noncomputable def r0 (k : Nat) (a1 : Arg) : (Int × Int) → Option Out := fun v402 => l0 k a1 (fun z => Q0 k a1 z) v402
theorem s0_eq (k : Nat) (a1 : Arg) : s0 k a1 = r0 k a1 := by
  funext v402;
  have h0 : X0_0 ((blockC 0 (seqC (codeK E k fin (sub [1, 1, 1, 1] C)) K0))) a1 = fun z => Q0 k a1 z := funext fun z => Q0_eq k a1 z
  refine (l0_eq k ((blockC 0 (seqC (codeK E k fin (sub [1, 1, 1, 1] C)) K0))) a1 v402).trans ?_
  rw [h0]
  rfl
noncomputable def p (l0 : (Int × Int) → Option Out) (a1 : Arg) : Option Out := bif decide (w64 (a1.2.1 - (a1.1.length : Int)) < (0 : Int)) then (some ((-1 : Int), ())) else l0 (w64 (a1.2.1 - (a1.1.length : Int)), (0 : Int))
noncomputable def raw (k : Nat) (a1 : Arg) : Option Out := p (r0 k a1) a1
theorem p_eq (k : Nat) (a1 : Arg) : bodyK E k Go.Proofs.Try.f12 ps rs [] [] a1 = p (s0 k a1) a1 := by kernel_rfl
theorem raw_eq (k : Nat) (a1 : Arg) : bodyK E k Go.Proofs.Try.f12 ps rs [] [] a1 = raw k a1 := (p_eq k a1).trans (by rw [s0_eq]; rfl)
theorem ent : EnterOk Go.Proofs.Try.prog 12 sig.cap := ⟨Go.Proofs.Try.f12, Go.Proofs.Try.func12, by kernel_rfl, by kernel_rfl, by kernel_rfl⟩
theorem env : EnvOk Go.Proofs.Try.prog E := env_ok (tl := [(22, (.slc tSent)), (140, tSent)]) (gl := [(83, laws_szSent.sig)]) rfl rfl (by kernel_rfl) (by kernel_rfl) (fn_cons laws_szSent.snd laws_szSent.ent (fn_nil _))
theorem chk : funOk Go.Proofs.Try.prog E Go.Proofs.Try.f12 ps rs [] = true := by kernel_rfl
theorem snd : Sound Go.Proofs.Try.prog 12 sig := sound_of_body env Go.Proofs.Try.func12 rfl (es := []) (fr := []) chk (fun _ _ h => lift_some h)
end laws_szSentS
namespace laws_toRow
/-! loop example g00408 laws toRow -/
abbrev Arg : Type := Row × Unit
abbrev Out : Type := Row × Unit
noncomputable def ps : List (PM × Ty) := [(.ro, tRow)]
noncomputable def rs : List (Ty × Md) := [(tRow, (roMd tRow))]
noncomputable def E : Env := { TI := lookN [(2, i64), (9, .str), (119, tRow), (128, tRow)], G := lookN [], fz := [], lv := [], lx := [], lf := [], od := [] }
noncomputable def sem (a : Arg) : Option Out := lift fun k => bodyK E k Go.Proofs.Try.f141 ps rs [] [] a
noncomputable def sig : Sig := { ps := ps, rs := rs, F := fun a => sem a }
noncomputable def C : Code := bodyOf Go.Proofs.Try.f141
noncomputable def fin : St → Option Out := outK ps rs [] (Func.results Go.Proofs.Try.f141).toList (mvs [])
noncomputable def K0 : Ex → St → Option Out := endK fin
noncomputable def p (a1 : Arg) : Option Out := some ((a1.1.1, a1.1.2.1, a1.1.2.2.1, a1.1.2.2.2.1, ()), ())
noncomputable def raw (k : Nat) (a1 : Arg) : Option Out := p a1
theorem p_eq (k : Nat) (a1 : Arg) : bodyK E k Go.Proofs.Try.f141 ps rs [] [] a1 = p a1 := by kernel_rfl
theorem raw_eq (k : Nat) (a1 : Arg) : bodyK E k Go.Proofs.Try.f141 ps rs [] [] a1 = raw k a1 := (p_eq k a1).trans (by rfl)
theorem ent : EnterOk Go.Proofs.Try.prog 141 sig.cap := ⟨Go.Proofs.Try.f141, Go.Proofs.Try.func141, by kernel_rfl, by kernel_rfl, by kernel_rfl⟩
theorem env : EnvOk Go.Proofs.Try.prog E := env_ok (tl := [(2, i64), (9, .str), (119, tRow), (128, tRow)]) (gl := []) rfl rfl (by kernel_rfl) (by kernel_rfl) (fn_nil _)
theorem chk : funOk Go.Proofs.Try.prog E Go.Proofs.Try.f141 ps rs [] = true := by kernel_rfl
theorem snd : Sound Go.Proofs.Try.prog 141 sig := sound_of_body env Go.Proofs.Try.func141 rfl (es := []) (fr := []) chk (fun _ _ h => lift_some h)
end laws_toRow
namespace laws_toChange
/-! loop example g00408 laws toChange -/
abbrev Arg : Type := Change × Unit
abbrev Out : Type := Change × Unit
noncomputable def ps : List (PM × Ty) := [(.ro, tChange)]
noncomputable def rs : List (Ty × Md) := [(tChange, (roMd tChange))]
noncomputable def E : Env := { TI := lookN [(4, .bool), (119, tRow), (121, tChange), (128, tRow), (130, tChange)], G := lookN [(141, laws_toRow.sig)], fz := [], lv := [], lx := [], lf := [], od := [] }
noncomputable def sem (a : Arg) : Option Out := lift fun k => bodyK E k Go.Proofs.Try.f76 ps rs [] [] a
noncomputable def sig : Sig := { ps := ps, rs := rs, F := fun a => sem a }
noncomputable def C : Code := bodyOf Go.Proofs.Try.f76
noncomputable def fin : St → Option Out := outK ps rs [] (Func.results Go.Proofs.Try.f76).toList (mvs [])
noncomputable def K0 : Ex → St → Option Out := endK fin
noncomputable def p (a1 : Arg) : Option Out := (laws_toRow.sem (a1.1.2.1, ())).bind fun r2 => (laws_toRow.sem (a1.1.2.2.2.1, ())).bind fun r3 => some ((a1.1.1, r2.1, a1.1.2.2.1, r3.1, ()), ())
noncomputable def raw (k : Nat) (a1 : Arg) : Option Out := p a1
theorem p_eq (k : Nat) (a1 : Arg) : bodyK E k Go.Proofs.Try.f76 ps rs [] [] a1 = p a1 := by kernel_rfl
theorem raw_eq (k : Nat) (a1 : Arg) : bodyK E k Go.Proofs.Try.f76 ps rs [] [] a1 = raw k a1 := (p_eq k a1).trans (by rfl)
theorem ent : EnterOk Go.Proofs.Try.prog 76 sig.cap := ⟨Go.Proofs.Try.f76, Go.Proofs.Try.func76, by kernel_rfl, by kernel_rfl, by kernel_rfl⟩
theorem env : EnvOk Go.Proofs.Try.prog E := env_ok (tl := [(4, .bool), (119, tRow), (121, tChange), (128, tRow), (130, tChange)]) (gl := [(141, laws_toRow.sig)]) rfl rfl (by kernel_rfl) (by kernel_rfl) (fn_cons laws_toRow.snd laws_toRow.ent (fn_nil _))
theorem chk : funOk Go.Proofs.Try.prog E Go.Proofs.Try.f76 ps rs [] = true := by kernel_rfl
theorem snd : Sound Go.Proofs.Try.prog 76 sig := sound_of_body env Go.Proofs.Try.func76 rfl (es := []) (fr := []) chk (fun _ _ h => lift_some h)
end laws_toChange
namespace laws_toChangeS
/-! loop example g00408 laws toChangeS -/
abbrev Arg : Type := (List Change) × Unit
abbrev Out : Type := (List Change) × Unit
noncomputable def ps : List (PM × Ty) := [(.ro, (.slc tChange))]
noncomputable def rs : List (Ty × Md) := [((.slc tChange), (ownMd (.slc tChange)))]
noncomputable def E : Env := { TI := lookN [(121, tChange), (130, tChange), (138, (.slc tChange)), (141, (.slc tChange))], G := lookN [(76, laws_toChange.sig)], fz := [], lv := [(3, [0, 3, 4])], lx := [(0, [3])], lf := [], od := [] }
noncomputable def sem (a : Arg) : Option Out := lift fun k => bodyK E k Go.Proofs.Try.f179 ps rs [] [] a
noncomputable def sig : Sig := { ps := ps, rs := rs, F := fun a => sem a }
noncomputable def C : Code := bodyOf Go.Proofs.Try.f179
noncomputable def fin : St → Option Out := outK ps rs [] (Func.results Go.Proofs.Try.f179).toList (mvs [])
noncomputable def K0 : Ex → St → Option Out := endK fin
noncomputable def S0 (rec : St → Option Out) (a1 : Arg) : ((List Change) × Int) → Option Out := fun v402 => rec ({ n := 23, sl := [(0, .val (.slc tChange) a1.1), (3, .own (.slc tChange) (ownMd (.slc tChange)) [] v402.1), (4, .val i64 v402.2)], vr := [], lent := [] })
noncomputable def X0_0 (K : Ex → St → Option Out) (a1 : Arg) : (List Change) → Option Out := fun z => K (.exit 0) ({ n := 23, sl := [(3, .own (.slc tChange) (ownMd (.slc tChange)) [] z)], vr := [], lent := [] })
noncomputable def b0 (self : ((List Change) × Int) → Option Out) (e0 : (List Change) → Option Out) (a1 : Arg) (v402 : (List Change) × Int) : Option Out := bif decide (v402.2 < (a1.1.length : Int)) then (if 0 ≤ v402.2 then ((a1.1[v402.2.toNat]?).bind fun x603 => (laws_toChange.sem (x603, ())).bind fun r604 => if 0 ≤ v402.2 ∧ v402.2 < (v402.1.length : Int) then ((v402.1[v402.2.toNat]?).bind fun x605 => self (v402.1.set v402.2.toNat r604.1, w64 (v402.2 + (1 : Int)))) else none) else none) else e0 v402.1
noncomputable def B0 (k : Nat) (self : ((List Change) × Int) → Option Out) (e0 : (List Change) → Option Out) (a1 : Arg) (v402 : (List Change) × Int) : Option Out := b0 self e0 a1 v402
theorem b0_eq (k : Nat) (rec : St → Option Out) (K : Ex → St → Option Out) (a1 : Arg) (v402 : (List Change) × Int) : codeK E k fin (sub [1, 1, 0, 1, 0, 0] C) ({ n := 23, sl := [(0, .val (.slc tChange) a1.1), (3, .own (.slc tChange) (ownMd (.slc tChange)) [] v402.1), (4, .val i64 v402.2)], vr := [], lent := [] }) (loopC rec (keepF [0, 3, 4] []) K) = b0 (S0 rec a1) (X0_0 K a1) a1 v402 := by kernel_rfl
theorem B0_eq (k : Nat) (rec : St → Option Out) (K : Ex → St → Option Out) (a1 : Arg) (v402 : (List Change) × Int) : codeK E k fin (sub [1, 1, 0, 1, 0, 0] C) ({ n := 23, sl := [(0, .val (.slc tChange) a1.1), (3, .own (.slc tChange) (ownMd (.slc tChange)) [] v402.1), (4, .val i64 v402.2)], vr := [], lent := [] }) (loopC rec (keepF [0, 3, 4] []) K) = B0 k (S0 rec a1) (X0_0 K a1) a1 v402 := (b0_eq k rec K a1 v402).trans (by rfl)
noncomputable def l0 (k : Nat) (a1 : Arg) (e0 : (List Change) → Option Out) (v : (List Change) × Int) : Option Out := rawIter (fun self v => B0 k self e0 a1 v) k v
theorem l0_eq (k : Nat) (K : Ex → St → Option Out) (a1 : Arg) (v402 : (List Change) × Int) : iterK (codeK E k fin (sub [1, 1, 0, 1, 0, 0] C)) (keepF [0, 3, 4] []) K k ({ n := 23, sl := [(0, .val (.slc tChange) a1.1), (3, .own (.slc tChange) (ownMd (.slc tChange)) [] v402.1), (4, .val i64 v402.2)], vr := [], lent := [] }) = l0 k a1 (X0_0 K a1) v402 :=
  iter_raw _ _ K (fun v402 => ({ n := 23, sl := [(0, .val (.slc tChange) a1.1), (3, .own (.slc tChange) (ownMd (.slc tChange)) [] v402.1), (4, .val i64 v402.2)], vr := [], lent := [] } : St)) (fun self v => B0 k self (X0_0 K a1) a1 v) (fun rec v => B0_eq k rec K a1 v) k v402
noncomputable def q0 (a1 : Arg) (z606 : (List Change)) : Option Out := some (z606, ())
noncomputable def Q0 (k : Nat) (a1 : Arg) (z606 : (List Change)) : Option Out := q0 a1 z606
theorem q0_eq (k : Nat) (a1 : Arg) (z606 : (List Change)) : (blockC 0 (seqC (codeK E k fin (sub [1, 1, 1] C)) K0)) (.exit 0) ({ n := 23, sl := [(3, .own (.slc tChange) (ownMd (.slc tChange)) [] z606)], vr := [], lent := [] }) = q0 a1 z606 := by kernel_rfl
theorem Q0_eq (k : Nat) (a1 : Arg) (z606 : (List Change)) : (blockC 0 (seqC (codeK E k fin (sub [1, 1, 1] C)) K0)) (.exit 0) ({ n := 23, sl := [(3, .own (.slc tChange) (ownMd (.slc tChange)) [] z606)], vr := [], lent := [] }) = Q0 k a1 z606 := (q0_eq k a1 z606).trans (by rfl)
noncomputable def s0 (k : Nat) (a1 : Arg) : ((List Change) × Int) → Option Out := fun v402 => iterK (codeK E k fin (sub [1, 1, 0, 1, 0, 0] C)) (keepF [0, 3, 4] []) (blockC 0 (seqC (codeK E k fin (sub [1, 1, 1] C)) K0)) k ({ n := 23, sl := [(0, .val (.slc tChange) a1.1), (3, .own (.slc tChange) (ownMd (.slc tChange)) [] v402.1), (4, .val i64 v402.2)], vr := [], lent := [] })
noncomputable def r0 (k : Nat) (a1 : Arg) : ((List Change) × Int) → Option Out := fun v402 => l0 k a1 (fun z => Q0 k a1 z) v402
theorem s0_eq (k : Nat) (a1 : Arg) : s0 k a1 = r0 k a1 := by
  funext v402;
  have h0 : X0_0 ((blockC 0 (seqC (codeK E k fin (sub [1, 1, 1] C)) K0))) a1 = fun z => Q0 k a1 z := funext fun z => Q0_eq k a1 z
  refine (l0_eq k ((blockC 0 (seqC (codeK E k fin (sub [1, 1, 1] C)) K0))) a1 v402).trans ?_
  rw [h0]
  rfl
noncomputable def p (l0 : ((List Change) × Int) → Option Out) (a1 : Arg) : Option Out := if 0 ≤ (a1.1.length : Int) ∧ (a1.1.length : Int) ≤ (a1.1.length : Int) ∧ (a1.1.length : Int) ≤ (CAP : Int) then (l0 (List.replicate (a1.1.length : Int).toNat (false, ((0 : Int), (0 : Int), (0 : Int), ([] : List UInt8), ()), false, ((0 : Int), (0 : Int), (0 : Int), ([] : List UInt8), ()), ()), (0 : Int))) else none
noncomputable def raw (k : Nat) (a1 : Arg) : Option Out := p (r0 k a1) a1
theorem p_eq (k : Nat) (a1 : Arg) : bodyK E k Go.Proofs.Try.f179 ps rs [] [] a1 = p (s0 k a1) a1 := by kernel_rfl
theorem raw_eq (k : Nat) (a1 : Arg) : bodyK E k Go.Proofs.Try.f179 ps rs [] [] a1 = raw k a1 := (p_eq k a1).trans (by rw [s0_eq]; rfl)
theorem ent : EnterOk Go.Proofs.Try.prog 179 sig.cap := ⟨Go.Proofs.Try.f179, Go.Proofs.Try.func179, by kernel_rfl, by kernel_rfl, by kernel_rfl⟩
theorem env : EnvOk Go.Proofs.Try.prog E := env_ok (tl := [(121, tChange), (130, tChange), (138, (.slc tChange)), (141, (.slc tChange))]) (gl := [(76, laws_toChange.sig)]) rfl rfl (by kernel_rfl) (by kernel_rfl) (fn_cons laws_toChange.snd laws_toChange.ent (fn_nil _))
theorem chk : funOk Go.Proofs.Try.prog E Go.Proofs.Try.f179 ps rs [] = true := by kernel_rfl
theorem snd : Sound Go.Proofs.Try.prog 179 sig := sound_of_body env Go.Proofs.Try.func179 rfl (es := []) (fr := []) chk (fun _ _ h => lift_some h)
end laws_toChangeS
namespace laws_toSent
/-! loop example g00408 laws toSent -/
abbrev Arg : Type := Sent × Unit
abbrev Out : Type := Sent × Unit
noncomputable def ps : List (PM × Ty) := [(.ro, tSent)]
noncomputable def rs : List (Ty × Md) := [(tSent, (ownMd tSent))]
noncomputable def E : Env := { TI := lookN [(2, i64), (138, (.slc tChange)), (140, tSent), (141, (.slc tChange)), (143, tSent)], G := lookN [(179, laws_toChangeS.sig)], fz := [], lv := [], lx := [], lf := [], od := [] }
noncomputable def sem (a : Arg) : Option Out := lift fun k => bodyK E k Go.Proofs.Try.f85 ps rs [] [] a
noncomputable def sig : Sig := { ps := ps, rs := rs, F := fun a => sem a }
noncomputable def C : Code := bodyOf Go.Proofs.Try.f85
noncomputable def fin : St → Option Out := outK ps rs [] (Func.results Go.Proofs.Try.f85).toList (mvs [])
noncomputable def K0 : Ex → St → Option Out := endK fin
noncomputable def p (a1 : Arg) : Option Out := (laws_toChangeS.sem (a1.1.2.2.1, ())).bind fun r2 => some ((a1.1.1, a1.1.2.1, r2.1, ()), ())
noncomputable def raw (k : Nat) (a1 : Arg) : Option Out := p a1
theorem p_eq (k : Nat) (a1 : Arg) : bodyK E k Go.Proofs.Try.f85 ps rs [] [] a1 = p a1 := by kernel_rfl
theorem raw_eq (k : Nat) (a1 : Arg) : bodyK E k Go.Proofs.Try.f85 ps rs [] [] a1 = raw k a1 := (p_eq k a1).trans (by rfl)
theorem ent : EnterOk Go.Proofs.Try.prog 85 sig.cap := ⟨Go.Proofs.Try.f85, Go.Proofs.Try.func85, by kernel_rfl, by kernel_rfl, by kernel_rfl⟩
theorem env : EnvOk Go.Proofs.Try.prog E := env_ok (tl := [(2, i64), (138, (.slc tChange)), (140, tSent), (141, (.slc tChange)), (143, tSent)]) (gl := [(179, laws_toChangeS.sig)]) rfl rfl (by kernel_rfl) (by kernel_rfl) (fn_cons laws_toChangeS.snd laws_toChangeS.ent (fn_nil _))
theorem chk : funOk Go.Proofs.Try.prog E Go.Proofs.Try.f85 ps rs [] = true := by kernel_rfl
theorem snd : Sound Go.Proofs.Try.prog 85 sig := sound_of_body env Go.Proofs.Try.func85 rfl (es := []) (fr := []) chk (fun _ _ h => lift_some h)
end laws_toSent
namespace laws_toSentS
/-! loop example g00408 laws toSentS -/
abbrev Arg : Type := (List Sent) × Unit
abbrev Out : Type := (List Sent) × Unit
noncomputable def ps : List (PM × Ty) := [(.ro, (.slc tSent))]
noncomputable def rs : List (Ty × Md) := [((.slc tSent), (ownMd (.slc tSent)))]
noncomputable def E : Env := { TI := lookN [(22, (.slc tSent)), (25, (.slc tSent)), (140, tSent), (143, tSent)], G := lookN [(85, laws_toSent.sig)], fz := [], lv := [(3, [0, 3, 4])], lx := [(0, [3])], lf := [], od := [] }
noncomputable def sem (a : Arg) : Option Out := lift fun k => bodyK E k Go.Proofs.Try.f14 ps rs [] [] a
noncomputable def sig : Sig := { ps := ps, rs := rs, F := fun a => sem a }
noncomputable def C : Code := bodyOf Go.Proofs.Try.f14
noncomputable def fin : St → Option Out := outK ps rs [] (Func.results Go.Proofs.Try.f14).toList (mvs [])
noncomputable def K0 : Ex → St → Option Out := endK fin
noncomputable def S0 (rec : St → Option Out) (a1 : Arg) : ((List Sent) × Int) → Option Out := fun v402 => rec ({ n := 23, sl := [(0, .val (.slc tSent) a1.1), (3, .own (.slc tSent) (ownMd (.slc tSent)) [] v402.1), (4, .val i64 v402.2)], vr := [], lent := [] })
noncomputable def X0_0 (K : Ex → St → Option Out) (a1 : Arg) : (List Sent) → Option Out := fun z => K (.exit 0) ({ n := 23, sl := [(3, .own (.slc tSent) (ownMd (.slc tSent)) [] z)], vr := [], lent := [] })
noncomputable def b0 (self : ((List Sent) × Int) → Option Out) (e0 : (List Sent) → Option Out) (a1 : Arg) (v402 : (List Sent) × Int) : Option Out := bif decide (v402.2 < (a1.1.length : Int)) then (if 0 ≤ v402.2 then ((a1.1[v402.2.toNat]?).bind fun x603 => (laws_toSent.sem (x603, ())).bind fun r604 => if 0 ≤ v402.2 ∧ v402.2 < (v402.1.length : Int) then ((v402.1[v402.2.toNat]?).bind fun x605 => self (v402.1.set v402.2.toNat r604.1, w64 (v402.2 + (1 : Int)))) else none) else none) else e0 v402.1
noncomputable def B0 (k : Nat) (self : ((List Sent) × Int) → Option Out) (e0 : (List Sent) → Option Out) (a1 : Arg) (v402 : (List Sent) × Int) : Option Out := b0 self e0 a1 v402
theorem b0_eq (k : Nat) (rec : St → Option Out) (K : Ex → St → Option Out) (a1 : Arg) (v402 : (List Sent) × Int) : codeK E k fin (sub [1, 1, 0, 1, 0, 0] C) ({ n := 23, sl := [(0, .val (.slc tSent) a1.1), (3, .own (.slc tSent) (ownMd (.slc tSent)) [] v402.1), (4, .val i64 v402.2)], vr := [], lent := [] }) (loopC rec (keepF [0, 3, 4] []) K) = b0 (S0 rec a1) (X0_0 K a1) a1 v402 := by kernel_rfl
theorem B0_eq (k : Nat) (rec : St → Option Out) (K : Ex → St → Option Out) (a1 : Arg) (v402 : (List Sent) × Int) : codeK E k fin (sub [1, 1, 0, 1, 0, 0] C) ({ n := 23, sl := [(0, .val (.slc tSent) a1.1), (3, .own (.slc tSent) (ownMd (.slc tSent)) [] v402.1), (4, .val i64 v402.2)], vr := [], lent := [] }) (loopC rec (keepF [0, 3, 4] []) K) = B0 k (S0 rec a1) (X0_0 K a1) a1 v402 := (b0_eq k rec K a1 v402).trans (by rfl)
noncomputable def l0 (k : Nat) (a1 : Arg) (e0 : (List Sent) → Option Out) (v : (List Sent) × Int) : Option Out := rawIter (fun self v => B0 k self e0 a1 v) k v
theorem l0_eq (k : Nat) (K : Ex → St → Option Out) (a1 : Arg) (v402 : (List Sent) × Int) : iterK (codeK E k fin (sub [1, 1, 0, 1, 0, 0] C)) (keepF [0, 3, 4] []) K k ({ n := 23, sl := [(0, .val (.slc tSent) a1.1), (3, .own (.slc tSent) (ownMd (.slc tSent)) [] v402.1), (4, .val i64 v402.2)], vr := [], lent := [] }) = l0 k a1 (X0_0 K a1) v402 :=
  iter_raw _ _ K (fun v402 => ({ n := 23, sl := [(0, .val (.slc tSent) a1.1), (3, .own (.slc tSent) (ownMd (.slc tSent)) [] v402.1), (4, .val i64 v402.2)], vr := [], lent := [] } : St)) (fun self v => B0 k self (X0_0 K a1) a1 v) (fun rec v => B0_eq k rec K a1 v) k v402
noncomputable def q0 (a1 : Arg) (z606 : (List Sent)) : Option Out := some (z606, ())
noncomputable def Q0 (k : Nat) (a1 : Arg) (z606 : (List Sent)) : Option Out := q0 a1 z606
theorem q0_eq (k : Nat) (a1 : Arg) (z606 : (List Sent)) : (blockC 0 (seqC (codeK E k fin (sub [1, 1, 1] C)) K0)) (.exit 0) ({ n := 23, sl := [(3, .own (.slc tSent) (ownMd (.slc tSent)) [] z606)], vr := [], lent := [] }) = q0 a1 z606 := by kernel_rfl
theorem Q0_eq (k : Nat) (a1 : Arg) (z606 : (List Sent)) : (blockC 0 (seqC (codeK E k fin (sub [1, 1, 1] C)) K0)) (.exit 0) ({ n := 23, sl := [(3, .own (.slc tSent) (ownMd (.slc tSent)) [] z606)], vr := [], lent := [] }) = Q0 k a1 z606 := (q0_eq k a1 z606).trans (by rfl)
noncomputable def s0 (k : Nat) (a1 : Arg) : ((List Sent) × Int) → Option Out := fun v402 => iterK (codeK E k fin (sub [1, 1, 0, 1, 0, 0] C)) (keepF [0, 3, 4] []) (blockC 0 (seqC (codeK E k fin (sub [1, 1, 1] C)) K0)) k ({ n := 23, sl := [(0, .val (.slc tSent) a1.1), (3, .own (.slc tSent) (ownMd (.slc tSent)) [] v402.1), (4, .val i64 v402.2)], vr := [], lent := [] })
noncomputable def r0 (k : Nat) (a1 : Arg) : ((List Sent) × Int) → Option Out := fun v402 => l0 k a1 (fun z => Q0 k a1 z) v402
theorem s0_eq (k : Nat) (a1 : Arg) : s0 k a1 = r0 k a1 := by
  funext v402;
  have h0 : X0_0 ((blockC 0 (seqC (codeK E k fin (sub [1, 1, 1] C)) K0))) a1 = fun z => Q0 k a1 z := funext fun z => Q0_eq k a1 z
  refine (l0_eq k ((blockC 0 (seqC (codeK E k fin (sub [1, 1, 1] C)) K0))) a1 v402).trans ?_
  rw [h0]
  rfl
noncomputable def p (l0 : ((List Sent) × Int) → Option Out) (a1 : Arg) : Option Out := if 0 ≤ (a1.1.length : Int) ∧ (a1.1.length : Int) ≤ (a1.1.length : Int) ∧ (a1.1.length : Int) ≤ (CAP : Int) then (l0 (List.replicate (a1.1.length : Int).toNat ((0 : Int), (0 : Int), ([] : List Change), ()), (0 : Int))) else none
noncomputable def raw (k : Nat) (a1 : Arg) : Option Out := p (r0 k a1) a1
theorem p_eq (k : Nat) (a1 : Arg) : bodyK E k Go.Proofs.Try.f14 ps rs [] [] a1 = p (s0 k a1) a1 := by kernel_rfl
theorem raw_eq (k : Nat) (a1 : Arg) : bodyK E k Go.Proofs.Try.f14 ps rs [] [] a1 = raw k a1 := (p_eq k a1).trans (by rw [s0_eq]; rfl)
theorem ent : EnterOk Go.Proofs.Try.prog 14 sig.cap := ⟨Go.Proofs.Try.f14, Go.Proofs.Try.func14, by kernel_rfl, by kernel_rfl, by kernel_rfl⟩
theorem env : EnvOk Go.Proofs.Try.prog E := env_ok (tl := [(22, (.slc tSent)), (25, (.slc tSent)), (140, tSent), (143, tSent)]) (gl := [(85, laws_toSent.sig)]) rfl rfl (by kernel_rfl) (by kernel_rfl) (fn_cons laws_toSent.snd laws_toSent.ent (fn_nil _))
theorem chk : funOk Go.Proofs.Try.prog E Go.Proofs.Try.f14 ps rs [] = true := by kernel_rfl
theorem snd : Sound Go.Proofs.Try.prog 14 sig := sound_of_body env Go.Proofs.Try.func14 rfl (es := []) (fr := []) chk (fun _ _ h => lift_some h)
end laws_toSentS
namespace laws_eqRow
/-! loop example g00408 laws eqRow -/
abbrev Arg : Type := Row × Row × Unit
abbrev Out : Type := Bool × Unit
noncomputable def ps : List (PM × Ty) := [(.ro, tRow), (.ro, tRow)]
noncomputable def rs : List (Ty × Md) := [(.bool, (roMd .bool))]
noncomputable def E : Env := { TI := lookN [(2, i64), (9, .str), (128, tRow)], G := lookN [], fz := [], lv := [], lx := [], lf := [], od := [] }
noncomputable def sem (a : Arg) : Option Out := lift fun k => bodyK E k Go.Proofs.Try.f146 ps rs [] [] a
noncomputable def sig : Sig := { ps := ps, rs := rs, F := fun a => sem a }
noncomputable def C : Code := bodyOf Go.Proofs.Try.f146
noncomputable def fin : St → Option Out := outK ps rs [] (Func.results Go.Proofs.Try.f146).toList (mvs [])
noncomputable def K0 : Ex → St → Option Out := endK fin
noncomputable def p (a1 : Arg) : Option Out := bif !decide (a1.1.1 = a1.2.1.1) then (some (false, ())) else bif !decide (a1.1.2.1 = a1.2.1.2.1) then (some (false, ())) else bif !decide (a1.1.2.2.1 = a1.2.1.2.2.1) then (some (false, ())) else bif !decide (a1.1.2.2.2.1 = a1.2.1.2.2.2.1) then (some (false, ())) else some (true, ())
noncomputable def raw (k : Nat) (a1 : Arg) : Option Out := p a1
theorem p_eq (k : Nat) (a1 : Arg) : bodyK E k Go.Proofs.Try.f146 ps rs [] [] a1 = p a1 := by kernel_rfl
theorem raw_eq (k : Nat) (a1 : Arg) : bodyK E k Go.Proofs.Try.f146 ps rs [] [] a1 = raw k a1 := (p_eq k a1).trans (by rfl)
theorem ent : EnterOk Go.Proofs.Try.prog 146 sig.cap := ⟨Go.Proofs.Try.f146, Go.Proofs.Try.func146, by kernel_rfl, by kernel_rfl, by kernel_rfl⟩
theorem env : EnvOk Go.Proofs.Try.prog E := env_ok (tl := [(2, i64), (9, .str), (128, tRow)]) (gl := []) rfl rfl (by kernel_rfl) (by kernel_rfl) (fn_nil _)
theorem chk : funOk Go.Proofs.Try.prog E Go.Proofs.Try.f146 ps rs [] = true := by kernel_rfl
theorem snd : Sound Go.Proofs.Try.prog 146 sig := sound_of_body env Go.Proofs.Try.func146 rfl (es := []) (fr := []) chk (fun _ _ h => lift_some h)
end laws_eqRow
namespace laws_eqChange
/-! loop example g00408 laws eqChange -/
abbrev Arg : Type := Change × Change × Unit
abbrev Out : Type := Bool × Unit
noncomputable def ps : List (PM × Ty) := [(.ro, tChange), (.ro, tChange)]
noncomputable def rs : List (Ty × Md) := [(.bool, (roMd .bool))]
noncomputable def E : Env := { TI := lookN [(4, .bool), (128, tRow), (130, tChange)], G := lookN [(146, laws_eqRow.sig)], fz := [], lv := [], lx := [], lf := [], od := [] }
noncomputable def sem (a : Arg) : Option Out := lift fun k => bodyK E k Go.Proofs.Try.f243 ps rs [] [] a
noncomputable def sig : Sig := { ps := ps, rs := rs, F := fun a => sem a }
noncomputable def C : Code := bodyOf Go.Proofs.Try.f243
noncomputable def fin : St → Option Out := outK ps rs [] (Func.results Go.Proofs.Try.f243).toList (mvs [])
noncomputable def K0 : Ex → St → Option Out := endK fin
noncomputable def p (a1 : Arg) : Option Out := bif !(a1.1.1 == a1.2.1.1) then (some (false, ())) else (laws_eqRow.sem (a1.1.2.1, a1.2.1.2.1, ())).bind fun r2 => bif !r2.1 then (some (false, ())) else bif !(a1.1.2.2.1 == a1.2.1.2.2.1) then (some (false, ())) else (laws_eqRow.sem (a1.1.2.2.2.1, a1.2.1.2.2.2.1, ())).bind fun r3 => bif !r3.1 then (some (false, ())) else some (true, ())
noncomputable def raw (k : Nat) (a1 : Arg) : Option Out := p a1
theorem p_eq (k : Nat) (a1 : Arg) : bodyK E k Go.Proofs.Try.f243 ps rs [] [] a1 = p a1 := by kernel_rfl
theorem raw_eq (k : Nat) (a1 : Arg) : bodyK E k Go.Proofs.Try.f243 ps rs [] [] a1 = raw k a1 := (p_eq k a1).trans (by rfl)
theorem ent : EnterOk Go.Proofs.Try.prog 243 sig.cap := ⟨Go.Proofs.Try.f243, Go.Proofs.Try.func243, by kernel_rfl, by kernel_rfl, by kernel_rfl⟩
theorem env : EnvOk Go.Proofs.Try.prog E := env_ok (tl := [(4, .bool), (128, tRow), (130, tChange)]) (gl := [(146, laws_eqRow.sig)]) rfl rfl (by kernel_rfl) (by kernel_rfl) (fn_cons laws_eqRow.snd laws_eqRow.ent (fn_nil _))
theorem chk : funOk Go.Proofs.Try.prog E Go.Proofs.Try.f243 ps rs [] = true := by kernel_rfl
theorem snd : Sound Go.Proofs.Try.prog 243 sig := sound_of_body env Go.Proofs.Try.func243 rfl (es := []) (fr := []) chk (fun _ _ h => lift_some h)
end laws_eqChange
namespace laws_eqChangeS
/-! loop example g00408 laws eqChangeS -/
abbrev Arg : Type := (List Change) × (List Change) × Unit
abbrev Out : Type := Bool × Unit
noncomputable def ps : List (PM × Ty) := [(.ro, (.slc tChange)), (.ro, (.slc tChange))]
noncomputable def rs : List (Ty × Md) := [(.bool, (roMd .bool))]
noncomputable def E : Env := { TI := lookN [(130, tChange), (141, (.slc tChange))], G := lookN [(243, laws_eqChange.sig)], fz := [], lv := [(4, [0, 1, 5])], lx := [(0, [])], lf := [], od := [(6, [0, 1, 2, 3, 4, 5, 6, 7, 8, 9])] }
noncomputable def sem (a : Arg) : Option Out := lift fun k => bodyK E k Go.Proofs.Try.f180 ps rs [] [] a
noncomputable def sig : Sig := { ps := ps, rs := rs, F := fun a => sem a }
noncomputable def C : Code := bodyOf Go.Proofs.Try.f180
noncomputable def fin : St → Option Out := outK ps rs [] (Func.results Go.Proofs.Try.f180).toList (mvs [])
noncomputable def K0 : Ex → St → Option Out := endK fin
noncomputable def S0 (rec : St → Option Out) (a1 : Arg) : (Int) → Option Out := fun v402 => rec ({ n := 27, sl := [(0, .val (.slc tChange) a1.1), (1, .val (.slc tChange) a1.2.1), (5, .val i64 v402)], vr := [], lent := [] })
noncomputable def X0_0 (K : Ex → St → Option Out) (a1 : Arg) : (Unit) → Option Out := fun z => K (.exit 0) ({ n := 27, sl := [], vr := [], lent := [] })
noncomputable def b0 (self : Int → Option Out) (e0 : (Unit) → Option Out) (a1 : Arg) (v402 : Int) : Option Out := bif decide (v402 < (a1.1.length : Int)) then (if 0 ≤ v402 then ((a1.1[v402.toNat]?).bind fun x603 => if 0 ≤ v402 then ((a1.2.1[v402.toNat]?).bind fun x604 => (laws_eqChange.sem (x603, x604, ())).bind fun r605 => bif !r605.1 then (some (false, ())) else self (w64 (v402 + (1 : Int)))) else none) else none) else e0 ()
noncomputable def B0 (k : Nat) (self : Int → Option Out) (e0 : (Unit) → Option Out) (a1 : Arg) (v402 : Int) : Option Out := b0 self e0 a1 v402
theorem b0_eq (k : Nat) (rec : St → Option Out) (K : Ex → St → Option Out) (a1 : Arg) (v402 : Int) : codeK E k fin (sub [1, 1, 0, 1, 0, 0] C) ({ n := 27, sl := [(0, .val (.slc tChange) a1.1), (1, .val (.slc tChange) a1.2.1), (5, .val i64 v402)], vr := [], lent := [] }) (loopC rec (keepF [0, 1, 5] []) K) = b0 (S0 rec a1) (X0_0 K a1) a1 v402 := by kernel_rfl
theorem B0_eq (k : Nat) (rec : St → Option Out) (K : Ex → St → Option Out) (a1 : Arg) (v402 : Int) : codeK E k fin (sub [1, 1, 0, 1, 0, 0] C) ({ n := 27, sl := [(0, .val (.slc tChange) a1.1), (1, .val (.slc tChange) a1.2.1), (5, .val i64 v402)], vr := [], lent := [] }) (loopC rec (keepF [0, 1, 5] []) K) = B0 k (S0 rec a1) (X0_0 K a1) a1 v402 := (b0_eq k rec K a1 v402).trans (by rfl)
noncomputable def l0 (k : Nat) (a1 : Arg) (e0 : (Unit) → Option Out) (v : Int) : Option Out := rawIter (fun self v => B0 k self e0 a1 v) k v
theorem l0_eq (k : Nat) (K : Ex → St → Option Out) (a1 : Arg) (v402 : Int) : iterK (codeK E k fin (sub [1, 1, 0, 1, 0, 0] C)) (keepF [0, 1, 5] []) K k ({ n := 27, sl := [(0, .val (.slc tChange) a1.1), (1, .val (.slc tChange) a1.2.1), (5, .val i64 v402)], vr := [], lent := [] }) = l0 k a1 (X0_0 K a1) v402 :=
  iter_raw _ _ K (fun v402 => ({ n := 27, sl := [(0, .val (.slc tChange) a1.1), (1, .val (.slc tChange) a1.2.1), (5, .val i64 v402)], vr := [], lent := [] } : St)) (fun self v => B0 k self (X0_0 K a1) a1 v) (fun rec v => B0_eq k rec K a1 v) k v402
noncomputable def q0 (a1 : Arg) (z606 : (Unit)) : Option Out := some (true, ())
noncomputable def Q0 (k : Nat) (a1 : Arg) (z606 : (Unit)) : Option Out := q0 a1 z606
theorem q0_eq (k : Nat) (a1 : Arg) (z606 : (Unit)) : (blockC 0 (seqC (codeK E k fin (sub [1, 1, 1] C)) K0)) (.exit 0) ({ n := 27, sl := [], vr := [], lent := [] }) = q0 a1 z606 := by kernel_rfl
theorem Q0_eq (k : Nat) (a1 : Arg) (z606 : (Unit)) : (blockC 0 (seqC (codeK E k fin (sub [1, 1, 1] C)) K0)) (.exit 0) ({ n := 27, sl := [], vr := [], lent := [] }) = Q0 k a1 z606 := (q0_eq k a1 z606).trans (by rfl)
noncomputable def s0 (k : Nat) (a1 : Arg) : (Int) → Option Out := fun v402 => iterK (codeK E k fin (sub [1, 1, 0, 1, 0, 0] C)) (keepF [0, 1, 5] []) (blockC 0 (seqC (codeK E k fin (sub [1, 1, 1] C)) K0)) k ({ n := 27, sl := [(0, .val (.slc tChange) a1.1), (1, .val (.slc tChange) a1.2.1), (5, .val i64 v402)], vr := [], lent := [] })
noncomputable def r0 (k : Nat) (a1 : Arg) : (Int) → Option Out := fun v402 => l0 k a1 (fun z => Q0 k a1 z) v402
theorem s0_eq (k : Nat) (a1 : Arg) : s0 k a1 = r0 k a1 := by
  funext v402;
  have h0 : X0_0 ((blockC 0 (seqC (codeK E k fin (sub [1, 1, 1] C)) K0))) a1 = fun z => Q0 k a1 z := funext fun z => Q0_eq k a1 z
  refine (l0_eq k ((blockC 0 (seqC (codeK E k fin (sub [1, 1, 1] C)) K0))) a1 v402).trans ?_
  rw [h0]
  rfl
noncomputable def p (l0 : (Int) → Option Out) (a1 : Arg) : Option Out := bif !decide ((a1.1.length : Int) = (a1.2.1.length : Int)) then (some (false, ())) else l0 (0 : Int)
noncomputable def raw (k : Nat) (a1 : Arg) : Option Out := p (r0 k a1) a1
theorem p_eq (k : Nat) (a1 : Arg) : bodyK E k Go.Proofs.Try.f180 ps rs [] [] a1 = p (s0 k a1) a1 := by kernel_rfl
theorem raw_eq (k : Nat) (a1 : Arg) : bodyK E k Go.Proofs.Try.f180 ps rs [] [] a1 = raw k a1 := (p_eq k a1).trans (by rw [s0_eq]; rfl)
theorem ent : EnterOk Go.Proofs.Try.prog 180 sig.cap := ⟨Go.Proofs.Try.f180, Go.Proofs.Try.func180, by kernel_rfl, by kernel_rfl, by kernel_rfl⟩
theorem env : EnvOk Go.Proofs.Try.prog E := env_ok (tl := [(130, tChange), (141, (.slc tChange))]) (gl := [(243, laws_eqChange.sig)]) rfl rfl (by kernel_rfl) (by kernel_rfl) (fn_cons laws_eqChange.snd laws_eqChange.ent (fn_nil _))
theorem chk : funOk Go.Proofs.Try.prog E Go.Proofs.Try.f180 ps rs [] = true := by kernel_rfl
theorem snd : Sound Go.Proofs.Try.prog 180 sig := sound_of_body env Go.Proofs.Try.func180 rfl (es := []) (fr := []) chk (fun _ _ h => lift_some h)
end laws_eqChangeS
namespace laws_eqSent
/-! loop example g00408 laws eqSent -/
abbrev Arg : Type := Sent × Sent × Unit
abbrev Out : Type := Bool × Unit
noncomputable def ps : List (PM × Ty) := [(.ro, tSent), (.ro, tSent)]
noncomputable def rs : List (Ty × Md) := [(.bool, (roMd .bool))]
noncomputable def E : Env := { TI := lookN [(2, i64), (141, (.slc tChange)), (143, tSent)], G := lookN [(180, laws_eqChangeS.sig)], fz := [], lv := [], lx := [], lf := [], od := [] }
noncomputable def sem (a : Arg) : Option Out := lift fun k => bodyK E k Go.Proofs.Try.f89 ps rs [] [] a
noncomputable def sig : Sig := { ps := ps, rs := rs, F := fun a => sem a }
noncomputable def C : Code := bodyOf Go.Proofs.Try.f89
noncomputable def fin : St → Option Out := outK ps rs [] (Func.results Go.Proofs.Try.f89).toList (mvs [])
noncomputable def K0 : Ex → St → Option Out := endK fin
noncomputable def p (a1 : Arg) : Option Out := bif !decide (a1.1.1 = a1.2.1.1) then (some (false, ())) else bif !decide (a1.1.2.1 = a1.2.1.2.1) then (some (false, ())) else (laws_eqChangeS.sem (a1.1.2.2.1, a1.2.1.2.2.1, ())).bind fun r2 => bif !r2.1 then (some (false, ())) else some (true, ())
noncomputable def raw (k : Nat) (a1 : Arg) : Option Out := p a1
theorem p_eq (k : Nat) (a1 : Arg) : bodyK E k Go.Proofs.Try.f89 ps rs [] [] a1 = p a1 := by kernel_rfl
theorem raw_eq (k : Nat) (a1 : Arg) : bodyK E k Go.Proofs.Try.f89 ps rs [] [] a1 = raw k a1 := (p_eq k a1).trans (by rfl)
theorem ent : EnterOk Go.Proofs.Try.prog 89 sig.cap := ⟨Go.Proofs.Try.f89, Go.Proofs.Try.func89, by kernel_rfl, by kernel_rfl, by kernel_rfl⟩
theorem env : EnvOk Go.Proofs.Try.prog E := env_ok (tl := [(2, i64), (141, (.slc tChange)), (143, tSent)]) (gl := [(180, laws_eqChangeS.sig)]) rfl rfl (by kernel_rfl) (by kernel_rfl) (fn_cons laws_eqChangeS.snd laws_eqChangeS.ent (fn_nil _))
theorem chk : funOk Go.Proofs.Try.prog E Go.Proofs.Try.f89 ps rs [] = true := by kernel_rfl
theorem snd : Sound Go.Proofs.Try.prog 89 sig := sound_of_body env Go.Proofs.Try.func89 rfl (es := []) (fr := []) chk (fun _ _ h => lift_some h)
end laws_eqSent
namespace laws_eqSentS
/-! loop example g00408 laws eqSentS -/
abbrev Arg : Type := (List Sent) × (List Sent) × Unit
abbrev Out : Type := Bool × Unit
noncomputable def ps : List (PM × Ty) := [(.ro, (.slc tSent)), (.ro, (.slc tSent))]
noncomputable def rs : List (Ty × Md) := [(.bool, (roMd .bool))]
noncomputable def E : Env := { TI := lookN [(25, (.slc tSent)), (143, tSent)], G := lookN [(89, laws_eqSent.sig)], fz := [], lv := [(4, [0, 1, 5])], lx := [(0, [])], lf := [], od := [(6, [0, 1, 2, 3, 4, 5, 6, 7, 8, 9])] }
noncomputable def sem (a : Arg) : Option Out := lift fun k => bodyK E k Go.Proofs.Try.f16 ps rs [] [] a
noncomputable def sig : Sig := { ps := ps, rs := rs, F := fun a => sem a }
noncomputable def C : Code := bodyOf Go.Proofs.Try.f16
noncomputable def fin : St → Option Out := outK ps rs [] (Func.results Go.Proofs.Try.f16).toList (mvs [])
noncomputable def K0 : Ex → St → Option Out := endK fin
noncomputable def S0 (rec : St → Option Out) (a1 : Arg) : (Int) → Option Out := fun v402 => rec ({ n := 27, sl := [(0, .val (.slc tSent) a1.1), (1, .val (.slc tSent) a1.2.1), (5, .val i64 v402)], vr := [], lent := [] })
noncomputable def X0_0 (K : Ex → St → Option Out) (a1 : Arg) : (Unit) → Option Out := fun z => K (.exit 0) ({ n := 27, sl := [], vr := [], lent := [] })
noncomputable def b0 (self : Int → Option Out) (e0 : (Unit) → Option Out) (a1 : Arg) (v402 : Int) : Option Out := bif decide (v402 < (a1.1.length : Int)) then (if 0 ≤ v402 then ((a1.1[v402.toNat]?).bind fun x603 => if 0 ≤ v402 then ((a1.2.1[v402.toNat]?).bind fun x604 => (laws_eqSent.sem (x603, x604, ())).bind fun r605 => bif !r605.1 then (some (false, ())) else self (w64 (v402 + (1 : Int)))) else none) else none) else e0 ()
noncomputable def B0 (k : Nat) (self : Int → Option Out) (e0 : (Unit) → Option Out) (a1 : Arg) (v402 : Int) : Option Out := b0 self e0 a1 v402
theorem b0_eq (k : Nat) (rec : St → Option Out) (K : Ex → St → Option Out) (a1 : Arg) (v402 : Int) : codeK E k fin (sub [1, 1, 0, 1, 0, 0] C) ({ n := 27, sl := [(0, .val (.slc tSent) a1.1), (1, .val (.slc tSent) a1.2.1), (5, .val i64 v402)], vr := [], lent := [] }) (loopC rec (keepF [0, 1, 5] []) K) = b0 (S0 rec a1) (X0_0 K a1) a1 v402 := by kernel_rfl
theorem B0_eq (k : Nat) (rec : St → Option Out) (K : Ex → St → Option Out) (a1 : Arg) (v402 : Int) : codeK E k fin (sub [1, 1, 0, 1, 0, 0] C) ({ n := 27, sl := [(0, .val (.slc tSent) a1.1), (1, .val (.slc tSent) a1.2.1), (5, .val i64 v402)], vr := [], lent := [] }) (loopC rec (keepF [0, 1, 5] []) K) = B0 k (S0 rec a1) (X0_0 K a1) a1 v402 := (b0_eq k rec K a1 v402).trans (by rfl)
noncomputable def l0 (k : Nat) (a1 : Arg) (e0 : (Unit) → Option Out) (v : Int) : Option Out := rawIter (fun self v => B0 k self e0 a1 v) k v
theorem l0_eq (k : Nat) (K : Ex → St → Option Out) (a1 : Arg) (v402 : Int) : iterK (codeK E k fin (sub [1, 1, 0, 1, 0, 0] C)) (keepF [0, 1, 5] []) K k ({ n := 27, sl := [(0, .val (.slc tSent) a1.1), (1, .val (.slc tSent) a1.2.1), (5, .val i64 v402)], vr := [], lent := [] }) = l0 k a1 (X0_0 K a1) v402 :=
  iter_raw _ _ K (fun v402 => ({ n := 27, sl := [(0, .val (.slc tSent) a1.1), (1, .val (.slc tSent) a1.2.1), (5, .val i64 v402)], vr := [], lent := [] } : St)) (fun self v => B0 k self (X0_0 K a1) a1 v) (fun rec v => B0_eq k rec K a1 v) k v402
noncomputable def q0 (a1 : Arg) (z606 : (Unit)) : Option Out := some (true, ())
noncomputable def Q0 (k : Nat) (a1 : Arg) (z606 : (Unit)) : Option Out := q0 a1 z606
theorem q0_eq (k : Nat) (a1 : Arg) (z606 : (Unit)) : (blockC 0 (seqC (codeK E k fin (sub [1, 1, 1] C)) K0)) (.exit 0) ({ n := 27, sl := [], vr := [], lent := [] }) = q0 a1 z606 := by kernel_rfl
theorem Q0_eq (k : Nat) (a1 : Arg) (z606 : (Unit)) : (blockC 0 (seqC (codeK E k fin (sub [1, 1, 1] C)) K0)) (.exit 0) ({ n := 27, sl := [], vr := [], lent := [] }) = Q0 k a1 z606 := (q0_eq k a1 z606).trans (by rfl)
noncomputable def s0 (k : Nat) (a1 : Arg) : (Int) → Option Out := fun v402 => iterK (codeK E k fin (sub [1, 1, 0, 1, 0, 0] C)) (keepF [0, 1, 5] []) (blockC 0 (seqC (codeK E k fin (sub [1, 1, 1] C)) K0)) k ({ n := 27, sl := [(0, .val (.slc tSent) a1.1), (1, .val (.slc tSent) a1.2.1), (5, .val i64 v402)], vr := [], lent := [] })
noncomputable def r0 (k : Nat) (a1 : Arg) : (Int) → Option Out := fun v402 => l0 k a1 (fun z => Q0 k a1 z) v402
theorem s0_eq (k : Nat) (a1 : Arg) : s0 k a1 = r0 k a1 := by
  funext v402;
  have h0 : X0_0 ((blockC 0 (seqC (codeK E k fin (sub [1, 1, 1] C)) K0))) a1 = fun z => Q0 k a1 z := funext fun z => Q0_eq k a1 z
  refine (l0_eq k ((blockC 0 (seqC (codeK E k fin (sub [1, 1, 1] C)) K0))) a1 v402).trans ?_
  rw [h0]
  rfl
noncomputable def p (l0 : (Int) → Option Out) (a1 : Arg) : Option Out := bif !decide ((a1.1.length : Int) = (a1.2.1.length : Int)) then (some (false, ())) else l0 (0 : Int)
noncomputable def raw (k : Nat) (a1 : Arg) : Option Out := p (r0 k a1) a1
theorem p_eq (k : Nat) (a1 : Arg) : bodyK E k Go.Proofs.Try.f16 ps rs [] [] a1 = p (s0 k a1) a1 := by kernel_rfl
theorem raw_eq (k : Nat) (a1 : Arg) : bodyK E k Go.Proofs.Try.f16 ps rs [] [] a1 = raw k a1 := (p_eq k a1).trans (by rw [s0_eq]; rfl)
theorem ent : EnterOk Go.Proofs.Try.prog 16 sig.cap := ⟨Go.Proofs.Try.f16, Go.Proofs.Try.func16, by kernel_rfl, by kernel_rfl, by kernel_rfl⟩
theorem env : EnvOk Go.Proofs.Try.prog E := env_ok (tl := [(25, (.slc tSent)), (143, tSent)]) (gl := [(89, laws_eqSent.sig)]) rfl rfl (by kernel_rfl) (by kernel_rfl) (fn_cons laws_eqSent.snd laws_eqSent.ent (fn_nil _))
theorem chk : funOk Go.Proofs.Try.prog E Go.Proofs.Try.f16 ps rs [] = true := by kernel_rfl
theorem snd : Sound Go.Proofs.Try.prog 16 sig := sound_of_body env Go.Proofs.Try.func16 rfl (es := []) (fr := []) chk (fun _ _ h => lift_some h)
end laws_eqSentS
namespace spec_l1In
/-! loop example g00408 spec l1In -/
abbrev Arg : Type := Int × Int × Int × Unit
abbrev Out : Type := Bool × Unit
noncomputable def ps : List (PM × Ty) := [(.ro, i64), (.ro, i64), (.ro, i64)]
noncomputable def rs : List (Ty × Md) := [(.bool, (roMd .bool))]
noncomputable def E : Env := { TI := lookN [], G := lookN [], fz := [], lv := [], lx := [], lf := [], od := [] }
noncomputable def sem (a : Arg) : Option Out := lift fun k => bodyK E k Go.Proofs.Try.f90 ps rs [] [] a
noncomputable def sig : Sig := { ps := ps, rs := rs, F := fun a => sem a }
noncomputable def C : Code := bodyOf Go.Proofs.Try.f90
noncomputable def fin : St → Option Out := outK ps rs [] (Func.results Go.Proofs.Try.f90).toList (mvs [])
noncomputable def K0 : Ex → St → Option Out := endK fin
noncomputable def p (a1 : Arg) : Option Out := bif decide (a1.2.1 ≤ a1.1) then (some (decide (a1.1 ≤ a1.2.2.1), ())) else some (false, ())
noncomputable def raw (k : Nat) (a1 : Arg) : Option Out := p a1
theorem p_eq (k : Nat) (a1 : Arg) : bodyK E k Go.Proofs.Try.f90 ps rs [] [] a1 = p a1 := by kernel_rfl
theorem raw_eq (k : Nat) (a1 : Arg) : bodyK E k Go.Proofs.Try.f90 ps rs [] [] a1 = raw k a1 := (p_eq k a1).trans (by rfl)
theorem ent : EnterOk Go.Proofs.Try.prog 90 sig.cap := ⟨Go.Proofs.Try.f90, Go.Proofs.Try.func90, by kernel_rfl, by kernel_rfl, by kernel_rfl⟩
theorem env : EnvOk Go.Proofs.Try.prog E := env_ok (tl := []) (gl := []) rfl rfl (by kernel_rfl) (by kernel_rfl) (fn_nil _)
theorem chk : funOk Go.Proofs.Try.prog E Go.Proofs.Try.f90 ps rs [] = true := by kernel_rfl
theorem snd : Sound Go.Proofs.Try.prog 90 sig := sound_of_body env Go.Proofs.Try.func90 rfl (es := []) (fr := []) chk (fun _ _ h => lift_some h)
end spec_l1In
namespace impl_in
/-! loop example g00408 impl in -/
abbrev Arg : Type := Int × Int × Int × Unit
abbrev Out : Type := Bool × Unit
noncomputable def ps : List (PM × Ty) := [(.ro, i64), (.ro, i64), (.ro, i64)]
noncomputable def rs : List (Ty × Md) := [(.bool, (roMd .bool))]
noncomputable def E : Env := { TI := lookN [], G := lookN [], fz := [], lv := [], lx := [], lf := [], od := [] }
noncomputable def sem (a : Arg) : Option Out := lift fun k => bodyK E k Go.Proofs.Try.f91 ps rs [] [] a
noncomputable def sig : Sig := { ps := ps, rs := rs, F := fun a => sem a }
noncomputable def C : Code := bodyOf Go.Proofs.Try.f91
noncomputable def fin : St → Option Out := outK ps rs [] (Func.results Go.Proofs.Try.f91).toList (mvs [])
noncomputable def K0 : Ex → St → Option Out := endK fin
noncomputable def p (a1 : Arg) : Option Out := bif decide (a1.2.1 ≤ a1.1) then (some (decide (a1.1 ≤ a1.2.2.1), ())) else some (false, ())
noncomputable def raw (k : Nat) (a1 : Arg) : Option Out := p a1
theorem p_eq (k : Nat) (a1 : Arg) : bodyK E k Go.Proofs.Try.f91 ps rs [] [] a1 = p a1 := by kernel_rfl
theorem raw_eq (k : Nat) (a1 : Arg) : bodyK E k Go.Proofs.Try.f91 ps rs [] [] a1 = raw k a1 := (p_eq k a1).trans (by rfl)
theorem ent : EnterOk Go.Proofs.Try.prog 91 sig.cap := ⟨Go.Proofs.Try.f91, Go.Proofs.Try.func91, by kernel_rfl, by kernel_rfl, by kernel_rfl⟩
theorem env : EnvOk Go.Proofs.Try.prog E := env_ok (tl := []) (gl := []) rfl rfl (by kernel_rfl) (by kernel_rfl) (fn_nil _)
theorem chk : funOk Go.Proofs.Try.prog E Go.Proofs.Try.f91 ps rs [] = true := by kernel_rfl
theorem snd : Sound Go.Proofs.Try.prog 91 sig := sound_of_body env Go.Proofs.Try.func91 rfl (es := []) (fr := []) chk (fun _ _ h => lift_some h)
end impl_in
namespace laws_markText
/-! loop example g00408 laws markText -/
abbrev Arg : Type := Int × Unit
abbrev Out : Type := (List UInt8) × Unit
noncomputable def ps : List (PM × Ty) := [(.ro, i64)]
noncomputable def rs : List (Ty × Md) := [(.str, (roMd .str))]
noncomputable def E : Env := { TI := lookN [(3, i64), (5, u8), (9, .str), (39, (.slc u8))], G := lookN [], fz := [], lv := [(4, [0, 3])], lx := [(0, [3])], lf := [], od := [] }
noncomputable def sem (a : Arg) : Option Out := lift fun k => bodyK E k Go.Proofs.Try.f147 ps rs [] [] a
noncomputable def sig : Sig := { ps := ps, rs := rs, F := fun a => sem a }
noncomputable def C : Code := bodyOf Go.Proofs.Try.f147
noncomputable def fin : St → Option Out := outK ps rs [] (Func.results Go.Proofs.Try.f147).toList (mvs [])
noncomputable def K0 : Ex → St → Option Out := endK fin
noncomputable def S0 (rec : St → Option Out) (a1 : Arg) : (Int × (List UInt8)) → Option Out := fun v402 => rec ({ n := 20, sl := [(0, .val i64 v402.1), (3, .val .str v402.2)], vr := [], lent := [] })
noncomputable def X0_0 (K : Ex → St → Option Out) (a1 : Arg) : (List UInt8) → Option Out := fun z => K (.exit 0) ({ n := 20, sl := [(3, .val .str z)], vr := [], lent := [] })
noncomputable def b0 (self : (Int × (List UInt8)) → Option Out) (e0 : (List UInt8) → Option Out) (a1 : Arg) (v402 : Int × (List UInt8)) : Option Out := bif decide ((0 : Int) < v402.1) then (if [UInt8.ofInt (w64 ((48 : Int) + (v402.1.tmod (10 : Int))))].length + v402.2.length ≤ CAP then (self (w64 (v402.1.tdiv (10 : Int)), [UInt8.ofInt (w64 ((48 : Int) + (v402.1.tmod (10 : Int))))] ++ v402.2)) else none) else e0 v402.2
noncomputable def B0 (k : Nat) (self : (Int × (List UInt8)) → Option Out) (e0 : (List UInt8) → Option Out) (a1 : Arg) (v402 : Int × (List UInt8)) : Option Out := b0 self e0 a1 v402
theorem b0_eq (k : Nat) (rec : St → Option Out) (K : Ex → St → Option Out) (a1 : Arg) (v402 : Int × (List UInt8)) : codeK E k fin (sub [1, 1, 1, 0, 0, 0] C) ({ n := 20, sl := [(0, .val i64 v402.1), (3, .val .str v402.2)], vr := [], lent := [] }) (loopC rec (keepF [0, 3] []) K) = b0 (S0 rec a1) (X0_0 K a1) a1 v402 := by kernel_rfl
theorem B0_eq (k : Nat) (rec : St → Option Out) (K : Ex → St → Option Out) (a1 : Arg) (v402 : Int × (List UInt8)) : codeK E k fin (sub [1, 1, 1, 0, 0, 0] C) ({ n := 20, sl := [(0, .val i64 v402.1), (3, .val .str v402.2)], vr := [], lent := [] }) (loopC rec (keepF [0, 3] []) K) = B0 k (S0 rec a1) (X0_0 K a1) a1 v402 := (b0_eq k rec K a1 v402).trans (by rfl)
noncomputable def l0 (k : Nat) (a1 : Arg) (e0 : (List UInt8) → Option Out) (v : Int × (List UInt8)) : Option Out := rawIter (fun self v => B0 k self e0 a1 v) k v
theorem l0_eq (k : Nat) (K : Ex → St → Option Out) (a1 : Arg) (v402 : Int × (List UInt8)) : iterK (codeK E k fin (sub [1, 1, 1, 0, 0, 0] C)) (keepF [0, 3] []) K k ({ n := 20, sl := [(0, .val i64 v402.1), (3, .val .str v402.2)], vr := [], lent := [] }) = l0 k a1 (X0_0 K a1) v402 :=
  iter_raw _ _ K (fun v402 => ({ n := 20, sl := [(0, .val i64 v402.1), (3, .val .str v402.2)], vr := [], lent := [] } : St)) (fun self v => B0 k self (X0_0 K a1) a1 v) (fun rec v => B0_eq k rec K a1 v) k v402
noncomputable def q0 (a1 : Arg) (z603 : (List UInt8)) : Option Out := if ([109] : List UInt8).length + z603.length ≤ CAP then (some (([109] : List UInt8) ++ z603, ())) else none
noncomputable def Q0 (k : Nat) (a1 : Arg) (z603 : (List UInt8)) : Option Out := q0 a1 z603
theorem q0_eq (k : Nat) (a1 : Arg) (z603 : (List UInt8)) : (blockC 0 (seqC (codeK E k fin (sub [1, 1, 1, 1] C)) K0)) (.exit 0) ({ n := 20, sl := [(3, .val .str z603)], vr := [], lent := [] }) = q0 a1 z603 := by kernel_rfl
theorem Q0_eq (k : Nat) (a1 : Arg) (z603 : (List UInt8)) : (blockC 0 (seqC (codeK E k fin (sub [1, 1, 1, 1] C)) K0)) (.exit 0) ({ n := 20, sl := [(3, .val .str z603)], vr := [], lent := [] }) = Q0 k a1 z603 := (q0_eq k a1 z603).trans (by rfl)
noncomputable def s0 (k : Nat) (a1 : Arg) : (Int × (List UInt8)) → Option Out := fun v402 => iterK (codeK E k fin (sub [1, 1, 1, 0, 0, 0] C)) (keepF [0, 3] []) (blockC 0 (seqC (codeK E k fin (sub [1, 1, 1, 1] C)) K0)) k ({ n := 20, sl := [(0, .val i64 v402.1), (3, .val .str v402.2)], vr := [], lent := [] })
noncomputable def r0 (k : Nat) (a1 : Arg) : (Int × (List UInt8)) → Option Out := fun v402 => l0 k a1 (fun z => Q0 k a1 z) v402
theorem s0_eq (k : Nat) (a1 : Arg) : s0 k a1 = r0 k a1 := by
  funext v402;
  have h0 : X0_0 ((blockC 0 (seqC (codeK E k fin (sub [1, 1, 1, 1] C)) K0))) a1 = fun z => Q0 k a1 z := funext fun z => Q0_eq k a1 z
  refine (l0_eq k ((blockC 0 (seqC (codeK E k fin (sub [1, 1, 1, 1] C)) K0))) a1 v402).trans ?_
  rw [h0]
  rfl
noncomputable def p (l0 : (Int × (List UInt8)) → Option Out) (a1 : Arg) : Option Out := bif decide (a1.1 ≤ (0 : Int)) then (some (([109, 48] : List UInt8), ())) else l0 (a1.1, ([] : List UInt8))
noncomputable def raw (k : Nat) (a1 : Arg) : Option Out := p (r0 k a1) a1
theorem p_eq (k : Nat) (a1 : Arg) : bodyK E k Go.Proofs.Try.f147 ps rs [] [] a1 = p (s0 k a1) a1 := by kernel_rfl
theorem raw_eq (k : Nat) (a1 : Arg) : bodyK E k Go.Proofs.Try.f147 ps rs [] [] a1 = raw k a1 := (p_eq k a1).trans (by rw [s0_eq]; rfl)
theorem ent : EnterOk Go.Proofs.Try.prog 147 sig.cap := ⟨Go.Proofs.Try.f147, Go.Proofs.Try.func147, by kernel_rfl, by kernel_rfl, by kernel_rfl⟩
theorem env : EnvOk Go.Proofs.Try.prog E := env_ok (tl := [(3, i64), (5, u8), (9, .str), (39, (.slc u8))]) (gl := []) rfl rfl (by kernel_rfl) (by kernel_rfl) (fn_nil _)
theorem chk : funOk Go.Proofs.Try.prog E Go.Proofs.Try.f147 ps rs [] = true := by kernel_rfl
theorem snd : Sound Go.Proofs.Try.prog 147 sig := sound_of_body env Go.Proofs.Try.func147 rfl (es := []) (fr := []) chk (fun _ _ h => lift_some h)
end laws_markText
namespace laws_markChangeS
/-! loop example g00408 laws markChangeS -/
abbrev Arg : Type := (List Change) × Int × Unit
abbrev Out : Type := Int × (List Change) × Unit
noncomputable def ps : List (PM × Ty) := [(.muts (ownMd (.slc tChange)), (.slc tChange)), (.ro, i64)]
noncomputable def rs : List (Ty × Md) := [(i64, (roMd i64))]
noncomputable def E : Env := { TI := lookN [(2, i64), (4, .bool), (9, .str), (128, tRow), (130, tChange), (141, (.slc tChange))], G := lookN [(147, laws_markText.sig)], fz := [], lv := [(2, [0, 1, 5])], lx := [(0, [0, 1])], lf := [], od := [] }
noncomputable def sem (a : Arg) : Option Out := lift fun k => bodyK E k Go.Proofs.Try.f148 ps rs [0] [] a
noncomputable def sig : Sig := { ps := ps, rs := rs, F := fun a => sem a }
noncomputable def C : Code := bodyOf Go.Proofs.Try.f148
noncomputable def fin : St → Option Out := outK ps rs [0] (Func.results Go.Proofs.Try.f148).toList (mvs [])
noncomputable def K0 : Ex → St → Option Out := endK fin
noncomputable def S0 (rec : St → Option Out) (a1 : Arg) : ((List Change) × Int × Int) → Option Out := fun v402 => rec ({ n := 97, sl := [(0, .own (.slc tChange) (ownMd (.slc tChange)) [] v402.1), (1, .val i64 v402.2.1), (5, .val i64 v402.2.2)], vr := [], lent := [(0, 0, true)] })
noncomputable def X0_0 (K : Ex → St → Option Out) (a1 : Arg) : ((List Change) × Int) → Option Out := fun z => K (.exit 0) ({ n := 97, sl := [(0, .own (.slc tChange) (ownMd (.slc tChange)) [] z.1), (1, .val i64 z.2)], vr := [], lent := [(0, 0, true)] })
noncomputable def b0 (self : ((List Change) × Int × Int) → Option Out) (e0 : ((List Change) × Int) → Option Out) (a1 : Arg) (v402 : (List Change) × Int × Int) : Option Out := bif decide (v402.2.2 < (v402.1.length : Int)) then (if 0 ≤ v402.2.2 ∧ v402.2.2 < (v402.1.length : Int) then ((v402.1[v402.2.2.toNat]?).bind fun x603 => let y604 := v402.1.set v402.2.2.toNat (decide (v402.2.1.tmod (3 : Int) = (0 : Int)), x603.2); if 0 ≤ v402.2.2 ∧ v402.2.2 < (y604.length : Int) then ((y604[v402.2.2.toNat]?).bind fun x605 => let y606 := y604.set v402.2.2.toNat (x605.1, (w64 (v402.2.1 + (1 : Int)), x605.2.1.2), x605.2.2); if 0 ≤ v402.2.2 ∧ v402.2.2 < (y606.length : Int) then ((y606[v402.2.2.toNat]?).bind fun x607 => let y608 := y606.set v402.2.2.toNat (x607.1, (x607.2.1.1, w64 ((w64 (v402.2.1 + (1 : Int))) + (1 : Int)), x607.2.1.2.2), x607.2.2); if 0 ≤ v402.2.2 ∧ v402.2.2 < (y608.length : Int) then ((y608[v402.2.2.toNat]?).bind fun x609 => let y610 := y608.set v402.2.2.toNat (x609.1, (x609.2.1.1, x609.2.1.2.1, w64 ((w64 ((w64 (v402.2.1 + (1 : Int))) + (1 : Int))) + (1 : Int)), x609.2.1.2.2.2), x609.2.2); (laws_markText.sem (w64 ((w64 ((w64 ((w64 (v402.2.1 + (1 : Int))) + (1 : Int))) + (1 : Int))) + (1 : Int)), ())).bind fun r611 => if 0 ≤ v402.2.2 ∧ v402.2.2 < (y610.length : Int) then ((y610[v402.2.2.toNat]?).bind fun x612 => let y613 := y610.set v402.2.2.toNat (x612.1, (x612.2.1.1, x612.2.1.2.1, x612.2.1.2.2.1, r611.1, x612.2.1.2.2.2.2), x612.2.2); if 0 ≤ v402.2.2 ∧ v402.2.2 < (y613.length : Int) then ((y613[v402.2.2.toNat]?).bind fun x614 => let y615 := y613.set v402.2.2.toNat (x614.1, x614.2.1, decide ((w64 ((w64 ((w64 ((w64 ((w64 (v402.2.1 + (1 : Int))) + (1 : Int))) + (1 : Int))) + (1 : Int))) + (1 : Int))).tmod (3 : Int) = (0 : Int)), x614.2.2.2); if 0 ≤ v402.2.2 ∧ v402.2.2 < (y615.length : Int) then ((y615[v402.2.2.toNat]?).bind fun x616 => let y617 := y615.set v402.2.2.toNat (x616.1, x616.2.1, x616.2.2.1, (w64 ((w64 ((w64 ((w64 ((w64 ((w64 (v402.2.1 + (1 : Int))) + (1 : Int))) + (1 : Int))) + (1 : Int))) + (1 : Int))) + (1 : Int)), x616.2.2.2.1.2), x616.2.2.2.2); if 0 ≤ v402.2.2 ∧ v402.2.2 < (y617.length : Int) then ((y617[v402.2.2.toNat]?).bind fun x618 => let y619 := y617.set v402.2.2.toNat (x618.1, x618.2.1, x618.2.2.1, (x618.2.2.2.1.1, w64 ((w64 ((w64 ((w64 ((w64 ((w64 ((w64 (v402.2.1 + (1 : Int))) + (1 : Int))) + (1 : Int))) + (1 : Int))) + (1 : Int))) + (1 : Int))) + (1 : Int)), x618.2.2.2.1.2.2), x618.2.2.2.2); if 0 ≤ v402.2.2 ∧ v402.2.2 < (y619.length : Int) then ((y619[v402.2.2.toNat]?).bind fun x620 => let y621 := y619.set v402.2.2.toNat (x620.1, x620.2.1, x620.2.2.1, (x620.2.2.2.1.1, x620.2.2.2.1.2.1, w64 ((w64 ((w64 ((w64 ((w64 ((w64 ((w64 ((w64 (v402.2.1 + (1 : Int))) + (1 : Int))) + (1 : Int))) + (1 : Int))) + (1 : Int))) + (1 : Int))) + (1 : Int))) + (1 : Int)), x620.2.2.2.1.2.2.2), x620.2.2.2.2); (laws_markText.sem (w64 ((w64 ((w64 ((w64 ((w64 ((w64 ((w64 ((w64 ((w64 (v402.2.1 + (1 : Int))) + (1 : Int))) + (1 : Int))) + (1 : Int))) + (1 : Int))) + (1 : Int))) + (1 : Int))) + (1 : Int))) + (1 : Int)), ())).bind fun r622 => if 0 ≤ v402.2.2 ∧ v402.2.2 < (y621.length : Int) then ((y621[v402.2.2.toNat]?).bind fun x623 => let y624 := y621.set v402.2.2.toNat (x623.1, x623.2.1, x623.2.2.1, (x623.2.2.2.1.1, x623.2.2.2.1.2.1, x623.2.2.2.1.2.2.1, r622.1, x623.2.2.2.1.2.2.2.2), x623.2.2.2.2); self (y624, w64 ((w64 ((w64 ((w64 ((w64 ((w64 ((w64 ((w64 ((w64 ((w64 (v402.2.1 + (1 : Int))) + (1 : Int))) + (1 : Int))) + (1 : Int))) + (1 : Int))) + (1 : Int))) + (1 : Int))) + (1 : Int))) + (1 : Int))) + (1 : Int)), w64 (v402.2.2 + (1 : Int)))) else none) else none) else none) else none) else none) else none) else none) else none) else none) else none) else e0 (v402.1, v402.2.1)
noncomputable def B0 (k : Nat) (self : ((List Change) × Int × Int) → Option Out) (e0 : ((List Change) × Int) → Option Out) (a1 : Arg) (v402 : (List Change) × Int × Int) : Option Out := b0 self e0 a1 v402
theorem b0_eq (k : Nat) (rec : St → Option Out) (K : Ex → St → Option Out) (a1 : Arg) (v402 : (List Change) × Int × Int) : codeK E k fin (sub [1, 0, 1, 0, 0] C) ({ n := 97, sl := [(0, .own (.slc tChange) (ownMd (.slc tChange)) [] v402.1), (1, .val i64 v402.2.1), (5, .val i64 v402.2.2)], vr := [], lent := [(0, 0, true)] }) (loopC rec (keepF [0, 1, 5] []) K) = b0 (S0 rec a1) (X0_0 K a1) a1 v402 := by kernel_rfl
theorem B0_eq (k : Nat) (rec : St → Option Out) (K : Ex → St → Option Out) (a1 : Arg) (v402 : (List Change) × Int × Int) : codeK E k fin (sub [1, 0, 1, 0, 0] C) ({ n := 97, sl := [(0, .own (.slc tChange) (ownMd (.slc tChange)) [] v402.1), (1, .val i64 v402.2.1), (5, .val i64 v402.2.2)], vr := [], lent := [(0, 0, true)] }) (loopC rec (keepF [0, 1, 5] []) K) = B0 k (S0 rec a1) (X0_0 K a1) a1 v402 := (b0_eq k rec K a1 v402).trans (by rfl)
noncomputable def l0 (k : Nat) (a1 : Arg) (e0 : ((List Change) × Int) → Option Out) (v : (List Change) × Int × Int) : Option Out := rawIter (fun self v => B0 k self e0 a1 v) k v
theorem l0_eq (k : Nat) (K : Ex → St → Option Out) (a1 : Arg) (v402 : (List Change) × Int × Int) : iterK (codeK E k fin (sub [1, 0, 1, 0, 0] C)) (keepF [0, 1, 5] []) K k ({ n := 97, sl := [(0, .own (.slc tChange) (ownMd (.slc tChange)) [] v402.1), (1, .val i64 v402.2.1), (5, .val i64 v402.2.2)], vr := [], lent := [(0, 0, true)] }) = l0 k a1 (X0_0 K a1) v402 :=
  iter_raw _ _ K (fun v402 => ({ n := 97, sl := [(0, .own (.slc tChange) (ownMd (.slc tChange)) [] v402.1), (1, .val i64 v402.2.1), (5, .val i64 v402.2.2)], vr := [], lent := [(0, 0, true)] } : St)) (fun self v => B0 k self (X0_0 K a1) a1 v) (fun rec v => B0_eq k rec K a1 v) k v402
noncomputable def q0 (a1 : Arg) (z625 : ((List Change) × Int)) : Option Out := some (z625.2, z625.1, ())
noncomputable def Q0 (k : Nat) (a1 : Arg) (z625 : ((List Change) × Int)) : Option Out := q0 a1 z625
theorem q0_eq (k : Nat) (a1 : Arg) (z625 : ((List Change) × Int)) : (blockC 0 (seqC (codeK E k fin (sub [1, 1] C)) K0)) (.exit 0) ({ n := 97, sl := [(0, .own (.slc tChange) (ownMd (.slc tChange)) [] z625.1), (1, .val i64 z625.2)], vr := [], lent := [(0, 0, true)] }) = q0 a1 z625 := by kernel_rfl
theorem Q0_eq (k : Nat) (a1 : Arg) (z625 : ((List Change) × Int)) : (blockC 0 (seqC (codeK E k fin (sub [1, 1] C)) K0)) (.exit 0) ({ n := 97, sl := [(0, .own (.slc tChange) (ownMd (.slc tChange)) [] z625.1), (1, .val i64 z625.2)], vr := [], lent := [(0, 0, true)] }) = Q0 k a1 z625 := (q0_eq k a1 z625).trans (by rfl)
noncomputable def s0 (k : Nat) (a1 : Arg) : ((List Change) × Int × Int) → Option Out := fun v402 => iterK (codeK E k fin (sub [1, 0, 1, 0, 0] C)) (keepF [0, 1, 5] []) (blockC 0 (seqC (codeK E k fin (sub [1, 1] C)) K0)) k ({ n := 97, sl := [(0, .own (.slc tChange) (ownMd (.slc tChange)) [] v402.1), (1, .val i64 v402.2.1), (5, .val i64 v402.2.2)], vr := [], lent := [(0, 0, true)] })
noncomputable def r0 (k : Nat) (a1 : Arg) : ((List Change) × Int × Int) → Option Out := fun v402 => l0 k a1 (fun z => Q0 k a1 z) v402
theorem s0_eq (k : Nat) (a1 : Arg) : s0 k a1 = r0 k a1 := by
  funext v402;
  have h0 : X0_0 ((blockC 0 (seqC (codeK E k fin (sub [1, 1] C)) K0))) a1 = fun z => Q0 k a1 z := funext fun z => Q0_eq k a1 z
  refine (l0_eq k ((blockC 0 (seqC (codeK E k fin (sub [1, 1] C)) K0))) a1 v402).trans ?_
  rw [h0]
  rfl
noncomputable def p (l0 : ((List Change) × Int × Int) → Option Out) (a1 : Arg) : Option Out := l0 (a1.1, a1.2.1, (0 : Int))
noncomputable def raw (k : Nat) (a1 : Arg) : Option Out := p (r0 k a1) a1
theorem p_eq (k : Nat) (a1 : Arg) : bodyK E k Go.Proofs.Try.f148 ps rs [0] [] a1 = p (s0 k a1) a1 := by kernel_rfl
theorem raw_eq (k : Nat) (a1 : Arg) : bodyK E k Go.Proofs.Try.f148 ps rs [0] [] a1 = raw k a1 := (p_eq k a1).trans (by rw [s0_eq]; rfl)
theorem ent : EnterOk Go.Proofs.Try.prog 148 sig.cap := ⟨Go.Proofs.Try.f148, Go.Proofs.Try.func148, by kernel_rfl, by kernel_rfl, by kernel_rfl⟩
theorem env : EnvOk Go.Proofs.Try.prog E := env_ok (tl := [(2, i64), (4, .bool), (9, .str), (128, tRow), (130, tChange), (141, (.slc tChange))]) (gl := [(147, laws_markText.sig)]) rfl rfl (by kernel_rfl) (by kernel_rfl) (fn_cons laws_markText.snd laws_markText.ent (fn_nil _))
theorem chk : funOk Go.Proofs.Try.prog E Go.Proofs.Try.f148 ps rs [0] = true := by kernel_rfl
theorem snd : Sound Go.Proofs.Try.prog 148 sig := sound_of_body env Go.Proofs.Try.func148 rfl (es := [0]) (fr := []) chk (fun _ _ h => lift_some h)
end laws_markChangeS
namespace laws_heldChangeS
/-! loop example g00408 laws heldChangeS -/
abbrev Arg : Type := (List Change) × Int × Unit
abbrev Out : Type := Int × Unit
noncomputable def ps : List (PM × Ty) := [(.ro, (.slc tChange)), (.ro, i64)]
noncomputable def rs : List (Ty × Md) := [(i64, (roMd i64))]
noncomputable def E : Env := { TI := lookN [(2, i64), (4, .bool), (9, .str), (128, tRow), (130, tChange), (141, (.slc tChange))], G := lookN [(147, laws_markText.sig)], fz := [], lv := [(2, [0, 1, 5])], lx := [(0, [1])], lf := [], od := [(16, [0, 1, 2, 3, 4, 5, 6, 7, 8]), (31, [0, 1, 2, 3, 4, 5, 6, 7, 8])] }
noncomputable def sem (a : Arg) : Option Out := lift fun k => bodyK E k Go.Proofs.Try.f222 ps rs [] [] a
noncomputable def sig : Sig := { ps := ps, rs := rs, F := fun a => sem a }
noncomputable def C : Code := bodyOf Go.Proofs.Try.f222
noncomputable def fin : St → Option Out := outK ps rs [] (Func.results Go.Proofs.Try.f222).toList (mvs [])
noncomputable def K0 : Ex → St → Option Out := endK fin
noncomputable def S0 (rec : St → Option Out) (a1 : Arg) : (Int × Int) → Option Out := fun v402 => rec ({ n := 117, sl := [(0, .val (.slc tChange) a1.1), (1, .val i64 v402.1), (5, .val i64 v402.2)], vr := [], lent := [] })
noncomputable def X0_0 (K : Ex → St → Option Out) (a1 : Arg) : Int → Option Out := fun z => K (.exit 0) ({ n := 117, sl := [(1, .val i64 z)], vr := [], lent := [] })
noncomputable def b0 (self : (Int × Int) → Option Out) (e0 : Int → Option Out) (a1 : Arg) (v402 : Int × Int) : Option Out := bif decide (v402.2 < (a1.1.length : Int)) then (if 0 ≤ v402.2 then ((a1.1[v402.2.toNat]?).bind fun x603 => bif !(x603.1 == (decide (v402.1.tmod (3 : Int) = (0 : Int)))) then (some ((-1 : Int), ())) else if 0 ≤ v402.2 then ((a1.1[v402.2.toNat]?).bind fun x604 => bif !decide (x604.2.1.1 = w64 (v402.1 + (1 : Int))) then (some ((-1 : Int), ())) else if 0 ≤ v402.2 then ((a1.1[v402.2.toNat]?).bind fun x605 => bif !decide (x605.2.1.2.1 = w64 ((w64 (v402.1 + (1 : Int))) + (1 : Int))) then (some ((-1 : Int), ())) else if 0 ≤ v402.2 then ((a1.1[v402.2.toNat]?).bind fun x606 => bif !decide (x606.2.1.2.2.1 = w64 ((w64 ((w64 (v402.1 + (1 : Int))) + (1 : Int))) + (1 : Int))) then (some ((-1 : Int), ())) else if 0 ≤ v402.2 then ((a1.1[v402.2.toNat]?).bind fun x607 => (laws_markText.sem (w64 ((w64 ((w64 ((w64 (v402.1 + (1 : Int))) + (1 : Int))) + (1 : Int))) + (1 : Int)), ())).bind fun r608 => bif !decide (x607.2.1.2.2.2.1 = r608.1) then (some ((-1 : Int), ())) else if 0 ≤ v402.2 then ((a1.1[v402.2.toNat]?).bind fun x609 => bif !(x609.2.2.1 == (decide ((w64 ((w64 ((w64 ((w64 ((w64 (v402.1 + (1 : Int))) + (1 : Int))) + (1 : Int))) + (1 : Int))) + (1 : Int))).tmod (3 : Int) = (0 : Int)))) then (some ((-1 : Int), ())) else if 0 ≤ v402.2 then ((a1.1[v402.2.toNat]?).bind fun x610 => bif !decide (x610.2.2.2.1.1 = w64 ((w64 ((w64 ((w64 ((w64 ((w64 (v402.1 + (1 : Int))) + (1 : Int))) + (1 : Int))) + (1 : Int))) + (1 : Int))) + (1 : Int))) then (some ((-1 : Int), ())) else if 0 ≤ v402.2 then ((a1.1[v402.2.toNat]?).bind fun x611 => bif !decide (x611.2.2.2.1.2.1 = w64 ((w64 ((w64 ((w64 ((w64 ((w64 ((w64 (v402.1 + (1 : Int))) + (1 : Int))) + (1 : Int))) + (1 : Int))) + (1 : Int))) + (1 : Int))) + (1 : Int))) then (some ((-1 : Int), ())) else if 0 ≤ v402.2 then ((a1.1[v402.2.toNat]?).bind fun x612 => bif !decide (x612.2.2.2.1.2.2.1 = w64 ((w64 ((w64 ((w64 ((w64 ((w64 ((w64 ((w64 (v402.1 + (1 : Int))) + (1 : Int))) + (1 : Int))) + (1 : Int))) + (1 : Int))) + (1 : Int))) + (1 : Int))) + (1 : Int))) then (some ((-1 : Int), ())) else if 0 ≤ v402.2 then ((a1.1[v402.2.toNat]?).bind fun x613 => (laws_markText.sem (w64 ((w64 ((w64 ((w64 ((w64 ((w64 ((w64 ((w64 ((w64 (v402.1 + (1 : Int))) + (1 : Int))) + (1 : Int))) + (1 : Int))) + (1 : Int))) + (1 : Int))) + (1 : Int))) + (1 : Int))) + (1 : Int)), ())).bind fun r614 => bif !decide (x613.2.2.2.1.2.2.2.1 = r614.1) then (some ((-1 : Int), ())) else self (w64 ((w64 ((w64 ((w64 ((w64 ((w64 ((w64 ((w64 ((w64 ((w64 (v402.1 + (1 : Int))) + (1 : Int))) + (1 : Int))) + (1 : Int))) + (1 : Int))) + (1 : Int))) + (1 : Int))) + (1 : Int))) + (1 : Int))) + (1 : Int)), w64 (v402.2 + (1 : Int)))) else none) else none) else none) else none) else none) else none) else none) else none) else none) else none) else e0 v402.1
noncomputable def B0 (k : Nat) (self : (Int × Int) → Option Out) (e0 : Int → Option Out) (a1 : Arg) (v402 : Int × Int) : Option Out := b0 self e0 a1 v402
theorem b0_eq (k : Nat) (rec : St → Option Out) (K : Ex → St → Option Out) (a1 : Arg) (v402 : Int × Int) : codeK E k fin (sub [1, 0, 1, 0, 0] C) ({ n := 117, sl := [(0, .val (.slc tChange) a1.1), (1, .val i64 v402.1), (5, .val i64 v402.2)], vr := [], lent := [] }) (loopC rec (keepF [0, 1, 5] []) K) = b0 (S0 rec a1) (X0_0 K a1) a1 v402 := by kernel_rfl
theorem B0_eq (k : Nat) (rec : St → Option Out) (K : Ex → St → Option Out) (a1 : Arg) (v402 : Int × Int) : codeK E k fin (sub [1, 0, 1, 0, 0] C) ({ n := 117, sl := [(0, .val (.slc tChange) a1.1), (1, .val i64 v402.1), (5, .val i64 v402.2)], vr := [], lent := [] }) (loopC rec (keepF [0, 1, 5] []) K) = B0 k (S0 rec a1) (X0_0 K a1) a1 v402 := (b0_eq k rec K a1 v402).trans (by rfl)
noncomputable def l0 (k : Nat) (a1 : Arg) (e0 : Int → Option Out) (v : Int × Int) : Option Out := rawIter (fun self v => B0 k self e0 a1 v) k v
theorem l0_eq (k : Nat) (K : Ex → St → Option Out) (a1 : Arg) (v402 : Int × Int) : iterK (codeK E k fin (sub [1, 0, 1, 0, 0] C)) (keepF [0, 1, 5] []) K k ({ n := 117, sl := [(0, .val (.slc tChange) a1.1), (1, .val i64 v402.1), (5, .val i64 v402.2)], vr := [], lent := [] }) = l0 k a1 (X0_0 K a1) v402 :=
  iter_raw _ _ K (fun v402 => ({ n := 117, sl := [(0, .val (.slc tChange) a1.1), (1, .val i64 v402.1), (5, .val i64 v402.2)], vr := [], lent := [] } : St)) (fun self v => B0 k self (X0_0 K a1) a1 v) (fun rec v => B0_eq k rec K a1 v) k v402
noncomputable def q0 (a1 : Arg) (z615 : Int) : Option Out := some (z615, ())
noncomputable def Q0 (k : Nat) (a1 : Arg) (z615 : Int) : Option Out := q0 a1 z615
theorem q0_eq (k : Nat) (a1 : Arg) (z615 : Int) : (blockC 0 (seqC (codeK E k fin (sub [1, 1] C)) K0)) (.exit 0) ({ n := 117, sl := [(1, .val i64 z615)], vr := [], lent := [] }) = q0 a1 z615 := by kernel_rfl
theorem Q0_eq (k : Nat) (a1 : Arg) (z615 : Int) : (blockC 0 (seqC (codeK E k fin (sub [1, 1] C)) K0)) (.exit 0) ({ n := 117, sl := [(1, .val i64 z615)], vr := [], lent := [] }) = Q0 k a1 z615 := (q0_eq k a1 z615).trans (by rfl)
noncomputable def s0 (k : Nat) (a1 : Arg) : (Int × Int) → Option Out := fun v402 => iterK (codeK E k fin (sub [1, 0, 1, 0, 0] C)) (keepF [0, 1, 5] []) (blockC 0 (seqC (codeK E k fin (sub [1, 1] C)) K0)) k ({ n := 117, sl := [(0, .val (.slc tChange) a1.1), (1, .val i64 v402.1), (5, .val i64 v402.2)], vr := [], lent := [] })
noncomputable def r0 (k : Nat) (a1 : Arg) : (Int × Int) → Option Out := fun v402 => l0 k a1 (fun z => Q0 k a1 z) v402
theorem s0_eq (k : Nat) (a1 : Arg) : s0 k a1 = r0 k a1 := by
  funext v402;
  have h0 : X0_0 ((blockC 0 (seqC (codeK E k fin (sub [1, 1] C)) K0))) a1 = fun z => Q0 k a1 z := funext fun z => Q0_eq k a1 z
  refine (l0_eq k ((blockC 0 (seqC (codeK E k fin (sub [1, 1] C)) K0))) a1 v402).trans ?_
  rw [h0]
  rfl
noncomputable def p (l0 : (Int × Int) → Option Out) (a1 : Arg) : Option Out := l0 (a1.2.1, (0 : Int))
noncomputable def raw (k : Nat) (a1 : Arg) : Option Out := p (r0 k a1) a1
theorem p_eq (k : Nat) (a1 : Arg) : bodyK E k Go.Proofs.Try.f222 ps rs [] [] a1 = p (s0 k a1) a1 := by kernel_rfl
theorem raw_eq (k : Nat) (a1 : Arg) : bodyK E k Go.Proofs.Try.f222 ps rs [] [] a1 = raw k a1 := (p_eq k a1).trans (by rw [s0_eq]; rfl)
theorem ent : EnterOk Go.Proofs.Try.prog 222 sig.cap := ⟨Go.Proofs.Try.f222, Go.Proofs.Try.func222, by kernel_rfl, by kernel_rfl, by kernel_rfl⟩
theorem env : EnvOk Go.Proofs.Try.prog E := env_ok (tl := [(2, i64), (4, .bool), (9, .str), (128, tRow), (130, tChange), (141, (.slc tChange))]) (gl := [(147, laws_markText.sig)]) rfl rfl (by kernel_rfl) (by kernel_rfl) (fn_cons laws_markText.snd laws_markText.ent (fn_nil _))
theorem chk : funOk Go.Proofs.Try.prog E Go.Proofs.Try.f222 ps rs [] = true := by kernel_rfl
theorem snd : Sound Go.Proofs.Try.prog 222 sig := sound_of_body env Go.Proofs.Try.func222 rfl (es := []) (fr := []) chk (fun _ _ h => lift_some h)
end laws_heldChangeS
namespace laws_eqByteS
/-! loop example g00408 laws eqByteS -/
abbrev Arg : Type := (List UInt8) × (List UInt8) × Unit
abbrev Out : Type := Bool × Unit
noncomputable def ps : List (PM × Ty) := [(.ro, (.slc u8)), (.ro, (.slc u8))]
noncomputable def rs : List (Ty × Md) := [(.bool, (roMd .bool))]
noncomputable def E : Env := { TI := lookN [(5, u8), (39, (.slc u8))], G := lookN [], fz := [], lv := [(4, [0, 1, 5])], lx := [(0, [])], lf := [], od := [(6, [0, 1, 2, 3, 4, 5, 6, 7, 8])] }
noncomputable def sem (a : Arg) : Option Out := lift fun k => bodyK E k Go.Proofs.Try.f109 ps rs [] [] a
noncomputable def sig : Sig := { ps := ps, rs := rs, F := fun a => sem a }
noncomputable def C : Code := bodyOf Go.Proofs.Try.f109
noncomputable def fin : St → Option Out := outK ps rs [] (Func.results Go.Proofs.Try.f109).toList (mvs [])
noncomputable def K0 : Ex → St → Option Out := endK fin
noncomputable def S0 (rec : St → Option Out) (a1 : Arg) : (Int) → Option Out := fun v402 => rec ({ n := 26, sl := [(0, .val (.slc u8) a1.1), (1, .val (.slc u8) a1.2.1), (5, .val i64 v402)], vr := [], lent := [] })
noncomputable def X0_0 (K : Ex → St → Option Out) (a1 : Arg) : (Unit) → Option Out := fun z => K (.exit 0) ({ n := 26, sl := [], vr := [], lent := [] })
noncomputable def b0 (self : Int → Option Out) (e0 : (Unit) → Option Out) (a1 : Arg) (v402 : Int) : Option Out := bif decide (v402 < (a1.1.length : Int)) then (if 0 ≤ v402 then ((a1.1[v402.toNat]?).bind fun x603 => if 0 ≤ v402 then ((a1.2.1[v402.toNat]?).bind fun x604 => bif !decide ((x603.toNat : Int) = (x604.toNat : Int)) then (some (false, ())) else self (w64 (v402 + (1 : Int)))) else none) else none) else e0 ()
noncomputable def B0 (k : Nat) (self : Int → Option Out) (e0 : (Unit) → Option Out) (a1 : Arg) (v402 : Int) : Option Out := b0 self e0 a1 v402
theorem b0_eq (k : Nat) (rec : St → Option Out) (K : Ex → St → Option Out) (a1 : Arg) (v402 : Int) : codeK E k fin (sub [1, 1, 0, 1, 0, 0] C) ({ n := 26, sl := [(0, .val (.slc u8) a1.1), (1, .val (.slc u8) a1.2.1), (5, .val i64 v402)], vr := [], lent := [] }) (loopC rec (keepF [0, 1, 5] []) K) = b0 (S0 rec a1) (X0_0 K a1) a1 v402 := by kernel_rfl
theorem B0_eq (k : Nat) (rec : St → Option Out) (K : Ex → St → Option Out) (a1 : Arg) (v402 : Int) : codeK E k fin (sub [1, 1, 0, 1, 0, 0] C) ({ n := 26, sl := [(0, .val (.slc u8) a1.1), (1, .val (.slc u8) a1.2.1), (5, .val i64 v402)], vr := [], lent := [] }) (loopC rec (keepF [0, 1, 5] []) K) = B0 k (S0 rec a1) (X0_0 K a1) a1 v402 := (b0_eq k rec K a1 v402).trans (by rfl)
noncomputable def l0 (k : Nat) (a1 : Arg) (e0 : (Unit) → Option Out) (v : Int) : Option Out := rawIter (fun self v => B0 k self e0 a1 v) k v
theorem l0_eq (k : Nat) (K : Ex → St → Option Out) (a1 : Arg) (v402 : Int) : iterK (codeK E k fin (sub [1, 1, 0, 1, 0, 0] C)) (keepF [0, 1, 5] []) K k ({ n := 26, sl := [(0, .val (.slc u8) a1.1), (1, .val (.slc u8) a1.2.1), (5, .val i64 v402)], vr := [], lent := [] }) = l0 k a1 (X0_0 K a1) v402 :=
  iter_raw _ _ K (fun v402 => ({ n := 26, sl := [(0, .val (.slc u8) a1.1), (1, .val (.slc u8) a1.2.1), (5, .val i64 v402)], vr := [], lent := [] } : St)) (fun self v => B0 k self (X0_0 K a1) a1 v) (fun rec v => B0_eq k rec K a1 v) k v402
noncomputable def q0 (a1 : Arg) (z605 : (Unit)) : Option Out := some (true, ())
noncomputable def Q0 (k : Nat) (a1 : Arg) (z605 : (Unit)) : Option Out := q0 a1 z605
theorem q0_eq (k : Nat) (a1 : Arg) (z605 : (Unit)) : (blockC 0 (seqC (codeK E k fin (sub [1, 1, 1] C)) K0)) (.exit 0) ({ n := 26, sl := [], vr := [], lent := [] }) = q0 a1 z605 := by kernel_rfl
theorem Q0_eq (k : Nat) (a1 : Arg) (z605 : (Unit)) : (blockC 0 (seqC (codeK E k fin (sub [1, 1, 1] C)) K0)) (.exit 0) ({ n := 26, sl := [], vr := [], lent := [] }) = Q0 k a1 z605 := (q0_eq k a1 z605).trans (by rfl)
noncomputable def s0 (k : Nat) (a1 : Arg) : (Int) → Option Out := fun v402 => iterK (codeK E k fin (sub [1, 1, 0, 1, 0, 0] C)) (keepF [0, 1, 5] []) (blockC 0 (seqC (codeK E k fin (sub [1, 1, 1] C)) K0)) k ({ n := 26, sl := [(0, .val (.slc u8) a1.1), (1, .val (.slc u8) a1.2.1), (5, .val i64 v402)], vr := [], lent := [] })
noncomputable def r0 (k : Nat) (a1 : Arg) : (Int) → Option Out := fun v402 => l0 k a1 (fun z => Q0 k a1 z) v402
theorem s0_eq (k : Nat) (a1 : Arg) : s0 k a1 = r0 k a1 := by
  funext v402;
  have h0 : X0_0 ((blockC 0 (seqC (codeK E k fin (sub [1, 1, 1] C)) K0))) a1 = fun z => Q0 k a1 z := funext fun z => Q0_eq k a1 z
  refine (l0_eq k ((blockC 0 (seqC (codeK E k fin (sub [1, 1, 1] C)) K0))) a1 v402).trans ?_
  rw [h0]
  rfl
noncomputable def p (l0 : (Int) → Option Out) (a1 : Arg) : Option Out := bif !decide ((a1.1.length : Int) = (a1.2.1.length : Int)) then (some (false, ())) else l0 (0 : Int)
noncomputable def raw (k : Nat) (a1 : Arg) : Option Out := p (r0 k a1) a1
theorem p_eq (k : Nat) (a1 : Arg) : bodyK E k Go.Proofs.Try.f109 ps rs [] [] a1 = p (s0 k a1) a1 := by kernel_rfl
theorem raw_eq (k : Nat) (a1 : Arg) : bodyK E k Go.Proofs.Try.f109 ps rs [] [] a1 = raw k a1 := (p_eq k a1).trans (by rw [s0_eq]; rfl)
theorem ent : EnterOk Go.Proofs.Try.prog 109 sig.cap := ⟨Go.Proofs.Try.f109, Go.Proofs.Try.func109, by kernel_rfl, by kernel_rfl, by kernel_rfl⟩
theorem env : EnvOk Go.Proofs.Try.prog E := env_ok (tl := [(5, u8), (39, (.slc u8))]) (gl := []) rfl rfl (by kernel_rfl) (by kernel_rfl) (fn_nil _)
theorem chk : funOk Go.Proofs.Try.prog E Go.Proofs.Try.f109 ps rs [] = true := by kernel_rfl
theorem snd : Sound Go.Proofs.Try.prog 109 sig := sound_of_body env Go.Proofs.Try.func109 rfl (es := []) (fr := []) chk (fun _ _ h => lift_some h)
end laws_eqByteS
namespace laws_eqByteSS
/-! loop example g00408 laws eqByteSS -/
abbrev Arg : Type := (List (List UInt8)) × (List (List UInt8)) × Unit
abbrev Out : Type := Bool × Unit
noncomputable def ps : List (PM × Ty) := [(.ro, (.slc (.slc u8))), (.ro, (.slc (.slc u8)))]
noncomputable def rs : List (Ty × Md) := [(.bool, (roMd .bool))]
noncomputable def E : Env := { TI := lookN [(38, (.slc (.slc u8))), (39, (.slc u8))], G := lookN [(109, laws_eqByteS.sig)], fz := [], lv := [(4, [0, 1, 5])], lx := [(0, [])], lf := [], od := [(6, [0, 1, 2, 3, 4, 5, 6, 7, 8, 9])] }
noncomputable def sem (a : Arg) : Option Out := lift fun k => bodyK E k Go.Proofs.Try.f119 ps rs [] [] a
noncomputable def sig : Sig := { ps := ps, rs := rs, F := fun a => sem a }
noncomputable def C : Code := bodyOf Go.Proofs.Try.f119
noncomputable def fin : St → Option Out := outK ps rs [] (Func.results Go.Proofs.Try.f119).toList (mvs [])
noncomputable def K0 : Ex → St → Option Out := endK fin
noncomputable def S0 (rec : St → Option Out) (a1 : Arg) : (Int) → Option Out := fun v402 => rec ({ n := 27, sl := [(0, .val (.slc (.slc u8)) a1.1), (1, .val (.slc (.slc u8)) a1.2.1), (5, .val i64 v402)], vr := [], lent := [] })
noncomputable def X0_0 (K : Ex → St → Option Out) (a1 : Arg) : (Unit) → Option Out := fun z => K (.exit 0) ({ n := 27, sl := [], vr := [], lent := [] })
noncomputable def b0 (self : Int → Option Out) (e0 : (Unit) → Option Out) (a1 : Arg) (v402 : Int) : Option Out := bif decide (v402 < (a1.1.length : Int)) then (if 0 ≤ v402 then ((a1.1[v402.toNat]?).bind fun x603 => if 0 ≤ v402 then ((a1.2.1[v402.toNat]?).bind fun x604 => (laws_eqByteS.sem (x603, x604, ())).bind fun r605 => bif !r605.1 then (some (false, ())) else self (w64 (v402 + (1 : Int)))) else none) else none) else e0 ()
noncomputable def B0 (k : Nat) (self : Int → Option Out) (e0 : (Unit) → Option Out) (a1 : Arg) (v402 : Int) : Option Out := b0 self e0 a1 v402
theorem b0_eq (k : Nat) (rec : St → Option Out) (K : Ex → St → Option Out) (a1 : Arg) (v402 : Int) : codeK E k fin (sub [1, 1, 0, 1, 0, 0] C) ({ n := 27, sl := [(0, .val (.slc (.slc u8)) a1.1), (1, .val (.slc (.slc u8)) a1.2.1), (5, .val i64 v402)], vr := [], lent := [] }) (loopC rec (keepF [0, 1, 5] []) K) = b0 (S0 rec a1) (X0_0 K a1) a1 v402 := by kernel_rfl
theorem B0_eq (k : Nat) (rec : St → Option Out) (K : Ex → St → Option Out) (a1 : Arg) (v402 : Int) : codeK E k fin (sub [1, 1, 0, 1, 0, 0] C) ({ n := 27, sl := [(0, .val (.slc (.slc u8)) a1.1), (1, .val (.slc (.slc u8)) a1.2.1), (5, .val i64 v402)], vr := [], lent := [] }) (loopC rec (keepF [0, 1, 5] []) K) = B0 k (S0 rec a1) (X0_0 K a1) a1 v402 := (b0_eq k rec K a1 v402).trans (by rfl)
noncomputable def l0 (k : Nat) (a1 : Arg) (e0 : (Unit) → Option Out) (v : Int) : Option Out := rawIter (fun self v => B0 k self e0 a1 v) k v
theorem l0_eq (k : Nat) (K : Ex → St → Option Out) (a1 : Arg) (v402 : Int) : iterK (codeK E k fin (sub [1, 1, 0, 1, 0, 0] C)) (keepF [0, 1, 5] []) K k ({ n := 27, sl := [(0, .val (.slc (.slc u8)) a1.1), (1, .val (.slc (.slc u8)) a1.2.1), (5, .val i64 v402)], vr := [], lent := [] }) = l0 k a1 (X0_0 K a1) v402 :=
  iter_raw _ _ K (fun v402 => ({ n := 27, sl := [(0, .val (.slc (.slc u8)) a1.1), (1, .val (.slc (.slc u8)) a1.2.1), (5, .val i64 v402)], vr := [], lent := [] } : St)) (fun self v => B0 k self (X0_0 K a1) a1 v) (fun rec v => B0_eq k rec K a1 v) k v402
noncomputable def q0 (a1 : Arg) (z606 : (Unit)) : Option Out := some (true, ())
noncomputable def Q0 (k : Nat) (a1 : Arg) (z606 : (Unit)) : Option Out := q0 a1 z606
theorem q0_eq (k : Nat) (a1 : Arg) (z606 : (Unit)) : (blockC 0 (seqC (codeK E k fin (sub [1, 1, 1] C)) K0)) (.exit 0) ({ n := 27, sl := [], vr := [], lent := [] }) = q0 a1 z606 := by kernel_rfl
theorem Q0_eq (k : Nat) (a1 : Arg) (z606 : (Unit)) : (blockC 0 (seqC (codeK E k fin (sub [1, 1, 1] C)) K0)) (.exit 0) ({ n := 27, sl := [], vr := [], lent := [] }) = Q0 k a1 z606 := (q0_eq k a1 z606).trans (by rfl)
noncomputable def s0 (k : Nat) (a1 : Arg) : (Int) → Option Out := fun v402 => iterK (codeK E k fin (sub [1, 1, 0, 1, 0, 0] C)) (keepF [0, 1, 5] []) (blockC 0 (seqC (codeK E k fin (sub [1, 1, 1] C)) K0)) k ({ n := 27, sl := [(0, .val (.slc (.slc u8)) a1.1), (1, .val (.slc (.slc u8)) a1.2.1), (5, .val i64 v402)], vr := [], lent := [] })
noncomputable def r0 (k : Nat) (a1 : Arg) : (Int) → Option Out := fun v402 => l0 k a1 (fun z => Q0 k a1 z) v402
theorem s0_eq (k : Nat) (a1 : Arg) : s0 k a1 = r0 k a1 := by
  funext v402;
  have h0 : X0_0 ((blockC 0 (seqC (codeK E k fin (sub [1, 1, 1] C)) K0))) a1 = fun z => Q0 k a1 z := funext fun z => Q0_eq k a1 z
  refine (l0_eq k ((blockC 0 (seqC (codeK E k fin (sub [1, 1, 1] C)) K0))) a1 v402).trans ?_
  rw [h0]
  rfl
noncomputable def p (l0 : (Int) → Option Out) (a1 : Arg) : Option Out := bif !decide ((a1.1.length : Int) = (a1.2.1.length : Int)) then (some (false, ())) else l0 (0 : Int)
noncomputable def raw (k : Nat) (a1 : Arg) : Option Out := p (r0 k a1) a1
theorem p_eq (k : Nat) (a1 : Arg) : bodyK E k Go.Proofs.Try.f119 ps rs [] [] a1 = p (s0 k a1) a1 := by kernel_rfl
theorem raw_eq (k : Nat) (a1 : Arg) : bodyK E k Go.Proofs.Try.f119 ps rs [] [] a1 = raw k a1 := (p_eq k a1).trans (by rw [s0_eq]; rfl)
theorem ent : EnterOk Go.Proofs.Try.prog 119 sig.cap := ⟨Go.Proofs.Try.f119, Go.Proofs.Try.func119, by kernel_rfl, by kernel_rfl, by kernel_rfl⟩
theorem env : EnvOk Go.Proofs.Try.prog E := env_ok (tl := [(38, (.slc (.slc u8))), (39, (.slc u8))]) (gl := [(109, laws_eqByteS.sig)]) rfl rfl (by kernel_rfl) (by kernel_rfl) (fn_cons laws_eqByteS.snd laws_eqByteS.ent (fn_nil _))
theorem chk : funOk Go.Proofs.Try.prog E Go.Proofs.Try.f119 ps rs [] = true := by kernel_rfl
theorem snd : Sound Go.Proofs.Try.prog 119 sig := sound_of_body env Go.Proofs.Try.func119 rfl (es := []) (fr := []) chk (fun _ _ h => lift_some h)
end laws_eqByteSS
namespace laws_markByteS
/-! loop example g00408 laws markByteS -/
abbrev Arg : Type := (List UInt8) × Int × Unit
abbrev Out : Type := Int × (List UInt8) × Unit
noncomputable def ps : List (PM × Ty) := [(.muts (ownMd (.slc u8)), (.slc u8)), (.ro, i64)]
noncomputable def rs : List (Ty × Md) := [(i64, (roMd i64))]
noncomputable def E : Env := { TI := lookN [(3, i64), (5, u8), (39, (.slc u8))], G := lookN [], fz := [], lv := [(2, [0, 1, 5])], lx := [(0, [0, 1])], lf := [], od := [] }
noncomputable def sem (a : Arg) : Option Out := lift fun k => bodyK E k Go.Proofs.Try.f111 ps rs [0] [] a
noncomputable def sig : Sig := { ps := ps, rs := rs, F := fun a => sem a }
noncomputable def C : Code := bodyOf Go.Proofs.Try.f111
noncomputable def fin : St → Option Out := outK ps rs [0] (Func.results Go.Proofs.Try.f111).toList (mvs [])
noncomputable def K0 : Ex → St → Option Out := endK fin
noncomputable def S0 (rec : St → Option Out) (a1 : Arg) : ((List UInt8) × Int × Int) → Option Out := fun v402 => rec ({ n := 20, sl := [(0, .own (.slc u8) (ownMd (.slc u8)) [] v402.1), (1, .val i64 v402.2.1), (5, .val i64 v402.2.2)], vr := [], lent := [(0, 0, true)] })
noncomputable def X0_0 (K : Ex → St → Option Out) (a1 : Arg) : ((List UInt8) × Int) → Option Out := fun z => K (.exit 0) ({ n := 20, sl := [(0, .own (.slc u8) (ownMd (.slc u8)) [] z.1), (1, .val i64 z.2)], vr := [], lent := [(0, 0, true)] })
noncomputable def b0 (self : ((List UInt8) × Int × Int) → Option Out) (e0 : ((List UInt8) × Int) → Option Out) (a1 : Arg) (v402 : (List UInt8) × Int × Int) : Option Out := bif decide (v402.2.2 < (v402.1.length : Int)) then (if 0 ≤ v402.2.2 ∧ v402.2.2 < (v402.1.length : Int) then ((v402.1[v402.2.2.toNat]?).bind fun x603 => let y604 := v402.1.set v402.2.2.toNat (UInt8.ofInt v402.2.1); self (y604, w64 (v402.2.1 + (1 : Int)), w64 (v402.2.2 + (1 : Int)))) else none) else e0 (v402.1, v402.2.1)
noncomputable def B0 (k : Nat) (self : ((List UInt8) × Int × Int) → Option Out) (e0 : ((List UInt8) × Int) → Option Out) (a1 : Arg) (v402 : (List UInt8) × Int × Int) : Option Out := b0 self e0 a1 v402
theorem b0_eq (k : Nat) (rec : St → Option Out) (K : Ex → St → Option Out) (a1 : Arg) (v402 : (List UInt8) × Int × Int) : codeK E k fin (sub [1, 0, 1, 0, 0] C) ({ n := 20, sl := [(0, .own (.slc u8) (ownMd (.slc u8)) [] v402.1), (1, .val i64 v402.2.1), (5, .val i64 v402.2.2)], vr := [], lent := [(0, 0, true)] }) (loopC rec (keepF [0, 1, 5] []) K) = b0 (S0 rec a1) (X0_0 K a1) a1 v402 := by kernel_rfl
theorem B0_eq (k : Nat) (rec : St → Option Out) (K : Ex → St → Option Out) (a1 : Arg) (v402 : (List UInt8) × Int × Int) : codeK E k fin (sub [1, 0, 1, 0, 0] C) ({ n := 20, sl := [(0, .own (.slc u8) (ownMd (.slc u8)) [] v402.1), (1, .val i64 v402.2.1), (5, .val i64 v402.2.2)], vr := [], lent := [(0, 0, true)] }) (loopC rec (keepF [0, 1, 5] []) K) = B0 k (S0 rec a1) (X0_0 K a1) a1 v402 := (b0_eq k rec K a1 v402).trans (by rfl)
noncomputable def l0 (k : Nat) (a1 : Arg) (e0 : ((List UInt8) × Int) → Option Out) (v : (List UInt8) × Int × Int) : Option Out := rawIter (fun self v => B0 k self e0 a1 v) k v
theorem l0_eq (k : Nat) (K : Ex → St → Option Out) (a1 : Arg) (v402 : (List UInt8) × Int × Int) : iterK (codeK E k fin (sub [1, 0, 1, 0, 0] C)) (keepF [0, 1, 5] []) K k ({ n := 20, sl := [(0, .own (.slc u8) (ownMd (.slc u8)) [] v402.1), (1, .val i64 v402.2.1), (5, .val i64 v402.2.2)], vr := [], lent := [(0, 0, true)] }) = l0 k a1 (X0_0 K a1) v402 :=
  iter_raw _ _ K (fun v402 => ({ n := 20, sl := [(0, .own (.slc u8) (ownMd (.slc u8)) [] v402.1), (1, .val i64 v402.2.1), (5, .val i64 v402.2.2)], vr := [], lent := [(0, 0, true)] } : St)) (fun self v => B0 k self (X0_0 K a1) a1 v) (fun rec v => B0_eq k rec K a1 v) k v402
noncomputable def q0 (a1 : Arg) (z605 : ((List UInt8) × Int)) : Option Out := some (z605.2, z605.1, ())
noncomputable def Q0 (k : Nat) (a1 : Arg) (z605 : ((List UInt8) × Int)) : Option Out := q0 a1 z605
theorem q0_eq (k : Nat) (a1 : Arg) (z605 : ((List UInt8) × Int)) : (blockC 0 (seqC (codeK E k fin (sub [1, 1] C)) K0)) (.exit 0) ({ n := 20, sl := [(0, .own (.slc u8) (ownMd (.slc u8)) [] z605.1), (1, .val i64 z605.2)], vr := [], lent := [(0, 0, true)] }) = q0 a1 z605 := by kernel_rfl
theorem Q0_eq (k : Nat) (a1 : Arg) (z605 : ((List UInt8) × Int)) : (blockC 0 (seqC (codeK E k fin (sub [1, 1] C)) K0)) (.exit 0) ({ n := 20, sl := [(0, .own (.slc u8) (ownMd (.slc u8)) [] z605.1), (1, .val i64 z605.2)], vr := [], lent := [(0, 0, true)] }) = Q0 k a1 z605 := (q0_eq k a1 z605).trans (by rfl)
noncomputable def s0 (k : Nat) (a1 : Arg) : ((List UInt8) × Int × Int) → Option Out := fun v402 => iterK (codeK E k fin (sub [1, 0, 1, 0, 0] C)) (keepF [0, 1, 5] []) (blockC 0 (seqC (codeK E k fin (sub [1, 1] C)) K0)) k ({ n := 20, sl := [(0, .own (.slc u8) (ownMd (.slc u8)) [] v402.1), (1, .val i64 v402.2.1), (5, .val i64 v402.2.2)], vr := [], lent := [(0, 0, true)] })
noncomputable def r0 (k : Nat) (a1 : Arg) : ((List UInt8) × Int × Int) → Option Out := fun v402 => l0 k a1 (fun z => Q0 k a1 z) v402
theorem s0_eq (k : Nat) (a1 : Arg) : s0 k a1 = r0 k a1 := by
  funext v402;
  have h0 : X0_0 ((blockC 0 (seqC (codeK E k fin (sub [1, 1] C)) K0))) a1 = fun z => Q0 k a1 z := funext fun z => Q0_eq k a1 z
  refine (l0_eq k ((blockC 0 (seqC (codeK E k fin (sub [1, 1] C)) K0))) a1 v402).trans ?_
  rw [h0]
  rfl
noncomputable def p (l0 : ((List UInt8) × Int × Int) → Option Out) (a1 : Arg) : Option Out := l0 (a1.1, a1.2.1, (0 : Int))
noncomputable def raw (k : Nat) (a1 : Arg) : Option Out := p (r0 k a1) a1
theorem p_eq (k : Nat) (a1 : Arg) : bodyK E k Go.Proofs.Try.f111 ps rs [0] [] a1 = p (s0 k a1) a1 := by kernel_rfl
theorem raw_eq (k : Nat) (a1 : Arg) : bodyK E k Go.Proofs.Try.f111 ps rs [0] [] a1 = raw k a1 := (p_eq k a1).trans (by rw [s0_eq]; rfl)
theorem ent : EnterOk Go.Proofs.Try.prog 111 sig.cap := ⟨Go.Proofs.Try.f111, Go.Proofs.Try.func111, by kernel_rfl, by kernel_rfl, by kernel_rfl⟩
theorem env : EnvOk Go.Proofs.Try.prog E := env_ok (tl := [(3, i64), (5, u8), (39, (.slc u8))]) (gl := []) rfl rfl (by kernel_rfl) (by kernel_rfl) (fn_nil _)
theorem chk : funOk Go.Proofs.Try.prog E Go.Proofs.Try.f111 ps rs [0] = true := by kernel_rfl
theorem snd : Sound Go.Proofs.Try.prog 111 sig := sound_of_body env Go.Proofs.Try.func111 rfl (es := [0]) (fr := []) chk (fun _ _ h => lift_some h)
end laws_markByteS
namespace laws_markByteSS
/-! loop example g00408 laws markByteSS -/
abbrev Arg : Type := (List (List UInt8)) × Int × Unit
abbrev Out : Type := Int × (List (List UInt8)) × Unit
noncomputable def ps : List (PM × Ty) := [(.muts (ownMd (.slc (.slc u8))), (.slc (.slc u8))), (.ro, i64)]
noncomputable def rs : List (Ty × Md) := [(i64, (roMd i64))]
noncomputable def E : Env := { TI := lookN [(38, (.slc (.slc u8))), (39, (.slc u8))], G := lookN [(111, laws_markByteS.sig)], fz := [], lv := [(2, [0, 1, 5])], lx := [(0, [0, 1])], lf := [], od := [] }
noncomputable def sem (a : Arg) : Option Out := lift fun k => bodyK E k Go.Proofs.Try.f121 ps rs [0] [] a
noncomputable def sig : Sig := { ps := ps, rs := rs, F := fun a => sem a }
noncomputable def C : Code := bodyOf Go.Proofs.Try.f121
noncomputable def fin : St → Option Out := outK ps rs [0] (Func.results Go.Proofs.Try.f121).toList (mvs [])
noncomputable def K0 : Ex → St → Option Out := endK fin
noncomputable def S0 (rec : St → Option Out) (a1 : Arg) : ((List (List UInt8)) × Int × Int) → Option Out := fun v402 => rec ({ n := 19, sl := [(0, .own (.slc (.slc u8)) (ownMd (.slc (.slc u8))) [] v402.1), (1, .val i64 v402.2.1), (5, .val i64 v402.2.2)], vr := [], lent := [(0, 0, true)] })
noncomputable def X0_0 (K : Ex → St → Option Out) (a1 : Arg) : ((List (List UInt8)) × Int) → Option Out := fun z => K (.exit 0) ({ n := 19, sl := [(0, .own (.slc (.slc u8)) (ownMd (.slc (.slc u8))) [] z.1), (1, .val i64 z.2)], vr := [], lent := [(0, 0, true)] })
noncomputable def b0 (self : ((List (List UInt8)) × Int × Int) → Option Out) (e0 : ((List (List UInt8)) × Int) → Option Out) (a1 : Arg) (v402 : (List (List UInt8)) × Int × Int) : Option Out := bif decide (v402.2.2 < (v402.1.length : Int)) then (if 0 ≤ v402.2.2 ∧ v402.2.2 < (v402.1.length : Int) then ((v402.1[v402.2.2.toNat]?).bind fun x603 => (v402.1[v402.2.2.toNat]?).bind fun x604 => (v402.1[v402.2.2.toNat]?).bind fun x605 => (laws_markByteS.sem (x605, v402.2.1, ())).bind fun r606 => (v402.1[v402.2.2.toNat]?).bind fun x607 => self (v402.1.set v402.2.2.toNat r606.2.1, r606.1, w64 (v402.2.2 + (1 : Int)))) else none) else e0 (v402.1, v402.2.1)
noncomputable def B0 (k : Nat) (self : ((List (List UInt8)) × Int × Int) → Option Out) (e0 : ((List (List UInt8)) × Int) → Option Out) (a1 : Arg) (v402 : (List (List UInt8)) × Int × Int) : Option Out := b0 self e0 a1 v402
theorem b0_eq (k : Nat) (rec : St → Option Out) (K : Ex → St → Option Out) (a1 : Arg) (v402 : (List (List UInt8)) × Int × Int) : codeK E k fin (sub [1, 0, 1, 0, 0] C) ({ n := 19, sl := [(0, .own (.slc (.slc u8)) (ownMd (.slc (.slc u8))) [] v402.1), (1, .val i64 v402.2.1), (5, .val i64 v402.2.2)], vr := [], lent := [(0, 0, true)] }) (loopC rec (keepF [0, 1, 5] []) K) = b0 (S0 rec a1) (X0_0 K a1) a1 v402 := by kernel_rfl
theorem B0_eq (k : Nat) (rec : St → Option Out) (K : Ex → St → Option Out) (a1 : Arg) (v402 : (List (List UInt8)) × Int × Int) : codeK E k fin (sub [1, 0, 1, 0, 0] C) ({ n := 19, sl := [(0, .own (.slc (.slc u8)) (ownMd (.slc (.slc u8))) [] v402.1), (1, .val i64 v402.2.1), (5, .val i64 v402.2.2)], vr := [], lent := [(0, 0, true)] }) (loopC rec (keepF [0, 1, 5] []) K) = B0 k (S0 rec a1) (X0_0 K a1) a1 v402 := (b0_eq k rec K a1 v402).trans (by rfl)
noncomputable def l0 (k : Nat) (a1 : Arg) (e0 : ((List (List UInt8)) × Int) → Option Out) (v : (List (List UInt8)) × Int × Int) : Option Out := rawIter (fun self v => B0 k self e0 a1 v) k v
theorem l0_eq (k : Nat) (K : Ex → St → Option Out) (a1 : Arg) (v402 : (List (List UInt8)) × Int × Int) : iterK (codeK E k fin (sub [1, 0, 1, 0, 0] C)) (keepF [0, 1, 5] []) K k ({ n := 19, sl := [(0, .own (.slc (.slc u8)) (ownMd (.slc (.slc u8))) [] v402.1), (1, .val i64 v402.2.1), (5, .val i64 v402.2.2)], vr := [], lent := [(0, 0, true)] }) = l0 k a1 (X0_0 K a1) v402 :=
  iter_raw _ _ K (fun v402 => ({ n := 19, sl := [(0, .own (.slc (.slc u8)) (ownMd (.slc (.slc u8))) [] v402.1), (1, .val i64 v402.2.1), (5, .val i64 v402.2.2)], vr := [], lent := [(0, 0, true)] } : St)) (fun self v => B0 k self (X0_0 K a1) a1 v) (fun rec v => B0_eq k rec K a1 v) k v402
noncomputable def q0 (a1 : Arg) (z608 : ((List (List UInt8)) × Int)) : Option Out := some (z608.2, z608.1, ())
noncomputable def Q0 (k : Nat) (a1 : Arg) (z608 : ((List (List UInt8)) × Int)) : Option Out := q0 a1 z608
theorem q0_eq (k : Nat) (a1 : Arg) (z608 : ((List (List UInt8)) × Int)) : (blockC 0 (seqC (codeK E k fin (sub [1, 1] C)) K0)) (.exit 0) ({ n := 19, sl := [(0, .own (.slc (.slc u8)) (ownMd (.slc (.slc u8))) [] z608.1), (1, .val i64 z608.2)], vr := [], lent := [(0, 0, true)] }) = q0 a1 z608 := by kernel_rfl
theorem Q0_eq (k : Nat) (a1 : Arg) (z608 : ((List (List UInt8)) × Int)) : (blockC 0 (seqC (codeK E k fin (sub [1, 1] C)) K0)) (.exit 0) ({ n := 19, sl := [(0, .own (.slc (.slc u8)) (ownMd (.slc (.slc u8))) [] z608.1), (1, .val i64 z608.2)], vr := [], lent := [(0, 0, true)] }) = Q0 k a1 z608 := (q0_eq k a1 z608).trans (by rfl)
noncomputable def s0 (k : Nat) (a1 : Arg) : ((List (List UInt8)) × Int × Int) → Option Out := fun v402 => iterK (codeK E k fin (sub [1, 0, 1, 0, 0] C)) (keepF [0, 1, 5] []) (blockC 0 (seqC (codeK E k fin (sub [1, 1] C)) K0)) k ({ n := 19, sl := [(0, .own (.slc (.slc u8)) (ownMd (.slc (.slc u8))) [] v402.1), (1, .val i64 v402.2.1), (5, .val i64 v402.2.2)], vr := [], lent := [(0, 0, true)] })
noncomputable def r0 (k : Nat) (a1 : Arg) : ((List (List UInt8)) × Int × Int) → Option Out := fun v402 => l0 k a1 (fun z => Q0 k a1 z) v402
theorem s0_eq (k : Nat) (a1 : Arg) : s0 k a1 = r0 k a1 := by
  funext v402;
  have h0 : X0_0 ((blockC 0 (seqC (codeK E k fin (sub [1, 1] C)) K0))) a1 = fun z => Q0 k a1 z := funext fun z => Q0_eq k a1 z
  refine (l0_eq k ((blockC 0 (seqC (codeK E k fin (sub [1, 1] C)) K0))) a1 v402).trans ?_
  rw [h0]
  rfl
noncomputable def p (l0 : ((List (List UInt8)) × Int × Int) → Option Out) (a1 : Arg) : Option Out := l0 (a1.1, a1.2.1, (0 : Int))
noncomputable def raw (k : Nat) (a1 : Arg) : Option Out := p (r0 k a1) a1
theorem p_eq (k : Nat) (a1 : Arg) : bodyK E k Go.Proofs.Try.f121 ps rs [0] [] a1 = p (s0 k a1) a1 := by kernel_rfl
theorem raw_eq (k : Nat) (a1 : Arg) : bodyK E k Go.Proofs.Try.f121 ps rs [0] [] a1 = raw k a1 := (p_eq k a1).trans (by rw [s0_eq]; rfl)
theorem ent : EnterOk Go.Proofs.Try.prog 121 sig.cap := ⟨Go.Proofs.Try.f121, Go.Proofs.Try.func121, by kernel_rfl, by kernel_rfl, by kernel_rfl⟩
theorem env : EnvOk Go.Proofs.Try.prog E := env_ok (tl := [(38, (.slc (.slc u8))), (39, (.slc u8))]) (gl := [(111, laws_markByteS.sig)]) rfl rfl (by kernel_rfl) (by kernel_rfl) (fn_cons laws_markByteS.snd laws_markByteS.ent (fn_nil _))
theorem chk : funOk Go.Proofs.Try.prog E Go.Proofs.Try.f121 ps rs [0] = true := by kernel_rfl
theorem snd : Sound Go.Proofs.Try.prog 121 sig := sound_of_body env Go.Proofs.Try.func121 rfl (es := [0]) (fr := []) chk (fun _ _ h => lift_some h)
end laws_markByteSS
namespace laws_heldByteS
/-! loop example g00408 laws heldByteS -/
abbrev Arg : Type := (List UInt8) × Int × Unit
abbrev Out : Type := Int × Unit
noncomputable def ps : List (PM × Ty) := [(.ro, (.slc u8)), (.ro, i64)]
noncomputable def rs : List (Ty × Md) := [(i64, (roMd i64))]
noncomputable def E : Env := { TI := lookN [(3, i64), (5, u8), (39, (.slc u8))], G := lookN [], fz := [], lv := [(2, [0, 1, 5])], lx := [(0, [1])], lf := [], od := [] }
noncomputable def sem (a : Arg) : Option Out := lift fun k => bodyK E k Go.Proofs.Try.f193 ps rs [] [] a
noncomputable def sig : Sig := { ps := ps, rs := rs, F := fun a => sem a }
noncomputable def C : Code := bodyOf Go.Proofs.Try.f193
noncomputable def fin : St → Option Out := outK ps rs [] (Func.results Go.Proofs.Try.f193).toList (mvs [])
noncomputable def K0 : Ex → St → Option Out := endK fin
noncomputable def S0 (rec : St → Option Out) (a1 : Arg) : (Int × Int) → Option Out := fun v402 => rec ({ n := 22, sl := [(0, .val (.slc u8) a1.1), (1, .val i64 v402.1), (5, .val i64 v402.2)], vr := [], lent := [] })
noncomputable def X0_0 (K : Ex → St → Option Out) (a1 : Arg) : Int → Option Out := fun z => K (.exit 0) ({ n := 22, sl := [(1, .val i64 z)], vr := [], lent := [] })
noncomputable def b0 (self : (Int × Int) → Option Out) (e0 : Int → Option Out) (a1 : Arg) (v402 : Int × Int) : Option Out := bif decide (v402.2 < (a1.1.length : Int)) then (if 0 ≤ v402.2 then ((a1.1[v402.2.toNat]?).bind fun x603 => bif !decide ((x603.toNat : Int) = ((UInt8.ofInt v402.1).toNat : Int)) then (some ((-1 : Int), ())) else self (w64 (v402.1 + (1 : Int)), w64 (v402.2 + (1 : Int)))) else none) else e0 v402.1
noncomputable def B0 (k : Nat) (self : (Int × Int) → Option Out) (e0 : Int → Option Out) (a1 : Arg) (v402 : Int × Int) : Option Out := b0 self e0 a1 v402
theorem b0_eq (k : Nat) (rec : St → Option Out) (K : Ex → St → Option Out) (a1 : Arg) (v402 : Int × Int) : codeK E k fin (sub [1, 0, 1, 0, 0] C) ({ n := 22, sl := [(0, .val (.slc u8) a1.1), (1, .val i64 v402.1), (5, .val i64 v402.2)], vr := [], lent := [] }) (loopC rec (keepF [0, 1, 5] []) K) = b0 (S0 rec a1) (X0_0 K a1) a1 v402 := by kernel_rfl
theorem B0_eq (k : Nat) (rec : St → Option Out) (K : Ex → St → Option Out) (a1 : Arg) (v402 : Int × Int) : codeK E k fin (sub [1, 0, 1, 0, 0] C) ({ n := 22, sl := [(0, .val (.slc u8) a1.1), (1, .val i64 v402.1), (5, .val i64 v402.2)], vr := [], lent := [] }) (loopC rec (keepF [0, 1, 5] []) K) = B0 k (S0 rec a1) (X0_0 K a1) a1 v402 := (b0_eq k rec K a1 v402).trans (by rfl)
noncomputable def l0 (k : Nat) (a1 : Arg) (e0 : Int → Option Out) (v : Int × Int) : Option Out := rawIter (fun self v => B0 k self e0 a1 v) k v
theorem l0_eq (k : Nat) (K : Ex → St → Option Out) (a1 : Arg) (v402 : Int × Int) : iterK (codeK E k fin (sub [1, 0, 1, 0, 0] C)) (keepF [0, 1, 5] []) K k ({ n := 22, sl := [(0, .val (.slc u8) a1.1), (1, .val i64 v402.1), (5, .val i64 v402.2)], vr := [], lent := [] }) = l0 k a1 (X0_0 K a1) v402 :=
  iter_raw _ _ K (fun v402 => ({ n := 22, sl := [(0, .val (.slc u8) a1.1), (1, .val i64 v402.1), (5, .val i64 v402.2)], vr := [], lent := [] } : St)) (fun self v => B0 k self (X0_0 K a1) a1 v) (fun rec v => B0_eq k rec K a1 v) k v402
noncomputable def q0 (a1 : Arg) (z604 : Int) : Option Out := some (z604, ())
noncomputable def Q0 (k : Nat) (a1 : Arg) (z604 : Int) : Option Out := q0 a1 z604
theorem q0_eq (k : Nat) (a1 : Arg) (z604 : Int) : (blockC 0 (seqC (codeK E k fin (sub [1, 1] C)) K0)) (.exit 0) ({ n := 22, sl := [(1, .val i64 z604)], vr := [], lent := [] }) = q0 a1 z604 := by kernel_rfl
theorem Q0_eq (k : Nat) (a1 : Arg) (z604 : Int) : (blockC 0 (seqC (codeK E k fin (sub [1, 1] C)) K0)) (.exit 0) ({ n := 22, sl := [(1, .val i64 z604)], vr := [], lent := [] }) = Q0 k a1 z604 := (q0_eq k a1 z604).trans (by rfl)
noncomputable def s0 (k : Nat) (a1 : Arg) : (Int × Int) → Option Out := fun v402 => iterK (codeK E k fin (sub [1, 0, 1, 0, 0] C)) (keepF [0, 1, 5] []) (blockC 0 (seqC (codeK E k fin (sub [1, 1] C)) K0)) k ({ n := 22, sl := [(0, .val (.slc u8) a1.1), (1, .val i64 v402.1), (5, .val i64 v402.2)], vr := [], lent := [] })
noncomputable def r0 (k : Nat) (a1 : Arg) : (Int × Int) → Option Out := fun v402 => l0 k a1 (fun z => Q0 k a1 z) v402
theorem s0_eq (k : Nat) (a1 : Arg) : s0 k a1 = r0 k a1 := by
  funext v402;
  have h0 : X0_0 ((blockC 0 (seqC (codeK E k fin (sub [1, 1] C)) K0))) a1 = fun z => Q0 k a1 z := funext fun z => Q0_eq k a1 z
  refine (l0_eq k ((blockC 0 (seqC (codeK E k fin (sub [1, 1] C)) K0))) a1 v402).trans ?_
  rw [h0]
  rfl
noncomputable def p (l0 : (Int × Int) → Option Out) (a1 : Arg) : Option Out := l0 (a1.2.1, (0 : Int))
noncomputable def raw (k : Nat) (a1 : Arg) : Option Out := p (r0 k a1) a1
theorem p_eq (k : Nat) (a1 : Arg) : bodyK E k Go.Proofs.Try.f193 ps rs [] [] a1 = p (s0 k a1) a1 := by kernel_rfl
theorem raw_eq (k : Nat) (a1 : Arg) : bodyK E k Go.Proofs.Try.f193 ps rs [] [] a1 = raw k a1 := (p_eq k a1).trans (by rw [s0_eq]; rfl)
theorem ent : EnterOk Go.Proofs.Try.prog 193 sig.cap := ⟨Go.Proofs.Try.f193, Go.Proofs.Try.func193, by kernel_rfl, by kernel_rfl, by kernel_rfl⟩
theorem env : EnvOk Go.Proofs.Try.prog E := env_ok (tl := [(3, i64), (5, u8), (39, (.slc u8))]) (gl := []) rfl rfl (by kernel_rfl) (by kernel_rfl) (fn_nil _)
theorem chk : funOk Go.Proofs.Try.prog E Go.Proofs.Try.f193 ps rs [] = true := by kernel_rfl
theorem snd : Sound Go.Proofs.Try.prog 193 sig := sound_of_body env Go.Proofs.Try.func193 rfl (es := []) (fr := []) chk (fun _ _ h => lift_some h)
end laws_heldByteS
namespace laws_heldByteSS
/-! loop example g00408 laws heldByteSS -/
abbrev Arg : Type := (List (List UInt8)) × Int × Unit
abbrev Out : Type := Int × Unit
noncomputable def ps : List (PM × Ty) := [(.ro, (.slc (.slc u8))), (.ro, i64)]
noncomputable def rs : List (Ty × Md) := [(i64, (roMd i64))]
noncomputable def E : Env := { TI := lookN [(38, (.slc (.slc u8))), (39, (.slc u8))], G := lookN [(193, laws_heldByteS.sig)], fz := [], lv := [(2, [0, 1, 5])], lx := [(0, [1])], lf := [], od := [] }
noncomputable def sem (a : Arg) : Option Out := lift fun k => bodyK E k Go.Proofs.Try.f123 ps rs [] [] a
noncomputable def sig : Sig := { ps := ps, rs := rs, F := fun a => sem a }
noncomputable def C : Code := bodyOf Go.Proofs.Try.f123
noncomputable def fin : St → Option Out := outK ps rs [] (Func.results Go.Proofs.Try.f123).toList (mvs [])
noncomputable def K0 : Ex → St → Option Out := endK fin
noncomputable def S0 (rec : St → Option Out) (a1 : Arg) : (Int × Int) → Option Out := fun v402 => rec ({ n := 21, sl := [(0, .val (.slc (.slc u8)) a1.1), (1, .val i64 v402.1), (5, .val i64 v402.2)], vr := [], lent := [] })
noncomputable def X0_0 (K : Ex → St → Option Out) (a1 : Arg) : Int → Option Out := fun z => K (.exit 0) ({ n := 21, sl := [(1, .val i64 z)], vr := [], lent := [] })
noncomputable def b0 (self : (Int × Int) → Option Out) (e0 : Int → Option Out) (a1 : Arg) (v402 : Int × Int) : Option Out := bif decide (v402.2 < (a1.1.length : Int)) then (if 0 ≤ v402.2 then ((a1.1[v402.2.toNat]?).bind fun x603 => (laws_heldByteS.sem (x603, v402.1, ())).bind fun r604 => bif decide (r604.1 < (0 : Int)) then (some ((-1 : Int), ())) else self (r604.1, w64 (v402.2 + (1 : Int)))) else none) else e0 v402.1
noncomputable def B0 (k : Nat) (self : (Int × Int) → Option Out) (e0 : Int → Option Out) (a1 : Arg) (v402 : Int × Int) : Option Out := b0 self e0 a1 v402
theorem b0_eq (k : Nat) (rec : St → Option Out) (K : Ex → St → Option Out) (a1 : Arg) (v402 : Int × Int) : codeK E k fin (sub [1, 0, 1, 0, 0] C) ({ n := 21, sl := [(0, .val (.slc (.slc u8)) a1.1), (1, .val i64 v402.1), (5, .val i64 v402.2)], vr := [], lent := [] }) (loopC rec (keepF [0, 1, 5] []) K) = b0 (S0 rec a1) (X0_0 K a1) a1 v402 := by kernel_rfl
theorem B0_eq (k : Nat) (rec : St → Option Out) (K : Ex → St → Option Out) (a1 : Arg) (v402 : Int × Int) : codeK E k fin (sub [1, 0, 1, 0, 0] C) ({ n := 21, sl := [(0, .val (.slc (.slc u8)) a1.1), (1, .val i64 v402.1), (5, .val i64 v402.2)], vr := [], lent := [] }) (loopC rec (keepF [0, 1, 5] []) K) = B0 k (S0 rec a1) (X0_0 K a1) a1 v402 := (b0_eq k rec K a1 v402).trans (by rfl)
noncomputable def l0 (k : Nat) (a1 : Arg) (e0 : Int → Option Out) (v : Int × Int) : Option Out := rawIter (fun self v => B0 k self e0 a1 v) k v
theorem l0_eq (k : Nat) (K : Ex → St → Option Out) (a1 : Arg) (v402 : Int × Int) : iterK (codeK E k fin (sub [1, 0, 1, 0, 0] C)) (keepF [0, 1, 5] []) K k ({ n := 21, sl := [(0, .val (.slc (.slc u8)) a1.1), (1, .val i64 v402.1), (5, .val i64 v402.2)], vr := [], lent := [] }) = l0 k a1 (X0_0 K a1) v402 :=
  iter_raw _ _ K (fun v402 => ({ n := 21, sl := [(0, .val (.slc (.slc u8)) a1.1), (1, .val i64 v402.1), (5, .val i64 v402.2)], vr := [], lent := [] } : St)) (fun self v => B0 k self (X0_0 K a1) a1 v) (fun rec v => B0_eq k rec K a1 v) k v402
noncomputable def q0 (a1 : Arg) (z605 : Int) : Option Out := some (z605, ())
noncomputable def Q0 (k : Nat) (a1 : Arg) (z605 : Int) : Option Out := q0 a1 z605
theorem q0_eq (k : Nat) (a1 : Arg) (z605 : Int) : (blockC 0 (seqC (codeK E k fin (sub [1, 1] C)) K0)) (.exit 0) ({ n := 21, sl := [(1, .val i64 z605)], vr := [], lent := [] }) = q0 a1 z605 := by kernel_rfl
theorem Q0_eq (k : Nat) (a1 : Arg) (z605 : Int) : (blockC 0 (seqC (codeK E k fin (sub [1, 1] C)) K0)) (.exit 0) ({ n := 21, sl := [(1, .val i64 z605)], vr := [], lent := [] }) = Q0 k a1 z605 := (q0_eq k a1 z605).trans (by rfl)
noncomputable def s0 (k : Nat) (a1 : Arg) : (Int × Int) → Option Out := fun v402 => iterK (codeK E k fin (sub [1, 0, 1, 0, 0] C)) (keepF [0, 1, 5] []) (blockC 0 (seqC (codeK E k fin (sub [1, 1] C)) K0)) k ({ n := 21, sl := [(0, .val (.slc (.slc u8)) a1.1), (1, .val i64 v402.1), (5, .val i64 v402.2)], vr := [], lent := [] })
noncomputable def r0 (k : Nat) (a1 : Arg) : (Int × Int) → Option Out := fun v402 => l0 k a1 (fun z => Q0 k a1 z) v402
theorem s0_eq (k : Nat) (a1 : Arg) : s0 k a1 = r0 k a1 := by
  funext v402;
  have h0 : X0_0 ((blockC 0 (seqC (codeK E k fin (sub [1, 1] C)) K0))) a1 = fun z => Q0 k a1 z := funext fun z => Q0_eq k a1 z
  refine (l0_eq k ((blockC 0 (seqC (codeK E k fin (sub [1, 1] C)) K0))) a1 v402).trans ?_
  rw [h0]
  rfl
noncomputable def p (l0 : (Int × Int) → Option Out) (a1 : Arg) : Option Out := l0 (a1.2.1, (0 : Int))
noncomputable def raw (k : Nat) (a1 : Arg) : Option Out := p (r0 k a1) a1
theorem p_eq (k : Nat) (a1 : Arg) : bodyK E k Go.Proofs.Try.f123 ps rs [] [] a1 = p (s0 k a1) a1 := by kernel_rfl
theorem raw_eq (k : Nat) (a1 : Arg) : bodyK E k Go.Proofs.Try.f123 ps rs [] [] a1 = raw k a1 := (p_eq k a1).trans (by rw [s0_eq]; rfl)
theorem ent : EnterOk Go.Proofs.Try.prog 123 sig.cap := ⟨Go.Proofs.Try.f123, Go.Proofs.Try.func123, by kernel_rfl, by kernel_rfl, by kernel_rfl⟩
theorem env : EnvOk Go.Proofs.Try.prog E := env_ok (tl := [(38, (.slc (.slc u8))), (39, (.slc u8))]) (gl := [(193, laws_heldByteS.sig)]) rfl rfl (by kernel_rfl) (by kernel_rfl) (fn_cons laws_heldByteS.snd laws_heldByteS.ent (fn_nil _))
theorem chk : funOk Go.Proofs.Try.prog E Go.Proofs.Try.f123 ps rs [] = true := by kernel_rfl
theorem snd : Sound Go.Proofs.Try.prog 123 sig := sound_of_body env Go.Proofs.Try.func123 rfl (es := []) (fr := []) chk (fun _ _ h => lift_some h)
end laws_heldByteSS
namespace impl_isTx
/-! loop example g00408 impl isTx -/
abbrev Arg : Type := Int × Unit
abbrev Out : Type := Bool × Unit
noncomputable def ps : List (PM × Ty) := [(.ro, i64)]
noncomputable def rs : List (Ty × Md) := [(.bool, (roMd .bool))]
noncomputable def E : Env := { TI := lookN [], G := lookN [(91, impl_in.sig)], fz := [], lv := [], lx := [], lf := [], od := [] }
noncomputable def sem (a : Arg) : Option Out := lift fun k => bodyK E k Go.Proofs.Try.f189 ps rs [] [] a
noncomputable def sig : Sig := { ps := ps, rs := rs, F := fun a => sem a }
noncomputable def C : Code := bodyOf Go.Proofs.Try.f189
noncomputable def fin : St → Option Out := outK ps rs [] (Func.results Go.Proofs.Try.f189).toList (mvs [])
noncomputable def K0 : Ex → St → Option Out := endK fin
noncomputable def p (a1 : Arg) : Option Out := (impl_in.sem (a1.1, (1 : Int), (99 : Int), ())).bind fun r2 => some (r2.1, ())
noncomputable def raw (k : Nat) (a1 : Arg) : Option Out := p a1
theorem p_eq (k : Nat) (a1 : Arg) : bodyK E k Go.Proofs.Try.f189 ps rs [] [] a1 = p a1 := by kernel_rfl
theorem raw_eq (k : Nat) (a1 : Arg) : bodyK E k Go.Proofs.Try.f189 ps rs [] [] a1 = raw k a1 := (p_eq k a1).trans (by rfl)
theorem ent : EnterOk Go.Proofs.Try.prog 189 sig.cap := ⟨Go.Proofs.Try.f189, Go.Proofs.Try.func189, by kernel_rfl, by kernel_rfl, by kernel_rfl⟩
theorem env : EnvOk Go.Proofs.Try.prog E := env_ok (tl := []) (gl := [(91, impl_in.sig)]) rfl rfl (by kernel_rfl) (by kernel_rfl) (fn_cons impl_in.snd impl_in.ent (fn_nil _))
theorem chk : funOk Go.Proofs.Try.prog E Go.Proofs.Try.f189 ps rs [] = true := by kernel_rfl
theorem snd : Sound Go.Proofs.Try.prog 189 sig := sound_of_body env Go.Proofs.Try.func189 rfl (es := []) (fr := []) chk (fun _ _ h => lift_some h)
end impl_isTx
namespace spec_l1Text
/-! loop example g00408 spec l1Text -/
abbrev Arg : Type := (List UInt8) × Unit
abbrev Out : Type := Bool × Unit
noncomputable def ps : List (PM × Ty) := [(.ro, .str)]
noncomputable def rs : List (Ty × Md) := [(.bool, (roMd .bool))]
noncomputable def E : Env := { TI := lookN [(9, .str)], G := lookN [], fz := [], lv := [(2, [0, 3])], lx := [(0, [0])], lf := [], od := [] }
noncomputable def sem (a : Arg) : Option Out := lift fun k => bodyK E k Go.Proofs.Try.f255 ps rs [] [] a
noncomputable def sig : Sig := { ps := ps, rs := rs, F := fun a => sem a }
noncomputable def C : Code := bodyOf Go.Proofs.Try.f255
noncomputable def fin : St → Option Out := outK ps rs [] (Func.results Go.Proofs.Try.f255).toList (mvs [])
noncomputable def K0 : Ex → St → Option Out := endK fin
noncomputable def S0 (rec : St → Option Out) (a1 : Arg) : (Int) → Option Out := fun v402 => rec ({ n := 23, sl := [(0, .val .str a1.1), (3, .val i64 v402)], vr := [], lent := [] })
noncomputable def X0_0 (K : Ex → St → Option Out) (a1 : Arg) : (Unit) → Option Out := fun z => K (.exit 0) ({ n := 23, sl := [(0, .val .str a1.1)], vr := [], lent := [] })
noncomputable def b0 (self : Int → Option Out) (e0 : (Unit) → Option Out) (a1 : Arg) (v402 : Int) : Option Out := bif decide (v402 < (a1.1.length : Int)) then (if 0 ≤ v402 then ((a1.1[v402.toNat]?).bind fun x603 => bif decide ((x603.toNat : Int) < (97 : Int)) then (some (false, ())) else if 0 ≤ v402 then ((a1.1[v402.toNat]?).bind fun x604 => bif decide ((122 : Int) < (x604.toNat : Int)) then (some (false, ())) else self (w64 (v402 + (1 : Int)))) else none) else none) else e0 ()
noncomputable def B0 (k : Nat) (self : Int → Option Out) (e0 : (Unit) → Option Out) (a1 : Arg) (v402 : Int) : Option Out := b0 self e0 a1 v402
theorem b0_eq (k : Nat) (rec : St → Option Out) (K : Ex → St → Option Out) (a1 : Arg) (v402 : Int) : codeK E k fin (sub [1, 0, 1, 0, 0] C) ({ n := 23, sl := [(0, .val .str a1.1), (3, .val i64 v402)], vr := [], lent := [] }) (loopC rec (keepF [0, 3] []) K) = b0 (S0 rec a1) (X0_0 K a1) a1 v402 := by kernel_rfl
theorem B0_eq (k : Nat) (rec : St → Option Out) (K : Ex → St → Option Out) (a1 : Arg) (v402 : Int) : codeK E k fin (sub [1, 0, 1, 0, 0] C) ({ n := 23, sl := [(0, .val .str a1.1), (3, .val i64 v402)], vr := [], lent := [] }) (loopC rec (keepF [0, 3] []) K) = B0 k (S0 rec a1) (X0_0 K a1) a1 v402 := (b0_eq k rec K a1 v402).trans (by rfl)
noncomputable def l0 (k : Nat) (a1 : Arg) (e0 : (Unit) → Option Out) (v : Int) : Option Out := rawIter (fun self v => B0 k self e0 a1 v) k v
theorem l0_eq (k : Nat) (K : Ex → St → Option Out) (a1 : Arg) (v402 : Int) : iterK (codeK E k fin (sub [1, 0, 1, 0, 0] C)) (keepF [0, 3] []) K k ({ n := 23, sl := [(0, .val .str a1.1), (3, .val i64 v402)], vr := [], lent := [] }) = l0 k a1 (X0_0 K a1) v402 :=
  iter_raw _ _ K (fun v402 => ({ n := 23, sl := [(0, .val .str a1.1), (3, .val i64 v402)], vr := [], lent := [] } : St)) (fun self v => B0 k self (X0_0 K a1) a1 v) (fun rec v => B0_eq k rec K a1 v) k v402
noncomputable def q0 (a1 : Arg) (z605 : (Unit)) : Option Out := some (decide ((a1.1.length : Int) ≤ (8 : Int)), ())
noncomputable def Q0 (k : Nat) (a1 : Arg) (z605 : (Unit)) : Option Out := q0 a1 z605
theorem q0_eq (k : Nat) (a1 : Arg) (z605 : (Unit)) : (blockC 0 (seqC (codeK E k fin (sub [1, 1] C)) K0)) (.exit 0) ({ n := 23, sl := [(0, .val .str a1.1)], vr := [], lent := [] }) = q0 a1 z605 := by kernel_rfl
theorem Q0_eq (k : Nat) (a1 : Arg) (z605 : (Unit)) : (blockC 0 (seqC (codeK E k fin (sub [1, 1] C)) K0)) (.exit 0) ({ n := 23, sl := [(0, .val .str a1.1)], vr := [], lent := [] }) = Q0 k a1 z605 := (q0_eq k a1 z605).trans (by rfl)
noncomputable def s0 (k : Nat) (a1 : Arg) : (Int) → Option Out := fun v402 => iterK (codeK E k fin (sub [1, 0, 1, 0, 0] C)) (keepF [0, 3] []) (blockC 0 (seqC (codeK E k fin (sub [1, 1] C)) K0)) k ({ n := 23, sl := [(0, .val .str a1.1), (3, .val i64 v402)], vr := [], lent := [] })
noncomputable def r0 (k : Nat) (a1 : Arg) : (Int) → Option Out := fun v402 => l0 k a1 (fun z => Q0 k a1 z) v402
theorem s0_eq (k : Nat) (a1 : Arg) : s0 k a1 = r0 k a1 := by
  funext v402;
  have h0 : X0_0 ((blockC 0 (seqC (codeK E k fin (sub [1, 1] C)) K0))) a1 = fun z => Q0 k a1 z := funext fun z => Q0_eq k a1 z
  refine (l0_eq k ((blockC 0 (seqC (codeK E k fin (sub [1, 1] C)) K0))) a1 v402).trans ?_
  rw [h0]
  rfl
noncomputable def p (l0 : (Int) → Option Out) (a1 : Arg) : Option Out := l0 (0 : Int)
noncomputable def raw (k : Nat) (a1 : Arg) : Option Out := p (r0 k a1) a1
theorem p_eq (k : Nat) (a1 : Arg) : bodyK E k Go.Proofs.Try.f255 ps rs [] [] a1 = p (s0 k a1) a1 := by kernel_rfl
theorem raw_eq (k : Nat) (a1 : Arg) : bodyK E k Go.Proofs.Try.f255 ps rs [] [] a1 = raw k a1 := (p_eq k a1).trans (by rw [s0_eq]; rfl)
theorem ent : EnterOk Go.Proofs.Try.prog 255 sig.cap := ⟨Go.Proofs.Try.f255, Go.Proofs.Try.func255, by kernel_rfl, by kernel_rfl, by kernel_rfl⟩
theorem env : EnvOk Go.Proofs.Try.prog E := env_ok (tl := [(9, .str)]) (gl := []) rfl rfl (by kernel_rfl) (by kernel_rfl) (fn_nil _)
theorem chk : funOk Go.Proofs.Try.prog E Go.Proofs.Try.f255 ps rs [] = true := by kernel_rfl
theorem snd : Sound Go.Proofs.Try.prog 255 sig := sound_of_body env Go.Proofs.Try.func255 rfl (es := []) (fr := []) chk (fun _ _ h => lift_some h)
end spec_l1Text
namespace spec_l1Fault
/-! loop example g00408 spec l1Fault -/
abbrev Arg : Type := Row × Unit
abbrev Out : Type := Int × Unit
noncomputable def ps : List (PM × Ty) := [(.ro, (.ptr tRow))]
noncomputable def rs : List (Ty × Md) := [(i64, (roMd i64))]
noncomputable def E : Env := { TI := lookN [(2, i64), (9, .str), (128, tRow)], G := lookN [(90, spec_l1In.sig), (255, spec_l1Text.sig)], fz := [], lv := [], lx := [], lf := [], od := [] }
noncomputable def sem (a : Arg) : Option Out := lift fun k => bodyK E k Go.Proofs.Try.f208 ps rs [] [] a
noncomputable def sig : Sig := { ps := ps, rs := rs, F := fun a => sem a }
noncomputable def C : Code := bodyOf Go.Proofs.Try.f208
noncomputable def fin : St → Option Out := outK ps rs [] (Func.results Go.Proofs.Try.f208).toList (mvs [])
noncomputable def K0 : Ex → St → Option Out := endK fin
noncomputable def p (a1 : Arg) : Option Out := (spec_l1In.sem (a1.1.1, (0 : Int), (3 : Int), ())).bind fun r2 => bif !r2.1 then (some ((3 : Int), ())) else (spec_l1In.sem (a1.1.2.1, (1 : Int), (99 : Int), ())).bind fun r3 => bif !r3.1 then (some ((3 : Int), ())) else (spec_l1In.sem (a1.1.2.2.1, (0 : Int), (999 : Int), ())).bind fun r4 => bif !r4.1 then (some ((3 : Int), ())) else (spec_l1Text.sem (a1.1.2.2.2.1, ())).bind fun r5 => bif !r5.1 then (some ((5 : Int), ())) else some ((0 : Int), ())
noncomputable def raw (k : Nat) (a1 : Arg) : Option Out := p a1
theorem p_eq (k : Nat) (a1 : Arg) : bodyK E k Go.Proofs.Try.f208 ps rs [] [] a1 = p a1 := by kernel_rfl
theorem raw_eq (k : Nat) (a1 : Arg) : bodyK E k Go.Proofs.Try.f208 ps rs [] [] a1 = raw k a1 := (p_eq k a1).trans (by rfl)
theorem ent : EnterOk Go.Proofs.Try.prog 208 sig.cap := ⟨Go.Proofs.Try.f208, Go.Proofs.Try.func208, by kernel_rfl, by kernel_rfl, by kernel_rfl⟩
theorem env : EnvOk Go.Proofs.Try.prog E := env_ok (tl := [(2, i64), (9, .str), (128, tRow)]) (gl := [(90, spec_l1In.sig), (255, spec_l1Text.sig)]) rfl rfl (by kernel_rfl) (by kernel_rfl) (fn_cons spec_l1In.snd spec_l1In.ent (fn_cons spec_l1Text.snd spec_l1Text.ent (fn_nil _)))
theorem chk : funOk Go.Proofs.Try.prog E Go.Proofs.Try.f208 ps rs [] = true := by kernel_rfl
theorem snd : Sound Go.Proofs.Try.prog 208 sig := sound_of_body env Go.Proofs.Try.func208 rfl (es := []) (fr := []) chk (fun _ _ h => lift_some h)
end spec_l1Fault
namespace spec_l6Change
/-! loop example g00408 spec l6Change -/
abbrev Arg : Type := Change × Unit
abbrev Out : Type := Int × Unit
noncomputable def ps : List (PM × Ty) := [(.ro, (.ptr tChange))]
noncomputable def rs : List (Ty × Md) := [(i64, (roMd i64))]
noncomputable def E : Env := { TI := lookN [(2, i64), (4, .bool), (128, tRow), (130, tChange)], G := lookN [(208, spec_l1Fault.sig)], fz := [], lv := [], lx := [], lf := [], od := [(1, [0, 1, 2, 3, 4, 5, 6, 7, 8, 9, 10, 11, 12, 13, 14, 15, 16, 17, 18, 19, 20, 21, 22, 23, 24, 25, 26, 27, 28, 29, 30, 31, 32, 33, 34, 35, 36, 37, 38, 39, 40, 41, 42, 43, 44, 45, 46, 47, 48, 49])] }
noncomputable def sem (a : Arg) : Option Out := lift fun k => bodyK E k Go.Proofs.Try.f211 ps rs [] [] a
noncomputable def sig : Sig := { ps := ps, rs := rs, F := fun a => sem a }
noncomputable def C : Code := bodyOf Go.Proofs.Try.f211
noncomputable def fin : St → Option Out := outK ps rs [] (Func.results Go.Proofs.Try.f211).toList (mvs [])
noncomputable def K0 : Ex → St → Option Out := endK fin
noncomputable def p (a1 : Arg) : Option Out := let j5 : Option Out := bif a1.1.1 then ((spec_l1Fault.sem (a1.1.2.1, ())).bind fun r6 => bif !decide (r6.1 = (0 : Int)) then (some (r6.1, ())) else bif a1.1.2.2.1 then ((spec_l1Fault.sem (a1.1.2.2.2.1, ())).bind fun r8 => some (r8.1, ())) else some ((0 : Int), ())) else bif a1.1.2.2.1 then ((spec_l1Fault.sem (a1.1.2.2.2.1, ())).bind fun r9 => some (r9.1, ())) else some ((0 : Int), ()); bif !a1.1.1 then (bif !a1.1.2.2.1 then (some ((1 : Int), ())) else bif a1.1.1 then (bif a1.1.2.2.1 then (bif !decide (a1.1.2.1.1 = a1.1.2.2.2.1.1) then (some ((1 : Int), ())) else bif !decide (a1.1.2.1.2.1 = a1.1.2.2.2.1.2.1) then (some ((1 : Int), ())) else j5) else j5) else j5) else bif a1.1.1 then (bif a1.1.2.2.1 then (bif !decide (a1.1.2.1.1 = a1.1.2.2.2.1.1) then (some ((1 : Int), ())) else bif !decide (a1.1.2.1.2.1 = a1.1.2.2.2.1.2.1) then (some ((1 : Int), ())) else j5) else j5) else j5
noncomputable def raw (k : Nat) (a1 : Arg) : Option Out := p a1
theorem p_eq (k : Nat) (a1 : Arg) : bodyK E k Go.Proofs.Try.f211 ps rs [] [] a1 = p a1 := by kernel_rfl
theorem raw_eq (k : Nat) (a1 : Arg) : bodyK E k Go.Proofs.Try.f211 ps rs [] [] a1 = raw k a1 := (p_eq k a1).trans (by rfl)
theorem ent : EnterOk Go.Proofs.Try.prog 211 sig.cap := ⟨Go.Proofs.Try.f211, Go.Proofs.Try.func211, by kernel_rfl, by kernel_rfl, by kernel_rfl⟩
theorem env : EnvOk Go.Proofs.Try.prog E := env_ok (tl := [(2, i64), (4, .bool), (128, tRow), (130, tChange)]) (gl := [(208, spec_l1Fault.sig)]) rfl rfl (by kernel_rfl) (by kernel_rfl) (fn_cons spec_l1Fault.snd spec_l1Fault.ent (fn_nil _))
theorem chk : funOk Go.Proofs.Try.prog E Go.Proofs.Try.f211 ps rs [] = true := by kernel_rfl
theorem snd : Sound Go.Proofs.Try.prog 211 sig := sound_of_body env Go.Proofs.Try.func211 rfl (es := []) (fr := []) chk (fun _ _ h => lift_some h)
end spec_l6Change
namespace spec_l9Change
/-! loop example g00408 spec l9Change -/
abbrev Arg : Type := Change × Unit
abbrev Out : Type := Int × Unit
noncomputable def ps : List (PM × Ty) := [(.ro, (.ptr tChange))]
noncomputable def rs : List (Ty × Md) := [(i64, (roMd i64))]
noncomputable def E : Env := { TI := lookN [(4, .bool), (128, tRow), (130, tChange)], G := lookN [(211, spec_l6Change.sig)], fz := [], lv := [], lx := [], lf := [], od := [(4, [0, 1, 2, 3, 4, 5, 6, 7, 8, 9, 10, 11, 12, 13, 14, 15, 16, 17, 18, 19, 20])] }
noncomputable def sem (a : Arg) : Option Out := lift fun k => bodyK E k Go.Proofs.Try.f160 ps rs [] [] a
noncomputable def sig : Sig := { ps := ps, rs := rs, F := fun a => sem a }
noncomputable def C : Code := bodyOf Go.Proofs.Try.f160
noncomputable def fin : St → Option Out := outK ps rs [] (Func.results Go.Proofs.Try.f160).toList (mvs [])
noncomputable def K0 : Ex → St → Option Out := endK fin
noncomputable def p (a1 : Arg) : Option Out := (spec_l6Change.sem (a1.1, ())).bind fun r2 => bif !decide (r2.1 = (0 : Int)) then (some (r2.1, ())) else bif a1.1.1 then (bif a1.1.2.2.1 then (bif (Ty.eq tRow a1.1.2.1 a1.1.2.2.2.1) then (some ((1 : Int), ())) else some ((0 : Int), ())) else some ((0 : Int), ())) else some ((0 : Int), ())
noncomputable def raw (k : Nat) (a1 : Arg) : Option Out := p a1
theorem p_eq (k : Nat) (a1 : Arg) : bodyK E k Go.Proofs.Try.f160 ps rs [] [] a1 = p a1 := by kernel_rfl
theorem raw_eq (k : Nat) (a1 : Arg) : bodyK E k Go.Proofs.Try.f160 ps rs [] [] a1 = raw k a1 := (p_eq k a1).trans (by rfl)
theorem ent : EnterOk Go.Proofs.Try.prog 160 sig.cap := ⟨Go.Proofs.Try.f160, Go.Proofs.Try.func160, by kernel_rfl, by kernel_rfl, by kernel_rfl⟩
theorem env : EnvOk Go.Proofs.Try.prog E := env_ok (tl := [(4, .bool), (128, tRow), (130, tChange)]) (gl := [(211, spec_l6Change.sig)]) rfl rfl (by kernel_rfl) (by kernel_rfl) (fn_cons spec_l6Change.snd spec_l6Change.ent (fn_nil _))
theorem chk : funOk Go.Proofs.Try.prog E Go.Proofs.Try.f160 ps rs [] = true := by kernel_rfl
theorem snd : Sound Go.Proofs.Try.prog 160 sig := sound_of_body env Go.Proofs.Try.func160 rfl (es := []) (fr := []) chk (fun _ _ h => lift_some h)
end spec_l9Change
namespace spec_l6Key
/-! loop example g00408 spec l6Key -/
abbrev Arg : Type := Change × Unit
abbrev Out : Type := Int × Int × Unit
noncomputable def ps : List (PM × Ty) := [(.ro, (.ptr tChange))]
noncomputable def rs : List (Ty × Md) := [(i64, (roMd i64)), (i64, (roMd i64))]
noncomputable def E : Env := { TI := lookN [(2, i64), (4, .bool), (128, tRow), (130, tChange)], G := lookN [], fz := [], lv := [], lx := [], lf := [], od := [(2, [0, 1, 2, 3, 4, 5, 6, 7, 8, 9, 10, 11]), (3, [0, 1, 2, 3, 4, 5, 6, 7, 8, 9, 10, 11])] }
noncomputable def sem (a : Arg) : Option Out := lift fun k => bodyK E k Go.Proofs.Try.f229 ps rs [] [] a
noncomputable def sig : Sig := { ps := ps, rs := rs, F := fun a => sem a }
noncomputable def C : Code := bodyOf Go.Proofs.Try.f229
noncomputable def fin : St → Option Out := outK ps rs [] (Func.results Go.Proofs.Try.f229).toList (mvs [])
noncomputable def K0 : Ex → St → Option Out := endK fin
noncomputable def p (a1 : Arg) : Option Out := bif a1.1.2.2.1 then (some (a1.1.2.2.2.1.1, a1.1.2.2.2.1.2.1, ())) else some (a1.1.2.1.1, a1.1.2.1.2.1, ())
noncomputable def raw (k : Nat) (a1 : Arg) : Option Out := p a1
theorem p_eq (k : Nat) (a1 : Arg) : bodyK E k Go.Proofs.Try.f229 ps rs [] [] a1 = p a1 := by kernel_rfl
theorem raw_eq (k : Nat) (a1 : Arg) : bodyK E k Go.Proofs.Try.f229 ps rs [] [] a1 = raw k a1 := (p_eq k a1).trans (by rfl)
theorem ent : EnterOk Go.Proofs.Try.prog 229 sig.cap := ⟨Go.Proofs.Try.f229, Go.Proofs.Try.func229, by kernel_rfl, by kernel_rfl, by kernel_rfl⟩
theorem env : EnvOk Go.Proofs.Try.prog E := env_ok (tl := [(2, i64), (4, .bool), (128, tRow), (130, tChange)]) (gl := []) rfl rfl (by kernel_rfl) (by kernel_rfl) (fn_nil _)
theorem chk : funOk Go.Proofs.Try.prog E Go.Proofs.Try.f229 ps rs [] = true := by kernel_rfl
theorem snd : Sound Go.Proofs.Try.prog 229 sig := sound_of_body env Go.Proofs.Try.func229 rfl (es := []) (fr := []) chk (fun _ _ h => lift_some h)
end spec_l6Key
namespace spec_l9Ahead
/-! loop example g00408 spec l9Ahead -/
abbrev Arg : Type := Change × Change × Unit
abbrev Out : Type := Bool × Unit
noncomputable def ps : List (PM × Ty) := [(.ro, (.ptr tChange)), (.ro, (.ptr tChange))]
noncomputable def rs : List (Ty × Md) := [(.bool, (roMd .bool))]
noncomputable def E : Env := { TI := lookN [], G := lookN [(229, spec_l6Key.sig)], fz := [], lv := [], lx := [], lf := [], od := [] }
noncomputable def sem (a : Arg) : Option Out := lift fun k => bodyK E k Go.Proofs.Try.f256 ps rs [] [] a
noncomputable def sig : Sig := { ps := ps, rs := rs, F := fun a => sem a }
noncomputable def C : Code := bodyOf Go.Proofs.Try.f256
noncomputable def fin : St → Option Out := outK ps rs [] (Func.results Go.Proofs.Try.f256).toList (mvs [])
noncomputable def K0 : Ex → St → Option Out := endK fin
noncomputable def p (a1 : Arg) : Option Out := (spec_l6Key.sem (a1.1, ())).bind fun r2 => (spec_l6Key.sem (a1.2.1, ())).bind fun r3 => bif decide (r2.1 < r3.1) then (some (true, ())) else bif decide (r2.1 = r3.1) then (some (decide (r2.2.1 < r3.2.1), ())) else some (false, ())
noncomputable def raw (k : Nat) (a1 : Arg) : Option Out := p a1
theorem p_eq (k : Nat) (a1 : Arg) : bodyK E k Go.Proofs.Try.f256 ps rs [] [] a1 = p a1 := by kernel_rfl
theorem raw_eq (k : Nat) (a1 : Arg) : bodyK E k Go.Proofs.Try.f256 ps rs [] [] a1 = raw k a1 := (p_eq k a1).trans (by rfl)
theorem ent : EnterOk Go.Proofs.Try.prog 256 sig.cap := ⟨Go.Proofs.Try.f256, Go.Proofs.Try.func256, by kernel_rfl, by kernel_rfl, by kernel_rfl⟩
theorem env : EnvOk Go.Proofs.Try.prog E := env_ok (tl := []) (gl := [(229, spec_l6Key.sig)]) rfl rfl (by kernel_rfl) (by kernel_rfl) (fn_cons spec_l6Key.snd spec_l6Key.ent (fn_nil _))
theorem chk : funOk Go.Proofs.Try.prog E Go.Proofs.Try.f256 ps rs [] = true := by kernel_rfl
theorem snd : Sound Go.Proofs.Try.prog 256 sig := sound_of_body env Go.Proofs.Try.func256 rfl (es := []) (fr := []) chk (fun _ _ h => lift_some h)
end spec_l9Ahead
namespace spec_l9List
/-! loop example g00408 spec l9List -/
abbrev Arg : Type := (List Change) × Unit
abbrev Out : Type := Int × Unit
noncomputable def ps : List (PM × Ty) := [(.ro, (.slc tChange))]
noncomputable def rs : List (Ty × Md) := [(i64, (roMd i64))]
noncomputable def E : Env := { TI := lookN [(141, (.slc tChange))], G := lookN [(160, spec_l9Change.sig), (256, spec_l9Ahead.sig)], fz := [], lv := [(4, [0, 3])], lx := [(0, [])], lf := [], od := [(9, [0, 1, 2, 3, 4, 5, 6, 7, 8, 9, 10, 11, 12])] }
noncomputable def sem (a : Arg) : Option Out := lift fun k => bodyK E k Go.Proofs.Try.f210 ps rs [] [] a
noncomputable def sig : Sig := { ps := ps, rs := rs, F := fun a => sem a }
noncomputable def C : Code := bodyOf Go.Proofs.Try.f210
noncomputable def fin : St → Option Out := outK ps rs [] (Func.results Go.Proofs.Try.f210).toList (mvs [])
noncomputable def K0 : Ex → St → Option Out := endK fin
noncomputable def S0 (rec : St → Option Out) (a1 : Arg) : (Int) → Option Out := fun v402 => rec ({ n := 34, sl := [(0, .val (.slc tChange) a1.1), (3, .val i64 v402)], vr := [], lent := [] })
noncomputable def X0_0 (K : Ex → St → Option Out) (a1 : Arg) : (Unit) → Option Out := fun z => K (.exit 0) ({ n := 34, sl := [], vr := [], lent := [] })
noncomputable def b0 (self : Int → Option Out) (e0 : (Unit) → Option Out) (a1 : Arg) (v402 : Int) : Option Out := bif decide (v402 < (a1.1.length : Int)) then (if 0 ≤ v402 then ((a1.1[v402.toNat]?).bind fun x603 => (spec_l9Change.sem (x603, ())).bind fun r604 => bif !decide (r604.1 = (0 : Int)) then (some (r604.1, ())) else bif decide ((0 : Int) < v402) then (if 0 ≤ w64 (v402 - (1 : Int)) then ((a1.1[(w64 (v402 - (1 : Int))).toNat]?).bind fun x605 => if 0 ≤ v402 then ((a1.1[v402.toNat]?).bind fun x606 => (spec_l9Ahead.sem (x605, x606, ())).bind fun r607 => bif !r607.1 then (some ((1 : Int), ())) else self (w64 (v402 + (1 : Int)))) else none) else none) else self (w64 (v402 + (1 : Int)))) else none) else e0 ()
noncomputable def B0 (k : Nat) (self : Int → Option Out) (e0 : (Unit) → Option Out) (a1 : Arg) (v402 : Int) : Option Out := b0 self e0 a1 v402
theorem b0_eq (k : Nat) (rec : St → Option Out) (K : Ex → St → Option Out) (a1 : Arg) (v402 : Int) : codeK E k fin (sub [1, 1, 0, 1, 0, 0] C) ({ n := 34, sl := [(0, .val (.slc tChange) a1.1), (3, .val i64 v402)], vr := [], lent := [] }) (loopC rec (keepF [0, 3] []) K) = b0 (S0 rec a1) (X0_0 K a1) a1 v402 := by kernel_rfl
theorem B0_eq (k : Nat) (rec : St → Option Out) (K : Ex → St → Option Out) (a1 : Arg) (v402 : Int) : codeK E k fin (sub [1, 1, 0, 1, 0, 0] C) ({ n := 34, sl := [(0, .val (.slc tChange) a1.1), (3, .val i64 v402)], vr := [], lent := [] }) (loopC rec (keepF [0, 3] []) K) = B0 k (S0 rec a1) (X0_0 K a1) a1 v402 := (b0_eq k rec K a1 v402).trans (by rfl)
noncomputable def l0 (k : Nat) (a1 : Arg) (e0 : (Unit) → Option Out) (v : Int) : Option Out := rawIter (fun self v => B0 k self e0 a1 v) k v
theorem l0_eq (k : Nat) (K : Ex → St → Option Out) (a1 : Arg) (v402 : Int) : iterK (codeK E k fin (sub [1, 1, 0, 1, 0, 0] C)) (keepF [0, 3] []) K k ({ n := 34, sl := [(0, .val (.slc tChange) a1.1), (3, .val i64 v402)], vr := [], lent := [] }) = l0 k a1 (X0_0 K a1) v402 :=
  iter_raw _ _ K (fun v402 => ({ n := 34, sl := [(0, .val (.slc tChange) a1.1), (3, .val i64 v402)], vr := [], lent := [] } : St)) (fun self v => B0 k self (X0_0 K a1) a1 v) (fun rec v => B0_eq k rec K a1 v) k v402
noncomputable def q0 (a1 : Arg) (z608 : (Unit)) : Option Out := some ((0 : Int), ())
noncomputable def Q0 (k : Nat) (a1 : Arg) (z608 : (Unit)) : Option Out := q0 a1 z608
theorem q0_eq (k : Nat) (a1 : Arg) (z608 : (Unit)) : (blockC 0 (seqC (codeK E k fin (sub [1, 1, 1] C)) K0)) (.exit 0) ({ n := 34, sl := [], vr := [], lent := [] }) = q0 a1 z608 := by kernel_rfl
theorem Q0_eq (k : Nat) (a1 : Arg) (z608 : (Unit)) : (blockC 0 (seqC (codeK E k fin (sub [1, 1, 1] C)) K0)) (.exit 0) ({ n := 34, sl := [], vr := [], lent := [] }) = Q0 k a1 z608 := (q0_eq k a1 z608).trans (by rfl)
noncomputable def s0 (k : Nat) (a1 : Arg) : (Int) → Option Out := fun v402 => iterK (codeK E k fin (sub [1, 1, 0, 1, 0, 0] C)) (keepF [0, 3] []) (blockC 0 (seqC (codeK E k fin (sub [1, 1, 1] C)) K0)) k ({ n := 34, sl := [(0, .val (.slc tChange) a1.1), (3, .val i64 v402)], vr := [], lent := [] })
noncomputable def r0 (k : Nat) (a1 : Arg) : (Int) → Option Out := fun v402 => l0 k a1 (fun z => Q0 k a1 z) v402
theorem s0_eq (k : Nat) (a1 : Arg) : s0 k a1 = r0 k a1 := by
  funext v402;
  have h0 : X0_0 ((blockC 0 (seqC (codeK E k fin (sub [1, 1, 1] C)) K0))) a1 = fun z => Q0 k a1 z := funext fun z => Q0_eq k a1 z
  refine (l0_eq k ((blockC 0 (seqC (codeK E k fin (sub [1, 1, 1] C)) K0))) a1 v402).trans ?_
  rw [h0]
  rfl
noncomputable def p (l0 : (Int) → Option Out) (a1 : Arg) : Option Out := bif decide ((60 : Int) < (a1.1.length : Int)) then (some ((2 : Int), ())) else l0 (0 : Int)
noncomputable def raw (k : Nat) (a1 : Arg) : Option Out := p (r0 k a1) a1
theorem p_eq (k : Nat) (a1 : Arg) : bodyK E k Go.Proofs.Try.f210 ps rs [] [] a1 = p (s0 k a1) a1 := by kernel_rfl
theorem raw_eq (k : Nat) (a1 : Arg) : bodyK E k Go.Proofs.Try.f210 ps rs [] [] a1 = raw k a1 := (p_eq k a1).trans (by rw [s0_eq]; rfl)
theorem ent : EnterOk Go.Proofs.Try.prog 210 sig.cap := ⟨Go.Proofs.Try.f210, Go.Proofs.Try.func210, by kernel_rfl, by kernel_rfl, by kernel_rfl⟩
theorem env : EnvOk Go.Proofs.Try.prog E := env_ok (tl := [(141, (.slc tChange))]) (gl := [(160, spec_l9Change.sig), (256, spec_l9Ahead.sig)]) rfl rfl (by kernel_rfl) (by kernel_rfl) (fn_cons spec_l9Change.snd spec_l9Change.ent (fn_cons spec_l9Ahead.snd spec_l9Ahead.ent (fn_nil _)))
theorem chk : funOk Go.Proofs.Try.prog E Go.Proofs.Try.f210 ps rs [] = true := by kernel_rfl
theorem snd : Sound Go.Proofs.Try.prog 210 sig := sound_of_body env Go.Proofs.Try.func210 rfl (es := []) (fr := []) chk (fun _ _ h => lift_some h)
end spec_l9List
namespace spec_l14Sent
/-! loop example g00408 spec l14Sent -/
abbrev Arg : Type := Sent × Unit
abbrev Out : Type := Int × Unit
noncomputable def ps : List (PM × Ty) := [(.ro, (.ptr tSent))]
noncomputable def rs : List (Ty × Md) := [(i64, (roMd i64))]
noncomputable def E : Env := { TI := lookN [(2, i64), (141, (.slc tChange)), (143, tSent)], G := lookN [(90, spec_l1In.sig), (210, spec_l9List.sig)], fz := [], lv := [], lx := [], lf := [], od := [] }
noncomputable def sem (a : Arg) : Option Out := lift fun k => bodyK E k Go.Proofs.Try.f139 ps rs [] [] a
noncomputable def sig : Sig := { ps := ps, rs := rs, F := fun a => sem a }
noncomputable def C : Code := bodyOf Go.Proofs.Try.f139
noncomputable def fin : St → Option Out := outK ps rs [] (Func.results Go.Proofs.Try.f139).toList (mvs [])
noncomputable def K0 : Ex → St → Option Out := endK fin
noncomputable def p (a1 : Arg) : Option Out := (spec_l1In.sem (a1.1.1, (0 : Int), (16000 : Int), ())).bind fun r2 => bif !r2.1 then (some ((3 : Int), ())) else (spec_l1In.sem (a1.1.2.1, (1 : Int), (99 : Int), ())).bind fun r3 => bif !r3.1 then (some ((3 : Int), ())) else (spec_l9List.sem (a1.1.2.2.1, ())).bind fun r4 => some (r4.1, ())
noncomputable def raw (k : Nat) (a1 : Arg) : Option Out := p a1
theorem p_eq (k : Nat) (a1 : Arg) : bodyK E k Go.Proofs.Try.f139 ps rs [] [] a1 = p a1 := by kernel_rfl
theorem raw_eq (k : Nat) (a1 : Arg) : bodyK E k Go.Proofs.Try.f139 ps rs [] [] a1 = raw k a1 := (p_eq k a1).trans (by rfl)
theorem ent : EnterOk Go.Proofs.Try.prog 139 sig.cap := ⟨Go.Proofs.Try.f139, Go.Proofs.Try.func139, by kernel_rfl, by kernel_rfl, by kernel_rfl⟩
theorem env : EnvOk Go.Proofs.Try.prog E := env_ok (tl := [(2, i64), (141, (.slc tChange)), (143, tSent)]) (gl := [(90, spec_l1In.sig), (210, spec_l9List.sig)]) rfl rfl (by kernel_rfl) (by kernel_rfl) (fn_cons spec_l1In.snd spec_l1In.ent (fn_cons spec_l9List.snd spec_l9List.ent (fn_nil _)))
theorem chk : funOk Go.Proofs.Try.prog E Go.Proofs.Try.f139 ps rs [] = true := by kernel_rfl
theorem snd : Sound Go.Proofs.Try.prog 139 sig := sound_of_body env Go.Proofs.Try.func139 rfl (es := []) (fr := []) chk (fun _ _ h => lift_some h)
end spec_l14Sent
namespace impl_RowFault
/-! loop example g00408 impl RowFault -/
abbrev Arg : Type := Row × Unit
abbrev Out : Type := Int × Unit
noncomputable def ps : List (PM × Ty) := [(.ro, tRow)]
noncomputable def rs : List (Ty × Md) := [(i64, (roMd i64))]
noncomputable def E : Env := { TI := lookN [(2, i64), (9, .str), (128, tRow)], G := lookN [(91, impl_in.sig)], fz := [], lv := [(6, [1, 26, 27])], lx := [(0, [])], lf := [], od := [] }
noncomputable def sem (a : Arg) : Option Out := lift fun k => bodyK E k Go.Proofs.Try.f213 ps rs [] [] a
noncomputable def sig : Sig := { ps := ps, rs := rs, F := fun a => sem a }
noncomputable def C : Code := bodyOf Go.Proofs.Try.f213
noncomputable def fin : St → Option Out := outK ps rs [] (Func.results Go.Proofs.Try.f213).toList (mvs [])
noncomputable def K0 : Ex → St → Option Out := endK fin
noncomputable def S0 (rec : St → Option Out) (a1 : Arg) : (Int) → Option Out := fun v405 => rec ({ n := 43, sl := [(1, .box tRow (roMd tRow) [] a1.1), (26, .val i64 (a1.1.2.2.2.1.length : Int)), (27, .val i64 v405)], vr := [], lent := [] })
noncomputable def X0_0 (K : Ex → St → Option Out) (a1 : Arg) : (Unit) → Option Out := fun z => K (.exit 0) ({ n := 43, sl := [], vr := [], lent := [] })
noncomputable def b0 (self : Int → Option Out) (e0 : (Unit) → Option Out) (a1 : Arg) (v405 : Int) : Option Out := bif decide (v405 < (a1.1.2.2.2.1.length : Int)) then (if 0 ≤ v405 then ((a1.1.2.2.2.1[v405.toNat]?).bind fun x606 => bif decide ((x606.toNat : Int) < (97 : Int)) then (some ((5 : Int), ())) else if 0 ≤ v405 then ((a1.1.2.2.2.1[v405.toNat]?).bind fun x607 => bif decide ((122 : Int) < (x607.toNat : Int)) then (some ((5 : Int), ())) else self (w64 (v405 + (1 : Int)))) else none) else none) else e0 ()
noncomputable def B0 (k : Nat) (self : Int → Option Out) (e0 : (Unit) → Option Out) (a1 : Arg) (v405 : Int) : Option Out := b0 self e0 a1 v405
theorem b0_eq (k : Nat) (rec : St → Option Out) (K : Ex → St → Option Out) (a1 : Arg) (v405 : Int) : codeK E k fin (sub [1, 1, 1, 0, 1, 0, 0] C) ({ n := 43, sl := [(1, .box tRow (roMd tRow) [] a1.1), (26, .val i64 (a1.1.2.2.2.1.length : Int)), (27, .val i64 v405)], vr := [], lent := [] }) (loopC rec (keepF [1, 26, 27] []) K) = b0 (S0 rec a1) (X0_0 K a1) a1 v405 := by kernel_rfl
theorem B0_eq (k : Nat) (rec : St → Option Out) (K : Ex → St → Option Out) (a1 : Arg) (v405 : Int) : codeK E k fin (sub [1, 1, 1, 0, 1, 0, 0] C) ({ n := 43, sl := [(1, .box tRow (roMd tRow) [] a1.1), (26, .val i64 (a1.1.2.2.2.1.length : Int)), (27, .val i64 v405)], vr := [], lent := [] }) (loopC rec (keepF [1, 26, 27] []) K) = B0 k (S0 rec a1) (X0_0 K a1) a1 v405 := (b0_eq k rec K a1 v405).trans (by rfl)
noncomputable def l0 (k : Nat) (a1 : Arg) (e0 : (Unit) → Option Out) (v : Int) : Option Out := rawIter (fun self v => B0 k self e0 a1 v) k v
theorem l0_eq (k : Nat) (K : Ex → St → Option Out) (a1 : Arg) (v405 : Int) : iterK (codeK E k fin (sub [1, 1, 1, 0, 1, 0, 0] C)) (keepF [1, 26, 27] []) K k ({ n := 43, sl := [(1, .box tRow (roMd tRow) [] a1.1), (26, .val i64 (a1.1.2.2.2.1.length : Int)), (27, .val i64 v405)], vr := [], lent := [] }) = l0 k a1 (X0_0 K a1) v405 :=
  iter_raw _ _ K (fun v405 => ({ n := 43, sl := [(1, .box tRow (roMd tRow) [] a1.1), (26, .val i64 (a1.1.2.2.2.1.length : Int)), (27, .val i64 v405)], vr := [], lent := [] } : St)) (fun self v => B0 k self (X0_0 K a1) a1 v) (fun rec v => B0_eq k rec K a1 v) k v405
noncomputable def q0 (a1 : Arg) (z608 : (Unit)) : Option Out := some ((0 : Int), ())
noncomputable def Q0 (k : Nat) (a1 : Arg) (z608 : (Unit)) : Option Out := q0 a1 z608
theorem q0_eq (k : Nat) (a1 : Arg) (z608 : (Unit)) : (blockC 0 (seqC (codeK E k fin (sub [1, 1, 1, 1] C)) K0)) (.exit 0) ({ n := 43, sl := [], vr := [], lent := [] }) = q0 a1 z608 := by kernel_rfl
theorem Q0_eq (k : Nat) (a1 : Arg) (z608 : (Unit)) : (blockC 0 (seqC (codeK E k fin (sub [1, 1, 1, 1] C)) K0)) (.exit 0) ({ n := 43, sl := [], vr := [], lent := [] }) = Q0 k a1 z608 := (q0_eq k a1 z608).trans (by rfl)
noncomputable def s0 (k : Nat) (a1 : Arg) : (Int) → Option Out := fun v405 => iterK (codeK E k fin (sub [1, 1, 1, 0, 1, 0, 0] C)) (keepF [1, 26, 27] []) (blockC 0 (seqC (codeK E k fin (sub [1, 1, 1, 1] C)) K0)) k ({ n := 43, sl := [(1, .box tRow (roMd tRow) [] a1.1), (26, .val i64 (a1.1.2.2.2.1.length : Int)), (27, .val i64 v405)], vr := [], lent := [] })
noncomputable def r0 (k : Nat) (a1 : Arg) : (Int) → Option Out := fun v405 => l0 k a1 (fun z => Q0 k a1 z) v405
theorem s0_eq (k : Nat) (a1 : Arg) : s0 k a1 = r0 k a1 := by
  funext v405;
  have h0 : X0_0 ((blockC 0 (seqC (codeK E k fin (sub [1, 1, 1, 1] C)) K0))) a1 = fun z => Q0 k a1 z := funext fun z => Q0_eq k a1 z
  refine (l0_eq k ((blockC 0 (seqC (codeK E k fin (sub [1, 1, 1, 1] C)) K0))) a1 v405).trans ?_
  rw [h0]
  rfl
noncomputable def p (l0 : (Int) → Option Out) (a1 : Arg) : Option Out := (impl_in.sem (a1.1.1, (0 : Int), (3 : Int), ())).bind fun r2 => bif !r2.1 then (some ((3 : Int), ())) else (impl_in.sem (a1.1.2.1, (1 : Int), (99 : Int), ())).bind fun r3 => bif !r3.1 then (some ((3 : Int), ())) else (impl_in.sem (a1.1.2.2.1, (0 : Int), (999 : Int), ())).bind fun r4 => bif !r4.1 then (some ((3 : Int), ())) else bif decide ((8 : Int) < (a1.1.2.2.2.1.length : Int)) then (some ((5 : Int), ())) else l0 (0 : Int)
noncomputable def raw (k : Nat) (a1 : Arg) : Option Out := p (r0 k a1) a1
theorem p_eq (k : Nat) (a1 : Arg) : bodyK E k Go.Proofs.Try.f213 ps rs [] [] a1 = p (s0 k a1) a1 := by kernel_rfl
theorem raw_eq (k : Nat) (a1 : Arg) : bodyK E k Go.Proofs.Try.f213 ps rs [] [] a1 = raw k a1 := (p_eq k a1).trans (by rw [s0_eq]; rfl)
theorem ent : EnterOk Go.Proofs.Try.prog 213 sig.cap := ⟨Go.Proofs.Try.f213, Go.Proofs.Try.func213, by kernel_rfl, by kernel_rfl, by kernel_rfl⟩
theorem env : EnvOk Go.Proofs.Try.prog E := env_ok (tl := [(2, i64), (9, .str), (128, tRow)]) (gl := [(91, impl_in.sig)]) rfl rfl (by kernel_rfl) (by kernel_rfl) (fn_cons impl_in.snd impl_in.ent (fn_nil _))
theorem chk : funOk Go.Proofs.Try.prog E Go.Proofs.Try.f213 ps rs [] = true := by kernel_rfl
theorem snd : Sound Go.Proofs.Try.prog 213 sig := sound_of_body env Go.Proofs.Try.func213 rfl (es := []) (fr := []) chk (fun _ _ h => lift_some h)
end impl_RowFault
namespace impl_IsBefore
/-! loop example g00408 impl IsBefore -/
abbrev Arg : Type := Row × Row × Unit
abbrev Out : Type := Bool × Unit
noncomputable def ps : List (PM × Ty) := [(.ro, tRow), (.ro, tRow)]
noncomputable def rs : List (Ty × Md) := [(.bool, (roMd .bool))]
noncomputable def E : Env := { TI := lookN [(2, i64), (128, tRow)], G := lookN [], fz := [], lv := [], lx := [], lf := [], od := [] }
noncomputable def sem (a : Arg) : Option Out := lift fun k => bodyK E k Go.Proofs.Try.f214 ps rs [] [] a
noncomputable def sig : Sig := { ps := ps, rs := rs, F := fun a => sem a }
noncomputable def C : Code := bodyOf Go.Proofs.Try.f214
noncomputable def fin : St → Option Out := outK ps rs [] (Func.results Go.Proofs.Try.f214).toList (mvs [])
noncomputable def K0 : Ex → St → Option Out := endK fin
noncomputable def p (a1 : Arg) : Option Out := bif decide (a1.1.1 < a1.2.1.1) then (some (true, ())) else bif decide (a1.1.1 = a1.2.1.1) then (some (decide (a1.1.2.1 < a1.2.1.2.1), ())) else some (false, ())
noncomputable def raw (k : Nat) (a1 : Arg) : Option Out := p a1
theorem p_eq (k : Nat) (a1 : Arg) : bodyK E k Go.Proofs.Try.f214 ps rs [] [] a1 = p a1 := by kernel_rfl
theorem raw_eq (k : Nat) (a1 : Arg) : bodyK E k Go.Proofs.Try.f214 ps rs [] [] a1 = raw k a1 := (p_eq k a1).trans (by rfl)
theorem ent : EnterOk Go.Proofs.Try.prog 214 sig.cap := ⟨Go.Proofs.Try.f214, Go.Proofs.Try.func214, by kernel_rfl, by kernel_rfl, by kernel_rfl⟩
theorem env : EnvOk Go.Proofs.Try.prog E := env_ok (tl := [(2, i64), (128, tRow)]) (gl := []) rfl rfl (by kernel_rfl) (by kernel_rfl) (fn_nil _)
theorem chk : funOk Go.Proofs.Try.prog E Go.Proofs.Try.f214 ps rs [] = true := by kernel_rfl
theorem snd : Sound Go.Proofs.Try.prog 214 sig := sound_of_body env Go.Proofs.Try.func214 rfl (es := []) (fr := []) chk (fun _ _ h => lift_some h)
end impl_IsBefore
namespace impl_order
/-! loop example g00408 impl order -/
abbrev Arg : Type := Row × Row × Unit
abbrev Out : Type := Int × Unit
noncomputable def ps : List (PM × Ty) := [(.ro, tRow), (.ro, tRow)]
noncomputable def rs : List (Ty × Md) := [(i64, (roMd i64))]
noncomputable def E : Env := { TI := lookN [(128, tRow)], G := lookN [(214, impl_IsBefore.sig)], fz := [], lv := [], lx := [], lf := [], od := [] }
noncomputable def sem (a : Arg) : Option Out := lift fun k => bodyK E k Go.Proofs.Try.f259 ps rs [] [] a
noncomputable def sig : Sig := { ps := ps, rs := rs, F := fun a => sem a }
noncomputable def C : Code := bodyOf Go.Proofs.Try.f259
noncomputable def fin : St → Option Out := outK ps rs [] (Func.results Go.Proofs.Try.f259).toList (mvs [])
noncomputable def K0 : Ex → St → Option Out := endK fin
noncomputable def p (a1 : Arg) : Option Out := (impl_IsBefore.sem (a1.1, a1.2.1, ())).bind fun r2 => bif r2.1 then (some ((-1 : Int), ())) else (impl_IsBefore.sem (a1.2.1, a1.1, ())).bind fun r3 => bif r3.1 then (some ((1 : Int), ())) else some ((0 : Int), ())
noncomputable def raw (k : Nat) (a1 : Arg) : Option Out := p a1
theorem p_eq (k : Nat) (a1 : Arg) : bodyK E k Go.Proofs.Try.f259 ps rs [] [] a1 = p a1 := by kernel_rfl
theorem raw_eq (k : Nat) (a1 : Arg) : bodyK E k Go.Proofs.Try.f259 ps rs [] [] a1 = raw k a1 := (p_eq k a1).trans (by rfl)
theorem ent : EnterOk Go.Proofs.Try.prog 259 sig.cap := ⟨Go.Proofs.Try.f259, Go.Proofs.Try.func259, by kernel_rfl, by kernel_rfl, by kernel_rfl⟩
theorem env : EnvOk Go.Proofs.Try.prog E := env_ok (tl := [(128, tRow)]) (gl := [(214, impl_IsBefore.sig)]) rfl rfl (by kernel_rfl) (by kernel_rfl) (fn_cons impl_IsBefore.snd impl_IsBefore.ent (fn_nil _))
theorem chk : funOk Go.Proofs.Try.prog E Go.Proofs.Try.f259 ps rs [] = true := by kernel_rfl
theorem snd : Sound Go.Proofs.Try.prog 259 sig := sound_of_body env Go.Proofs.Try.func259 rfl (es := []) (fr := []) chk (fun _ _ h => lift_some h)
end impl_order
namespace impl_changeFault
/-! loop example g00408 impl changeFault -/
abbrev Arg : Type := Change × Unit
abbrev Out : Type := Int × Unit
noncomputable def ps : List (PM × Ty) := [(.ro, tChange)]
noncomputable def rs : List (Ty × Md) := [(i64, (roMd i64))]
noncomputable def E : Env := { TI := lookN [(4, .bool), (128, tRow), (130, tChange)], G := lookN [(213, impl_RowFault.sig), (259, impl_order.sig)], fz := [], lv := [], lx := [], lf := [], od := [] }
noncomputable def sem (a : Arg) : Option Out := lift fun k => bodyK E k Go.Proofs.Try.f216 ps rs [] [] a
noncomputable def sig : Sig := { ps := ps, rs := rs, F := fun a => sem a }
noncomputable def C : Code := bodyOf Go.Proofs.Try.f216
noncomputable def fin : St → Option Out := outK ps rs [] (Func.results Go.Proofs.Try.f216).toList (mvs [])
noncomputable def K0 : Ex → St → Option Out := endK fin
noncomputable def p (a1 : Arg) : Option Out := let j7 : Option Out := bif a1.1.1 then ((impl_RowFault.sem (a1.1.2.1, ())).bind fun r8 => bif !decide (r8.1 = (0 : Int)) then (some (r8.1, ())) else bif a1.1.2.2.1 then ((impl_RowFault.sem (a1.1.2.2.2.1, ())).bind fun r10 => some (r10.1, ())) else some ((0 : Int), ())) else bif a1.1.2.2.1 then ((impl_RowFault.sem (a1.1.2.2.2.1, ())).bind fun r11 => some (r11.1, ())) else some ((0 : Int), ()); bif !a1.1.1 then (bif !a1.1.2.2.1 then (some ((1 : Int), ())) else bif a1.1.1 then (bif a1.1.2.2.1 then ((impl_order.sem (a1.1.2.1, a1.1.2.2.2.1, ())).bind fun r2 => bif !decide (r2.1 = (0 : Int)) then (some ((1 : Int), ())) else j7) else j7) else j7) else bif a1.1.1 then (bif a1.1.2.2.1 then ((impl_order.sem (a1.1.2.1, a1.1.2.2.2.1, ())).bind fun r3 => bif !decide (r3.1 = (0 : Int)) then (some ((1 : Int), ())) else j7) else j7) else j7
noncomputable def raw (k : Nat) (a1 : Arg) : Option Out := p a1
theorem p_eq (k : Nat) (a1 : Arg) : bodyK E k Go.Proofs.Try.f216 ps rs [] [] a1 = p a1 := by kernel_rfl
theorem raw_eq (k : Nat) (a1 : Arg) : bodyK E k Go.Proofs.Try.f216 ps rs [] [] a1 = raw k a1 := (p_eq k a1).trans (by rfl)
theorem ent : EnterOk Go.Proofs.Try.prog 216 sig.cap := ⟨Go.Proofs.Try.f216, Go.Proofs.Try.func216, by kernel_rfl, by kernel_rfl, by kernel_rfl⟩
theorem env : EnvOk Go.Proofs.Try.prog E := env_ok (tl := [(4, .bool), (128, tRow), (130, tChange)]) (gl := [(213, impl_RowFault.sig), (259, impl_order.sig)]) rfl rfl (by kernel_rfl) (by kernel_rfl) (fn_cons impl_RowFault.snd impl_RowFault.ent (fn_cons impl_order.snd impl_order.ent (fn_nil _)))
theorem chk : funOk Go.Proofs.Try.prog E Go.Proofs.Try.f216 ps rs [] = true := by kernel_rfl
theorem snd : Sound Go.Proofs.Try.prog 216 sig := sound_of_body env Go.Proofs.Try.func216 rfl (es := []) (fr := []) chk (fun _ _ h => lift_some h)
end impl_changeFault
namespace impl_singleFault
/-! loop example g00408 impl singleFault -/
abbrev Arg : Type := Change × Unit
abbrev Out : Type := Int × Unit
noncomputable def ps : List (PM × Ty) := [(.ro, tChange)]
noncomputable def rs : List (Ty × Md) := [(i64, (roMd i64))]
noncomputable def E : Env := { TI := lookN [(4, .bool), (128, tRow), (130, tChange)], G := lookN [(216, impl_changeFault.sig)], fz := [], lv := [], lx := [], lf := [], od := [] }
noncomputable def sem (a : Arg) : Option Out := lift fun k => bodyK E k Go.Proofs.Try.f169 ps rs [] [] a
noncomputable def sig : Sig := { ps := ps, rs := rs, F := fun a => sem a }
noncomputable def C : Code := bodyOf Go.Proofs.Try.f169
noncomputable def fin : St → Option Out := outK ps rs [] (Func.results Go.Proofs.Try.f169).toList (mvs [])
noncomputable def K0 : Ex → St → Option Out := endK fin
noncomputable def p (a1 : Arg) : Option Out := (impl_changeFault.sem (a1.1, ())).bind fun r2 => bif !decide (r2.1 = (0 : Int)) then (some (r2.1, ())) else bif a1.1.1 then (bif a1.1.2.2.1 then (bif (Ty.eq tRow a1.1.2.1 a1.1.2.2.2.1) then (some ((1 : Int), ())) else some ((0 : Int), ())) else some ((0 : Int), ())) else some ((0 : Int), ())
noncomputable def raw (k : Nat) (a1 : Arg) : Option Out := p a1
theorem p_eq (k : Nat) (a1 : Arg) : bodyK E k Go.Proofs.Try.f169 ps rs [] [] a1 = p a1 := by kernel_rfl
theorem raw_eq (k : Nat) (a1 : Arg) : bodyK E k Go.Proofs.Try.f169 ps rs [] [] a1 = raw k a1 := (p_eq k a1).trans (by rfl)
theorem ent : EnterOk Go.Proofs.Try.prog 169 sig.cap := ⟨Go.Proofs.Try.f169, Go.Proofs.Try.func169, by kernel_rfl, by kernel_rfl, by kernel_rfl⟩
theorem env : EnvOk Go.Proofs.Try.prog E := env_ok (tl := [(4, .bool), (128, tRow), (130, tChange)]) (gl := [(216, impl_changeFault.sig)]) rfl rfl (by kernel_rfl) (by kernel_rfl) (fn_cons impl_changeFault.snd impl_changeFault.ent (fn_nil _))
theorem chk : funOk Go.Proofs.Try.prog E Go.Proofs.Try.f169 ps rs [] = true := by kernel_rfl
theorem snd : Sound Go.Proofs.Try.prog 169 sig := sound_of_body env Go.Proofs.Try.func169 rfl (es := []) (fr := []) chk (fun _ _ h => lift_some h)
end impl_singleFault
namespace impl_Change_key
/-!  loop example g00408 impl Change  key -/
abbrev Arg : Type := Change × Unit
abbrev Out : Type := Row × Unit
noncomputable def ps : List (PM × Ty) := [(.ro, tChange)]
noncomputable def rs : List (Ty × Md) := [(tRow, (roMd tRow))]
noncomputable def E : Env := { TI := lookN [(4, .bool), (128, tRow), (130, tChange)], G := lookN [], fz := [], lv := [], lx := [], lf := [], od := [] }
noncomputable def sem (a : Arg) : Option Out := lift fun k => bodyK E k Go.Proofs.Try.f237 ps rs [] [] a
noncomputable def sig : Sig := { ps := ps, rs := rs, F := fun a => sem a }
noncomputable def C : Code := bodyOf Go.Proofs.Try.f237
noncomputable def fin : St → Option Out := outK ps rs [] (Func.results Go.Proofs.Try.f237).toList (mvs [])
noncomputable def K0 : Ex → St → Option Out := endK fin
noncomputable def p (a1 : Arg) : Option Out := bif a1.1.2.2.1 then (some (a1.1.2.2.2.1, ())) else some (a1.1.2.1, ())
noncomputable def raw (k : Nat) (a1 : Arg) : Option Out := p a1
theorem p_eq (k : Nat) (a1 : Arg) : bodyK E k Go.Proofs.Try.f237 ps rs [] [] a1 = p a1 := by kernel_rfl
theorem raw_eq (k : Nat) (a1 : Arg) : bodyK E k Go.Proofs.Try.f237 ps rs [] [] a1 = raw k a1 := (p_eq k a1).trans (by rfl)
theorem ent : EnterOk Go.Proofs.Try.prog 237 sig.cap := ⟨Go.Proofs.Try.f237, Go.Proofs.Try.func237, by kernel_rfl, by kernel_rfl, by kernel_rfl⟩
theorem env : EnvOk Go.Proofs.Try.prog E := env_ok (tl := [(4, .bool), (128, tRow), (130, tChange)]) (gl := []) rfl rfl (by kernel_rfl) (by kernel_rfl) (fn_nil _)
theorem chk : funOk Go.Proofs.Try.prog E Go.Proofs.Try.f237 ps rs [] = true := by kernel_rfl
theorem snd : Sound Go.Proofs.Try.prog 237 sig := sound_of_body env Go.Proofs.Try.func237 rfl (es := []) (fr := []) chk (fun _ _ h => lift_some h)
end impl_Change_key
namespace impl_foldedFault
/-! loop example g00408 impl foldedFault -/
abbrev Arg : Type := (List Change) × Unit
abbrev Out : Type := Int × Unit
noncomputable def ps : List (PM × Ty) := [(.ro, (.slc tChange))]
noncomputable def rs : List (Ty × Md) := [(i64, (roMd i64))]
noncomputable def E : Env := { TI := lookN [(130, tChange), (141, (.slc tChange))], G := lookN [(169, impl_singleFault.sig), (214, impl_IsBefore.sig), (237, impl_Change_key.sig)], fz := [], lv := [(4, [0, 9, 10, 11])], lx := [(0, [])], lf := [], od := [(9, [0, 1, 2, 3, 4, 5, 6, 7, 9, 8, 10, 11, 12, 13])] }
noncomputable def sem (a : Arg) : Option Out := lift fun k => bodyK E k Go.Proofs.Try.f215 ps rs [] [] a
noncomputable def sig : Sig := { ps := ps, rs := rs, F := fun a => sem a }
noncomputable def C : Code := bodyOf Go.Proofs.Try.f215
noncomputable def fin : St → Option Out := outK ps rs [] (Func.results Go.Proofs.Try.f215).toList (mvs [])
noncomputable def K0 : Ex → St → Option Out := endK fin
noncomputable def S0 (rec : St → Option Out) (a1 : Arg) : (Int) → Option Out := fun v402 => rec ({ n := 36, sl := [(0, .val (.slc tChange) a1.1), (9, .val (.slc tChange) a1.1), (10, .val i64 (a1.1.length : Int)), (11, .val i64 v402)], vr := [], lent := [] })
noncomputable def X0_0 (K : Ex → St → Option Out) (a1 : Arg) : (Unit) → Option Out := fun z => K (.exit 0) ({ n := 36, sl := [], vr := [], lent := [] })
noncomputable def b0 (self : Int → Option Out) (e0 : (Unit) → Option Out) (a1 : Arg) (v402 : Int) : Option Out := bif decide (v402 < (a1.1.length : Int)) then (if 0 ≤ v402 then ((a1.1[v402.toNat]?).bind fun x603 => (impl_singleFault.sem (x603, ())).bind fun r604 => bif !decide (r604.1 = (0 : Int)) then (some (r604.1, ())) else bif decide ((0 : Int) < v402) then (if 0 ≤ w64 (v402 - (1 : Int)) then ((a1.1[(w64 (v402 - (1 : Int))).toNat]?).bind fun x605 => (impl_Change_key.sem (x605, ())).bind fun r606 => (impl_Change_key.sem (x603, ())).bind fun r607 => (impl_IsBefore.sem (r606.1, r607.1, ())).bind fun r608 => bif !r608.1 then (some ((1 : Int), ())) else self (w64 (v402 + (1 : Int)))) else none) else self (w64 (v402 + (1 : Int)))) else none) else e0 ()
noncomputable def B0 (k : Nat) (self : Int → Option Out) (e0 : (Unit) → Option Out) (a1 : Arg) (v402 : Int) : Option Out := b0 self e0 a1 v402
theorem b0_eq (k : Nat) (rec : St → Option Out) (K : Ex → St → Option Out) (a1 : Arg) (v402 : Int) : codeK E k fin (sub [1, 1, 0, 1, 0, 0] C) ({ n := 36, sl := [(0, .val (.slc tChange) a1.1), (9, .val (.slc tChange) a1.1), (10, .val i64 (a1.1.length : Int)), (11, .val i64 v402)], vr := [], lent := [] }) (loopC rec (keepF [0, 9, 10, 11] []) K) = b0 (S0 rec a1) (X0_0 K a1) a1 v402 := by kernel_rfl
theorem B0_eq (k : Nat) (rec : St → Option Out) (K : Ex → St → Option Out) (a1 : Arg) (v402 : Int) : codeK E k fin (sub [1, 1, 0, 1, 0, 0] C) ({ n := 36, sl := [(0, .val (.slc tChange) a1.1), (9, .val (.slc tChange) a1.1), (10, .val i64 (a1.1.length : Int)), (11, .val i64 v402)], vr := [], lent := [] }) (loopC rec (keepF [0, 9, 10, 11] []) K) = B0 k (S0 rec a1) (X0_0 K a1) a1 v402 := (b0_eq k rec K a1 v402).trans (by rfl)
noncomputable def l0 (k : Nat) (a1 : Arg) (e0 : (Unit) → Option Out) (v : Int) : Option Out := rawIter (fun self v => B0 k self e0 a1 v) k v
theorem l0_eq (k : Nat) (K : Ex → St → Option Out) (a1 : Arg) (v402 : Int) : iterK (codeK E k fin (sub [1, 1, 0, 1, 0, 0] C)) (keepF [0, 9, 10, 11] []) K k ({ n := 36, sl := [(0, .val (.slc tChange) a1.1), (9, .val (.slc tChange) a1.1), (10, .val i64 (a1.1.length : Int)), (11, .val i64 v402)], vr := [], lent := [] }) = l0 k a1 (X0_0 K a1) v402 :=
  iter_raw _ _ K (fun v402 => ({ n := 36, sl := [(0, .val (.slc tChange) a1.1), (9, .val (.slc tChange) a1.1), (10, .val i64 (a1.1.length : Int)), (11, .val i64 v402)], vr := [], lent := [] } : St)) (fun self v => B0 k self (X0_0 K a1) a1 v) (fun rec v => B0_eq k rec K a1 v) k v402
noncomputable def q0 (a1 : Arg) (z609 : (Unit)) : Option Out := some ((0 : Int), ())
noncomputable def Q0 (k : Nat) (a1 : Arg) (z609 : (Unit)) : Option Out := q0 a1 z609
theorem q0_eq (k : Nat) (a1 : Arg) (z609 : (Unit)) : (blockC 0 (seqC (codeK E k fin (sub [1, 1, 1] C)) K0)) (.exit 0) ({ n := 36, sl := [], vr := [], lent := [] }) = q0 a1 z609 := by kernel_rfl
theorem Q0_eq (k : Nat) (a1 : Arg) (z609 : (Unit)) : (blockC 0 (seqC (codeK E k fin (sub [1, 1, 1] C)) K0)) (.exit 0) ({ n := 36, sl := [], vr := [], lent := [] }) = Q0 k a1 z609 := (q0_eq k a1 z609).trans (by rfl)
noncomputable def s0 (k : Nat) (a1 : Arg) : (Int) → Option Out := fun v402 => iterK (codeK E k fin (sub [1, 1, 0, 1, 0, 0] C)) (keepF [0, 9, 10, 11] []) (blockC 0 (seqC (codeK E k fin (sub [1, 1, 1] C)) K0)) k ({ n := 36, sl := [(0, .val (.slc tChange) a1.1), (9, .val (.slc tChange) a1.1), (10, .val i64 (a1.1.length : Int)), (11, .val i64 v402)], vr := [], lent := [] })
noncomputable def r0 (k : Nat) (a1 : Arg) : (Int) → Option Out := fun v402 => l0 k a1 (fun z => Q0 k a1 z) v402
theorem s0_eq (k : Nat) (a1 : Arg) : s0 k a1 = r0 k a1 := by
  funext v402;
  have h0 : X0_0 ((blockC 0 (seqC (codeK E k fin (sub [1, 1, 1] C)) K0))) a1 = fun z => Q0 k a1 z := funext fun z => Q0_eq k a1 z
  refine (l0_eq k ((blockC 0 (seqC (codeK E k fin (sub [1, 1, 1] C)) K0))) a1 v402).trans ?_
  rw [h0]
  rfl
noncomputable def p (l0 : (Int) → Option Out) (a1 : Arg) : Option Out := bif decide ((60 : Int) < (a1.1.length : Int)) then (some ((2 : Int), ())) else l0 (0 : Int)
noncomputable def raw (k : Nat) (a1 : Arg) : Option Out := p (r0 k a1) a1
theorem p_eq (k : Nat) (a1 : Arg) : bodyK E k Go.Proofs.Try.f215 ps rs [] [] a1 = p (s0 k a1) a1 := by kernel_rfl
theorem raw_eq (k : Nat) (a1 : Arg) : bodyK E k Go.Proofs.Try.f215 ps rs [] [] a1 = raw k a1 := (p_eq k a1).trans (by rw [s0_eq]; rfl)
theorem ent : EnterOk Go.Proofs.Try.prog 215 sig.cap := ⟨Go.Proofs.Try.f215, Go.Proofs.Try.func215, by kernel_rfl, by kernel_rfl, by kernel_rfl⟩
theorem env : EnvOk Go.Proofs.Try.prog E := env_ok (tl := [(130, tChange), (141, (.slc tChange))]) (gl := [(169, impl_singleFault.sig), (214, impl_IsBefore.sig), (237, impl_Change_key.sig)]) rfl rfl (by kernel_rfl) (by kernel_rfl) (fn_cons impl_singleFault.snd impl_singleFault.ent (fn_cons impl_IsBefore.snd impl_IsBefore.ent (fn_cons impl_Change_key.snd impl_Change_key.ent (fn_nil _))))
theorem chk : funOk Go.Proofs.Try.prog E Go.Proofs.Try.f215 ps rs [] = true := by kernel_rfl
theorem snd : Sound Go.Proofs.Try.prog 215 sig := sound_of_body env Go.Proofs.Try.func215 rfl (es := []) (fr := []) chk (fun _ _ h => lift_some h)
end impl_foldedFault
namespace impl_sentFault
/-! loop example g00408 impl sentFault -/
abbrev Arg : Type := Sent × Unit
abbrev Out : Type := Int × Unit
noncomputable def ps : List (PM × Ty) := [(.ro, tSent)]
noncomputable def rs : List (Ty × Md) := [(i64, (roMd i64))]
noncomputable def E : Env := { TI := lookN [(2, i64), (141, (.slc tChange)), (143, tSent)], G := lookN [(91, impl_in.sig), (189, impl_isTx.sig), (215, impl_foldedFault.sig)], fz := [], lv := [], lx := [], lf := [], od := [] }
noncomputable def sem (a : Arg) : Option Out := lift fun k => bodyK E k Go.Proofs.Try.f143 ps rs [] [] a
noncomputable def sig : Sig := { ps := ps, rs := rs, F := fun a => sem a }
noncomputable def C : Code := bodyOf Go.Proofs.Try.f143
noncomputable def fin : St → Option Out := outK ps rs [] (Func.results Go.Proofs.Try.f143).toList (mvs [])
noncomputable def K0 : Ex → St → Option Out := endK fin
noncomputable def p (a1 : Arg) : Option Out := (impl_in.sem (a1.1.1, (0 : Int), (16000 : Int), ())).bind fun r2 => bif !r2.1 then (some ((3 : Int), ())) else (impl_isTx.sem (a1.1.2.1, ())).bind fun r3 => bif !r3.1 then (some ((3 : Int), ())) else (impl_foldedFault.sem (a1.1.2.2.1, ())).bind fun r4 => some (r4.1, ())
noncomputable def raw (k : Nat) (a1 : Arg) : Option Out := p a1
theorem p_eq (k : Nat) (a1 : Arg) : bodyK E k Go.Proofs.Try.f143 ps rs [] [] a1 = p a1 := by kernel_rfl
theorem raw_eq (k : Nat) (a1 : Arg) : bodyK E k Go.Proofs.Try.f143 ps rs [] [] a1 = raw k a1 := (p_eq k a1).trans (by rfl)
theorem ent : EnterOk Go.Proofs.Try.prog 143 sig.cap := ⟨Go.Proofs.Try.f143, Go.Proofs.Try.func143, by kernel_rfl, by kernel_rfl, by kernel_rfl⟩
theorem env : EnvOk Go.Proofs.Try.prog E := env_ok (tl := [(2, i64), (141, (.slc tChange)), (143, tSent)]) (gl := [(91, impl_in.sig), (189, impl_isTx.sig), (215, impl_foldedFault.sig)]) rfl rfl (by kernel_rfl) (by kernel_rfl) (fn_cons impl_in.snd impl_in.ent (fn_cons impl_isTx.snd impl_isTx.ent (fn_cons impl_foldedFault.snd impl_foldedFault.ent (fn_nil _))))
theorem chk : funOk Go.Proofs.Try.prog E Go.Proofs.Try.f143 ps rs [] = true := by kernel_rfl
theorem snd : Sound Go.Proofs.Try.prog 143 sig := sound_of_body env Go.Proofs.Try.func143 rfl (es := []) (fr := []) chk (fun _ _ h => lift_some h)
end impl_sentFault
namespace laws_markSentS
/-! loop example g00408 laws markSentS -/
abbrev Arg : Type := (List Sent) × Int × Unit
abbrev Out : Type := Int × (List Sent) × Unit
noncomputable def ps : List (PM × Ty) := [(.muts (ownMd (.slc tSent)), (.slc tSent)), (.ro, i64)]
noncomputable def rs : List (Ty × Md) := [(i64, (roMd i64))]
noncomputable def E : Env := { TI := lookN [(2, i64), (25, (.slc tSent)), (141, (.slc tChange)), (143, tSent)], G := lookN [(148, laws_markChangeS.sig)], fz := [], lv := [(2, [0, 1, 5])], lx := [(0, [0, 1])], lf := [], od := [] }
noncomputable def sem (a : Arg) : Option Out := lift fun k => bodyK E k Go.Proofs.Try.f64 ps rs [0] [] a
noncomputable def sig : Sig := { ps := ps, rs := rs, F := fun a => sem a }
noncomputable def C : Code := bodyOf Go.Proofs.Try.f64
noncomputable def fin : St → Option Out := outK ps rs [0] (Func.results Go.Proofs.Try.f64).toList (mvs [])
noncomputable def K0 : Ex → St → Option Out := endK fin
noncomputable def S0 (rec : St → Option Out) (a1 : Arg) : ((List Sent) × Int × Int) → Option Out := fun v402 => rec ({ n := 34, sl := [(0, .own (.slc tSent) (ownMd (.slc tSent)) [] v402.1), (1, .val i64 v402.2.1), (5, .val i64 v402.2.2)], vr := [], lent := [(0, 0, true)] })
noncomputable def X0_0 (K : Ex → St → Option Out) (a1 : Arg) : ((List Sent) × Int) → Option Out := fun z => K (.exit 0) ({ n := 34, sl := [(0, .own (.slc tSent) (ownMd (.slc tSent)) [] z.1), (1, .val i64 z.2)], vr := [], lent := [(0, 0, true)] })
noncomputable def b0 (self : ((List Sent) × Int × Int) → Option Out) (e0 : ((List Sent) × Int) → Option Out) (a1 : Arg) (v402 : (List Sent) × Int × Int) : Option Out := bif decide (v402.2.2 < (v402.1.length : Int)) then (if 0 ≤ v402.2.2 ∧ v402.2.2 < (v402.1.length : Int) then ((v402.1[v402.2.2.toNat]?).bind fun x603 => let y604 := v402.1.set v402.2.2.toNat (v402.2.1, x603.2); if 0 ≤ v402.2.2 ∧ v402.2.2 < (y604.length : Int) then ((y604[v402.2.2.toNat]?).bind fun x605 => let y606 := y604.set v402.2.2.toNat (x605.1, w64 (v402.2.1 + (1 : Int)), x605.2.2); if 0 ≤ v402.2.2 ∧ v402.2.2 < (y606.length : Int) then ((y606[v402.2.2.toNat]?).bind fun x607 => (y606[v402.2.2.toNat]?).bind fun x608 => (y606[v402.2.2.toNat]?).bind fun x609 => (laws_markChangeS.sem (x609.2.2.1, w64 ((w64 (v402.2.1 + (1 : Int))) + (1 : Int)), ())).bind fun r610 => (y606[v402.2.2.toNat]?).bind fun x611 => let y612 := y606.set v402.2.2.toNat (x611.1, x611.2.1, r610.2.1, x611.2.2.2); self (y612, r610.1, w64 (v402.2.2 + (1 : Int)))) else none) else none) else none) else e0 (v402.1, v402.2.1)
noncomputable def B0 (k : Nat) (self : ((List Sent) × Int × Int) → Option Out) (e0 : ((List Sent) × Int) → Option Out) (a1 : Arg) (v402 : (List Sent) × Int × Int) : Option Out := b0 self e0 a1 v402
theorem b0_eq (k : Nat) (rec : St → Option Out) (K : Ex → St → Option Out) (a1 : Arg) (v402 : (List Sent) × Int × Int) : codeK E k fin (sub [1, 0, 1, 0, 0] C) ({ n := 34, sl := [(0, .own (.slc tSent) (ownMd (.slc tSent)) [] v402.1), (1, .val i64 v402.2.1), (5, .val i64 v402.2.2)], vr := [], lent := [(0, 0, true)] }) (loopC rec (keepF [0, 1, 5] []) K) = b0 (S0 rec a1) (X0_0 K a1) a1 v402 := by kernel_rfl
theorem B0_eq (k : Nat) (rec : St → Option Out) (K : Ex → St → Option Out) (a1 : Arg) (v402 : (List Sent) × Int × Int) : codeK E k fin (sub [1, 0, 1, 0, 0] C) ({ n := 34, sl := [(0, .own (.slc tSent) (ownMd (.slc tSent)) [] v402.1), (1, .val i64 v402.2.1), (5, .val i64 v402.2.2)], vr := [], lent := [(0, 0, true)] }) (loopC rec (keepF [0, 1, 5] []) K) = B0 k (S0 rec a1) (X0_0 K a1) a1 v402 := (b0_eq k rec K a1 v402).trans (by rfl)
noncomputable def l0 (k : Nat) (a1 : Arg) (e0 : ((List Sent) × Int) → Option Out) (v : (List Sent) × Int × Int) : Option Out := rawIter (fun self v => B0 k self e0 a1 v) k v
theorem l0_eq (k : Nat) (K : Ex → St → Option Out) (a1 : Arg) (v402 : (List Sent) × Int × Int) : iterK (codeK E k fin (sub [1, 0, 1, 0, 0] C)) (keepF [0, 1, 5] []) K k ({ n := 34, sl := [(0, .own (.slc tSent) (ownMd (.slc tSent)) [] v402.1), (1, .val i64 v402.2.1), (5, .val i64 v402.2.2)], vr := [], lent := [(0, 0, true)] }) = l0 k a1 (X0_0 K a1) v402 :=
  iter_raw _ _ K (fun v402 => ({ n := 34, sl := [(0, .own (.slc tSent) (ownMd (.slc tSent)) [] v402.1), (1, .val i64 v402.2.1), (5, .val i64 v402.2.2)], vr := [], lent := [(0, 0, true)] } : St)) (fun self v => B0 k self (X0_0 K a1) a1 v) (fun rec v => B0_eq k rec K a1 v) k v402
noncomputable def q0 (a1 : Arg) (z613 : ((List Sent) × Int)) : Option Out := some (z613.2, z613.1, ())
noncomputable def Q0 (k : Nat) (a1 : Arg) (z613 : ((List Sent) × Int)) : Option Out := q0 a1 z613
theorem q0_eq (k : Nat) (a1 : Arg) (z613 : ((List Sent) × Int)) : (blockC 0 (seqC (codeK E k fin (sub [1, 1] C)) K0)) (.exit 0) ({ n := 34, sl := [(0, .own (.slc tSent) (ownMd (.slc tSent)) [] z613.1), (1, .val i64 z613.2)], vr := [], lent := [(0, 0, true)] }) = q0 a1 z613 := by kernel_rfl
theorem Q0_eq (k : Nat) (a1 : Arg) (z613 : ((List Sent) × Int)) : (blockC 0 (seqC (codeK E k fin (sub [1, 1] C)) K0)) (.exit 0) ({ n := 34, sl := [(0, .own (.slc tSent) (ownMd (.slc tSent)) [] z613.1), (1, .val i64 z613.2)], vr := [], lent := [(0, 0, true)] }) = Q0 k a1 z613 := (q0_eq k a1 z613).trans (by rfl)
noncomputable def s0 (k : Nat) (a1 : Arg) : ((List Sent) × Int × Int) → Option Out := fun v402 => iterK (codeK E k fin (sub [1, 0, 1, 0, 0] C)) (keepF [0, 1, 5] []) (blockC 0 (seqC (codeK E k fin (sub [1, 1] C)) K0)) k ({ n := 34, sl := [(0, .own (.slc tSent) (ownMd (.slc tSent)) [] v402.1), (1, .val i64 v402.2.1), (5, .val i64 v402.2.2)], vr := [], lent := [(0, 0, true)] })
noncomputable def r0 (k : Nat) (a1 : Arg) : ((List Sent) × Int × Int) → Option Out := fun v402 => l0 k a1 (fun z => Q0 k a1 z) v402
theorem s0_eq (k : Nat) (a1 : Arg) : s0 k a1 = r0 k a1 := by
  funext v402;
  have h0 : X0_0 ((blockC 0 (seqC (codeK E k fin (sub [1, 1] C)) K0))) a1 = fun z => Q0 k a1 z := funext fun z => Q0_eq k a1 z
  refine (l0_eq k ((blockC 0 (seqC (codeK E k fin (sub [1, 1] C)) K0))) a1 v402).trans ?_
  rw [h0]
  rfl
noncomputable def p (l0 : ((List Sent) × Int × Int) → Option Out) (a1 : Arg) : Option Out := l0 (a1.1, a1.2.1, (0 : Int))
noncomputable def raw (k : Nat) (a1 : Arg) : Option Out := p (r0 k a1) a1
theorem p_eq (k : Nat) (a1 : Arg) : bodyK E k Go.Proofs.Try.f64 ps rs [0] [] a1 = p (s0 k a1) a1 := by kernel_rfl
theorem raw_eq (k : Nat) (a1 : Arg) : bodyK E k Go.Proofs.Try.f64 ps rs [0] [] a1 = raw k a1 := (p_eq k a1).trans (by rw [s0_eq]; rfl)
theorem ent : EnterOk Go.Proofs.Try.prog 64 sig.cap := ⟨Go.Proofs.Try.f64, Go.Proofs.Try.func64, by kernel_rfl, by kernel_rfl, by kernel_rfl⟩
theorem env : EnvOk Go.Proofs.Try.prog E := env_ok (tl := [(2, i64), (25, (.slc tSent)), (141, (.slc tChange)), (143, tSent)]) (gl := [(148, laws_markChangeS.sig)]) rfl rfl (by kernel_rfl) (by kernel_rfl) (fn_cons laws_markChangeS.snd laws_markChangeS.ent (fn_nil _))
theorem chk : funOk Go.Proofs.Try.prog E Go.Proofs.Try.f64 ps rs [0] = true := by kernel_rfl
theorem snd : Sound Go.Proofs.Try.prog 64 sig := sound_of_body env Go.Proofs.Try.func64 rfl (es := [0]) (fr := []) chk (fun _ _ h => lift_some h)
end laws_markSentS
namespace spec_l14Once
/-! loop example g00408 spec l14Once -/
abbrev Arg : Type := (List Sent) × Unit
abbrev Out : Type := (List Sent) × Unit
noncomputable def ps : List (PM × Ty) := [(.ro, (.slc tSent))]
noncomputable def rs : List (Ty × Md) := [((.slc tSent), (ownMd (.slc tSent)))]
noncomputable def E : Env := { TI := lookN [(2, i64), (25, (.slc tSent)), (141, (.slc tChange)), (143, tSent)], G := lookN [], fz := [], lv := [(4, [0, 3, 4, 5])], lx := [(0, [3])], lf := [], od := [] }
noncomputable def sem (a : Arg) : Option Out := lift fun k => bodyK E k Go.Proofs.Try.f150 ps rs [] [] a
noncomputable def sig : Sig := { ps := ps, rs := rs, F := fun a => sem a }
noncomputable def C : Code := bodyOf Go.Proofs.Try.f150
noncomputable def fin : St → Option Out := outK ps rs [] (Func.results Go.Proofs.Try.f150).toList (mvs [])
noncomputable def K0 : Ex → St → Option Out := endK fin
noncomputable def S0 (rec : St → Option Out) (a1 : Arg) : ((List Sent) × Int × Int) → Option Out := fun v402 => rec ({ n := 37, sl := [(0, .val (.slc tSent) a1.1), (3, .own (.slc tSent) (ownMd (.slc tSent)) [] v402.1), (4, .val i64 v402.2.1), (5, .val i64 v402.2.2)], vr := [], lent := [] })
noncomputable def X0_0 (K : Ex → St → Option Out) (a1 : Arg) : (List Sent) → Option Out := fun z => K (.exit 0) ({ n := 37, sl := [(3, .own (.slc tSent) (ownMd (.slc tSent)) [] z)], vr := [], lent := [] })
noncomputable def b0 (self : ((List Sent) × Int × Int) → Option Out) (e0 : (List Sent) → Option Out) (a1 : Arg) (v402 : (List Sent) × Int × Int) : Option Out := bif decide (v402.2.2 < (a1.1.length : Int)) then (if 0 ≤ v402.2.2 then ((a1.1[v402.2.2.toNat]?).bind fun x603 => bif decide (v402.2.1 < x603.1) then (if 0 ≤ v402.2.2 then ((a1.1[v402.2.2.toNat]?).bind fun x604 => if ([] : List Change).length + x604.2.2.1.length ≤ CAP then (if v402.1.length + [(x604.1, x604.2.1, ([] : List Change) ++ x604.2.2.1, x604.2.2.2)].length ≤ CAP then (let y605 := v402.1 ++ [(x604.1, x604.2.1, ([] : List Change) ++ x604.2.2.1, x604.2.2.2)]; self (y605, x604.1, w64 (v402.2.2 + (1 : Int)))) else none) else none) else none) else self (v402.1, v402.2.1, w64 (v402.2.2 + (1 : Int)))) else none) else e0 v402.1
noncomputable def B0 (k : Nat) (self : ((List Sent) × Int × Int) → Option Out) (e0 : (List Sent) → Option Out) (a1 : Arg) (v402 : (List Sent) × Int × Int) : Option Out := b0 self e0 a1 v402
theorem b0_eq (k : Nat) (rec : St → Option Out) (K : Ex → St → Option Out) (a1 : Arg) (v402 : (List Sent) × Int × Int) : codeK E k fin (sub [1, 1, 1, 0, 1, 0, 0] C) ({ n := 37, sl := [(0, .val (.slc tSent) a1.1), (3, .own (.slc tSent) (ownMd (.slc tSent)) [] v402.1), (4, .val i64 v402.2.1), (5, .val i64 v402.2.2)], vr := [], lent := [] }) (loopC rec (keepF [0, 3, 4, 5] []) K) = b0 (S0 rec a1) (X0_0 K a1) a1 v402 := by kernel_rfl
theorem B0_eq (k : Nat) (rec : St → Option Out) (K : Ex → St → Option Out) (a1 : Arg) (v402 : (List Sent) × Int × Int) : codeK E k fin (sub [1, 1, 1, 0, 1, 0, 0] C) ({ n := 37, sl := [(0, .val (.slc tSent) a1.1), (3, .own (.slc tSent) (ownMd (.slc tSent)) [] v402.1), (4, .val i64 v402.2.1), (5, .val i64 v402.2.2)], vr := [], lent := [] }) (loopC rec (keepF [0, 3, 4, 5] []) K) = B0 k (S0 rec a1) (X0_0 K a1) a1 v402 := (b0_eq k rec K a1 v402).trans (by rfl)
noncomputable def l0 (k : Nat) (a1 : Arg) (e0 : (List Sent) → Option Out) (v : (List Sent) × Int × Int) : Option Out := rawIter (fun self v => B0 k self e0 a1 v) k v
theorem l0_eq (k : Nat) (K : Ex → St → Option Out) (a1 : Arg) (v402 : (List Sent) × Int × Int) : iterK (codeK E k fin (sub [1, 1, 1, 0, 1, 0, 0] C)) (keepF [0, 3, 4, 5] []) K k ({ n := 37, sl := [(0, .val (.slc tSent) a1.1), (3, .own (.slc tSent) (ownMd (.slc tSent)) [] v402.1), (4, .val i64 v402.2.1), (5, .val i64 v402.2.2)], vr := [], lent := [] }) = l0 k a1 (X0_0 K a1) v402 :=
  iter_raw _ _ K (fun v402 => ({ n := 37, sl := [(0, .val (.slc tSent) a1.1), (3, .own (.slc tSent) (ownMd (.slc tSent)) [] v402.1), (4, .val i64 v402.2.1), (5, .val i64 v402.2.2)], vr := [], lent := [] } : St)) (fun self v => B0 k self (X0_0 K a1) a1 v) (fun rec v => B0_eq k rec K a1 v) k v402
noncomputable def q0 (a1 : Arg) (z606 : (List Sent)) : Option Out := some (z606, ())
noncomputable def Q0 (k : Nat) (a1 : Arg) (z606 : (List Sent)) : Option Out := q0 a1 z606
theorem q0_eq (k : Nat) (a1 : Arg) (z606 : (List Sent)) : (blockC 0 (seqC (codeK E k fin (sub [1, 1, 1, 1] C)) K0)) (.exit 0) ({ n := 37, sl := [(3, .own (.slc tSent) (ownMd (.slc tSent)) [] z606)], vr := [], lent := [] }) = q0 a1 z606 := by kernel_rfl
theorem Q0_eq (k : Nat) (a1 : Arg) (z606 : (List Sent)) : (blockC 0 (seqC (codeK E k fin (sub [1, 1, 1, 1] C)) K0)) (.exit 0) ({ n := 37, sl := [(3, .own (.slc tSent) (ownMd (.slc tSent)) [] z606)], vr := [], lent := [] }) = Q0 k a1 z606 := (q0_eq k a1 z606).trans (by rfl)
noncomputable def s0 (k : Nat) (a1 : Arg) : ((List Sent) × Int × Int) → Option Out := fun v402 => iterK (codeK E k fin (sub [1, 1, 1, 0, 1, 0, 0] C)) (keepF [0, 3, 4, 5] []) (blockC 0 (seqC (codeK E k fin (sub [1, 1, 1, 1] C)) K0)) k ({ n := 37, sl := [(0, .val (.slc tSent) a1.1), (3, .own (.slc tSent) (ownMd (.slc tSent)) [] v402.1), (4, .val i64 v402.2.1), (5, .val i64 v402.2.2)], vr := [], lent := [] })
noncomputable def r0 (k : Nat) (a1 : Arg) : ((List Sent) × Int × Int) → Option Out := fun v402 => l0 k a1 (fun z => Q0 k a1 z) v402
theorem s0_eq (k : Nat) (a1 : Arg) : s0 k a1 = r0 k a1 := by
  funext v402;
  have h0 : X0_0 ((blockC 0 (seqC (codeK E k fin (sub [1, 1, 1, 1] C)) K0))) a1 = fun z => Q0 k a1 z := funext fun z => Q0_eq k a1 z
  refine (l0_eq k ((blockC 0 (seqC (codeK E k fin (sub [1, 1, 1, 1] C)) K0))) a1 v402).trans ?_
  rw [h0]
  rfl
noncomputable def p (l0 : ((List Sent) × Int × Int) → Option Out) (a1 : Arg) : Option Out := l0 (([] : List Sent), (-1 : Int), (0 : Int))
noncomputable def raw (k : Nat) (a1 : Arg) : Option Out := p (r0 k a1) a1
theorem p_eq (k : Nat) (a1 : Arg) : bodyK E k Go.Proofs.Try.f150 ps rs [] [] a1 = p (s0 k a1) a1 := by kernel_rfl
theorem raw_eq (k : Nat) (a1 : Arg) : bodyK E k Go.Proofs.Try.f150 ps rs [] [] a1 = raw k a1 := (p_eq k a1).trans (by rw [s0_eq]; rfl)
theorem ent : EnterOk Go.Proofs.Try.prog 150 sig.cap := ⟨Go.Proofs.Try.f150, Go.Proofs.Try.func150, by kernel_rfl, by kernel_rfl, by kernel_rfl⟩
theorem env : EnvOk Go.Proofs.Try.prog E := env_ok (tl := [(2, i64), (25, (.slc tSent)), (141, (.slc tChange)), (143, tSent)]) (gl := []) rfl rfl (by kernel_rfl) (by kernel_rfl) (fn_nil _)
theorem chk : funOk Go.Proofs.Try.prog E Go.Proofs.Try.f150 ps rs [] = true := by kernel_rfl
theorem snd : Sound Go.Proofs.Try.prog 150 sig := sound_of_body env Go.Proofs.Try.func150 rfl (es := []) (fr := []) chk (fun _ _ h => lift_some h)
end spec_l14Once
namespace spec_OnceOnly
/-! loop example g00408 spec OnceOnly -/
abbrev Arg : Type := (List Sent) × Unit
abbrev Out : Type := SentResult × Unit
noncomputable def ps : List (PM × Ty) := [(.ro, (.slc tSent))]
noncomputable def rs : List (Ty × Md) := [(tSentResult, (ownMd tSentResult))]
noncomputable def E : Env := { TI := lookN [(25, (.slc tSent)), (112, tSentResult)], G := lookN [(139, spec_l14Sent.sig), (150, spec_l14Once.sig)], fz := [], lv := [(4, [0, 2, 3])], lx := [(0, [0, 2])], lf := [], od := [] }
noncomputable def sem (a : Arg) : Option Out := lift fun k => bodyK E k Go.Proofs.Try.f67 ps rs [] [] a
noncomputable def sig : Sig := { ps := ps, rs := rs, F := fun a => sem a }
noncomputable def C : Code := bodyOf Go.Proofs.Try.f67
noncomputable def fin : St → Option Out := outK ps rs [] (Func.results Go.Proofs.Try.f67).toList (mvs [])
noncomputable def K0 : Ex → St → Option Out := endK fin
noncomputable def S0 (rec : St → Option Out) (a1 : Arg) : (Int) → Option Out := fun v402 => rec ({ n := 26, sl := [(0, .val (.slc tSent) a1.1), (2, .box tSentResult (ownMd tSentResult) [] ((0 : Int), ([] : List Sent), ((([] : List (List UInt8)), ([] : List Buffer), ()), (0 : Int), (([] : List (List UInt8)), ([] : List Buffer), ()), (0 : Int), ()), ())), (3, .val i64 v402)], vr := [], lent := [] })
noncomputable def X0_0 (K : Ex → St → Option Out) (a1 : Arg) : (Unit) → Option Out := fun z => K (.exit 0) ({ n := 26, sl := [(0, .val (.slc tSent) a1.1), (2, .box tSentResult (ownMd tSentResult) [] ((0 : Int), ([] : List Sent), ((([] : List (List UInt8)), ([] : List Buffer), ()), (0 : Int), (([] : List (List UInt8)), ([] : List Buffer), ()), (0 : Int), ()), ()))], vr := [], lent := [] })
noncomputable def b0 (self : Int → Option Out) (e0 : (Unit) → Option Out) (a1 : Arg) (v402 : Int) : Option Out := bif decide (v402 < (a1.1.length : Int)) then (if 0 ≤ v402 then ((a1.1[v402.toNat]?).bind fun x603 => (spec_l14Sent.sem (x603, ())).bind fun r604 => bif !decide (r604.1 = (0 : Int)) then (some ((r604.1, ([] : List Sent), ((([] : List (List UInt8)), ([] : List Buffer), ()), (0 : Int), (([] : List (List UInt8)), ([] : List Buffer), ()), (0 : Int), ()), ()), ())) else self (w64 (v402 + (1 : Int)))) else none) else e0 ()
noncomputable def B0 (k : Nat) (self : Int → Option Out) (e0 : (Unit) → Option Out) (a1 : Arg) (v402 : Int) : Option Out := b0 self e0 a1 v402
theorem b0_eq (k : Nat) (rec : St → Option Out) (K : Ex → St → Option Out) (a1 : Arg) (v402 : Int) : codeK E k fin (sub [1, 1, 0, 1, 0, 0] C) ({ n := 26, sl := [(0, .val (.slc tSent) a1.1), (2, .box tSentResult (ownMd tSentResult) [] ((0 : Int), ([] : List Sent), ((([] : List (List UInt8)), ([] : List Buffer), ()), (0 : Int), (([] : List (List UInt8)), ([] : List Buffer), ()), (0 : Int), ()), ())), (3, .val i64 v402)], vr := [], lent := [] }) (loopC rec (keepF [0, 2, 3] []) K) = b0 (S0 rec a1) (X0_0 K a1) a1 v402 := by kernel_rfl
theorem B0_eq (k : Nat) (rec : St → Option Out) (K : Ex → St → Option Out) (a1 : Arg) (v402 : Int) : codeK E k fin (sub [1, 1, 0, 1, 0, 0] C) ({ n := 26, sl := [(0, .val (.slc tSent) a1.1), (2, .box tSentResult (ownMd tSentResult) [] ((0 : Int), ([] : List Sent), ((([] : List (List UInt8)), ([] : List Buffer), ()), (0 : Int), (([] : List (List UInt8)), ([] : List Buffer), ()), (0 : Int), ()), ())), (3, .val i64 v402)], vr := [], lent := [] }) (loopC rec (keepF [0, 2, 3] []) K) = B0 k (S0 rec a1) (X0_0 K a1) a1 v402 := (b0_eq k rec K a1 v402).trans (by rfl)
noncomputable def l0 (k : Nat) (a1 : Arg) (e0 : (Unit) → Option Out) (v : Int) : Option Out := rawIter (fun self v => B0 k self e0 a1 v) k v
theorem l0_eq (k : Nat) (K : Ex → St → Option Out) (a1 : Arg) (v402 : Int) : iterK (codeK E k fin (sub [1, 1, 0, 1, 0, 0] C)) (keepF [0, 2, 3] []) K k ({ n := 26, sl := [(0, .val (.slc tSent) a1.1), (2, .box tSentResult (ownMd tSentResult) [] ((0 : Int), ([] : List Sent), ((([] : List (List UInt8)), ([] : List Buffer), ()), (0 : Int), (([] : List (List UInt8)), ([] : List Buffer), ()), (0 : Int), ()), ())), (3, .val i64 v402)], vr := [], lent := [] }) = l0 k a1 (X0_0 K a1) v402 :=
  iter_raw _ _ K (fun v402 => ({ n := 26, sl := [(0, .val (.slc tSent) a1.1), (2, .box tSentResult (ownMd tSentResult) [] ((0 : Int), ([] : List Sent), ((([] : List (List UInt8)), ([] : List Buffer), ()), (0 : Int), (([] : List (List UInt8)), ([] : List Buffer), ()), (0 : Int), ()), ())), (3, .val i64 v402)], vr := [], lent := [] } : St)) (fun self v => B0 k self (X0_0 K a1) a1 v) (fun rec v => B0_eq k rec K a1 v) k v402
noncomputable def q0 (a1 : Arg) (z605 : (Unit)) : Option Out := (spec_l14Once.sem (a1.1, ())).bind fun r606 => some (((0 : Int), r606.1, ((([] : List (List UInt8)), ([] : List Buffer), ()), (0 : Int), (([] : List (List UInt8)), ([] : List Buffer), ()), (0 : Int), ()), ()), ())
noncomputable def Q0 (k : Nat) (a1 : Arg) (z605 : (Unit)) : Option Out := q0 a1 z605
theorem q0_eq (k : Nat) (a1 : Arg) (z605 : (Unit)) : (blockC 0 (seqC (codeK E k fin (sub [1, 1, 1] C)) K0)) (.exit 0) ({ n := 26, sl := [(0, .val (.slc tSent) a1.1), (2, .box tSentResult (ownMd tSentResult) [] ((0 : Int), ([] : List Sent), ((([] : List (List UInt8)), ([] : List Buffer), ()), (0 : Int), (([] : List (List UInt8)), ([] : List Buffer), ()), (0 : Int), ()), ()))], vr := [], lent := [] }) = q0 a1 z605 := by kernel_rfl
theorem Q0_eq (k : Nat) (a1 : Arg) (z605 : (Unit)) : (blockC 0 (seqC (codeK E k fin (sub [1, 1, 1] C)) K0)) (.exit 0) ({ n := 26, sl := [(0, .val (.slc tSent) a1.1), (2, .box tSentResult (ownMd tSentResult) [] ((0 : Int), ([] : List Sent), ((([] : List (List UInt8)), ([] : List Buffer), ()), (0 : Int), (([] : List (List UInt8)), ([] : List Buffer), ()), (0 : Int), ()), ()))], vr := [], lent := [] }) = Q0 k a1 z605 := (q0_eq k a1 z605).trans (by rfl)
noncomputable def s0 (k : Nat) (a1 : Arg) : (Int) → Option Out := fun v402 => iterK (codeK E k fin (sub [1, 1, 0, 1, 0, 0] C)) (keepF [0, 2, 3] []) (blockC 0 (seqC (codeK E k fin (sub [1, 1, 1] C)) K0)) k ({ n := 26, sl := [(0, .val (.slc tSent) a1.1), (2, .box tSentResult (ownMd tSentResult) [] ((0 : Int), ([] : List Sent), ((([] : List (List UInt8)), ([] : List Buffer), ()), (0 : Int), (([] : List (List UInt8)), ([] : List Buffer), ()), (0 : Int), ()), ())), (3, .val i64 v402)], vr := [], lent := [] })
noncomputable def r0 (k : Nat) (a1 : Arg) : (Int) → Option Out := fun v402 => l0 k a1 (fun z => Q0 k a1 z) v402
theorem s0_eq (k : Nat) (a1 : Arg) : s0 k a1 = r0 k a1 := by
  funext v402;
  have h0 : X0_0 ((blockC 0 (seqC (codeK E k fin (sub [1, 1, 1] C)) K0))) a1 = fun z => Q0 k a1 z := funext fun z => Q0_eq k a1 z
  refine (l0_eq k ((blockC 0 (seqC (codeK E k fin (sub [1, 1, 1] C)) K0))) a1 v402).trans ?_
  rw [h0]
  rfl
noncomputable def p (l0 : (Int) → Option Out) (a1 : Arg) : Option Out := bif decide ((200 : Int) < (a1.1.length : Int)) then (some (((2 : Int), ([] : List Sent), ((([] : List (List UInt8)), ([] : List Buffer), ()), (0 : Int), (([] : List (List UInt8)), ([] : List Buffer), ()), (0 : Int), ()), ()), ())) else l0 (0 : Int)
noncomputable def raw (k : Nat) (a1 : Arg) : Option Out := p (r0 k a1) a1
theorem p_eq (k : Nat) (a1 : Arg) : bodyK E k Go.Proofs.Try.f67 ps rs [] [] a1 = p (s0 k a1) a1 := by kernel_rfl
theorem raw_eq (k : Nat) (a1 : Arg) : bodyK E k Go.Proofs.Try.f67 ps rs [] [] a1 = raw k a1 := (p_eq k a1).trans (by rw [s0_eq]; rfl)
theorem ent : EnterOk Go.Proofs.Try.prog 67 sig.cap := ⟨Go.Proofs.Try.f67, Go.Proofs.Try.func67, by kernel_rfl, by kernel_rfl, by kernel_rfl⟩
theorem env : EnvOk Go.Proofs.Try.prog E := env_ok (tl := [(25, (.slc tSent)), (112, tSentResult)]) (gl := [(139, spec_l14Sent.sig), (150, spec_l14Once.sig)]) rfl rfl (by kernel_rfl) (by kernel_rfl) (fn_cons spec_l14Sent.snd spec_l14Sent.ent (fn_cons spec_l14Once.snd spec_l14Once.ent (fn_nil _)))
theorem chk : funOk Go.Proofs.Try.prog E Go.Proofs.Try.f67 ps rs [] = true := by kernel_rfl
theorem snd : Sound Go.Proofs.Try.prog 67 sig := sound_of_body env Go.Proofs.Try.func67 rfl (es := []) (fr := []) chk (fun _ _ h => lift_some h)
end spec_OnceOnly
namespace impl_sentsFault
/-! loop example g00408 impl sentsFault -/
abbrev Arg : Type := (List Sent) × Unit
abbrev Out : Type := Int × Unit
noncomputable def ps : List (PM × Ty) := [(.ro, (.slc tSent))]
noncomputable def rs : List (Ty × Md) := [(i64, (roMd i64))]
noncomputable def E : Env := { TI := lookN [(25, (.slc tSent)), (143, tSent)], G := lookN [(143, impl_sentFault.sig)], fz := [], lv := [(4, [9, 10, 11])], lx := [(0, [])], lf := [], od := [] }
noncomputable def sem (a : Arg) : Option Out := lift fun k => bodyK E k Go.Proofs.Try.f151 ps rs [] [] a
noncomputable def sig : Sig := { ps := ps, rs := rs, F := fun a => sem a }
noncomputable def C : Code := bodyOf Go.Proofs.Try.f151
noncomputable def fin : St → Option Out := outK ps rs [] (Func.results Go.Proofs.Try.f151).toList (mvs [])
noncomputable def K0 : Ex → St → Option Out := endK fin
noncomputable def S0 (rec : St → Option Out) (a1 : Arg) : (Int) → Option Out := fun v402 => rec ({ n := 21, sl := [(9, .val (.slc tSent) a1.1), (10, .val i64 (a1.1.length : Int)), (11, .val i64 v402)], vr := [], lent := [] })
noncomputable def X0_0 (K : Ex → St → Option Out) (a1 : Arg) : (Unit) → Option Out := fun z => K (.exit 0) ({ n := 21, sl := [], vr := [], lent := [] })
noncomputable def b0 (self : Int → Option Out) (e0 : (Unit) → Option Out) (a1 : Arg) (v402 : Int) : Option Out := bif decide (v402 < (a1.1.length : Int)) then (if 0 ≤ v402 then ((a1.1[v402.toNat]?).bind fun x603 => (impl_sentFault.sem (x603, ())).bind fun r604 => bif !decide (r604.1 = (0 : Int)) then (some (r604.1, ())) else self (w64 (v402 + (1 : Int)))) else none) else e0 ()
noncomputable def B0 (k : Nat) (self : Int → Option Out) (e0 : (Unit) → Option Out) (a1 : Arg) (v402 : Int) : Option Out := b0 self e0 a1 v402
theorem b0_eq (k : Nat) (rec : St → Option Out) (K : Ex → St → Option Out) (a1 : Arg) (v402 : Int) : codeK E k fin (sub [1, 1, 0, 1, 0, 0] C) ({ n := 21, sl := [(9, .val (.slc tSent) a1.1), (10, .val i64 (a1.1.length : Int)), (11, .val i64 v402)], vr := [], lent := [] }) (loopC rec (keepF [9, 10, 11] []) K) = b0 (S0 rec a1) (X0_0 K a1) a1 v402 := by kernel_rfl
theorem B0_eq (k : Nat) (rec : St → Option Out) (K : Ex → St → Option Out) (a1 : Arg) (v402 : Int) : codeK E k fin (sub [1, 1, 0, 1, 0, 0] C) ({ n := 21, sl := [(9, .val (.slc tSent) a1.1), (10, .val i64 (a1.1.length : Int)), (11, .val i64 v402)], vr := [], lent := [] }) (loopC rec (keepF [9, 10, 11] []) K) = B0 k (S0 rec a1) (X0_0 K a1) a1 v402 := (b0_eq k rec K a1 v402).trans (by rfl)
noncomputable def l0 (k : Nat) (a1 : Arg) (e0 : (Unit) → Option Out) (v : Int) : Option Out := rawIter (fun self v => B0 k self e0 a1 v) k v
theorem l0_eq (k : Nat) (K : Ex → St → Option Out) (a1 : Arg) (v402 : Int) : iterK (codeK E k fin (sub [1, 1, 0, 1, 0, 0] C)) (keepF [9, 10, 11] []) K k ({ n := 21, sl := [(9, .val (.slc tSent) a1.1), (10, .val i64 (a1.1.length : Int)), (11, .val i64 v402)], vr := [], lent := [] }) = l0 k a1 (X0_0 K a1) v402 :=
  iter_raw _ _ K (fun v402 => ({ n := 21, sl := [(9, .val (.slc tSent) a1.1), (10, .val i64 (a1.1.length : Int)), (11, .val i64 v402)], vr := [], lent := [] } : St)) (fun self v => B0 k self (X0_0 K a1) a1 v) (fun rec v => B0_eq k rec K a1 v) k v402
noncomputable def q0 (a1 : Arg) (z605 : (Unit)) : Option Out := some ((0 : Int), ())
noncomputable def Q0 (k : Nat) (a1 : Arg) (z605 : (Unit)) : Option Out := q0 a1 z605
theorem q0_eq (k : Nat) (a1 : Arg) (z605 : (Unit)) : (blockC 0 (seqC (codeK E k fin (sub [1, 1, 1] C)) K0)) (.exit 0) ({ n := 21, sl := [], vr := [], lent := [] }) = q0 a1 z605 := by kernel_rfl
theorem Q0_eq (k : Nat) (a1 : Arg) (z605 : (Unit)) : (blockC 0 (seqC (codeK E k fin (sub [1, 1, 1] C)) K0)) (.exit 0) ({ n := 21, sl := [], vr := [], lent := [] }) = Q0 k a1 z605 := (q0_eq k a1 z605).trans (by rfl)
noncomputable def s0 (k : Nat) (a1 : Arg) : (Int) → Option Out := fun v402 => iterK (codeK E k fin (sub [1, 1, 0, 1, 0, 0] C)) (keepF [9, 10, 11] []) (blockC 0 (seqC (codeK E k fin (sub [1, 1, 1] C)) K0)) k ({ n := 21, sl := [(9, .val (.slc tSent) a1.1), (10, .val i64 (a1.1.length : Int)), (11, .val i64 v402)], vr := [], lent := [] })
noncomputable def r0 (k : Nat) (a1 : Arg) : (Int) → Option Out := fun v402 => l0 k a1 (fun z => Q0 k a1 z) v402
theorem s0_eq (k : Nat) (a1 : Arg) : s0 k a1 = r0 k a1 := by
  funext v402;
  have h0 : X0_0 ((blockC 0 (seqC (codeK E k fin (sub [1, 1, 1] C)) K0))) a1 = fun z => Q0 k a1 z := funext fun z => Q0_eq k a1 z
  refine (l0_eq k ((blockC 0 (seqC (codeK E k fin (sub [1, 1, 1] C)) K0))) a1 v402).trans ?_
  rw [h0]
  rfl
noncomputable def p (l0 : (Int) → Option Out) (a1 : Arg) : Option Out := bif decide ((200 : Int) < (a1.1.length : Int)) then (some ((2 : Int), ())) else l0 (0 : Int)
noncomputable def raw (k : Nat) (a1 : Arg) : Option Out := p (r0 k a1) a1
theorem p_eq (k : Nat) (a1 : Arg) : bodyK E k Go.Proofs.Try.f151 ps rs [] [] a1 = p (s0 k a1) a1 := by kernel_rfl
theorem raw_eq (k : Nat) (a1 : Arg) : bodyK E k Go.Proofs.Try.f151 ps rs [] [] a1 = raw k a1 := (p_eq k a1).trans (by rw [s0_eq]; rfl)
theorem ent : EnterOk Go.Proofs.Try.prog 151 sig.cap := ⟨Go.Proofs.Try.f151, Go.Proofs.Try.func151, by kernel_rfl, by kernel_rfl, by kernel_rfl⟩
theorem env : EnvOk Go.Proofs.Try.prog E := env_ok (tl := [(25, (.slc tSent)), (143, tSent)]) (gl := [(143, impl_sentFault.sig)]) rfl rfl (by kernel_rfl) (by kernel_rfl) (fn_cons impl_sentFault.snd impl_sentFault.ent (fn_nil _))
theorem chk : funOk Go.Proofs.Try.prog E Go.Proofs.Try.f151 ps rs [] = true := by kernel_rfl
theorem snd : Sound Go.Proofs.Try.prog 151 sig := sound_of_body env Go.Proofs.Try.func151 rfl (es := []) (fr := []) chk (fun _ _ h => lift_some h)
end impl_sentsFault
namespace slices_Clone_Change
/-! slices Clone   loop example g00408 impl Change loop example g00408 impl Change  -/
abbrev Arg : Type := (List Change) × Unit
abbrev Out : Type := (List Change) × Unit
noncomputable def ps : List (PM × Ty) := [(.ro, (.slc tChange))]
noncomputable def rs : List (Ty × Md) := [((.slc tChange), (ownMd (.slc tChange)))]
noncomputable def E : Env := { TI := lookN [(141, (.slc tChange))], G := lookN [], fz := [], lv := [], lx := [], lf := [], od := [] }
noncomputable def sem (a : Arg) : Option Out := lift fun k => bodyK E k Go.Proofs.Try.f261 ps rs [] [] a
noncomputable def sig : Sig := { ps := ps, rs := rs, F := fun a => sem a }
noncomputable def C : Code := bodyOf Go.Proofs.Try.f261
noncomputable def fin : St → Option Out := outK ps rs [] (Func.results Go.Proofs.Try.f261).toList (mvs [])
noncomputable def K0 : Ex → St → Option Out := endK fin
noncomputable def p (a1 : Arg) : Option Out := nilB a1.1 (some (([] : List Change), ())) (if ([] : List Change).length + a1.1.length ≤ CAP then (some (([] : List Change) ++ a1.1, ())) else none)
noncomputable def raw (k : Nat) (a1 : Arg) : Option Out := p a1
theorem p_eq (k : Nat) (a1 : Arg) : bodyK E k Go.Proofs.Try.f261 ps rs [] [] a1 = p a1 := by kernel_rfl
theorem raw_eq (k : Nat) (a1 : Arg) : bodyK E k Go.Proofs.Try.f261 ps rs [] [] a1 = raw k a1 := (p_eq k a1).trans (by rfl)
theorem ent : EnterOk Go.Proofs.Try.prog 261 sig.cap := ⟨Go.Proofs.Try.f261, Go.Proofs.Try.func261, by kernel_rfl, by kernel_rfl, by kernel_rfl⟩
theorem env : EnvOk Go.Proofs.Try.prog E := env_ok (tl := [(141, (.slc tChange))]) (gl := []) rfl rfl (by kernel_rfl) (by kernel_rfl) (fn_nil _)
theorem chk : funOk Go.Proofs.Try.prog E Go.Proofs.Try.f261 ps rs [] = true := by kernel_rfl
theorem snd : Sound Go.Proofs.Try.prog 261 sig := sound_of_body env Go.Proofs.Try.func261 rfl (es := []) (fr := []) chk (fun _ _ h => lift_some h)
end slices_Clone_Change
namespace impl_ownSent
/-! loop example g00408 impl ownSent -/
abbrev Arg : Type := Sent × Unit
abbrev Out : Type := Sent × Unit
noncomputable def ps : List (PM × Ty) := [(.ro, tSent)]
noncomputable def rs : List (Ty × Md) := [(tSent, (ownMd tSent))]
noncomputable def E : Env := { TI := lookN [(2, i64), (141, (.slc tChange)), (143, tSent)], G := lookN [(261, slices_Clone_Change.sig)], fz := [], lv := [], lx := [], lf := [], od := [(1, [0, 1, 2, 3, 4, 5, 6, 7, 8])] }
noncomputable def sem (a : Arg) : Option Out := lift fun k => bodyK E k Go.Proofs.Try.f219 ps rs [] [] a
noncomputable def sig : Sig := { ps := ps, rs := rs, F := fun a => sem a }
noncomputable def C : Code := bodyOf Go.Proofs.Try.f219
noncomputable def fin : St → Option Out := outK ps rs [] (Func.results Go.Proofs.Try.f219).toList (mvs [])
noncomputable def K0 : Ex → St → Option Out := endK fin
noncomputable def p (a1 : Arg) : Option Out := (slices_Clone_Change.sem (a1.1.2.2.1, ())).bind fun r2 => some ((a1.1.1, a1.1.2.1, r2.1, ()), ())
noncomputable def raw (k : Nat) (a1 : Arg) : Option Out := p a1
theorem p_eq (k : Nat) (a1 : Arg) : bodyK E k Go.Proofs.Try.f219 ps rs [] [] a1 = p a1 := by kernel_rfl
theorem raw_eq (k : Nat) (a1 : Arg) : bodyK E k Go.Proofs.Try.f219 ps rs [] [] a1 = raw k a1 := (p_eq k a1).trans (by rfl)
theorem ent : EnterOk Go.Proofs.Try.prog 219 sig.cap := ⟨Go.Proofs.Try.f219, Go.Proofs.Try.func219, by kernel_rfl, by kernel_rfl, by kernel_rfl⟩
theorem env : EnvOk Go.Proofs.Try.prog E := env_ok (tl := [(2, i64), (141, (.slc tChange)), (143, tSent)]) (gl := [(261, slices_Clone_Change.sig)]) rfl rfl (by kernel_rfl) (by kernel_rfl) (fn_cons slices_Clone_Change.snd slices_Clone_Change.ent (fn_nil _))
theorem chk : funOk Go.Proofs.Try.prog E Go.Proofs.Try.f219 ps rs [] = true := by kernel_rfl
theorem snd : Sound Go.Proofs.Try.prog 219 sig := sound_of_body env Go.Proofs.Try.func219 rfl (es := []) (fr := []) chk (fun _ _ h => lift_some h)
end impl_ownSent
namespace impl_once
/-! loop example g00408 impl once -/
abbrev Arg : Type := (List Sent) × Unit
abbrev Out : Type := (List Sent) × Unit
noncomputable def ps : List (PM × Ty) := [(.ro, (.slc tSent))]
noncomputable def rs : List (Ty × Md) := [((.slc tSent), (ownMd (.slc tSent)))]
noncomputable def E : Env := { TI := lookN [(2, i64), (25, (.slc tSent)), (143, tSent)], G := lookN [(219, impl_ownSent.sig)], fz := [], lv := [(4, [3, 4, 7, 8, 9])], lx := [(0, [3])], lf := [], od := [] }
noncomputable def sem (a : Arg) : Option Out := lift fun k => bodyK E k Go.Proofs.Try.f152 ps rs [] [] a
noncomputable def sig : Sig := { ps := ps, rs := rs, F := fun a => sem a }
noncomputable def C : Code := bodyOf Go.Proofs.Try.f152
noncomputable def fin : St → Option Out := outK ps rs [] (Func.results Go.Proofs.Try.f152).toList (mvs [])
noncomputable def K0 : Ex → St → Option Out := endK fin
noncomputable def S0 (rec : St → Option Out) (a1 : Arg) : ((List Sent) × Int × Int) → Option Out := fun v402 => rec ({ n := 26, sl := [(3, .own (.slc tSent) (ownMd (.slc tSent)) [] v402.1), (4, .val i64 v402.2.1), (7, .val (.slc tSent) a1.1), (8, .val i64 (a1.1.length : Int)), (9, .val i64 v402.2.2)], vr := [], lent := [] })
noncomputable def X0_0 (K : Ex → St → Option Out) (a1 : Arg) : (List Sent) → Option Out := fun z => K (.exit 0) ({ n := 26, sl := [(3, .own (.slc tSent) (ownMd (.slc tSent)) [] z)], vr := [], lent := [] })
noncomputable def b0 (self : ((List Sent) × Int × Int) → Option Out) (e0 : (List Sent) → Option Out) (a1 : Arg) (v402 : (List Sent) × Int × Int) : Option Out := bif decide (v402.2.2 < (a1.1.length : Int)) then (if 0 ≤ v402.2.2 then ((a1.1[v402.2.2.toNat]?).bind fun x603 => bif decide (v402.2.1 < x603.1) then ((impl_ownSent.sem (x603, ())).bind fun r604 => if v402.1.length + [r604.1].length ≤ CAP then (self (v402.1 ++ [r604.1], x603.1, w64 (v402.2.2 + (1 : Int)))) else none) else self (v402.1, v402.2.1, w64 (v402.2.2 + (1 : Int)))) else none) else e0 v402.1
noncomputable def B0 (k : Nat) (self : ((List Sent) × Int × Int) → Option Out) (e0 : (List Sent) → Option Out) (a1 : Arg) (v402 : (List Sent) × Int × Int) : Option Out := b0 self e0 a1 v402
theorem b0_eq (k : Nat) (rec : St → Option Out) (K : Ex → St → Option Out) (a1 : Arg) (v402 : (List Sent) × Int × Int) : codeK E k fin (sub [1, 1, 1, 0, 1, 0, 0] C) ({ n := 26, sl := [(3, .own (.slc tSent) (ownMd (.slc tSent)) [] v402.1), (4, .val i64 v402.2.1), (7, .val (.slc tSent) a1.1), (8, .val i64 (a1.1.length : Int)), (9, .val i64 v402.2.2)], vr := [], lent := [] }) (loopC rec (keepF [3, 4, 7, 8, 9] []) K) = b0 (S0 rec a1) (X0_0 K a1) a1 v402 := by kernel_rfl
theorem B0_eq (k : Nat) (rec : St → Option Out) (K : Ex → St → Option Out) (a1 : Arg) (v402 : (List Sent) × Int × Int) : codeK E k fin (sub [1, 1, 1, 0, 1, 0, 0] C) ({ n := 26, sl := [(3, .own (.slc tSent) (ownMd (.slc tSent)) [] v402.1), (4, .val i64 v402.2.1), (7, .val (.slc tSent) a1.1), (8, .val i64 (a1.1.length : Int)), (9, .val i64 v402.2.2)], vr := [], lent := [] }) (loopC rec (keepF [3, 4, 7, 8, 9] []) K) = B0 k (S0 rec a1) (X0_0 K a1) a1 v402 := (b0_eq k rec K a1 v402).trans (by rfl)
noncomputable def l0 (k : Nat) (a1 : Arg) (e0 : (List Sent) → Option Out) (v : (List Sent) × Int × Int) : Option Out := rawIter (fun self v => B0 k self e0 a1 v) k v
theorem l0_eq (k : Nat) (K : Ex → St → Option Out) (a1 : Arg) (v402 : (List Sent) × Int × Int) : iterK (codeK E k fin (sub [1, 1, 1, 0, 1, 0, 0] C)) (keepF [3, 4, 7, 8, 9] []) K k ({ n := 26, sl := [(3, .own (.slc tSent) (ownMd (.slc tSent)) [] v402.1), (4, .val i64 v402.2.1), (7, .val (.slc tSent) a1.1), (8, .val i64 (a1.1.length : Int)), (9, .val i64 v402.2.2)], vr := [], lent := [] }) = l0 k a1 (X0_0 K a1) v402 :=
  iter_raw _ _ K (fun v402 => ({ n := 26, sl := [(3, .own (.slc tSent) (ownMd (.slc tSent)) [] v402.1), (4, .val i64 v402.2.1), (7, .val (.slc tSent) a1.1), (8, .val i64 (a1.1.length : Int)), (9, .val i64 v402.2.2)], vr := [], lent := [] } : St)) (fun self v => B0 k self (X0_0 K a1) a1 v) (fun rec v => B0_eq k rec K a1 v) k v402
noncomputable def q0 (a1 : Arg) (z605 : (List Sent)) : Option Out := some (z605, ())
noncomputable def Q0 (k : Nat) (a1 : Arg) (z605 : (List Sent)) : Option Out := q0 a1 z605
theorem q0_eq (k : Nat) (a1 : Arg) (z605 : (List Sent)) : (blockC 0 (seqC (codeK E k fin (sub [1, 1, 1, 1] C)) K0)) (.exit 0) ({ n := 26, sl := [(3, .own (.slc tSent) (ownMd (.slc tSent)) [] z605)], vr := [], lent := [] }) = q0 a1 z605 := by kernel_rfl
theorem Q0_eq (k : Nat) (a1 : Arg) (z605 : (List Sent)) : (blockC 0 (seqC (codeK E k fin (sub [1, 1, 1, 1] C)) K0)) (.exit 0) ({ n := 26, sl := [(3, .own (.slc tSent) (ownMd (.slc tSent)) [] z605)], vr := [], lent := [] }) = Q0 k a1 z605 := (q0_eq k a1 z605).trans (by rfl)
noncomputable def s0 (k : Nat) (a1 : Arg) : ((List Sent) × Int × Int) → Option Out := fun v402 => iterK (codeK E k fin (sub [1, 1, 1, 0, 1, 0, 0] C)) (keepF [3, 4, 7, 8, 9] []) (blockC 0 (seqC (codeK E k fin (sub [1, 1, 1, 1] C)) K0)) k ({ n := 26, sl := [(3, .own (.slc tSent) (ownMd (.slc tSent)) [] v402.1), (4, .val i64 v402.2.1), (7, .val (.slc tSent) a1.1), (8, .val i64 (a1.1.length : Int)), (9, .val i64 v402.2.2)], vr := [], lent := [] })
noncomputable def r0 (k : Nat) (a1 : Arg) : ((List Sent) × Int × Int) → Option Out := fun v402 => l0 k a1 (fun z => Q0 k a1 z) v402
theorem s0_eq (k : Nat) (a1 : Arg) : s0 k a1 = r0 k a1 := by
  funext v402;
  have h0 : X0_0 ((blockC 0 (seqC (codeK E k fin (sub [1, 1, 1, 1] C)) K0))) a1 = fun z => Q0 k a1 z := funext fun z => Q0_eq k a1 z
  refine (l0_eq k ((blockC 0 (seqC (codeK E k fin (sub [1, 1, 1, 1] C)) K0))) a1 v402).trans ?_
  rw [h0]
  rfl
noncomputable def p (l0 : ((List Sent) × Int × Int) → Option Out) (a1 : Arg) : Option Out := l0 (([] : List Sent), (-1 : Int), (0 : Int))
noncomputable def raw (k : Nat) (a1 : Arg) : Option Out := p (r0 k a1) a1
theorem p_eq (k : Nat) (a1 : Arg) : bodyK E k Go.Proofs.Try.f152 ps rs [] [] a1 = p (s0 k a1) a1 := by kernel_rfl
theorem raw_eq (k : Nat) (a1 : Arg) : bodyK E k Go.Proofs.Try.f152 ps rs [] [] a1 = raw k a1 := (p_eq k a1).trans (by rw [s0_eq]; rfl)
theorem ent : EnterOk Go.Proofs.Try.prog 152 sig.cap := ⟨Go.Proofs.Try.f152, Go.Proofs.Try.func152, by kernel_rfl, by kernel_rfl, by kernel_rfl⟩
theorem env : EnvOk Go.Proofs.Try.prog E := env_ok (tl := [(2, i64), (25, (.slc tSent)), (143, tSent)]) (gl := [(219, impl_ownSent.sig)]) rfl rfl (by kernel_rfl) (by kernel_rfl) (fn_cons impl_ownSent.snd impl_ownSent.ent (fn_nil _))
theorem chk : funOk Go.Proofs.Try.prog E Go.Proofs.Try.f152 ps rs [] = true := by kernel_rfl
theorem snd : Sound Go.Proofs.Try.prog 152 sig := sound_of_body env Go.Proofs.Try.func152 rfl (es := []) (fr := []) chk (fun _ _ h => lift_some h)
end impl_once
namespace impl_OnceOnly
/-! loop example g00408 impl OnceOnly -/
abbrev Arg : Type := (List Sent) × Unit
abbrev Out : Type := SentResult × Unit
noncomputable def ps : List (PM × Ty) := [(.ro, (.slc tSent))]
noncomputable def rs : List (Ty × Md) := [(tSentResult, (ownMd tSentResult))]
noncomputable def E : Env := { TI := lookN [(112, tSentResult)], G := lookN [(151, impl_sentsFault.sig), (152, impl_once.sig)], fz := [], lv := [], lx := [], lf := [], od := [] }
noncomputable def sem (a : Arg) : Option Out := lift fun k => bodyK E k Go.Proofs.Try.f68 ps rs [] [] a
noncomputable def sig : Sig := { ps := ps, rs := rs, F := fun a => sem a }
noncomputable def C : Code := bodyOf Go.Proofs.Try.f68
noncomputable def fin : St → Option Out := outK ps rs [] (Func.results Go.Proofs.Try.f68).toList (mvs [])
noncomputable def K0 : Ex → St → Option Out := endK fin
noncomputable def p (a1 : Arg) : Option Out := (impl_sentsFault.sem (a1.1, ())).bind fun r2 => bif !decide (r2.1 = (0 : Int)) then (some ((r2.1, ([] : List Sent), ((([] : List (List UInt8)), ([] : List Buffer), ()), (0 : Int), (([] : List (List UInt8)), ([] : List Buffer), ()), (0 : Int), ()), ()), ())) else (impl_once.sem (a1.1, ())).bind fun r3 => some (((0 : Int), r3.1, ((([] : List (List UInt8)), ([] : List Buffer), ()), (0 : Int), (([] : List (List UInt8)), ([] : List Buffer), ()), (0 : Int), ()), ()), ())
noncomputable def raw (k : Nat) (a1 : Arg) : Option Out := p a1
theorem p_eq (k : Nat) (a1 : Arg) : bodyK E k Go.Proofs.Try.f68 ps rs [] [] a1 = p a1 := by kernel_rfl
theorem raw_eq (k : Nat) (a1 : Arg) : bodyK E k Go.Proofs.Try.f68 ps rs [] [] a1 = raw k a1 := (p_eq k a1).trans (by rfl)
theorem ent : EnterOk Go.Proofs.Try.prog 68 sig.cap := ⟨Go.Proofs.Try.f68, Go.Proofs.Try.func68, by kernel_rfl, by kernel_rfl, by kernel_rfl⟩
theorem env : EnvOk Go.Proofs.Try.prog E := env_ok (tl := [(112, tSentResult)]) (gl := [(151, impl_sentsFault.sig), (152, impl_once.sig)]) rfl rfl (by kernel_rfl) (by kernel_rfl) (fn_cons impl_sentsFault.snd impl_sentsFault.ent (fn_cons impl_once.snd impl_once.ent (fn_nil _)))
theorem chk : funOk Go.Proofs.Try.prog E Go.Proofs.Try.f68 ps rs [] = true := by kernel_rfl
theorem snd : Sound Go.Proofs.Try.prog 68 sig := sound_of_body env Go.Proofs.Try.func68 rfl (es := []) (fr := []) chk (fun _ _ h => lift_some h)
end impl_OnceOnly
namespace laws_eqBuffer
/-! loop example g00408 laws eqBuffer -/
abbrev Arg : Type := Buffer × Buffer × Unit
abbrev Out : Type := Bool × Unit
noncomputable def ps : List (PM × Ty) := [(.ro, tBuffer), (.ro, tBuffer)]
noncomputable def rs : List (Ty × Md) := [(.bool, (roMd .bool))]
noncomputable def E : Env := { TI := lookN [(2, i64), (141, (.slc tChange)), (324, tBuffer)], G := lookN [(180, laws_eqChangeS.sig)], fz := [], lv := [], lx := [], lf := [], od := [] }
noncomputable def sem (a : Arg) : Option Out := lift fun k => bodyK E k Go.Proofs.Try.f279 ps rs [] [] a
noncomputable def sig : Sig := { ps := ps, rs := rs, F := fun a => sem a }
noncomputable def C : Code := bodyOf Go.Proofs.Try.f279
noncomputable def fin : St → Option Out := outK ps rs [] (Func.results Go.Proofs.Try.f279).toList (mvs [])
noncomputable def K0 : Ex → St → Option Out := endK fin
noncomputable def p (a1 : Arg) : Option Out := bif !decide (a1.1.1 = a1.2.1.1) then (some (false, ())) else (laws_eqChangeS.sem (a1.1.2.1, a1.2.1.2.1, ())).bind fun r2 => bif !r2.1 then (some (false, ())) else some (true, ())
noncomputable def raw (k : Nat) (a1 : Arg) : Option Out := p a1
theorem p_eq (k : Nat) (a1 : Arg) : bodyK E k Go.Proofs.Try.f279 ps rs [] [] a1 = p a1 := by kernel_rfl
theorem raw_eq (k : Nat) (a1 : Arg) : bodyK E k Go.Proofs.Try.f279 ps rs [] [] a1 = raw k a1 := (p_eq k a1).trans (by rfl)
theorem ent : EnterOk Go.Proofs.Try.prog 279 sig.cap := ⟨Go.Proofs.Try.f279, Go.Proofs.Try.func279, by kernel_rfl, by kernel_rfl, by kernel_rfl⟩
theorem env : EnvOk Go.Proofs.Try.prog E := env_ok (tl := [(2, i64), (141, (.slc tChange)), (324, tBuffer)]) (gl := [(180, laws_eqChangeS.sig)]) rfl rfl (by kernel_rfl) (by kernel_rfl) (fn_cons laws_eqChangeS.snd laws_eqChangeS.ent (fn_nil _))
theorem chk : funOk Go.Proofs.Try.prog E Go.Proofs.Try.f279 ps rs [] = true := by kernel_rfl
theorem snd : Sound Go.Proofs.Try.prog 279 sig := sound_of_body env Go.Proofs.Try.func279 rfl (es := []) (fr := []) chk (fun _ _ h => lift_some h)
end laws_eqBuffer
namespace laws_eqBufferS
/-! loop example g00408 laws eqBufferS -/
abbrev Arg : Type := (List Buffer) × (List Buffer) × Unit
abbrev Out : Type := Bool × Unit
noncomputable def ps : List (PM × Ty) := [(.ro, (.slc tBuffer)), (.ro, (.slc tBuffer))]
noncomputable def rs : List (Ty × Md) := [(.bool, (roMd .bool))]
noncomputable def E : Env := { TI := lookN [(106, (.slc tBuffer)), (324, tBuffer)], G := lookN [(279, laws_eqBuffer.sig)], fz := [], lv := [(4, [0, 1, 5])], lx := [(0, [])], lf := [], od := [(6, [0, 1, 2, 3, 4, 5, 6, 7, 8, 9])] }
noncomputable def sem (a : Arg) : Option Out := lift fun k => bodyK E k Go.Proofs.Try.f262 ps rs [] [] a
noncomputable def sig : Sig := { ps := ps, rs := rs, F := fun a => sem a }
noncomputable def C : Code := bodyOf Go.Proofs.Try.f262
noncomputable def fin : St → Option Out := outK ps rs [] (Func.results Go.Proofs.Try.f262).toList (mvs [])
noncomputable def K0 : Ex → St → Option Out := endK fin
noncomputable def S0 (rec : St → Option Out) (a1 : Arg) : (Int) → Option Out := fun v402 => rec ({ n := 27, sl := [(0, .val (.slc tBuffer) a1.1), (1, .val (.slc tBuffer) a1.2.1), (5, .val i64 v402)], vr := [], lent := [] })
noncomputable def X0_0 (K : Ex → St → Option Out) (a1 : Arg) : (Unit) → Option Out := fun z => K (.exit 0) ({ n := 27, sl := [], vr := [], lent := [] })
noncomputable def b0 (self : Int → Option Out) (e0 : (Unit) → Option Out) (a1 : Arg) (v402 : Int) : Option Out := bif decide (v402 < (a1.1.length : Int)) then (if 0 ≤ v402 then ((a1.1[v402.toNat]?).bind fun x603 => if 0 ≤ v402 then ((a1.2.1[v402.toNat]?).bind fun x604 => (laws_eqBuffer.sem (x603, x604, ())).bind fun r605 => bif !r605.1 then (some (false, ())) else self (w64 (v402 + (1 : Int)))) else none) else none) else e0 ()
noncomputable def B0 (k : Nat) (self : Int → Option Out) (e0 : (Unit) → Option Out) (a1 : Arg) (v402 : Int) : Option Out := b0 self e0 a1 v402
theorem b0_eq (k : Nat) (rec : St → Option Out) (K : Ex → St → Option Out) (a1 : Arg) (v402 : Int) : codeK E k fin (sub [1, 1, 0, 1, 0, 0] C) ({ n := 27, sl := [(0, .val (.slc tBuffer) a1.1), (1, .val (.slc tBuffer) a1.2.1), (5, .val i64 v402)], vr := [], lent := [] }) (loopC rec (keepF [0, 1, 5] []) K) = b0 (S0 rec a1) (X0_0 K a1) a1 v402 := by kernel_rfl
theorem B0_eq (k : Nat) (rec : St → Option Out) (K : Ex → St → Option Out) (a1 : Arg) (v402 : Int) : codeK E k fin (sub [1, 1, 0, 1, 0, 0] C) ({ n := 27, sl := [(0, .val (.slc tBuffer) a1.1), (1, .val (.slc tBuffer) a1.2.1), (5, .val i64 v402)], vr := [], lent := [] }) (loopC rec (keepF [0, 1, 5] []) K) = B0 k (S0 rec a1) (X0_0 K a1) a1 v402 := (b0_eq k rec K a1 v402).trans (by rfl)
noncomputable def l0 (k : Nat) (a1 : Arg) (e0 : (Unit) → Option Out) (v : Int) : Option Out := rawIter (fun self v => B0 k self e0 a1 v) k v
theorem l0_eq (k : Nat) (K : Ex → St → Option Out) (a1 : Arg) (v402 : Int) : iterK (codeK E k fin (sub [1, 1, 0, 1, 0, 0] C)) (keepF [0, 1, 5] []) K k ({ n := 27, sl := [(0, .val (.slc tBuffer) a1.1), (1, .val (.slc tBuffer) a1.2.1), (5, .val i64 v402)], vr := [], lent := [] }) = l0 k a1 (X0_0 K a1) v402 :=
  iter_raw _ _ K (fun v402 => ({ n := 27, sl := [(0, .val (.slc tBuffer) a1.1), (1, .val (.slc tBuffer) a1.2.1), (5, .val i64 v402)], vr := [], lent := [] } : St)) (fun self v => B0 k self (X0_0 K a1) a1 v) (fun rec v => B0_eq k rec K a1 v) k v402
noncomputable def q0 (a1 : Arg) (z606 : (Unit)) : Option Out := some (true, ())
noncomputable def Q0 (k : Nat) (a1 : Arg) (z606 : (Unit)) : Option Out := q0 a1 z606
theorem q0_eq (k : Nat) (a1 : Arg) (z606 : (Unit)) : (blockC 0 (seqC (codeK E k fin (sub [1, 1, 1] C)) K0)) (.exit 0) ({ n := 27, sl := [], vr := [], lent := [] }) = q0 a1 z606 := by kernel_rfl
theorem Q0_eq (k : Nat) (a1 : Arg) (z606 : (Unit)) : (blockC 0 (seqC (codeK E k fin (sub [1, 1, 1] C)) K0)) (.exit 0) ({ n := 27, sl := [], vr := [], lent := [] }) = Q0 k a1 z606 := (q0_eq k a1 z606).trans (by rfl)
noncomputable def s0 (k : Nat) (a1 : Arg) : (Int) → Option Out := fun v402 => iterK (codeK E k fin (sub [1, 1, 0, 1, 0, 0] C)) (keepF [0, 1, 5] []) (blockC 0 (seqC (codeK E k fin (sub [1, 1, 1] C)) K0)) k ({ n := 27, sl := [(0, .val (.slc tBuffer) a1.1), (1, .val (.slc tBuffer) a1.2.1), (5, .val i64 v402)], vr := [], lent := [] })
noncomputable def r0 (k : Nat) (a1 : Arg) : (Int) → Option Out := fun v402 => l0 k a1 (fun z => Q0 k a1 z) v402
theorem s0_eq (k : Nat) (a1 : Arg) : s0 k a1 = r0 k a1 := by
  funext v402;
  have h0 : X0_0 ((blockC 0 (seqC (codeK E k fin (sub [1, 1, 1] C)) K0))) a1 = fun z => Q0 k a1 z := funext fun z => Q0_eq k a1 z
  refine (l0_eq k ((blockC 0 (seqC (codeK E k fin (sub [1, 1, 1] C)) K0))) a1 v402).trans ?_
  rw [h0]
  rfl
noncomputable def p (l0 : (Int) → Option Out) (a1 : Arg) : Option Out := bif !decide ((a1.1.length : Int) = (a1.2.1.length : Int)) then (some (false, ())) else l0 (0 : Int)
noncomputable def raw (k : Nat) (a1 : Arg) : Option Out := p (r0 k a1) a1
theorem p_eq (k : Nat) (a1 : Arg) : bodyK E k Go.Proofs.Try.f262 ps rs [] [] a1 = p (s0 k a1) a1 := by kernel_rfl
theorem raw_eq (k : Nat) (a1 : Arg) : bodyK E k Go.Proofs.Try.f262 ps rs [] [] a1 = raw k a1 := (p_eq k a1).trans (by rw [s0_eq]; rfl)
theorem ent : EnterOk Go.Proofs.Try.prog 262 sig.cap := ⟨Go.Proofs.Try.f262, Go.Proofs.Try.func262, by kernel_rfl, by kernel_rfl, by kernel_rfl⟩
theorem env : EnvOk Go.Proofs.Try.prog E := env_ok (tl := [(106, (.slc tBuffer)), (324, tBuffer)]) (gl := [(279, laws_eqBuffer.sig)]) rfl rfl (by kernel_rfl) (by kernel_rfl) (fn_cons laws_eqBuffer.snd laws_eqBuffer.ent (fn_nil _))
theorem chk : funOk Go.Proofs.Try.prog E Go.Proofs.Try.f262 ps rs [] = true := by kernel_rfl
theorem snd : Sound Go.Proofs.Try.prog 262 sig := sound_of_body env Go.Proofs.Try.func262 rfl (es := []) (fr := []) chk (fun _ _ h => lift_some h)
end laws_eqBufferS
namespace laws_eqMiner
/-! loop example g00408 laws eqMiner -/
abbrev Arg : Type := Miner × Miner × Unit
abbrev Out : Type := Bool × Unit
noncomputable def ps : List (PM × Ty) := [(.ro, tMiner), (.ro, tMiner)]
noncomputable def rs : List (Ty × Md) := [(.bool, (roMd .bool))]
noncomputable def E : Env := { TI := lookN [(38, (.slc (.slc u8))), (106, (.slc tBuffer)), (108, tMiner)], G := lookN [(119, laws_eqByteSS.sig), (262, laws_eqBufferS.sig)], fz := [], lv := [], lx := [], lf := [], od := [] }
noncomputable def sem (a : Arg) : Option Out := lift fun k => bodyK E k Go.Proofs.Try.f220 ps rs [] [] a
noncomputable def sig : Sig := { ps := ps, rs := rs, F := fun a => sem a }
noncomputable def C : Code := bodyOf Go.Proofs.Try.f220
noncomputable def fin : St → Option Out := outK ps rs [] (Func.results Go.Proofs.Try.f220).toList (mvs [])
noncomputable def K0 : Ex → St → Option Out := endK fin
noncomputable def p (a1 : Arg) : Option Out := (laws_eqByteSS.sem (a1.1.1, a1.2.1.1, ())).bind fun r2 => bif !r2.1 then (some (false, ())) else (laws_eqBufferS.sem (a1.1.2.1, a1.2.1.2.1, ())).bind fun r3 => bif !r3.1 then (some (false, ())) else some (true, ())
noncomputable def raw (k : Nat) (a1 : Arg) : Option Out := p a1
theorem p_eq (k : Nat) (a1 : Arg) : bodyK E k Go.Proofs.Try.f220 ps rs [] [] a1 = p a1 := by kernel_rfl
theorem raw_eq (k : Nat) (a1 : Arg) : bodyK E k Go.Proofs.Try.f220 ps rs [] [] a1 = raw k a1 := (p_eq k a1).trans (by rfl)
theorem ent : EnterOk Go.Proofs.Try.prog 220 sig.cap := ⟨Go.Proofs.Try.f220, Go.Proofs.Try.func220, by kernel_rfl, by kernel_rfl, by kernel_rfl⟩
theorem env : EnvOk Go.Proofs.Try.prog E := env_ok (tl := [(38, (.slc (.slc u8))), (106, (.slc tBuffer)), (108, tMiner)]) (gl := [(119, laws_eqByteSS.sig), (262, laws_eqBufferS.sig)]) rfl rfl (by kernel_rfl) (by kernel_rfl) (fn_cons laws_eqByteSS.snd laws_eqByteSS.ent (fn_cons laws_eqBufferS.snd laws_eqBufferS.ent (fn_nil _)))
theorem chk : funOk Go.Proofs.Try.prog E Go.Proofs.Try.f220 ps rs [] = true := by kernel_rfl
theorem snd : Sound Go.Proofs.Try.prog 220 sig := sound_of_body env Go.Proofs.Try.func220 rfl (es := []) (fr := []) chk (fun _ _ h => lift_some h)
end laws_eqMiner
namespace laws_eqConnector
/-! loop example g00408 laws eqConnector -/
abbrev Arg : Type := Connector × Connector × Unit
abbrev Out : Type := Bool × Unit
noncomputable def ps : List (PM × Ty) := [(.ro, tConnector), (.ro, tConnector)]
noncomputable def rs : List (Ty × Md) := [(.bool, (roMd .bool))]
noncomputable def E : Env := { TI := lookN [(2, i64), (108, tMiner), (110, tConnector)], G := lookN [(220, laws_eqMiner.sig)], fz := [], lv := [], lx := [], lf := [], od := [] }
noncomputable def sem (a : Arg) : Option Out := lift fun k => bodyK E k Go.Proofs.Try.f153 ps rs [] [] a
noncomputable def sig : Sig := { ps := ps, rs := rs, F := fun a => sem a }
noncomputable def C : Code := bodyOf Go.Proofs.Try.f153
noncomputable def fin : St → Option Out := outK ps rs [] (Func.results Go.Proofs.Try.f153).toList (mvs [])
noncomputable def K0 : Ex → St → Option Out := endK fin
noncomputable def p (a1 : Arg) : Option Out := (laws_eqMiner.sem (a1.1.1, a1.2.1.1, ())).bind fun r2 => bif !r2.1 then (some (false, ())) else bif !decide (a1.1.2.1 = a1.2.1.2.1) then (some (false, ())) else (laws_eqMiner.sem (a1.1.2.2.1, a1.2.1.2.2.1, ())).bind fun r3 => bif !r3.1 then (some (false, ())) else bif !decide (a1.1.2.2.2.1 = a1.2.1.2.2.2.1) then (some (false, ())) else some (true, ())
noncomputable def raw (k : Nat) (a1 : Arg) : Option Out := p a1
theorem p_eq (k : Nat) (a1 : Arg) : bodyK E k Go.Proofs.Try.f153 ps rs [] [] a1 = p a1 := by kernel_rfl
theorem raw_eq (k : Nat) (a1 : Arg) : bodyK E k Go.Proofs.Try.f153 ps rs [] [] a1 = raw k a1 := (p_eq k a1).trans (by rfl)
theorem ent : EnterOk Go.Proofs.Try.prog 153 sig.cap := ⟨Go.Proofs.Try.f153, Go.Proofs.Try.func153, by kernel_rfl, by kernel_rfl, by kernel_rfl⟩
theorem env : EnvOk Go.Proofs.Try.prog E := env_ok (tl := [(2, i64), (108, tMiner), (110, tConnector)]) (gl := [(220, laws_eqMiner.sig)]) rfl rfl (by kernel_rfl) (by kernel_rfl) (fn_cons laws_eqMiner.snd laws_eqMiner.ent (fn_nil _))
theorem chk : funOk Go.Proofs.Try.prog E Go.Proofs.Try.f153 ps rs [] = true := by kernel_rfl
theorem snd : Sound Go.Proofs.Try.prog 153 sig := sound_of_body env Go.Proofs.Try.func153 rfl (es := []) (fr := []) chk (fun _ _ h => lift_some h)
end laws_eqConnector
namespace laws_eqSentResult
/-! loop example g00408 laws eqSentResult -/
abbrev Arg : Type := SentResult × SentResult × Unit
abbrev Out : Type := Bool × Unit
noncomputable def ps : List (PM × Ty) := [(.ro, tSentResult), (.ro, tSentResult)]
noncomputable def rs : List (Ty × Md) := [(.bool, (roMd .bool))]
noncomputable def E : Env := { TI := lookN [(2, i64), (25, (.slc tSent)), (110, tConnector), (112, tSentResult)], G := lookN [(16, laws_eqSentS.sig), (153, laws_eqConnector.sig)], fz := [], lv := [], lx := [], lf := [], od := [] }
noncomputable def sem (a : Arg) : Option Out := lift fun k => bodyK E k Go.Proofs.Try.f69 ps rs [] [] a
noncomputable def sig : Sig := { ps := ps, rs := rs, F := fun a => sem a }
noncomputable def C : Code := bodyOf Go.Proofs.Try.f69
noncomputable def fin : St → Option Out := outK ps rs [] (Func.results Go.Proofs.Try.f69).toList (mvs [])
noncomputable def K0 : Ex → St → Option Out := endK fin
noncomputable def p (a1 : Arg) : Option Out := bif !decide (a1.1.1 = a1.2.1.1) then (some (false, ())) else (laws_eqSentS.sem (a1.1.2.1, a1.2.1.2.1, ())).bind fun r2 => bif !r2.1 then (some (false, ())) else (laws_eqConnector.sem (a1.1.2.2.1, a1.2.1.2.2.1, ())).bind fun r3 => bif !r3.1 then (some (false, ())) else some (true, ())
noncomputable def raw (k : Nat) (a1 : Arg) : Option Out := p a1
theorem p_eq (k : Nat) (a1 : Arg) : bodyK E k Go.Proofs.Try.f69 ps rs [] [] a1 = p a1 := by kernel_rfl
theorem raw_eq (k : Nat) (a1 : Arg) : bodyK E k Go.Proofs.Try.f69 ps rs [] [] a1 = raw k a1 := (p_eq k a1).trans (by rfl)
theorem ent : EnterOk Go.Proofs.Try.prog 69 sig.cap := ⟨Go.Proofs.Try.f69, Go.Proofs.Try.func69, by kernel_rfl, by kernel_rfl, by kernel_rfl⟩
theorem env : EnvOk Go.Proofs.Try.prog E := env_ok (tl := [(2, i64), (25, (.slc tSent)), (110, tConnector), (112, tSentResult)]) (gl := [(16, laws_eqSentS.sig), (153, laws_eqConnector.sig)]) rfl rfl (by kernel_rfl) (by kernel_rfl) (fn_cons laws_eqSentS.snd laws_eqSentS.ent (fn_cons laws_eqConnector.snd laws_eqConnector.ent (fn_nil _)))
theorem chk : funOk Go.Proofs.Try.prog E Go.Proofs.Try.f69 ps rs [] = true := by kernel_rfl
theorem snd : Sound Go.Proofs.Try.prog 69 sig := sound_of_body env Go.Proofs.Try.func69 rfl (es := []) (fr := []) chk (fun _ _ h => lift_some h)
end laws_eqSentResult
namespace laws_markBufferS
/-! loop example g00408 laws markBufferS -/
abbrev Arg : Type := (List Buffer) × Int × Unit
abbrev Out : Type := Int × (List Buffer) × Unit
noncomputable def ps : List (PM × Ty) := [(.muts (ownMd (.slc tBuffer)), (.slc tBuffer)), (.ro, i64)]
noncomputable def rs : List (Ty × Md) := [(i64, (roMd i64))]
noncomputable def E : Env := { TI := lookN [(2, i64), (106, (.slc tBuffer)), (141, (.slc tChange)), (324, tBuffer)], G := lookN [(148, laws_markChangeS.sig)], fz := [], lv := [(2, [0, 1, 5])], lx := [(0, [0, 1])], lf := [], od := [] }
noncomputable def sem (a : Arg) : Option Out := lift fun k => bodyK E k Go.Proofs.Try.f263 ps rs [0] [] a
noncomputable def sig : Sig := { ps := ps, rs := rs, F := fun a => sem a }
noncomputable def C : Code := bodyOf Go.Proofs.Try.f263
noncomputable def fin : St → Option Out := outK ps rs [0] (Func.results Go.Proofs.Try.f263).toList (mvs [])
noncomputable def K0 : Ex → St → Option Out := endK fin
noncomputable def S0 (rec : St → Option Out) (a1 : Arg) : ((List Buffer) × Int × Int) → Option Out := fun v402 => rec ({ n := 27, sl := [(0, .own (.slc tBuffer) (ownMd (.slc tBuffer)) [] v402.1), (1, .val i64 v402.2.1), (5, .val i64 v402.2.2)], vr := [], lent := [(0, 0, true)] })
noncomputable def X0_0 (K : Ex → St → Option Out) (a1 : Arg) : ((List Buffer) × Int) → Option Out := fun z => K (.exit 0) ({ n := 27, sl := [(0, .own (.slc tBuffer) (ownMd (.slc tBuffer)) [] z.1), (1, .val i64 z.2)], vr := [], lent := [(0, 0, true)] })
noncomputable def b0 (self : ((List Buffer) × Int × Int) → Option Out) (e0 : ((List Buffer) × Int) → Option Out) (a1 : Arg) (v402 : (List Buffer) × Int × Int) : Option Out := bif decide (v402.2.2 < (v402.1.length : Int)) then (if 0 ≤ v402.2.2 ∧ v402.2.2 < (v402.1.length : Int) then ((v402.1[v402.2.2.toNat]?).bind fun x603 => let y604 := v402.1.set v402.2.2.toNat (v402.2.1, x603.2); if 0 ≤ v402.2.2 ∧ v402.2.2 < (y604.length : Int) then ((y604[v402.2.2.toNat]?).bind fun x605 => (y604[v402.2.2.toNat]?).bind fun x606 => (y604[v402.2.2.toNat]?).bind fun x607 => (laws_markChangeS.sem (x607.2.1, w64 (v402.2.1 + (1 : Int)), ())).bind fun r608 => (y604[v402.2.2.toNat]?).bind fun x609 => let y610 := y604.set v402.2.2.toNat (x609.1, r608.2.1, x609.2.2); self (y610, r608.1, w64 (v402.2.2 + (1 : Int)))) else none) else none) else e0 (v402.1, v402.2.1)
noncomputable def B0 (k : Nat) (self : ((List Buffer) × Int × Int) → Option Out) (e0 : ((List Buffer) × Int) → Option Out) (a1 : Arg) (v402 : (List Buffer) × Int × Int) : Option Out := b0 self e0 a1 v402
theorem b0_eq (k : Nat) (rec : St → Option Out) (K : Ex → St → Option Out) (a1 : Arg) (v402 : (List Buffer) × Int × Int) : codeK E k fin (sub [1, 0, 1, 0, 0] C) ({ n := 27, sl := [(0, .own (.slc tBuffer) (ownMd (.slc tBuffer)) [] v402.1), (1, .val i64 v402.2.1), (5, .val i64 v402.2.2)], vr := [], lent := [(0, 0, true)] }) (loopC rec (keepF [0, 1, 5] []) K) = b0 (S0 rec a1) (X0_0 K a1) a1 v402 := by kernel_rfl
theorem B0_eq (k : Nat) (rec : St → Option Out) (K : Ex → St → Option Out) (a1 : Arg) (v402 : (List Buffer) × Int × Int) : codeK E k fin (sub [1, 0, 1, 0, 0] C) ({ n := 27, sl := [(0, .own (.slc tBuffer) (ownMd (.slc tBuffer)) [] v402.1), (1, .val i64 v402.2.1), (5, .val i64 v402.2.2)], vr := [], lent := [(0, 0, true)] }) (loopC rec (keepF [0, 1, 5] []) K) = B0 k (S0 rec a1) (X0_0 K a1) a1 v402 := (b0_eq k rec K a1 v402).trans (by rfl)
noncomputable def l0 (k : Nat) (a1 : Arg) (e0 : ((List Buffer) × Int) → Option Out) (v : (List Buffer) × Int × Int) : Option Out := rawIter (fun self v => B0 k self e0 a1 v) k v
theorem l0_eq (k : Nat) (K : Ex → St → Option Out) (a1 : Arg) (v402 : (List Buffer) × Int × Int) : iterK (codeK E k fin (sub [1, 0, 1, 0, 0] C)) (keepF [0, 1, 5] []) K k ({ n := 27, sl := [(0, .own (.slc tBuffer) (ownMd (.slc tBuffer)) [] v402.1), (1, .val i64 v402.2.1), (5, .val i64 v402.2.2)], vr := [], lent := [(0, 0, true)] }) = l0 k a1 (X0_0 K a1) v402 :=
  iter_raw _ _ K (fun v402 => ({ n := 27, sl := [(0, .own (.slc tBuffer) (ownMd (.slc tBuffer)) [] v402.1), (1, .val i64 v402.2.1), (5, .val i64 v402.2.2)], vr := [], lent := [(0, 0, true)] } : St)) (fun self v => B0 k self (X0_0 K a1) a1 v) (fun rec v => B0_eq k rec K a1 v) k v402
noncomputable def q0 (a1 : Arg) (z611 : ((List Buffer) × Int)) : Option Out := some (z611.2, z611.1, ())
noncomputable def Q0 (k : Nat) (a1 : Arg) (z611 : ((List Buffer) × Int)) : Option Out := q0 a1 z611
theorem q0_eq (k : Nat) (a1 : Arg) (z611 : ((List Buffer) × Int)) : (blockC 0 (seqC (codeK E k fin (sub [1, 1] C)) K0)) (.exit 0) ({ n := 27, sl := [(0, .own (.slc tBuffer) (ownMd (.slc tBuffer)) [] z611.1), (1, .val i64 z611.2)], vr := [], lent := [(0, 0, true)] }) = q0 a1 z611 := by kernel_rfl
theorem Q0_eq (k : Nat) (a1 : Arg) (z611 : ((List Buffer) × Int)) : (blockC 0 (seqC (codeK E k fin (sub [1, 1] C)) K0)) (.exit 0) ({ n := 27, sl := [(0, .own (.slc tBuffer) (ownMd (.slc tBuffer)) [] z611.1), (1, .val i64 z611.2)], vr := [], lent := [(0, 0, true)] }) = Q0 k a1 z611 := (q0_eq k a1 z611).trans (by rfl)
noncomputable def s0 (k : Nat) (a1 : Arg) : ((List Buffer) × Int × Int) → Option Out := fun v402 => iterK (codeK E k fin (sub [1, 0, 1, 0, 0] C)) (keepF [0, 1, 5] []) (blockC 0 (seqC (codeK E k fin (sub [1, 1] C)) K0)) k ({ n := 27, sl := [(0, .own (.slc tBuffer) (ownMd (.slc tBuffer)) [] v402.1), (1, .val i64 v402.2.1), (5, .val i64 v402.2.2)], vr := [], lent := [(0, 0, true)] })
noncomputable def r0 (k : Nat) (a1 : Arg) : ((List Buffer) × Int × Int) → Option Out := fun v402 => l0 k a1 (fun z => Q0 k a1 z) v402
theorem s0_eq (k : Nat) (a1 : Arg) : s0 k a1 = r0 k a1 := by
  funext v402;
  have h0 : X0_0 ((blockC 0 (seqC (codeK E k fin (sub [1, 1] C)) K0))) a1 = fun z => Q0 k a1 z := funext fun z => Q0_eq k a1 z
  refine (l0_eq k ((blockC 0 (seqC (codeK E k fin (sub [1, 1] C)) K0))) a1 v402).trans ?_
  rw [h0]
  rfl
noncomputable def p (l0 : ((List Buffer) × Int × Int) → Option Out) (a1 : Arg) : Option Out := l0 (a1.1, a1.2.1, (0 : Int))
noncomputable def raw (k : Nat) (a1 : Arg) : Option Out := p (r0 k a1) a1
theorem p_eq (k : Nat) (a1 : Arg) : bodyK E k Go.Proofs.Try.f263 ps rs [0] [] a1 = p (s0 k a1) a1 := by kernel_rfl
theorem raw_eq (k : Nat) (a1 : Arg) : bodyK E k Go.Proofs.Try.f263 ps rs [0] [] a1 = raw k a1 := (p_eq k a1).trans (by rw [s0_eq]; rfl)
theorem ent : EnterOk Go.Proofs.Try.prog 263 sig.cap := ⟨Go.Proofs.Try.f263, Go.Proofs.Try.func263, by kernel_rfl, by kernel_rfl, by kernel_rfl⟩
theorem env : EnvOk Go.Proofs.Try.prog E := env_ok (tl := [(2, i64), (106, (.slc tBuffer)), (141, (.slc tChange)), (324, tBuffer)]) (gl := [(148, laws_markChangeS.sig)]) rfl rfl (by kernel_rfl) (by kernel_rfl) (fn_cons laws_markChangeS.snd laws_markChangeS.ent (fn_nil _))
theorem chk : funOk Go.Proofs.Try.prog E Go.Proofs.Try.f263 ps rs [0] = true := by kernel_rfl
theorem snd : Sound Go.Proofs.Try.prog 263 sig := sound_of_body env Go.Proofs.Try.func263 rfl (es := [0]) (fr := []) chk (fun _ _ h => lift_some h)
end laws_markBufferS
namespace laws_markMiner
/-! loop example g00408 laws markMiner -/
abbrev Arg : Type := Miner × Int × Unit
abbrev Out : Type := Int × Miner × Unit
noncomputable def ps : List (PM × Ty) := [(.muts (ownMd tMiner), tMiner), (.ro, i64)]
noncomputable def rs : List (Ty × Md) := [(i64, (roMd i64))]
noncomputable def E : Env := { TI := lookN [(38, (.slc (.slc u8))), (106, (.slc tBuffer)), (108, tMiner)], G := lookN [(121, laws_markByteSS.sig), (263, laws_markBufferS.sig)], fz := [], lv := [], lx := [], lf := [], od := [] }
noncomputable def sem (a : Arg) : Option Out := lift fun k => bodyK E k Go.Proofs.Try.f221 ps rs [2] [] a
noncomputable def sig : Sig := { ps := ps, rs := rs, F := fun a => sem a }
noncomputable def C : Code := bodyOf Go.Proofs.Try.f221
noncomputable def fin : St → Option Out := outK ps rs [2] (Func.results Go.Proofs.Try.f221).toList (mvs [])
noncomputable def K0 : Ex → St → Option Out := endK fin
noncomputable def p (a1 : Arg) : Option Out := (laws_markByteSS.sem (a1.1.1, a1.2.1, ())).bind fun r2 => (laws_markBufferS.sem (a1.1.2.1, r2.1, ())).bind fun r3 => some (r3.1, (r2.2.1, r3.2.1, a1.1.2.2), ())
noncomputable def raw (k : Nat) (a1 : Arg) : Option Out := p a1
theorem p_eq (k : Nat) (a1 : Arg) : bodyK E k Go.Proofs.Try.f221 ps rs [2] [] a1 = p a1 := by kernel_rfl
theorem raw_eq (k : Nat) (a1 : Arg) : bodyK E k Go.Proofs.Try.f221 ps rs [2] [] a1 = raw k a1 := (p_eq k a1).trans (by rfl)
theorem ent : EnterOk Go.Proofs.Try.prog 221 sig.cap := ⟨Go.Proofs.Try.f221, Go.Proofs.Try.func221, by kernel_rfl, by kernel_rfl, by kernel_rfl⟩
theorem env : EnvOk Go.Proofs.Try.prog E := env_ok (tl := [(38, (.slc (.slc u8))), (106, (.slc tBuffer)), (108, tMiner)]) (gl := [(121, laws_markByteSS.sig), (263, laws_markBufferS.sig)]) rfl rfl (by kernel_rfl) (by kernel_rfl) (fn_cons laws_markByteSS.snd laws_markByteSS.ent (fn_cons laws_markBufferS.snd laws_markBufferS.ent (fn_nil _)))
theorem chk : funOk Go.Proofs.Try.prog E Go.Proofs.Try.f221 ps rs [2] = true := by kernel_rfl
theorem snd : Sound Go.Proofs.Try.prog 221 sig := sound_of_body env Go.Proofs.Try.func221 rfl (es := [2]) (fr := []) chk (fun _ _ h => lift_some h)
end laws_markMiner
namespace laws_markConnector
/-! loop example g00408 laws markConnector -/
abbrev Arg : Type := Connector × Int × Unit
abbrev Out : Type := Int × Connector × Unit
noncomputable def ps : List (PM × Ty) := [(.muts (ownMd tConnector), tConnector), (.ro, i64)]
noncomputable def rs : List (Ty × Md) := [(i64, (roMd i64))]
noncomputable def E : Env := { TI := lookN [(108, tMiner), (110, tConnector)], G := lookN [(221, laws_markMiner.sig)], fz := [], lv := [], lx := [], lf := [], od := [] }
noncomputable def sem (a : Arg) : Option Out := lift fun k => bodyK E k Go.Proofs.Try.f154 ps rs [2] [] a
noncomputable def sig : Sig := { ps := ps, rs := rs, F := fun a => sem a }
noncomputable def C : Code := bodyOf Go.Proofs.Try.f154
noncomputable def fin : St → Option Out := outK ps rs [2] (Func.results Go.Proofs.Try.f154).toList (mvs [])
noncomputable def K0 : Ex → St → Option Out := endK fin
noncomputable def p (a1 : Arg) : Option Out := (laws_markMiner.sem (a1.1.1, a1.2.1, ())).bind fun r2 => (laws_markMiner.sem (a1.1.2.2.1, r2.1, ())).bind fun r3 => some (r3.1, (r2.2.1, a1.1.2.1, r3.2.1, a1.1.2.2.2), ())
noncomputable def raw (k : Nat) (a1 : Arg) : Option Out := p a1
theorem p_eq (k : Nat) (a1 : Arg) : bodyK E k Go.Proofs.Try.f154 ps rs [2] [] a1 = p a1 := by kernel_rfl
theorem raw_eq (k : Nat) (a1 : Arg) : bodyK E k Go.Proofs.Try.f154 ps rs [2] [] a1 = raw k a1 := (p_eq k a1).trans (by rfl)
theorem ent : EnterOk Go.Proofs.Try.prog 154 sig.cap := ⟨Go.Proofs.Try.f154, Go.Proofs.Try.func154, by kernel_rfl, by kernel_rfl, by kernel_rfl⟩
theorem env : EnvOk Go.Proofs.Try.prog E := env_ok (tl := [(108, tMiner), (110, tConnector)]) (gl := [(221, laws_markMiner.sig)]) rfl rfl (by kernel_rfl) (by kernel_rfl) (fn_cons laws_markMiner.snd laws_markMiner.ent (fn_nil _))
theorem chk : funOk Go.Proofs.Try.prog E Go.Proofs.Try.f154 ps rs [2] = true := by kernel_rfl
theorem snd : Sound Go.Proofs.Try.prog 154 sig := sound_of_body env Go.Proofs.Try.func154 rfl (es := [2]) (fr := []) chk (fun _ _ h => lift_some h)
end laws_markConnector
namespace laws_markSentResult
/-! loop example g00408 laws markSentResult -/
abbrev Arg : Type := SentResult × Int × Unit
abbrev Out : Type := Int × SentResult × Unit
noncomputable def ps : List (PM × Ty) := [(.muts (ownMd tSentResult), tSentResult), (.ro, i64)]
noncomputable def rs : List (Ty × Md) := [(i64, (roMd i64))]
noncomputable def E : Env := { TI := lookN [(25, (.slc tSent)), (110, tConnector), (112, tSentResult)], G := lookN [(64, laws_markSentS.sig), (154, laws_markConnector.sig)], fz := [], lv := [], lx := [], lf := [], od := [] }
noncomputable def sem (a : Arg) : Option Out := lift fun k => bodyK E k Go.Proofs.Try.f70 ps rs [2] [] a
noncomputable def sig : Sig := { ps := ps, rs := rs, F := fun a => sem a }
noncomputable def C : Code := bodyOf Go.Proofs.Try.f70
noncomputable def fin : St → Option Out := outK ps rs [2] (Func.results Go.Proofs.Try.f70).toList (mvs [])
noncomputable def K0 : Ex → St → Option Out := endK fin
noncomputable def p (a1 : Arg) : Option Out := (laws_markSentS.sem (a1.1.2.1, a1.2.1, ())).bind fun r2 => (laws_markConnector.sem (a1.1.2.2.1, r2.1, ())).bind fun r3 => some (r3.1, (a1.1.1, r2.2.1, r3.2.1, a1.1.2.2.2), ())
noncomputable def raw (k : Nat) (a1 : Arg) : Option Out := p a1
theorem p_eq (k : Nat) (a1 : Arg) : bodyK E k Go.Proofs.Try.f70 ps rs [2] [] a1 = p a1 := by kernel_rfl
theorem raw_eq (k : Nat) (a1 : Arg) : bodyK E k Go.Proofs.Try.f70 ps rs [2] [] a1 = raw k a1 := (p_eq k a1).trans (by rfl)
theorem ent : EnterOk Go.Proofs.Try.prog 70 sig.cap := ⟨Go.Proofs.Try.f70, Go.Proofs.Try.func70, by kernel_rfl, by kernel_rfl, by kernel_rfl⟩
theorem env : EnvOk Go.Proofs.Try.prog E := env_ok (tl := [(25, (.slc tSent)), (110, tConnector), (112, tSentResult)]) (gl := [(64, laws_markSentS.sig), (154, laws_markConnector.sig)]) rfl rfl (by kernel_rfl) (by kernel_rfl) (fn_cons laws_markSentS.snd laws_markSentS.ent (fn_cons laws_markConnector.snd laws_markConnector.ent (fn_nil _)))
theorem chk : funOk Go.Proofs.Try.prog E Go.Proofs.Try.f70 ps rs [2] = true := by kernel_rfl
theorem snd : Sound Go.Proofs.Try.prog 70 sig := sound_of_body env Go.Proofs.Try.func70 rfl (es := [2]) (fr := []) chk (fun _ _ h => lift_some h)
end laws_markSentResult
namespace laws_heldSentS
/-! loop example g00408 laws heldSentS -/
abbrev Arg : Type := (List Sent) × Int × Unit
abbrev Out : Type := Int × Unit
noncomputable def ps : List (PM × Ty) := [(.ro, (.slc tSent)), (.ro, i64)]
noncomputable def rs : List (Ty × Md) := [(i64, (roMd i64))]
noncomputable def E : Env := { TI := lookN [(2, i64), (25, (.slc tSent)), (141, (.slc tChange)), (143, tSent)], G := lookN [(222, laws_heldChangeS.sig)], fz := [], lv := [(2, [0, 1, 5])], lx := [(0, [1])], lf := [], od := [] }
noncomputable def sem (a : Arg) : Option Out := lift fun k => bodyK E k Go.Proofs.Try.f155 ps rs [] [] a
noncomputable def sig : Sig := { ps := ps, rs := rs, F := fun a => sem a }
noncomputable def C : Code := bodyOf Go.Proofs.Try.f155
noncomputable def fin : St → Option Out := outK ps rs [] (Func.results Go.Proofs.Try.f155).toList (mvs [])
noncomputable def K0 : Ex → St → Option Out := endK fin
noncomputable def S0 (rec : St → Option Out) (a1 : Arg) : (Int × Int) → Option Out := fun v402 => rec ({ n := 40, sl := [(0, .val (.slc tSent) a1.1), (1, .val i64 v402.1), (5, .val i64 v402.2)], vr := [], lent := [] })
noncomputable def X0_0 (K : Ex → St → Option Out) (a1 : Arg) : Int → Option Out := fun z => K (.exit 0) ({ n := 40, sl := [(1, .val i64 z)], vr := [], lent := [] })
noncomputable def b0 (self : (Int × Int) → Option Out) (e0 : Int → Option Out) (a1 : Arg) (v402 : Int × Int) : Option Out := bif decide (v402.2 < (a1.1.length : Int)) then (if 0 ≤ v402.2 then ((a1.1[v402.2.toNat]?).bind fun x603 => bif !decide (x603.1 = v402.1) then (some ((-1 : Int), ())) else if 0 ≤ v402.2 then ((a1.1[v402.2.toNat]?).bind fun x604 => bif !decide (x604.2.1 = w64 (v402.1 + (1 : Int))) then (some ((-1 : Int), ())) else if 0 ≤ v402.2 then ((a1.1[v402.2.toNat]?).bind fun x605 => (laws_heldChangeS.sem (x605.2.2.1, w64 ((w64 (v402.1 + (1 : Int))) + (1 : Int)), ())).bind fun r606 => bif decide (r606.1 < (0 : Int)) then (some ((-1 : Int), ())) else self (r606.1, w64 (v402.2 + (1 : Int)))) else none) else none) else none) else e0 v402.1
noncomputable def B0 (k : Nat) (self : (Int × Int) → Option Out) (e0 : Int → Option Out) (a1 : Arg) (v402 : Int × Int) : Option Out := b0 self e0 a1 v402
theorem b0_eq (k : Nat) (rec : St → Option Out) (K : Ex → St → Option Out) (a1 : Arg) (v402 : Int × Int) : codeK E k fin (sub [1, 0, 1, 0, 0] C) ({ n := 40, sl := [(0, .val (.slc tSent) a1.1), (1, .val i64 v402.1), (5, .val i64 v402.2)], vr := [], lent := [] }) (loopC rec (keepF [0, 1, 5] []) K) = b0 (S0 rec a1) (X0_0 K a1) a1 v402 := by kernel_rfl
theorem B0_eq (k : Nat) (rec : St → Option Out) (K : Ex → St → Option Out) (a1 : Arg) (v402 : Int × Int) : codeK E k fin (sub [1, 0, 1, 0, 0] C) ({ n := 40, sl := [(0, .val (.slc tSent) a1.1), (1, .val i64 v402.1), (5, .val i64 v402.2)], vr := [], lent := [] }) (loopC rec (keepF [0, 1, 5] []) K) = B0 k (S0 rec a1) (X0_0 K a1) a1 v402 := (b0_eq k rec K a1 v402).trans (by rfl)
noncomputable def l0 (k : Nat) (a1 : Arg) (e0 : Int → Option Out) (v : Int × Int) : Option Out := rawIter (fun self v => B0 k self e0 a1 v) k v
theorem l0_eq (k : Nat) (K : Ex → St → Option Out) (a1 : Arg) (v402 : Int × Int) : iterK (codeK E k fin (sub [1, 0, 1, 0, 0] C)) (keepF [0, 1, 5] []) K k ({ n := 40, sl := [(0, .val (.slc tSent) a1.1), (1, .val i64 v402.1), (5, .val i64 v402.2)], vr := [], lent := [] }) = l0 k a1 (X0_0 K a1) v402 :=
  iter_raw _ _ K (fun v402 => ({ n := 40, sl := [(0, .val (.slc tSent) a1.1), (1, .val i64 v402.1), (5, .val i64 v402.2)], vr := [], lent := [] } : St)) (fun self v => B0 k self (X0_0 K a1) a1 v) (fun rec v => B0_eq k rec K a1 v) k v402
noncomputable def q0 (a1 : Arg) (z607 : Int) : Option Out := some (z607, ())
noncomputable def Q0 (k : Nat) (a1 : Arg) (z607 : Int) : Option Out := q0 a1 z607
theorem q0_eq (k : Nat) (a1 : Arg) (z607 : Int) : (blockC 0 (seqC (codeK E k fin (sub [1, 1] C)) K0)) (.exit 0) ({ n := 40, sl := [(1, .val i64 z607)], vr := [], lent := [] }) = q0 a1 z607 := by kernel_rfl
theorem Q0_eq (k : Nat) (a1 : Arg) (z607 : Int) : (blockC 0 (seqC (codeK E k fin (sub [1, 1] C)) K0)) (.exit 0) ({ n := 40, sl := [(1, .val i64 z607)], vr := [], lent := [] }) = Q0 k a1 z607 := (q0_eq k a1 z607).trans (by rfl)
noncomputable def s0 (k : Nat) (a1 : Arg) : (Int × Int) → Option Out := fun v402 => iterK (codeK E k fin (sub [1, 0, 1, 0, 0] C)) (keepF [0, 1, 5] []) (blockC 0 (seqC (codeK E k fin (sub [1, 1] C)) K0)) k ({ n := 40, sl := [(0, .val (.slc tSent) a1.1), (1, .val i64 v402.1), (5, .val i64 v402.2)], vr := [], lent := [] })
noncomputable def r0 (k : Nat) (a1 : Arg) : (Int × Int) → Option Out := fun v402 => l0 k a1 (fun z => Q0 k a1 z) v402
theorem s0_eq (k : Nat) (a1 : Arg) : s0 k a1 = r0 k a1 := by
  funext v402;
  have h0 : X0_0 ((blockC 0 (seqC (codeK E k fin (sub [1, 1] C)) K0))) a1 = fun z => Q0 k a1 z := funext fun z => Q0_eq k a1 z
  refine (l0_eq k ((blockC 0 (seqC (codeK E k fin (sub [1, 1] C)) K0))) a1 v402).trans ?_
  rw [h0]
  rfl
noncomputable def p (l0 : (Int × Int) → Option Out) (a1 : Arg) : Option Out := l0 (a1.2.1, (0 : Int))
noncomputable def raw (k : Nat) (a1 : Arg) : Option Out := p (r0 k a1) a1
theorem p_eq (k : Nat) (a1 : Arg) : bodyK E k Go.Proofs.Try.f155 ps rs [] [] a1 = p (s0 k a1) a1 := by kernel_rfl
theorem raw_eq (k : Nat) (a1 : Arg) : bodyK E k Go.Proofs.Try.f155 ps rs [] [] a1 = raw k a1 := (p_eq k a1).trans (by rw [s0_eq]; rfl)
theorem ent : EnterOk Go.Proofs.Try.prog 155 sig.cap := ⟨Go.Proofs.Try.f155, Go.Proofs.Try.func155, by kernel_rfl, by kernel_rfl, by kernel_rfl⟩
theorem env : EnvOk Go.Proofs.Try.prog E := env_ok (tl := [(2, i64), (25, (.slc tSent)), (141, (.slc tChange)), (143, tSent)]) (gl := [(222, laws_heldChangeS.sig)]) rfl rfl (by kernel_rfl) (by kernel_rfl) (fn_cons laws_heldChangeS.snd laws_heldChangeS.ent (fn_nil _))
theorem chk : funOk Go.Proofs.Try.prog E Go.Proofs.Try.f155 ps rs [] = true := by kernel_rfl
theorem snd : Sound Go.Proofs.Try.prog 155 sig := sound_of_body env Go.Proofs.Try.func155 rfl (es := []) (fr := []) chk (fun _ _ h => lift_some h)
end laws_heldSentS
namespace laws_heldBufferS
/-! loop example g00408 laws heldBufferS -/
abbrev Arg : Type := (List Buffer) × Int × Unit
abbrev Out : Type := Int × Unit
noncomputable def ps : List (PM × Ty) := [(.ro, (.slc tBuffer)), (.ro, i64)]
noncomputable def rs : List (Ty × Md) := [(i64, (roMd i64))]
noncomputable def E : Env := { TI := lookN [(2, i64), (106, (.slc tBuffer)), (141, (.slc tChange)), (324, tBuffer)], G := lookN [(222, laws_heldChangeS.sig)], fz := [], lv := [(2, [0, 1, 5])], lx := [(0, [1])], lf := [], od := [] }
noncomputable def sem (a : Arg) : Option Out := lift fun k => bodyK E k Go.Proofs.Try.f264 ps rs [] [] a
noncomputable def sig : Sig := { ps := ps, rs := rs, F := fun a => sem a }
noncomputable def C : Code := bodyOf Go.Proofs.Try.f264
noncomputable def fin : St → Option Out := outK ps rs [] (Func.results Go.Proofs.Try.f264).toList (mvs [])
noncomputable def K0 : Ex → St → Option Out := endK fin
noncomputable def S0 (rec : St → Option Out) (a1 : Arg) : (Int × Int) → Option Out := fun v402 => rec ({ n := 31, sl := [(0, .val (.slc tBuffer) a1.1), (1, .val i64 v402.1), (5, .val i64 v402.2)], vr := [], lent := [] })
noncomputable def X0_0 (K : Ex → St → Option Out) (a1 : Arg) : Int → Option Out := fun z => K (.exit 0) ({ n := 31, sl := [(1, .val i64 z)], vr := [], lent := [] })
noncomputable def b0 (self : (Int × Int) → Option Out) (e0 : Int → Option Out) (a1 : Arg) (v402 : Int × Int) : Option Out := bif decide (v402.2 < (a1.1.length : Int)) then (if 0 ≤ v402.2 then ((a1.1[v402.2.toNat]?).bind fun x603 => bif !decide (x603.1 = v402.1) then (some ((-1 : Int), ())) else if 0 ≤ v402.2 then ((a1.1[v402.2.toNat]?).bind fun x604 => (laws_heldChangeS.sem (x604.2.1, w64 (v402.1 + (1 : Int)), ())).bind fun r605 => bif decide (r605.1 < (0 : Int)) then (some ((-1 : Int), ())) else self (r605.1, w64 (v402.2 + (1 : Int)))) else none) else none) else e0 v402.1
noncomputable def B0 (k : Nat) (self : (Int × Int) → Option Out) (e0 : Int → Option Out) (a1 : Arg) (v402 : Int × Int) : Option Out := b0 self e0 a1 v402
theorem b0_eq (k : Nat) (rec : St → Option Out) (K : Ex → St → Option Out) (a1 : Arg) (v402 : Int × Int) : codeK E k fin (sub [1, 0, 1, 0, 0] C) ({ n := 31, sl := [(0, .val (.slc tBuffer) a1.1), (1, .val i64 v402.1), (5, .val i64 v402.2)], vr := [], lent := [] }) (loopC rec (keepF [0, 1, 5] []) K) = b0 (S0 rec a1) (X0_0 K a1) a1 v402 := by kernel_rfl
theorem B0_eq (k : Nat) (rec : St → Option Out) (K : Ex → St → Option Out) (a1 : Arg) (v402 : Int × Int) : codeK E k fin (sub [1, 0, 1, 0, 0] C) ({ n := 31, sl := [(0, .val (.slc tBuffer) a1.1), (1, .val i64 v402.1), (5, .val i64 v402.2)], vr := [], lent := [] }) (loopC rec (keepF [0, 1, 5] []) K) = B0 k (S0 rec a1) (X0_0 K a1) a1 v402 := (b0_eq k rec K a1 v402).trans (by rfl)
noncomputable def l0 (k : Nat) (a1 : Arg) (e0 : Int → Option Out) (v : Int × Int) : Option Out := rawIter (fun self v => B0 k self e0 a1 v) k v
theorem l0_eq (k : Nat) (K : Ex → St → Option Out) (a1 : Arg) (v402 : Int × Int) : iterK (codeK E k fin (sub [1, 0, 1, 0, 0] C)) (keepF [0, 1, 5] []) K k ({ n := 31, sl := [(0, .val (.slc tBuffer) a1.1), (1, .val i64 v402.1), (5, .val i64 v402.2)], vr := [], lent := [] }) = l0 k a1 (X0_0 K a1) v402 :=
  iter_raw _ _ K (fun v402 => ({ n := 31, sl := [(0, .val (.slc tBuffer) a1.1), (1, .val i64 v402.1), (5, .val i64 v402.2)], vr := [], lent := [] } : St)) (fun self v => B0 k self (X0_0 K a1) a1 v) (fun rec v => B0_eq k rec K a1 v) k v402
noncomputable def q0 (a1 : Arg) (z606 : Int) : Option Out := some (z606, ())
noncomputable def Q0 (k : Nat) (a1 : Arg) (z606 : Int) : Option Out := q0 a1 z606
theorem q0_eq (k : Nat) (a1 : Arg) (z606 : Int) : (blockC 0 (seqC (codeK E k fin (sub [1, 1] C)) K0)) (.exit 0) ({ n := 31, sl := [(1, .val i64 z606)], vr := [], lent := [] }) = q0 a1 z606 := by kernel_rfl
theorem Q0_eq (k : Nat) (a1 : Arg) (z606 : Int) : (blockC 0 (seqC (codeK E k fin (sub [1, 1] C)) K0)) (.exit 0) ({ n := 31, sl := [(1, .val i64 z606)], vr := [], lent := [] }) = Q0 k a1 z606 := (q0_eq k a1 z606).trans (by rfl)
noncomputable def s0 (k : Nat) (a1 : Arg) : (Int × Int) → Option Out := fun v402 => iterK (codeK E k fin (sub [1, 0, 1, 0, 0] C)) (keepF [0, 1, 5] []) (blockC 0 (seqC (codeK E k fin (sub [1, 1] C)) K0)) k ({ n := 31, sl := [(0, .val (.slc tBuffer) a1.1), (1, .val i64 v402.1), (5, .val i64 v402.2)], vr := [], lent := [] })
noncomputable def r0 (k : Nat) (a1 : Arg) : (Int × Int) → Option Out := fun v402 => l0 k a1 (fun z => Q0 k a1 z) v402
theorem s0_eq (k : Nat) (a1 : Arg) : s0 k a1 = r0 k a1 := by
  funext v402;
  have h0 : X0_0 ((blockC 0 (seqC (codeK E k fin (sub [1, 1] C)) K0))) a1 = fun z => Q0 k a1 z := funext fun z => Q0_eq k a1 z
  refine (l0_eq k ((blockC 0 (seqC (codeK E k fin (sub [1, 1] C)) K0))) a1 v402).trans ?_
  rw [h0]
  rfl
noncomputable def p (l0 : (Int × Int) → Option Out) (a1 : Arg) : Option Out := l0 (a1.2.1, (0 : Int))
noncomputable def raw (k : Nat) (a1 : Arg) : Option Out := p (r0 k a1) a1
theorem p_eq (k : Nat) (a1 : Arg) : bodyK E k Go.Proofs.Try.f264 ps rs [] [] a1 = p (s0 k a1) a1 := by kernel_rfl
theorem raw_eq (k : Nat) (a1 : Arg) : bodyK E k Go.Proofs.Try.f264 ps rs [] [] a1 = raw k a1 := (p_eq k a1).trans (by rw [s0_eq]; rfl)
theorem ent : EnterOk Go.Proofs.Try.prog 264 sig.cap := ⟨Go.Proofs.Try.f264, Go.Proofs.Try.func264, by kernel_rfl, by kernel_rfl, by kernel_rfl⟩
theorem env : EnvOk Go.Proofs.Try.prog E := env_ok (tl := [(2, i64), (106, (.slc tBuffer)), (141, (.slc tChange)), (324, tBuffer)]) (gl := [(222, laws_heldChangeS.sig)]) rfl rfl (by kernel_rfl) (by kernel_rfl) (fn_cons laws_heldChangeS.snd laws_heldChangeS.ent (fn_nil _))
theorem chk : funOk Go.Proofs.Try.prog E Go.Proofs.Try.f264 ps rs [] = true := by kernel_rfl
theorem snd : Sound Go.Proofs.Try.prog 264 sig := sound_of_body env Go.Proofs.Try.func264 rfl (es := []) (fr := []) chk (fun _ _ h => lift_some h)
end laws_heldBufferS
namespace laws_heldMiner
/-! loop example g00408 laws heldMiner -/
abbrev Arg : Type := Miner × Int × Unit
abbrev Out : Type := Int × Unit
noncomputable def ps : List (PM × Ty) := [(.ro, tMiner), (.ro, i64)]
noncomputable def rs : List (Ty × Md) := [(i64, (roMd i64))]
noncomputable def E : Env := { TI := lookN [(38, (.slc (.slc u8))), (106, (.slc tBuffer)), (108, tMiner)], G := lookN [(123, laws_heldByteSS.sig), (264, laws_heldBufferS.sig)], fz := [], lv := [], lx := [], lf := [], od := [] }
noncomputable def sem (a : Arg) : Option Out := lift fun k => bodyK E k Go.Proofs.Try.f223 ps rs [] [] a
noncomputable def sig : Sig := { ps := ps, rs := rs, F := fun a => sem a }
noncomputable def C : Code := bodyOf Go.Proofs.Try.f223
noncomputable def fin : St → Option Out := outK ps rs [] (Func.results Go.Proofs.Try.f223).toList (mvs [])
noncomputable def K0 : Ex → St → Option Out := endK fin
noncomputable def p (a1 : Arg) : Option Out := (laws_heldByteSS.sem (a1.1.1, a1.2.1, ())).bind fun r2 => bif decide (r2.1 < (0 : Int)) then (some ((-1 : Int), ())) else (laws_heldBufferS.sem (a1.1.2.1, r2.1, ())).bind fun r3 => bif decide (r3.1 < (0 : Int)) then (some ((-1 : Int), ())) else some (r3.1, ())
noncomputable def raw (k : Nat) (a1 : Arg) : Option Out := p a1
theorem p_eq (k : Nat) (a1 : Arg) : bodyK E k Go.Proofs.Try.f223 ps rs [] [] a1 = p a1 := by kernel_rfl
theorem raw_eq (k : Nat) (a1 : Arg) : bodyK E k Go.Proofs.Try.f223 ps rs [] [] a1 = raw k a1 := (p_eq k a1).trans (by rfl)
theorem ent : EnterOk Go.Proofs.Try.prog 223 sig.cap := ⟨Go.Proofs.Try.f223, Go.Proofs.Try.func223, by kernel_rfl, by kernel_rfl, by kernel_rfl⟩
theorem env : EnvOk Go.Proofs.Try.prog E := env_ok (tl := [(38, (.slc (.slc u8))), (106, (.slc tBuffer)), (108, tMiner)]) (gl := [(123, laws_heldByteSS.sig), (264, laws_heldBufferS.sig)]) rfl rfl (by kernel_rfl) (by kernel_rfl) (fn_cons laws_heldByteSS.snd laws_heldByteSS.ent (fn_cons laws_heldBufferS.snd laws_heldBufferS.ent (fn_nil _)))
theorem chk : funOk Go.Proofs.Try.prog E Go.Proofs.Try.f223 ps rs [] = true := by kernel_rfl
theorem snd : Sound Go.Proofs.Try.prog 223 sig := sound_of_body env Go.Proofs.Try.func223 rfl (es := []) (fr := []) chk (fun _ _ h => lift_some h)
end laws_heldMiner
namespace laws_heldConnector
/-! loop example g00408 laws heldConnector -/
abbrev Arg : Type := Connector × Int × Unit
abbrev Out : Type := Int × Unit
noncomputable def ps : List (PM × Ty) := [(.ro, tConnector), (.ro, i64)]
noncomputable def rs : List (Ty × Md) := [(i64, (roMd i64))]
noncomputable def E : Env := { TI := lookN [(108, tMiner), (110, tConnector)], G := lookN [(223, laws_heldMiner.sig)], fz := [], lv := [], lx := [], lf := [], od := [] }
noncomputable def sem (a : Arg) : Option Out := lift fun k => bodyK E k Go.Proofs.Try.f156 ps rs [] [] a
noncomputable def sig : Sig := { ps := ps, rs := rs, F := fun a => sem a }
noncomputable def C : Code := bodyOf Go.Proofs.Try.f156
noncomputable def fin : St → Option Out := outK ps rs [] (Func.results Go.Proofs.Try.f156).toList (mvs [])
noncomputable def K0 : Ex → St → Option Out := endK fin
noncomputable def p (a1 : Arg) : Option Out := (laws_heldMiner.sem (a1.1.1, a1.2.1, ())).bind fun r2 => bif decide (r2.1 < (0 : Int)) then (some ((-1 : Int), ())) else (laws_heldMiner.sem (a1.1.2.2.1, r2.1, ())).bind fun r3 => bif decide (r3.1 < (0 : Int)) then (some ((-1 : Int), ())) else some (r3.1, ())
noncomputable def raw (k : Nat) (a1 : Arg) : Option Out := p a1
theorem p_eq (k : Nat) (a1 : Arg) : bodyK E k Go.Proofs.Try.f156 ps rs [] [] a1 = p a1 := by kernel_rfl
theorem raw_eq (k : Nat) (a1 : Arg) : bodyK E k Go.Proofs.Try.f156 ps rs [] [] a1 = raw k a1 := (p_eq k a1).trans (by rfl)
theorem ent : EnterOk Go.Proofs.Try.prog 156 sig.cap := ⟨Go.Proofs.Try.f156, Go.Proofs.Try.func156, by kernel_rfl, by kernel_rfl, by kernel_rfl⟩
theorem env : EnvOk Go.Proofs.Try.prog E := env_ok (tl := [(108, tMiner), (110, tConnector)]) (gl := [(223, laws_heldMiner.sig)]) rfl rfl (by kernel_rfl) (by kernel_rfl) (fn_cons laws_heldMiner.snd laws_heldMiner.ent (fn_nil _))
theorem chk : funOk Go.Proofs.Try.prog E Go.Proofs.Try.f156 ps rs [] = true := by kernel_rfl
theorem snd : Sound Go.Proofs.Try.prog 156 sig := sound_of_body env Go.Proofs.Try.func156 rfl (es := []) (fr := []) chk (fun _ _ h => lift_some h)
end laws_heldConnector
namespace laws_heldSentResult
/-! loop example g00408 laws heldSentResult -/
abbrev Arg : Type := SentResult × Int × Unit
abbrev Out : Type := Int × Unit
noncomputable def ps : List (PM × Ty) := [(.ro, tSentResult), (.ro, i64)]
noncomputable def rs : List (Ty × Md) := [(i64, (roMd i64))]
noncomputable def E : Env := { TI := lookN [(25, (.slc tSent)), (110, tConnector), (112, tSentResult)], G := lookN [(155, laws_heldSentS.sig), (156, laws_heldConnector.sig)], fz := [], lv := [], lx := [], lf := [], od := [] }
noncomputable def sem (a : Arg) : Option Out := lift fun k => bodyK E k Go.Proofs.Try.f71 ps rs [] [] a
noncomputable def sig : Sig := { ps := ps, rs := rs, F := fun a => sem a }
noncomputable def C : Code := bodyOf Go.Proofs.Try.f71
noncomputable def fin : St → Option Out := outK ps rs [] (Func.results Go.Proofs.Try.f71).toList (mvs [])
noncomputable def K0 : Ex → St → Option Out := endK fin
noncomputable def p (a1 : Arg) : Option Out := (laws_heldSentS.sem (a1.1.2.1, a1.2.1, ())).bind fun r2 => bif decide (r2.1 < (0 : Int)) then (some ((-1 : Int), ())) else (laws_heldConnector.sem (a1.1.2.2.1, r2.1, ())).bind fun r3 => bif decide (r3.1 < (0 : Int)) then (some ((-1 : Int), ())) else some (r3.1, ())
noncomputable def raw (k : Nat) (a1 : Arg) : Option Out := p a1
theorem p_eq (k : Nat) (a1 : Arg) : bodyK E k Go.Proofs.Try.f71 ps rs [] [] a1 = p a1 := by kernel_rfl
theorem raw_eq (k : Nat) (a1 : Arg) : bodyK E k Go.Proofs.Try.f71 ps rs [] [] a1 = raw k a1 := (p_eq k a1).trans (by rfl)
theorem ent : EnterOk Go.Proofs.Try.prog 71 sig.cap := ⟨Go.Proofs.Try.f71, Go.Proofs.Try.func71, by kernel_rfl, by kernel_rfl, by kernel_rfl⟩
theorem env : EnvOk Go.Proofs.Try.prog E := env_ok (tl := [(25, (.slc tSent)), (110, tConnector), (112, tSentResult)]) (gl := [(155, laws_heldSentS.sig), (156, laws_heldConnector.sig)]) rfl rfl (by kernel_rfl) (by kernel_rfl) (fn_cons laws_heldSentS.snd laws_heldSentS.ent (fn_cons laws_heldConnector.snd laws_heldConnector.ent (fn_nil _)))
theorem chk : funOk Go.Proofs.Try.prog E Go.Proofs.Try.f71 ps rs [] = true := by kernel_rfl
theorem snd : Sound Go.Proofs.Try.prog 71 sig := sound_of_body env Go.Proofs.Try.func71 rfl (es := []) (fr := []) chk (fun _ _ h => lift_some h)
end laws_heldSentResult
namespace laws_FnExactOnceOnly
/-! loop example g00408 laws FnExactOnceOnly -/
abbrev Arg : Type := (List Sent) × Unit
abbrev Out : Type := Bool × Unit
noncomputable def ps : List (PM × Ty) := [(.ro, (.slc tSent))]
noncomputable def rs : List (Ty × Md) := [(.bool, (roMd .bool))]
noncomputable def E : Env := { TI := lookN [(112, tSentResult)], G := lookN [(12, laws_szSentS.sig), (14, laws_toSentS.sig), (16, laws_eqSentS.sig), (64, laws_markSentS.sig), (67, spec_OnceOnly.sig), (68, impl_OnceOnly.sig), (69, laws_eqSentResult.sig), (70, laws_markSentResult.sig), (71, laws_heldSentResult.sig)], fz := [], lv := [], lx := [], lf := [], od := [] }
noncomputable def sem (a : Arg) : Option Out := lift fun k => bodyK E k Go.Proofs.Try.f10 ps rs [] [] a
noncomputable def sig : Sig := { ps := ps, rs := rs, F := fun a => sem a }
noncomputable def C : Code := bodyOf Go.Proofs.Try.f10
noncomputable def fin : St → Option Out := outK ps rs [] (Func.results Go.Proofs.Try.f10).toList (mvs [])
noncomputable def K0 : Ex → St → Option Out := endK fin
noncomputable def p (a1 : Arg) : Option Out := (laws_szSentS.sem (a1.1, (1048576 : Int), ())).bind fun r2 => bif decide (r2.1 < (0 : Int)) then (some (true, ())) else (laws_toSentS.sem (a1.1, ())).bind fun r3 => (spec_OnceOnly.sem (r3.1, ())).bind fun r4 => (laws_toSentS.sem (a1.1, ())).bind fun r5 => (impl_OnceOnly.sem (r5.1, ())).bind fun r6 => (laws_eqSentResult.sem (r6.1, r4.1, ())).bind fun r7 => bif !r7.1 then (some (false, ())) else (laws_toSentS.sem (a1.1, ())).bind fun r8 => (laws_eqSentS.sem (r5.1, r8.1, ())).bind fun r9 => bif !r9.1 then (some (false, ())) else (laws_markSentS.sem (r5.1, (1 : Int), ())).bind fun r10 => bif decide (r10.1 < (0 : Int)) then (some (false, ())) else (laws_eqSentResult.sem (r6.1, r4.1, ())).bind fun r11 => bif !r11.1 then (some (false, ())) else (laws_markSentResult.sem (r6.1, (1 : Int), ())).bind fun r12 => (laws_heldSentResult.sem (r12.2.1, (1 : Int), ())).bind fun r13 => bif decide (r13.1 < (0 : Int)) then (some (false, ())) else bif !decide (r13.1 = r12.1) then (some (false, ())) else (laws_toSentS.sem (a1.1, ())).bind fun r14 => (impl_OnceOnly.sem (r14.1, ())).bind fun r15 => (laws_eqSentResult.sem (r15.1, r4.1, ())).bind fun r16 => bif !r16.1 then (some (false, ())) else (laws_heldSentResult.sem (r12.2.1, (1 : Int), ())).bind fun r17 => bif decide (r17.1 < (0 : Int)) then (some (false, ())) else bif !decide (r17.1 = r12.1) then (some (false, ())) else some (true, ())
noncomputable def raw (k : Nat) (a1 : Arg) : Option Out := p a1
theorem p_eq (k : Nat) (a1 : Arg) : bodyK E k Go.Proofs.Try.f10 ps rs [] [] a1 = p a1 := by kernel_rfl
theorem raw_eq (k : Nat) (a1 : Arg) : bodyK E k Go.Proofs.Try.f10 ps rs [] [] a1 = raw k a1 := (p_eq k a1).trans (by rfl)
theorem ent : EnterOk Go.Proofs.Try.prog 10 sig.cap := ⟨Go.Proofs.Try.f10, Go.Proofs.Try.func10, by kernel_rfl, by kernel_rfl, by kernel_rfl⟩
theorem env : EnvOk Go.Proofs.Try.prog E := env_ok (tl := [(112, tSentResult)]) (gl := [(12, laws_szSentS.sig), (14, laws_toSentS.sig), (16, laws_eqSentS.sig), (64, laws_markSentS.sig), (67, spec_OnceOnly.sig), (68, impl_OnceOnly.sig), (69, laws_eqSentResult.sig), (70, laws_markSentResult.sig), (71, laws_heldSentResult.sig)]) rfl rfl (by kernel_rfl) (by kernel_rfl) (fn_cons laws_szSentS.snd laws_szSentS.ent (fn_cons laws_toSentS.snd laws_toSentS.ent (fn_cons laws_eqSentS.snd laws_eqSentS.ent (fn_cons laws_markSentS.snd laws_markSentS.ent (fn_cons spec_OnceOnly.snd spec_OnceOnly.ent (fn_cons impl_OnceOnly.snd impl_OnceOnly.ent (fn_cons laws_eqSentResult.snd laws_eqSentResult.ent (fn_cons laws_markSentResult.snd laws_markSentResult.ent (fn_cons laws_heldSentResult.snd laws_heldSentResult.ent (fn_nil _))))))))))
theorem chk : funOk Go.Proofs.Try.prog E Go.Proofs.Try.f10 ps rs [] = true := by kernel_rfl
theorem snd : Sound Go.Proofs.Try.prog 10 sig := sound_of_body env Go.Proofs.Try.func10 rfl (es := []) (fr := []) chk (fun _ _ h => lift_some h)
end laws_FnExactOnceOnly
end OT
