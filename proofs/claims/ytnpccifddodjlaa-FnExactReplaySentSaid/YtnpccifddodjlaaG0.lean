/- Printed by gen.py, a program of this claim: what each Go function computes. -/
import Derived.Test.YtnpccifddodjlaaOUk
import Derived.Test.YtnpccifddodjlaaProg
import Derived.KernelRfl
set_option maxRecDepth 100000
set_option linter.unusedVariables false
namespace OT
open Go
abbrev Row : Type := (Int × Int × Int × (List UInt8) × Unit)
abbrev tRow : Ty := (tupT [i64, i64, i64, .str])
abbrev Change : Type := (Bool × Row × Bool × Row × Unit)
abbrev tChange : Ty := (tupT [.bool, tRow, .bool, tRow])
abbrev Sent : Type := (Int × Int × (List Change) × Unit)
abbrev tSent : Ty := (tupT [i64, i64, (.slc tChange)])
abbrev Key : Type := (Int × Int × Unit)
abbrev tKey : Ty := (tupT [i64, i64])
abbrev Tx : Type := (Int × (List Change) × (List Int) × (List Key) × Unit)
abbrev tTx : Ty := (tupT [i64, (.slc tChange), (.slc i64), (.slc tKey)])
abbrev Plain : Type := ((List Row) × (List Tx) × Int × Unit)
abbrev tPlain : Ty := (tupT [(.slc tRow), (.slc tTx), i64])
abbrev PlainResult : Type := (Int × Int × Plain × Unit)
abbrev tPlainResult : Ty := (tupT [i64, i64, tPlain])
abbrev Log : Type := ((List UInt8) × (List UInt8) × Unit)
abbrev tLog : Ty := (tupT [(.slc u8), (.slc u8)])
abbrev Store : Type := (Bool × (List (List UInt8)) × Log × (List Tx) × Int × Unit)
abbrev tStore : Ty := (tupT [.bool, (.slc (.slc u8)), tLog, (.slc tTx), i64])
abbrev StoreResult : Type := (Int × Int × Store × Unit)
abbrev tStoreResult : Ty := (tupT [i64, i64, tStore])
abbrev Run : Type := (Int × (List UInt8) × Unit)
abbrev tRun : Ty := (tupT [i64, (.slc u8)])
abbrev Record : Type := (Int × Int × Int × (List Run) × Unit)
abbrev tRecord : Ty := (tupT [i64, i64, i64, (.slc tRun)])
abbrev RecordResult : Type := (Int × Int × Record × Unit)
abbrev tRecordResult : Ty := (tupT [i64, i64, tRecord])
abbrev LogResult : Type := (Int × Log × Unit)
abbrev tLogResult : Ty := (tupT [i64, tLog])
abbrev EditsResult : Type := (Int × (List Run) × (List (List UInt8)) × Unit)
abbrev tEditsResult : Ty := (tupT [i64, (.slc tRun), (.slc (.slc u8))])
abbrev L1Src : Type := ((List UInt8) × Int × Unit)
abbrev tL1Src : Ty := (tupT [(.slc u8), i64])
abbrev RecordsResult : Type := (Int × Int × (List Record) × Unit)
abbrev tRecordsResult : Ty := (tupT [i64, i64, (.slc tRecord)])
abbrev RowsResult : Type := (Int × (List Row) × Unit)
abbrev tRowsResult : Ty := (tupT [i64, (.slc tRow)])
abbrev Buffer : Type := (Int × (List Change) × Unit)
abbrev tBuffer : Ty := (tupT [i64, (.slc tChange)])
abbrev Miner : Type := ((List (List UInt8)) × (List Buffer) × Unit)
abbrev tMiner : Ty := (tupT [(.slc (.slc u8)), (.slc tBuffer)])
abbrev Connector : Type := (Miner × Int × Miner × Int × Unit)
abbrev tConnector : Ty := (tupT [tMiner, i64, tMiner, i64])
abbrev SentResult : Type := (Int × (List Sent) × Connector × Unit)
abbrev tSentResult : Ty := (tupT [i64, (.slc tSent), tConnector])
abbrev TxsResult : Type := (Int × (List Tx) × Unit)
abbrev tTxsResult : Ty := (tupT [i64, (.slc tTx)])
namespace laws_szRow
/-! loop example g00408 laws szRow -/
abbrev Arg : Type := Row × Int × Unit
abbrev Out : Type := Int × Unit
noncomputable def ps : List (PM × Ty) := [(.ro, tRow), (.ro, i64)]
noncomputable def rs : List (Ty × Md) := [(i64, (roMd i64))]
noncomputable def E : Env := { TI := lookN [(9, .str), (119, tRow)], G := lookN [], fz := [], lv := [], lx := [], lf := [], od := [] }
noncomputable def sem (a : Arg) : Option Out := lift fun k => bodyK E k Go.Proofs.Try.f137 ps rs [] [] a
noncomputable def sig : Sig := { ps := ps, rs := rs, F := fun a => sem a }
noncomputable def C : Code := bodyOf Go.Proofs.Try.f137
noncomputable def fin : St → Option Out := outK ps rs [] (Func.results Go.Proofs.Try.f137).toList (mvs [])
noncomputable def K0 : Ex → St → Option Out := endK fin
noncomputable def p (a1 : Arg) : Option Out := bif decide (w64 (a1.2.1 - (a1.1.2.2.2.1.length : Int)) < (0 : Int)) then (some ((-1 : Int), ())) else some (w64 (a1.2.1 - (a1.1.2.2.2.1.length : Int)), ())
noncomputable def raw (k : Nat) (a1 : Arg) : Option Out := p a1
theorem p_eq (k : Nat) (a1 : Arg) : bodyK E k Go.Proofs.Try.f137 ps rs [] [] a1 = p a1 := by kernel_rfl
theorem raw_eq (k : Nat) (a1 : Arg) : bodyK E k Go.Proofs.Try.f137 ps rs [] [] a1 = raw k a1 := (p_eq k a1).trans (by rfl)
theorem ent : EnterOk Go.Proofs.Try.prog 137 sig.cap := ⟨Go.Proofs.Try.f137, Go.Proofs.Try.func137, by kernel_rfl, by kernel_rfl, by kernel_rfl⟩
theorem env : EnvOk Go.Proofs.Try.prog E := env_ok (tl := [(9, .str), (119, tRow)]) (gl := []) rfl rfl (by kernel_rfl) (by kernel_rfl) (fn_nil _)
theorem chk : funOk Go.Proofs.Try.prog E Go.Proofs.Try.f137 ps rs [] = true := by kernel_rfl
theorem snd : Sound Go.Proofs.Try.prog 137 sig := sound_of_body env Go.Proofs.Try.func137 rfl (es := []) (fr := []) chk (fun _ _ h => lift_some h)
end laws_szRow
namespace laws_szChange
/-! loop example g00408 laws szChange -/
abbrev Arg : Type := Change × Int × Unit
abbrev Out : Type := Int × Unit
noncomputable def ps : List (PM × Ty) := [(.ro, tChange), (.ro, i64)]
noncomputable def rs : List (Ty × Md) := [(i64, (roMd i64))]
noncomputable def E : Env := { TI := lookN [(119, tRow), (121, tChange)], G := lookN [(137, laws_szRow.sig)], fz := [], lv := [], lx := [], lf := [], od := [] }
noncomputable def sem (a : Arg) : Option Out := lift fun k => bodyK E k Go.Proofs.Try.f73 ps rs [] [] a
noncomputable def sig : Sig := { ps := ps, rs := rs, F := fun a => sem a }
noncomputable def C : Code := bodyOf Go.Proofs.Try.f73
noncomputable def fin : St → Option Out := outK ps rs [] (Func.results Go.Proofs.Try.f73).toList (mvs [])
noncomputable def K0 : Ex → St → Option Out := endK fin
noncomputable def p (a1 : Arg) : Option Out := (laws_szRow.sem (a1.1.2.1, a1.2.1, ())).bind fun r2 => bif decide (r2.1 < (0 : Int)) then (some ((-1 : Int), ())) else (laws_szRow.sem (a1.1.2.2.2.1, r2.1, ())).bind fun r3 => bif decide (r3.1 < (0 : Int)) then (some ((-1 : Int), ())) else some (r3.1, ())
noncomputable def raw (k : Nat) (a1 : Arg) : Option Out := p a1
theorem p_eq (k : Nat) (a1 : Arg) : bodyK E k Go.Proofs.Try.f73 ps rs [] [] a1 = p a1 := by kernel_rfl
theorem raw_eq (k : Nat) (a1 : Arg) : bodyK E k Go.Proofs.Try.f73 ps rs [] [] a1 = raw k a1 := (p_eq k a1).trans (by rfl)
theorem ent : EnterOk Go.Proofs.Try.prog 73 sig.cap := ⟨Go.Proofs.Try.f73, Go.Proofs.Try.func73, by kernel_rfl, by kernel_rfl, by kernel_rfl⟩
theorem env : EnvOk Go.Proofs.Try.prog E := env_ok (tl := [(119, tRow), (121, tChange)]) (gl := [(137, laws_szRow.sig)]) rfl rfl (by kernel_rfl) (by kernel_rfl) (fn_cons laws_szRow.snd laws_szRow.ent (fn_nil _))
theorem chk : funOk Go.Proofs.Try.prog E Go.Proofs.Try.f73 ps rs [] = true := by kernel_rfl
theorem snd : Sound Go.Proofs.Try.prog 73 sig := sound_of_body env Go.Proofs.Try.func73 rfl (es := []) (fr := []) chk (fun _ _ h => lift_some h)
end laws_szChange
namespace laws_szChangeS
/-! loop example g00408 laws szChangeS -/
abbrev Arg : Type := (List Change) × Int × Unit
abbrev Out : Type := Int × Unit
noncomputable def ps : List (PM × Ty) := [(.ro, (.slc tChange)), (.ro, i64)]
noncomputable def rs : List (Ty × Md) := [(i64, (roMd i64))]
noncomputable def E : Env := { TI := lookN [(121, tChange), (138, (.slc tChange))], G := lookN [(73, laws_szChange.sig)], fz := [], lv := [(5, [0, 1, 5])], lx := [(0, [1])], lf := [], od := [] }
noncomputable def sem (a : Arg) : Option Out := lift fun k => bodyK E k Go.Proofs.Try.f178 ps rs [] [] a
noncomputable def sig : Sig := { ps := ps, rs := rs, F := fun a => sem a }
noncomputable def C : Code := bodyOf Go.Proofs.Try.f178
noncomputable def fin : St → Option Out := outK ps rs [] (Func.results Go.Proofs.Try.f178).toList (mvs [])
noncomputable def K0 : Ex → St → Option Out := endK fin
noncomputable def S0 (rec : St → Option Out) (a1 : Arg) : (Int × Int) → Option Out := fun v402 => rec ({ n := 27, sl := [(0, .val (.slc tChange) a1.1), (1, .val i64 v402.1), (5, .val i64 v402.2)], vr := [], lent := [] })
noncomputable def X0_0 (K : Ex → St → Option Out) (a1 : Arg) : Int → Option Out := fun z => K (.exit 0) ({ n := 27, sl := [(1, .val i64 z)], vr := [], lent := [] })
noncomputable def b0 (self : (Int × Int) → Option Out) (e0 : Int → Option Out) (a1 : Arg) (v402 : Int × Int) : Option Out := bif decide (v402.2 < (a1.1.length : Int)) then (if 0 ≤ v402.2 then ((a1.1[v402.2.toNat]?).bind fun x603 => (laws_szChange.sem (x603, v402.1, ())).bind fun r604 => bif decide (r604.1 < (0 : Int)) then (some ((-1 : Int), ())) else self (r604.1, w64 (v402.2 + (1 : Int)))) else none) else e0 v402.1
noncomputable def B0 (k : Nat) (self : (Int × Int) → Option Out) (e0 : Int → Option Out) (a1 : Arg) (v402 : Int × Int) : Option Out := b0 self e0 a1 v402
theorem b0_eq (k : Nat) (rec : St → Option Out) (K : Ex → St → Option Out) (a1 : Arg) (v402 : Int × Int) : codeK E k fin (sub [1, 1, 1, 0, 1, 0, 0] C) ({ n := 27, sl := [(0, .val (.slc tChange) a1.1), (1, .val i64 v402.1), (5, .val i64 v402.2)], vr := [], lent := [] }) (loopC rec (keepF [0, 1, 5] []) K) = b0 (S0 rec a1) (X0_0 K a1) a1 v402 := by kernel_rfl
theorem B0_eq (k : Nat) (rec : St → Option Out) (K : Ex → St → Option Out) (a1 : Arg) (v402 : Int × Int) : codeK E k fin (sub [1, 1, 1, 0, 1, 0, 0] C) ({ n := 27, sl := [(0, .val (.slc tChange) a1.1), (1, .val i64 v402.1), (5, .val i64 v402.2)], vr := [], lent := [] }) (loopC rec (keepF [0, 1, 5] []) K) = B0 k (S0 rec a1) (X0_0 K a1) a1 v402 := (b0_eq k rec K a1 v402).trans (by rfl)
noncomputable def l0 (k : Nat) (a1 : Arg) (e0 : Int → Option Out) (v : Int × Int) : Option Out := rawIter (fun self v => B0 k self e0 a1 v) k v
theorem l0_eq (k : Nat) (K : Ex → St → Option Out) (a1 : Arg) (v402 : Int × Int) : iterK (codeK E k fin (sub [1, 1, 1, 0, 1, 0, 0] C)) (keepF [0, 1, 5] []) K k ({ n := 27, sl := [(0, .val (.slc tChange) a1.1), (1, .val i64 v402.1), (5, .val i64 v402.2)], vr := [], lent := [] }) = l0 k a1 (X0_0 K a1) v402 :=
  iter_raw _ _ K (fun v402 => ({ n := 27, sl := [(0, .val (.slc tChange) a1.1), (1, .val i64 v402.1), (5, .val i64 v402.2)], vr := [], lent := [] } : St)) (fun self v => B0 k self (X0_0 K a1) a1 v) (fun rec v => B0_eq k rec K a1 v) k v402
noncomputable def q0 (a1 : Arg) (z605 : Int) : Option Out := some (z605, ())
noncomputable def Q0 (k : Nat) (a1 : Arg) (z605 : Int) : Option Out := q0 a1 z605
theorem q0_eq (k : Nat) (a1 : Arg) (z605 : Int) : (blockC 0 (seqC (codeK E k fin (sub [1, 1, 1, 1] C)) K0)) (.exit 0) ({ n := 27, sl := [(1, .val i64 z605)], vr := [], lent := [] }) = q0 a1 z605 := by kernel_rfl
theorem Q0_eq (k : Nat) (a1 : Arg) (z605 : Int) : (blockC 0 (seqC (codeK E k fin (sub [1, 1, 1, 1] C)) K0)) (.exit 0) ({ n := 27, sl := [(1, .val i64 z605)], vr := [], lent := [] }) = Q0 k a1 z605 := (q0_eq k a1 z605).trans (by rfl)
noncomputable def s0 (k : Nat) (a1 : Arg) : (Int × Int) → Option Out := fun v402 => iterK (codeK E k fin (sub [1, 1, 1, 0, 1, 0, 0] C)) (keepF [0, 1, 5] []) (blockC 0 (seqC (codeK E k fin (sub [1, 1, 1, 1] C)) K0)) k ({ n := 27, sl := [(0, .val (.slc tChange) a1.1), (1, .val i64 v402.1), (5, .val i64 v402.2)], vr := [], lent := [] })
noncomputable def r0 (k : Nat) (a1 : Arg) : (Int × Int) → Option Out := fun v402 => l0 k a1 (fun z => Q0 k a1 z) v402
theorem s0_eq (k : Nat) (a1 : Arg) : s0 k a1 = r0 k a1 := by
  funext v402;
  have h0 : X0_0 ((blockC 0 (seqC (codeK E k fin (sub [1, 1, 1, 1] C)) K0))) a1 = fun z => Q0 k a1 z := funext fun z => Q0_eq k a1 z
  refine (l0_eq k ((blockC 0 (seqC (codeK E k fin (sub [1, 1, 1, 1] C)) K0))) a1 v402).trans ?_
  rw [h0]
  rfl
noncomputable def p (l0 : (Int × Int) → Option Out) (a1 : Arg) : Option Out := bif decide (w64 (a1.2.1 - (a1.1.length : Int)) < (0 : Int)) then (some ((-1 : Int), ())) else l0 (w64 (a1.2.1 - (a1.1.length : Int)), (0 : Int))
noncomputable def raw (k : Nat) (a1 : Arg) : Option Out := p (r0 k a1) a1
theorem p_eq (k : Nat) (a1 : Arg) : bodyK E k Go.Proofs.Try.f178 ps rs [] [] a1 = p (s0 k a1) a1 := by kernel_rfl
theorem raw_eq (k : Nat) (a1 : Arg) : bodyK E k Go.Proofs.Try.f178 ps rs [] [] a1 = raw k a1 := (p_eq k a1).trans (by rw [s0_eq]; rfl)
theorem ent : EnterOk Go.Proofs.Try.prog 178 sig.cap := ⟨Go.Proofs.Try.f178, Go.Proofs.Try.func178, by kernel_rfl, by kernel_rfl, by kernel_rfl⟩
theorem env : EnvOk Go.Proofs.Try.prog E := env_ok (tl := [(121, tChange), (138, (.slc tChange))]) (gl := [(73, laws_szChange.sig)]) rfl rfl (by kernel_rfl) (by kernel_rfl) (fn_cons laws_szChange.snd laws_szChange.ent (fn_nil _))
theorem chk : funOk Go.Proofs.Try.prog E Go.Proofs.Try.f178 ps rs [] = true := by kernel_rfl
theorem snd : Sound Go.Proofs.Try.prog 178 sig := sound_of_body env Go.Proofs.Try.func178 rfl (es := []) (fr := []) chk (fun _ _ h => lift_some h)
end laws_szChangeS
namespace laws_szSent
/-! loop example g00408 laws szSent -/
abbrev Arg : Type := Sent × Int × Unit
abbrev Out : Type := Int × Unit
noncomputable def ps : List (PM × Ty) := [(.ro, tSent), (.ro, i64)]
noncomputable def rs : List (Ty × Md) := [(i64, (roMd i64))]
noncomputable def E : Env := { TI := lookN [(138, (.slc tChange)), (140, tSent)], G := lookN [(178, laws_szChangeS.sig)], fz := [], lv := [], lx := [], lf := [], od := [] }
noncomputable def sem (a : Arg) : Option Out := lift fun k => bodyK E k Go.Proofs.Try.f83 ps rs [] [] a
noncomputable def sig : Sig := { ps := ps, rs := rs, F := fun a => sem a }
noncomputable def C : Code := bodyOf Go.Proofs.Try.f83
noncomputable def fin : St → Option Out := outK ps rs [] (Func.results Go.Proofs.Try.f83).toList (mvs [])
noncomputable def K0 : Ex → St → Option Out := endK fin
noncomputable def p (a1 : Arg) : Option Out := (laws_szChangeS.sem (a1.1.2.2.1, a1.2.1, ())).bind fun r2 => bif decide (r2.1 < (0 : Int)) then (some ((-1 : Int), ())) else some (r2.1, ())
noncomputable def raw (k : Nat) (a1 : Arg) : Option Out := p a1
theorem p_eq (k : Nat) (a1 : Arg) : bodyK E k Go.Proofs.Try.f83 ps rs [] [] a1 = p a1 := by kernel_rfl
theorem raw_eq (k : Nat) (a1 : Arg) : bodyK E k Go.Proofs.Try.f83 ps rs [] [] a1 = raw k a1 := (p_eq k a1).trans (by rfl)
theorem ent : EnterOk Go.Proofs.Try.prog 83 sig.cap := ⟨Go.Proofs.Try.f83, Go.Proofs.Try.func83, by kernel_rfl, by kernel_rfl, by kernel_rfl⟩
theorem env : EnvOk Go.Proofs.Try.prog E := env_ok (tl := [(138, (.slc tChange)), (140, tSent)]) (gl := [(178, laws_szChangeS.sig)]) rfl rfl (by kernel_rfl) (by kernel_rfl) (fn_cons laws_szChangeS.snd laws_szChangeS.ent (fn_nil _))
theorem chk : funOk Go.Proofs.Try.prog E Go.Proofs.Try.f83 ps rs [] = true := by kernel_rfl
theorem snd : Sound Go.Proofs.Try.prog 83 sig := sound_of_body env Go.Proofs.Try.func83 rfl (es := []) (fr := []) chk (fun _ _ h => lift_some h)
end laws_szSent
namespace laws_szSentS
/-! loop example g00408 laws szSentS -/
abbrev Arg : Type := (List Sent) × Int × Unit
abbrev Out : Type := Int × Unit
noncomputable def ps : List (PM × Ty) := [(.ro, (.slc tSent)), (.ro, i64)]
noncomputable def rs : List (Ty × Md) := [(i64, (roMd i64))]
noncomputable def E : Env := { TI := lookN [(22, (.slc tSent)), (140, tSent)], G := lookN [(83, laws_szSent.sig)], fz := [], lv := [(5, [0, 1, 5])], lx := [(0, [1])], lf := [], od := [] }
noncomputable def sem (a : Arg) : Option Out := lift fun k => bodyK E k Go.Proofs.Try.f12 ps rs [] [] a
noncomputable def sig : Sig := { ps := ps, rs := rs, F := fun a => sem a }
noncomputable def C : Code := bodyOf Go.Proofs.Try.f12
noncomputable def fin : St → Option Out := outK ps rs [] (Func.results Go.Proofs.Try.f12).toList (mvs [])
noncomputable def K0 : Ex → St → Option Out := endK fin
noncomputable def S0 (rec : St → Option Out) (a1 : Arg) : (Int × Int) → Option Out := fun v402 => rec ({ n := 27, sl := [(0, .val (.slc tSent) a1.1), (1, .val i64 v402.1), (5, .val i64 v402.2)], vr := [], lent := [] })
noncomputable def X0_0 (K : Ex → St → Option Out) (a1 : Arg) : Int → Option Out := fun z => K (.exit 0) ({ n := 27, sl := [(1, .val i64 z)], vr := [], lent := [] })
noncomputable def b0 (self : (Int × Int) → Option Out) (e0 : Int → Option Out) (a1 : Arg) (v402 : Int × Int) : Option Out := bif decide (v402.2 < (a1.1.length : Int)) then (if 0 ≤ v402.2 then ((a1.1[v402.2.toNat]?).bind fun x603 => (laws_szSent.sem (x603, v402.1, ())).bind fun r604 => bif decide (r604.1 < (0 : Int)) then (some ((-1 : Int), ())) else self (r604.1, w64 (v402.2 + (1 : Int)))) else none) else e0 v402.1
noncomputable def B0 (k : Nat) (self : (Int × Int) → Option Out) (e0 : Int → Option Out) (a1 : Arg) (v402 : Int × Int) : Option Out := b0 self e0 a1 v402
theorem b0_eq (k : Nat) (rec : St → Option Out) (K : Ex → St → Option Out) (a1 : Arg) (v402 : Int × Int) : codeK E k fin (sub [1, 1, 1, 0, 1, 0, 0] C) ({ n := 27, sl := [(0, .val (.slc tSent) a1.1), (1, .val i64 v402.1), (5, .val i64 v402.2)], vr := [], lent := [] }) (loopC rec (keepF [0, 1, 5] []) K) = b0 (S0 rec a1) (X0_0 K a1) a1 v402 := by kernel_rfl
theorem B0_eq (k : Nat) (rec : St → Option Out) (K : Ex → St → Option Out) (a1 : Arg) (v402 : Int × Int) : codeK E k fin (sub [1, 1, 1, 0, 1, 0, 0] C) ({ n := 27, sl := [(0, .val (.slc tSent) a1.1), (1, .val i64 v402.1), (5, .val i64 v402.2)], vr := [], lent := [] }) (loopC rec (keepF [0, 1, 5] []) K) = B0 k (S0 rec a1) (X0_0 K a1) a1 v402 := (b0_eq k rec K a1 v402).trans (by rfl)
noncomputable def l0 (k : Nat) (a1 : Arg) (e0 : Int → Option Out) (v : Int × Int) : Option Out := rawIter (fun self v => B0 k self e0 a1 v) k v
theorem l0_eq (k : Nat) (K : Ex → St → Option Out) (a1 : Arg) (v402 : Int × Int) : iterK (codeK E k fin (sub [1, 1, 1, 0, 1, 0, 0] C)) (keepF [0, 1, 5] []) K k ({ n := 27, sl := [(0, .val (.slc tSent) a1.1), (1, .val i64 v402.1), (5, .val i64 v402.2)], vr := [], lent := [] }) = l0 k a1 (X0_0 K a1) v402 :=
  iter_raw _ _ K (fun v402 => ({ n := 27, sl := [(0, .val (.slc tSent) a1.1), (1, .val i64 v402.1), (5, .val i64 v402.2)], vr := [], lent := [] } : St)) (fun self v => B0 k self (X0_0 K a1) a1 v) (fun rec v => B0_eq k rec K a1 v) k v402
noncomputable def q0 (a1 : Arg) (z605 : Int) : Option Out := some (z605, ())
noncomputable def Q0 (k : Nat) (a1 : Arg) (z605 : Int) : Option Out := q0 a1 z605
theorem q0_eq (k : Nat) (a1 : Arg) (z605 : Int) : (blockC 0 (seqC (codeK E k fin (sub [1, 1, 1, 1] C)) K0)) (.exit 0) ({ n := 27, sl := [(1, .val i64 z605)], vr := [], lent := [] }) = q0 a1 z605 := by kernel_rfl
theorem Q0_eq (k : Nat) (a1 : Arg) (z605 : Int) : (blockC 0 (seqC (codeK E k fin (sub [1, 1, 1, 1] C)) K0)) (.exit 0) ({ n := 27, sl := [(1, .val i64 z605)], vr := [], lent := [] }) = Q0 k a1 z605 := (q0_eq k a1 z605).trans (by rfl)
noncomputable def s0 (k : Nat) (a1 : Arg) : (Int × Int) → Option Out := fun v402 => iterK (codeK E k fin (sub [1, 1, 1, 0, 1, 0, 0] C)) (keepF [0, 1, 5] []) (blockC 0 (seqC (codeK E k fin (sub [1, 1, 1, 1] C)) K0)) k ({ n := 27, sl := [(0, .val (.slc tSent) a1.1), (1, .val i64 v402.1), (5, .val i64 v402.2)], vr := [], lent := [] })
noncomputable def r0 (k : Nat) (a1 : Arg) : (Int × Int) → Option Out := fun v402 => l0 k a1 (fun z => Q0 k a1 z) v402
theorem s0_eq (k : Nat) (a1 : Arg) : s0 k a1 = r0 k a1 := by
  funext v402;
  have h0 : X0_0 ((blockC 0 (seqC (codeK E k fin (sub [1, 1, 1, 1] C)) K0))) a1 = fun z => Q0 k a1 z := funext fun z => Q0_eq k a1 z
  refine (l0_eq k ((blockC 0 (seqC (codeK E k fin (sub [1, 1, 1, 1] C)) K0))) a1 v402).trans ?_
  rw [h0]
  rfl
noncomputable def p (l0 : (Int × Int) → Option Out) (a1 : Arg) : Option Out := bif decide (w64 (a1.2.1 - (a1.1.length : Int)) < (0 : Int)) then (some ((-1 : Int), ())) else l0 (w64 (a1.2.1 - (a1.1.length : Int)), (0 : Int))
noncomputable def raw (k : Nat) (a1 : Arg) : Option Out := p (r0 k a1) a1
theorem p_eq (k : Nat) (a1 : Arg) : bodyK E k Go.Proofs.Try.f12 ps rs [] [] a1 = p (s0 k a1) a1 := by kernel_rfl
theorem raw_eq (k : Nat) (a1 : Arg) : bodyK E k Go.Proofs.Try.f12 ps rs [] [] a1 = raw k a1 := (p_eq k a1).trans (by rw [s0_eq]; rfl)
theorem ent : EnterOk Go.Proofs.Try.prog 12 sig.cap := ⟨Go.Proofs.Try.f12, Go.Proofs.Try.func12, by kernel_rfl, by kernel_rfl, by kernel_rfl⟩
theorem env : EnvOk Go.Proofs.Try.prog E := env_ok (tl := [(22, (.slc tSent)), (140, tSent)]) (gl := [(83, laws_szSent.sig)]) rfl rfl (by kernel_rfl) (by kernel_rfl) (fn_cons laws_szSent.snd laws_szSent.ent (fn_nil _))
theorem chk : funOk Go.Proofs.Try.prog E Go.Proofs.Try.f12 ps rs [] = true := by kernel_rfl
theorem snd : Sound Go.Proofs.Try.prog 12 sig := sound_of_body env Go.Proofs.Try.func12 rfl (es := []) (fr := []) chk (fun _ _ h => lift_some h)
end laws_szSentS
namespace laws_toRow
/-! loop example g00408 laws toRow -/
abbrev Arg : Type := Row × Unit
abbrev Out : Type := Row × Unit
noncomputable def ps : List (PM × Ty) := [(.ro, tRow)]
noncomputable def rs : List (Ty × Md) := [(tRow, (roMd tRow))]
noncomputable def E : Env := { TI := lookN [(2, i64), (9, .str), (119, tRow), (128, tRow)], G := lookN [], fz := [], lv := [], lx := [], lf := [], od := [] }
noncomputable def sem (a : Arg) : Option Out := lift fun k => bodyK E k Go.Proofs.Try.f141 ps rs [] [] a
noncomputable def sig : Sig := { ps := ps, rs := rs, F := fun a => sem a }
noncomputable def C : Code := bodyOf Go.Proofs.Try.f141
noncomputable def fin : St → Option Out := outK ps rs [] (Func.results Go.Proofs.Try.f141).toList (mvs [])
noncomputable def K0 : Ex → St → Option Out := endK fin
noncomputable def p (a1 : Arg) : Option Out := some ((a1.1.1, a1.1.2.1, a1.1.2.2.1, a1.1.2.2.2.1, ()), ())
noncomputable def raw (k : Nat) (a1 : Arg) : Option Out := p a1
theorem p_eq (k : Nat) (a1 : Arg) : bodyK E k Go.Proofs.Try.f141 ps rs [] [] a1 = p a1 := by kernel_rfl
theorem raw_eq (k : Nat) (a1 : Arg) : bodyK E k Go.Proofs.Try.f141 ps rs [] [] a1 = raw k a1 := (p_eq k a1).trans (by rfl)
theorem ent : EnterOk Go.Proofs.Try.prog 141 sig.cap := ⟨Go.Proofs.Try.f141, Go.Proofs.Try.func141, by kernel_rfl, by kernel_rfl, by kernel_rfl⟩
theorem env : EnvOk Go.Proofs.Try.prog E := env_ok (tl := [(2, i64), (9, .str), (119, tRow), (128, tRow)]) (gl := []) rfl rfl (by kernel_rfl) (by kernel_rfl) (fn_nil _)
theorem chk : funOk Go.Proofs.Try.prog E Go.Proofs.Try.f141 ps rs [] = true := by kernel_rfl
theorem snd : Sound Go.Proofs.Try.prog 141 sig := sound_of_body env Go.Proofs.Try.func141 rfl (es := []) (fr := []) chk (fun _ _ h => lift_some h)
end laws_toRow
namespace laws_toChange
/-! loop example g00408 laws toChange -/
abbrev Arg : Type := Change × Unit
abbrev Out : Type := Change × Unit
noncomputable def ps : List (PM × Ty) := [(.ro, tChange)]
noncomputable def rs : List (Ty × Md) := [(tChange, (roMd tChange))]
noncomputable def E : Env := { TI := lookN [(4, .bool), (119, tRow), (121, tChange), (128, tRow), (130, tChange)], G := lookN [(141, laws_toRow.sig)], fz := [], lv := [], lx := [], lf := [], od := [] }
noncomputable def sem (a : Arg) : Option Out := lift fun k => bodyK E k Go.Proofs.Try.f76 ps rs [] [] a
noncomputable def sig : Sig := { ps := ps, rs := rs, F := fun a => sem a }
noncomputable def C : Code := bodyOf Go.Proofs.Try.f76
noncomputable def fin : St → Option Out := outK ps rs [] (Func.results Go.Proofs.Try.f76).toList (mvs [])
noncomputable def K0 : Ex → St → Option Out := endK fin
noncomputable def p (a1 : Arg) : Option Out := (laws_toRow.sem (a1.1.2.1, ())).bind fun r2 => (laws_toRow.sem (a1.1.2.2.2.1, ())).bind fun r3 => some ((a1.1.1, r2.1, a1.1.2.2.1, r3.1, ()), ())
noncomputable def raw (k : Nat) (a1 : Arg) : Option Out := p a1
theorem p_eq (k : Nat) (a1 : Arg) : bodyK E k Go.Proofs.Try.f76 ps rs [] [] a1 = p a1 := by kernel_rfl
theorem raw_eq (k : Nat) (a1 : Arg) : bodyK E k Go.Proofs.Try.f76 ps rs [] [] a1 = raw k a1 := (p_eq k a1).trans (by rfl)
theorem ent : EnterOk Go.Proofs.Try.prog 76 sig.cap := ⟨Go.Proofs.Try.f76, Go.Proofs.Try.func76, by kernel_rfl, by kernel_rfl, by kernel_rfl⟩
theorem env : EnvOk Go.Proofs.Try.prog E := env_ok (tl := [(4, .bool), (119, tRow), (121, tChange), (128, tRow), (130, tChange)]) (gl := [(141, laws_toRow.sig)]) rfl rfl (by kernel_rfl) (by kernel_rfl) (fn_cons laws_toRow.snd laws_toRow.ent (fn_nil _))
theorem chk : funOk Go.Proofs.Try.prog E Go.Proofs.Try.f76 ps rs [] = true := by kernel_rfl
theorem snd : Sound Go.Proofs.Try.prog 76 sig := sound_of_body env Go.Proofs.Try.func76 rfl (es := []) (fr := []) chk (fun _ _ h => lift_some h)
end laws_toChange
namespace laws_toChangeS
/-! loop example g00408 laws toChangeS -/
abbrev Arg : Type := (List Change) × Unit
abbrev Out : Type := (List Change) × Unit
noncomputable def ps : List (PM × Ty) := [(.ro, (.slc tChange))]
noncomputable def rs : List (Ty × Md) := [((.slc tChange), (ownMd (.slc tChange)))]
noncomputable def E : Env := { TI := lookN [(121, tChange), (130, tChange), (138, (.slc tChange)), (141, (.slc tChange))], G := lookN [(76, laws_toChange.sig)], fz := [], lv := [(3, [0, 3, 4])], lx := [(0, [3])], lf := [], od := [] }
noncomputable def sem (a : Arg) : Option Out := lift fun k => bodyK E k Go.Proofs.Try.f179 ps rs [] [] a
noncomputable def sig : Sig := { ps := ps, rs := rs, F := fun a => sem a }
noncomputable def C : Code := bodyOf Go.Proofs.Try.f179
noncomputable def fin : St → Option Out := outK ps rs [] (Func.results Go.Proofs.Try.f179).toList (mvs [])
noncomputable def K0 : Ex → St → Option Out := endK fin
noncomputable def S0 (rec : St → Option Out) (a1 : Arg) : ((List Change) × Int) → Option Out := fun v402 => rec ({ n := 23, sl := [(0, .val (.slc tChange) a1.1), (3, .own (.slc tChange) (ownMd (.slc tChange)) [] v402.1), (4, .val i64 v402.2)], vr := [], lent := [] })
noncomputable def X0_0 (K : Ex → St → Option Out) (a1 : Arg) : (List Change) → Option Out := fun z => K (.exit 0) ({ n := 23, sl := [(3, .own (.slc tChange) (ownMd (.slc tChange)) [] z)], vr := [], lent := [] })
noncomputable def b0 (self : ((List Change) × Int) → Option Out) (e0 : (List Change) → Option Out) (a1 : Arg) (v402 : (List Change) × Int) : Option Out := bif decide (v402.2 < (a1.1.length : Int)) then (if 0 ≤ v402.2 then ((a1.1[v402.2.toNat]?).bind fun x603 => (laws_toChange.sem (x603, ())).bind fun r604 => if 0 ≤ v402.2 ∧ v402.2 < (v402.1.length : Int) then ((v402.1[v402.2.toNat]?).bind fun x605 => self (v402.1.set v402.2.toNat r604.1, w64 (v402.2 + (1 : Int)))) else none) else none) else e0 v402.1
noncomputable def B0 (k : Nat) (self : ((List Change) × Int) → Option Out) (e0 : (List Change) → Option Out) (a1 : Arg) (v402 : (List Change) × Int) : Option Out := b0 self e0 a1 v402
theorem b0_eq (k : Nat) (rec : St → Option Out) (K : Ex → St → Option Out) (a1 : Arg) (v402 : (List Change) × Int) : codeK E k fin (sub [1, 1, 0, 1, 0, 0] C) ({ n := 23, sl := [(0, .val (.slc tChange) a1.1), (3, .own (.slc tChange) (ownMd (.slc tChange)) [] v402.1), (4, .val i64 v402.2)], vr := [], lent := [] }) (loopC rec (keepF [0, 3, 4] []) K) = b0 (S0 rec a1) (X0_0 K a1) a1 v402 := by kernel_rfl
theorem B0_eq (k : Nat) (rec : St → Option Out) (K : Ex → St → Option Out) (a1 : Arg) (v402 : (List Change) × Int) : codeK E k fin (sub [1, 1, 0, 1, 0, 0] C) ({ n := 23, sl := [(0, .val (.slc tChange) a1.1), (3, .own (.slc tChange) (ownMd (.slc tChange)) [] v402.1), (4, .val i64 v402.2)], vr := [], lent := [] }) (loopC rec (keepF [0, 3, 4] []) K) = B0 k (S0 rec a1) (X0_0 K a1) a1 v402 := (b0_eq k rec K a1 v402).trans (by rfl)
noncomputable def l0 (k : Nat) (a1 : Arg) (e0 : (List Change) → Option Out) (v : (List Change) × Int) : Option Out := rawIter (fun self v => B0 k self e0 a1 v) k v
theorem l0_eq (k : Nat) (K : Ex → St → Option Out) (a1 : Arg) (v402 : (List Change) × Int) : iterK (codeK E k fin (sub [1, 1, 0, 1, 0, 0] C)) (keepF [0, 3, 4] []) K k ({ n := 23, sl := [(0, .val (.slc tChange) a1.1), (3, .own (.slc tChange) (ownMd (.slc tChange)) [] v402.1), (4, .val i64 v402.2)], vr := [], lent := [] }) = l0 k a1 (X0_0 K a1) v402 :=
  iter_raw _ _ K (fun v402 => ({ n := 23, sl := [(0, .val (.slc tChange) a1.1), (3, .own (.slc tChange) (ownMd (.slc tChange)) [] v402.1), (4, .val i64 v402.2)], vr := [], lent := [] } : St)) (fun self v => B0 k self (X0_0 K a1) a1 v) (fun rec v => B0_eq k rec K a1 v) k v402
noncomputable def q0 (a1 : Arg) (z606 : (List Change)) : Option Out := some (z606, ())
noncomputable def Q0 (k : Nat) (a1 : Arg) (z606 : (List Change)) : Option Out := q0 a1 z606
theorem q0_eq (k : Nat) (a1 : Arg) (z606 : (List Change)) : (blockC 0 (seqC (codeK E k fin (sub [1, 1, 1] C)) K0)) (.exit 0) ({ n := 23, sl := [(3, .own (.slc tChange) (ownMd (.slc tChange)) [] z606)], vr := [], lent := [] }) = q0 a1 z606 := by kernel_rfl
theorem Q0_eq (k : Nat) (a1 : Arg) (z606 : (List Change)) : (blockC 0 (seqC (codeK E k fin (sub [1, 1, 1] C)) K0)) (.exit 0) ({ n := 23, sl := [(3, .own (.slc tChange) (ownMd (.slc tChange)) [] z606)], vr := [], lent := [] }) = Q0 k a1 z606 := (q0_eq k a1 z606).trans (by rfl)
noncomputable def s0 (k : Nat) (a1 : Arg) : ((List Change) × Int) → Option Out := fun v402 => iterK (codeK E k fin (sub [1, 1, 0, 1, 0, 0] C)) (keepF [0, 3, 4] []) (blockC 0 (seqC (codeK E k fin (sub [1, 1, 1] C)) K0)) k ({ n := 23, sl := [(0, .val (.slc tChange) a1.1), (3, .own (.slc tChange) (ownMd (.slc tChange)) [] v402.1), (4, .val i64 v402.2)], vr := [], lent := [] })
noncomputable def r0 (k : Nat) (a1 : Arg) : ((List Change) × Int) → Option Out := fun v402 => l0 k a1 (fun z => Q0 k a1 z) v402
theorem s0_eq (k : Nat) (a1 : Arg) : s0 k a1 = r0 k a1 := by
  funext v402;
  have h0 : X0_0 ((blockC 0 (seqC (codeK E k fin (sub [1, 1, 1] C)) K0))) a1 = fun z => Q0 k a1 z := funext fun z => Q0_eq k a1 z
  refine (l0_eq k ((blockC 0 (seqC (codeK E k fin (sub [1, 1, 1] C)) K0))) a1 v402).trans ?_
  rw [h0]
  rfl
noncomputable def p (l0 : ((List Change) × Int) → Option Out) (a1 : Arg) : Option Out := if 0 ≤ (a1.1.length : Int) ∧ (a1.1.length : Int) ≤ (a1.1.length : Int) ∧ (a1.1.length : Int) ≤ (CAP : Int) then (l0 (List.replicate (a1.1.length : Int).toNat (false, ((0 : Int), (0 : Int), (0 : Int), ([] : List UInt8), ()), false, ((0 : Int), (0 : Int), (0 : Int), ([] : List UInt8), ()), ()), (0 : Int))) else none
noncomputable def raw (k : Nat) (a1 : Arg) : Option Out := p (r0 k a1) a1
theorem p_eq (k : Nat) (a1 : Arg) : bodyK E k Go.Proofs.Try.f179 ps rs [] [] a1 = p (s0 k a1) a1 := by kernel_rfl
theorem raw_eq (k : Nat) (a1 : Arg) : bodyK E k Go.Proofs.Try.f179 ps rs [] [] a1 = raw k a1 := (p_eq k a1).trans (by rw [s0_eq]; rfl)
theorem ent : EnterOk Go.Proofs.Try.prog 179 sig.cap := ⟨Go.Proofs.Try.f179, Go.Proofs.Try.func179, by kernel_rfl, by kernel_rfl, by kernel_rfl⟩
theorem env : EnvOk Go.Proofs.Try.prog E := env_ok (tl := [(121, tChange), (130, tChange), (138, (.slc tChange)), (141, (.slc tChange))]) (gl := [(76, laws_toChange.sig)]) rfl rfl (by kernel_rfl) (by kernel_rfl) (fn_cons laws_toChange.snd laws_toChange.ent (fn_nil _))
theorem chk : funOk Go.Proofs.Try.prog E Go.Proofs.Try.f179 ps rs [] = true := by kernel_rfl
theorem snd : Sound Go.Proofs.Try.prog 179 sig := sound_of_body env Go.Proofs.Try.func179 rfl (es := []) (fr := []) chk (fun _ _ h => lift_some h)
end laws_toChangeS
namespace laws_toSent
/-! loop example g00408 laws toSent -/
abbrev Arg : Type := Sent × Unit
abbrev Out : Type := Sent × Unit
noncomputable def ps : List (PM × Ty) := [(.ro, tSent)]
noncomputable def rs : List (Ty × Md) := [(tSent, (ownMd tSent))]
noncomputable def E : Env := { TI := lookN [(2, i64), (138, (.slc tChange)), (140, tSent), (141, (.slc tChange)), (143, tSent)], G := lookN [(179, laws_toChangeS.sig)], fz := [], lv := [], lx := [], lf := [], od := [] }
noncomputable def sem (a : Arg) : Option Out := lift fun k => bodyK E k Go.Proofs.Try.f85 ps rs [] [] a
noncomputable def sig : Sig := { ps := ps, rs := rs, F := fun a => sem a }
noncomputable def C : Code := bodyOf Go.Proofs.Try.f85
noncomputable def fin : St → Option Out := outK ps rs [] (Func.results Go.Proofs.Try.f85).toList (mvs [])
noncomputable def K0 : Ex → St → Option Out := endK fin
noncomputable def p (a1 : Arg) : Option Out := (laws_toChangeS.sem (a1.1.2.2.1, ())).bind fun r2 => some ((a1.1.1, a1.1.2.1, r2.1, ()), ())
noncomputable def raw (k : Nat) (a1 : Arg) : Option Out := p a1
theorem p_eq (k : Nat) (a1 : Arg) : bodyK E k Go.Proofs.Try.f85 ps rs [] [] a1 = p a1 := by kernel_rfl
theorem raw_eq (k : Nat) (a1 : Arg) : bodyK E k Go.Proofs.Try.f85 ps rs [] [] a1 = raw k a1 := (p_eq k a1).trans (by rfl)
theorem ent : EnterOk Go.Proofs.Try.prog 85 sig.cap := ⟨Go.Proofs.Try.f85, Go.Proofs.Try.func85, by kernel_rfl, by kernel_rfl, by kernel_rfl⟩
theorem env : EnvOk Go.Proofs.Try.prog E := env_ok (tl := [(2, i64), (138, (.slc tChange)), (140, tSent), (141, (.slc tChange)), (143, tSent)]) (gl := [(179, laws_toChangeS.sig)]) rfl rfl (by kernel_rfl) (by kernel_rfl) (fn_cons laws_toChangeS.snd laws_toChangeS.ent (fn_nil _))
theorem chk : funOk Go.Proofs.Try.prog E Go.Proofs.Try.f85 ps rs [] = true := by kernel_rfl
theorem snd : Sound Go.Proofs.Try.prog 85 sig := sound_of_body env Go.Proofs.Try.func85 rfl (es := []) (fr := []) chk (fun _ _ h => lift_some h)
end laws_toSent
namespace laws_toSentS
/-! loop example g00408 laws toSentS -/
abbrev Arg : Type := (List Sent) × Unit
abbrev Out : Type := (List Sent) × Unit
noncomputable def ps : List (PM × Ty) := [(.ro, (.slc tSent))]
noncomputable def rs : List (Ty × Md) := [((.slc tSent), (ownMd (.slc tSent)))]
noncomputable def E : Env := { TI := lookN [(22, (.slc tSent)), (25, (.slc tSent)), (140, tSent), (143, tSent)], G := lookN [(85, laws_toSent.sig)], fz := [], lv := [(3, [0, 3, 4])], lx := [(0, [3])], lf := [], od := [] }
noncomputable def sem (a : Arg) : Option Out := lift fun k => bodyK E k Go.Proofs.Try.f14 ps rs [] [] a
noncomputable def sig : Sig := { ps := ps, rs := rs, F := fun a => sem a }
noncomputable def C : Code := bodyOf Go.Proofs.Try.f14
noncomputable def fin : St → Option Out := outK ps rs [] (Func.results Go.Proofs.Try.f14).toList (mvs [])
noncomputable def K0 : Ex → St → Option Out := endK fin
noncomputable def S0 (rec : St → Option Out) (a1 : Arg) : ((List Sent) × Int) → Option Out := fun v402 => rec ({ n := 23, sl := [(0, .val (.slc tSent) a1.1), (3, .own (.slc tSent) (ownMd (.slc tSent)) [] v402.1), (4, .val i64 v402.2)], vr := [], lent := [] })
noncomputable def X0_0 (K : Ex → St → Option Out) (a1 : Arg) : (List Sent) → Option Out := fun z => K (.exit 0) ({ n := 23, sl := [(3, .own (.slc tSent) (ownMd (.slc tSent)) [] z)], vr := [], lent := [] })
noncomputable def b0 (self : ((List Sent) × Int) → Option Out) (e0 : (List Sent) → Option Out) (a1 : Arg) (v402 : (List Sent) × Int) : Option Out := bif decide (v402.2 < (a1.1.length : Int)) then (if 0 ≤ v402.2 then ((a1.1[v402.2.toNat]?).bind fun x603 => (laws_toSent.sem (x603, ())).bind fun r604 => if 0 ≤ v402.2 ∧ v402.2 < (v402.1.length : Int) then ((v402.1[v402.2.toNat]?).bind fun x605 => self (v402.1.set v402.2.toNat r604.1, w64 (v402.2 + (1 : Int)))) else none) else none) else e0 v402.1
noncomputable def B0 (k : Nat) (self : ((List Sent) × Int) → Option Out) (e0 : (List Sent) → Option Out) (a1 : Arg) (v402 : (List Sent) × Int) : Option Out := b0 self e0 a1 v402
theorem b0_eq (k : Nat) (rec : St → Option Out) (K : Ex → St → Option Out) (a1 : Arg) (v402 : (List Sent) × Int) : codeK E k fin (sub [1, 1, 0, 1, 0, 0] C) ({ n := 23, sl := [(0, .val (.slc tSent) a1.1), (3, .own (.slc tSent) (ownMd (.slc tSent)) [] v402.1), (4, .val i64 v402.2)], vr := [], lent := [] }) (loopC rec (keepF [0, 3, 4] []) K) = b0 (S0 rec a1) (X0_0 K a1) a1 v402 := by kernel_rfl
theorem B0_eq (k : Nat) (rec : St → Option Out) (K : Ex → St → Option Out) (a1 : Arg) (v402 : (List Sent) × Int) : codeK E k fin (sub [1, 1, 0, 1, 0, 0] C) ({ n := 23, sl := [(0, .val (.slc tSent) a1.1), (3, .own (.slc tSent) (ownMd (.slc tSent)) [] v402.1), (4, .val i64 v402.2)], vr := [], lent := [] }) (loopC rec (keepF [0, 3, 4] []) K) = B0 k (S0 rec a1) (X0_0 K a1) a1 v402 := (b0_eq k rec K a1 v402).trans (by rfl)
noncomputable def l0 (k : Nat) (a1 : Arg) (e0 : (List Sent) → Option Out) (v : (List Sent) × Int) : Option Out := rawIter (fun self v => B0 k self e0 a1 v) k v
theorem l0_eq (k : Nat) (K : Ex → St → Option Out) (a1 : Arg) (v402 : (List Sent) × Int) : iterK (codeK E k fin (sub [1, 1, 0, 1, 0, 0] C)) (keepF [0, 3, 4] []) K k ({ n := 23, sl := [(0, .val (.slc tSent) a1.1), (3, .own (.slc tSent) (ownMd (.slc tSent)) [] v402.1), (4, .val i64 v402.2)], vr := [], lent := [] }) = l0 k a1 (X0_0 K a1) v402 :=
  iter_raw _ _ K (fun v402 => ({ n := 23, sl := [(0, .val (.slc tSent) a1.1), (3, .own (.slc tSent) (ownMd (.slc tSent)) [] v402.1), (4, .val i64 v402.2)], vr := [], lent := [] } : St)) (fun self v => B0 k self (X0_0 K a1) a1 v) (fun rec v => B0_eq k rec K a1 v) k v402
noncomputable def q0 (a1 : Arg) (z606 : (List Sent)) : Option Out := some (z606, ())
noncomputable def Q0 (k : Nat) (a1 : Arg) (z606 : (List Sent)) : Option Out := q0 a1 z606
theorem q0_eq (k : Nat) (a1 : Arg) (z606 : (List Sent)) : (blockC 0 (seqC (codeK E k fin (sub [1, 1, 1] C)) K0)) (.exit 0) ({ n := 23, sl := [(3, .own (.slc tSent) (ownMd (.slc tSent)) [] z606)], vr := [], lent := [] }) = q0 a1 z606 := by kernel_rfl
theorem Q0_eq (k : Nat) (a1 : Arg) (z606 : (List Sent)) : (blockC 0 (seqC (codeK E k fin (sub [1, 1, 1] C)) K0)) (.exit 0) ({ n := 23, sl := [(3, .own (.slc tSent) (ownMd (.slc tSent)) [] z606)], vr := [], lent := [] }) = Q0 k a1 z606 := (q0_eq k a1 z606).trans (by rfl)
noncomputable def s0 (k : Nat) (a1 : Arg) : ((List Sent) × Int) → Option Out := fun v402 => iterK (codeK E k fin (sub [1, 1, 0, 1, 0, 0] C)) (keepF [0, 3, 4] []) (blockC 0 (seqC (codeK E k fin (sub [1, 1, 1] C)) K0)) k ({ n := 23, sl := [(0, .val (.slc tSent) a1.1), (3, .own (.slc tSent) (ownMd (.slc tSent)) [] v402.1), (4, .val i64 v402.2)], vr := [], lent := [] })
noncomputable def r0 (k : Nat) (a1 : Arg) : ((List Sent) × Int) → Option Out := fun v402 => l0 k a1 (fun z => Q0 k a1 z) v402
theorem s0_eq (k : Nat) (a1 : Arg) : s0 k a1 = r0 k a1 := by
  funext v402;
  have h0 : X0_0 ((blockC 0 (seqC (codeK E k fin (sub [1, 1, 1] C)) K0))) a1 = fun z => Q0 k a1 z := funext fun z => Q0_eq k a1 z
  refine (l0_eq k ((blockC 0 (seqC (codeK E k fin (sub [1, 1, 1] C)) K0))) a1 v402).trans ?_
  rw [h0]
  rfl
noncomputable def p (l0 : ((List Sent) × Int) → Option Out) (a1 : Arg) : Option Out := if 0 ≤ (a1.1.length : Int) ∧ (a1.1.length : Int) ≤ (a1.1.length : Int) ∧ (a1.1.length : Int) ≤ (CAP : Int) then (l0 (List.replicate (a1.1.length : Int).toNat ((0 : Int), (0 : Int), ([] : List Change), ()), (0 : Int))) else none
noncomputable def raw (k : Nat) (a1 : Arg) : Option Out := p (r0 k a1) a1
theorem p_eq (k : Nat) (a1 : Arg) : bodyK E k Go.Proofs.Try.f14 ps rs [] [] a1 = p (s0 k a1) a1 := by kernel_rfl
theorem raw_eq (k : Nat) (a1 : Arg) : bodyK E k Go.Proofs.Try.f14 ps rs [] [] a1 = raw k a1 := (p_eq k a1).trans (by rw [s0_eq]; rfl)
theorem ent : EnterOk Go.Proofs.Try.prog 14 sig.cap := ⟨Go.Proofs.Try.f14, Go.Proofs.Try.func14, by kernel_rfl, by kernel_rfl, by kernel_rfl⟩
theorem env : EnvOk Go.Proofs.Try.prog E := env_ok (tl := [(22, (.slc tSent)), (25, (.slc tSent)), (140, tSent), (143, tSent)]) (gl := [(85, laws_toSent.sig)]) rfl rfl (by kernel_rfl) (by kernel_rfl) (fn_cons laws_toSent.snd laws_toSent.ent (fn_nil _))
theorem chk : funOk Go.Proofs.Try.prog E Go.Proofs.Try.f14 ps rs [] = true := by kernel_rfl
theorem snd : Sound Go.Proofs.Try.prog 14 sig := sound_of_body env Go.Proofs.Try.func14 rfl (es := []) (fr := []) chk (fun _ _ h => lift_some h)
end laws_toSentS
namespace laws_eqRow
/-! loop example g00408 laws eqRow -/
abbrev Arg : Type := Row × Row × Unit
abbrev Out : Type := Bool × Unit
noncomputable def ps : List (PM × Ty) := [(.ro, tRow), (.ro, tRow)]
noncomputable def rs : List (Ty × Md) := [(.bool, (roMd .bool))]
noncomputable def E : Env := { TI := lookN [(2, i64), (9, .str), (128, tRow)], G := lookN [], fz := [], lv := [], lx := [], lf := [], od := [] }
noncomputable def sem (a : Arg) : Option Out := lift fun k => bodyK E k Go.Proofs.Try.f146 ps rs [] [] a
noncomputable def sig : Sig := { ps := ps, rs := rs, F := fun a => sem a }
noncomputable def C : Code := bodyOf Go.Proofs.Try.f146
noncomputable def fin : St → Option Out := outK ps rs [] (Func.results Go.Proofs.Try.f146).toList (mvs [])
noncomputable def K0 : Ex → St → Option Out := endK fin
noncomputable def p (a1 : Arg) : Option Out := bif !decide (a1.1.1 = a1.2.1.1) then (some (false, ())) else bif !decide (a1.1.2.1 = a1.2.1.2.1) then (some (false, ())) else bif !decide (a1.1.2.2.1 = a1.2.1.2.2.1) then (some (false, ())) else bif !decide (a1.1.2.2.2.1 = a1.2.1.2.2.2.1) then (some (false, ())) else some (true, ())
noncomputable def raw (k : Nat) (a1 : Arg) : Option Out := p a1
theorem p_eq (k : Nat) (a1 : Arg) : bodyK E k Go.Proofs.Try.f146 ps rs [] [] a1 = p a1 := by kernel_rfl
theorem raw_eq (k : Nat) (a1 : Arg) : bodyK E k Go.Proofs.Try.f146 ps rs [] [] a1 = raw k a1 := (p_eq k a1).trans (by rfl)
theorem ent : EnterOk Go.Proofs.Try.prog 146 sig.cap := ⟨Go.Proofs.Try.f146, Go.Proofs.Try.func146, by kernel_rfl, by kernel_rfl, by kernel_rfl⟩
theorem env : EnvOk Go.Proofs.Try.prog E := env_ok (tl := [(2, i64), (9, .str), (128, tRow)]) (gl := []) rfl rfl (by kernel_rfl) (by kernel_rfl) (fn_nil _)
theorem chk : funOk Go.Proofs.Try.prog E Go.Proofs.Try.f146 ps rs [] = true := by kernel_rfl
theorem snd : Sound Go.Proofs.Try.prog 146 sig := sound_of_body env Go.Proofs.Try.func146 rfl (es := []) (fr := []) chk (fun _ _ h => lift_some h)
end laws_eqRow
namespace laws_eqChange
/-! loop example g00408 laws eqChange -/
abbrev Arg : Type := Change × Change × Unit
abbrev Out : Type := Bool × Unit
noncomputable def ps : List (PM × Ty) := [(.ro, tChange), (.ro, tChange)]
noncomputable def rs : List (Ty × Md) := [(.bool, (roMd .bool))]
noncomputable def E : Env := { TI := lookN [(4, .bool), (128, tRow), (130, tChange)], G := lookN [(146, laws_eqRow.sig)], fz := [], lv := [], lx := [], lf := [], od := [] }
noncomputable def sem (a : Arg) : Option Out := lift fun k => bodyK E k Go.Proofs.Try.f243 ps rs [] [] a
noncomputable def sig : Sig := { ps := ps, rs := rs, F := fun a => sem a }
noncomputable def C : Code := bodyOf Go.Proofs.Try.f243
noncomputable def fin : St → Option Out := outK ps rs [] (Func.results Go.Proofs.Try.f243).toList (mvs [])
noncomputable def K0 : Ex → St → Option Out := endK fin
noncomputable def p (a1 : Arg) : Option Out := bif !(a1.1.1 == a1.2.1.1) then (some (false, ())) else (laws_eqRow.sem (a1.1.2.1, a1.2.1.2.1, ())).bind fun r2 => bif !r2.1 then (some (false, ())) else bif !(a1.1.2.2.1 == a1.2.1.2.2.1) then (some (false, ())) else (laws_eqRow.sem (a1.1.2.2.2.1, a1.2.1.2.2.2.1, ())).bind fun r3 => bif !r3.1 then (some (false, ())) else some (true, ())
noncomputable def raw (k : Nat) (a1 : Arg) : Option Out := p a1
theorem p_eq (k : Nat) (a1 : Arg) : bodyK E k Go.Proofs.Try.f243 ps rs [] [] a1 = p a1 := by kernel_rfl
theorem raw_eq (k : Nat) (a1 : Arg) : bodyK E k Go.Proofs.Try.f243 ps rs [] [] a1 = raw k a1 := (p_eq k a1).trans (by rfl)
theorem ent : EnterOk Go.Proofs.Try.prog 243 sig.cap := ⟨Go.Proofs.Try.f243, Go.Proofs.Try.func243, by kernel_rfl, by kernel_rfl, by kernel_rfl⟩
theorem env : EnvOk Go.Proofs.Try.prog E := env_ok (tl := [(4, .bool), (128, tRow), (130, tChange)]) (gl := [(146, laws_eqRow.sig)]) rfl rfl (by kernel_rfl) (by kernel_rfl) (fn_cons laws_eqRow.snd laws_eqRow.ent (fn_nil _))
theorem chk : funOk Go.Proofs.Try.prog E Go.Proofs.Try.f243 ps rs [] = true := by kernel_rfl
theorem snd : Sound Go.Proofs.Try.prog 243 sig := sound_of_body env Go.Proofs.Try.func243 rfl (es := []) (fr := []) chk (fun _ _ h => lift_some h)
end laws_eqChange
namespace laws_eqChangeS
/-! loop example g00408 laws eqChangeS -/
abbrev Arg : Type := (List Change) × (List Change) × Unit
abbrev Out : Type := Bool × Unit
noncomputable def ps : List (PM × Ty) := [(.ro, (.slc tChange)), (.ro, (.slc tChange))]
noncomputable def rs : List (Ty × Md) := [(.bool, (roMd .bool))]
noncomputable def E : Env := { TI := lookN [(130, tChange), (141, (.slc tChange))], G := lookN [(243, laws_eqChange.sig)], fz := [], lv := [(4, [0, 1, 5])], lx := [(0, [])], lf := [], od := [(6, [0, 1, 2, 3, 4, 5, 6, 7, 8, 9])] }
noncomputable def sem (a : Arg) : Option Out := lift fun k => bodyK E k Go.Proofs.Try.f180 ps rs [] [] a
noncomputable def sig : Sig := { ps := ps, rs := rs, F := fun a => sem a }
noncomputable def C : Code := bodyOf Go.Proofs.Try.f180
noncomputable def fin : St → Option Out := outK ps rs [] (Func.results Go.Proofs.Try.f180).toList (mvs [])
noncomputable def K0 : Ex → St → Option Out := endK fin
noncomputable def S0 (rec : St → Option Out) (a1 : Arg) : (Int) → Option Out := fun v402 => rec ({ n := 27, sl := [(0, .val (.slc tChange) a1.1), (1, .val (.slc tChange) a1.2.1), (5, .val i64 v402)], vr := [], lent := [] })
noncomputable def X0_0 (K : Ex → St → Option Out) (a1 : Arg) : (Unit) → Option Out := fun z => K (.exit 0) ({ n := 27, sl := [], vr := [], lent := [] })
noncomputable def b0 (self : Int → Option Out) (e0 : (Unit) → Option Out) (a1 : Arg) (v402 : Int) : Option Out := bif decide (v402 < (a1.1.length : Int)) then (if 0 ≤ v402 then ((a1.1[v402.toNat]?).bind fun x603 => if 0 ≤ v402 then ((a1.2.1[v402.toNat]?).bind fun x604 => (laws_eqChange.sem (x603, x604, ())).bind fun r605 => bif !r605.1 then (some (false, ())) else self (w64 (v402 + (1 : Int)))) else none) else none) else e0 ()
noncomputable def B0 (k : Nat) (self : Int → Option Out) (e0 : (Unit) → Option Out) (a1 : Arg) (v402 : Int) : Option Out := b0 self e0 a1 v402
theorem b0_eq (k : Nat) (rec : St → Option Out) (K : Ex → St → Option Out) (a1 : Arg) (v402 : Int) : codeK E k fin (sub [1, 1, 0, 1, 0, 0] C) ({ n := 27, sl := [(0, .val (.slc tChange) a1.1), (1, .val (.slc tChange) a1.2.1), (5, .val i64 v402)], vr := [], lent := [] }) (loopC rec (keepF [0, 1, 5] []) K) = b0 (S0 rec a1) (X0_0 K a1) a1 v402 := by kernel_rfl
theorem B0_eq (k : Nat) (rec : St → Option Out) (K : Ex → St → Option Out) (a1 : Arg) (v402 : Int) : codeK E k fin (sub [1, 1, 0, 1, 0, 0] C) ({ n := 27, sl := [(0, .val (.slc tChange) a1.1), (1, .val (.slc tChange) a1.2.1), (5, .val i64 v402)], vr := [], lent := [] }) (loopC rec (keepF [0, 1, 5] []) K) = B0 k (S0 rec a1) (X0_0 K a1) a1 v402 := (b0_eq k rec K a1 v402).trans (by rfl)
noncomputable def l0 (k : Nat) (a1 : Arg) (e0 : (Unit) → Option Out) (v : Int) : Option Out := rawIter (fun self v => B0 k self e0 a1 v) k v
theorem l0_eq (k : Nat) (K : Ex → St → Option Out) (a1 : Arg) (v402 : Int) : iterK (codeK E k fin (sub [1, 1, 0, 1, 0, 0] C)) (keepF [0, 1, 5] []) K k ({ n := 27, sl := [(0, .val (.slc tChange) a1.1), (1, .val (.slc tChange) a1.2.1), (5, .val i64 v402)], vr := [], lent := [] }) = l0 k a1 (X0_0 K a1) v402 :=
  iter_raw _ _ K (fun v402 => ({ n := 27, sl := [(0, .val (.slc tChange) a1.1), (1, .val (.slc tChange) a1.2.1), (5, .val i64 v402)], vr := [], lent := [] } : St)) (fun self v => B0 k self (X0_0 K a1) a1 v) (fun rec v => B0_eq k rec K a1 v) k v402
noncomputable def q0 (a1 : Arg) (z606 : (Unit)) : Option Out := some (true, ())
noncomputable def Q0 (k : Nat) (a1 : Arg) (z606 : (Unit)) : Option Out := q0 a1 z606
theorem q0_eq (k : Nat) (a1 : Arg) (z606 : (Unit)) : (blockC 0 (seqC (codeK E k fin (sub [1, 1, 1] C)) K0)) (.exit 0) ({ n := 27, sl := [], vr := [], lent := [] }) = q0 a1 z606 := by kernel_rfl
theorem Q0_eq (k : Nat) (a1 : Arg) (z606 : (Unit)) : (blockC 0 (seqC (codeK E k fin (sub [1, 1, 1] C)) K0)) (.exit 0) ({ n := 27, sl := [], vr := [], lent := [] }) = Q0 k a1 z606 := (q0_eq k a1 z606).trans (by rfl)
noncomputable def s0 (k : Nat) (a1 : Arg) : (Int) → Option Out := fun v402 => iterK (codeK E k fin (sub [1, 1, 0, 1, 0, 0] C)) (keepF [0, 1, 5] []) (blockC 0 (seqC (codeK E k fin (sub [1, 1, 1] C)) K0)) k ({ n := 27, sl := [(0, .val (.slc tChange) a1.1), (1, .val (.slc tChange) a1.2.1), (5, .val i64 v402)], vr := [], lent := [] })
noncomputable def r0 (k : Nat) (a1 : Arg) : (Int) → Option Out := fun v402 => l0 k a1 (fun z => Q0 k a1 z) v402
theorem s0_eq (k : Nat) (a1 : Arg) : s0 k a1 = r0 k a1 := by
  funext v402;
  have h0 : X0_0 ((blockC 0 (seqC (codeK E k fin (sub [1, 1, 1] C)) K0))) a1 = fun z => Q0 k a1 z := funext fun z => Q0_eq k a1 z
  refine (l0_eq k ((blockC 0 (seqC (codeK E k fin (sub [1, 1, 1] C)) K0))) a1 v402).trans ?_
  rw [h0]
  rfl
noncomputable def p (l0 : (Int) → Option Out) (a1 : Arg) : Option Out := bif !decide ((a1.1.length : Int) = (a1.2.1.length : Int)) then (some (false, ())) else l0 (0 : Int)
noncomputable def raw (k : Nat) (a1 : Arg) : Option Out := p (r0 k a1) a1
theorem p_eq (k : Nat) (a1 : Arg) : bodyK E k Go.Proofs.Try.f180 ps rs [] [] a1 = p (s0 k a1) a1 := by kernel_rfl
theorem raw_eq (k : Nat) (a1 : Arg) : bodyK E k Go.Proofs.Try.f180 ps rs [] [] a1 = raw k a1 := (p_eq k a1).trans (by rw [s0_eq]; rfl)
theorem ent : EnterOk Go.Proofs.Try.prog 180 sig.cap := ⟨Go.Proofs.Try.f180, Go.Proofs.Try.func180, by kernel_rfl, by kernel_rfl, by kernel_rfl⟩
theorem env : EnvOk Go.Proofs.Try.prog E := env_ok (tl := [(130, tChange), (141, (.slc tChange))]) (gl := [(243, laws_eqChange.sig)]) rfl rfl (by kernel_rfl) (by kernel_rfl) (fn_cons laws_eqChange.snd laws_eqChange.ent (fn_nil _))
theorem chk : funOk Go.Proofs.Try.prog E Go.Proofs.Try.f180 ps rs [] = true := by kernel_rfl
theorem snd : Sound Go.Proofs.Try.prog 180 sig := sound_of_body env Go.Proofs.Try.func180 rfl (es := []) (fr := []) chk (fun _ _ h => lift_some h)
end laws_eqChangeS
namespace laws_eqSent
/-! loop example g00408 laws eqSent -/
abbrev Arg : Type := Sent × Sent × Unit
abbrev Out : Type := Bool × Unit
noncomputable def ps : List (PM × Ty) := [(.ro, tSent), (.ro, tSent)]
noncomputable def rs : List (Ty × Md) := [(.bool, (roMd .bool))]
noncomputable def E : Env := { TI := lookN [(2, i64), (141, (.slc tChange)), (143, tSent)], G := lookN [(180, laws_eqChangeS.sig)], fz := [], lv := [], lx := [], lf := [], od := [] }
noncomputable def sem (a : Arg) : Option Out := lift fun k => bodyK E k Go.Proofs.Try.f89 ps rs [] [] a
noncomputable def sig : Sig := { ps := ps, rs := rs, F := fun a => sem a }
noncomputable def C : Code := bodyOf Go.Proofs.Try.f89
noncomputable def fin : St → Option Out := outK ps rs [] (Func.results Go.Proofs.Try.f89).toList (mvs [])
noncomputable def K0 : Ex → St → Option Out := endK fin
noncomputable def p (a1 : Arg) : Option Out := bif !decide (a1.1.1 = a1.2.1.1) then (some (false, ())) else bif !decide (a1.1.2.1 = a1.2.1.2.1) then (some (false, ())) else (laws_eqChangeS.sem (a1.1.2.2.1, a1.2.1.2.2.1, ())).bind fun r2 => bif !r2.1 then (some (false, ())) else some (true, ())
noncomputable def raw (k : Nat) (a1 : Arg) : Option Out := p a1
theorem p_eq (k : Nat) (a1 : Arg) : bodyK E k Go.Proofs.Try.f89 ps rs [] [] a1 = p a1 := by kernel_rfl
theorem raw_eq (k : Nat) (a1 : Arg) : bodyK E k Go.Proofs.Try.f89 ps rs [] [] a1 = raw k a1 := (p_eq k a1).trans (by rfl)
theorem ent : EnterOk Go.Proofs.Try.prog 89 sig.cap := ⟨Go.Proofs.Try.f89, Go.Proofs.Try.func89, by kernel_rfl, by kernel_rfl, by kernel_rfl⟩
theorem env : EnvOk Go.Proofs.Try.prog E := env_ok (tl := [(2, i64), (141, (.slc tChange)), (143, tSent)]) (gl := [(180, laws_eqChangeS.sig)]) rfl rfl (by kernel_rfl) (by kernel_rfl) (fn_cons laws_eqChangeS.snd laws_eqChangeS.ent (fn_nil _))
theorem chk : funOk Go.Proofs.Try.prog E Go.Proofs.Try.f89 ps rs [] = true := by kernel_rfl
theorem snd : Sound Go.Proofs.Try.prog 89 sig := sound_of_body env Go.Proofs.Try.func89 rfl (es := []) (fr := []) chk (fun _ _ h => lift_some h)
end laws_eqSent
namespace laws_eqSentS
/-! loop example g00408 laws eqSentS -/
abbrev Arg : Type := (List Sent) × (List Sent) × Unit
abbrev Out : Type := Bool × Unit
noncomputable def ps : List (PM × Ty) := [(.ro, (.slc tSent)), (.ro, (.slc tSent))]
noncomputable def rs : List (Ty × Md) := [(.bool, (roMd .bool))]
noncomputable def E : Env := { TI := lookN [(25, (.slc tSent)), (143, tSent)], G := lookN [(89, laws_eqSent.sig)], fz := [], lv := [(4, [0, 1, 5])], lx := [(0, [])], lf := [], od := [(6, [0, 1, 2, 3, 4, 5, 6, 7, 8, 9])] }
noncomputable def sem (a : Arg) : Option Out := lift fun k => bodyK E k Go.Proofs.Try.f16 ps rs [] [] a
noncomputable def sig : Sig := { ps := ps, rs := rs, F := fun a => sem a }
noncomputable def C : Code := bodyOf Go.Proofs.Try.f16
noncomputable def fin : St → Option Out := outK ps rs [] (Func.results Go.Proofs.Try.f16).toList (mvs [])
noncomputable def K0 : Ex → St → Option Out := endK fin
noncomputable def S0 (rec : St → Option Out) (a1 : Arg) : (Int) → Option Out := fun v402 => rec ({ n := 27, sl := [(0, .val (.slc tSent) a1.1), (1, .val (.slc tSent) a1.2.1), (5, .val i64 v402)], vr := [], lent := [] })
noncomputable def X0_0 (K : Ex → St → Option Out) (a1 : Arg) : (Unit) → Option Out := fun z => K (.exit 0) ({ n := 27, sl := [], vr := [], lent := [] })
noncomputable def b0 (self : Int → Option Out) (e0 : (Unit) → Option Out) (a1 : Arg) (v402 : Int) : Option Out := bif decide (v402 < (a1.1.length : Int)) then (if 0 ≤ v402 then ((a1.1[v402.toNat]?).bind fun x603 => if 0 ≤ v402 then ((a1.2.1[v402.toNat]?).bind fun x604 => (laws_eqSent.sem (x603, x604, ())).bind fun r605 => bif !r605.1 then (some (false, ())) else self (w64 (v402 + (1 : Int)))) else none) else none) else e0 ()
noncomputable def B0 (k : Nat) (self : Int → Option Out) (e0 : (Unit) → Option Out) (a1 : Arg) (v402 : Int) : Option Out := b0 self e0 a1 v402
theorem b0_eq (k : Nat) (rec : St → Option Out) (K : Ex → St → Option Out) (a1 : Arg) (v402 : Int) : codeK E k fin (sub [1, 1, 0, 1, 0, 0] C) ({ n := 27, sl := [(0, .val (.slc tSent) a1.1), (1, .val (.slc tSent) a1.2.1), (5, .val i64 v402)], vr := [], lent := [] }) (loopC rec (keepF [0, 1, 5] []) K) = b0 (S0 rec a1) (X0_0 K a1) a1 v402 := by kernel_rfl
theorem B0_eq (k : Nat) (rec : St → Option Out) (K : Ex → St → Option Out) (a1 : Arg) (v402 : Int) : codeK E k fin (sub [1, 1, 0, 1, 0, 0] C) ({ n := 27, sl := [(0, .val (.slc tSent) a1.1), (1, .val (.slc tSent) a1.2.1), (5, .val i64 v402)], vr := [], lent := [] }) (loopC rec (keepF [0, 1, 5] []) K) = B0 k (S0 rec a1) (X0_0 K a1) a1 v402 := (b0_eq k rec K a1 v402).trans (by rfl)
noncomputable def l0 (k : Nat) (a1 : Arg) (e0 : (Unit) → Option Out) (v : Int) : Option Out := rawIter (fun self v => B0 k self e0 a1 v) k v
theorem l0_eq (k : Nat) (K : Ex → St → Option Out) (a1 : Arg) (v402 : Int) : iterK (codeK E k fin (sub [1, 1, 0, 1, 0, 0] C)) (keepF [0, 1, 5] []) K k ({ n := 27, sl := [(0, .val (.slc tSent) a1.1), (1, .val (.slc tSent) a1.2.1), (5, .val i64 v402)], vr := [], lent := [] }) = l0 k a1 (X0_0 K a1) v402 :=
  iter_raw _ _ K (fun v402 => ({ n := 27, sl := [(0, .val (.slc tSent) a1.1), (1, .val (.slc tSent) a1.2.1), (5, .val i64 v402)], vr := [], lent := [] } : St)) (fun self v => B0 k self (X0_0 K a1) a1 v) (fun rec v => B0_eq k rec K a1 v) k v402
noncomputable def q0 (a1 : Arg) (z606 : (Unit)) : Option Out := some (true, ())
noncomputable def Q0 (k : Nat) (a1 : Arg) (z606 : (Unit)) : Option Out := q0 a1 z606
theorem q0_eq (k : Nat) (a1 : Arg) (z606 : (Unit)) : (blockC 0 (seqC (codeK E k fin (sub [1, 1, 1] C)) K0)) (.exit 0) ({ n := 27, sl := [], vr := [], lent := [] }) = q0 a1 z606 := by kernel_rfl
theorem Q0_eq (k : Nat) (a1 : Arg) (z606 : (Unit)) : (blockC 0 (seqC (codeK E k fin (sub [1, 1, 1] C)) K0)) (.exit 0) ({ n := 27, sl := [], vr := [], lent := [] }) = Q0 k a1 z606 := (q0_eq k a1 z606).trans (by rfl)
noncomputable def s0 (k : Nat) (a1 : Arg) : (Int) → Option Out := fun v402 => iterK (codeK E k fin (sub [1, 1, 0, 1, 0, 0] C)) (keepF [0, 1, 5] []) (blockC 0 (seqC (codeK E k fin (sub [1, 1, 1] C)) K0)) k ({ n := 27, sl := [(0, .val (.slc tSent) a1.1), (1, .val (.slc tSent) a1.2.1), (5, .val i64 v402)], vr := [], lent := [] })
noncomputable def r0 (k : Nat) (a1 : Arg) : (Int) → Option Out := fun v402 => l0 k a1 (fun z => Q0 k a1 z) v402
theorem s0_eq (k : Nat) (a1 : Arg) : s0 k a1 = r0 k a1 := by
  funext v402;
  have h0 : X0_0 ((blockC 0 (seqC (codeK E k fin (sub [1, 1, 1] C)) K0))) a1 = fun z => Q0 k a1 z := funext fun z => Q0_eq k a1 z
  refine (l0_eq k ((blockC 0 (seqC (codeK E k fin (sub [1, 1, 1] C)) K0))) a1 v402).trans ?_
  rw [h0]
  rfl
noncomputable def p (l0 : (Int) → Option Out) (a1 : Arg) : Option Out := bif !decide ((a1.1.length : Int) = (a1.2.1.length : Int)) then (some (false, ())) else l0 (0 : Int)
noncomputable def raw (k : Nat) (a1 : Arg) : Option Out := p (r0 k a1) a1
theorem p_eq (k : Nat) (a1 : Arg) : bodyK E k Go.Proofs.Try.f16 ps rs [] [] a1 = p (s0 k a1) a1 := by kernel_rfl
theorem raw_eq (k : Nat) (a1 : Arg) : bodyK E k Go.Proofs.Try.f16 ps rs [] [] a1 = raw k a1 := (p_eq k a1).trans (by rw [s0_eq]; rfl)
theorem ent : EnterOk Go.Proofs.Try.prog 16 sig.cap := ⟨Go.Proofs.Try.f16, Go.Proofs.Try.func16, by kernel_rfl, by kernel_rfl, by kernel_rfl⟩
theorem env : EnvOk Go.Proofs.Try.prog E := env_ok (tl := [(25, (.slc tSent)), (143, tSent)]) (gl := [(89, laws_eqSent.sig)]) rfl rfl (by kernel_rfl) (by kernel_rfl) (fn_cons laws_eqSent.snd laws_eqSent.ent (fn_nil _))
theorem chk : funOk Go.Proofs.Try.prog E Go.Proofs.Try.f16 ps rs [] = true := by kernel_rfl
theorem snd : Sound Go.Proofs.Try.prog 16 sig := sound_of_body env Go.Proofs.Try.func16 rfl (es := []) (fr := []) chk (fun _ _ h => lift_some h)
end laws_eqSentS
namespace spec_l1In
/-! loop example g00408 spec l1In -/
abbrev Arg : Type := Int × Int × Int × Unit
abbrev Out : Type := Bool × Unit
noncomputable def ps : List (PM × Ty) := [(.ro, i64), (.ro, i64), (.ro, i64)]
noncomputable def rs : List (Ty × Md) := [(.bool, (roMd .bool))]
noncomputable def E : Env := { TI := lookN [], G := lookN [], fz := [], lv := [], lx := [], lf := [], od := [] }
noncomputable def sem (a : Arg) : Option Out := lift fun k => bodyK E k Go.Proofs.Try.f90 ps rs [] [] a
noncomputable def sig : Sig := { ps := ps, rs := rs, F := fun a => sem a }
noncomputable def C : Code := bodyOf Go.Proofs.Try.f90
noncomputable def fin : St → Option Out := outK ps rs [] (Func.results Go.Proofs.Try.f90).toList (mvs [])
noncomputable def K0 : Ex → St → Option Out := endK fin
noncomputable def p (a1 : Arg) : Option Out := bif decide (a1.2.1 ≤ a1.1) then (some (decide (a1.1 ≤ a1.2.2.1), ())) else some (false, ())
noncomputable def raw (k : Nat) (a1 : Arg) : Option Out := p a1
theorem p_eq (k : Nat) (a1 : Arg) : bodyK E k Go.Proofs.Try.f90 ps rs [] [] a1 = p a1 := by kernel_rfl
theorem raw_eq (k : Nat) (a1 : Arg) : bodyK E k Go.Proofs.Try.f90 ps rs [] [] a1 = raw k a1 := (p_eq k a1).trans (by rfl)
theorem ent : EnterOk Go.Proofs.Try.prog 90 sig.cap := ⟨Go.Proofs.Try.f90, Go.Proofs.Try.func90, by kernel_rfl, by kernel_rfl, by kernel_rfl⟩
theorem env : EnvOk Go.Proofs.Try.prog E := env_ok (tl := []) (gl := []) rfl rfl (by kernel_rfl) (by kernel_rfl) (fn_nil _)
theorem chk : funOk Go.Proofs.Try.prog E Go.Proofs.Try.f90 ps rs [] = true := by kernel_rfl
theorem snd : Sound Go.Proofs.Try.prog 90 sig := sound_of_body env Go.Proofs.Try.func90 rfl (es := []) (fr := []) chk (fun _ _ h => lift_some h)
end spec_l1In
namespace impl_in
/-! loop example g00408 impl in -/
abbrev Arg : Type := Int × Int × Int × Unit
abbrev Out : Type := Bool × Unit
noncomputable def ps : List (PM × Ty) := [(.ro, i64), (.ro, i64), (.ro, i64)]
noncomputable def rs : List (Ty × Md) := [(.bool, (roMd .bool))]
noncomputable def E : Env := { TI := lookN [], G := lookN [], fz := [], lv := [], lx := [], lf := [], od := [] }
noncomputable def sem (a : Arg) : Option Out := lift fun k => bodyK E k Go.Proofs.Try.f91 ps rs [] [] a
noncomputable def sig : Sig := { ps := ps, rs := rs, F := fun a => sem a }
noncomputable def C : Code := bodyOf Go.Proofs.Try.f91
noncomputable def fin : St → Option Out := outK ps rs [] (Func.results Go.Proofs.Try.f91).toList (mvs [])
noncomputable def K0 : Ex → St → Option Out := endK fin
noncomputable def p (a1 : Arg) : Option Out := bif decide (a1.2.1 ≤ a1.1) then (some (decide (a1.1 ≤ a1.2.2.1), ())) else some (false, ())
noncomputable def raw (k : Nat) (a1 : Arg) : Option Out := p a1
theorem p_eq (k : Nat) (a1 : Arg) : bodyK E k Go.Proofs.Try.f91 ps rs [] [] a1 = p a1 := by kernel_rfl
theorem raw_eq (k : Nat) (a1 : Arg) : bodyK E k Go.Proofs.Try.f91 ps rs [] [] a1 = raw k a1 := (p_eq k a1).trans (by rfl)
theorem ent : EnterOk Go.Proofs.Try.prog 91 sig.cap := ⟨Go.Proofs.Try.f91, Go.Proofs.Try.func91, by kernel_rfl, by kernel_rfl, by kernel_rfl⟩
theorem env : EnvOk Go.Proofs.Try.prog E := env_ok (tl := []) (gl := []) rfl rfl (by kernel_rfl) (by kernel_rfl) (fn_nil _)
theorem chk : funOk Go.Proofs.Try.prog E Go.Proofs.Try.f91 ps rs [] = true := by kernel_rfl
theorem snd : Sound Go.Proofs.Try.prog 91 sig := sound_of_body env Go.Proofs.Try.func91 rfl (es := []) (fr := []) chk (fun _ _ h => lift_some h)
end impl_in
namespace laws_eqRowS
/-! loop example g00408 laws eqRowS -/
abbrev Arg : Type := (List Row) × (List Row) × Unit
abbrev Out : Type := Bool × Unit
noncomputable def ps : List (PM × Ty) := [(.ro, (.slc tRow)), (.ro, (.slc tRow))]
noncomputable def rs : List (Ty × Md) := [(.bool, (roMd .bool))]
noncomputable def E : Env := { TI := lookN [(28, (.slc tRow)), (128, tRow)], G := lookN [(146, laws_eqRow.sig)], fz := [], lv := [(4, [0, 1, 5])], lx := [(0, [])], lf := [], od := [(6, [0, 1, 2, 3, 4, 5, 6, 7, 8, 9])] }
noncomputable def sem (a : Arg) : Option Out := lift fun k => bodyK E k Go.Proofs.Try.f62 ps rs [] [] a
noncomputable def sig : Sig := { ps := ps, rs := rs, F := fun a => sem a }
noncomputable def C : Code := bodyOf Go.Proofs.Try.f62
noncomputable def fin : St → Option Out := outK ps rs [] (Func.results Go.Proofs.Try.f62).toList (mvs [])
noncomputable def K0 : Ex → St → Option Out := endK fin
noncomputable def S0 (rec : St → Option Out) (a1 : Arg) : (Int) → Option Out := fun v402 => rec ({ n := 27, sl := [(0, .val (.slc tRow) a1.1), (1, .val (.slc tRow) a1.2.1), (5, .val i64 v402)], vr := [], lent := [] })
noncomputable def X0_0 (K : Ex → St → Option Out) (a1 : Arg) : (Unit) → Option Out := fun z => K (.exit 0) ({ n := 27, sl := [], vr := [], lent := [] })
noncomputable def b0 (self : Int → Option Out) (e0 : (Unit) → Option Out) (a1 : Arg) (v402 : Int) : Option Out := bif decide (v402 < (a1.1.length : Int)) then (if 0 ≤ v402 then ((a1.1[v402.toNat]?).bind fun x603 => if 0 ≤ v402 then ((a1.2.1[v402.toNat]?).bind fun x604 => (laws_eqRow.sem (x603, x604, ())).bind fun r605 => bif !r605.1 then (some (false, ())) else self (w64 (v402 + (1 : Int)))) else none) else none) else e0 ()
noncomputable def B0 (k : Nat) (self : Int → Option Out) (e0 : (Unit) → Option Out) (a1 : Arg) (v402 : Int) : Option Out := b0 self e0 a1 v402
theorem b0_eq (k : Nat) (rec : St → Option Out) (K : Ex → St → Option Out) (a1 : Arg) (v402 : Int) : codeK E k fin (sub [1, 1, 0, 1, 0, 0] C) ({ n := 27, sl := [(0, .val (.slc tRow) a1.1), (1, .val (.slc tRow) a1.2.1), (5, .val i64 v402)], vr := [], lent := [] }) (loopC rec (keepF [0, 1, 5] []) K) = b0 (S0 rec a1) (X0_0 K a1) a1 v402 := by kernel_rfl
theorem B0_eq (k : Nat) (rec : St → Option Out) (K : Ex → St → Option Out) (a1 : Arg) (v402 : Int) : codeK E k fin (sub [1, 1, 0, 1, 0, 0] C) ({ n := 27, sl := [(0, .val (.slc tRow) a1.1), (1, .val (.slc tRow) a1.2.1), (5, .val i64 v402)], vr := [], lent := [] }) (loopC rec (keepF [0, 1, 5] []) K) = B0 k (S0 rec a1) (X0_0 K a1) a1 v402 := (b0_eq k rec K a1 v402).trans (by rfl)
noncomputable def l0 (k : Nat) (a1 : Arg) (e0 : (Unit) → Option Out) (v : Int) : Option Out := rawIter (fun self v => B0 k self e0 a1 v) k v
theorem l0_eq (k : Nat) (K : Ex → St → Option Out) (a1 : Arg) (v402 : Int) : iterK (codeK E k fin (sub [1, 1, 0, 1, 0, 0] C)) (keepF [0, 1, 5] []) K k ({ n := 27, sl := [(0, .val (.slc tRow) a1.1), (1, .val (.slc tRow) a1.2.1), (5, .val i64 v402)], vr := [], lent := [] }) = l0 k a1 (X0_0 K a1) v402 :=
  iter_raw _ _ K (fun v402 => ({ n := 27, sl := [(0, .val (.slc tRow) a1.1), (1, .val (.slc tRow) a1.2.1), (5, .val i64 v402)], vr := [], lent := [] } : St)) (fun self v => B0 k self (X0_0 K a1) a1 v) (fun rec v => B0_eq k rec K a1 v) k v402
noncomputable def q0 (a1 : Arg) (z606 : (Unit)) : Option Out := some (true, ())
noncomputable def Q0 (k : Nat) (a1 : Arg) (z606 : (Unit)) : Option Out := q0 a1 z606
theorem q0_eq (k : Nat) (a1 : Arg) (z606 : (Unit)) : (blockC 0 (seqC (codeK E k fin (sub [1, 1, 1] C)) K0)) (.exit 0) ({ n := 27, sl := [], vr := [], lent := [] }) = q0 a1 z606 := by kernel_rfl
theorem Q0_eq (k : Nat) (a1 : Arg) (z606 : (Unit)) : (blockC 0 (seqC (codeK E k fin (sub [1, 1, 1] C)) K0)) (.exit 0) ({ n := 27, sl := [], vr := [], lent := [] }) = Q0 k a1 z606 := (q0_eq k a1 z606).trans (by rfl)
noncomputable def s0 (k : Nat) (a1 : Arg) : (Int) → Option Out := fun v402 => iterK (codeK E k fin (sub [1, 1, 0, 1, 0, 0] C)) (keepF [0, 1, 5] []) (blockC 0 (seqC (codeK E k fin (sub [1, 1, 1] C)) K0)) k ({ n := 27, sl := [(0, .val (.slc tRow) a1.1), (1, .val (.slc tRow) a1.2.1), (5, .val i64 v402)], vr := [], lent := [] })
noncomputable def r0 (k : Nat) (a1 : Arg) : (Int) → Option Out := fun v402 => l0 k a1 (fun z => Q0 k a1 z) v402
theorem s0_eq (k : Nat) (a1 : Arg) : s0 k a1 = r0 k a1 := by
  funext v402;
  have h0 : X0_0 ((blockC 0 (seqC (codeK E k fin (sub [1, 1, 1] C)) K0))) a1 = fun z => Q0 k a1 z := funext fun z => Q0_eq k a1 z
  refine (l0_eq k ((blockC 0 (seqC (codeK E k fin (sub [1, 1, 1] C)) K0))) a1 v402).trans ?_
  rw [h0]
  rfl
noncomputable def p (l0 : (Int) → Option Out) (a1 : Arg) : Option Out := bif !decide ((a1.1.length : Int) = (a1.2.1.length : Int)) then (some (false, ())) else l0 (0 : Int)
noncomputable def raw (k : Nat) (a1 : Arg) : Option Out := p (r0 k a1) a1
theorem p_eq (k : Nat) (a1 : Arg) : bodyK E k Go.Proofs.Try.f62 ps rs [] [] a1 = p (s0 k a1) a1 := by kernel_rfl
theorem raw_eq (k : Nat) (a1 : Arg) : bodyK E k Go.Proofs.Try.f62 ps rs [] [] a1 = raw k a1 := (p_eq k a1).trans (by rw [s0_eq]; rfl)
theorem ent : EnterOk Go.Proofs.Try.prog 62 sig.cap := ⟨Go.Proofs.Try.f62, Go.Proofs.Try.func62, by kernel_rfl, by kernel_rfl, by kernel_rfl⟩
theorem env : EnvOk Go.Proofs.Try.prog E := env_ok (tl := [(28, (.slc tRow)), (128, tRow)]) (gl := [(146, laws_eqRow.sig)]) rfl rfl (by kernel_rfl) (by kernel_rfl) (fn_cons laws_eqRow.snd laws_eqRow.ent (fn_nil _))
theorem chk : funOk Go.Proofs.Try.prog E Go.Proofs.Try.f62 ps rs [] = true := by kernel_rfl
theorem snd : Sound Go.Proofs.Try.prog 62 sig := sound_of_body env Go.Proofs.Try.func62 rfl (es := []) (fr := []) chk (fun _ _ h => lift_some h)
end laws_eqRowS
namespace laws_markText
/-! loop example g00408 laws markText -/
abbrev Arg : Type := Int × Unit
abbrev Out : Type := (List UInt8) × Unit
noncomputable def ps : List (PM × Ty) := [(.ro, i64)]
noncomputable def rs : List (Ty × Md) := [(.str, (roMd .str))]
noncomputable def E : Env := { TI := lookN [(3, i64), (5, u8), (9, .str), (39, (.slc u8))], G := lookN [], fz := [], lv := [(4, [0, 3])], lx := [(0, [3])], lf := [], od := [] }
noncomputable def sem (a : Arg) : Option Out := lift fun k => bodyK E k Go.Proofs.Try.f147 ps rs [] [] a
noncomputable def sig : Sig := { ps := ps, rs := rs, F := fun a => sem a }
noncomputable def C : Code := bodyOf Go.Proofs.Try.f147
noncomputable def fin : St → Option Out := outK ps rs [] (Func.results Go.Proofs.Try.f147).toList (mvs [])
noncomputable def K0 : Ex → St → Option Out := endK fin
noncomputable def S0 (rec : St → Option Out) (a1 : Arg) : (Int × (List UInt8)) → Option Out := fun v402 => rec ({ n := 20, sl := [(0, .val i64 v402.1), (3, .val .str v402.2)], vr := [], lent := [] })
noncomputable def X0_0 (K : Ex → St → Option Out) (a1 : Arg) : (List UInt8) → Option Out := fun z => K (.exit 0) ({ n := 20, sl := [(3, .val .str z)], vr := [], lent := [] })
noncomputable def b0 (self : (Int × (List UInt8)) → Option Out) (e0 : (List UInt8) → Option Out) (a1 : Arg) (v402 : Int × (List UInt8)) : Option Out := bif decide ((0 : Int) < v402.1) then (if [UInt8.ofInt (w64 ((48 : Int) + (v402.1.tmod (10 : Int))))].length + v402.2.length ≤ CAP then (self (w64 (v402.1.tdiv (10 : Int)), [UInt8.ofInt (w64 ((48 : Int) + (v402.1.tmod (10 : Int))))] ++ v402.2)) else none) else e0 v402.2
noncomputable def B0 (k : Nat) (self : (Int × (List UInt8)) → Option Out) (e0 : (List UInt8) → Option Out) (a1 : Arg) (v402 : Int × (List UInt8)) : Option Out := b0 self e0 a1 v402
theorem b0_eq (k : Nat) (rec : St → Option Out) (K : Ex → St → Option Out) (a1 : Arg) (v402 : Int × (List UInt8)) : codeK E k fin (sub [1, 1, 1, 0, 0, 0] C) ({ n := 20, sl := [(0, .val i64 v402.1), (3, .val .str v402.2)], vr := [], lent := [] }) (loopC rec (keepF [0, 3] []) K) = b0 (S0 rec a1) (X0_0 K a1) a1 v402 := by kernel_rfl
theorem B0_eq (k : Nat) (rec : St → Option Out) (K : Ex → St → Option Out) (a1 : Arg) (v402 : Int × (List UInt8)) : codeK E k fin (sub [1, 1, 1, 0, 0, 0] C) ({ n := 20, sl := [(0, .val i64 v402.1), (3, .val .str v402.2)], vr := [], lent := [] }) (loopC rec (keepF [0, 3] []) K) = B0 k (S0 rec a1) (X0_0 K a1) a1 v402 := (b0_eq k rec K a1 v402).trans (by rfl)
noncomputable def l0 (k : Nat) (a1 : Arg) (e0 : (List UInt8) → Option Out) (v : Int × (List UInt8)) : Option Out := rawIter (fun self v => B0 k self e0 a1 v) k v
theorem l0_eq (k : Nat) (K : Ex → St → Option Out) (a1 : Arg) (v402 : Int × (List UInt8)) : iterK (codeK E k fin (sub [1, 1, 1, 0, 0, 0] C)) (keepF [0, 3] []) K k ({ n := 20, sl := [(0, .val i64 v402.1), (3, .val .str v402.2)], vr := [], lent := [] }) = l0 k a1 (X0_0 K a1) v402 :=
  iter_raw _ _ K (fun v402 => ({ n := 20, sl := [(0, .val i64 v402.1), (3, .val .str v402.2)], vr := [], lent := [] } : St)) (fun self v => B0 k self (X0_0 K a1) a1 v) (fun rec v => B0_eq k rec K a1 v) k v402
noncomputable def q0 (a1 : Arg) (z603 : (List UInt8)) : Option Out := if ([109] : List UInt8).length + z603.length ≤ CAP then (some (([109] : List UInt8) ++ z603, ())) else none
noncomputable def Q0 (k : Nat) (a1 : Arg) (z603 : (List UInt8)) : Option Out := q0 a1 z603
theorem q0_eq (k : Nat) (a1 : Arg) (z603 : (List UInt8)) : (blockC 0 (seqC (codeK E k fin (sub [1, 1, 1, 1] C)) K0)) (.exit 0) ({ n := 20, sl := [(3, .val .str z603)], vr := [], lent := [] }) = q0 a1 z603 := by kernel_rfl
theorem Q0_eq (k : Nat) (a1 : Arg) (z603 : (List UInt8)) : (blockC 0 (seqC (codeK E k fin (sub [1, 1, 1, 1] C)) K0)) (.exit 0) ({ n := 20, sl := [(3, .val .str z603)], vr := [], lent := [] }) = Q0 k a1 z603 := (q0_eq k a1 z603).trans (by rfl)
noncomputable def s0 (k : Nat) (a1 : Arg) : (Int × (List UInt8)) → Option Out := fun v402 => iterK (codeK E k fin (sub [1, 1, 1, 0, 0, 0] C)) (keepF [0, 3] []) (blockC 0 (seqC (codeK E k fin (sub [1, 1, 1, 1] C)) K0)) k ({ n := 20, sl := [(0, .val i64 v402.1), (3, .val .str v402.2)], vr := [], lent := [] })
noncomputable def r0 (k : Nat) (a1 : Arg) : (Int × (List UInt8)) → Option Out := fun v402 => l0 k a1 (fun z => Q0 k a1 z) v402
theorem s0_eq (k : Nat) (a1 : Arg) : s0 k a1 = r0 k a1 := by
  funext v402;
  have h0 : X0_0 ((blockC 0 (seqC (codeK E k fin (sub [1, 1, 1, 1] C)) K0))) a1 = fun z => Q0 k a1 z := funext fun z => Q0_eq k a1 z
  refine (l0_eq k ((blockC 0 (seqC (codeK E k fin (sub [1, 1, 1, 1] C)) K0))) a1 v402).trans ?_
  rw [h0]
  rfl
noncomputable def p (l0 : (Int × (List UInt8)) → Option Out) (a1 : Arg) : Option Out := bif decide (a1.1 ≤ (0 : Int)) then (some (([109, 48] : List UInt8), ())) else l0 (a1.1, ([] : List UInt8))
noncomputable def raw (k : Nat) (a1 : Arg) : Option Out := p (r0 k a1) a1
theorem p_eq (k : Nat) (a1 : Arg) : bodyK E k Go.Proofs.Try.f147 ps rs [] [] a1 = p (s0 k a1) a1 := by kernel_rfl
theorem raw_eq (k : Nat) (a1 : Arg) : bodyK E k Go.Proofs.Try.f147 ps rs [] [] a1 = raw k a1 := (p_eq k a1).trans (by rw [s0_eq]; rfl)
theorem ent : EnterOk Go.Proofs.Try.prog 147 sig.cap := ⟨Go.Proofs.Try.f147, Go.Proofs.Try.func147, by kernel_rfl, by kernel_rfl, by kernel_rfl⟩
theorem env : EnvOk Go.Proofs.Try.prog E := env_ok (tl := [(3, i64), (5, u8), (9, .str), (39, (.slc u8))]) (gl := []) rfl rfl (by kernel_rfl) (by kernel_rfl) (fn_nil _)
theorem chk : funOk Go.Proofs.Try.prog E Go.Proofs.Try.f147 ps rs [] = true := by kernel_rfl
theorem snd : Sound Go.Proofs.Try.prog 147 sig := sound_of_body env Go.Proofs.Try.func147 rfl (es := []) (fr := []) chk (fun _ _ h => lift_some h)
end laws_markText
namespace laws_markRowS
/-! loop example g00408 laws markRowS -/
abbrev Arg : Type := (List Row) × Int × Unit
abbrev Out : Type := Int × (List Row) × Unit
noncomputable def ps : List (PM × Ty) := [(.muts (ownMd (.slc tRow)), (.slc tRow)), (.ro, i64)]
noncomputable def rs : List (Ty × Md) := [(i64, (roMd i64))]
noncomputable def E : Env := { TI := lookN [(2, i64), (9, .str), (28, (.slc tRow)), (128, tRow)], G := lookN [(147, laws_markText.sig)], fz := [], lv := [(2, [0, 1, 5])], lx := [(0, [0, 1])], lf := [], od := [] }
noncomputable def sem (a : Arg) : Option Out := lift fun k => bodyK E k Go.Proofs.Try.f63 ps rs [0] [] a
noncomputable def sig : Sig := { ps := ps, rs := rs, F := fun a => sem a }
noncomputable def C : Code := bodyOf Go.Proofs.Try.f63
noncomputable def fin : St → Option Out := outK ps rs [0] (Func.results Go.Proofs.Try.f63).toList (mvs [])
noncomputable def K0 : Ex → St → Option Out := endK fin
noncomputable def S0 (rec : St → Option Out) (a1 : Arg) : ((List Row) × Int × Int) → Option Out := fun v402 => rec ({ n := 42, sl := [(0, .own (.slc tRow) (ownMd (.slc tRow)) [] v402.1), (1, .val i64 v402.2.1), (5, .val i64 v402.2.2)], vr := [], lent := [(0, 0, true)] })
noncomputable def X0_0 (K : Ex → St → Option Out) (a1 : Arg) : ((List Row) × Int) → Option Out := fun z => K (.exit 0) ({ n := 42, sl := [(0, .own (.slc tRow) (ownMd (.slc tRow)) [] z.1), (1, .val i64 z.2)], vr := [], lent := [(0, 0, true)] })
noncomputable def b0 (self : ((List Row) × Int × Int) → Option Out) (e0 : ((List Row) × Int) → Option Out) (a1 : Arg) (v402 : (List Row) × Int × Int) : Option Out := bif decide (v402.2.2 < (v402.1.length : Int)) then (if 0 ≤ v402.2.2 ∧ v402.2.2 < (v402.1.length : Int) then ((v402.1[v402.2.2.toNat]?).bind fun x603 => let y604 := v402.1.set v402.2.2.toNat (v402.2.1, x603.2); if 0 ≤ v402.2.2 ∧ v402.2.2 < (y604.length : Int) then ((y604[v402.2.2.toNat]?).bind fun x605 => let y606 := y604.set v402.2.2.toNat (x605.1, w64 (v402.2.1 + (1 : Int)), x605.2.2); if 0 ≤ v402.2.2 ∧ v402.2.2 < (y606.length : Int) then ((y606[v402.2.2.toNat]?).bind fun x607 => let y608 := y606.set v402.2.2.toNat (x607.1, x607.2.1, w64 ((w64 (v402.2.1 + (1 : Int))) + (1 : Int)), x607.2.2.2); (laws_markText.sem (w64 ((w64 ((w64 (v402.2.1 + (1 : Int))) + (1 : Int))) + (1 : Int)), ())).bind fun r609 => if 0 ≤ v402.2.2 ∧ v402.2.2 < (y608.length : Int) then ((y608[v402.2.2.toNat]?).bind fun x610 => let y611 := y608.set v402.2.2.toNat (x610.1, x610.2.1, x610.2.2.1, r609.1, x610.2.2.2.2); self (y611, w64 ((w64 ((w64 ((w64 (v402.2.1 + (1 : Int))) + (1 : Int))) + (1 : Int))) + (1 : Int)), w64 (v402.2.2 + (1 : Int)))) else none) else none) else none) else none) else e0 (v402.1, v402.2.1)
noncomputable def B0 (k : Nat) (self : ((List Row) × Int × Int) → Option Out) (e0 : ((List Row) × Int) → Option Out) (a1 : Arg) (v402 : (List Row) × Int × Int) : Option Out := b0 self e0 a1 v402
theorem b0_eq (k : Nat) (rec : St → Option Out) (K : Ex → St → Option Out) (a1 : Arg) (v402 : (List Row) × Int × Int) : codeK E k fin (sub [1, 0, 1, 0, 0] C) ({ n := 42, sl := [(0, .own (.slc tRow) (ownMd (.slc tRow)) [] v402.1), (1, .val i64 v402.2.1), (5, .val i64 v402.2.2)], vr := [], lent := [(0, 0, true)] }) (loopC rec (keepF [0, 1, 5] []) K) = b0 (S0 rec a1) (X0_0 K a1) a1 v402 := by kernel_rfl
theorem B0_eq (k : Nat) (rec : St → Option Out) (K : Ex → St → Option Out) (a1 : Arg) (v402 : (List Row) × Int × Int) : codeK E k fin (sub [1, 0, 1, 0, 0] C) ({ n := 42, sl := [(0, .own (.slc tRow) (ownMd (.slc tRow)) [] v402.1), (1, .val i64 v402.2.1), (5, .val i64 v402.2.2)], vr := [], lent := [(0, 0, true)] }) (loopC rec (keepF [0, 1, 5] []) K) = B0 k (S0 rec a1) (X0_0 K a1) a1 v402 := (b0_eq k rec K a1 v402).trans (by rfl)
noncomputable def l0 (k : Nat) (a1 : Arg) (e0 : ((List Row) × Int) → Option Out) (v : (List Row) × Int × Int) : Option Out := rawIter (fun self v => B0 k self e0 a1 v) k v
theorem l0_eq (k : Nat) (K : Ex → St → Option Out) (a1 : Arg) (v402 : (List Row) × Int × Int) : iterK (codeK E k fin (sub [1, 0, 1, 0, 0] C)) (keepF [0, 1, 5] []) K k ({ n := 42, sl := [(0, .own (.slc tRow) (ownMd (.slc tRow)) [] v402.1), (1, .val i64 v402.2.1), (5, .val i64 v402.2.2)], vr := [], lent := [(0, 0, true)] }) = l0 k a1 (X0_0 K a1) v402 :=
  iter_raw _ _ K (fun v402 => ({ n := 42, sl := [(0, .own (.slc tRow) (ownMd (.slc tRow)) [] v402.1), (1, .val i64 v402.2.1), (5, .val i64 v402.2.2)], vr := [], lent := [(0, 0, true)] } : St)) (fun self v => B0 k self (X0_0 K a1) a1 v) (fun rec v => B0_eq k rec K a1 v) k v402
noncomputable def q0 (a1 : Arg) (z612 : ((List Row) × Int)) : Option Out := some (z612.2, z612.1, ())
noncomputable def Q0 (k : Nat) (a1 : Arg) (z612 : ((List Row) × Int)) : Option Out := q0 a1 z612
theorem q0_eq (k : Nat) (a1 : Arg) (z612 : ((List Row) × Int)) : (blockC 0 (seqC (codeK E k fin (sub [1, 1] C)) K0)) (.exit 0) ({ n := 42, sl := [(0, .own (.slc tRow) (ownMd (.slc tRow)) [] z612.1), (1, .val i64 z612.2)], vr := [], lent := [(0, 0, true)] }) = q0 a1 z612 := by kernel_rfl
theorem Q0_eq (k : Nat) (a1 : Arg) (z612 : ((List Row) × Int)) : (blockC 0 (seqC (codeK E k fin (sub [1, 1] C)) K0)) (.exit 0) ({ n := 42, sl := [(0, .own (.slc tRow) (ownMd (.slc tRow)) [] z612.1), (1, .val i64 z612.2)], vr := [], lent := [(0, 0, true)] }) = Q0 k a1 z612 := (q0_eq k a1 z612).trans (by rfl)
noncomputable def s0 (k : Nat) (a1 : Arg) : ((List Row) × Int × Int) → Option Out := fun v402 => iterK (codeK E k fin (sub [1, 0, 1, 0, 0] C)) (keepF [0, 1, 5] []) (blockC 0 (seqC (codeK E k fin (sub [1, 1] C)) K0)) k ({ n := 42, sl := [(0, .own (.slc tRow) (ownMd (.slc tRow)) [] v402.1), (1, .val i64 v402.2.1), (5, .val i64 v402.2.2)], vr := [], lent := [(0, 0, true)] })
noncomputable def r0 (k : Nat) (a1 : Arg) : ((List Row) × Int × Int) → Option Out := fun v402 => l0 k a1 (fun z => Q0 k a1 z) v402
theorem s0_eq (k : Nat) (a1 : Arg) : s0 k a1 = r0 k a1 := by
  funext v402;
  have h0 : X0_0 ((blockC 0 (seqC (codeK E k fin (sub [1, 1] C)) K0))) a1 = fun z => Q0 k a1 z := funext fun z => Q0_eq k a1 z
  refine (l0_eq k ((blockC 0 (seqC (codeK E k fin (sub [1, 1] C)) K0))) a1 v402).trans ?_
  rw [h0]
  rfl
noncomputable def p (l0 : ((List Row) × Int × Int) → Option Out) (a1 : Arg) : Option Out := l0 (a1.1, a1.2.1, (0 : Int))
noncomputable def raw (k : Nat) (a1 : Arg) : Option Out := p (r0 k a1) a1
theorem p_eq (k : Nat) (a1 : Arg) : bodyK E k Go.Proofs.Try.f63 ps rs [0] [] a1 = p (s0 k a1) a1 := by kernel_rfl
theorem raw_eq (k : Nat) (a1 : Arg) : bodyK E k Go.Proofs.Try.f63 ps rs [0] [] a1 = raw k a1 := (p_eq k a1).trans (by rw [s0_eq]; rfl)
theorem ent : EnterOk Go.Proofs.Try.prog 63 sig.cap := ⟨Go.Proofs.Try.f63, Go.Proofs.Try.func63, by kernel_rfl, by kernel_rfl, by kernel_rfl⟩
theorem env : EnvOk Go.Proofs.Try.prog E := env_ok (tl := [(2, i64), (9, .str), (28, (.slc tRow)), (128, tRow)]) (gl := [(147, laws_markText.sig)]) rfl rfl (by kernel_rfl) (by kernel_rfl) (fn_cons laws_markText.snd laws_markText.ent (fn_nil _))
theorem chk : funOk Go.Proofs.Try.prog E Go.Proofs.Try.f63 ps rs [0] = true := by kernel_rfl
theorem snd : Sound Go.Proofs.Try.prog 63 sig := sound_of_body env Go.Proofs.Try.func63 rfl (es := [0]) (fr := []) chk (fun _ _ h => lift_some h)
end laws_markRowS
namespace laws_markChangeS
/-! loop example g00408 laws markChangeS -/
abbrev Arg : Type := (List Change) × Int × Unit
abbrev Out : Type := Int × (List Change) × Unit
noncomputable def ps : List (PM × Ty) := [(.muts (ownMd (.slc tChange)), (.slc tChange)), (.ro, i64)]
noncomputable def rs : List (Ty × Md) := [(i64, (roMd i64))]
noncomputable def E : Env := { TI := lookN [(2, i64), (4, .bool), (9, .str), (128, tRow), (130, tChange), (141, (.slc tChange))], G := lookN [(147, laws_markText.sig)], fz := [], lv := [(2, [0, 1, 5])], lx := [(0, [0, 1])], lf := [], od := [] }
noncomputable def sem (a : Arg) : Option Out := lift fun k => bodyK E k Go.Proofs.Try.f148 ps rs [0] [] a
noncomputable def sig : Sig := { ps := ps, rs := rs, F := fun a => sem a }
noncomputable def C : Code := bodyOf Go.Proofs.Try.f148
noncomputable def fin : St → Option Out := outK ps rs [0] (Func.results Go.Proofs.Try.f148).toList (mvs [])
noncomputable def K0 : Ex → St → Option Out := endK fin
noncomputable def S0 (rec : St → Option Out) (a1 : Arg) : ((List Change) × Int × Int) → Option Out := fun v402 => rec ({ n := 97, sl := [(0, .own (.slc tChange) (ownMd (.slc tChange)) [] v402.1), (1, .val i64 v402.2.1), (5, .val i64 v402.2.2)], vr := [], lent := [(0, 0, true)] })
noncomputable def X0_0 (K : Ex → St → Option Out) (a1 : Arg) : ((List Change) × Int) → Option Out := fun z => K (.exit 0) ({ n := 97, sl := [(0, .own (.slc tChange) (ownMd (.slc tChange)) [] z.1), (1, .val i64 z.2)], vr := [], lent := [(0, 0, true)] })
noncomputable def b0 (self : ((List Change) × Int × Int) → Option Out) (e0 : ((List Change) × Int) → Option Out) (a1 : Arg) (v402 : (List Change) × Int × Int) : Option Out := bif decide (v402.2.2 < (v402.1.length : Int)) then (if 0 ≤ v402.2.2 ∧ v402.2.2 < (v402.1.length : Int) then ((v402.1[v402.2.2.toNat]?).bind fun x603 => let y604 := v402.1.set v402.2.2.toNat (decide (v402.2.1.tmod (3 : Int) = (0 : Int)), x603.2); if 0 ≤ v402.2.2 ∧ v402.2.2 < (y604.length : Int) then ((y604[v402.2.2.toNat]?).bind fun x605 => let y606 := y604.set v402.2.2.toNat (x605.1, (w64 (v402.2.1 + (1 : Int)), x605.2.1.2), x605.2.2); if 0 ≤ v402.2.2 ∧ v402.2.2 < (y606.length : Int) then ((y606[v402.2.2.toNat]?).bind fun x607 => let y608 := y606.set v402.2.2.toNat (x607.1, (x607.2.1.1, w64 ((w64 (v402.2.1 + (1 : Int))) + (1 : Int)), x607.2.1.2.2), x607.2.2); if 0 ≤ v402.2.2 ∧ v402.2.2 < (y608.length : Int) then ((y608[v402.2.2.toNat]?).bind fun x609 => let y610 := y608.set v402.2.2.toNat (x609.1, (x609.2.1.1, x609.2.1.2.1, w64 ((w64 ((w64 (v402.2.1 + (1 : Int))) + (1 : Int))) + (1 : Int)), x609.2.1.2.2.2), x609.2.2); (laws_markText.sem (w64 ((w64 ((w64 ((w64 (v402.2.1 + (1 : Int))) + (1 : Int))) + (1 : Int))) + (1 : Int)), ())).bind fun r611 => if 0 ≤ v402.2.2 ∧ v402.2.2 < (y610.length : Int) then ((y610[v402.2.2.toNat]?).bind fun x612 => let y613 := y610.set v402.2.2.toNat (x612.1, (x612.2.1.1, x612.2.1.2.1, x612.2.1.2.2.1, r611.1, x612.2.1.2.2.2.2), x612.2.2); if 0 ≤ v402.2.2 ∧ v402.2.2 < (y613.length : Int) then ((y613[v402.2.2.toNat]?).bind fun x614 => let y615 := y613.set v402.2.2.toNat (x614.1, x614.2.1, decide ((w64 ((w64 ((w64 ((w64 ((w64 (v402.2.1 + (1 : Int))) + (1 : Int))) + (1 : Int))) + (1 : Int))) + (1 : Int))).tmod (3 : Int) = (0 : Int)), x614.2.2.2); if 0 ≤ v402.2.2 ∧ v402.2.2 < (y615.length : Int) then ((y615[v402.2.2.toNat]?).bind fun x616 => let y617 := y615.set v402.2.2.toNat (x616.1, x616.2.1, x616.2.2.1, (w64 ((w64 ((w64 ((w64 ((w64 ((w64 (v402.2.1 + (1 : Int))) + (1 : Int))) + (1 : Int))) + (1 : Int))) + (1 : Int))) + (1 : Int)), x616.2.2.2.1.2), x616.2.2.2.2); if 0 ≤ v402.2.2 ∧ v402.2.2 < (y617.length : Int) then ((y617[v402.2.2.toNat]?).bind fun x618 => let y619 := y617.set v402.2.2.toNat (x618.1, x618.2.1, x618.2.2.1, (x618.2.2.2.1.1, w64 ((w64 ((w64 ((w64 ((w64 ((w64 ((w64 (v402.2.1 + (1 : Int))) + (1 : Int))) + (1 : Int))) + (1 : Int))) + (1 : Int))) + (1 : Int))) + (1 : Int)), x618.2.2.2.1.2.2), x618.2.2.2.2); if 0 ≤ v402.2.2 ∧ v402.2.2 < (y619.length : Int) then ((y619[v402.2.2.toNat]?).bind fun x620 => let y621 := y619.set v402.2.2.toNat (x620.1, x620.2.1, x620.2.2.1, (x620.2.2.2.1.1, x620.2.2.2.1.2.1, w64 ((w64 ((w64 ((w64 ((w64 ((w64 ((w64 ((w64 (v402.2.1 + (1 : Int))) + (1 : Int))) + (1 : Int))) + (1 : Int))) + (1 : Int))) + (1 : Int))) + (1 : Int))) + (1 : Int)), x620.2.2.2.1.2.2.2), x620.2.2.2.2); (laws_markText.sem (w64 ((w64 ((w64 ((w64 ((w64 ((w64 ((w64 ((w64 ((w64 (v402.2.1 + (1 : Int))) + (1 : Int))) + (1 : Int))) + (1 : Int))) + (1 : Int))) + (1 : Int))) + (1 : Int))) + (1 : Int))) + (1 : Int)), ())).bind fun r622 => if 0 ≤ v402.2.2 ∧ v402.2.2 < (y621.length : Int) then ((y621[v402.2.2.toNat]?).bind fun x623 => let y624 := y621.set v402.2.2.toNat (x623.1, x623.2.1, x623.2.2.1, (x623.2.2.2.1.1, x623.2.2.2.1.2.1, x623.2.2.2.1.2.2.1, r622.1, x623.2.2.2.1.2.2.2.2), x623.2.2.2.2); self (y624, w64 ((w64 ((w64 ((w64 ((w64 ((w64 ((w64 ((w64 ((w64 ((w64 (v402.2.1 + (1 : Int))) + (1 : Int))) + (1 : Int))) + (1 : Int))) + (1 : Int))) + (1 : Int))) + (1 : Int))) + (1 : Int))) + (1 : Int))) + (1 : Int)), w64 (v402.2.2 + (1 : Int)))) else none) else none) else none) else none) else none) else none) else none) else none) else none) else none) else e0 (v402.1, v402.2.1)
noncomputable def B0 (k : Nat) (self : ((List Change) × Int × Int) → Option Out) (e0 : ((List Change) × Int) → Option Out) (a1 : Arg) (v402 : (List Change) × Int × Int) : Option Out := b0 self e0 a1 v402
theorem b0_eq (k : Nat) (rec : St → Option Out) (K : Ex → St → Option Out) (a1 : Arg) (v402 : (List Change) × Int × Int) : codeK E k fin (sub [1, 0, 1, 0, 0] C) ({ n := 97, sl := [(0, .own (.slc tChange) (ownMd (.slc tChange)) [] v402.1), (1, .val i64 v402.2.1), (5, .val i64 v402.2.2)], vr := [], lent := [(0, 0, true)] }) (loopC rec (keepF [0, 1, 5] []) K) = b0 (S0 rec a1) (X0_0 K a1) a1 v402 := by kernel_rfl
theorem B0_eq (k : Nat) (rec : St → Option Out) (K : Ex → St → Option Out) (a1 : Arg) (v402 : (List Change) × Int × Int) : codeK E k fin (sub [1, 0, 1, 0, 0] C) ({ n := 97, sl := [(0, .own (.slc tChange) (ownMd (.slc tChange)) [] v402.1), (1, .val i64 v402.2.1), (5, .val i64 v402.2.2)], vr := [], lent := [(0, 0, true)] }) (loopC rec (keepF [0, 1, 5] []) K) = B0 k (S0 rec a1) (X0_0 K a1) a1 v402 := (b0_eq k rec K a1 v402).trans (by rfl)
noncomputable def l0 (k : Nat) (a1 : Arg) (e0 : ((List Change) × Int) → Option Out) (v : (List Change) × Int × Int) : Option Out := rawIter (fun self v => B0 k self e0 a1 v) k v
theorem l0_eq (k : Nat) (K : Ex → St → Option Out) (a1 : Arg) (v402 : (List Change) × Int × Int) : iterK (codeK E k fin (sub [1, 0, 1, 0, 0] C)) (keepF [0, 1, 5] []) K k ({ n := 97, sl := [(0, .own (.slc tChange) (ownMd (.slc tChange)) [] v402.1), (1, .val i64 v402.2.1), (5, .val i64 v402.2.2)], vr := [], lent := [(0, 0, true)] }) = l0 k a1 (X0_0 K a1) v402 :=
  iter_raw _ _ K (fun v402 => ({ n := 97, sl := [(0, .own (.slc tChange) (ownMd (.slc tChange)) [] v402.1), (1, .val i64 v402.2.1), (5, .val i64 v402.2.2)], vr := [], lent := [(0, 0, true)] } : St)) (fun self v => B0 k self (X0_0 K a1) a1 v) (fun rec v => B0_eq k rec K a1 v) k v402
noncomputable def q0 (a1 : Arg) (z625 : ((List Change) × Int)) : Option Out := some (z625.2, z625.1, ())
noncomputable def Q0 (k : Nat) (a1 : Arg) (z625 : ((List Change) × Int)) : Option Out := q0 a1 z625
theorem q0_eq (k : Nat) (a1 : Arg) (z625 : ((List Change) × Int)) : (blockC 0 (seqC (codeK E k fin (sub [1, 1] C)) K0)) (.exit 0) ({ n := 97, sl := [(0, .own (.slc tChange) (ownMd (.slc tChange)) [] z625.1), (1, .val i64 z625.2)], vr := [], lent := [(0, 0, true)] }) = q0 a1 z625 := by kernel_rfl
theorem Q0_eq (k : Nat) (a1 : Arg) (z625 : ((List Change) × Int)) : (blockC 0 (seqC (codeK E k fin (sub [1, 1] C)) K0)) (.exit 0) ({ n := 97, sl := [(0, .own (.slc tChange) (ownMd (.slc tChange)) [] z625.1), (1, .val i64 z625.2)], vr := [], lent := [(0, 0, true)] }) = Q0 k a1 z625 := (q0_eq k a1 z625).trans (by rfl)
noncomputable def s0 (k : Nat) (a1 : Arg) : ((List Change) × Int × Int) → Option Out := fun v402 => iterK (codeK E k fin (sub [1, 0, 1, 0, 0] C)) (keepF [0, 1, 5] []) (blockC 0 (seqC (codeK E k fin (sub [1, 1] C)) K0)) k ({ n := 97, sl := [(0, .own (.slc tChange) (ownMd (.slc tChange)) [] v402.1), (1, .val i64 v402.2.1), (5, .val i64 v402.2.2)], vr := [], lent := [(0, 0, true)] })
noncomputable def r0 (k : Nat) (a1 : Arg) : ((List Change) × Int × Int) → Option Out := fun v402 => l0 k a1 (fun z => Q0 k a1 z) v402
theorem s0_eq (k : Nat) (a1 : Arg) : s0 k a1 = r0 k a1 := by
  funext v402;
  have h0 : X0_0 ((blockC 0 (seqC (codeK E k fin (sub [1, 1] C)) K0))) a1 = fun z => Q0 k a1 z := funext fun z => Q0_eq k a1 z
  refine (l0_eq k ((blockC 0 (seqC (codeK E k fin (sub [1, 1] C)) K0))) a1 v402).trans ?_
  rw [h0]
  rfl
noncomputable def p (l0 : ((List Change) × Int × Int) → Option Out) (a1 : Arg) : Option Out := l0 (a1.1, a1.2.1, (0 : Int))
noncomputable def raw (k : Nat) (a1 : Arg) : Option Out := p (r0 k a1) a1
theorem p_eq (k : Nat) (a1 : Arg) : bodyK E k Go.Proofs.Try.f148 ps rs [0] [] a1 = p (s0 k a1) a1 := by kernel_rfl
theorem raw_eq (k : Nat) (a1 : Arg) : bodyK E k Go.Proofs.Try.f148 ps rs [0] [] a1 = raw k a1 := (p_eq k a1).trans (by rw [s0_eq]; rfl)
theorem ent : EnterOk Go.Proofs.Try.prog 148 sig.cap := ⟨Go.Proofs.Try.f148, Go.Proofs.Try.func148, by kernel_rfl, by kernel_rfl, by kernel_rfl⟩
theorem env : EnvOk Go.Proofs.Try.prog E := env_ok (tl := [(2, i64), (4, .bool), (9, .str), (128, tRow), (130, tChange), (141, (.slc tChange))]) (gl := [(147, laws_markText.sig)]) rfl rfl (by kernel_rfl) (by kernel_rfl) (fn_cons laws_markText.snd laws_markText.ent (fn_nil _))
theorem chk : funOk Go.Proofs.Try.prog E Go.Proofs.Try.f148 ps rs [0] = true := by kernel_rfl
theorem snd : Sound Go.Proofs.Try.prog 148 sig := sound_of_body env Go.Proofs.Try.func148 rfl (es := [0]) (fr := []) chk (fun _ _ h => lift_some h)
end laws_markChangeS
namespace laws_heldRowS
/-! loop example g00408 laws heldRowS -/
abbrev Arg : Type := (List Row) × Int × Unit
abbrev Out : Type := Int × Unit
noncomputable def ps : List (PM × Ty) := [(.ro, (.slc tRow)), (.ro, i64)]
noncomputable def rs : List (Ty × Md) := [(i64, (roMd i64))]
noncomputable def E : Env := { TI := lookN [(2, i64), (9, .str), (28, (.slc tRow)), (128, tRow)], G := lookN [(147, laws_markText.sig)], fz := [], lv := [(2, [0, 1, 5])], lx := [(0, [1])], lf := [], od := [(13, [0, 1, 2, 3, 4, 5, 6, 7])] }
noncomputable def sem (a : Arg) : Option Out := lift fun k => bodyK E k Go.Proofs.Try.f149 ps rs [] [] a
noncomputable def sig : Sig := { ps := ps, rs := rs, F := fun a => sem a }
noncomputable def C : Code := bodyOf Go.Proofs.Try.f149
noncomputable def fin : St → Option Out := outK ps rs [] (Func.results Go.Proofs.Try.f149).toList (mvs [])
noncomputable def K0 : Ex → St → Option Out := endK fin
noncomputable def S0 (rec : St → Option Out) (a1 : Arg) : (Int × Int) → Option Out := fun v402 => rec ({ n := 50, sl := [(0, .val (.slc tRow) a1.1), (1, .val i64 v402.1), (5, .val i64 v402.2)], vr := [], lent := [] })
noncomputable def X0_0 (K : Ex → St → Option Out) (a1 : Arg) : Int → Option Out := fun z => K (.exit 0) ({ n := 50, sl := [(1, .val i64 z)], vr := [], lent := [] })
noncomputable def b0 (self : (Int × Int) → Option Out) (e0 : Int → Option Out) (a1 : Arg) (v402 : Int × Int) : Option Out := bif decide (v402.2 < (a1.1.length : Int)) then (if 0 ≤ v402.2 then ((a1.1[v402.2.toNat]?).bind fun x603 => bif !decide (x603.1 = v402.1) then (some ((-1 : Int), ())) else if 0 ≤ v402.2 then ((a1.1[v402.2.toNat]?).bind fun x604 => bif !decide (x604.2.1 = w64 (v402.1 + (1 : Int))) then (some ((-1 : Int), ())) else if 0 ≤ v402.2 then ((a1.1[v402.2.toNat]?).bind fun x605 => bif !decide (x605.2.2.1 = w64 ((w64 (v402.1 + (1 : Int))) + (1 : Int))) then (some ((-1 : Int), ())) else if 0 ≤ v402.2 then ((a1.1[v402.2.toNat]?).bind fun x606 => (laws_markText.sem (w64 ((w64 ((w64 (v402.1 + (1 : Int))) + (1 : Int))) + (1 : Int)), ())).bind fun r607 => bif !decide (x606.2.2.2.1 = r607.1) then (some ((-1 : Int), ())) else self (w64 ((w64 ((w64 ((w64 (v402.1 + (1 : Int))) + (1 : Int))) + (1 : Int))) + (1 : Int)), w64 (v402.2 + (1 : Int)))) else none) else none) else none) else none) else e0 v402.1
noncomputable def B0 (k : Nat) (self : (Int × Int) → Option Out) (e0 : Int → Option Out) (a1 : Arg) (v402 : Int × Int) : Option Out := b0 self e0 a1 v402
theorem b0_eq (k : Nat) (rec : St → Option Out) (K : Ex → St → Option Out) (a1 : Arg) (v402 : Int × Int) : codeK E k fin (sub [1, 0, 1, 0, 0] C) ({ n := 50, sl := [(0, .val (.slc tRow) a1.1), (1, .val i64 v402.1), (5, .val i64 v402.2)], vr := [], lent := [] }) (loopC rec (keepF [0, 1, 5] []) K) = b0 (S0 rec a1) (X0_0 K a1) a1 v402 := by kernel_rfl
theorem B0_eq (k : Nat) (rec : St → Option Out) (K : Ex → St → Option Out) (a1 : Arg) (v402 : Int × Int) : codeK E k fin (sub [1, 0, 1, 0, 0] C) ({ n := 50, sl := [(0, .val (.slc tRow) a1.1), (1, .val i64 v402.1), (5, .val i64 v402.2)], vr := [], lent := [] }) (loopC rec (keepF [0, 1, 5] []) K) = B0 k (S0 rec a1) (X0_0 K a1) a1 v402 := (b0_eq k rec K a1 v402).trans (by rfl)
noncomputable def l0 (k : Nat) (a1 : Arg) (e0 : Int → Option Out) (v : Int × Int) : Option Out := rawIter (fun self v => B0 k self e0 a1 v) k v
theorem l0_eq (k : Nat) (K : Ex → St → Option Out) (a1 : Arg) (v402 : Int × Int) : iterK (codeK E k fin (sub [1, 0, 1, 0, 0] C)) (keepF [0, 1, 5] []) K k ({ n := 50, sl := [(0, .val (.slc tRow) a1.1), (1, .val i64 v402.1), (5, .val i64 v402.2)], vr := [], lent := [] }) = l0 k a1 (X0_0 K a1) v402 :=
  iter_raw _ _ K (fun v402 => ({ n := 50, sl := [(0, .val (.slc tRow) a1.1), (1, .val i64 v402.1), (5, .val i64 v402.2)], vr := [], lent := [] } : St)) (fun self v => B0 k self (X0_0 K a1) a1 v) (fun rec v => B0_eq k rec K a1 v) k v402
noncomputable def q0 (a1 : Arg) (z608 : Int) : Option Out := some (z608, ())
noncomputable def Q0 (k : Nat) (a1 : Arg) (z608 : Int) : Option Out := q0 a1 z608
theorem q0_eq (k : Nat) (a1 : Arg) (z608 : Int) : (blockC 0 (seqC (codeK E k fin (sub [1, 1] C)) K0)) (.exit 0) ({ n := 50, sl := [(1, .val i64 z608)], vr := [], lent := [] }) = q0 a1 z608 := by kernel_rfl
theorem Q0_eq (k : Nat) (a1 : Arg) (z608 : Int) : (blockC 0 (seqC (codeK E k fin (sub [1, 1] C)) K0)) (.exit 0) ({ n := 50, sl := [(1, .val i64 z608)], vr := [], lent := [] }) = Q0 k a1 z608 := (q0_eq k a1 z608).trans (by rfl)
noncomputable def s0 (k : Nat) (a1 : Arg) : (Int × Int) → Option Out := fun v402 => iterK (codeK E k fin (sub [1, 0, 1, 0, 0] C)) (keepF [0, 1, 5] []) (blockC 0 (seqC (codeK E k fin (sub [1, 1] C)) K0)) k ({ n := 50, sl := [(0, .val (.slc tRow) a1.1), (1, .val i64 v402.1), (5, .val i64 v402.2)], vr := [], lent := [] })
noncomputable def r0 (k : Nat) (a1 : Arg) : (Int × Int) → Option Out := fun v402 => l0 k a1 (fun z => Q0 k a1 z) v402
theorem s0_eq (k : Nat) (a1 : Arg) : s0 k a1 = r0 k a1 := by
  funext v402;
  have h0 : X0_0 ((blockC 0 (seqC (codeK E k fin (sub [1, 1] C)) K0))) a1 = fun z => Q0 k a1 z := funext fun z => Q0_eq k a1 z
  refine (l0_eq k ((blockC 0 (seqC (codeK E k fin (sub [1, 1] C)) K0))) a1 v402).trans ?_
  rw [h0]
  rfl
noncomputable def p (l0 : (Int × Int) → Option Out) (a1 : Arg) : Option Out := l0 (a1.2.1, (0 : Int))
noncomputable def raw (k : Nat) (a1 : Arg) : Option Out := p (r0 k a1) a1
theorem p_eq (k : Nat) (a1 : Arg) : bodyK E k Go.Proofs.Try.f149 ps rs [] [] a1 = p (s0 k a1) a1 := by kernel_rfl
theorem raw_eq (k : Nat) (a1 : Arg) : bodyK E k Go.Proofs.Try.f149 ps rs [] [] a1 = raw k a1 := (p_eq k a1).trans (by rw [s0_eq]; rfl)
theorem ent : EnterOk Go.Proofs.Try.prog 149 sig.cap := ⟨Go.Proofs.Try.f149, Go.Proofs.Try.func149, by kernel_rfl, by kernel_rfl, by kernel_rfl⟩
theorem env : EnvOk Go.Proofs.Try.prog E := env_ok (tl := [(2, i64), (9, .str), (28, (.slc tRow)), (128, tRow)]) (gl := [(147, laws_markText.sig)]) rfl rfl (by kernel_rfl) (by kernel_rfl) (fn_cons laws_markText.snd laws_markText.ent (fn_nil _))
theorem chk : funOk Go.Proofs.Try.prog E Go.Proofs.Try.f149 ps rs [] = true := by kernel_rfl
theorem snd : Sound Go.Proofs.Try.prog 149 sig := sound_of_body env Go.Proofs.Try.func149 rfl (es := []) (fr := []) chk (fun _ _ h => lift_some h)
end laws_heldRowS
namespace impl_isTx
/-! loop example g00408 impl isTx -/
abbrev Arg : Type := Int × Unit
abbrev Out : Type := Bool × Unit
noncomputable def ps : List (PM × Ty) := [(.ro, i64)]
noncomputable def rs : List (Ty × Md) := [(.bool, (roMd .bool))]
noncomputable def E : Env := { TI := lookN [], G := lookN [(91, impl_in.sig)], fz := [], lv := [], lx := [], lf := [], od := [] }
noncomputable def sem (a : Arg) : Option Out := lift fun k => bodyK E k Go.Proofs.Try.f189 ps rs [] [] a
noncomputable def sig : Sig := { ps := ps, rs := rs, F := fun a => sem a }
noncomputable def C : Code := bodyOf Go.Proofs.Try.f189
noncomputable def fin : St → Option Out := outK ps rs [] (Func.results Go.Proofs.Try.f189).toList (mvs [])
noncomputable def K0 : Ex → St → Option Out := endK fin
noncomputable def p (a1 : Arg) : Option Out := (impl_in.sem (a1.1, (1 : Int), (99 : Int), ())).bind fun r2 => some (r2.1, ())
noncomputable def raw (k : Nat) (a1 : Arg) : Option Out := p a1
theorem p_eq (k : Nat) (a1 : Arg) : bodyK E k Go.Proofs.Try.f189 ps rs [] [] a1 = p a1 := by kernel_rfl
theorem raw_eq (k : Nat) (a1 : Arg) : bodyK E k Go.Proofs.Try.f189 ps rs [] [] a1 = raw k a1 := (p_eq k a1).trans (by rfl)
theorem ent : EnterOk Go.Proofs.Try.prog 189 sig.cap := ⟨Go.Proofs.Try.f189, Go.Proofs.Try.func189, by kernel_rfl, by kernel_rfl, by kernel_rfl⟩
theorem env : EnvOk Go.Proofs.Try.prog E := env_ok (tl := []) (gl := [(91, impl_in.sig)]) rfl rfl (by kernel_rfl) (by kernel_rfl) (fn_cons impl_in.snd impl_in.ent (fn_nil _))
theorem chk : funOk Go.Proofs.Try.prog E Go.Proofs.Try.f189 ps rs [] = true := by kernel_rfl
theorem snd : Sound Go.Proofs.Try.prog 189 sig := sound_of_body env Go.Proofs.Try.func189 rfl (es := []) (fr := []) chk (fun _ _ h => lift_some h)
end impl_isTx
namespace laws_szRowS
/-! loop example g00408 laws szRowS -/
abbrev Arg : Type := (List Row) × Int × Unit
abbrev Out : Type := Int × Unit
noncomputable def ps : List (PM × Ty) := [(.ro, (.slc tRow)), (.ro, i64)]
noncomputable def rs : List (Ty × Md) := [(i64, (roMd i64))]
noncomputable def E : Env := { TI := lookN [(94, (.slc tRow)), (119, tRow)], G := lookN [(137, laws_szRow.sig)], fz := [], lv := [(5, [0, 1, 5])], lx := [(0, [1])], lf := [], od := [] }
noncomputable def sem (a : Arg) : Option Out := lift fun k => bodyK E k Go.Proofs.Try.f57 ps rs [] [] a
noncomputable def sig : Sig := { ps := ps, rs := rs, F := fun a => sem a }
noncomputable def C : Code := bodyOf Go.Proofs.Try.f57
noncomputable def fin : St → Option Out := outK ps rs [] (Func.results Go.Proofs.Try.f57).toList (mvs [])
noncomputable def K0 : Ex → St → Option Out := endK fin
noncomputable def S0 (rec : St → Option Out) (a1 : Arg) : (Int × Int) → Option Out := fun v402 => rec ({ n := 27, sl := [(0, .val (.slc tRow) a1.1), (1, .val i64 v402.1), (5, .val i64 v402.2)], vr := [], lent := [] })
noncomputable def X0_0 (K : Ex → St → Option Out) (a1 : Arg) : Int → Option Out := fun z => K (.exit 0) ({ n := 27, sl := [(1, .val i64 z)], vr := [], lent := [] })
noncomputable def b0 (self : (Int × Int) → Option Out) (e0 : Int → Option Out) (a1 : Arg) (v402 : Int × Int) : Option Out := bif decide (v402.2 < (a1.1.length : Int)) then (if 0 ≤ v402.2 then ((a1.1[v402.2.toNat]?).bind fun x603 => (laws_szRow.sem (x603, v402.1, ())).bind fun r604 => bif decide (r604.1 < (0 : Int)) then (some ((-1 : Int), ())) else self (r604.1, w64 (v402.2 + (1 : Int)))) else none) else e0 v402.1
noncomputable def B0 (k : Nat) (self : (Int × Int) → Option Out) (e0 : Int → Option Out) (a1 : Arg) (v402 : Int × Int) : Option Out := b0 self e0 a1 v402
theorem b0_eq (k : Nat) (rec : St → Option Out) (K : Ex → St → Option Out) (a1 : Arg) (v402 : Int × Int) : codeK E k fin (sub [1, 1, 1, 0, 1, 0, 0] C) ({ n := 27, sl := [(0, .val (.slc tRow) a1.1), (1, .val i64 v402.1), (5, .val i64 v402.2)], vr := [], lent := [] }) (loopC rec (keepF [0, 1, 5] []) K) = b0 (S0 rec a1) (X0_0 K a1) a1 v402 := by kernel_rfl
theorem B0_eq (k : Nat) (rec : St → Option Out) (K : Ex → St → Option Out) (a1 : Arg) (v402 : Int × Int) : codeK E k fin (sub [1, 1, 1, 0, 1, 0, 0] C) ({ n := 27, sl := [(0, .val (.slc tRow) a1.1), (1, .val i64 v402.1), (5, .val i64 v402.2)], vr := [], lent := [] }) (loopC rec (keepF [0, 1, 5] []) K) = B0 k (S0 rec a1) (X0_0 K a1) a1 v402 := (b0_eq k rec K a1 v402).trans (by rfl)
noncomputable def l0 (k : Nat) (a1 : Arg) (e0 : Int → Option Out) (v : Int × Int) : Option Out := rawIter (fun self v => B0 k self e0 a1 v) k v
theorem l0_eq (k : Nat) (K : Ex → St → Option Out) (a1 : Arg) (v402 : Int × Int) : iterK (codeK E k fin (sub [1, 1, 1, 0, 1, 0, 0] C)) (keepF [0, 1, 5] []) K k ({ n := 27, sl := [(0, .val (.slc tRow) a1.1), (1, .val i64 v402.1), (5, .val i64 v402.2)], vr := [], lent := [] }) = l0 k a1 (X0_0 K a1) v402 :=
  iter_raw _ _ K (fun v402 => ({ n := 27, sl := [(0, .val (.slc tRow) a1.1), (1, .val i64 v402.1), (5, .val i64 v402.2)], vr := [], lent := [] } : St)) (fun self v => B0 k self (X0_0 K a1) a1 v) (fun rec v => B0_eq k rec K a1 v) k v402
noncomputable def q0 (a1 : Arg) (z605 : Int) : Option Out := some (z605, ())
noncomputable def Q0 (k : Nat) (a1 : Arg) (z605 : Int) : Option Out := q0 a1 z605
theorem q0_eq (k : Nat) (a1 : Arg) (z605 : Int) : (blockC 0 (seqC (codeK E k fin (sub [1, 1, 1, 1] C)) K0)) (.exit 0) ({ n := 27, sl := [(1, .val i64 z605)], vr := [], lent := [] }) = q0 a1 z605 := by kernel_rfl
theorem Q0_eq (k : Nat) (a1 : Arg) (z605 : Int) : (blockC 0 (seqC (codeK E k fin (sub [1, 1, 1, 1] C)) K0)) (.exit 0) ({ n := 27, sl := [(1, .val i64 z605)], vr := [], lent := [] }) = Q0 k a1 z605 := (q0_eq k a1 z605).trans (by rfl)
noncomputable def s0 (k : Nat) (a1 : Arg) : (Int × Int) → Option Out := fun v402 => iterK (codeK E k fin (sub [1, 1, 1, 0, 1, 0, 0] C)) (keepF [0, 1, 5] []) (blockC 0 (seqC (codeK E k fin (sub [1, 1, 1, 1] C)) K0)) k ({ n := 27, sl := [(0, .val (.slc tRow) a1.1), (1, .val i64 v402.1), (5, .val i64 v402.2)], vr := [], lent := [] })
noncomputable def r0 (k : Nat) (a1 : Arg) : (Int × Int) → Option Out := fun v402 => l0 k a1 (fun z => Q0 k a1 z) v402
theorem s0_eq (k : Nat) (a1 : Arg) : s0 k a1 = r0 k a1 := by
  funext v402;
  have h0 : X0_0 ((blockC 0 (seqC (codeK E k fin (sub [1, 1, 1, 1] C)) K0))) a1 = fun z => Q0 k a1 z := funext fun z => Q0_eq k a1 z
  refine (l0_eq k ((blockC 0 (seqC (codeK E k fin (sub [1, 1, 1, 1] C)) K0))) a1 v402).trans ?_
  rw [h0]
  rfl
noncomputable def p (l0 : (Int × Int) → Option Out) (a1 : Arg) : Option Out := bif decide (w64 (a1.2.1 - (a1.1.length : Int)) < (0 : Int)) then (some ((-1 : Int), ())) else l0 (w64 (a1.2.1 - (a1.1.length : Int)), (0 : Int))
noncomputable def raw (k : Nat) (a1 : Arg) : Option Out := p (r0 k a1) a1
theorem p_eq (k : Nat) (a1 : Arg) : bodyK E k Go.Proofs.Try.f57 ps rs [] [] a1 = p (s0 k a1) a1 := by kernel_rfl
theorem raw_eq (k : Nat) (a1 : Arg) : bodyK E k Go.Proofs.Try.f57 ps rs [] [] a1 = raw k a1 := (p_eq k a1).trans (by rw [s0_eq]; rfl)
theorem ent : EnterOk Go.Proofs.Try.prog 57 sig.cap := ⟨Go.Proofs.Try.f57, Go.Proofs.Try.func57, by kernel_rfl, by kernel_rfl, by kernel_rfl⟩
theorem env : EnvOk Go.Proofs.Try.prog E := env_ok (tl := [(94, (.slc tRow)), (119, tRow)]) (gl := [(137, laws_szRow.sig)]) rfl rfl (by kernel_rfl) (by kernel_rfl) (fn_cons laws_szRow.snd laws_szRow.ent (fn_nil _))
theorem chk : funOk Go.Proofs.Try.prog E Go.Proofs.Try.f57 ps rs [] = true := by kernel_rfl
theorem snd : Sound Go.Proofs.Try.prog 57 sig := sound_of_body env Go.Proofs.Try.func57 rfl (es := []) (fr := []) chk (fun _ _ h => lift_some h)
end laws_szRowS
namespace spec_l1Text
/-! loop example g00408 spec l1Text -/
abbrev Arg : Type := (List UInt8) × Unit
abbrev Out : Type := Bool × Unit
noncomputable def ps : List (PM × Ty) := [(.ro, .str)]
noncomputable def rs : List (Ty × Md) := [(.bool, (roMd .bool))]
noncomputable def E : Env := { TI := lookN [(9, .str)], G := lookN [], fz := [], lv := [(2, [0, 3])], lx := [(0, [0])], lf := [], od := [] }
noncomputable def sem (a : Arg) : Option Out := lift fun k => bodyK E k Go.Proofs.Try.f255 ps rs [] [] a
noncomputable def sig : Sig := { ps := ps, rs := rs, F := fun a => sem a }
noncomputable def C : Code := bodyOf Go.Proofs.Try.f255
noncomputable def fin : St → Option Out := outK ps rs [] (Func.results Go.Proofs.Try.f255).toList (mvs [])
noncomputable def K0 : Ex → St → Option Out := endK fin
noncomputable def S0 (rec : St → Option Out) (a1 : Arg) : (Int) → Option Out := fun v402 => rec ({ n := 23, sl := [(0, .val .str a1.1), (3, .val i64 v402)], vr := [], lent := [] })
noncomputable def X0_0 (K : Ex → St → Option Out) (a1 : Arg) : (Unit) → Option Out := fun z => K (.exit 0) ({ n := 23, sl := [(0, .val .str a1.1)], vr := [], lent := [] })
noncomputable def b0 (self : Int → Option Out) (e0 : (Unit) → Option Out) (a1 : Arg) (v402 : Int) : Option Out := bif decide (v402 < (a1.1.length : Int)) then (if 0 ≤ v402 then ((a1.1[v402.toNat]?).bind fun x603 => bif decide ((x603.toNat : Int) < (97 : Int)) then (some (false, ())) else if 0 ≤ v402 then ((a1.1[v402.toNat]?).bind fun x604 => bif decide ((122 : Int) < (x604.toNat : Int)) then (some (false, ())) else self (w64 (v402 + (1 : Int)))) else none) else none) else e0 ()
noncomputable def B0 (k : Nat) (self : Int → Option Out) (e0 : (Unit) → Option Out) (a1 : Arg) (v402 : Int) : Option Out := b0 self e0 a1 v402
theorem b0_eq (k : Nat) (rec : St → Option Out) (K : Ex → St → Option Out) (a1 : Arg) (v402 : Int) : codeK E k fin (sub [1, 0, 1, 0, 0] C) ({ n := 23, sl := [(0, .val .str a1.1), (3, .val i64 v402)], vr := [], lent := [] }) (loopC rec (keepF [0, 3] []) K) = b0 (S0 rec a1) (X0_0 K a1) a1 v402 := by kernel_rfl
theorem B0_eq (k : Nat) (rec : St → Option Out) (K : Ex → St → Option Out) (a1 : Arg) (v402 : Int) : codeK E k fin (sub [1, 0, 1, 0, 0] C) ({ n := 23, sl := [(0, .val .str a1.1), (3, .val i64 v402)], vr := [], lent := [] }) (loopC rec (keepF [0, 3] []) K) = B0 k (S0 rec a1) (X0_0 K a1) a1 v402 := (b0_eq k rec K a1 v402).trans (by rfl)
noncomputable def l0 (k : Nat) (a1 : Arg) (e0 : (Unit) → Option Out) (v : Int) : Option Out := rawIter (fun self v => B0 k self e0 a1 v) k v
theorem l0_eq (k : Nat) (K : Ex → St → Option Out) (a1 : Arg) (v402 : Int) : iterK (codeK E k fin (sub [1, 0, 1, 0, 0] C)) (keepF [0, 3] []) K k ({ n := 23, sl := [(0, .val .str a1.1), (3, .val i64 v402)], vr := [], lent := [] }) = l0 k a1 (X0_0 K a1) v402 :=
  iter_raw _ _ K (fun v402 => ({ n := 23, sl := [(0, .val .str a1.1), (3, .val i64 v402)], vr := [], lent := [] } : St)) (fun self v => B0 k self (X0_0 K a1) a1 v) (fun rec v => B0_eq k rec K a1 v) k v402
noncomputable def q0 (a1 : Arg) (z605 : (Unit)) : Option Out := some (decide ((a1.1.length : Int) ≤ (8 : Int)), ())
noncomputable def Q0 (k : Nat) (a1 : Arg) (z605 : (Unit)) : Option Out := q0 a1 z605
theorem q0_eq (k : Nat) (a1 : Arg) (z605 : (Unit)) : (blockC 0 (seqC (codeK E k fin (sub [1, 1] C)) K0)) (.exit 0) ({ n := 23, sl := [(0, .val .str a1.1)], vr := [], lent := [] }) = q0 a1 z605 := by kernel_rfl
theorem Q0_eq (k : Nat) (a1 : Arg) (z605 : (Unit)) : (blockC 0 (seqC (codeK E k fin (sub [1, 1] C)) K0)) (.exit 0) ({ n := 23, sl := [(0, .val .str a1.1)], vr := [], lent := [] }) = Q0 k a1 z605 := (q0_eq k a1 z605).trans (by rfl)
noncomputable def s0 (k : Nat) (a1 : Arg) : (Int) → Option Out := fun v402 => iterK (codeK E k fin (sub [1, 0, 1, 0, 0] C)) (keepF [0, 3] []) (blockC 0 (seqC (codeK E k fin (sub [1, 1] C)) K0)) k ({ n := 23, sl := [(0, .val .str a1.1), (3, .val i64 v402)], vr := [], lent := [] })
noncomputable def r0 (k : Nat) (a1 : Arg) : (Int) → Option Out := fun v402 => l0 k a1 (fun z => Q0 k a1 z) v402
theorem s0_eq (k : Nat) (a1 : Arg) : s0 k a1 = r0 k a1 := by
  funext v402;
  have h0 : X0_0 ((blockC 0 (seqC (codeK E k fin (sub [1, 1] C)) K0))) a1 = fun z => Q0 k a1 z := funext fun z => Q0_eq k a1 z
  refine (l0_eq k ((blockC 0 (seqC (codeK E k fin (sub [1, 1] C)) K0))) a1 v402).trans ?_
  rw [h0]
  rfl
noncomputable def p (l0 : (Int) → Option Out) (a1 : Arg) : Option Out := l0 (0 : Int)
noncomputable def raw (k : Nat) (a1 : Arg) : Option Out := p (r0 k a1) a1
theorem p_eq (k : Nat) (a1 : Arg) : bodyK E k Go.Proofs.Try.f255 ps rs [] [] a1 = p (s0 k a1) a1 := by kernel_rfl
theorem raw_eq (k : Nat) (a1 : Arg) : bodyK E k Go.Proofs.Try.f255 ps rs [] [] a1 = raw k a1 := (p_eq k a1).trans (by rw [s0_eq]; rfl)
theorem ent : EnterOk Go.Proofs.Try.prog 255 sig.cap := ⟨Go.Proofs.Try.f255, Go.Proofs.Try.func255, by kernel_rfl, by kernel_rfl, by kernel_rfl⟩
theorem env : EnvOk Go.Proofs.Try.prog E := env_ok (tl := [(9, .str)]) (gl := []) rfl rfl (by kernel_rfl) (by kernel_rfl) (fn_nil _)
theorem chk : funOk Go.Proofs.Try.prog E Go.Proofs.Try.f255 ps rs [] = true := by kernel_rfl
theorem snd : Sound Go.Proofs.Try.prog 255 sig := sound_of_body env Go.Proofs.Try.func255 rfl (es := []) (fr := []) chk (fun _ _ h => lift_some h)
end spec_l1Text
namespace spec_l1Fault
/-! loop example g00408 spec l1Fault -/
abbrev Arg : Type := Row × Unit
abbrev Out : Type := Int × Unit
noncomputable def ps : List (PM × Ty) := [(.ro, (.ptr tRow))]
noncomputable def rs : List (Ty × Md) := [(i64, (roMd i64))]
noncomputable def E : Env := { TI := lookN [(2, i64), (9, .str), (128, tRow)], G := lookN [(90, spec_l1In.sig), (255, spec_l1Text.sig)], fz := [], lv := [], lx := [], lf := [], od := [] }
noncomputable def sem (a : Arg) : Option Out := lift fun k => bodyK E k Go.Proofs.Try.f208 ps rs [] [] a
noncomputable def sig : Sig := { ps := ps, rs := rs, F := fun a => sem a }
noncomputable def C : Code := bodyOf Go.Proofs.Try.f208
noncomputable def fin : St → Option Out := outK ps rs [] (Func.results Go.Proofs.Try.f208).toList (mvs [])
noncomputable def K0 : Ex → St → Option Out := endK fin
noncomputable def p (a1 : Arg) : Option Out := (spec_l1In.sem (a1.1.1, (0 : Int), (3 : Int), ())).bind fun r2 => bif !r2.1 then (some ((3 : Int), ())) else (spec_l1In.sem (a1.1.2.1, (1 : Int), (99 : Int), ())).bind fun r3 => bif !r3.1 then (some ((3 : Int), ())) else (spec_l1In.sem (a1.1.2.2.1, (0 : Int), (999 : Int), ())).bind fun r4 => bif !r4.1 then (some ((3 : Int), ())) else (spec_l1Text.sem (a1.1.2.2.2.1, ())).bind fun r5 => bif !r5.1 then (some ((5 : Int), ())) else some ((0 : Int), ())
noncomputable def raw (k : Nat) (a1 : Arg) : Option Out := p a1
theorem p_eq (k : Nat) (a1 : Arg) : bodyK E k Go.Proofs.Try.f208 ps rs [] [] a1 = p a1 := by kernel_rfl
theorem raw_eq (k : Nat) (a1 : Arg) : bodyK E k Go.Proofs.Try.f208 ps rs [] [] a1 = raw k a1 := (p_eq k a1).trans (by rfl)
theorem ent : EnterOk Go.Proofs.Try.prog 208 sig.cap := ⟨Go.Proofs.Try.f208, Go.Proofs.Try.func208, by kernel_rfl, by kernel_rfl, by kernel_rfl⟩
theorem env : EnvOk Go.Proofs.Try.prog E := env_ok (tl := [(2, i64), (9, .str), (128, tRow)]) (gl := [(90, spec_l1In.sig), (255, spec_l1Text.sig)]) rfl rfl (by kernel_rfl) (by kernel_rfl) (fn_cons spec_l1In.snd spec_l1In.ent (fn_cons spec_l1Text.snd spec_l1Text.ent (fn_nil _)))
theorem chk : funOk Go.Proofs.Try.prog E Go.Proofs.Try.f208 ps rs [] = true := by kernel_rfl
theorem snd : Sound Go.Proofs.Try.prog 208 sig := sound_of_body env Go.Proofs.Try.func208 rfl (es := []) (fr := []) chk (fun _ _ h => lift_some h)
end spec_l1Fault
namespace spec_l1Before
/-! loop example g00408 spec l1Before -/
abbrev Arg : Type := Row × Row × Unit
abbrev Out : Type := Bool × Unit
noncomputable def ps : List (PM × Ty) := [(.ro, (.ptr tRow)), (.ro, (.ptr tRow))]
noncomputable def rs : List (Ty × Md) := [(.bool, (roMd .bool))]
noncomputable def E : Env := { TI := lookN [(2, i64), (128, tRow)], G := lookN [], fz := [], lv := [], lx := [], lf := [], od := [(1, [0, 1, 2, 3, 4, 5, 6, 7, 8, 9, 10, 11, 12, 13, 14, 15, 16, 17, 18, 19, 20, 21, 22, 23, 24, 25, 26, 27, 28, 29, 30, 31])] }
noncomputable def sem (a : Arg) : Option Out := lift fun k => bodyK E k Go.Proofs.Try.f209 ps rs [] [] a
noncomputable def sig : Sig := { ps := ps, rs := rs, F := fun a => sem a }
noncomputable def C : Code := bodyOf Go.Proofs.Try.f209
noncomputable def fin : St → Option Out := outK ps rs [] (Func.results Go.Proofs.Try.f209).toList (mvs [])
noncomputable def K0 : Ex → St → Option Out := endK fin
noncomputable def p (a1 : Arg) : Option Out := bif decide (a1.1.1 < a1.2.1.1) then (some (true, ())) else bif decide (a1.1.1 = a1.2.1.1) then (some (decide (a1.1.2.1 < a1.2.1.2.1), ())) else some (false, ())
noncomputable def raw (k : Nat) (a1 : Arg) : Option Out := p a1
theorem p_eq (k : Nat) (a1 : Arg) : bodyK E k Go.Proofs.Try.f209 ps rs [] [] a1 = p a1 := by kernel_rfl
theorem raw_eq (k : Nat) (a1 : Arg) : bodyK E k Go.Proofs.Try.f209 ps rs [] [] a1 = raw k a1 := (p_eq k a1).trans (by rfl)
theorem ent : EnterOk Go.Proofs.Try.prog 209 sig.cap := ⟨Go.Proofs.Try.f209, Go.Proofs.Try.func209, by kernel_rfl, by kernel_rfl, by kernel_rfl⟩
theorem env : EnvOk Go.Proofs.Try.prog E := env_ok (tl := [(2, i64), (128, tRow)]) (gl := []) rfl rfl (by kernel_rfl) (by kernel_rfl) (fn_nil _)
theorem chk : funOk Go.Proofs.Try.prog E Go.Proofs.Try.f209 ps rs [] = true := by kernel_rfl
theorem snd : Sound Go.Proofs.Try.prog 209 sig := sound_of_body env Go.Proofs.Try.func209 rfl (es := []) (fr := []) chk (fun _ _ h => lift_some h)
end spec_l1Before
namespace spec_l6Rows
/-! loop example g00408 spec l6Rows -/
abbrev Arg : Type := (List Row) × Unit
abbrev Out : Type := Int × Unit
noncomputable def ps : List (PM × Ty) := [(.ro, (.slc tRow))]
noncomputable def rs : List (Ty × Md) := [(i64, (roMd i64))]
noncomputable def E : Env := { TI := lookN [(28, (.slc tRow))], G := lookN [(208, spec_l1Fault.sig), (209, spec_l1Before.sig)], fz := [], lv := [(4, [0, 3])], lx := [(0, [])], lf := [], od := [(9, [0, 1, 2, 3, 4, 5, 6, 7, 8, 9, 10, 11, 12])] }
noncomputable def sem (a : Arg) : Option Out := lift fun k => bodyK E k Go.Proofs.Try.f138 ps rs [] [] a
noncomputable def sig : Sig := { ps := ps, rs := rs, F := fun a => sem a }
noncomputable def C : Code := bodyOf Go.Proofs.Try.f138
noncomputable def fin : St → Option Out := outK ps rs [] (Func.results Go.Proofs.Try.f138).toList (mvs [])
noncomputable def K0 : Ex → St → Option Out := endK fin
noncomputable def S0 (rec : St → Option Out) (a1 : Arg) : (Int) → Option Out := fun v402 => rec ({ n := 34, sl := [(0, .val (.slc tRow) a1.1), (3, .val i64 v402)], vr := [], lent := [] })
noncomputable def X0_0 (K : Ex → St → Option Out) (a1 : Arg) : (Unit) → Option Out := fun z => K (.exit 0) ({ n := 34, sl := [], vr := [], lent := [] })
noncomputable def b0 (self : Int → Option Out) (e0 : (Unit) → Option Out) (a1 : Arg) (v402 : Int) : Option Out := bif decide (v402 < (a1.1.length : Int)) then (if 0 ≤ v402 then ((a1.1[v402.toNat]?).bind fun x603 => (spec_l1Fault.sem (x603, ())).bind fun r604 => bif !decide (r604.1 = (0 : Int)) then (some (r604.1, ())) else bif decide ((0 : Int) < v402) then (if 0 ≤ w64 (v402 - (1 : Int)) then ((a1.1[(w64 (v402 - (1 : Int))).toNat]?).bind fun x605 => if 0 ≤ v402 then ((a1.1[v402.toNat]?).bind fun x606 => (spec_l1Before.sem (x605, x606, ())).bind fun r607 => bif !r607.1 then (some ((1 : Int), ())) else self (w64 (v402 + (1 : Int)))) else none) else none) else self (w64 (v402 + (1 : Int)))) else none) else e0 ()
noncomputable def B0 (k : Nat) (self : Int → Option Out) (e0 : (Unit) → Option Out) (a1 : Arg) (v402 : Int) : Option Out := b0 self e0 a1 v402
theorem b0_eq (k : Nat) (rec : St → Option Out) (K : Ex → St → Option Out) (a1 : Arg) (v402 : Int) : codeK E k fin (sub [1, 1, 0, 1, 0, 0] C) ({ n := 34, sl := [(0, .val (.slc tRow) a1.1), (3, .val i64 v402)], vr := [], lent := [] }) (loopC rec (keepF [0, 3] []) K) = b0 (S0 rec a1) (X0_0 K a1) a1 v402 := by kernel_rfl
theorem B0_eq (k : Nat) (rec : St → Option Out) (K : Ex → St → Option Out) (a1 : Arg) (v402 : Int) : codeK E k fin (sub [1, 1, 0, 1, 0, 0] C) ({ n := 34, sl := [(0, .val (.slc tRow) a1.1), (3, .val i64 v402)], vr := [], lent := [] }) (loopC rec (keepF [0, 3] []) K) = B0 k (S0 rec a1) (X0_0 K a1) a1 v402 := (b0_eq k rec K a1 v402).trans (by rfl)
noncomputable def l0 (k : Nat) (a1 : Arg) (e0 : (Unit) → Option Out) (v : Int) : Option Out := rawIter (fun self v => B0 k self e0 a1 v) k v
theorem l0_eq (k : Nat) (K : Ex → St → Option Out) (a1 : Arg) (v402 : Int) : iterK (codeK E k fin (sub [1, 1, 0, 1, 0, 0] C)) (keepF [0, 3] []) K k ({ n := 34, sl := [(0, .val (.slc tRow) a1.1), (3, .val i64 v402)], vr := [], lent := [] }) = l0 k a1 (X0_0 K a1) v402 :=
  iter_raw _ _ K (fun v402 => ({ n := 34, sl := [(0, .val (.slc tRow) a1.1), (3, .val i64 v402)], vr := [], lent := [] } : St)) (fun self v => B0 k self (X0_0 K a1) a1 v) (fun rec v => B0_eq k rec K a1 v) k v402
noncomputable def q0 (a1 : Arg) (z608 : (Unit)) : Option Out := some ((0 : Int), ())
noncomputable def Q0 (k : Nat) (a1 : Arg) (z608 : (Unit)) : Option Out := q0 a1 z608
theorem q0_eq (k : Nat) (a1 : Arg) (z608 : (Unit)) : (blockC 0 (seqC (codeK E k fin (sub [1, 1, 1] C)) K0)) (.exit 0) ({ n := 34, sl := [], vr := [], lent := [] }) = q0 a1 z608 := by kernel_rfl
theorem Q0_eq (k : Nat) (a1 : Arg) (z608 : (Unit)) : (blockC 0 (seqC (codeK E k fin (sub [1, 1, 1] C)) K0)) (.exit 0) ({ n := 34, sl := [], vr := [], lent := [] }) = Q0 k a1 z608 := (q0_eq k a1 z608).trans (by rfl)
noncomputable def s0 (k : Nat) (a1 : Arg) : (Int) → Option Out := fun v402 => iterK (codeK E k fin (sub [1, 1, 0, 1, 0, 0] C)) (keepF [0, 3] []) (blockC 0 (seqC (codeK E k fin (sub [1, 1, 1] C)) K0)) k ({ n := 34, sl := [(0, .val (.slc tRow) a1.1), (3, .val i64 v402)], vr := [], lent := [] })
noncomputable def r0 (k : Nat) (a1 : Arg) : (Int) → Option Out := fun v402 => l0 k a1 (fun z => Q0 k a1 z) v402
theorem s0_eq (k : Nat) (a1 : Arg) : s0 k a1 = r0 k a1 := by
  funext v402;
  have h0 : X0_0 ((blockC 0 (seqC (codeK E k fin (sub [1, 1, 1] C)) K0))) a1 = fun z => Q0 k a1 z := funext fun z => Q0_eq k a1 z
  refine (l0_eq k ((blockC 0 (seqC (codeK E k fin (sub [1, 1, 1] C)) K0))) a1 v402).trans ?_
  rw [h0]
  rfl
noncomputable def p (l0 : (Int) → Option Out) (a1 : Arg) : Option Out := bif decide ((60 : Int) < (a1.1.length : Int)) then (some ((2 : Int), ())) else l0 (0 : Int)
noncomputable def raw (k : Nat) (a1 : Arg) : Option Out := p (r0 k a1) a1
theorem p_eq (k : Nat) (a1 : Arg) : bodyK E k Go.Proofs.Try.f138 ps rs [] [] a1 = p (s0 k a1) a1 := by kernel_rfl
theorem raw_eq (k : Nat) (a1 : Arg) : bodyK E k Go.Proofs.Try.f138 ps rs [] [] a1 = raw k a1 := (p_eq k a1).trans (by rw [s0_eq]; rfl)
theorem ent : EnterOk Go.Proofs.Try.prog 138 sig.cap := ⟨Go.Proofs.Try.f138, Go.Proofs.Try.func138, by kernel_rfl, by kernel_rfl, by kernel_rfl⟩
theorem env : EnvOk Go.Proofs.Try.prog E := env_ok (tl := [(28, (.slc tRow))]) (gl := [(208, spec_l1Fault.sig), (209, spec_l1Before.sig)]) rfl rfl (by kernel_rfl) (by kernel_rfl) (fn_cons spec_l1Fault.snd spec_l1Fault.ent (fn_cons spec_l1Before.snd spec_l1Before.ent (fn_nil _)))
theorem chk : funOk Go.Proofs.Try.prog E Go.Proofs.Try.f138 ps rs [] = true := by kernel_rfl
theorem snd : Sound Go.Proofs.Try.prog 138 sig := sound_of_body env Go.Proofs.Try.func138 rfl (es := []) (fr := []) chk (fun _ _ h => lift_some h)
end spec_l6Rows
namespace spec_l6Change
/-! loop example g00408 spec l6Change -/
abbrev Arg : Type := Change × Unit
abbrev Out : Type := Int × Unit
noncomputable def ps : List (PM × Ty) := [(.ro, (.ptr tChange))]
noncomputable def rs : List (Ty × Md) := [(i64, (roMd i64))]
noncomputable def E : Env := { TI := lookN [(2, i64), (4, .bool), (128, tRow), (130, tChange)], G := lookN [(208, spec_l1Fault.sig)], fz := [], lv := [], lx := [], lf := [], od := [(1, [0, 1, 2, 3, 4, 5, 6, 7, 8, 9, 10, 11, 12, 13, 14, 15, 16, 17, 18, 19, 20, 21, 22, 23, 24, 25, 26, 27, 28, 29, 30, 31, 32, 33, 34, 35, 36, 37, 38, 39, 40, 41, 42, 43, 44, 45, 46, 47, 48, 49])] }
noncomputable def sem (a : Arg) : Option Out := lift fun k => bodyK E k Go.Proofs.Try.f211 ps rs [] [] a
noncomputable def sig : Sig := { ps := ps, rs := rs, F := fun a => sem a }
noncomputable def C : Code := bodyOf Go.Proofs.Try.f211
noncomputable def fin : St → Option Out := outK ps rs [] (Func.results Go.Proofs.Try.f211).toList (mvs [])
noncomputable def K0 : Ex → St → Option Out := endK fin
noncomputable def p (a1 : Arg) : Option Out := let j5 : Option Out := bif a1.1.1 then ((spec_l1Fault.sem (a1.1.2.1, ())).bind fun r6 => bif !decide (r6.1 = (0 : Int)) then (some (r6.1, ())) else bif a1.1.2.2.1 then ((spec_l1Fault.sem (a1.1.2.2.2.1, ())).bind fun r8 => some (r8.1, ())) else some ((0 : Int), ())) else bif a1.1.2.2.1 then ((spec_l1Fault.sem (a1.1.2.2.2.1, ())).bind fun r9 => some (r9.1, ())) else some ((0 : Int), ()); bif !a1.1.1 then (bif !a1.1.2.2.1 then (some ((1 : Int), ())) else bif a1.1.1 then (bif a1.1.2.2.1 then (bif !decide (a1.1.2.1.1 = a1.1.2.2.2.1.1) then (some ((1 : Int), ())) else bif !decide (a1.1.2.1.2.1 = a1.1.2.2.2.1.2.1) then (some ((1 : Int), ())) else j5) else j5) else j5) else bif a1.1.1 then (bif a1.1.2.2.1 then (bif !decide (a1.1.2.1.1 = a1.1.2.2.2.1.1) then (some ((1 : Int), ())) else bif !decide (a1.1.2.1.2.1 = a1.1.2.2.2.1.2.1) then (some ((1 : Int), ())) else j5) else j5) else j5
noncomputable def raw (k : Nat) (a1 : Arg) : Option Out := p a1
theorem p_eq (k : Nat) (a1 : Arg) : bodyK E k Go.Proofs.Try.f211 ps rs [] [] a1 = p a1 := by kernel_rfl
theorem raw_eq (k : Nat) (a1 : Arg) : bodyK E k Go.Proofs.Try.f211 ps rs [] [] a1 = raw k a1 := (p_eq k a1).trans (by rfl)
theorem ent : EnterOk Go.Proofs.Try.prog 211 sig.cap := ⟨Go.Proofs.Try.f211, Go.Proofs.Try.func211, by kernel_rfl, by kernel_rfl, by kernel_rfl⟩
theorem env : EnvOk Go.Proofs.Try.prog E := env_ok (tl := [(2, i64), (4, .bool), (128, tRow), (130, tChange)]) (gl := [(208, spec_l1Fault.sig)]) rfl rfl (by kernel_rfl) (by kernel_rfl) (fn_cons spec_l1Fault.snd spec_l1Fault.ent (fn_nil _))
theorem chk : funOk Go.Proofs.Try.prog E Go.Proofs.Try.f211 ps rs [] = true := by kernel_rfl
theorem snd : Sound Go.Proofs.Try.prog 211 sig := sound_of_body env Go.Proofs.Try.func211 rfl (es := []) (fr := []) chk (fun _ _ h => lift_some h)
end spec_l6Change
namespace spec_l9Change
/-! loop example g00408 spec l9Change -/
abbrev Arg : Type := Change × Unit
abbrev Out : Type := Int × Unit
noncomputable def ps : List (PM × Ty) := [(.ro, (.ptr tChange))]
noncomputable def rs : List (Ty × Md) := [(i64, (roMd i64))]
noncomputable def E : Env := { TI := lookN [(4, .bool), (128, tRow), (130, tChange)], G := lookN [(211, spec_l6Change.sig)], fz := [], lv := [], lx := [], lf := [], od := [(4, [0, 1, 2, 3, 4, 5, 6, 7, 8, 9, 10, 11, 12, 13, 14, 15, 16, 17, 18, 19, 20])] }
noncomputable def sem (a : Arg) : Option Out := lift fun k => bodyK E k Go.Proofs.Try.f160 ps rs [] [] a
noncomputable def sig : Sig := { ps := ps, rs := rs, F := fun a => sem a }
noncomputable def C : Code := bodyOf Go.Proofs.Try.f160
noncomputable def fin : St → Option Out := outK ps rs [] (Func.results Go.Proofs.Try.f160).toList (mvs [])
noncomputable def K0 : Ex → St → Option Out := endK fin
noncomputable def p (a1 : Arg) : Option Out := (spec_l6Change.sem (a1.1, ())).bind fun r2 => bif !decide (r2.1 = (0 : Int)) then (some (r2.1, ())) else bif a1.1.1 then (bif a1.1.2.2.1 then (bif (Ty.eq tRow a1.1.2.1 a1.1.2.2.2.1) then (some ((1 : Int), ())) else some ((0 : Int), ())) else some ((0 : Int), ())) else some ((0 : Int), ())
noncomputable def raw (k : Nat) (a1 : Arg) : Option Out := p a1
theorem p_eq (k : Nat) (a1 : Arg) : bodyK E k Go.Proofs.Try.f160 ps rs [] [] a1 = p a1 := by kernel_rfl
theorem raw_eq (k : Nat) (a1 : Arg) : bodyK E k Go.Proofs.Try.f160 ps rs [] [] a1 = raw k a1 := (p_eq k a1).trans (by rfl)
theorem ent : EnterOk Go.Proofs.Try.prog 160 sig.cap := ⟨Go.Proofs.Try.f160, Go.Proofs.Try.func160, by kernel_rfl, by kernel_rfl, by kernel_rfl⟩
theorem env : EnvOk Go.Proofs.Try.prog E := env_ok (tl := [(4, .bool), (128, tRow), (130, tChange)]) (gl := [(211, spec_l6Change.sig)]) rfl rfl (by kernel_rfl) (by kernel_rfl) (fn_cons spec_l6Change.snd spec_l6Change.ent (fn_nil _))
theorem chk : funOk Go.Proofs.Try.prog E Go.Proofs.Try.f160 ps rs [] = true := by kernel_rfl
theorem snd : Sound Go.Proofs.Try.prog 160 sig := sound_of_body env Go.Proofs.Try.func160 rfl (es := []) (fr := []) chk (fun _ _ h => lift_some h)
end spec_l9Change
namespace spec_l6Key
/-! loop example g00408 spec l6Key -/
abbrev Arg : Type := Change × Unit
abbrev Out : Type := Int × Int × Unit
noncomputable def ps : List (PM × Ty) := [(.ro, (.ptr tChange))]
noncomputable def rs : List (Ty × Md) := [(i64, (roMd i64)), (i64, (roMd i64))]
noncomputable def E : Env := { TI := lookN [(2, i64), (4, .bool), (128, tRow), (130, tChange)], G := lookN [], fz := [], lv := [], lx := [], lf := [], od := [(2, [0, 1, 2, 3, 4, 5, 6, 7, 8, 9, 10, 11]), (3, [0, 1, 2, 3, 4, 5, 6, 7, 8, 9, 10, 11])] }
noncomputable def sem (a : Arg) : Option Out := lift fun k => bodyK E k Go.Proofs.Try.f229 ps rs [] [] a
noncomputable def sig : Sig := { ps := ps, rs := rs, F := fun a => sem a }
noncomputable def C : Code := bodyOf Go.Proofs.Try.f229
noncomputable def fin : St → Option Out := outK ps rs [] (Func.results Go.Proofs.Try.f229).toList (mvs [])
noncomputable def K0 : Ex → St → Option Out := endK fin
noncomputable def p (a1 : Arg) : Option Out := bif a1.1.2.2.1 then (some (a1.1.2.2.2.1.1, a1.1.2.2.2.1.2.1, ())) else some (a1.1.2.1.1, a1.1.2.1.2.1, ())
noncomputable def raw (k : Nat) (a1 : Arg) : Option Out := p a1
theorem p_eq (k : Nat) (a1 : Arg) : bodyK E k Go.Proofs.Try.f229 ps rs [] [] a1 = p a1 := by kernel_rfl
theorem raw_eq (k : Nat) (a1 : Arg) : bodyK E k Go.Proofs.Try.f229 ps rs [] [] a1 = raw k a1 := (p_eq k a1).trans (by rfl)
theorem ent : EnterOk Go.Proofs.Try.prog 229 sig.cap := ⟨Go.Proofs.Try.f229, Go.Proofs.Try.func229, by kernel_rfl, by kernel_rfl, by kernel_rfl⟩
theorem env : EnvOk Go.Proofs.Try.prog E := env_ok (tl := [(2, i64), (4, .bool), (128, tRow), (130, tChange)]) (gl := []) rfl rfl (by kernel_rfl) (by kernel_rfl) (fn_nil _)
theorem chk : funOk Go.Proofs.Try.prog E Go.Proofs.Try.f229 ps rs [] = true := by kernel_rfl
theorem snd : Sound Go.Proofs.Try.prog 229 sig := sound_of_body env Go.Proofs.Try.func229 rfl (es := []) (fr := []) chk (fun _ _ h => lift_some h)
end spec_l6Key
namespace spec_l9Ahead
/-! loop example g00408 spec l9Ahead -/
abbrev Arg : Type := Change × Change × Unit
abbrev Out : Type := Bool × Unit
noncomputable def ps : List (PM × Ty) := [(.ro, (.ptr tChange)), (.ro, (.ptr tChange))]
noncomputable def rs : List (Ty × Md) := [(.bool, (roMd .bool))]
noncomputable def E : Env := { TI := lookN [], G := lookN [(229, spec_l6Key.sig)], fz := [], lv := [], lx := [], lf := [], od := [] }
noncomputable def sem (a : Arg) : Option Out := lift fun k => bodyK E k Go.Proofs.Try.f256 ps rs [] [] a
noncomputable def sig : Sig := { ps := ps, rs := rs, F := fun a => sem a }
noncomputable def C : Code := bodyOf Go.Proofs.Try.f256
noncomputable def fin : St → Option Out := outK ps rs [] (Func.results Go.Proofs.Try.f256).toList (mvs [])
noncomputable def K0 : Ex → St → Option Out := endK fin
noncomputable def p (a1 : Arg) : Option Out := (spec_l6Key.sem (a1.1, ())).bind fun r2 => (spec_l6Key.sem (a1.2.1, ())).bind fun r3 => bif decide (r2.1 < r3.1) then (some (true, ())) else bif decide (r2.1 = r3.1) then (some (decide (r2.2.1 < r3.2.1), ())) else some (false, ())
noncomputable def raw (k : Nat) (a1 : Arg) : Option Out := p a1
theorem p_eq (k : Nat) (a1 : Arg) : bodyK E k Go.Proofs.Try.f256 ps rs [] [] a1 = p a1 := by kernel_rfl
theorem raw_eq (k : Nat) (a1 : Arg) : bodyK E k Go.Proofs.Try.f256 ps rs [] [] a1 = raw k a1 := (p_eq k a1).trans (by rfl)
theorem ent : EnterOk Go.Proofs.Try.prog 256 sig.cap := ⟨Go.Proofs.Try.f256, Go.Proofs.Try.func256, by kernel_rfl, by kernel_rfl, by kernel_rfl⟩
theorem env : EnvOk Go.Proofs.Try.prog E := env_ok (tl := []) (gl := [(229, spec_l6Key.sig)]) rfl rfl (by kernel_rfl) (by kernel_rfl) (fn_cons spec_l6Key.snd spec_l6Key.ent (fn_nil _))
theorem chk : funOk Go.Proofs.Try.prog E Go.Proofs.Try.f256 ps rs [] = true := by kernel_rfl
theorem snd : Sound Go.Proofs.Try.prog 256 sig := sound_of_body env Go.Proofs.Try.func256 rfl (es := []) (fr := []) chk (fun _ _ h => lift_some h)
end spec_l9Ahead
namespace spec_l9List
/-! loop example g00408 spec l9List -/
abbrev Arg : Type := (List Change) × Unit
abbrev Out : Type := Int × Unit
noncomputable def ps : List (PM × Ty) := [(.ro, (.slc tChange))]
noncomputable def rs : List (Ty × Md) := [(i64, (roMd i64))]
noncomputable def E : Env := { TI := lookN [(141, (.slc tChange))], G := lookN [(160, spec_l9Change.sig), (256, spec_l9Ahead.sig)], fz := [], lv := [(4, [0, 3])], lx := [(0, [])], lf := [], od := [(9, [0, 1, 2, 3, 4, 5, 6, 7, 8, 9, 10, 11, 12])] }
noncomputable def sem (a : Arg) : Option Out := lift fun k => bodyK E k Go.Proofs.Try.f210 ps rs [] [] a
noncomputable def sig : Sig := { ps := ps, rs := rs, F := fun a => sem a }
noncomputable def C : Code := bodyOf Go.Proofs.Try.f210
noncomputable def fin : St → Option Out := outK ps rs [] (Func.results Go.Proofs.Try.f210).toList (mvs [])
noncomputable def K0 : Ex → St → Option Out := endK fin
noncomputable def S0 (rec : St → Option Out) (a1 : Arg) : (Int) → Option Out := fun v402 => rec ({ n := 34, sl := [(0, .val (.slc tChange) a1.1), (3, .val i64 v402)], vr := [], lent := [] })
noncomputable def X0_0 (K : Ex → St → Option Out) (a1 : Arg) : (Unit) → Option Out := fun z => K (.exit 0) ({ n := 34, sl := [], vr := [], lent := [] })
noncomputable def b0 (self : Int → Option Out) (e0 : (Unit) → Option Out) (a1 : Arg) (v402 : Int) : Option Out := bif decide (v402 < (a1.1.length : Int)) then (if 0 ≤ v402 then ((a1.1[v402.toNat]?).bind fun x603 => (spec_l9Change.sem (x603, ())).bind fun r604 => bif !decide (r604.1 = (0 : Int)) then (some (r604.1, ())) else bif decide ((0 : Int) < v402) then (if 0 ≤ w64 (v402 - (1 : Int)) then ((a1.1[(w64 (v402 - (1 : Int))).toNat]?).bind fun x605 => if 0 ≤ v402 then ((a1.1[v402.toNat]?).bind fun x606 => (spec_l9Ahead.sem (x605, x606, ())).bind fun r607 => bif !r607.1 then (some ((1 : Int), ())) else self (w64 (v402 + (1 : Int)))) else none) else none) else self (w64 (v402 + (1 : Int)))) else none) else e0 ()
noncomputable def B0 (k : Nat) (self : Int → Option Out) (e0 : (Unit) → Option Out) (a1 : Arg) (v402 : Int) : Option Out := b0 self e0 a1 v402
theorem b0_eq (k : Nat) (rec : St → Option Out) (K : Ex → St → Option Out) (a1 : Arg) (v402 : Int) : codeK E k fin (sub [1, 1, 0, 1, 0, 0] C) ({ n := 34, sl := [(0, .val (.slc tChange) a1.1), (3, .val i64 v402)], vr := [], lent := [] }) (loopC rec (keepF [0, 3] []) K) = b0 (S0 rec a1) (X0_0 K a1) a1 v402 := by kernel_rfl
theorem B0_eq (k : Nat) (rec : St → Option Out) (K : Ex → St → Option Out) (a1 : Arg) (v402 : Int) : codeK E k fin (sub [1, 1, 0, 1, 0, 0] C) ({ n := 34, sl := [(0, .val (.slc tChange) a1.1), (3, .val i64 v402)], vr := [], lent := [] }) (loopC rec (keepF [0, 3] []) K) = B0 k (S0 rec a1) (X0_0 K a1) a1 v402 := (b0_eq k rec K a1 v402).trans (by rfl)
noncomputable def l0 (k : Nat) (a1 : Arg) (e0 : (Unit) → Option Out) (v : Int) : Option Out := rawIter (fun self v => B0 k self e0 a1 v) k v
theorem l0_eq (k : Nat) (K : Ex → St → Option Out) (a1 : Arg) (v402 : Int) : iterK (codeK E k fin (sub [1, 1, 0, 1, 0, 0] C)) (keepF [0, 3] []) K k ({ n := 34, sl := [(0, .val (.slc tChange) a1.1), (3, .val i64 v402)], vr := [], lent := [] }) = l0 k a1 (X0_0 K a1) v402 :=
  iter_raw _ _ K (fun v402 => ({ n := 34, sl := [(0, .val (.slc tChange) a1.1), (3, .val i64 v402)], vr := [], lent := [] } : St)) (fun self v => B0 k self (X0_0 K a1) a1 v) (fun rec v => B0_eq k rec K a1 v) k v402
noncomputable def q0 (a1 : Arg) (z608 : (Unit)) : Option Out := some ((0 : Int), ())
noncomputable def Q0 (k : Nat) (a1 : Arg) (z608 : (Unit)) : Option Out := q0 a1 z608
theorem q0_eq (k : Nat) (a1 : Arg) (z608 : (Unit)) : (blockC 0 (seqC (codeK E k fin (sub [1, 1, 1] C)) K0)) (.exit 0) ({ n := 34, sl := [], vr := [], lent := [] }) = q0 a1 z608 := by kernel_rfl
theorem Q0_eq (k : Nat) (a1 : Arg) (z608 : (Unit)) : (blockC 0 (seqC (codeK E k fin (sub [1, 1, 1] C)) K0)) (.exit 0) ({ n := 34, sl := [], vr := [], lent := [] }) = Q0 k a1 z608 := (q0_eq k a1 z608).trans (by rfl)
noncomputable def s0 (k : Nat) (a1 : Arg) : (Int) → Option Out := fun v402 => iterK (codeK E k fin (sub [1, 1, 0, 1, 0, 0] C)) (keepF [0, 3] []) (blockC 0 (seqC (codeK E k fin (sub [1, 1, 1] C)) K0)) k ({ n := 34, sl := [(0, .val (.slc tChange) a1.1), (3, .val i64 v402)], vr := [], lent := [] })
noncomputable def r0 (k : Nat) (a1 : Arg) : (Int) → Option Out := fun v402 => l0 k a1 (fun z => Q0 k a1 z) v402
theorem s0_eq (k : Nat) (a1 : Arg) : s0 k a1 = r0 k a1 := by
  funext v402;
  have h0 : X0_0 ((blockC 0 (seqC (codeK E k fin (sub [1, 1, 1] C)) K0))) a1 = fun z => Q0 k a1 z := funext fun z => Q0_eq k a1 z
  refine (l0_eq k ((blockC 0 (seqC (codeK E k fin (sub [1, 1, 1] C)) K0))) a1 v402).trans ?_
  rw [h0]
  rfl
noncomputable def p (l0 : (Int) → Option Out) (a1 : Arg) : Option Out := bif decide ((60 : Int) < (a1.1.length : Int)) then (some ((2 : Int), ())) else l0 (0 : Int)
noncomputable def raw (k : Nat) (a1 : Arg) : Option Out := p (r0 k a1) a1
theorem p_eq (k : Nat) (a1 : Arg) : bodyK E k Go.Proofs.Try.f210 ps rs [] [] a1 = p (s0 k a1) a1 := by kernel_rfl
theorem raw_eq (k : Nat) (a1 : Arg) : bodyK E k Go.Proofs.Try.f210 ps rs [] [] a1 = raw k a1 := (p_eq k a1).trans (by rw [s0_eq]; rfl)
theorem ent : EnterOk Go.Proofs.Try.prog 210 sig.cap := ⟨Go.Proofs.Try.f210, Go.Proofs.Try.func210, by kernel_rfl, by kernel_rfl, by kernel_rfl⟩
theorem env : EnvOk Go.Proofs.Try.prog E := env_ok (tl := [(141, (.slc tChange))]) (gl := [(160, spec_l9Change.sig), (256, spec_l9Ahead.sig)]) rfl rfl (by kernel_rfl) (by kernel_rfl) (fn_cons spec_l9Change.snd spec_l9Change.ent (fn_cons spec_l9Ahead.snd spec_l9Ahead.ent (fn_nil _)))
theorem chk : funOk Go.Proofs.Try.prog E Go.Proofs.Try.f210 ps rs [] = true := by kernel_rfl
theorem snd : Sound Go.Proofs.Try.prog 210 sig := sound_of_body env Go.Proofs.Try.func210 rfl (es := []) (fr := []) chk (fun _ _ h => lift_some h)
end spec_l9List
namespace spec_l14Sent
/-! loop example g00408 spec l14Sent -/
abbrev Arg : Type := Sent × Unit
abbrev Out : Type := Int × Unit
noncomputable def ps : List (PM × Ty) := [(.ro, (.ptr tSent))]
noncomputable def rs : List (Ty × Md) := [(i64, (roMd i64))]
noncomputable def E : Env := { TI := lookN [(2, i64), (141, (.slc tChange)), (143, tSent)], G := lookN [(90, spec_l1In.sig), (210, spec_l9List.sig)], fz := [], lv := [], lx := [], lf := [], od := [] }
noncomputable def sem (a : Arg) : Option Out := lift fun k => bodyK E k Go.Proofs.Try.f139 ps rs [] [] a
noncomputable def sig : Sig := { ps := ps, rs := rs, F := fun a => sem a }
noncomputable def C : Code := bodyOf Go.Proofs.Try.f139
noncomputable def fin : St → Option Out := outK ps rs [] (Func.results Go.Proofs.Try.f139).toList (mvs [])
noncomputable def K0 : Ex → St → Option Out := endK fin
noncomputable def p (a1 : Arg) : Option Out := (spec_l1In.sem (a1.1.1, (0 : Int), (16000 : Int), ())).bind fun r2 => bif !r2.1 then (some ((3 : Int), ())) else (spec_l1In.sem (a1.1.2.1, (1 : Int), (99 : Int), ())).bind fun r3 => bif !r3.1 then (some ((3 : Int), ())) else (spec_l9List.sem (a1.1.2.2.1, ())).bind fun r4 => some (r4.1, ())
noncomputable def raw (k : Nat) (a1 : Arg) : Option Out := p a1
theorem p_eq (k : Nat) (a1 : Arg) : bodyK E k Go.Proofs.Try.f139 ps rs [] [] a1 = p a1 := by kernel_rfl
theorem raw_eq (k : Nat) (a1 : Arg) : bodyK E k Go.Proofs.Try.f139 ps rs [] [] a1 = raw k a1 := (p_eq k a1).trans (by rfl)
theorem ent : EnterOk Go.Proofs.Try.prog 139 sig.cap := ⟨Go.Proofs.Try.f139, Go.Proofs.Try.func139, by kernel_rfl, by kernel_rfl, by kernel_rfl⟩
theorem env : EnvOk Go.Proofs.Try.prog E := env_ok (tl := [(2, i64), (141, (.slc tChange)), (143, tSent)]) (gl := [(90, spec_l1In.sig), (210, spec_l9List.sig)]) rfl rfl (by kernel_rfl) (by kernel_rfl) (fn_cons spec_l1In.snd spec_l1In.ent (fn_cons spec_l9List.snd spec_l9List.ent (fn_nil _)))
theorem chk : funOk Go.Proofs.Try.prog E Go.Proofs.Try.f139 ps rs [] = true := by kernel_rfl
theorem snd : Sound Go.Proofs.Try.prog 139 sig := sound_of_body env Go.Proofs.Try.func139 rfl (es := []) (fr := []) chk (fun _ _ h => lift_some h)
end spec_l14Sent
namespace spec_l6At
/-! loop example g00408 spec l6At -/
abbrev Arg : Type := (List Row) × Int × Int × Unit
abbrev Out : Type := Int × Unit
noncomputable def ps : List (PM × Ty) := [(.ro, (.slc tRow)), (.ro, i64), (.ro, i64)]
noncomputable def rs : List (Ty × Md) := [(i64, (roMd i64))]
noncomputable def E : Env := { TI := lookN [(2, i64), (28, (.slc tRow)), (128, tRow)], G := lookN [], fz := [], lv := [(2, [0, 1, 2, 7])], lx := [(0, [])], lf := [], od := [] }
noncomputable def sem (a : Arg) : Option Out := lift fun k => bodyK E k Go.Proofs.Try.f257 ps rs [] [] a
noncomputable def sig : Sig := { ps := ps, rs := rs, F := fun a => sem a }
noncomputable def C : Code := bodyOf Go.Proofs.Try.f257
noncomputable def fin : St → Option Out := outK ps rs [] (Func.results Go.Proofs.Try.f257).toList (mvs [])
noncomputable def K0 : Ex → St → Option Out := endK fin
noncomputable def S0 (rec : St → Option Out) (a1 : Arg) : (Int) → Option Out := fun v402 => rec ({ n := 31, sl := [(0, .val (.slc tRow) a1.1), (1, .val i64 a1.2.1), (2, .val i64 a1.2.2.1), (7, .val i64 v402)], vr := [], lent := [] })
noncomputable def X0_0 (K : Ex → St → Option Out) (a1 : Arg) : (Unit) → Option Out := fun z => K (.exit 0) ({ n := 31, sl := [], vr := [], lent := [] })
noncomputable def b0 (self : Int → Option Out) (e0 : (Unit) → Option Out) (a1 : Arg) (v402 : Int) : Option Out := bif decide (v402 < (a1.1.length : Int)) then (if 0 ≤ v402 then ((a1.1[v402.toNat]?).bind fun x603 => bif decide (x603.1 = a1.2.1) then (if 0 ≤ v402 then ((a1.1[v402.toNat]?).bind fun x604 => bif decide (x604.2.1 = a1.2.2.1) then (some (v402, ())) else self (w64 (v402 + (1 : Int)))) else none) else self (w64 (v402 + (1 : Int)))) else none) else e0 ()
noncomputable def B0 (k : Nat) (self : Int → Option Out) (e0 : (Unit) → Option Out) (a1 : Arg) (v402 : Int) : Option Out := b0 self e0 a1 v402
theorem b0_eq (k : Nat) (rec : St → Option Out) (K : Ex → St → Option Out) (a1 : Arg) (v402 : Int) : codeK E k fin (sub [1, 0, 1, 0, 0] C) ({ n := 31, sl := [(0, .val (.slc tRow) a1.1), (1, .val i64 a1.2.1), (2, .val i64 a1.2.2.1), (7, .val i64 v402)], vr := [], lent := [] }) (loopC rec (keepF [0, 1, 2, 7] []) K) = b0 (S0 rec a1) (X0_0 K a1) a1 v402 := by kernel_rfl
theorem B0_eq (k : Nat) (rec : St → Option Out) (K : Ex → St → Option Out) (a1 : Arg) (v402 : Int) : codeK E k fin (sub [1, 0, 1, 0, 0] C) ({ n := 31, sl := [(0, .val (.slc tRow) a1.1), (1, .val i64 a1.2.1), (2, .val i64 a1.2.2.1), (7, .val i64 v402)], vr := [], lent := [] }) (loopC rec (keepF [0, 1, 2, 7] []) K) = B0 k (S0 rec a1) (X0_0 K a1) a1 v402 := (b0_eq k rec K a1 v402).trans (by rfl)
noncomputable def l0 (k : Nat) (a1 : Arg) (e0 : (Unit) → Option Out) (v : Int) : Option Out := rawIter (fun self v => B0 k self e0 a1 v) k v
theorem l0_eq (k : Nat) (K : Ex → St → Option Out) (a1 : Arg) (v402 : Int) : iterK (codeK E k fin (sub [1, 0, 1, 0, 0] C)) (keepF [0, 1, 2, 7] []) K k ({ n := 31, sl := [(0, .val (.slc tRow) a1.1), (1, .val i64 a1.2.1), (2, .val i64 a1.2.2.1), (7, .val i64 v402)], vr := [], lent := [] }) = l0 k a1 (X0_0 K a1) v402 :=
  iter_raw _ _ K (fun v402 => ({ n := 31, sl := [(0, .val (.slc tRow) a1.1), (1, .val i64 a1.2.1), (2, .val i64 a1.2.2.1), (7, .val i64 v402)], vr := [], lent := [] } : St)) (fun self v => B0 k self (X0_0 K a1) a1 v) (fun rec v => B0_eq k rec K a1 v) k v402
noncomputable def q0 (a1 : Arg) (z605 : (Unit)) : Option Out := some ((-1 : Int), ())
noncomputable def Q0 (k : Nat) (a1 : Arg) (z605 : (Unit)) : Option Out := q0 a1 z605
theorem q0_eq (k : Nat) (a1 : Arg) (z605 : (Unit)) : (blockC 0 (seqC (codeK E k fin (sub [1, 1] C)) K0)) (.exit 0) ({ n := 31, sl := [], vr := [], lent := [] }) = q0 a1 z605 := by kernel_rfl
theorem Q0_eq (k : Nat) (a1 : Arg) (z605 : (Unit)) : (blockC 0 (seqC (codeK E k fin (sub [1, 1] C)) K0)) (.exit 0) ({ n := 31, sl := [], vr := [], lent := [] }) = Q0 k a1 z605 := (q0_eq k a1 z605).trans (by rfl)
noncomputable def s0 (k : Nat) (a1 : Arg) : (Int) → Option Out := fun v402 => iterK (codeK E k fin (sub [1, 0, 1, 0, 0] C)) (keepF [0, 1, 2, 7] []) (blockC 0 (seqC (codeK E k fin (sub [1, 1] C)) K0)) k ({ n := 31, sl := [(0, .val (.slc tRow) a1.1), (1, .val i64 a1.2.1), (2, .val i64 a1.2.2.1), (7, .val i64 v402)], vr := [], lent := [] })
noncomputable def r0 (k : Nat) (a1 : Arg) : (Int) → Option Out := fun v402 => l0 k a1 (fun z => Q0 k a1 z) v402
theorem s0_eq (k : Nat) (a1 : Arg) : s0 k a1 = r0 k a1 := by
  funext v402;
  have h0 : X0_0 ((blockC 0 (seqC (codeK E k fin (sub [1, 1] C)) K0))) a1 = fun z => Q0 k a1 z := funext fun z => Q0_eq k a1 z
  refine (l0_eq k ((blockC 0 (seqC (codeK E k fin (sub [1, 1] C)) K0))) a1 v402).trans ?_
  rw [h0]
  rfl
noncomputable def p (l0 : (Int) → Option Out) (a1 : Arg) : Option Out := l0 (0 : Int)
noncomputable def raw (k : Nat) (a1 : Arg) : Option Out := p (r0 k a1) a1
theorem p_eq (k : Nat) (a1 : Arg) : bodyK E k Go.Proofs.Try.f257 ps rs [] [] a1 = p (s0 k a1) a1 := by kernel_rfl
theorem raw_eq (k : Nat) (a1 : Arg) : bodyK E k Go.Proofs.Try.f257 ps rs [] [] a1 = raw k a1 := (p_eq k a1).trans (by rw [s0_eq]; rfl)
theorem ent : EnterOk Go.Proofs.Try.prog 257 sig.cap := ⟨Go.Proofs.Try.f257, Go.Proofs.Try.func257, by kernel_rfl, by kernel_rfl, by kernel_rfl⟩
theorem env : EnvOk Go.Proofs.Try.prog E := env_ok (tl := [(2, i64), (28, (.slc tRow)), (128, tRow)]) (gl := []) rfl rfl (by kernel_rfl) (by kernel_rfl) (fn_nil _)
theorem chk : funOk Go.Proofs.Try.prog E Go.Proofs.Try.f257 ps rs [] = true := by kernel_rfl
theorem snd : Sound Go.Proofs.Try.prog 257 sig := sound_of_body env Go.Proofs.Try.func257 rfl (es := []) (fr := []) chk (fun _ _ h => lift_some h)
end spec_l6At
namespace spec_l6Put
/-! loop example g00408 spec l6Put -/
abbrev Arg : Type := (List Row) × Row × Unit
abbrev Out : Type := (List Row) × Unit
noncomputable def ps : List (PM × Ty) := [(.ro, (.slc tRow)), (.ro, tRow)]
noncomputable def rs : List (Ty × Md) := [((.slc tRow), (ownMd (.slc tRow)))]
noncomputable def E : Env := { TI := lookN [(28, (.slc tRow)), (128, tRow)], G := lookN [(209, spec_l1Before.sig)], fz := [], lv := [(2, [0, 3, 5])], lx := [(0, [0, 3, 5])], lf := [], od := [(5, [0, 1, 4, 5, 6, 2, 3, 7, 8])] }
noncomputable def sem (a : Arg) : Option Out := lift fun k => bodyK E k Go.Proofs.Try.f258 ps rs [] [] a
noncomputable def sig : Sig := { ps := ps, rs := rs, F := fun a => sem a }
noncomputable def C : Code := bodyOf Go.Proofs.Try.f258
noncomputable def fin : St → Option Out := outK ps rs [] (Func.results Go.Proofs.Try.f258).toList (mvs [])
noncomputable def K0 : Ex → St → Option Out := endK fin
noncomputable def S0 (rec : St → Option Out) (a1 : Arg) : (Int) → Option Out := fun v402 => rec ({ n := 32, sl := [(0, .val (.slc tRow) a1.1), (3, .box tRow (roMd tRow) [] a1.2.1), (5, .val i64 v402)], vr := [], lent := [] })
noncomputable def X0_0 (K : Ex → St → Option Out) (a1 : Arg) : Int → Option Out := fun z => K (.exit 0) ({ n := 32, sl := [(0, .val (.slc tRow) a1.1), (3, .box tRow (roMd tRow) [] a1.2.1), (5, .val i64 z)], vr := [], lent := [] })
noncomputable def b0 (self : Int → Option Out) (e0 : Int → Option Out) (a1 : Arg) (v402 : Int) : Option Out := bif decide (v402 < (a1.1.length : Int)) then (if 0 ≤ v402 then ((a1.1[v402.toNat]?).bind fun x603 => (spec_l1Before.sem (x603, a1.2.1, ())).bind fun r604 => bif r604.1 then (self (w64 (v402 + (1 : Int)))) else e0 v402) else none) else e0 v402
noncomputable def B0 (k : Nat) (self : Int → Option Out) (e0 : Int → Option Out) (a1 : Arg) (v402 : Int) : Option Out := b0 self e0 a1 v402
theorem b0_eq (k : Nat) (rec : St → Option Out) (K : Ex → St → Option Out) (a1 : Arg) (v402 : Int) : codeK E k fin (sub [1, 1, 0, 0, 0] C) ({ n := 32, sl := [(0, .val (.slc tRow) a1.1), (3, .box tRow (roMd tRow) [] a1.2.1), (5, .val i64 v402)], vr := [], lent := [] }) (loopC rec (keepF [0, 3, 5] []) K) = b0 (S0 rec a1) (X0_0 K a1) a1 v402 := by kernel_rfl
theorem B0_eq (k : Nat) (rec : St → Option Out) (K : Ex → St → Option Out) (a1 : Arg) (v402 : Int) : codeK E k fin (sub [1, 1, 0, 0, 0] C) ({ n := 32, sl := [(0, .val (.slc tRow) a1.1), (3, .box tRow (roMd tRow) [] a1.2.1), (5, .val i64 v402)], vr := [], lent := [] }) (loopC rec (keepF [0, 3, 5] []) K) = B0 k (S0 rec a1) (X0_0 K a1) a1 v402 := (b0_eq k rec K a1 v402).trans (by rfl)
noncomputable def l0 (k : Nat) (a1 : Arg) (e0 : Int → Option Out) (v : Int) : Option Out := rawIter (fun self v => B0 k self e0 a1 v) k v
theorem l0_eq (k : Nat) (K : Ex → St → Option Out) (a1 : Arg) (v402 : Int) : iterK (codeK E k fin (sub [1, 1, 0, 0, 0] C)) (keepF [0, 3, 5] []) K k ({ n := 32, sl := [(0, .val (.slc tRow) a1.1), (3, .box tRow (roMd tRow) [] a1.2.1), (5, .val i64 v402)], vr := [], lent := [] }) = l0 k a1 (X0_0 K a1) v402 :=
  iter_raw _ _ K (fun v402 => ({ n := 32, sl := [(0, .val (.slc tRow) a1.1), (3, .box tRow (roMd tRow) [] a1.2.1), (5, .val i64 v402)], vr := [], lent := [] } : St)) (fun self v => B0 k self (X0_0 K a1) a1 v) (fun rec v => B0_eq k rec K a1 v) k v402
noncomputable def q0 (a1 : Arg) (z605 : Int) : Option Out := if 0 ≤ z605 ∧ z605 ≤ (a1.1.length : Int) then (if ([] : List Row).length + ((a1.1.take z605.toNat).drop 0).length ≤ CAP then (let y606 := ([] : List Row) ++ ((a1.1.take z605.toNat).drop 0); if 0 ≤ z605 ∧ z605 ≤ (a1.1.length : Int) then (if y606.length + [a1.2.1].length ≤ CAP then (if (y606 ++ [a1.2.1]).length + ((a1.1.take a1.1.length).drop z605.toNat).length ≤ CAP then (let y607 := (y606 ++ [a1.2.1]) ++ ((a1.1.take a1.1.length).drop z605.toNat); some (y607, ())) else none) else none) else none) else none) else none
noncomputable def Q0 (k : Nat) (a1 : Arg) (z605 : Int) : Option Out := q0 a1 z605
theorem q0_eq (k : Nat) (a1 : Arg) (z605 : Int) : (blockC 0 (seqC (codeK E k fin (sub [1, 1, 1] C)) K0)) (.exit 0) ({ n := 32, sl := [(0, .val (.slc tRow) a1.1), (3, .box tRow (roMd tRow) [] a1.2.1), (5, .val i64 z605)], vr := [], lent := [] }) = q0 a1 z605 := by kernel_rfl
theorem Q0_eq (k : Nat) (a1 : Arg) (z605 : Int) : (blockC 0 (seqC (codeK E k fin (sub [1, 1, 1] C)) K0)) (.exit 0) ({ n := 32, sl := [(0, .val (.slc tRow) a1.1), (3, .box tRow (roMd tRow) [] a1.2.1), (5, .val i64 z605)], vr := [], lent := [] }) = Q0 k a1 z605 := (q0_eq k a1 z605).trans (by rfl)
noncomputable def s0 (k : Nat) (a1 : Arg) : (Int) → Option Out := fun v402 => iterK (codeK E k fin (sub [1, 1, 0, 0, 0] C)) (keepF [0, 3, 5] []) (blockC 0 (seqC (codeK E k fin (sub [1, 1, 1] C)) K0)) k ({ n := 32, sl := [(0, .val (.slc tRow) a1.1), (3, .box tRow (roMd tRow) [] a1.2.1), (5, .val i64 v402)], vr := [], lent := [] })
noncomputable def r0 (k : Nat) (a1 : Arg) : (Int) → Option Out := fun v402 => l0 k a1 (fun z => Q0 k a1 z) v402
theorem s0_eq (k : Nat) (a1 : Arg) : s0 k a1 = r0 k a1 := by
  funext v402;
  have h0 : X0_0 ((blockC 0 (seqC (codeK E k fin (sub [1, 1, 1] C)) K0))) a1 = fun z => Q0 k a1 z := funext fun z => Q0_eq k a1 z
  refine (l0_eq k ((blockC 0 (seqC (codeK E k fin (sub [1, 1, 1] C)) K0))) a1 v402).trans ?_
  rw [h0]
  rfl
noncomputable def p (l0 : (Int) → Option Out) (a1 : Arg) : Option Out := l0 (0 : Int)
noncomputable def raw (k : Nat) (a1 : Arg) : Option Out := p (r0 k a1) a1
theorem p_eq (k : Nat) (a1 : Arg) : bodyK E k Go.Proofs.Try.f258 ps rs [] [] a1 = p (s0 k a1) a1 := by kernel_rfl
theorem raw_eq (k : Nat) (a1 : Arg) : bodyK E k Go.Proofs.Try.f258 ps rs [] [] a1 = raw k a1 := (p_eq k a1).trans (by rw [s0_eq]; rfl)
theorem ent : EnterOk Go.Proofs.Try.prog 258 sig.cap := ⟨Go.Proofs.Try.f258, Go.Proofs.Try.func258, by kernel_rfl, by kernel_rfl, by kernel_rfl⟩
theorem env : EnvOk Go.Proofs.Try.prog E := env_ok (tl := [(28, (.slc tRow)), (128, tRow)]) (gl := [(209, spec_l1Before.sig)]) rfl rfl (by kernel_rfl) (by kernel_rfl) (fn_cons spec_l1Before.snd spec_l1Before.ent (fn_nil _))
theorem chk : funOk Go.Proofs.Try.prog E Go.Proofs.Try.f258 ps rs [] = true := by kernel_rfl
theorem snd : Sound Go.Proofs.Try.prog 258 sig := sound_of_body env Go.Proofs.Try.func258 rfl (es := []) (fr := []) chk (fun _ _ h => lift_some h)
end spec_l6Put
namespace spec_l6Do
/-! loop example g00408 spec l6Do -/
abbrev Arg : Type := (List Row) × Change × Unit
abbrev Out : Type := (List Row) × Bool × Unit
noncomputable def ps : List (PM × Ty) := [(.ro, (.slc tRow)), (.ro, (.ptr tChange))]
noncomputable def rs : List (Ty × Md) := [((.slc tRow), (ownMd (.slc tRow))), (.bool, (roMd .bool))]
noncomputable def E : Env := { TI := lookN [(4, .bool), (28, (.slc tRow)), (128, tRow), (130, tChange)], G := lookN [(229, spec_l6Key.sig), (257, spec_l6At.sig), (258, spec_l6Put.sig)], fz := [], lv := [(7, [0, 1, 8, 9, 10])], lx := [(0, [1, 9])], lf := [], od := [(3, [0, 1, 2, 3, 4, 5, 6, 7, 8, 9, 10, 11, 12, 13, 14, 15, 16, 17, 18, 19, 20, 21])] }
noncomputable def sem (a : Arg) : Option Out := lift fun k => bodyK E k Go.Proofs.Try.f212 ps rs [] [] a
noncomputable def sig : Sig := { ps := ps, rs := rs, F := fun a => sem a }
noncomputable def C : Code := bodyOf Go.Proofs.Try.f212
noncomputable def fin : St → Option Out := outK ps rs [] (Func.results Go.Proofs.Try.f212).toList (mvs [])
noncomputable def K0 : Ex → St → Option Out := endK fin
noncomputable def S0 (rec : St → Option Out) (a1 : Arg) (c1011 : Int) : ((List Row) × Int) → Option Out := fun v1010 => rec ({ n := 70, sl := [(0, .val (.slc tRow) a1.1), (1, .cp tChange a1.2.1), (8, .val i64 c1011), (9, .own (.slc tRow) (ownMd (.slc tRow)) [] v1010.1), (10, .val i64 v1010.2)], vr := [], lent := [] })
noncomputable def X0_0 (K : Ex → St → Option Out) (a1 : Arg) (c1011 : Int) : (List Row) → Option Out := fun z => K (.exit 0) ({ n := 70, sl := [(1, .cp tChange a1.2.1), (9, .own (.slc tRow) (ownMd (.slc tRow)) [] z)], vr := [], lent := [] })
noncomputable def b0 (self : ((List Row) × Int) → Option Out) (e0 : (List Row) → Option Out) (a1 : Arg) (c1011 : Int) (v1010 : (List Row) × Int) : Option Out := bif decide (v1010.2 < (a1.1.length : Int)) then (bif !decide (v1010.2 = c1011) then (if 0 ≤ v1010.2 then ((a1.1[v1010.2.toNat]?).bind fun x1212 => if v1010.1.length + [x1212].length ≤ CAP then (self (v1010.1 ++ [x1212], w64 (v1010.2 + (1 : Int)))) else none) else none) else self (v1010.1, w64 (v1010.2 + (1 : Int)))) else e0 v1010.1
noncomputable def B0 (k : Nat) (self : ((List Row) × Int) → Option Out) (e0 : (List Row) → Option Out) (a1 : Arg) (c1011 : Int) (v1010 : (List Row) × Int) : Option Out := b0 self e0 a1 c1011 v1010
theorem b0_eq (k : Nat) (rec : St → Option Out) (K : Ex → St → Option Out) (a1 : Arg) (c1011 : Int) (v1010 : (List Row) × Int) : codeK E k fin (sub [1, 1, 1, 1, 1, 0, 1, 0, 0] C) ({ n := 70, sl := [(0, .val (.slc tRow) a1.1), (1, .cp tChange a1.2.1), (8, .val i64 c1011), (9, .own (.slc tRow) (ownMd (.slc tRow)) [] v1010.1), (10, .val i64 v1010.2)], vr := [], lent := [] }) (loopC rec (keepF [0, 1, 8, 9, 10] []) K) = b0 (S0 rec a1 c1011) (X0_0 K a1 c1011) a1 c1011 v1010 := by kernel_rfl
theorem B0_eq (k : Nat) (rec : St → Option Out) (K : Ex → St → Option Out) (a1 : Arg) (c1011 : Int) (v1010 : (List Row) × Int) : codeK E k fin (sub [1, 1, 1, 1, 1, 0, 1, 0, 0] C) ({ n := 70, sl := [(0, .val (.slc tRow) a1.1), (1, .cp tChange a1.2.1), (8, .val i64 c1011), (9, .own (.slc tRow) (ownMd (.slc tRow)) [] v1010.1), (10, .val i64 v1010.2)], vr := [], lent := [] }) (loopC rec (keepF [0, 1, 8, 9, 10] []) K) = B0 k (S0 rec a1 c1011) (X0_0 K a1 c1011) a1 c1011 v1010 := (b0_eq k rec K a1 c1011 v1010).trans (by rfl)
noncomputable def l0 (k : Nat) (a1 : Arg) (c1011 : Int) (e0 : (List Row) → Option Out) (v : (List Row) × Int) : Option Out := rawIter (fun self v => B0 k self e0 a1 c1011 v) k v
theorem l0_eq (k : Nat) (K : Ex → St → Option Out) (a1 : Arg) (c1011 : Int) (v1010 : (List Row) × Int) : iterK (codeK E k fin (sub [1, 1, 1, 1, 1, 0, 1, 0, 0] C)) (keepF [0, 1, 8, 9, 10] []) K k ({ n := 70, sl := [(0, .val (.slc tRow) a1.1), (1, .cp tChange a1.2.1), (8, .val i64 c1011), (9, .own (.slc tRow) (ownMd (.slc tRow)) [] v1010.1), (10, .val i64 v1010.2)], vr := [], lent := [] }) = l0 k a1 c1011 (X0_0 K a1 c1011) v1010 :=
  iter_raw _ _ K (fun v1010 => ({ n := 70, sl := [(0, .val (.slc tRow) a1.1), (1, .cp tChange a1.2.1), (8, .val i64 c1011), (9, .own (.slc tRow) (ownMd (.slc tRow)) [] v1010.1), (10, .val i64 v1010.2)], vr := [], lent := [] } : St)) (fun self v => B0 k self (X0_0 K a1 c1011) a1 c1011 v) (fun rec v => B0_eq k rec K a1 c1011 v) k v1010
noncomputable def q0 (a1 : Arg) (c1011 : Int) (z1213 : (List Row)) : Option Out := bif a1.2.1.2.2.1 then ((spec_l6Put.sem (z1213, a1.2.1.2.2.2.1, ())).bind fun r1214 => some (r1214.1, true, ())) else some (z1213, true, ())
noncomputable def Q0 (k : Nat) (a1 : Arg) (c1011 : Int) (z1213 : (List Row)) : Option Out := q0 a1 c1011 z1213
theorem q0_eq (k : Nat) (a1 : Arg) (c1011 : Int) (z1213 : (List Row)) : (blockC 0 (seqC (codeK E k fin (sub [1, 1, 1, 1, 1, 1] C)) K0)) (.exit 0) ({ n := 70, sl := [(1, .cp tChange a1.2.1), (9, .own (.slc tRow) (ownMd (.slc tRow)) [] z1213)], vr := [], lent := [] }) = q0 a1 c1011 z1213 := by kernel_rfl
theorem Q0_eq (k : Nat) (a1 : Arg) (c1011 : Int) (z1213 : (List Row)) : (blockC 0 (seqC (codeK E k fin (sub [1, 1, 1, 1, 1, 1] C)) K0)) (.exit 0) ({ n := 70, sl := [(1, .cp tChange a1.2.1), (9, .own (.slc tRow) (ownMd (.slc tRow)) [] z1213)], vr := [], lent := [] }) = Q0 k a1 c1011 z1213 := (q0_eq k a1 c1011 z1213).trans (by rfl)
noncomputable def s0 (k : Nat) (a1 : Arg) : Int → ((List Row) × Int) → Option Out := fun c1011 v1010 => iterK (codeK E k fin (sub [1, 1, 1, 1, 1, 0, 1, 0, 0] C)) (keepF [0, 1, 8, 9, 10] []) (blockC 0 (seqC (codeK E k fin (sub [1, 1, 1, 1, 1, 1] C)) K0)) k ({ n := 70, sl := [(0, .val (.slc tRow) a1.1), (1, .cp tChange a1.2.1), (8, .val i64 c1011), (9, .own (.slc tRow) (ownMd (.slc tRow)) [] v1010.1), (10, .val i64 v1010.2)], vr := [], lent := [] })
noncomputable def r0 (k : Nat) (a1 : Arg) : Int → ((List Row) × Int) → Option Out := fun c1011 v1010 => l0 k a1 c1011 (fun z => Q0 k a1 c1011 z) v1010
theorem s0_eq (k : Nat) (a1 : Arg) : s0 k a1 = r0 k a1 := by
  funext c1011; funext v1010;
  have h0 : X0_0 ((blockC 0 (seqC (codeK E k fin (sub [1, 1, 1, 1, 1, 1] C)) K0))) a1 c1011 = fun z => Q0 k a1 c1011 z := funext fun z => Q0_eq k a1 c1011 z
  refine (l0_eq k ((blockC 0 (seqC (codeK E k fin (sub [1, 1, 1, 1, 1, 1] C)) K0))) a1 c1011 v1010).trans ?_
  rw [h0]
  rfl
noncomputable def p (l0 : Int → ((List Row) × Int) → Option Out) (a1 : Arg) : Option Out := (spec_l6Key.sem (a1.2.1, ())).bind fun r2 => (spec_l6At.sem (a1.1, r2.1, r2.2.1, ())).bind fun r3 => let j609 : Option Out := l0 r3.1 (([] : List Row), (0 : Int)); bif !(a1.2.1.1 == (decide ((0 : Int) ≤ r3.1))) then (some (([] : List Row), false, ())) else bif decide ((0 : Int) ≤ r3.1) then (if 0 ≤ r3.1 then ((a1.1[r3.1.toNat]?).bind fun x4 => bif !(Ty.eq tRow x4 a1.2.1.2.1) then (some (([] : List Row), false, ())) else j609) else none) else j609
noncomputable def raw (k : Nat) (a1 : Arg) : Option Out := p (r0 k a1) a1
theorem p_eq (k : Nat) (a1 : Arg) : bodyK E k Go.Proofs.Try.f212 ps rs [] [] a1 = p (s0 k a1) a1 := by kernel_rfl
theorem raw_eq (k : Nat) (a1 : Arg) : bodyK E k Go.Proofs.Try.f212 ps rs [] [] a1 = raw k a1 := (p_eq k a1).trans (by rw [s0_eq]; rfl)
theorem ent : EnterOk Go.Proofs.Try.prog 212 sig.cap := ⟨Go.Proofs.Try.f212, Go.Proofs.Try.func212, by kernel_rfl, by kernel_rfl, by kernel_rfl⟩
theorem env : EnvOk Go.Proofs.Try.prog E := env_ok (tl := [(4, .bool), (28, (.slc tRow)), (128, tRow), (130, tChange)]) (gl := [(229, spec_l6Key.sig), (257, spec_l6At.sig), (258, spec_l6Put.sig)]) rfl rfl (by kernel_rfl) (by kernel_rfl) (fn_cons spec_l6Key.snd spec_l6Key.ent (fn_cons spec_l6At.snd spec_l6At.ent (fn_cons spec_l6Put.snd spec_l6Put.ent (fn_nil _))))
theorem chk : funOk Go.Proofs.Try.prog E Go.Proofs.Try.f212 ps rs [] = true := by kernel_rfl
theorem snd : Sound Go.Proofs.Try.prog 212 sig := sound_of_body env Go.Proofs.Try.func212 rfl (es := []) (fr := []) chk (fun _ _ h => lift_some h)
end spec_l6Do
namespace spec_ApplyChanges
/-! loop example g00408 spec ApplyChanges -/
abbrev Arg : Type := (List Row) × (List Change) × Unit
abbrev Out : Type := RowsResult × Unit
noncomputable def ps : List (PM × Ty) := [(.ro, (.slc tRow)), (.ro, (.slc tChange))]
noncomputable def rs : List (Ty × Md) := [(tRowsResult, (ownMd tRowsResult))]
noncomputable def E : Env := { TI := lookN [(28, (.slc tRow)), (97, tRowsResult), (141, (.slc tChange))], G := lookN [(138, spec_l6Rows.sig), (211, spec_l6Change.sig), (212, spec_l6Do.sig)], fz := [], lv := [(6, [1, 4, 6, 7])], lx := [(0, [4, 6])], lf := [], od := [] }
noncomputable def sem (a : Arg) : Option Out := lift fun k => bodyK E k Go.Proofs.Try.f140 ps rs [] [] a
noncomputable def sig : Sig := { ps := ps, rs := rs, F := fun a => sem a }
noncomputable def C : Code := bodyOf Go.Proofs.Try.f140
noncomputable def fin : St → Option Out := outK ps rs [] (Func.results Go.Proofs.Try.f140).toList (mvs [])
noncomputable def K0 : Ex → St → Option Out := endK fin
noncomputable def S0 (rec : St → Option Out) (a1 : Arg) : ((List Row) × Int) → Option Out := fun v403 => rec ({ n := 52, sl := [(1, .val (.slc tChange) a1.2.1), (4, .box tRowsResult (ownMd tRowsResult) [] ((0 : Int), ([] : List Row), ())), (6, .own (.slc tRow) (ownMd (.slc tRow)) [] v403.1), (7, .val i64 v403.2)], vr := [], lent := [] })
noncomputable def X0_0 (K : Ex → St → Option Out) (a1 : Arg) : (List Row) → Option Out := fun z => K (.exit 0) ({ n := 52, sl := [(4, .box tRowsResult (ownMd tRowsResult) [] ((0 : Int), ([] : List Row), ())), (6, .own (.slc tRow) (ownMd (.slc tRow)) [] z)], vr := [], lent := [] })
noncomputable def b0 (self : ((List Row) × Int) → Option Out) (e0 : (List Row) → Option Out) (a1 : Arg) (v403 : (List Row) × Int) : Option Out := bif decide (v403.2 < (a1.2.1.length : Int)) then (if 0 ≤ v403.2 then ((a1.2.1[v403.2.toNat]?).bind fun x604 => (spec_l6Change.sem (x604, ())).bind fun r605 => bif !decide (r605.1 = (0 : Int)) then (some ((r605.1, ([] : List Row), ()), ())) else if 0 ≤ v403.2 then ((a1.2.1[v403.2.toNat]?).bind fun x606 => (spec_l6Do.sem (v403.1, x606, ())).bind fun r607 => bif !r607.2.1 then (some (((8 : Int), ([] : List Row), ()), ())) else self (r607.1, w64 (v403.2 + (1 : Int)))) else none) else none) else e0 v403.1
noncomputable def B0 (k : Nat) (self : ((List Row) × Int) → Option Out) (e0 : (List Row) → Option Out) (a1 : Arg) (v403 : (List Row) × Int) : Option Out := b0 self e0 a1 v403
theorem b0_eq (k : Nat) (rec : St → Option Out) (K : Ex → St → Option Out) (a1 : Arg) (v403 : (List Row) × Int) : codeK E k fin (sub [1, 1, 1, 0, 1, 0, 0] C) ({ n := 52, sl := [(1, .val (.slc tChange) a1.2.1), (4, .box tRowsResult (ownMd tRowsResult) [] ((0 : Int), ([] : List Row), ())), (6, .own (.slc tRow) (ownMd (.slc tRow)) [] v403.1), (7, .val i64 v403.2)], vr := [], lent := [] }) (loopC rec (keepF [1, 4, 6, 7] []) K) = b0 (S0 rec a1) (X0_0 K a1) a1 v403 := by kernel_rfl
theorem B0_eq (k : Nat) (rec : St → Option Out) (K : Ex → St → Option Out) (a1 : Arg) (v403 : (List Row) × Int) : codeK E k fin (sub [1, 1, 1, 0, 1, 0, 0] C) ({ n := 52, sl := [(1, .val (.slc tChange) a1.2.1), (4, .box tRowsResult (ownMd tRowsResult) [] ((0 : Int), ([] : List Row), ())), (6, .own (.slc tRow) (ownMd (.slc tRow)) [] v403.1), (7, .val i64 v403.2)], vr := [], lent := [] }) (loopC rec (keepF [1, 4, 6, 7] []) K) = B0 k (S0 rec a1) (X0_0 K a1) a1 v403 := (b0_eq k rec K a1 v403).trans (by rfl)
noncomputable def l0 (k : Nat) (a1 : Arg) (e0 : (List Row) → Option Out) (v : (List Row) × Int) : Option Out := rawIter (fun self v => B0 k self e0 a1 v) k v
theorem l0_eq (k : Nat) (K : Ex → St → Option Out) (a1 : Arg) (v403 : (List Row) × Int) : iterK (codeK E k fin (sub [1, 1, 1, 0, 1, 0, 0] C)) (keepF [1, 4, 6, 7] []) K k ({ n := 52, sl := [(1, .val (.slc tChange) a1.2.1), (4, .box tRowsResult (ownMd tRowsResult) [] ((0 : Int), ([] : List Row), ())), (6, .own (.slc tRow) (ownMd (.slc tRow)) [] v403.1), (7, .val i64 v403.2)], vr := [], lent := [] }) = l0 k a1 (X0_0 K a1) v403 :=
  iter_raw _ _ K (fun v403 => ({ n := 52, sl := [(1, .val (.slc tChange) a1.2.1), (4, .box tRowsResult (ownMd tRowsResult) [] ((0 : Int), ([] : List Row), ())), (6, .own (.slc tRow) (ownMd (.slc tRow)) [] v403.1), (7, .val i64 v403.2)], vr := [], lent := [] } : St)) (fun self v => B0 k self (X0_0 K a1) a1 v) (fun rec v => B0_eq k rec K a1 v) k v403
noncomputable def q0 (a1 : Arg) (z608 : (List Row)) : Option Out := bif decide ((60 : Int) < (z608.length : Int)) then (some (((2 : Int), ([] : List Row), ()), ())) else some (((0 : Int), z608, ()), ())
noncomputable def Q0 (k : Nat) (a1 : Arg) (z608 : (List Row)) : Option Out := q0 a1 z608
theorem q0_eq (k : Nat) (a1 : Arg) (z608 : (List Row)) : (blockC 0 (seqC (codeK E k fin (sub [1, 1, 1, 1] C)) K0)) (.exit 0) ({ n := 52, sl := [(4, .box tRowsResult (ownMd tRowsResult) [] ((0 : Int), ([] : List Row), ())), (6, .own (.slc tRow) (ownMd (.slc tRow)) [] z608)], vr := [], lent := [] }) = q0 a1 z608 := by kernel_rfl
theorem Q0_eq (k : Nat) (a1 : Arg) (z608 : (List Row)) : (blockC 0 (seqC (codeK E k fin (sub [1, 1, 1, 1] C)) K0)) (.exit 0) ({ n := 52, sl := [(4, .box tRowsResult (ownMd tRowsResult) [] ((0 : Int), ([] : List Row), ())), (6, .own (.slc tRow) (ownMd (.slc tRow)) [] z608)], vr := [], lent := [] }) = Q0 k a1 z608 := (q0_eq k a1 z608).trans (by rfl)
noncomputable def s0 (k : Nat) (a1 : Arg) : ((List Row) × Int) → Option Out := fun v403 => iterK (codeK E k fin (sub [1, 1, 1, 0, 1, 0, 0] C)) (keepF [1, 4, 6, 7] []) (blockC 0 (seqC (codeK E k fin (sub [1, 1, 1, 1] C)) K0)) k ({ n := 52, sl := [(1, .val (.slc tChange) a1.2.1), (4, .box tRowsResult (ownMd tRowsResult) [] ((0 : Int), ([] : List Row), ())), (6, .own (.slc tRow) (ownMd (.slc tRow)) [] v403.1), (7, .val i64 v403.2)], vr := [], lent := [] })
noncomputable def r0 (k : Nat) (a1 : Arg) : ((List Row) × Int) → Option Out := fun v403 => l0 k a1 (fun z => Q0 k a1 z) v403
theorem s0_eq (k : Nat) (a1 : Arg) : s0 k a1 = r0 k a1 := by
  funext v403;
  have h0 : X0_0 ((blockC 0 (seqC (codeK E k fin (sub [1, 1, 1, 1] C)) K0))) a1 = fun z => Q0 k a1 z := funext fun z => Q0_eq k a1 z
  refine (l0_eq k ((blockC 0 (seqC (codeK E k fin (sub [1, 1, 1, 1] C)) K0))) a1 v403).trans ?_
  rw [h0]
  rfl
noncomputable def p (l0 : ((List Row) × Int) → Option Out) (a1 : Arg) : Option Out := (spec_l6Rows.sem (a1.1, ())).bind fun r2 => bif !decide (r2.1 = (0 : Int)) then (some ((r2.1, ([] : List Row), ()), ())) else if ([] : List Row).length + a1.1.length ≤ CAP then (l0 (([] : List Row) ++ a1.1, (0 : Int))) else none
noncomputable def raw (k : Nat) (a1 : Arg) : Option Out := p (r0 k a1) a1
theorem p_eq (k : Nat) (a1 : Arg) : bodyK E k Go.Proofs.Try.f140 ps rs [] [] a1 = p (s0 k a1) a1 := by kernel_rfl
theorem raw_eq (k : Nat) (a1 : Arg) : bodyK E k Go.Proofs.Try.f140 ps rs [] [] a1 = raw k a1 := (p_eq k a1).trans (by rw [s0_eq]; rfl)
theorem ent : EnterOk Go.Proofs.Try.prog 140 sig.cap := ⟨Go.Proofs.Try.f140, Go.Proofs.Try.func140, by kernel_rfl, by kernel_rfl, by kernel_rfl⟩
theorem env : EnvOk Go.Proofs.Try.prog E := env_ok (tl := [(28, (.slc tRow)), (97, tRowsResult), (141, (.slc tChange))]) (gl := [(138, spec_l6Rows.sig), (211, spec_l6Change.sig), (212, spec_l6Do.sig)]) rfl rfl (by kernel_rfl) (by kernel_rfl) (fn_cons spec_l6Rows.snd spec_l6Rows.ent (fn_cons spec_l6Change.snd spec_l6Change.ent (fn_cons spec_l6Do.snd spec_l6Do.ent (fn_nil _))))
theorem chk : funOk Go.Proofs.Try.prog E Go.Proofs.Try.f140 ps rs [] = true := by kernel_rfl
theorem snd : Sound Go.Proofs.Try.prog 140 sig := sound_of_body env Go.Proofs.Try.func140 rfl (es := []) (fr := []) chk (fun _ _ h => lift_some h)
end spec_ApplyChanges
namespace spec_ReplaySent
/-! loop example g00408 spec ReplaySent -/
abbrev Arg : Type := (List Row) × (List Sent) × Unit
abbrev Out : Type := RowsResult × Unit
noncomputable def ps : List (PM × Ty) := [(.ro, (.slc tRow)), (.ro, (.slc tSent))]
noncomputable def rs : List (Ty × Md) := [(tRowsResult, (ownMd tRowsResult))]
noncomputable def E : Env := { TI := lookN [(2, i64), (25, (.slc tSent)), (28, (.slc tRow)), (97, tRowsResult), (141, (.slc tChange)), (143, tSent)], G := lookN [(138, spec_l6Rows.sig), (139, spec_l14Sent.sig), (140, spec_ApplyChanges.sig)], fz := [], lv := [(5, [0, 1, 4, 6]), (12, [1, 4, 8, 9])], lx := [(0, [0, 1, 4]), (2, [4, 8])], lf := [], od := [(14, [0, 1, 2, 3, 4, 5, 6, 7, 8])] }
noncomputable def sem (a : Arg) : Option Out := lift fun k => bodyK E k Go.Proofs.Try.f58 ps rs [] [] a
noncomputable def sig : Sig := { ps := ps, rs := rs, F := fun a => sem a }
noncomputable def C : Code := bodyOf Go.Proofs.Try.f58
noncomputable def fin : St → Option Out := outK ps rs [] (Func.results Go.Proofs.Try.f58).toList (mvs [])
noncomputable def K0 : Ex → St → Option Out := endK fin
noncomputable def S0 (rec : St → Option Out) (a1 : Arg) : (Int) → Option Out := fun v403 => rec ({ n := 53, sl := [(0, .val (.slc tRow) a1.1), (1, .val (.slc tSent) a1.2.1), (4, .box tRowsResult (ownMd tRowsResult) [] ((0 : Int), ([] : List Row), ())), (6, .val i64 v403)], vr := [], lent := [] })
noncomputable def X0_0 (K : Ex → St → Option Out) (a1 : Arg) : (Unit) → Option Out := fun z => K (.exit 0) ({ n := 53, sl := [(0, .val (.slc tRow) a1.1), (1, .val (.slc tSent) a1.2.1), (4, .box tRowsResult (ownMd tRowsResult) [] ((0 : Int), ([] : List Row), ()))], vr := [], lent := [] })
noncomputable def b0 (self : Int → Option Out) (e0 : (Unit) → Option Out) (a1 : Arg) (v403 : Int) : Option Out := bif decide (v403 < (a1.2.1.length : Int)) then (if 0 ≤ v403 then ((a1.2.1[v403.toNat]?).bind fun x604 => (spec_l14Sent.sem (x604, ())).bind fun r605 => bif !decide (r605.1 = (0 : Int)) then (some ((r605.1, ([] : List Row), ()), ())) else self (w64 (v403 + (1 : Int)))) else none) else e0 ()
noncomputable def B0 (k : Nat) (self : Int → Option Out) (e0 : (Unit) → Option Out) (a1 : Arg) (v403 : Int) : Option Out := b0 self e0 a1 v403
theorem b0_eq (k : Nat) (rec : St → Option Out) (K : Ex → St → Option Out) (a1 : Arg) (v403 : Int) : codeK E k fin (sub [1, 1, 0, 1, 0, 0] C) ({ n := 53, sl := [(0, .val (.slc tRow) a1.1), (1, .val (.slc tSent) a1.2.1), (4, .box tRowsResult (ownMd tRowsResult) [] ((0 : Int), ([] : List Row), ())), (6, .val i64 v403)], vr := [], lent := [] }) (loopC rec (keepF [0, 1, 4, 6] []) K) = b0 (S0 rec a1) (X0_0 K a1) a1 v403 := by kernel_rfl
theorem B0_eq (k : Nat) (rec : St → Option Out) (K : Ex → St → Option Out) (a1 : Arg) (v403 : Int) : codeK E k fin (sub [1, 1, 0, 1, 0, 0] C) ({ n := 53, sl := [(0, .val (.slc tRow) a1.1), (1, .val (.slc tSent) a1.2.1), (4, .box tRowsResult (ownMd tRowsResult) [] ((0 : Int), ([] : List Row), ())), (6, .val i64 v403)], vr := [], lent := [] }) (loopC rec (keepF [0, 1, 4, 6] []) K) = B0 k (S0 rec a1) (X0_0 K a1) a1 v403 := (b0_eq k rec K a1 v403).trans (by rfl)
noncomputable def l0 (k : Nat) (a1 : Arg) (e0 : (Unit) → Option Out) (v : Int) : Option Out := rawIter (fun self v => B0 k self e0 a1 v) k v
theorem l0_eq (k : Nat) (K : Ex → St → Option Out) (a1 : Arg) (v403 : Int) : iterK (codeK E k fin (sub [1, 1, 0, 1, 0, 0] C)) (keepF [0, 1, 4, 6] []) K k ({ n := 53, sl := [(0, .val (.slc tRow) a1.1), (1, .val (.slc tSent) a1.2.1), (4, .box tRowsResult (ownMd tRowsResult) [] ((0 : Int), ([] : List Row), ())), (6, .val i64 v403)], vr := [], lent := [] }) = l0 k a1 (X0_0 K a1) v403 :=
  iter_raw _ _ K (fun v403 => ({ n := 53, sl := [(0, .val (.slc tRow) a1.1), (1, .val (.slc tSent) a1.2.1), (4, .box tRowsResult (ownMd tRowsResult) [] ((0 : Int), ([] : List Row), ())), (6, .val i64 v403)], vr := [], lent := [] } : St)) (fun self v => B0 k self (X0_0 K a1) a1 v) (fun rec v => B0_eq k rec K a1 v) k v403
noncomputable def S1 (rec : St → Option Out) (a1 : Arg) : (RowsResult × Int) → Option Out := fun v1007 => rec ({ n := 53, sl := [(1, .val (.slc tSent) a1.2.1), (4, .box tRowsResult (ownMd tRowsResult) [] ((0 : Int), ([] : List Row), ())), (8, .box tRowsResult (ownMd tRowsResult) [] v1007.1), (9, .val i64 v1007.2)], vr := [], lent := [] })
noncomputable def X1_2 (K : Ex → St → Option Out) (a1 : Arg) : RowsResult → Option Out := fun z => K (.exit 2) ({ n := 53, sl := [(4, .box tRowsResult (ownMd tRowsResult) [] ((0 : Int), ([] : List Row), ())), (8, .box tRowsResult (ownMd tRowsResult) [] z)], vr := [], lent := [] })
noncomputable def b1 (self : (RowsResult × Int) → Option Out) (e2 : RowsResult → Option Out) (a1 : Arg) (v1007 : RowsResult × Int) : Option Out := bif decide (v1007.2 < (a1.2.1.length : Int)) then (if 0 ≤ v1007.2 then ((a1.2.1[v1007.2.toNat]?).bind fun x1208 => (spec_ApplyChanges.sem (v1007.1.2.1, x1208.2.2.1, ())).bind fun r1209 => bif !decide (r1209.1.1 = (0 : Int)) then (some (r1209.1, ())) else self (r1209.1, w64 (v1007.2 + (1 : Int)))) else none) else e2 v1007.1
noncomputable def B1 (k : Nat) (self : (RowsResult × Int) → Option Out) (e2 : RowsResult → Option Out) (a1 : Arg) (v1007 : RowsResult × Int) : Option Out := b1 self e2 a1 v1007
theorem b1_eq (k : Nat) (rec : St → Option Out) (K : Ex → St → Option Out) (a1 : Arg) (v1007 : RowsResult × Int) : codeK E k fin (sub [1, 1, 1, 1, 0, 1, 0, 0] C) ({ n := 53, sl := [(1, .val (.slc tSent) a1.2.1), (4, .box tRowsResult (ownMd tRowsResult) [] ((0 : Int), ([] : List Row), ())), (8, .box tRowsResult (ownMd tRowsResult) [] v1007.1), (9, .val i64 v1007.2)], vr := [], lent := [] }) (loopC rec (keepF [1, 4, 8, 9] []) K) = b1 (S1 rec a1) (X1_2 K a1) a1 v1007 := by kernel_rfl
theorem B1_eq (k : Nat) (rec : St → Option Out) (K : Ex → St → Option Out) (a1 : Arg) (v1007 : RowsResult × Int) : codeK E k fin (sub [1, 1, 1, 1, 0, 1, 0, 0] C) ({ n := 53, sl := [(1, .val (.slc tSent) a1.2.1), (4, .box tRowsResult (ownMd tRowsResult) [] ((0 : Int), ([] : List Row), ())), (8, .box tRowsResult (ownMd tRowsResult) [] v1007.1), (9, .val i64 v1007.2)], vr := [], lent := [] }) (loopC rec (keepF [1, 4, 8, 9] []) K) = B1 k (S1 rec a1) (X1_2 K a1) a1 v1007 := (b1_eq k rec K a1 v1007).trans (by rfl)
noncomputable def l1 (k : Nat) (a1 : Arg) (e2 : RowsResult → Option Out) (v : RowsResult × Int) : Option Out := rawIter (fun self v => B1 k self e2 a1 v) k v
theorem l1_eq (k : Nat) (K : Ex → St → Option Out) (a1 : Arg) (v1007 : RowsResult × Int) : iterK (codeK E k fin (sub [1, 1, 1, 1, 0, 1, 0, 0] C)) (keepF [1, 4, 8, 9] []) K k ({ n := 53, sl := [(1, .val (.slc tSent) a1.2.1), (4, .box tRowsResult (ownMd tRowsResult) [] ((0 : Int), ([] : List Row), ())), (8, .box tRowsResult (ownMd tRowsResult) [] v1007.1), (9, .val i64 v1007.2)], vr := [], lent := [] }) = l1 k a1 (X1_2 K a1) v1007 :=
  iter_raw _ _ K (fun v1007 => ({ n := 53, sl := [(1, .val (.slc tSent) a1.2.1), (4, .box tRowsResult (ownMd tRowsResult) [] ((0 : Int), ([] : List Row), ())), (8, .box tRowsResult (ownMd tRowsResult) [] v1007.1), (9, .val i64 v1007.2)], vr := [], lent := [] } : St)) (fun self v => B1 k self (X1_2 K a1) a1 v) (fun rec v => B1_eq k rec K a1 v) k v1007
noncomputable def q1 (a1 : Arg) (z1210 : RowsResult) : Option Out := some (z1210, ())
noncomputable def Q1 (k : Nat) (a1 : Arg) (z1210 : RowsResult) : Option Out := q1 a1 z1210
theorem q1_eq (k : Nat) (a1 : Arg) (z1210 : RowsResult) : (blockC 2 (seqC (codeK E k fin (sub [1, 1, 1, 1, 1] C)) K0)) (.exit 2) ({ n := 53, sl := [(4, .box tRowsResult (ownMd tRowsResult) [] ((0 : Int), ([] : List Row), ())), (8, .box tRowsResult (ownMd tRowsResult) [] z1210)], vr := [], lent := [] }) = q1 a1 z1210 := by kernel_rfl
theorem Q1_eq (k : Nat) (a1 : Arg) (z1210 : RowsResult) : (blockC 2 (seqC (codeK E k fin (sub [1, 1, 1, 1, 1] C)) K0)) (.exit 2) ({ n := 53, sl := [(4, .box tRowsResult (ownMd tRowsResult) [] ((0 : Int), ([] : List Row), ())), (8, .box tRowsResult (ownMd tRowsResult) [] z1210)], vr := [], lent := [] }) = Q1 k a1 z1210 := (q1_eq k a1 z1210).trans (by rfl)
noncomputable def s1 (k : Nat) (a1 : Arg) : (RowsResult × Int) → Option Out := fun v1007 => iterK (codeK E k fin (sub [1, 1, 1, 1, 0, 1, 0, 0] C)) (keepF [1, 4, 8, 9] []) (blockC 2 (seqC (codeK E k fin (sub [1, 1, 1, 1, 1] C)) K0)) k ({ n := 53, sl := [(1, .val (.slc tSent) a1.2.1), (4, .box tRowsResult (ownMd tRowsResult) [] ((0 : Int), ([] : List Row), ())), (8, .box tRowsResult (ownMd tRowsResult) [] v1007.1), (9, .val i64 v1007.2)], vr := [], lent := [] })
noncomputable def r1 (k : Nat) (a1 : Arg) : (RowsResult × Int) → Option Out := fun v1007 => l1 k a1 (fun z => Q1 k a1 z) v1007
theorem s1_eq (k : Nat) (a1 : Arg) : s1 k a1 = r1 k a1 := by
  funext v1007;
  have h2 : X1_2 ((blockC 2 (seqC (codeK E k fin (sub [1, 1, 1, 1, 1] C)) K0))) a1 = fun z => Q1 k a1 z := funext fun z => Q1_eq k a1 z
  refine (l1_eq k ((blockC 2 (seqC (codeK E k fin (sub [1, 1, 1, 1, 1] C)) K0))) a1 v1007).trans ?_
  rw [h2]
  rfl
noncomputable def q0 (l1 : (RowsResult × Int) → Option Out) (a1 : Arg) (z606 : (Unit)) : Option Out := if ([] : List Row).length + a1.1.length ≤ CAP then (l1 (((0 : Int), ([] : List Row) ++ a1.1, ()), (0 : Int))) else none
noncomputable def Q0 (k : Nat) (a1 : Arg) (z606 : (Unit)) : Option Out := q0 (r1 k a1) a1 z606
theorem q0_eq (k : Nat) (a1 : Arg) (z606 : (Unit)) : (blockC 0 (seqC (codeK E k fin (sub [1, 1, 1] C)) K0)) (.exit 0) ({ n := 53, sl := [(0, .val (.slc tRow) a1.1), (1, .val (.slc tSent) a1.2.1), (4, .box tRowsResult (ownMd tRowsResult) [] ((0 : Int), ([] : List Row), ()))], vr := [], lent := [] }) = q0 (s1 k a1) a1 z606 := by kernel_rfl
theorem Q0_eq (k : Nat) (a1 : Arg) (z606 : (Unit)) : (blockC 0 (seqC (codeK E k fin (sub [1, 1, 1] C)) K0)) (.exit 0) ({ n := 53, sl := [(0, .val (.slc tRow) a1.1), (1, .val (.slc tSent) a1.2.1), (4, .box tRowsResult (ownMd tRowsResult) [] ((0 : Int), ([] : List Row), ()))], vr := [], lent := [] }) = Q0 k a1 z606 := (q0_eq k a1 z606).trans (by rw [s1_eq]; rfl)
noncomputable def s0 (k : Nat) (a1 : Arg) : (Int) → Option Out := fun v403 => iterK (codeK E k fin (sub [1, 1, 0, 1, 0, 0] C)) (keepF [0, 1, 4, 6] []) (blockC 0 (seqC (codeK E k fin (sub [1, 1, 1] C)) K0)) k ({ n := 53, sl := [(0, .val (.slc tRow) a1.1), (1, .val (.slc tSent) a1.2.1), (4, .box tRowsResult (ownMd tRowsResult) [] ((0 : Int), ([] : List Row), ())), (6, .val i64 v403)], vr := [], lent := [] })
noncomputable def r0 (k : Nat) (a1 : Arg) : (Int) → Option Out := fun v403 => l0 k a1 (fun z => Q0 k a1 z) v403
theorem s0_eq (k : Nat) (a1 : Arg) : s0 k a1 = r0 k a1 := by
  funext v403;
  have h0 : X0_0 ((blockC 0 (seqC (codeK E k fin (sub [1, 1, 1] C)) K0))) a1 = fun z => Q0 k a1 z := funext fun z => Q0_eq k a1 z
  refine (l0_eq k ((blockC 0 (seqC (codeK E k fin (sub [1, 1, 1] C)) K0))) a1 v403).trans ?_
  rw [h0]
  rfl
noncomputable def p (l0 : (Int) → Option Out) (a1 : Arg) : Option Out := (spec_l6Rows.sem (a1.1, ())).bind fun r2 => bif !decide (r2.1 = (0 : Int)) then (some ((r2.1, ([] : List Row), ()), ())) else l0 (0 : Int)
noncomputable def raw (k : Nat) (a1 : Arg) : Option Out := p (r0 k a1) a1
theorem p_eq (k : Nat) (a1 : Arg) : bodyK E k Go.Proofs.Try.f58 ps rs [] [] a1 = p (s0 k a1) a1 := by kernel_rfl
theorem raw_eq (k : Nat) (a1 : Arg) : bodyK E k Go.Proofs.Try.f58 ps rs [] [] a1 = raw k a1 := (p_eq k a1).trans (by rw [s0_eq]; rfl)
theorem ent : EnterOk Go.Proofs.Try.prog 58 sig.cap := ⟨Go.Proofs.Try.f58, Go.Proofs.Try.func58, by kernel_rfl, by kernel_rfl, by kernel_rfl⟩
theorem env : EnvOk Go.Proofs.Try.prog E := env_ok (tl := [(2, i64), (25, (.slc tSent)), (28, (.slc tRow)), (97, tRowsResult), (141, (.slc tChange)), (143, tSent)]) (gl := [(138, spec_l6Rows.sig), (139, spec_l14Sent.sig), (140, spec_ApplyChanges.sig)]) rfl rfl (by kernel_rfl) (by kernel_rfl) (fn_cons spec_l6Rows.snd spec_l6Rows.ent (fn_cons spec_l14Sent.snd spec_l14Sent.ent (fn_cons spec_ApplyChanges.snd spec_ApplyChanges.ent (fn_nil _))))
theorem chk : funOk Go.Proofs.Try.prog E Go.Proofs.Try.f58 ps rs [] = true := by kernel_rfl
theorem snd : Sound Go.Proofs.Try.prog 58 sig := sound_of_body env Go.Proofs.Try.func58 rfl (es := []) (fr := []) chk (fun _ _ h => lift_some h)
end spec_ReplaySent
namespace laws_toRowS
/-! loop example g00408 laws toRowS -/
abbrev Arg : Type := (List Row) × Unit
abbrev Out : Type := (List Row) × Unit
noncomputable def ps : List (PM × Ty) := [(.ro, (.slc tRow))]
noncomputable def rs : List (Ty × Md) := [((.slc tRow), (ownMd (.slc tRow)))]
noncomputable def E : Env := { TI := lookN [(28, (.slc tRow)), (94, (.slc tRow)), (119, tRow), (128, tRow)], G := lookN [(141, laws_toRow.sig)], fz := [], lv := [(3, [0, 3, 4])], lx := [(0, [3])], lf := [], od := [] }
noncomputable def sem (a : Arg) : Option Out := lift fun k => bodyK E k Go.Proofs.Try.f59 ps rs [] [] a
noncomputable def sig : Sig := { ps := ps, rs := rs, F := fun a => sem a }
noncomputable def C : Code := bodyOf Go.Proofs.Try.f59
noncomputable def fin : St → Option Out := outK ps rs [] (Func.results Go.Proofs.Try.f59).toList (mvs [])
noncomputable def K0 : Ex → St → Option Out := endK fin
noncomputable def S0 (rec : St → Option Out) (a1 : Arg) : ((List Row) × Int) → Option Out := fun v402 => rec ({ n := 23, sl := [(0, .val (.slc tRow) a1.1), (3, .own (.slc tRow) (ownMd (.slc tRow)) [] v402.1), (4, .val i64 v402.2)], vr := [], lent := [] })
noncomputable def X0_0 (K : Ex → St → Option Out) (a1 : Arg) : (List Row) → Option Out := fun z => K (.exit 0) ({ n := 23, sl := [(3, .own (.slc tRow) (ownMd (.slc tRow)) [] z)], vr := [], lent := [] })
noncomputable def b0 (self : ((List Row) × Int) → Option Out) (e0 : (List Row) → Option Out) (a1 : Arg) (v402 : (List Row) × Int) : Option Out := bif decide (v402.2 < (a1.1.length : Int)) then (if 0 ≤ v402.2 then ((a1.1[v402.2.toNat]?).bind fun x603 => (laws_toRow.sem (x603, ())).bind fun r604 => if 0 ≤ v402.2 ∧ v402.2 < (v402.1.length : Int) then ((v402.1[v402.2.toNat]?).bind fun x605 => self (v402.1.set v402.2.toNat r604.1, w64 (v402.2 + (1 : Int)))) else none) else none) else e0 v402.1
noncomputable def B0 (k : Nat) (self : ((List Row) × Int) → Option Out) (e0 : (List Row) → Option Out) (a1 : Arg) (v402 : (List Row) × Int) : Option Out := b0 self e0 a1 v402
theorem b0_eq (k : Nat) (rec : St → Option Out) (K : Ex → St → Option Out) (a1 : Arg) (v402 : (List Row) × Int) : codeK E k fin (sub [1, 1, 0, 1, 0, 0] C) ({ n := 23, sl := [(0, .val (.slc tRow) a1.1), (3, .own (.slc tRow) (ownMd (.slc tRow)) [] v402.1), (4, .val i64 v402.2)], vr := [], lent := [] }) (loopC rec (keepF [0, 3, 4] []) K) = b0 (S0 rec a1) (X0_0 K a1) a1 v402 := by kernel_rfl
theorem B0_eq (k : Nat) (rec : St → Option Out) (K : Ex → St → Option Out) (a1 : Arg) (v402 : (List Row) × Int) : codeK E k fin (sub [1, 1, 0, 1, 0, 0] C) ({ n := 23, sl := [(0, .val (.slc tRow) a1.1), (3, .own (.slc tRow) (ownMd (.slc tRow)) [] v402.1), (4, .val i64 v402.2)], vr := [], lent := [] }) (loopC rec (keepF [0, 3, 4] []) K) = B0 k (S0 rec a1) (X0_0 K a1) a1 v402 := (b0_eq k rec K a1 v402).trans (by rfl)
noncomputable def l0 (k : Nat) (a1 : Arg) (e0 : (List Row) → Option Out) (v : (List Row) × Int) : Option Out := rawIter (fun self v => B0 k self e0 a1 v) k v
theorem l0_eq (k : Nat) (K : Ex → St → Option Out) (a1 : Arg) (v402 : (List Row) × Int) : iterK (codeK E k fin (sub [1, 1, 0, 1, 0, 0] C)) (keepF [0, 3, 4] []) K k ({ n := 23, sl := [(0, .val (.slc tRow) a1.1), (3, .own (.slc tRow) (ownMd (.slc tRow)) [] v402.1), (4, .val i64 v402.2)], vr := [], lent := [] }) = l0 k a1 (X0_0 K a1) v402 :=
  iter_raw _ _ K (fun v402 => ({ n := 23, sl := [(0, .val (.slc tRow) a1.1), (3, .own (.slc tRow) (ownMd (.slc tRow)) [] v402.1), (4, .val i64 v402.2)], vr := [], lent := [] } : St)) (fun self v => B0 k self (X0_0 K a1) a1 v) (fun rec v => B0_eq k rec K a1 v) k v402
noncomputable def q0 (a1 : Arg) (z606 : (List Row)) : Option Out := some (z606, ())
noncomputable def Q0 (k : Nat) (a1 : Arg) (z606 : (List Row)) : Option Out := q0 a1 z606
theorem q0_eq (k : Nat) (a1 : Arg) (z606 : (List Row)) : (blockC 0 (seqC (codeK E k fin (sub [1, 1, 1] C)) K0)) (.exit 0) ({ n := 23, sl := [(3, .own (.slc tRow) (ownMd (.slc tRow)) [] z606)], vr := [], lent := [] }) = q0 a1 z606 := by kernel_rfl
theorem Q0_eq (k : Nat) (a1 : Arg) (z606 : (List Row)) : (blockC 0 (seqC (codeK E k fin (sub [1, 1, 1] C)) K0)) (.exit 0) ({ n := 23, sl := [(3, .own (.slc tRow) (ownMd (.slc tRow)) [] z606)], vr := [], lent := [] }) = Q0 k a1 z606 := (q0_eq k a1 z606).trans (by rfl)
noncomputable def s0 (k : Nat) (a1 : Arg) : ((List Row) × Int) → Option Out := fun v402 => iterK (codeK E k fin (sub [1, 1, 0, 1, 0, 0] C)) (keepF [0, 3, 4] []) (blockC 0 (seqC (codeK E k fin (sub [1, 1, 1] C)) K0)) k ({ n := 23, sl := [(0, .val (.slc tRow) a1.1), (3, .own (.slc tRow) (ownMd (.slc tRow)) [] v402.1), (4, .val i64 v402.2)], vr := [], lent := [] })
noncomputable def r0 (k : Nat) (a1 : Arg) : ((List Row) × Int) → Option Out := fun v402 => l0 k a1 (fun z => Q0 k a1 z) v402
theorem s0_eq (k : Nat) (a1 : Arg) : s0 k a1 = r0 k a1 := by
  funext v402;
  have h0 : X0_0 ((blockC 0 (seqC (codeK E k fin (sub [1, 1, 1] C)) K0))) a1 = fun z => Q0 k a1 z := funext fun z => Q0_eq k a1 z
  refine (l0_eq k ((blockC 0 (seqC (codeK E k fin (sub [1, 1, 1] C)) K0))) a1 v402).trans ?_
  rw [h0]
  rfl
noncomputable def p (l0 : ((List Row) × Int) → Option Out) (a1 : Arg) : Option Out := if 0 ≤ (a1.1.length : Int) ∧ (a1.1.length : Int) ≤ (a1.1.length : Int) ∧ (a1.1.length : Int) ≤ (CAP : Int) then (l0 (List.replicate (a1.1.length : Int).toNat ((0 : Int), (0 : Int), (0 : Int), ([] : List UInt8), ()), (0 : Int))) else none
noncomputable def raw (k : Nat) (a1 : Arg) : Option Out := p (r0 k a1) a1
theorem p_eq (k : Nat) (a1 : Arg) : bodyK E k Go.Proofs.Try.f59 ps rs [] [] a1 = p (s0 k a1) a1 := by kernel_rfl
theorem raw_eq (k : Nat) (a1 : Arg) : bodyK E k Go.Proofs.Try.f59 ps rs [] [] a1 = raw k a1 := (p_eq k a1).trans (by rw [s0_eq]; rfl)
theorem ent : EnterOk Go.Proofs.Try.prog 59 sig.cap := ⟨Go.Proofs.Try.f59, Go.Proofs.Try.func59, by kernel_rfl, by kernel_rfl, by kernel_rfl⟩
theorem env : EnvOk Go.Proofs.Try.prog E := env_ok (tl := [(28, (.slc tRow)), (94, (.slc tRow)), (119, tRow), (128, tRow)]) (gl := [(141, laws_toRow.sig)]) rfl rfl (by kernel_rfl) (by kernel_rfl) (fn_cons laws_toRow.snd laws_toRow.ent (fn_nil _))
theorem chk : funOk Go.Proofs.Try.prog E Go.Proofs.Try.f59 ps rs [] = true := by kernel_rfl
theorem snd : Sound Go.Proofs.Try.prog 59 sig := sound_of_body env Go.Proofs.Try.func59 rfl (es := []) (fr := []) chk (fun _ _ h => lift_some h)
end laws_toRowS
namespace impl_RowFault
/-! loop example g00408 impl RowFault -/
abbrev Arg : Type := Row × Unit
abbrev Out : Type := Int × Unit
noncomputable def ps : List (PM × Ty) := [(.ro, tRow)]
noncomputable def rs : List (Ty × Md) := [(i64, (roMd i64))]
noncomputable def E : Env := { TI := lookN [(2, i64), (9, .str), (128, tRow)], G := lookN [(91, impl_in.sig)], fz := [], lv := [(6, [1, 26, 27])], lx := [(0, [])], lf := [], od := [] }
noncomputable def sem (a : Arg) : Option Out := lift fun k => bodyK E k Go.Proofs.Try.f213 ps rs [] [] a
noncomputable def sig : Sig := { ps := ps, rs := rs, F := fun a => sem a }
noncomputable def C : Code := bodyOf Go.Proofs.Try.f213
noncomputable def fin : St → Option Out := outK ps rs [] (Func.results Go.Proofs.Try.f213).toList (mvs [])
noncomputable def K0 : Ex → St → Option Out := endK fin
noncomputable def S0 (rec : St → Option Out) (a1 : Arg) : (Int) → Option Out := fun v405 => rec ({ n := 43, sl := [(1, .box tRow (roMd tRow) [] a1.1), (26, .val i64 (a1.1.2.2.2.1.length : Int)), (27, .val i64 v405)], vr := [], lent := [] })
noncomputable def X0_0 (K : Ex → St → Option Out) (a1 : Arg) : (Unit) → Option Out := fun z => K (.exit 0) ({ n := 43, sl := [], vr := [], lent := [] })
noncomputable def b0 (self : Int → Option Out) (e0 : (Unit) → Option Out) (a1 : Arg) (v405 : Int) : Option Out := bif decide (v405 < (a1.1.2.2.2.1.length : Int)) then (if 0 ≤ v405 then ((a1.1.2.2.2.1[v405.toNat]?).bind fun x606 => bif decide ((x606.toNat : Int) < (97 : Int)) then (some ((5 : Int), ())) else if 0 ≤ v405 then ((a1.1.2.2.2.1[v405.toNat]?).bind fun x607 => bif decide ((122 : Int) < (x607.toNat : Int)) then (some ((5 : Int), ())) else self (w64 (v405 + (1 : Int)))) else none) else none) else e0 ()
noncomputable def B0 (k : Nat) (self : Int → Option Out) (e0 : (Unit) → Option Out) (a1 : Arg) (v405 : Int) : Option Out := b0 self e0 a1 v405
theorem b0_eq (k : Nat) (rec : St → Option Out) (K : Ex → St → Option Out) (a1 : Arg) (v405 : Int) : codeK E k fin (sub [1, 1, 1, 0, 1, 0, 0] C) ({ n := 43, sl := [(1, .box tRow (roMd tRow) [] a1.1), (26, .val i64 (a1.1.2.2.2.1.length : Int)), (27, .val i64 v405)], vr := [], lent := [] }) (loopC rec (keepF [1, 26, 27] []) K) = b0 (S0 rec a1) (X0_0 K a1) a1 v405 := by kernel_rfl
theorem B0_eq (k : Nat) (rec : St → Option Out) (K : Ex → St → Option Out) (a1 : Arg) (v405 : Int) : codeK E k fin (sub [1, 1, 1, 0, 1, 0, 0] C) ({ n := 43, sl := [(1, .box tRow (roMd tRow) [] a1.1), (26, .val i64 (a1.1.2.2.2.1.length : Int)), (27, .val i64 v405)], vr := [], lent := [] }) (loopC rec (keepF [1, 26, 27] []) K) = B0 k (S0 rec a1) (X0_0 K a1) a1 v405 := (b0_eq k rec K a1 v405).trans (by rfl)
noncomputable def l0 (k : Nat) (a1 : Arg) (e0 : (Unit) → Option Out) (v : Int) : Option Out := rawIter (fun self v => B0 k self e0 a1 v) k v
theorem l0_eq (k : Nat) (K : Ex → St → Option Out) (a1 : Arg) (v405 : Int) : iterK (codeK E k fin (sub [1, 1, 1, 0, 1, 0, 0] C)) (keepF [1, 26, 27] []) K k ({ n := 43, sl := [(1, .box tRow (roMd tRow) [] a1.1), (26, .val i64 (a1.1.2.2.2.1.length : Int)), (27, .val i64 v405)], vr := [], lent := [] }) = l0 k a1 (X0_0 K a1) v405 :=
  iter_raw _ _ K (fun v405 => ({ n := 43, sl := [(1, .box tRow (roMd tRow) [] a1.1), (26, .val i64 (a1.1.2.2.2.1.length : Int)), (27, .val i64 v405)], vr := [], lent := [] } : St)) (fun self v => B0 k self (X0_0 K a1) a1 v) (fun rec v => B0_eq k rec K a1 v) k v405
noncomputable def q0 (a1 : Arg) (z608 : (Unit)) : Option Out := some ((0 : Int), ())
noncomputable def Q0 (k : Nat) (a1 : Arg) (z608 : (Unit)) : Option Out := q0 a1 z608
theorem q0_eq (k : Nat) (a1 : Arg) (z608 : (Unit)) : (blockC 0 (seqC (codeK E k fin (sub [1, 1, 1, 1] C)) K0)) (.exit 0) ({ n := 43, sl := [], vr := [], lent := [] }) = q0 a1 z608 := by kernel_rfl
theorem Q0_eq (k : Nat) (a1 : Arg) (z608 : (Unit)) : (blockC 0 (seqC (codeK E k fin (sub [1, 1, 1, 1] C)) K0)) (.exit 0) ({ n := 43, sl := [], vr := [], lent := [] }) = Q0 k a1 z608 := (q0_eq k a1 z608).trans (by rfl)
noncomputable def s0 (k : Nat) (a1 : Arg) : (Int) → Option Out := fun v405 => iterK (codeK E k fin (sub [1, 1, 1, 0, 1, 0, 0] C)) (keepF [1, 26, 27] []) (blockC 0 (seqC (codeK E k fin (sub [1, 1, 1, 1] C)) K0)) k ({ n := 43, sl := [(1, .box tRow (roMd tRow) [] a1.1), (26, .val i64 (a1.1.2.2.2.1.length : Int)), (27, .val i64 v405)], vr := [], lent := [] })
noncomputable def r0 (k : Nat) (a1 : Arg) : (Int) → Option Out := fun v405 => l0 k a1 (fun z => Q0 k a1 z) v405
theorem s0_eq (k : Nat) (a1 : Arg) : s0 k a1 = r0 k a1 := by
  funext v405;
  have h0 : X0_0 ((blockC 0 (seqC (codeK E k fin (sub [1, 1, 1, 1] C)) K0))) a1 = fun z => Q0 k a1 z := funext fun z => Q0_eq k a1 z
  refine (l0_eq k ((blockC 0 (seqC (codeK E k fin (sub [1, 1, 1, 1] C)) K0))) a1 v405).trans ?_
  rw [h0]
  rfl
noncomputable def p (l0 : (Int) → Option Out) (a1 : Arg) : Option Out := (impl_in.sem (a1.1.1, (0 : Int), (3 : Int), ())).bind fun r2 => bif !r2.1 then (some ((3 : Int), ())) else (impl_in.sem (a1.1.2.1, (1 : Int), (99 : Int), ())).bind fun r3 => bif !r3.1 then (some ((3 : Int), ())) else (impl_in.sem (a1.1.2.2.1, (0 : Int), (999 : Int), ())).bind fun r4 => bif !r4.1 then (some ((3 : Int), ())) else bif decide ((8 : Int) < (a1.1.2.2.2.1.length : Int)) then (some ((5 : Int), ())) else l0 (0 : Int)
noncomputable def raw (k : Nat) (a1 : Arg) : Option Out := p (r0 k a1) a1
theorem p_eq (k : Nat) (a1 : Arg) : bodyK E k Go.Proofs.Try.f213 ps rs [] [] a1 = p (s0 k a1) a1 := by kernel_rfl
theorem raw_eq (k : Nat) (a1 : Arg) : bodyK E k Go.Proofs.Try.f213 ps rs [] [] a1 = raw k a1 := (p_eq k a1).trans (by rw [s0_eq]; rfl)
theorem ent : EnterOk Go.Proofs.Try.prog 213 sig.cap := ⟨Go.Proofs.Try.f213, Go.Proofs.Try.func213, by kernel_rfl, by kernel_rfl, by kernel_rfl⟩
theorem env : EnvOk Go.Proofs.Try.prog E := env_ok (tl := [(2, i64), (9, .str), (128, tRow)]) (gl := [(91, impl_in.sig)]) rfl rfl (by kernel_rfl) (by kernel_rfl) (fn_cons impl_in.snd impl_in.ent (fn_nil _))
theorem chk : funOk Go.Proofs.Try.prog E Go.Proofs.Try.f213 ps rs [] = true := by kernel_rfl
theorem snd : Sound Go.Proofs.Try.prog 213 sig := sound_of_body env Go.Proofs.Try.func213 rfl (es := []) (fr := []) chk (fun _ _ h => lift_some h)
end impl_RowFault
namespace impl_IsBefore
/-! loop example g00408 impl IsBefore -/
abbrev Arg : Type := Row × Row × Unit
abbrev Out : Type := Bool × Unit
noncomputable def ps : List (PM × Ty) := [(.ro, tRow), (.ro, tRow)]
noncomputable def rs : List (Ty × Md) := [(.bool, (roMd .bool))]
noncomputable def E : Env := { TI := lookN [(2, i64), (128, tRow)], G := lookN [], fz := [], lv := [], lx := [], lf := [], od := [] }
noncomputable def sem (a : Arg) : Option Out := lift fun k => bodyK E k Go.Proofs.Try.f214 ps rs [] [] a
noncomputable def sig : Sig := { ps := ps, rs := rs, F := fun a => sem a }
noncomputable def C : Code := bodyOf Go.Proofs.Try.f214
noncomputable def fin : St → Option Out := outK ps rs [] (Func.results Go.Proofs.Try.f214).toList (mvs [])
noncomputable def K0 : Ex → St → Option Out := endK fin
noncomputable def p (a1 : Arg) : Option Out := bif decide (a1.1.1 < a1.2.1.1) then (some (true, ())) else bif decide (a1.1.1 = a1.2.1.1) then (some (decide (a1.1.2.1 < a1.2.1.2.1), ())) else some (false, ())
noncomputable def raw (k : Nat) (a1 : Arg) : Option Out := p a1
theorem p_eq (k : Nat) (a1 : Arg) : bodyK E k Go.Proofs.Try.f214 ps rs [] [] a1 = p a1 := by kernel_rfl
theorem raw_eq (k : Nat) (a1 : Arg) : bodyK E k Go.Proofs.Try.f214 ps rs [] [] a1 = raw k a1 := (p_eq k a1).trans (by rfl)
theorem ent : EnterOk Go.Proofs.Try.prog 214 sig.cap := ⟨Go.Proofs.Try.f214, Go.Proofs.Try.func214, by kernel_rfl, by kernel_rfl, by kernel_rfl⟩
theorem env : EnvOk Go.Proofs.Try.prog E := env_ok (tl := [(2, i64), (128, tRow)]) (gl := []) rfl rfl (by kernel_rfl) (by kernel_rfl) (fn_nil _)
theorem chk : funOk Go.Proofs.Try.prog E Go.Proofs.Try.f214 ps rs [] = true := by kernel_rfl
theorem snd : Sound Go.Proofs.Try.prog 214 sig := sound_of_body env Go.Proofs.Try.func214 rfl (es := []) (fr := []) chk (fun _ _ h => lift_some h)
end impl_IsBefore
namespace impl_RowsFault
/-! loop example g00408 impl RowsFault -/
abbrev Arg : Type := (List Row) × Unit
abbrev Out : Type := Int × Unit
noncomputable def ps : List (PM × Ty) := [(.ro, (.slc tRow))]
noncomputable def rs : List (Ty × Md) := [(i64, (roMd i64))]
noncomputable def E : Env := { TI := lookN [(28, (.slc tRow)), (128, tRow)], G := lookN [(213, impl_RowFault.sig), (214, impl_IsBefore.sig)], fz := [], lv := [(4, [0, 9, 10, 11])], lx := [(0, [])], lf := [], od := [(9, [0, 1, 2, 3, 4, 5, 6, 7, 8, 9, 10, 11])] }
noncomputable def sem (a : Arg) : Option Out := lift fun k => bodyK E k Go.Proofs.Try.f142 ps rs [] [] a
noncomputable def sig : Sig := { ps := ps, rs := rs, F := fun a => sem a }
noncomputable def C : Code := bodyOf Go.Proofs.Try.f142
noncomputable def fin : St → Option Out := outK ps rs [] (Func.results Go.Proofs.Try.f142).toList (mvs [])
noncomputable def K0 : Ex → St → Option Out := endK fin
noncomputable def S0 (rec : St → Option Out) (a1 : Arg) : (Int) → Option Out := fun v402 => rec ({ n := 34, sl := [(0, .val (.slc tRow) a1.1), (9, .val (.slc tRow) a1.1), (10, .val i64 (a1.1.length : Int)), (11, .val i64 v402)], vr := [], lent := [] })
noncomputable def X0_0 (K : Ex → St → Option Out) (a1 : Arg) : (Unit) → Option Out := fun z => K (.exit 0) ({ n := 34, sl := [], vr := [], lent := [] })
noncomputable def b0 (self : Int → Option Out) (e0 : (Unit) → Option Out) (a1 : Arg) (v402 : Int) : Option Out := bif decide (v402 < (a1.1.length : Int)) then (if 0 ≤ v402 then ((a1.1[v402.toNat]?).bind fun x603 => (impl_RowFault.sem (x603, ())).bind fun r604 => bif !decide (r604.1 = (0 : Int)) then (some (r604.1, ())) else bif decide ((0 : Int) < v402) then (if 0 ≤ w64 (v402 - (1 : Int)) then ((a1.1[(w64 (v402 - (1 : Int))).toNat]?).bind fun x605 => (impl_IsBefore.sem (x605, x603, ())).bind fun r606 => bif !r606.1 then (some ((1 : Int), ())) else self (w64 (v402 + (1 : Int)))) else none) else self (w64 (v402 + (1 : Int)))) else none) else e0 ()
noncomputable def B0 (k : Nat) (self : Int → Option Out) (e0 : (Unit) → Option Out) (a1 : Arg) (v402 : Int) : Option Out := b0 self e0 a1 v402
theorem b0_eq (k : Nat) (rec : St → Option Out) (K : Ex → St → Option Out) (a1 : Arg) (v402 : Int) : codeK E k fin (sub [1, 1, 0, 1, 0, 0] C) ({ n := 34, sl := [(0, .val (.slc tRow) a1.1), (9, .val (.slc tRow) a1.1), (10, .val i64 (a1.1.length : Int)), (11, .val i64 v402)], vr := [], lent := [] }) (loopC rec (keepF [0, 9, 10, 11] []) K) = b0 (S0 rec a1) (X0_0 K a1) a1 v402 := by kernel_rfl
theorem B0_eq (k : Nat) (rec : St → Option Out) (K : Ex → St → Option Out) (a1 : Arg) (v402 : Int) : codeK E k fin (sub [1, 1, 0, 1, 0, 0] C) ({ n := 34, sl := [(0, .val (.slc tRow) a1.1), (9, .val (.slc tRow) a1.1), (10, .val i64 (a1.1.length : Int)), (11, .val i64 v402)], vr := [], lent := [] }) (loopC rec (keepF [0, 9, 10, 11] []) K) = B0 k (S0 rec a1) (X0_0 K a1) a1 v402 := (b0_eq k rec K a1 v402).trans (by rfl)
noncomputable def l0 (k : Nat) (a1 : Arg) (e0 : (Unit) → Option Out) (v : Int) : Option Out := rawIter (fun self v => B0 k self e0 a1 v) k v
theorem l0_eq (k : Nat) (K : Ex → St → Option Out) (a1 : Arg) (v402 : Int) : iterK (codeK E k fin (sub [1, 1, 0, 1, 0, 0] C)) (keepF [0, 9, 10, 11] []) K k ({ n := 34, sl := [(0, .val (.slc tRow) a1.1), (9, .val (.slc tRow) a1.1), (10, .val i64 (a1.1.length : Int)), (11, .val i64 v402)], vr := [], lent := [] }) = l0 k a1 (X0_0 K a1) v402 :=
  iter_raw _ _ K (fun v402 => ({ n := 34, sl := [(0, .val (.slc tRow) a1.1), (9, .val (.slc tRow) a1.1), (10, .val i64 (a1.1.length : Int)), (11, .val i64 v402)], vr := [], lent := [] } : St)) (fun self v => B0 k self (X0_0 K a1) a1 v) (fun rec v => B0_eq k rec K a1 v) k v402
noncomputable def q0 (a1 : Arg) (z607 : (Unit)) : Option Out := some ((0 : Int), ())
noncomputable def Q0 (k : Nat) (a1 : Arg) (z607 : (Unit)) : Option Out := q0 a1 z607
theorem q0_eq (k : Nat) (a1 : Arg) (z607 : (Unit)) : (blockC 0 (seqC (codeK E k fin (sub [1, 1, 1] C)) K0)) (.exit 0) ({ n := 34, sl := [], vr := [], lent := [] }) = q0 a1 z607 := by kernel_rfl
theorem Q0_eq (k : Nat) (a1 : Arg) (z607 : (Unit)) : (blockC 0 (seqC (codeK E k fin (sub [1, 1, 1] C)) K0)) (.exit 0) ({ n := 34, sl := [], vr := [], lent := [] }) = Q0 k a1 z607 := (q0_eq k a1 z607).trans (by rfl)
noncomputable def s0 (k : Nat) (a1 : Arg) : (Int) → Option Out := fun v402 => iterK (codeK E k fin (sub [1, 1, 0, 1, 0, 0] C)) (keepF [0, 9, 10, 11] []) (blockC 0 (seqC (codeK E k fin (sub [1, 1, 1] C)) K0)) k ({ n := 34, sl := [(0, .val (.slc tRow) a1.1), (9, .val (.slc tRow) a1.1), (10, .val i64 (a1.1.length : Int)), (11, .val i64 v402)], vr := [], lent := [] })
noncomputable def r0 (k : Nat) (a1 : Arg) : (Int) → Option Out := fun v402 => l0 k a1 (fun z => Q0 k a1 z) v402
theorem s0_eq (k : Nat) (a1 : Arg) : s0 k a1 = r0 k a1 := by
  funext v402;
  have h0 : X0_0 ((blockC 0 (seqC (codeK E k fin (sub [1, 1, 1] C)) K0))) a1 = fun z => Q0 k a1 z := funext fun z => Q0_eq k a1 z
  refine (l0_eq k ((blockC 0 (seqC (codeK E k fin (sub [1, 1, 1] C)) K0))) a1 v402).trans ?_
  rw [h0]
  rfl
noncomputable def p (l0 : (Int) → Option Out) (a1 : Arg) : Option Out := bif decide ((60 : Int) < (a1.1.length : Int)) then (some ((2 : Int), ())) else l0 (0 : Int)
noncomputable def raw (k : Nat) (a1 : Arg) : Option Out := p (r0 k a1) a1
theorem p_eq (k : Nat) (a1 : Arg) : bodyK E k Go.Proofs.Try.f142 ps rs [] [] a1 = p (s0 k a1) a1 := by kernel_rfl
theorem raw_eq (k : Nat) (a1 : Arg) : bodyK E k Go.Proofs.Try.f142 ps rs [] [] a1 = raw k a1 := (p_eq k a1).trans (by rw [s0_eq]; rfl)
theorem ent : EnterOk Go.Proofs.Try.prog 142 sig.cap := ⟨Go.Proofs.Try.f142, Go.Proofs.Try.func142, by kernel_rfl, by kernel_rfl, by kernel_rfl⟩
theorem env : EnvOk Go.Proofs.Try.prog E := env_ok (tl := [(28, (.slc tRow)), (128, tRow)]) (gl := [(213, impl_RowFault.sig), (214, impl_IsBefore.sig)]) rfl rfl (by kernel_rfl) (by kernel_rfl) (fn_cons impl_RowFault.snd impl_RowFault.ent (fn_cons impl_IsBefore.snd impl_IsBefore.ent (fn_nil _)))
theorem chk : funOk Go.Proofs.Try.prog E Go.Proofs.Try.f142 ps rs [] = true := by kernel_rfl
theorem snd : Sound Go.Proofs.Try.prog 142 sig := sound_of_body env Go.Proofs.Try.func142 rfl (es := []) (fr := []) chk (fun _ _ h => lift_some h)
end impl_RowsFault
namespace impl_order
/-! loop example g00408 impl order -/
abbrev Arg : Type := Row × Row × Unit
abbrev Out : Type := Int × Unit
noncomputable def ps : List (PM × Ty) := [(.ro, tRow), (.ro, tRow)]
noncomputable def rs : List (Ty × Md) := [(i64, (roMd i64))]
noncomputable def E : Env := { TI := lookN [(128, tRow)], G := lookN [(214, impl_IsBefore.sig)], fz := [], lv := [], lx := [], lf := [], od := [] }
noncomputable def sem (a : Arg) : Option Out := lift fun k => bodyK E k Go.Proofs.Try.f259 ps rs [] [] a
noncomputable def sig : Sig := { ps := ps, rs := rs, F := fun a => sem a }
noncomputable def C : Code := bodyOf Go.Proofs.Try.f259
noncomputable def fin : St → Option Out := outK ps rs [] (Func.results Go.Proofs.Try.f259).toList (mvs [])
noncomputable def K0 : Ex → St → Option Out := endK fin
noncomputable def p (a1 : Arg) : Option Out := (impl_IsBefore.sem (a1.1, a1.2.1, ())).bind fun r2 => bif r2.1 then (some ((-1 : Int), ())) else (impl_IsBefore.sem (a1.2.1, a1.1, ())).bind fun r3 => bif r3.1 then (some ((1 : Int), ())) else some ((0 : Int), ())
noncomputable def raw (k : Nat) (a1 : Arg) : Option Out := p a1
theorem p_eq (k : Nat) (a1 : Arg) : bodyK E k Go.Proofs.Try.f259 ps rs [] [] a1 = p a1 := by kernel_rfl
theorem raw_eq (k : Nat) (a1 : Arg) : bodyK E k Go.Proofs.Try.f259 ps rs [] [] a1 = raw k a1 := (p_eq k a1).trans (by rfl)
theorem ent : EnterOk Go.Proofs.Try.prog 259 sig.cap := ⟨Go.Proofs.Try.f259, Go.Proofs.Try.func259, by kernel_rfl, by kernel_rfl, by kernel_rfl⟩
theorem env : EnvOk Go.Proofs.Try.prog E := env_ok (tl := [(128, tRow)]) (gl := [(214, impl_IsBefore.sig)]) rfl rfl (by kernel_rfl) (by kernel_rfl) (fn_cons impl_IsBefore.snd impl_IsBefore.ent (fn_nil _))
theorem chk : funOk Go.Proofs.Try.prog E Go.Proofs.Try.f259 ps rs [] = true := by kernel_rfl
theorem snd : Sound Go.Proofs.Try.prog 259 sig := sound_of_body env Go.Proofs.Try.func259 rfl (es := []) (fr := []) chk (fun _ _ h => lift_some h)
end impl_order
namespace impl_changeFault
/-! loop example g00408 impl changeFault -/
abbrev Arg : Type := Change × Unit
abbrev Out : Type := Int × Unit
noncomputable def ps : List (PM × Ty) := [(.ro, tChange)]
noncomputable def rs : List (Ty × Md) := [(i64, (roMd i64))]
noncomputable def E : Env := { TI := lookN [(4, .bool), (128, tRow), (130, tChange)], G := lookN [(213, impl_RowFault.sig), (259, impl_order.sig)], fz := [], lv := [], lx := [], lf := [], od := [] }
noncomputable def sem (a : Arg) : Option Out := lift fun k => bodyK E k Go.Proofs.Try.f216 ps rs [] [] a
noncomputable def sig : Sig := { ps := ps, rs := rs, F := fun a => sem a }
noncomputable def C : Code := bodyOf Go.Proofs.Try.f216
noncomputable def fin : St → Option Out := outK ps rs [] (Func.results Go.Proofs.Try.f216).toList (mvs [])
noncomputable def K0 : Ex → St → Option Out := endK fin
noncomputable def p (a1 : Arg) : Option Out := let j7 : Option Out := bif a1.1.1 then ((impl_RowFault.sem (a1.1.2.1, ())).bind fun r8 => bif !decide (r8.1 = (0 : Int)) then (some (r8.1, ())) else bif a1.1.2.2.1 then ((impl_RowFault.sem (a1.1.2.2.2.1, ())).bind fun r10 => some (r10.1, ())) else some ((0 : Int), ())) else bif a1.1.2.2.1 then ((impl_RowFault.sem (a1.1.2.2.2.1, ())).bind fun r11 => some (r11.1, ())) else some ((0 : Int), ()); bif !a1.1.1 then (bif !a1.1.2.2.1 then (some ((1 : Int), ())) else bif a1.1.1 then (bif a1.1.2.2.1 then ((impl_order.sem (a1.1.2.1, a1.1.2.2.2.1, ())).bind fun r2 => bif !decide (r2.1 = (0 : Int)) then (some ((1 : Int), ())) else j7) else j7) else j7) else bif a1.1.1 then (bif a1.1.2.2.1 then ((impl_order.sem (a1.1.2.1, a1.1.2.2.2.1, ())).bind fun r3 => bif !decide (r3.1 = (0 : Int)) then (some ((1 : Int), ())) else j7) else j7) else j7
noncomputable def raw (k : Nat) (a1 : Arg) : Option Out := p a1
theorem p_eq (k : Nat) (a1 : Arg) : bodyK E k Go.Proofs.Try.f216 ps rs [] [] a1 = p a1 := by kernel_rfl
theorem raw_eq (k : Nat) (a1 : Arg) : bodyK E k Go.Proofs.Try.f216 ps rs [] [] a1 = raw k a1 := (p_eq k a1).trans (by rfl)
theorem ent : EnterOk Go.Proofs.Try.prog 216 sig.cap := ⟨Go.Proofs.Try.f216, Go.Proofs.Try.func216, by kernel_rfl, by kernel_rfl, by kernel_rfl⟩
theorem env : EnvOk Go.Proofs.Try.prog E := env_ok (tl := [(4, .bool), (128, tRow), (130, tChange)]) (gl := [(213, impl_RowFault.sig), (259, impl_order.sig)]) rfl rfl (by kernel_rfl) (by kernel_rfl) (fn_cons impl_RowFault.snd impl_RowFault.ent (fn_cons impl_order.snd impl_order.ent (fn_nil _)))
theorem chk : funOk Go.Proofs.Try.prog E Go.Proofs.Try.f216 ps rs [] = true := by kernel_rfl
theorem snd : Sound Go.Proofs.Try.prog 216 sig := sound_of_body env Go.Proofs.Try.func216 rfl (es := []) (fr := []) chk (fun _ _ h => lift_some h)
end impl_changeFault
namespace impl_singleFault
/-! loop example g00408 impl singleFault -/
abbrev Arg : Type := Change × Unit
abbrev Out : Type := Int × Unit
noncomputable def ps : List (PM × Ty) := [(.ro, tChange)]
noncomputable def rs : List (Ty × Md) := [(i64, (roMd i64))]
noncomputable def E : Env := { TI := lookN [(4, .bool), (128, tRow), (130, tChange)], G := lookN [(216, impl_changeFault.sig)], fz := [], lv := [], lx := [], lf := [], od := [] }
noncomputable def sem (a : Arg) : Option Out := lift fun k => bodyK E k Go.Proofs.Try.f169 ps rs [] [] a
noncomputable def sig : Sig := { ps := ps, rs := rs, F := fun a => sem a }
noncomputable def C : Code := bodyOf Go.Proofs.Try.f169
noncomputable def fin : St → Option Out := outK ps rs [] (Func.results Go.Proofs.Try.f169).toList (mvs [])
noncomputable def K0 : Ex → St → Option Out := endK fin
noncomputable def p (a1 : Arg) : Option Out := (impl_changeFault.sem (a1.1, ())).bind fun r2 => bif !decide (r2.1 = (0 : Int)) then (some (r2.1, ())) else bif a1.1.1 then (bif a1.1.2.2.1 then (bif (Ty.eq tRow a1.1.2.1 a1.1.2.2.2.1) then (some ((1 : Int), ())) else some ((0 : Int), ())) else some ((0 : Int), ())) else some ((0 : Int), ())
noncomputable def raw (k : Nat) (a1 : Arg) : Option Out := p a1
theorem p_eq (k : Nat) (a1 : Arg) : bodyK E k Go.Proofs.Try.f169 ps rs [] [] a1 = p a1 := by kernel_rfl
theorem raw_eq (k : Nat) (a1 : Arg) : bodyK E k Go.Proofs.Try.f169 ps rs [] [] a1 = raw k a1 := (p_eq k a1).trans (by rfl)
theorem ent : EnterOk Go.Proofs.Try.prog 169 sig.cap := ⟨Go.Proofs.Try.f169, Go.Proofs.Try.func169, by kernel_rfl, by kernel_rfl, by kernel_rfl⟩
theorem env : EnvOk Go.Proofs.Try.prog E := env_ok (tl := [(4, .bool), (128, tRow), (130, tChange)]) (gl := [(216, impl_changeFault.sig)]) rfl rfl (by kernel_rfl) (by kernel_rfl) (fn_cons impl_changeFault.snd impl_changeFault.ent (fn_nil _))
theorem chk : funOk Go.Proofs.Try.prog E Go.Proofs.Try.f169 ps rs [] = true := by kernel_rfl
theorem snd : Sound Go.Proofs.Try.prog 169 sig := sound_of_body env Go.Proofs.Try.func169 rfl (es := []) (fr := []) chk (fun _ _ h => lift_some h)
end impl_singleFault
namespace impl_Change_key
/-!  loop example g00408 impl Change  key -/
abbrev Arg : Type := Change × Unit
abbrev Out : Type := Row × Unit
noncomputable def ps : List (PM × Ty) := [(.ro, tChange)]
noncomputable def rs : List (Ty × Md) := [(tRow, (roMd tRow))]
noncomputable def E : Env := { TI := lookN [(4, .bool), (128, tRow), (130, tChange)], G := lookN [], fz := [], lv := [], lx := [], lf := [], od := [] }
noncomputable def sem (a : Arg) : Option Out := lift fun k => bodyK E k Go.Proofs.Try.f237 ps rs [] [] a
noncomputable def sig : Sig := { ps := ps, rs := rs, F := fun a => sem a }
noncomputable def C : Code := bodyOf Go.Proofs.Try.f237
noncomputable def fin : St → Option Out := outK ps rs [] (Func.results Go.Proofs.Try.f237).toList (mvs [])
noncomputable def K0 : Ex → St → Option Out := endK fin
noncomputable def p (a1 : Arg) : Option Out := bif a1.1.2.2.1 then (some (a1.1.2.2.2.1, ())) else some (a1.1.2.1, ())
noncomputable def raw (k : Nat) (a1 : Arg) : Option Out := p a1
theorem p_eq (k : Nat) (a1 : Arg) : bodyK E k Go.Proofs.Try.f237 ps rs [] [] a1 = p a1 := by kernel_rfl
theorem raw_eq (k : Nat) (a1 : Arg) : bodyK E k Go.Proofs.Try.f237 ps rs [] [] a1 = raw k a1 := (p_eq k a1).trans (by rfl)
theorem ent : EnterOk Go.Proofs.Try.prog 237 sig.cap := ⟨Go.Proofs.Try.f237, Go.Proofs.Try.func237, by kernel_rfl, by kernel_rfl, by kernel_rfl⟩
theorem env : EnvOk Go.Proofs.Try.prog E := env_ok (tl := [(4, .bool), (128, tRow), (130, tChange)]) (gl := []) rfl rfl (by kernel_rfl) (by kernel_rfl) (fn_nil _)
theorem chk : funOk Go.Proofs.Try.prog E Go.Proofs.Try.f237 ps rs [] = true := by kernel_rfl
theorem snd : Sound Go.Proofs.Try.prog 237 sig := sound_of_body env Go.Proofs.Try.func237 rfl (es := []) (fr := []) chk (fun _ _ h => lift_some h)
end impl_Change_key
namespace impl_foldedFault
/-! loop example g00408 impl foldedFault -/
abbrev Arg : Type := (List Change) × Unit
abbrev Out : Type := Int × Unit
noncomputable def ps : List (PM × Ty) := [(.ro, (.slc tChange))]
noncomputable def rs : List (Ty × Md) := [(i64, (roMd i64))]
noncomputable def E : Env := { TI := lookN [(130, tChange), (141, (.slc tChange))], G := lookN [(169, impl_singleFault.sig), (214, impl_IsBefore.sig), (237, impl_Change_key.sig)], fz := [], lv := [(4, [0, 9, 10, 11])], lx := [(0, [])], lf := [], od := [(9, [0, 1, 2, 3, 4, 5, 6, 7, 9, 8, 10, 11, 12, 13])] }
noncomputable def sem (a : Arg) : Option Out := lift fun k => bodyK E k Go.Proofs.Try.f215 ps rs [] [] a
noncomputable def sig : Sig := { ps := ps, rs := rs, F := fun a => sem a }
noncomputable def C : Code := bodyOf Go.Proofs.Try.f215
noncomputable def fin : St → Option Out := outK ps rs [] (Func.results Go.Proofs.Try.f215).toList (mvs [])
noncomputable def K0 : Ex → St → Option Out := endK fin
noncomputable def S0 (rec : St → Option Out) (a1 : Arg) : (Int) → Option Out := fun v402 => rec ({ n := 36, sl := [(0, .val (.slc tChange) a1.1), (9, .val (.slc tChange) a1.1), (10, .val i64 (a1.1.length : Int)), (11, .val i64 v402)], vr := [], lent := [] })
noncomputable def X0_0 (K : Ex → St → Option Out) (a1 : Arg) : (Unit) → Option Out := fun z => K (.exit 0) ({ n := 36, sl := [], vr := [], lent := [] })
noncomputable def b0 (self : Int → Option Out) (e0 : (Unit) → Option Out) (a1 : Arg) (v402 : Int) : Option Out := bif decide (v402 < (a1.1.length : Int)) then (if 0 ≤ v402 then ((a1.1[v402.toNat]?).bind fun x603 => (impl_singleFault.sem (x603, ())).bind fun r604 => bif !decide (r604.1 = (0 : Int)) then (some (r604.1, ())) else bif decide ((0 : Int) < v402) then (if 0 ≤ w64 (v402 - (1 : Int)) then ((a1.1[(w64 (v402 - (1 : Int))).toNat]?).bind fun x605 => (impl_Change_key.sem (x605, ())).bind fun r606 => (impl_Change_key.sem (x603, ())).bind fun r607 => (impl_IsBefore.sem (r606.1, r607.1, ())).bind fun r608 => bif !r608.1 then (some ((1 : Int), ())) else self (w64 (v402 + (1 : Int)))) else none) else self (w64 (v402 + (1 : Int)))) else none) else e0 ()
noncomputable def B0 (k : Nat) (self : Int → Option Out) (e0 : (Unit) → Option Out) (a1 : Arg) (v402 : Int) : Option Out := b0 self e0 a1 v402
theorem b0_eq (k : Nat) (rec : St → Option Out) (K : Ex → St → Option Out) (a1 : Arg) (v402 : Int) : codeK E k fin (sub [1, 1, 0, 1, 0, 0] C) ({ n := 36, sl := [(0, .val (.slc tChange) a1.1), (9, .val (.slc tChange) a1.1), (10, .val i64 (a1.1.length : Int)), (11, .val i64 v402)], vr := [], lent := [] }) (loopC rec (keepF [0, 9, 10, 11] []) K) = b0 (S0 rec a1) (X0_0 K a1) a1 v402 := by kernel_rfl
theorem B0_eq (k : Nat) (rec : St → Option Out) (K : Ex → St → Option Out) (a1 : Arg) (v402 : Int) : codeK E k fin (sub [1, 1, 0, 1, 0, 0] C) ({ n := 36, sl := [(0, .val (.slc tChange) a1.1), (9, .val (.slc tChange) a1.1), (10, .val i64 (a1.1.length : Int)), (11, .val i64 v402)], vr := [], lent := [] }) (loopC rec (keepF [0, 9, 10, 11] []) K) = B0 k (S0 rec a1) (X0_0 K a1) a1 v402 := (b0_eq k rec K a1 v402).trans (by rfl)
noncomputable def l0 (k : Nat) (a1 : Arg) (e0 : (Unit) → Option Out) (v : Int) : Option Out := rawIter (fun self v => B0 k self e0 a1 v) k v
theorem l0_eq (k : Nat) (K : Ex → St → Option Out) (a1 : Arg) (v402 : Int) : iterK (codeK E k fin (sub [1, 1, 0, 1, 0, 0] C)) (keepF [0, 9, 10, 11] []) K k ({ n := 36, sl := [(0, .val (.slc tChange) a1.1), (9, .val (.slc tChange) a1.1), (10, .val i64 (a1.1.length : Int)), (11, .val i64 v402)], vr := [], lent := [] }) = l0 k a1 (X0_0 K a1) v402 :=
  iter_raw _ _ K (fun v402 => ({ n := 36, sl := [(0, .val (.slc tChange) a1.1), (9, .val (.slc tChange) a1.1), (10, .val i64 (a1.1.length : Int)), (11, .val i64 v402)], vr := [], lent := [] } : St)) (fun self v => B0 k self (X0_0 K a1) a1 v) (fun rec v => B0_eq k rec K a1 v) k v402
noncomputable def q0 (a1 : Arg) (z609 : (Unit)) : Option Out := some ((0 : Int), ())
noncomputable def Q0 (k : Nat) (a1 : Arg) (z609 : (Unit)) : Option Out := q0 a1 z609
theorem q0_eq (k : Nat) (a1 : Arg) (z609 : (Unit)) : (blockC 0 (seqC (codeK E k fin (sub [1, 1, 1] C)) K0)) (.exit 0) ({ n := 36, sl := [], vr := [], lent := [] }) = q0 a1 z609 := by kernel_rfl
theorem Q0_eq (k : Nat) (a1 : Arg) (z609 : (Unit)) : (blockC 0 (seqC (codeK E k fin (sub [1, 1, 1] C)) K0)) (.exit 0) ({ n := 36, sl := [], vr := [], lent := [] }) = Q0 k a1 z609 := (q0_eq k a1 z609).trans (by rfl)
noncomputable def s0 (k : Nat) (a1 : Arg) : (Int) → Option Out := fun v402 => iterK (codeK E k fin (sub [1, 1, 0, 1, 0, 0] C)) (keepF [0, 9, 10, 11] []) (blockC 0 (seqC (codeK E k fin (sub [1, 1, 1] C)) K0)) k ({ n := 36, sl := [(0, .val (.slc tChange) a1.1), (9, .val (.slc tChange) a1.1), (10, .val i64 (a1.1.length : Int)), (11, .val i64 v402)], vr := [], lent := [] })
noncomputable def r0 (k : Nat) (a1 : Arg) : (Int) → Option Out := fun v402 => l0 k a1 (fun z => Q0 k a1 z) v402
theorem s0_eq (k : Nat) (a1 : Arg) : s0 k a1 = r0 k a1 := by
  funext v402;
  have h0 : X0_0 ((blockC 0 (seqC (codeK E k fin (sub [1, 1, 1] C)) K0))) a1 = fun z => Q0 k a1 z := funext fun z => Q0_eq k a1 z
  refine (l0_eq k ((blockC 0 (seqC (codeK E k fin (sub [1, 1, 1] C)) K0))) a1 v402).trans ?_
  rw [h0]
  rfl
noncomputable def p (l0 : (Int) → Option Out) (a1 : Arg) : Option Out := bif decide ((60 : Int) < (a1.1.length : Int)) then (some ((2 : Int), ())) else l0 (0 : Int)
noncomputable def raw (k : Nat) (a1 : Arg) : Option Out := p (r0 k a1) a1
theorem p_eq (k : Nat) (a1 : Arg) : bodyK E k Go.Proofs.Try.f215 ps rs [] [] a1 = p (s0 k a1) a1 := by kernel_rfl
theorem raw_eq (k : Nat) (a1 : Arg) : bodyK E k Go.Proofs.Try.f215 ps rs [] [] a1 = raw k a1 := (p_eq k a1).trans (by rw [s0_eq]; rfl)
theorem ent : EnterOk Go.Proofs.Try.prog 215 sig.cap := ⟨Go.Proofs.Try.f215, Go.Proofs.Try.func215, by kernel_rfl, by kernel_rfl, by kernel_rfl⟩
theorem env : EnvOk Go.Proofs.Try.prog E := env_ok (tl := [(130, tChange), (141, (.slc tChange))]) (gl := [(169, impl_singleFault.sig), (214, impl_IsBefore.sig), (237, impl_Change_key.sig)]) rfl rfl (by kernel_rfl) (by kernel_rfl) (fn_cons impl_singleFault.snd impl_singleFault.ent (fn_cons impl_IsBefore.snd impl_IsBefore.ent (fn_cons impl_Change_key.snd impl_Change_key.ent (fn_nil _))))
theorem chk : funOk Go.Proofs.Try.prog E Go.Proofs.Try.f215 ps rs [] = true := by kernel_rfl
theorem snd : Sound Go.Proofs.Try.prog 215 sig := sound_of_body env Go.Proofs.Try.func215 rfl (es := []) (fr := []) chk (fun _ _ h => lift_some h)
end impl_foldedFault
namespace impl_sentFault
/-! loop example g00408 impl sentFault -/
abbrev Arg : Type := Sent × Unit
abbrev Out : Type := Int × Unit
noncomputable def ps : List (PM × Ty) := [(.ro, tSent)]
noncomputable def rs : List (Ty × Md) := [(i64, (roMd i64))]
noncomputable def E : Env := { TI := lookN [(2, i64), (141, (.slc tChange)), (143, tSent)], G := lookN [(91, impl_in.sig), (189, impl_isTx.sig), (215, impl_foldedFault.sig)], fz := [], lv := [], lx := [], lf := [], od := [] }
noncomputable def sem (a : Arg) : Option Out := lift fun k => bodyK E k Go.Proofs.Try.f143 ps rs [] [] a
noncomputable def sig : Sig := { ps := ps, rs := rs, F := fun a => sem a }
noncomputable def C : Code := bodyOf Go.Proofs.Try.f143
noncomputable def fin : St → Option Out := outK ps rs [] (Func.results Go.Proofs.Try.f143).toList (mvs [])
noncomputable def K0 : Ex → St → Option Out := endK fin
noncomputable def p (a1 : Arg) : Option Out := (impl_in.sem (a1.1.1, (0 : Int), (16000 : Int), ())).bind fun r2 => bif !r2.1 then (some ((3 : Int), ())) else (impl_isTx.sem (a1.1.2.1, ())).bind fun r3 => bif !r3.1 then (some ((3 : Int), ())) else (impl_foldedFault.sem (a1.1.2.2.1, ())).bind fun r4 => some (r4.1, ())
noncomputable def raw (k : Nat) (a1 : Arg) : Option Out := p a1
theorem p_eq (k : Nat) (a1 : Arg) : bodyK E k Go.Proofs.Try.f143 ps rs [] [] a1 = p a1 := by kernel_rfl
theorem raw_eq (k : Nat) (a1 : Arg) : bodyK E k Go.Proofs.Try.f143 ps rs [] [] a1 = raw k a1 := (p_eq k a1).trans (by rfl)
theorem ent : EnterOk Go.Proofs.Try.prog 143 sig.cap := ⟨Go.Proofs.Try.f143, Go.Proofs.Try.func143, by kernel_rfl, by kernel_rfl, by kernel_rfl⟩
theorem env : EnvOk Go.Proofs.Try.prog E := env_ok (tl := [(2, i64), (141, (.slc tChange)), (143, tSent)]) (gl := [(91, impl_in.sig), (189, impl_isTx.sig), (215, impl_foldedFault.sig)]) rfl rfl (by kernel_rfl) (by kernel_rfl) (fn_cons impl_in.snd impl_in.ent (fn_cons impl_isTx.snd impl_isTx.ent (fn_cons impl_foldedFault.snd impl_foldedFault.ent (fn_nil _))))
theorem chk : funOk Go.Proofs.Try.prog E Go.Proofs.Try.f143 ps rs [] = true := by kernel_rfl
theorem snd : Sound Go.Proofs.Try.prog 143 sig := sound_of_body env Go.Proofs.Try.func143 rfl (es := []) (fr := []) chk (fun _ _ h => lift_some h)
end impl_sentFault
namespace slices_Clone_Row
/-! slices Clone   loop example g00408 impl Row loop example g00408 impl Row  -/
abbrev Arg : Type := (List Row) × Unit
abbrev Out : Type := (List Row) × Unit
noncomputable def ps : List (PM × Ty) := [(.ro, (.slc tRow))]
noncomputable def rs : List (Ty × Md) := [((.slc tRow), (ownMd (.slc tRow)))]
noncomputable def E : Env := { TI := lookN [(28, (.slc tRow))], G := lookN [], fz := [], lv := [], lx := [], lf := [], od := [] }
noncomputable def sem (a : Arg) : Option Out := lift fun k => bodyK E k Go.Proofs.Try.f144 ps rs [] [] a
noncomputable def sig : Sig := { ps := ps, rs := rs, F := fun a => sem a }
noncomputable def C : Code := bodyOf Go.Proofs.Try.f144
noncomputable def fin : St → Option Out := outK ps rs [] (Func.results Go.Proofs.Try.f144).toList (mvs [])
noncomputable def K0 : Ex → St → Option Out := endK fin
noncomputable def p (a1 : Arg) : Option Out := nilB a1.1 (some (([] : List Row), ())) (if ([] : List Row).length + a1.1.length ≤ CAP then (some (([] : List Row) ++ a1.1, ())) else none)
noncomputable def raw (k : Nat) (a1 : Arg) : Option Out := p a1
theorem p_eq (k : Nat) (a1 : Arg) : bodyK E k Go.Proofs.Try.f144 ps rs [] [] a1 = p a1 := by kernel_rfl
theorem raw_eq (k : Nat) (a1 : Arg) : bodyK E k Go.Proofs.Try.f144 ps rs [] [] a1 = raw k a1 := (p_eq k a1).trans (by rfl)
theorem ent : EnterOk Go.Proofs.Try.prog 144 sig.cap := ⟨Go.Proofs.Try.f144, Go.Proofs.Try.func144, by kernel_rfl, by kernel_rfl, by kernel_rfl⟩
theorem env : EnvOk Go.Proofs.Try.prog E := env_ok (tl := [(28, (.slc tRow))]) (gl := []) rfl rfl (by kernel_rfl) (by kernel_rfl) (fn_nil _)
theorem chk : funOk Go.Proofs.Try.prog E Go.Proofs.Try.f144 ps rs [] = true := by kernel_rfl
theorem snd : Sound Go.Proofs.Try.prog 144 sig := sound_of_body env Go.Proofs.Try.func144 rfl (es := []) (fr := []) chk (fun _ _ h => lift_some h)
end slices_Clone_Row
namespace slices_BinarySearchFunc
/-! slices BinarySearchFunc   loop example g00408 impl Row loop example g00408 impl Row loop example g00408 impl Row  -/
abbrev Arg : Type := (List Row) × Row × (Nat × Int) × Unit
abbrev Out : Type := Int × Bool × Unit
noncomputable def ps : List (PM × Ty) := [(.ro, (.slc tRow)), (.ro, tRow), (.fix 259, .fn)]
noncomputable def rs : List (Ty × Md) := [(i64, (roMd i64)), (.bool, (roMd .bool))]
noncomputable def E : Env := { TI := lookN [(3, i64), (28, (.slc tRow)), (128, tRow), (253, (.int .u64))], G := lookN [(259, impl_order.sig)], fz := [], lv := [(3, [0, 2, 4, 8, 9, 10])], lx := [(0, [0, 2, 4, 8, 9])], lf := [], od := [(5, [0, 1, 2, 3, 4, 5, 6, 7]), (8, [0, 1, 2, 3, 4, 5, 6, 7, 8, 9, 10, 11, 12, 13, 14, 15])] }
noncomputable def sem (a : Arg) : Option Out := lift fun k => bodyK E k Go.Proofs.Try.f260 ps rs [] [] a
noncomputable def sig : Sig := { ps := ps, rs := rs, F := fun a => sem a }
noncomputable def C : Code := bodyOf Go.Proofs.Try.f260
noncomputable def fin : St → Option Out := outK ps rs [] (Func.results Go.Proofs.Try.f260).toList (mvs [])
noncomputable def K0 : Ex → St → Option Out := endK fin
noncomputable def S0 (rec : St → Option Out) (a1 : Arg) : (Int × Int) → Option Out := fun v402 => rec ({ n := 49, sl := [(0, .val (.slc tRow) a1.1), (2, .val .fn ((259, a1.2.2.1.2) : Nat × Int)), (4, .box tRow (roMd tRow) [] a1.2.1), (8, .val i64 (a1.1.length : Int)), (9, .val i64 v402.1), (10, .val i64 v402.2)], vr := [], lent := [] })
noncomputable def X0_0 (K : Ex → St → Option Out) (a1 : Arg) : Int → Option Out := fun z => K (.exit 0) ({ n := 49, sl := [(0, .val (.slc tRow) a1.1), (2, .val .fn ((259, a1.2.2.1.2) : Nat × Int)), (4, .box tRow (roMd tRow) [] a1.2.1), (8, .val i64 (a1.1.length : Int)), (9, .val i64 z)], vr := [], lent := [] })
noncomputable def b0 (self : (Int × Int) → Option Out) (e0 : Int → Option Out) (a1 : Arg) (v402 : Int × Int) : Option Out := bif decide (v402.1 < v402.2) then (if 0 ≤ w64 ((IntKind.wrap .u64 (w64 (v402.1 + v402.2))).fdiv (2 ^ 1)) then ((a1.1[(w64 ((IntKind.wrap .u64 (w64 (v402.1 + v402.2))).fdiv (2 ^ 1))).toNat]?).bind fun x603 => (impl_order.sem (x603, a1.2.1, ())).bind fun r604 => bif decide (r604.1 < (0 : Int)) then (self (w64 ((w64 ((IntKind.wrap .u64 (w64 (v402.1 + v402.2))).fdiv (2 ^ 1))) + (1 : Int)), v402.2)) else self (v402.1, w64 ((IntKind.wrap .u64 (w64 (v402.1 + v402.2))).fdiv (2 ^ 1)))) else none) else e0 v402.1
noncomputable def B0 (k : Nat) (self : (Int × Int) → Option Out) (e0 : Int → Option Out) (a1 : Arg) (v402 : Int × Int) : Option Out := b0 self e0 a1 v402
theorem b0_eq (k : Nat) (rec : St → Option Out) (K : Ex → St → Option Out) (a1 : Arg) (v402 : Int × Int) : codeK E k fin (sub [1, 1, 1, 0, 0, 0] C) ({ n := 49, sl := [(0, .val (.slc tRow) a1.1), (2, .val .fn ((259, a1.2.2.1.2) : Nat × Int)), (4, .box tRow (roMd tRow) [] a1.2.1), (8, .val i64 (a1.1.length : Int)), (9, .val i64 v402.1), (10, .val i64 v402.2)], vr := [], lent := [] }) (loopC rec (keepF [0, 2, 4, 8, 9, 10] []) K) = b0 (S0 rec a1) (X0_0 K a1) a1 v402 := by kernel_rfl
theorem B0_eq (k : Nat) (rec : St → Option Out) (K : Ex → St → Option Out) (a1 : Arg) (v402 : Int × Int) : codeK E k fin (sub [1, 1, 1, 0, 0, 0] C) ({ n := 49, sl := [(0, .val (.slc tRow) a1.1), (2, .val .fn ((259, a1.2.2.1.2) : Nat × Int)), (4, .box tRow (roMd tRow) [] a1.2.1), (8, .val i64 (a1.1.length : Int)), (9, .val i64 v402.1), (10, .val i64 v402.2)], vr := [], lent := [] }) (loopC rec (keepF [0, 2, 4, 8, 9, 10] []) K) = B0 k (S0 rec a1) (X0_0 K a1) a1 v402 := (b0_eq k rec K a1 v402).trans (by rfl)
noncomputable def l0 (k : Nat) (a1 : Arg) (e0 : Int → Option Out) (v : Int × Int) : Option Out := rawIter (fun self v => B0 k self e0 a1 v) k v
theorem l0_eq (k : Nat) (K : Ex → St → Option Out) (a1 : Arg) (v402 : Int × Int) : iterK (codeK E k fin (sub [1, 1, 1, 0, 0, 0] C)) (keepF [0, 2, 4, 8, 9, 10] []) K k ({ n := 49, sl := [(0, .val (.slc tRow) a1.1), (2, .val .fn ((259, a1.2.2.1.2) : Nat × Int)), (4, .box tRow (roMd tRow) [] a1.2.1), (8, .val i64 (a1.1.length : Int)), (9, .val i64 v402.1), (10, .val i64 v402.2)], vr := [], lent := [] }) = l0 k a1 (X0_0 K a1) v402 :=
  iter_raw _ _ K (fun v402 => ({ n := 49, sl := [(0, .val (.slc tRow) a1.1), (2, .val .fn ((259, a1.2.2.1.2) : Nat × Int)), (4, .box tRow (roMd tRow) [] a1.2.1), (8, .val i64 (a1.1.length : Int)), (9, .val i64 v402.1), (10, .val i64 v402.2)], vr := [], lent := [] } : St)) (fun self v => B0 k self (X0_0 K a1) a1 v) (fun rec v => B0_eq k rec K a1 v) k v402
noncomputable def q0 (a1 : Arg) (z605 : Int) : Option Out := bif decide (z605 < (a1.1.length : Int)) then (if 0 ≤ z605 then ((a1.1[z605.toNat]?).bind fun x606 => (impl_order.sem (x606, a1.2.1, ())).bind fun r607 => some (z605, decide (r607.1 = (0 : Int)), ())) else none) else some (z605, false, ())
noncomputable def Q0 (k : Nat) (a1 : Arg) (z605 : Int) : Option Out := q0 a1 z605
theorem q0_eq (k : Nat) (a1 : Arg) (z605 : Int) : (blockC 0 (seqC (codeK E k fin (sub [1, 1, 1, 1] C)) K0)) (.exit 0) ({ n := 49, sl := [(0, .val (.slc tRow) a1.1), (2, .val .fn ((259, a1.2.2.1.2) : Nat × Int)), (4, .box tRow (roMd tRow) [] a1.2.1), (8, .val i64 (a1.1.length : Int)), (9, .val i64 z605)], vr := [], lent := [] }) = q0 a1 z605 := by kernel_rfl
theorem Q0_eq (k : Nat) (a1 : Arg) (z605 : Int) : (blockC 0 (seqC (codeK E k fin (sub [1, 1, 1, 1] C)) K0)) (.exit 0) ({ n := 49, sl := [(0, .val (.slc tRow) a1.1), (2, .val .fn ((259, a1.2.2.1.2) : Nat × Int)), (4, .box tRow (roMd tRow) [] a1.2.1), (8, .val i64 (a1.1.length : Int)), (9, .val i64 z605)], vr := [], lent := [] }) = Q0 k a1 z605 := (q0_eq k a1 z605).trans (by rfl)
noncomputable def s0 (k : Nat) (a1 : Arg) : (Int × Int) → Option Out := fun v402 => iterK (codeK E k fin (sub [1, 1, 1, 0, 0, 0] C)) (keepF [0, 2, 4, 8, 9, 10] []) (blockC 0 (seqC (codeK E k fin (sub [1, 1, 1, 1] C)) K0)) k ({ n := 49, sl := [(0, .val (.slc tRow) a1.1), (2, .val .fn ((259, a1.2.2.1.2) : Nat × Int)), (4, .box tRow (roMd tRow) [] a1.2.1), (8, .val i64 (a1.1.length : Int)), (9, .val i64 v402.1), (10, .val i64 v402.2)], vr := [], lent := [] })
noncomputable def r0 (k : Nat) (a1 : Arg) : (Int × Int) → Option Out := fun v402 => l0 k a1 (fun z => Q0 k a1 z) v402
theorem s0_eq (k : Nat) (a1 : Arg) : s0 k a1 = r0 k a1 := by
  funext v402;
  have h0 : X0_0 ((blockC 0 (seqC (codeK E k fin (sub [1, 1, 1, 1] C)) K0))) a1 = fun z => Q0 k a1 z := funext fun z => Q0_eq k a1 z
  refine (l0_eq k ((blockC 0 (seqC (codeK E k fin (sub [1, 1, 1, 1] C)) K0))) a1 v402).trans ?_
  rw [h0]
  rfl
noncomputable def p (l0 : (Int × Int) → Option Out) (a1 : Arg) : Option Out := l0 ((0 : Int), (a1.1.length : Int))
noncomputable def raw (k : Nat) (a1 : Arg) : Option Out := p (r0 k a1) a1
theorem p_eq (k : Nat) (a1 : Arg) : bodyK E k Go.Proofs.Try.f260 ps rs [] [] a1 = p (s0 k a1) a1 := by kernel_rfl
theorem raw_eq (k : Nat) (a1 : Arg) : bodyK E k Go.Proofs.Try.f260 ps rs [] [] a1 = raw k a1 := (p_eq k a1).trans (by rw [s0_eq]; rfl)
theorem ent : EnterOk Go.Proofs.Try.prog 260 sig.cap := ⟨Go.Proofs.Try.f260, Go.Proofs.Try.func260, by kernel_rfl, by kernel_rfl, by kernel_rfl⟩
theorem env : EnvOk Go.Proofs.Try.prog E := env_ok (tl := [(3, i64), (28, (.slc tRow)), (128, tRow), (253, (.int .u64))]) (gl := [(259, impl_order.sig)]) rfl rfl (by kernel_rfl) (by kernel_rfl) (fn_cons impl_order.snd impl_order.ent (fn_nil _))
theorem chk : funOk Go.Proofs.Try.prog E Go.Proofs.Try.f260 ps rs [] = true := by kernel_rfl
theorem snd : Sound Go.Proofs.Try.prog 260 sig := sound_of_body env Go.Proofs.Try.func260 rfl (es := []) (fr := []) chk (fun _ _ h => lift_some h)
end slices_BinarySearchFunc
namespace impl_Change_fitsTo
/-!  loop example g00408 impl Change  fitsTo -/
abbrev Arg : Type := Change × (List Row) × Unit
abbrev Out : Type := Bool × Unit
noncomputable def ps : List (PM × Ty) := [(.ro, tChange), (.ro, (.slc tRow))]
noncomputable def rs : List (Ty × Md) := [(.bool, (roMd .bool))]
noncomputable def E : Env := { TI := lookN [(4, .bool), (28, (.slc tRow)), (128, tRow), (130, tChange)], G := lookN [(237, impl_Change_key.sig), (260, slices_BinarySearchFunc.sig)], fz := [], lv := [], lx := [], lf := [], od := [(2, [0, 1, 2, 3, 4, 5, 6, 7, 8, 9, 10, 11, 12, 13, 14, 15, 16, 17])] }
noncomputable def sem (a : Arg) : Option Out := lift fun k => bodyK E k Go.Proofs.Try.f217 ps rs [] [] a
noncomputable def sig : Sig := { ps := ps, rs := rs, F := fun a => sem a }
noncomputable def C : Code := bodyOf Go.Proofs.Try.f217
noncomputable def fin : St → Option Out := outK ps rs [] (Func.results Go.Proofs.Try.f217).toList (mvs [])
noncomputable def K0 : Ex → St → Option Out := endK fin
noncomputable def p (a1 : Arg) : Option Out := (impl_Change_key.sem (a1.1, ())).bind fun r2 => (slices_BinarySearchFunc.sem (a1.2.1, r2.1, ((259, 0) : Nat × Int), ())).bind fun r3 => bif (r3.2.1 == a1.1.1) then (bif !r3.2.1 then (some (true, ())) else if 0 ≤ r3.1 then ((a1.2.1[r3.1.toNat]?).bind fun x4 => some ((Ty.eq tRow x4 a1.1.2.1), ())) else none) else some (false, ())
noncomputable def raw (k : Nat) (a1 : Arg) : Option Out := p a1
theorem p_eq (k : Nat) (a1 : Arg) : bodyK E k Go.Proofs.Try.f217 ps rs [] [] a1 = p a1 := by kernel_rfl
theorem raw_eq (k : Nat) (a1 : Arg) : bodyK E k Go.Proofs.Try.f217 ps rs [] [] a1 = raw k a1 := (p_eq k a1).trans (by rfl)
theorem ent : EnterOk Go.Proofs.Try.prog 217 sig.cap := ⟨Go.Proofs.Try.f217, Go.Proofs.Try.func217, by kernel_rfl, by kernel_rfl, by kernel_rfl⟩
theorem env : EnvOk Go.Proofs.Try.prog E := env_ok (tl := [(4, .bool), (28, (.slc tRow)), (128, tRow), (130, tChange)]) (gl := [(237, impl_Change_key.sig), (260, slices_BinarySearchFunc.sig)]) rfl rfl (by kernel_rfl) (by kernel_rfl) (fn_cons impl_Change_key.snd impl_Change_key.ent (fn_cons slices_BinarySearchFunc.snd slices_BinarySearchFunc.ent (fn_nil _)))
theorem chk : funOk Go.Proofs.Try.prog E Go.Proofs.Try.f217 ps rs [] = true := by kernel_rfl
theorem snd : Sound Go.Proofs.Try.prog 217 sig := sound_of_body env Go.Proofs.Try.func217 rfl (es := []) (fr := []) chk (fun _ _ h => lift_some h)
end impl_Change_fitsTo
namespace impl_changed
/-! loop example g00408 impl changed -/
abbrev Arg : Type := (List Row) × Change × Unit
abbrev Out : Type := (List Row) × Unit
noncomputable def ps : List (PM × Ty) := [(.ro, (.slc tRow)), (.ro, tChange)]
noncomputable def rs : List (Ty × Md) := [((.slc tRow), (ownMd (.slc tRow)))]
noncomputable def E : Env := { TI := lookN [(4, .bool), (28, (.slc tRow)), (128, tRow), (130, tChange)], G := lookN [(237, impl_Change_key.sig), (260, slices_BinarySearchFunc.sig)], fz := [], lv := [], lx := [], lf := [], od := [] }
noncomputable def sem (a : Arg) : Option Out := lift fun k => bodyK E k Go.Proofs.Try.f218 ps rs [] [] a
noncomputable def sig : Sig := { ps := ps, rs := rs, F := fun a => sem a }
noncomputable def C : Code := bodyOf Go.Proofs.Try.f218
noncomputable def fin : St → Option Out := outK ps rs [] (Func.results Go.Proofs.Try.f218).toList (mvs [])
noncomputable def K0 : Ex → St → Option Out := endK fin
noncomputable def p (a1 : Arg) : Option Out := (impl_Change_key.sem (a1.2.1, ())).bind fun r2 => (slices_BinarySearchFunc.sem (a1.1, r2.1, ((259, 0) : Nat × Int), ())).bind fun r3 => if 0 ≤ r3.1 ∧ r3.1 ≤ (a1.1.length : Int) then (if ([] : List Row).length + ((a1.1.take r3.1.toNat).drop 0).length ≤ CAP then (let y4 := ([] : List Row) ++ ((a1.1.take r3.1.toNat).drop 0); let j8 := fun (p7 : List Row) => (let j11 := fun (p10 : Int) => (if 0 ≤ p10 ∧ p10 ≤ (a1.1.length : Int) then (if p7.length + ((a1.1.take a1.1.length).drop p10.toNat).length ≤ CAP then (let y12 := p7 ++ ((a1.1.take a1.1.length).drop p10.toNat); some (y12, ())) else none) else none : Option Out); bif r3.2.1 then (j11 (w64 (r3.1 + (1 : Int)))) else j11 r3.1 : Option Out); bif a1.2.1.2.2.1 then (if y4.length + [a1.2.1.2.2.2.1].length ≤ CAP then (j8 (y4 ++ [a1.2.1.2.2.2.1])) else none) else j8 y4) else none) else none
noncomputable def raw (k : Nat) (a1 : Arg) : Option Out := p a1
theorem p_eq (k : Nat) (a1 : Arg) : bodyK E k Go.Proofs.Try.f218 ps rs [] [] a1 = p a1 := by kernel_rfl
theorem raw_eq (k : Nat) (a1 : Arg) : bodyK E k Go.Proofs.Try.f218 ps rs [] [] a1 = raw k a1 := (p_eq k a1).trans (by rfl)
theorem ent : EnterOk Go.Proofs.Try.prog 218 sig.cap := ⟨Go.Proofs.Try.f218, Go.Proofs.Try.func218, by kernel_rfl, by kernel_rfl, by kernel_rfl⟩
theorem env : EnvOk Go.Proofs.Try.prog E := env_ok (tl := [(4, .bool), (28, (.slc tRow)), (128, tRow), (130, tChange)]) (gl := [(237, impl_Change_key.sig), (260, slices_BinarySearchFunc.sig)]) rfl rfl (by kernel_rfl) (by kernel_rfl) (fn_cons impl_Change_key.snd impl_Change_key.ent (fn_cons slices_BinarySearchFunc.snd slices_BinarySearchFunc.ent (fn_nil _)))
theorem chk : funOk Go.Proofs.Try.prog E Go.Proofs.Try.f218 ps rs [] = true := by kernel_rfl
theorem snd : Sound Go.Proofs.Try.prog 218 sig := sound_of_body env Go.Proofs.Try.func218 rfl (es := []) (fr := []) chk (fun _ _ h => lift_some h)
end impl_changed
namespace impl_ApplyChanges
/-! loop example g00408 impl ApplyChanges -/
abbrev Arg : Type := (List Row) × (List Change) × Unit
abbrev Out : Type := RowsResult × Unit
noncomputable def ps : List (PM × Ty) := [(.ro, (.slc tRow)), (.ro, (.slc tChange))]
noncomputable def rs : List (Ty × Md) := [(tRowsResult, (ownMd tRowsResult))]
noncomputable def E : Env := { TI := lookN [(28, (.slc tRow)), (97, tRowsResult), (130, tChange), (141, (.slc tChange))], G := lookN [(142, impl_RowsFault.sig), (144, slices_Clone_Row.sig), (216, impl_changeFault.sig), (217, impl_Change_fitsTo.sig), (218, impl_changed.sig)], fz := [], lv := [(6, [4, 6, 18, 19, 20])], lx := [(0, [4, 6])], lf := [], od := [] }
noncomputable def sem (a : Arg) : Option Out := lift fun k => bodyK E k Go.Proofs.Try.f145 ps rs [] [] a
noncomputable def sig : Sig := { ps := ps, rs := rs, F := fun a => sem a }
noncomputable def C : Code := bodyOf Go.Proofs.Try.f145
noncomputable def fin : St → Option Out := outK ps rs [] (Func.results Go.Proofs.Try.f145).toList (mvs [])
noncomputable def K0 : Ex → St → Option Out := endK fin
noncomputable def S0 (rec : St → Option Out) (a1 : Arg) : ((List Row) × Int) → Option Out := fun v404 => rec ({ n := 45, sl := [(4, .box tRowsResult (ownMd tRowsResult) [] ((0 : Int), ([] : List Row), ())), (6, .own (.slc tRow) (ownMd (.slc tRow)) [] v404.1), (18, .val (.slc tChange) a1.2.1), (19, .val i64 (a1.2.1.length : Int)), (20, .val i64 v404.2)], vr := [], lent := [] })
noncomputable def X0_0 (K : Ex → St → Option Out) (a1 : Arg) : (List Row) → Option Out := fun z => K (.exit 0) ({ n := 45, sl := [(4, .box tRowsResult (ownMd tRowsResult) [] ((0 : Int), ([] : List Row), ())), (6, .own (.slc tRow) (ownMd (.slc tRow)) [] z)], vr := [], lent := [] })
noncomputable def b0 (self : ((List Row) × Int) → Option Out) (e0 : (List Row) → Option Out) (a1 : Arg) (v404 : (List Row) × Int) : Option Out := bif decide (v404.2 < (a1.2.1.length : Int)) then (if 0 ≤ v404.2 then ((a1.2.1[v404.2.toNat]?).bind fun x605 => (impl_changeFault.sem (x605, ())).bind fun r606 => bif !decide (r606.1 = (0 : Int)) then (some ((r606.1, ([] : List Row), ()), ())) else (impl_Change_fitsTo.sem (x605, v404.1, ())).bind fun r607 => bif !r607.1 then (some (((8 : Int), ([] : List Row), ()), ())) else (impl_changed.sem (v404.1, x605, ())).bind fun r608 => self (r608.1, w64 (v404.2 + (1 : Int)))) else none) else e0 v404.1
noncomputable def B0 (k : Nat) (self : ((List Row) × Int) → Option Out) (e0 : (List Row) → Option Out) (a1 : Arg) (v404 : (List Row) × Int) : Option Out := b0 self e0 a1 v404
theorem b0_eq (k : Nat) (rec : St → Option Out) (K : Ex → St → Option Out) (a1 : Arg) (v404 : (List Row) × Int) : codeK E k fin (sub [1, 1, 1, 0, 1, 0, 0] C) ({ n := 45, sl := [(4, .box tRowsResult (ownMd tRowsResult) [] ((0 : Int), ([] : List Row), ())), (6, .own (.slc tRow) (ownMd (.slc tRow)) [] v404.1), (18, .val (.slc tChange) a1.2.1), (19, .val i64 (a1.2.1.length : Int)), (20, .val i64 v404.2)], vr := [], lent := [] }) (loopC rec (keepF [4, 6, 18, 19, 20] []) K) = b0 (S0 rec a1) (X0_0 K a1) a1 v404 := by kernel_rfl
theorem B0_eq (k : Nat) (rec : St → Option Out) (K : Ex → St → Option Out) (a1 : Arg) (v404 : (List Row) × Int) : codeK E k fin (sub [1, 1, 1, 0, 1, 0, 0] C) ({ n := 45, sl := [(4, .box tRowsResult (ownMd tRowsResult) [] ((0 : Int), ([] : List Row), ())), (6, .own (.slc tRow) (ownMd (.slc tRow)) [] v404.1), (18, .val (.slc tChange) a1.2.1), (19, .val i64 (a1.2.1.length : Int)), (20, .val i64 v404.2)], vr := [], lent := [] }) (loopC rec (keepF [4, 6, 18, 19, 20] []) K) = B0 k (S0 rec a1) (X0_0 K a1) a1 v404 := (b0_eq k rec K a1 v404).trans (by rfl)
noncomputable def l0 (k : Nat) (a1 : Arg) (e0 : (List Row) → Option Out) (v : (List Row) × Int) : Option Out := rawIter (fun self v => B0 k self e0 a1 v) k v
theorem l0_eq (k : Nat) (K : Ex → St → Option Out) (a1 : Arg) (v404 : (List Row) × Int) : iterK (codeK E k fin (sub [1, 1, 1, 0, 1, 0, 0] C)) (keepF [4, 6, 18, 19, 20] []) K k ({ n := 45, sl := [(4, .box tRowsResult (ownMd tRowsResult) [] ((0 : Int), ([] : List Row), ())), (6, .own (.slc tRow) (ownMd (.slc tRow)) [] v404.1), (18, .val (.slc tChange) a1.2.1), (19, .val i64 (a1.2.1.length : Int)), (20, .val i64 v404.2)], vr := [], lent := [] }) = l0 k a1 (X0_0 K a1) v404 :=
  iter_raw _ _ K (fun v404 => ({ n := 45, sl := [(4, .box tRowsResult (ownMd tRowsResult) [] ((0 : Int), ([] : List Row), ())), (6, .own (.slc tRow) (ownMd (.slc tRow)) [] v404.1), (18, .val (.slc tChange) a1.2.1), (19, .val i64 (a1.2.1.length : Int)), (20, .val i64 v404.2)], vr := [], lent := [] } : St)) (fun self v => B0 k self (X0_0 K a1) a1 v) (fun rec v => B0_eq k rec K a1 v) k v404
noncomputable def q0 (a1 : Arg) (z609 : (List Row)) : Option Out := bif decide ((60 : Int) < (z609.length : Int)) then (some (((2 : Int), ([] : List Row), ()), ())) else some (((0 : Int), z609, ()), ())
noncomputable def Q0 (k : Nat) (a1 : Arg) (z609 : (List Row)) : Option Out := q0 a1 z609
theorem q0_eq (k : Nat) (a1 : Arg) (z609 : (List Row)) : (blockC 0 (seqC (codeK E k fin (sub [1, 1, 1, 1] C)) K0)) (.exit 0) ({ n := 45, sl := [(4, .box tRowsResult (ownMd tRowsResult) [] ((0 : Int), ([] : List Row), ())), (6, .own (.slc tRow) (ownMd (.slc tRow)) [] z609)], vr := [], lent := [] }) = q0 a1 z609 := by kernel_rfl
theorem Q0_eq (k : Nat) (a1 : Arg) (z609 : (List Row)) : (blockC 0 (seqC (codeK E k fin (sub [1, 1, 1, 1] C)) K0)) (.exit 0) ({ n := 45, sl := [(4, .box tRowsResult (ownMd tRowsResult) [] ((0 : Int), ([] : List Row), ())), (6, .own (.slc tRow) (ownMd (.slc tRow)) [] z609)], vr := [], lent := [] }) = Q0 k a1 z609 := (q0_eq k a1 z609).trans (by rfl)
noncomputable def s0 (k : Nat) (a1 : Arg) : ((List Row) × Int) → Option Out := fun v404 => iterK (codeK E k fin (sub [1, 1, 1, 0, 1, 0, 0] C)) (keepF [4, 6, 18, 19, 20] []) (blockC 0 (seqC (codeK E k fin (sub [1, 1, 1, 1] C)) K0)) k ({ n := 45, sl := [(4, .box tRowsResult (ownMd tRowsResult) [] ((0 : Int), ([] : List Row), ())), (6, .own (.slc tRow) (ownMd (.slc tRow)) [] v404.1), (18, .val (.slc tChange) a1.2.1), (19, .val i64 (a1.2.1.length : Int)), (20, .val i64 v404.2)], vr := [], lent := [] })
noncomputable def r0 (k : Nat) (a1 : Arg) : ((List Row) × Int) → Option Out := fun v404 => l0 k a1 (fun z => Q0 k a1 z) v404
theorem s0_eq (k : Nat) (a1 : Arg) : s0 k a1 = r0 k a1 := by
  funext v404;
  have h0 : X0_0 ((blockC 0 (seqC (codeK E k fin (sub [1, 1, 1, 1] C)) K0))) a1 = fun z => Q0 k a1 z := funext fun z => Q0_eq k a1 z
  refine (l0_eq k ((blockC 0 (seqC (codeK E k fin (sub [1, 1, 1, 1] C)) K0))) a1 v404).trans ?_
  rw [h0]
  rfl
noncomputable def p (l0 : ((List Row) × Int) → Option Out) (a1 : Arg) : Option Out := (impl_RowsFault.sem (a1.1, ())).bind fun r2 => bif !decide (r2.1 = (0 : Int)) then (some ((r2.1, ([] : List Row), ()), ())) else (slices_Clone_Row.sem (a1.1, ())).bind fun r3 => l0 (r3.1, (0 : Int))
noncomputable def raw (k : Nat) (a1 : Arg) : Option Out := p (r0 k a1) a1
theorem p_eq (k : Nat) (a1 : Arg) : bodyK E k Go.Proofs.Try.f145 ps rs [] [] a1 = p (s0 k a1) a1 := by kernel_rfl
theorem raw_eq (k : Nat) (a1 : Arg) : bodyK E k Go.Proofs.Try.f145 ps rs [] [] a1 = raw k a1 := (p_eq k a1).trans (by rw [s0_eq]; rfl)
theorem ent : EnterOk Go.Proofs.Try.prog 145 sig.cap := ⟨Go.Proofs.Try.f145, Go.Proofs.Try.func145, by kernel_rfl, by kernel_rfl, by kernel_rfl⟩
theorem env : EnvOk Go.Proofs.Try.prog E := env_ok (tl := [(28, (.slc tRow)), (97, tRowsResult), (130, tChange), (141, (.slc tChange))]) (gl := [(142, impl_RowsFault.sig), (144, slices_Clone_Row.sig), (216, impl_changeFault.sig), (217, impl_Change_fitsTo.sig), (218, impl_changed.sig)]) rfl rfl (by kernel_rfl) (by kernel_rfl) (fn_cons impl_RowsFault.snd impl_RowsFault.ent (fn_cons slices_Clone_Row.snd slices_Clone_Row.ent (fn_cons impl_changeFault.snd impl_changeFault.ent (fn_cons impl_Change_fitsTo.snd impl_Change_fitsTo.ent (fn_cons impl_changed.snd impl_changed.ent (fn_nil _))))))
theorem chk : funOk Go.Proofs.Try.prog E Go.Proofs.Try.f145 ps rs [] = true := by kernel_rfl
theorem snd : Sound Go.Proofs.Try.prog 145 sig := sound_of_body env Go.Proofs.Try.func145 rfl (es := []) (fr := []) chk (fun _ _ h => lift_some h)
end impl_ApplyChanges
namespace impl_ReplaySent
/-! loop example g00408 impl ReplaySent -/
abbrev Arg : Type := (List Row) × (List Sent) × Unit
abbrev Out : Type := RowsResult × Unit
noncomputable def ps : List (PM × Ty) := [(.ro, (.slc tRow)), (.ro, (.slc tSent))]
noncomputable def rs : List (Ty × Md) := [(tRowsResult, (ownMd tRowsResult))]
noncomputable def E : Env := { TI := lookN [(2, i64), (25, (.slc tSent)), (28, (.slc tRow)), (97, tRowsResult), (141, (.slc tChange)), (143, tSent)], G := lookN [(142, impl_RowsFault.sig), (143, impl_sentFault.sig), (144, slices_Clone_Row.sig), (145, impl_ApplyChanges.sig)], fz := [], lv := [(5, [0, 1, 4, 18, 19, 20]), (13, [4, 9, 34, 35, 36])], lx := [(0, [0, 1, 4]), (2, [4, 9])], lf := [], od := [] }
noncomputable def sem (a : Arg) : Option Out := lift fun k => bodyK E k Go.Proofs.Try.f60 ps rs [] [] a
noncomputable def sig : Sig := { ps := ps, rs := rs, F := fun a => sem a }
noncomputable def C : Code := bodyOf Go.Proofs.Try.f60
noncomputable def fin : St → Option Out := outK ps rs [] (Func.results Go.Proofs.Try.f60).toList (mvs [])
noncomputable def K0 : Ex → St → Option Out := endK fin
noncomputable def S0 (rec : St → Option Out) (a1 : Arg) : (Int) → Option Out := fun v403 => rec ({ n := 51, sl := [(0, .val (.slc tRow) a1.1), (1, .val (.slc tSent) a1.2.1), (4, .box tRowsResult (ownMd tRowsResult) [] ((0 : Int), ([] : List Row), ())), (18, .val (.slc tSent) a1.2.1), (19, .val i64 (a1.2.1.length : Int)), (20, .val i64 v403)], vr := [], lent := [] })
noncomputable def X0_0 (K : Ex → St → Option Out) (a1 : Arg) : (Unit) → Option Out := fun z => K (.exit 0) ({ n := 51, sl := [(0, .val (.slc tRow) a1.1), (1, .val (.slc tSent) a1.2.1), (4, .box tRowsResult (ownMd tRowsResult) [] ((0 : Int), ([] : List Row), ()))], vr := [], lent := [] })
noncomputable def b0 (self : Int → Option Out) (e0 : (Unit) → Option Out) (a1 : Arg) (v403 : Int) : Option Out := bif decide (v403 < (a1.2.1.length : Int)) then (if 0 ≤ v403 then ((a1.2.1[v403.toNat]?).bind fun x604 => (impl_sentFault.sem (x604, ())).bind fun r605 => bif !decide (r605.1 = (0 : Int)) then (some ((r605.1, ([] : List Row), ()), ())) else self (w64 (v403 + (1 : Int)))) else none) else e0 ()
noncomputable def B0 (k : Nat) (self : Int → Option Out) (e0 : (Unit) → Option Out) (a1 : Arg) (v403 : Int) : Option Out := b0 self e0 a1 v403
theorem b0_eq (k : Nat) (rec : St → Option Out) (K : Ex → St → Option Out) (a1 : Arg) (v403 : Int) : codeK E k fin (sub [1, 1, 0, 1, 0, 0] C) ({ n := 51, sl := [(0, .val (.slc tRow) a1.1), (1, .val (.slc tSent) a1.2.1), (4, .box tRowsResult (ownMd tRowsResult) [] ((0 : Int), ([] : List Row), ())), (18, .val (.slc tSent) a1.2.1), (19, .val i64 (a1.2.1.length : Int)), (20, .val i64 v403)], vr := [], lent := [] }) (loopC rec (keepF [0, 1, 4, 18, 19, 20] []) K) = b0 (S0 rec a1) (X0_0 K a1) a1 v403 := by kernel_rfl
theorem B0_eq (k : Nat) (rec : St → Option Out) (K : Ex → St → Option Out) (a1 : Arg) (v403 : Int) : codeK E k fin (sub [1, 1, 0, 1, 0, 0] C) ({ n := 51, sl := [(0, .val (.slc tRow) a1.1), (1, .val (.slc tSent) a1.2.1), (4, .box tRowsResult (ownMd tRowsResult) [] ((0 : Int), ([] : List Row), ())), (18, .val (.slc tSent) a1.2.1), (19, .val i64 (a1.2.1.length : Int)), (20, .val i64 v403)], vr := [], lent := [] }) (loopC rec (keepF [0, 1, 4, 18, 19, 20] []) K) = B0 k (S0 rec a1) (X0_0 K a1) a1 v403 := (b0_eq k rec K a1 v403).trans (by rfl)
noncomputable def l0 (k : Nat) (a1 : Arg) (e0 : (Unit) → Option Out) (v : Int) : Option Out := rawIter (fun self v => B0 k self e0 a1 v) k v
theorem l0_eq (k : Nat) (K : Ex → St → Option Out) (a1 : Arg) (v403 : Int) : iterK (codeK E k fin (sub [1, 1, 0, 1, 0, 0] C)) (keepF [0, 1, 4, 18, 19, 20] []) K k ({ n := 51, sl := [(0, .val (.slc tRow) a1.1), (1, .val (.slc tSent) a1.2.1), (4, .box tRowsResult (ownMd tRowsResult) [] ((0 : Int), ([] : List Row), ())), (18, .val (.slc tSent) a1.2.1), (19, .val i64 (a1.2.1.length : Int)), (20, .val i64 v403)], vr := [], lent := [] }) = l0 k a1 (X0_0 K a1) v403 :=
  iter_raw _ _ K (fun v403 => ({ n := 51, sl := [(0, .val (.slc tRow) a1.1), (1, .val (.slc tSent) a1.2.1), (4, .box tRowsResult (ownMd tRowsResult) [] ((0 : Int), ([] : List Row), ())), (18, .val (.slc tSent) a1.2.1), (19, .val i64 (a1.2.1.length : Int)), (20, .val i64 v403)], vr := [], lent := [] } : St)) (fun self v => B0 k self (X0_0 K a1) a1 v) (fun rec v => B0_eq k rec K a1 v) k v403
noncomputable def S1 (rec : St → Option Out) (a1 : Arg) : (RowsResult × Int) → Option Out := fun v1008 => rec ({ n := 51, sl := [(4, .box tRowsResult (ownMd tRowsResult) [] ((0 : Int), ([] : List Row), ())), (9, .box tRowsResult (ownMd tRowsResult) [] v1008.1), (34, .val (.slc tSent) a1.2.1), (35, .val i64 (a1.2.1.length : Int)), (36, .val i64 v1008.2)], vr := [], lent := [] })
noncomputable def X1_2 (K : Ex → St → Option Out) (a1 : Arg) : RowsResult → Option Out := fun z => K (.exit 2) ({ n := 51, sl := [(4, .box tRowsResult (ownMd tRowsResult) [] ((0 : Int), ([] : List Row), ())), (9, .box tRowsResult (ownMd tRowsResult) [] z)], vr := [], lent := [] })
noncomputable def b1 (self : (RowsResult × Int) → Option Out) (e2 : RowsResult → Option Out) (a1 : Arg) (v1008 : RowsResult × Int) : Option Out := bif decide (v1008.2 < (a1.2.1.length : Int)) then (if 0 ≤ v1008.2 then ((a1.2.1[v1008.2.toNat]?).bind fun x1209 => (impl_ApplyChanges.sem (v1008.1.2.1, x1209.2.2.1, ())).bind fun r1210 => bif !decide (r1210.1.1 = (0 : Int)) then (some (r1210.1, ())) else self (r1210.1, w64 (v1008.2 + (1 : Int)))) else none) else e2 v1008.1
noncomputable def B1 (k : Nat) (self : (RowsResult × Int) → Option Out) (e2 : RowsResult → Option Out) (a1 : Arg) (v1008 : RowsResult × Int) : Option Out := b1 self e2 a1 v1008
theorem b1_eq (k : Nat) (rec : St → Option Out) (K : Ex → St → Option Out) (a1 : Arg) (v1008 : RowsResult × Int) : codeK E k fin (sub [1, 1, 1, 1, 0, 1, 0, 0] C) ({ n := 51, sl := [(4, .box tRowsResult (ownMd tRowsResult) [] ((0 : Int), ([] : List Row), ())), (9, .box tRowsResult (ownMd tRowsResult) [] v1008.1), (34, .val (.slc tSent) a1.2.1), (35, .val i64 (a1.2.1.length : Int)), (36, .val i64 v1008.2)], vr := [], lent := [] }) (loopC rec (keepF [4, 9, 34, 35, 36] []) K) = b1 (S1 rec a1) (X1_2 K a1) a1 v1008 := by kernel_rfl
theorem B1_eq (k : Nat) (rec : St → Option Out) (K : Ex → St → Option Out) (a1 : Arg) (v1008 : RowsResult × Int) : codeK E k fin (sub [1, 1, 1, 1, 0, 1, 0, 0] C) ({ n := 51, sl := [(4, .box tRowsResult (ownMd tRowsResult) [] ((0 : Int), ([] : List Row), ())), (9, .box tRowsResult (ownMd tRowsResult) [] v1008.1), (34, .val (.slc tSent) a1.2.1), (35, .val i64 (a1.2.1.length : Int)), (36, .val i64 v1008.2)], vr := [], lent := [] }) (loopC rec (keepF [4, 9, 34, 35, 36] []) K) = B1 k (S1 rec a1) (X1_2 K a1) a1 v1008 := (b1_eq k rec K a1 v1008).trans (by rfl)
noncomputable def l1 (k : Nat) (a1 : Arg) (e2 : RowsResult → Option Out) (v : RowsResult × Int) : Option Out := rawIter (fun self v => B1 k self e2 a1 v) k v
theorem l1_eq (k : Nat) (K : Ex → St → Option Out) (a1 : Arg) (v1008 : RowsResult × Int) : iterK (codeK E k fin (sub [1, 1, 1, 1, 0, 1, 0, 0] C)) (keepF [4, 9, 34, 35, 36] []) K k ({ n := 51, sl := [(4, .box tRowsResult (ownMd tRowsResult) [] ((0 : Int), ([] : List Row), ())), (9, .box tRowsResult (ownMd tRowsResult) [] v1008.1), (34, .val (.slc tSent) a1.2.1), (35, .val i64 (a1.2.1.length : Int)), (36, .val i64 v1008.2)], vr := [], lent := [] }) = l1 k a1 (X1_2 K a1) v1008 :=
  iter_raw _ _ K (fun v1008 => ({ n := 51, sl := [(4, .box tRowsResult (ownMd tRowsResult) [] ((0 : Int), ([] : List Row), ())), (9, .box tRowsResult (ownMd tRowsResult) [] v1008.1), (34, .val (.slc tSent) a1.2.1), (35, .val i64 (a1.2.1.length : Int)), (36, .val i64 v1008.2)], vr := [], lent := [] } : St)) (fun self v => B1 k self (X1_2 K a1) a1 v) (fun rec v => B1_eq k rec K a1 v) k v1008
noncomputable def q1 (a1 : Arg) (z1211 : RowsResult) : Option Out := some (z1211, ())
noncomputable def Q1 (k : Nat) (a1 : Arg) (z1211 : RowsResult) : Option Out := q1 a1 z1211
theorem q1_eq (k : Nat) (a1 : Arg) (z1211 : RowsResult) : (blockC 2 (seqC (codeK E k fin (sub [1, 1, 1, 1, 1] C)) K0)) (.exit 2) ({ n := 51, sl := [(4, .box tRowsResult (ownMd tRowsResult) [] ((0 : Int), ([] : List Row), ())), (9, .box tRowsResult (ownMd tRowsResult) [] z1211)], vr := [], lent := [] }) = q1 a1 z1211 := by kernel_rfl
theorem Q1_eq (k : Nat) (a1 : Arg) (z1211 : RowsResult) : (blockC 2 (seqC (codeK E k fin (sub [1, 1, 1, 1, 1] C)) K0)) (.exit 2) ({ n := 51, sl := [(4, .box tRowsResult (ownMd tRowsResult) [] ((0 : Int), ([] : List Row), ())), (9, .box tRowsResult (ownMd tRowsResult) [] z1211)], vr := [], lent := [] }) = Q1 k a1 z1211 := (q1_eq k a1 z1211).trans (by rfl)
noncomputable def s1 (k : Nat) (a1 : Arg) : (RowsResult × Int) → Option Out := fun v1008 => iterK (codeK E k fin (sub [1, 1, 1, 1, 0, 1, 0, 0] C)) (keepF [4, 9, 34, 35, 36] []) (blockC 2 (seqC (codeK E k fin (sub [1, 1, 1, 1, 1] C)) K0)) k ({ n := 51, sl := [(4, .box tRowsResult (ownMd tRowsResult) [] ((0 : Int), ([] : List Row), ())), (9, .box tRowsResult (ownMd tRowsResult) [] v1008.1), (34, .val (.slc tSent) a1.2.1), (35, .val i64 (a1.2.1.length : Int)), (36, .val i64 v1008.2)], vr := [], lent := [] })
noncomputable def r1 (k : Nat) (a1 : Arg) : (RowsResult × Int) → Option Out := fun v1008 => l1 k a1 (fun z => Q1 k a1 z) v1008
theorem s1_eq (k : Nat) (a1 : Arg) : s1 k a1 = r1 k a1 := by
  funext v1008;
  have h2 : X1_2 ((blockC 2 (seqC (codeK E k fin (sub [1, 1, 1, 1, 1] C)) K0))) a1 = fun z => Q1 k a1 z := funext fun z => Q1_eq k a1 z
  refine (l1_eq k ((blockC 2 (seqC (codeK E k fin (sub [1, 1, 1, 1, 1] C)) K0))) a1 v1008).trans ?_
  rw [h2]
  rfl
noncomputable def q0 (l1 : (RowsResult × Int) → Option Out) (a1 : Arg) (z606 : (Unit)) : Option Out := (slices_Clone_Row.sem (a1.1, ())).bind fun r607 => l1 (((0 : Int), r607.1, ()), (0 : Int))
noncomputable def Q0 (k : Nat) (a1 : Arg) (z606 : (Unit)) : Option Out := q0 (r1 k a1) a1 z606
theorem q0_eq (k : Nat) (a1 : Arg) (z606 : (Unit)) : (blockC 0 (seqC (codeK E k fin (sub [1, 1, 1] C)) K0)) (.exit 0) ({ n := 51, sl := [(0, .val (.slc tRow) a1.1), (1, .val (.slc tSent) a1.2.1), (4, .box tRowsResult (ownMd tRowsResult) [] ((0 : Int), ([] : List Row), ()))], vr := [], lent := [] }) = q0 (s1 k a1) a1 z606 := by kernel_rfl
theorem Q0_eq (k : Nat) (a1 : Arg) (z606 : (Unit)) : (blockC 0 (seqC (codeK E k fin (sub [1, 1, 1] C)) K0)) (.exit 0) ({ n := 51, sl := [(0, .val (.slc tRow) a1.1), (1, .val (.slc tSent) a1.2.1), (4, .box tRowsResult (ownMd tRowsResult) [] ((0 : Int), ([] : List Row), ()))], vr := [], lent := [] }) = Q0 k a1 z606 := (q0_eq k a1 z606).trans (by rw [s1_eq]; rfl)
noncomputable def s0 (k : Nat) (a1 : Arg) : (Int) → Option Out := fun v403 => iterK (codeK E k fin (sub [1, 1, 0, 1, 0, 0] C)) (keepF [0, 1, 4, 18, 19, 20] []) (blockC 0 (seqC (codeK E k fin (sub [1, 1, 1] C)) K0)) k ({ n := 51, sl := [(0, .val (.slc tRow) a1.1), (1, .val (.slc tSent) a1.2.1), (4, .box tRowsResult (ownMd tRowsResult) [] ((0 : Int), ([] : List Row), ())), (18, .val (.slc tSent) a1.2.1), (19, .val i64 (a1.2.1.length : Int)), (20, .val i64 v403)], vr := [], lent := [] })
noncomputable def r0 (k : Nat) (a1 : Arg) : (Int) → Option Out := fun v403 => l0 k a1 (fun z => Q0 k a1 z) v403
theorem s0_eq (k : Nat) (a1 : Arg) : s0 k a1 = r0 k a1 := by
  funext v403;
  have h0 : X0_0 ((blockC 0 (seqC (codeK E k fin (sub [1, 1, 1] C)) K0))) a1 = fun z => Q0 k a1 z := funext fun z => Q0_eq k a1 z
  refine (l0_eq k ((blockC 0 (seqC (codeK E k fin (sub [1, 1, 1] C)) K0))) a1 v403).trans ?_
  rw [h0]
  rfl
noncomputable def p (l0 : (Int) → Option Out) (a1 : Arg) : Option Out := (impl_RowsFault.sem (a1.1, ())).bind fun r2 => bif !decide (r2.1 = (0 : Int)) then (some ((r2.1, ([] : List Row), ()), ())) else l0 (0 : Int)
noncomputable def raw (k : Nat) (a1 : Arg) : Option Out := p (r0 k a1) a1
theorem p_eq (k : Nat) (a1 : Arg) : bodyK E k Go.Proofs.Try.f60 ps rs [] [] a1 = p (s0 k a1) a1 := by kernel_rfl
theorem raw_eq (k : Nat) (a1 : Arg) : bodyK E k Go.Proofs.Try.f60 ps rs [] [] a1 = raw k a1 := (p_eq k a1).trans (by rw [s0_eq]; rfl)
theorem ent : EnterOk Go.Proofs.Try.prog 60 sig.cap := ⟨Go.Proofs.Try.f60, Go.Proofs.Try.func60, by kernel_rfl, by kernel_rfl, by kernel_rfl⟩
theorem env : EnvOk Go.Proofs.Try.prog E := env_ok (tl := [(2, i64), (25, (.slc tSent)), (28, (.slc tRow)), (97, tRowsResult), (141, (.slc tChange)), (143, tSent)]) (gl := [(142, impl_RowsFault.sig), (143, impl_sentFault.sig), (144, slices_Clone_Row.sig), (145, impl_ApplyChanges.sig)]) rfl rfl (by kernel_rfl) (by kernel_rfl) (fn_cons impl_RowsFault.snd impl_RowsFault.ent (fn_cons impl_sentFault.snd impl_sentFault.ent (fn_cons slices_Clone_Row.snd slices_Clone_Row.ent (fn_cons impl_ApplyChanges.snd impl_ApplyChanges.ent (fn_nil _)))))
theorem chk : funOk Go.Proofs.Try.prog E Go.Proofs.Try.f60 ps rs [] = true := by kernel_rfl
theorem snd : Sound Go.Proofs.Try.prog 60 sig := sound_of_body env Go.Proofs.Try.func60 rfl (es := []) (fr := []) chk (fun _ _ h => lift_some h)
end impl_ReplaySent
namespace laws_eqRowsResult
/-! loop example g00408 laws eqRowsResult -/
abbrev Arg : Type := RowsResult × RowsResult × Unit
abbrev Out : Type := Bool × Unit
noncomputable def ps : List (PM × Ty) := [(.ro, tRowsResult), (.ro, tRowsResult)]
noncomputable def rs : List (Ty × Md) := [(.bool, (roMd .bool))]
noncomputable def E : Env := { TI := lookN [(2, i64), (28, (.slc tRow)), (97, tRowsResult)], G := lookN [(62, laws_eqRowS.sig)], fz := [], lv := [], lx := [], lf := [], od := [] }
noncomputable def sem (a : Arg) : Option Out := lift fun k => bodyK E k Go.Proofs.Try.f61 ps rs [] [] a
noncomputable def sig : Sig := { ps := ps, rs := rs, F := fun a => sem a }
noncomputable def C : Code := bodyOf Go.Proofs.Try.f61
noncomputable def fin : St → Option Out := outK ps rs [] (Func.results Go.Proofs.Try.f61).toList (mvs [])
noncomputable def K0 : Ex → St → Option Out := endK fin
noncomputable def p (a1 : Arg) : Option Out := bif !decide (a1.1.1 = a1.2.1.1) then (some (false, ())) else (laws_eqRowS.sem (a1.1.2.1, a1.2.1.2.1, ())).bind fun r2 => bif !r2.1 then (some (false, ())) else some (true, ())
noncomputable def raw (k : Nat) (a1 : Arg) : Option Out := p a1
theorem p_eq (k : Nat) (a1 : Arg) : bodyK E k Go.Proofs.Try.f61 ps rs [] [] a1 = p a1 := by kernel_rfl
theorem raw_eq (k : Nat) (a1 : Arg) : bodyK E k Go.Proofs.Try.f61 ps rs [] [] a1 = raw k a1 := (p_eq k a1).trans (by rfl)
theorem ent : EnterOk Go.Proofs.Try.prog 61 sig.cap := ⟨Go.Proofs.Try.f61, Go.Proofs.Try.func61, by kernel_rfl, by kernel_rfl, by kernel_rfl⟩
theorem env : EnvOk Go.Proofs.Try.prog E := env_ok (tl := [(2, i64), (28, (.slc tRow)), (97, tRowsResult)]) (gl := [(62, laws_eqRowS.sig)]) rfl rfl (by kernel_rfl) (by kernel_rfl) (fn_cons laws_eqRowS.snd laws_eqRowS.ent (fn_nil _))
theorem chk : funOk Go.Proofs.Try.prog E Go.Proofs.Try.f61 ps rs [] = true := by kernel_rfl
theorem snd : Sound Go.Proofs.Try.prog 61 sig := sound_of_body env Go.Proofs.Try.func61 rfl (es := []) (fr := []) chk (fun _ _ h => lift_some h)
end laws_eqRowsResult
namespace laws_markSentS
/-! loop example g00408 laws markSentS -/
abbrev Arg : Type := (List Sent) × Int × Unit
abbrev Out : Type := Int × (List Sent) × Unit
noncomputable def ps : List (PM × Ty) := [(.muts (ownMd (.slc tSent)), (.slc tSent)), (.ro, i64)]
noncomputable def rs : List (Ty × Md) := [(i64, (roMd i64))]
noncomputable def E : Env := { TI := lookN [(2, i64), (25, (.slc tSent)), (141, (.slc tChange)), (143, tSent)], G := lookN [(148, laws_markChangeS.sig)], fz := [], lv := [(2, [0, 1, 5])], lx := [(0, [0, 1])], lf := [], od := [] }
noncomputable def sem (a : Arg) : Option Out := lift fun k => bodyK E k Go.Proofs.Try.f64 ps rs [0] [] a
noncomputable def sig : Sig := { ps := ps, rs := rs, F := fun a => sem a }
noncomputable def C : Code := bodyOf Go.Proofs.Try.f64
noncomputable def fin : St → Option Out := outK ps rs [0] (Func.results Go.Proofs.Try.f64).toList (mvs [])
noncomputable def K0 : Ex → St → Option Out := endK fin
noncomputable def S0 (rec : St → Option Out) (a1 : Arg) : ((List Sent) × Int × Int) → Option Out := fun v402 => rec ({ n := 34, sl := [(0, .own (.slc tSent) (ownMd (.slc tSent)) [] v402.1), (1, .val i64 v402.2.1), (5, .val i64 v402.2.2)], vr := [], lent := [(0, 0, true)] })
noncomputable def X0_0 (K : Ex → St → Option Out) (a1 : Arg) : ((List Sent) × Int) → Option Out := fun z => K (.exit 0) ({ n := 34, sl := [(0, .own (.slc tSent) (ownMd (.slc tSent)) [] z.1), (1, .val i64 z.2)], vr := [], lent := [(0, 0, true)] })
noncomputable def b0 (self : ((List Sent) × Int × Int) → Option Out) (e0 : ((List Sent) × Int) → Option Out) (a1 : Arg) (v402 : (List Sent) × Int × Int) : Option Out := bif decide (v402.2.2 < (v402.1.length : Int)) then (if 0 ≤ v402.2.2 ∧ v402.2.2 < (v402.1.length : Int) then ((v402.1[v402.2.2.toNat]?).bind fun x603 => let y604 := v402.1.set v402.2.2.toNat (v402.2.1, x603.2); if 0 ≤ v402.2.2 ∧ v402.2.2 < (y604.length : Int) then ((y604[v402.2.2.toNat]?).bind fun x605 => let y606 := y604.set v402.2.2.toNat (x605.1, w64 (v402.2.1 + (1 : Int)), x605.2.2); if 0 ≤ v402.2.2 ∧ v402.2.2 < (y606.length : Int) then ((y606[v402.2.2.toNat]?).bind fun x607 => (y606[v402.2.2.toNat]?).bind fun x608 => (y606[v402.2.2.toNat]?).bind fun x609 => (laws_markChangeS.sem (x609.2.2.1, w64 ((w64 (v402.2.1 + (1 : Int))) + (1 : Int)), ())).bind fun r610 => (y606[v402.2.2.toNat]?).bind fun x611 => let y612 := y606.set v402.2.2.toNat (x611.1, x611.2.1, r610.2.1, x611.2.2.2); self (y612, r610.1, w64 (v402.2.2 + (1 : Int)))) else none) else none) else none) else e0 (v402.1, v402.2.1)
noncomputable def B0 (k : Nat) (self : ((List Sent) × Int × Int) → Option Out) (e0 : ((List Sent) × Int) → Option Out) (a1 : Arg) (v402 : (List Sent) × Int × Int) : Option Out := b0 self e0 a1 v402
theorem b0_eq (k : Nat) (rec : St → Option Out) (K : Ex → St → Option Out) (a1 : Arg) (v402 : (List Sent) × Int × Int) : codeK E k fin (sub [1, 0, 1, 0, 0] C) ({ n := 34, sl := [(0, .own (.slc tSent) (ownMd (.slc tSent)) [] v402.1), (1, .val i64 v402.2.1), (5, .val i64 v402.2.2)], vr := [], lent := [(0, 0, true)] }) (loopC rec (keepF [0, 1, 5] []) K) = b0 (S0 rec a1) (X0_0 K a1) a1 v402 := by kernel_rfl
theorem B0_eq (k : Nat) (rec : St → Option Out) (K : Ex → St → Option Out) (a1 : Arg) (v402 : (List Sent) × Int × Int) : codeK E k fin (sub [1, 0, 1, 0, 0] C) ({ n := 34, sl := [(0, .own (.slc tSent) (ownMd (.slc tSent)) [] v402.1), (1, .val i64 v402.2.1), (5, .val i64 v402.2.2)], vr := [], lent := [(0, 0, true)] }) (loopC rec (keepF [0, 1, 5] []) K) = B0 k (S0 rec a1) (X0_0 K a1) a1 v402 := (b0_eq k rec K a1 v402).trans (by rfl)
noncomputable def l0 (k : Nat) (a1 : Arg) (e0 : ((List Sent) × Int) → Option Out) (v : (List Sent) × Int × Int) : Option Out := rawIter (fun self v => B0 k self e0 a1 v) k v
theorem l0_eq (k : Nat) (K : Ex → St → Option Out) (a1 : Arg) (v402 : (List Sent) × Int × Int) : iterK (codeK E k fin (sub [1, 0, 1, 0, 0] C)) (keepF [0, 1, 5] []) K k ({ n := 34, sl := [(0, .own (.slc tSent) (ownMd (.slc tSent)) [] v402.1), (1, .val i64 v402.2.1), (5, .val i64 v402.2.2)], vr := [], lent := [(0, 0, true)] }) = l0 k a1 (X0_0 K a1) v402 :=
  iter_raw _ _ K (fun v402 => ({ n := 34, sl := [(0, .own (.slc tSent) (ownMd (.slc tSent)) [] v402.1), (1, .val i64 v402.2.1), (5, .val i64 v402.2.2)], vr := [], lent := [(0, 0, true)] } : St)) (fun self v => B0 k self (X0_0 K a1) a1 v) (fun rec v => B0_eq k rec K a1 v) k v402
noncomputable def q0 (a1 : Arg) (z613 : ((List Sent) × Int)) : Option Out := some (z613.2, z613.1, ())
noncomputable def Q0 (k : Nat) (a1 : Arg) (z613 : ((List Sent) × Int)) : Option Out := q0 a1 z613
theorem q0_eq (k : Nat) (a1 : Arg) (z613 : ((List Sent) × Int)) : (blockC 0 (seqC (codeK E k fin (sub [1, 1] C)) K0)) (.exit 0) ({ n := 34, sl := [(0, .own (.slc tSent) (ownMd (.slc tSent)) [] z613.1), (1, .val i64 z613.2)], vr := [], lent := [(0, 0, true)] }) = q0 a1 z613 := by kernel_rfl
theorem Q0_eq (k : Nat) (a1 : Arg) (z613 : ((List Sent) × Int)) : (blockC 0 (seqC (codeK E k fin (sub [1, 1] C)) K0)) (.exit 0) ({ n := 34, sl := [(0, .own (.slc tSent) (ownMd (.slc tSent)) [] z613.1), (1, .val i64 z613.2)], vr := [], lent := [(0, 0, true)] }) = Q0 k a1 z613 := (q0_eq k a1 z613).trans (by rfl)
noncomputable def s0 (k : Nat) (a1 : Arg) : ((List Sent) × Int × Int) → Option Out := fun v402 => iterK (codeK E k fin (sub [1, 0, 1, 0, 0] C)) (keepF [0, 1, 5] []) (blockC 0 (seqC (codeK E k fin (sub [1, 1] C)) K0)) k ({ n := 34, sl := [(0, .own (.slc tSent) (ownMd (.slc tSent)) [] v402.1), (1, .val i64 v402.2.1), (5, .val i64 v402.2.2)], vr := [], lent := [(0, 0, true)] })
noncomputable def r0 (k : Nat) (a1 : Arg) : ((List Sent) × Int × Int) → Option Out := fun v402 => l0 k a1 (fun z => Q0 k a1 z) v402
theorem s0_eq (k : Nat) (a1 : Arg) : s0 k a1 = r0 k a1 := by
  funext v402;
  have h0 : X0_0 ((blockC 0 (seqC (codeK E k fin (sub [1, 1] C)) K0))) a1 = fun z => Q0 k a1 z := funext fun z => Q0_eq k a1 z
  refine (l0_eq k ((blockC 0 (seqC (codeK E k fin (sub [1, 1] C)) K0))) a1 v402).trans ?_
  rw [h0]
  rfl
noncomputable def p (l0 : ((List Sent) × Int × Int) → Option Out) (a1 : Arg) : Option Out := l0 (a1.1, a1.2.1, (0 : Int))
noncomputable def raw (k : Nat) (a1 : Arg) : Option Out := p (r0 k a1) a1
theorem p_eq (k : Nat) (a1 : Arg) : bodyK E k Go.Proofs.Try.f64 ps rs [0] [] a1 = p (s0 k a1) a1 := by kernel_rfl
theorem raw_eq (k : Nat) (a1 : Arg) : bodyK E k Go.Proofs.Try.f64 ps rs [0] [] a1 = raw k a1 := (p_eq k a1).trans (by rw [s0_eq]; rfl)
theorem ent : EnterOk Go.Proofs.Try.prog 64 sig.cap := ⟨Go.Proofs.Try.f64, Go.Proofs.Try.func64, by kernel_rfl, by kernel_rfl, by kernel_rfl⟩
theorem env : EnvOk Go.Proofs.Try.prog E := env_ok (tl := [(2, i64), (25, (.slc tSent)), (141, (.slc tChange)), (143, tSent)]) (gl := [(148, laws_markChangeS.sig)]) rfl rfl (by kernel_rfl) (by kernel_rfl) (fn_cons laws_markChangeS.snd laws_markChangeS.ent (fn_nil _))
theorem chk : funOk Go.Proofs.Try.prog E Go.Proofs.Try.f64 ps rs [0] = true := by kernel_rfl
theorem snd : Sound Go.Proofs.Try.prog 64 sig := sound_of_body env Go.Proofs.Try.func64 rfl (es := [0]) (fr := []) chk (fun _ _ h => lift_some h)
end laws_markSentS
namespace laws_markRowsResult
/-! loop example g00408 laws markRowsResult -/
abbrev Arg : Type := RowsResult × Int × Unit
abbrev Out : Type := Int × RowsResult × Unit
noncomputable def ps : List (PM × Ty) := [(.muts (ownMd tRowsResult), tRowsResult), (.ro, i64)]
noncomputable def rs : List (Ty × Md) := [(i64, (roMd i64))]
noncomputable def E : Env := { TI := lookN [(28, (.slc tRow)), (97, tRowsResult)], G := lookN [(63, laws_markRowS.sig)], fz := [], lv := [], lx := [], lf := [], od := [] }
noncomputable def sem (a : Arg) : Option Out := lift fun k => bodyK E k Go.Proofs.Try.f65 ps rs [2] [] a
noncomputable def sig : Sig := { ps := ps, rs := rs, F := fun a => sem a }
noncomputable def C : Code := bodyOf Go.Proofs.Try.f65
noncomputable def fin : St → Option Out := outK ps rs [2] (Func.results Go.Proofs.Try.f65).toList (mvs [])
noncomputable def K0 : Ex → St → Option Out := endK fin
noncomputable def p (a1 : Arg) : Option Out := (laws_markRowS.sem (a1.1.2.1, a1.2.1, ())).bind fun r2 => some (r2.1, (a1.1.1, r2.2.1, a1.1.2.2), ())
noncomputable def raw (k : Nat) (a1 : Arg) : Option Out := p a1
theorem p_eq (k : Nat) (a1 : Arg) : bodyK E k Go.Proofs.Try.f65 ps rs [2] [] a1 = p a1 := by kernel_rfl
theorem raw_eq (k : Nat) (a1 : Arg) : bodyK E k Go.Proofs.Try.f65 ps rs [2] [] a1 = raw k a1 := (p_eq k a1).trans (by rfl)
theorem ent : EnterOk Go.Proofs.Try.prog 65 sig.cap := ⟨Go.Proofs.Try.f65, Go.Proofs.Try.func65, by kernel_rfl, by kernel_rfl, by kernel_rfl⟩
theorem env : EnvOk Go.Proofs.Try.prog E := env_ok (tl := [(28, (.slc tRow)), (97, tRowsResult)]) (gl := [(63, laws_markRowS.sig)]) rfl rfl (by kernel_rfl) (by kernel_rfl) (fn_cons laws_markRowS.snd laws_markRowS.ent (fn_nil _))
theorem chk : funOk Go.Proofs.Try.prog E Go.Proofs.Try.f65 ps rs [2] = true := by kernel_rfl
theorem snd : Sound Go.Proofs.Try.prog 65 sig := sound_of_body env Go.Proofs.Try.func65 rfl (es := [2]) (fr := []) chk (fun _ _ h => lift_some h)
end laws_markRowsResult
namespace laws_heldRowsResult
/-! loop example g00408 laws heldRowsResult -/
abbrev Arg : Type := RowsResult × Int × Unit
abbrev Out : Type := Int × Unit
noncomputable def ps : List (PM × Ty) := [(.ro, tRowsResult), (.ro, i64)]
noncomputable def rs : List (Ty × Md) := [(i64, (roMd i64))]
noncomputable def E : Env := { TI := lookN [(28, (.slc tRow)), (97, tRowsResult)], G := lookN [(149, laws_heldRowS.sig)], fz := [], lv := [], lx := [], lf := [], od := [] }
noncomputable def sem (a : Arg) : Option Out := lift fun k => bodyK E k Go.Proofs.Try.f66 ps rs [] [] a
noncomputable def sig : Sig := { ps := ps, rs := rs, F := fun a => sem a }
noncomputable def C : Code := bodyOf Go.Proofs.Try.f66
noncomputable def fin : St → Option Out := outK ps rs [] (Func.results Go.Proofs.Try.f66).toList (mvs [])
noncomputable def K0 : Ex → St → Option Out := endK fin
noncomputable def p (a1 : Arg) : Option Out := (laws_heldRowS.sem (a1.1.2.1, a1.2.1, ())).bind fun r2 => bif decide (r2.1 < (0 : Int)) then (some ((-1 : Int), ())) else some (r2.1, ())
noncomputable def raw (k : Nat) (a1 : Arg) : Option Out := p a1
theorem p_eq (k : Nat) (a1 : Arg) : bodyK E k Go.Proofs.Try.f66 ps rs [] [] a1 = p a1 := by kernel_rfl
theorem raw_eq (k : Nat) (a1 : Arg) : bodyK E k Go.Proofs.Try.f66 ps rs [] [] a1 = raw k a1 := (p_eq k a1).trans (by rfl)
theorem ent : EnterOk Go.Proofs.Try.prog 66 sig.cap := ⟨Go.Proofs.Try.f66, Go.Proofs.Try.func66, by kernel_rfl, by kernel_rfl, by kernel_rfl⟩
theorem env : EnvOk Go.Proofs.Try.prog E := env_ok (tl := [(28, (.slc tRow)), (97, tRowsResult)]) (gl := [(149, laws_heldRowS.sig)]) rfl rfl (by kernel_rfl) (by kernel_rfl) (fn_cons laws_heldRowS.snd laws_heldRowS.ent (fn_nil _))
theorem chk : funOk Go.Proofs.Try.prog E Go.Proofs.Try.f66 ps rs [] = true := by kernel_rfl
theorem snd : Sound Go.Proofs.Try.prog 66 sig := sound_of_body env Go.Proofs.Try.func66 rfl (es := []) (fr := []) chk (fun _ _ h => lift_some h)
end laws_heldRowsResult
namespace laws_FnExactReplaySent
/-! loop example g00408 laws FnExactReplaySent -/
abbrev Arg : Type := (List Row) × (List Sent) × Unit
abbrev Out : Type := Bool × Unit
noncomputable def ps : List (PM × Ty) := [(.ro, (.slc tRow)), (.ro, (.slc tSent))]
noncomputable def rs : List (Ty × Md) := [(.bool, (roMd .bool))]
noncomputable def E : Env := { TI := lookN [(97, tRowsResult)], G := lookN [(12, laws_szSentS.sig), (14, laws_toSentS.sig), (16, laws_eqSentS.sig), (57, laws_szRowS.sig), (58, spec_ReplaySent.sig), (59, laws_toRowS.sig), (60, impl_ReplaySent.sig), (61, laws_eqRowsResult.sig), (62, laws_eqRowS.sig), (63, laws_markRowS.sig), (64, laws_markSentS.sig), (65, laws_markRowsResult.sig), (66, laws_heldRowsResult.sig)], fz := [], lv := [], lx := [], lf := [], od := [] }
noncomputable def sem (a : Arg) : Option Out := lift fun k => bodyK E k Go.Proofs.Try.f9 ps rs [] [] a
noncomputable def sig : Sig := { ps := ps, rs := rs, F := fun a => sem a }
noncomputable def C : Code := bodyOf Go.Proofs.Try.f9
noncomputable def fin : St → Option Out := outK ps rs [] (Func.results Go.Proofs.Try.f9).toList (mvs [])
noncomputable def K0 : Ex → St → Option Out := endK fin
noncomputable def p (a1 : Arg) : Option Out := (laws_szRowS.sem (a1.1, (1048576 : Int), ())).bind fun r2 => bif decide (r2.1 < (0 : Int)) then (some (true, ())) else (laws_szSentS.sem (a1.2.1, r2.1, ())).bind fun r3 => bif decide (r3.1 < (0 : Int)) then (some (true, ())) else (laws_toRowS.sem (a1.1, ())).bind fun r4 => (laws_toSentS.sem (a1.2.1, ())).bind fun r5 => (spec_ReplaySent.sem (r4.1, r5.1, ())).bind fun r6 => (laws_toRowS.sem (a1.1, ())).bind fun r7 => (laws_toSentS.sem (a1.2.1, ())).bind fun r8 => (impl_ReplaySent.sem (r7.1, r8.1, ())).bind fun r9 => (laws_eqRowsResult.sem (r9.1, r6.1, ())).bind fun r10 => bif !r10.1 then (some (false, ())) else (laws_toRowS.sem (a1.1, ())).bind fun r11 => (laws_eqRowS.sem (r7.1, r11.1, ())).bind fun r12 => bif !r12.1 then (some (false, ())) else (laws_toSentS.sem (a1.2.1, ())).bind fun r13 => (laws_eqSentS.sem (r8.1, r13.1, ())).bind fun r14 => bif !r14.1 then (some (false, ())) else (laws_markRowS.sem (r7.1, (1 : Int), ())).bind fun r15 => (laws_markSentS.sem (r8.1, r15.1, ())).bind fun r16 => bif decide (r16.1 < (0 : Int)) then (some (false, ())) else (laws_eqRowsResult.sem (r9.1, r6.1, ())).bind fun r17 => bif !r17.1 then (some (false, ())) else (laws_markRowsResult.sem (r9.1, (1 : Int), ())).bind fun r18 => (laws_heldRowsResult.sem (r18.2.1, (1 : Int), ())).bind fun r19 => bif decide (r19.1 < (0 : Int)) then (some (false, ())) else bif !decide (r19.1 = r18.1) then (some (false, ())) else (laws_toRowS.sem (a1.1, ())).bind fun r20 => (laws_toSentS.sem (a1.2.1, ())).bind fun r21 => (impl_ReplaySent.sem (r20.1, r21.1, ())).bind fun r22 => (laws_eqRowsResult.sem (r22.1, r6.1, ())).bind fun r23 => bif !r23.1 then (some (false, ())) else (laws_heldRowsResult.sem (r18.2.1, (1 : Int), ())).bind fun r24 => bif decide (r24.1 < (0 : Int)) then (some (false, ())) else bif !decide (r24.1 = r18.1) then (some (false, ())) else some (true, ())
noncomputable def raw (k : Nat) (a1 : Arg) : Option Out := p a1
theorem p_eq (k : Nat) (a1 : Arg) : bodyK E k Go.Proofs.Try.f9 ps rs [] [] a1 = p a1 := by kernel_rfl
theorem raw_eq (k : Nat) (a1 : Arg) : bodyK E k Go.Proofs.Try.f9 ps rs [] [] a1 = raw k a1 := (p_eq k a1).trans (by rfl)
theorem ent : EnterOk Go.Proofs.Try.prog 9 sig.cap := ⟨Go.Proofs.Try.f9, Go.Proofs.Try.func9, by kernel_rfl, by kernel_rfl, by kernel_rfl⟩
theorem env : EnvOk Go.Proofs.Try.prog E := env_ok (tl := [(97, tRowsResult)]) (gl := [(12, laws_szSentS.sig), (14, laws_toSentS.sig), (16, laws_eqSentS.sig), (57, laws_szRowS.sig), (58, spec_ReplaySent.sig), (59, laws_toRowS.sig), (60, impl_ReplaySent.sig), (61, laws_eqRowsResult.sig), (62, laws_eqRowS.sig), (63, laws_markRowS.sig), (64, laws_markSentS.sig), (65, laws_markRowsResult.sig), (66, laws_heldRowsResult.sig)]) rfl rfl (by kernel_rfl) (by kernel_rfl) (fn_cons laws_szSentS.snd laws_szSentS.ent (fn_cons laws_toSentS.snd laws_toSentS.ent (fn_cons laws_eqSentS.snd laws_eqSentS.ent (fn_cons laws_szRowS.snd laws_szRowS.ent (fn_cons spec_ReplaySent.snd spec_ReplaySent.ent (fn_cons laws_toRowS.snd laws_toRowS.ent (fn_cons impl_ReplaySent.snd impl_ReplaySent.ent (fn_cons laws_eqRowsResult.snd laws_eqRowsResult.ent (fn_cons laws_eqRowS.snd laws_eqRowS.ent (fn_cons laws_markRowS.snd laws_markRowS.ent (fn_cons laws_markSentS.snd laws_markSentS.ent (fn_cons laws_markRowsResult.snd laws_markRowsResult.ent (fn_cons laws_heldRowsResult.snd laws_heldRowsResult.ent (fn_nil _))))))))))))))
theorem chk : funOk Go.Proofs.Try.prog E Go.Proofs.Try.f9 ps rs [] = true := by kernel_rfl
theorem snd : Sound Go.Proofs.Try.prog 9 sig := sound_of_body env Go.Proofs.Try.func9 rfl (es := []) (fr := []) chk (fun _ _ h => lift_some h)
end laws_FnExactReplaySent
end OT
