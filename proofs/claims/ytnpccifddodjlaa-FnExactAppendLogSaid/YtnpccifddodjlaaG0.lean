/- Printed by gen.py, a program of this claim: what each Go function computes. -/
import Derived.Test.YtnpccifddodjlaaOUk
import Derived.Test.YtnpccifddodjlaaProg
import Derived.KernelRfl
set_option maxRecDepth 100000
set_option linter.unusedVariables false
namespace OT
open Go
abbrev Row : Type := (Int × Int × Int × (List UInt8) × Unit)
abbrev tRow : Ty := (tupT [i64, i64, i64, .str])
abbrev Change : Type := (Bool × Row × Bool × Row × Unit)
abbrev tChange : Ty := (tupT [.bool, tRow, .bool, tRow])
abbrev Sent : Type := (Int × Int × (List Change) × Unit)
abbrev tSent : Ty := (tupT [i64, i64, (.slc tChange)])
abbrev Key : Type := (Int × Int × Unit)
abbrev tKey : Ty := (tupT [i64, i64])
abbrev Tx : Type := (Int × (List Change) × (List Int) × (List Key) × Unit)
abbrev tTx : Ty := (tupT [i64, (.slc tChange), (.slc i64), (.slc tKey)])
abbrev Plain : Type := ((List Row) × (List Tx) × Int × Unit)
abbrev tPlain : Ty := (tupT [(.slc tRow), (.slc tTx), i64])
abbrev PlainResult : Type := (Int × Int × Plain × Unit)
abbrev tPlainResult : Ty := (tupT [i64, i64, tPlain])
abbrev Log : Type := ((List UInt8) × (List UInt8) × Unit)
abbrev tLog : Ty := (tupT [(.slc u8), (.slc u8)])
abbrev Store : Type := (Bool × (List (List UInt8)) × Log × (List Tx) × Int × Unit)
abbrev tStore : Ty := (tupT [.bool, (.slc (.slc u8)), tLog, (.slc tTx), i64])
abbrev StoreResult : Type := (Int × Int × Store × Unit)
abbrev tStoreResult : Ty := (tupT [i64, i64, tStore])
abbrev Run : Type := (Int × (List UInt8) × Unit)
abbrev tRun : Ty := (tupT [i64, (.slc u8)])
abbrev Record : Type := (Int × Int × Int × (List Run) × Unit)
abbrev tRecord : Ty := (tupT [i64, i64, i64, (.slc tRun)])
abbrev RecordResult : Type := (Int × Int × Record × Unit)
abbrev tRecordResult : Ty := (tupT [i64, i64, tRecord])
abbrev LogResult : Type := (Int × Log × Unit)
abbrev tLogResult : Ty := (tupT [i64, tLog])
abbrev EditsResult : Type := (Int × (List Run) × (List (List UInt8)) × Unit)
abbrev tEditsResult : Ty := (tupT [i64, (.slc tRun), (.slc (.slc u8))])
abbrev L1Src : Type := ((List UInt8) × Int × Unit)
abbrev tL1Src : Ty := (tupT [(.slc u8), i64])
abbrev RecordsResult : Type := (Int × Int × (List Record) × Unit)
abbrev tRecordsResult : Ty := (tupT [i64, i64, (.slc tRecord)])
abbrev RowsResult : Type := (Int × (List Row) × Unit)
abbrev tRowsResult : Ty := (tupT [i64, (.slc tRow)])
abbrev Buffer : Type := (Int × (List Change) × Unit)
abbrev tBuffer : Ty := (tupT [i64, (.slc tChange)])
abbrev Miner : Type := ((List (List UInt8)) × (List Buffer) × Unit)
abbrev tMiner : Ty := (tupT [(.slc (.slc u8)), (.slc tBuffer)])
abbrev Connector : Type := (Miner × Int × Miner × Int × Unit)
abbrev tConnector : Ty := (tupT [tMiner, i64, tMiner, i64])
abbrev SentResult : Type := (Int × (List Sent) × Connector × Unit)
abbrev tSentResult : Ty := (tupT [i64, (.slc tSent), tConnector])
abbrev TxsResult : Type := (Int × (List Tx) × Unit)
abbrev tTxsResult : Ty := (tupT [i64, (.slc tTx)])
namespace spec_l1In
/-! loop example g00408 spec l1In -/
abbrev Arg : Type := Int × Int × Int × Unit
abbrev Out : Type := Bool × Unit
noncomputable def ps : List (PM × Ty) := [(.ro, i64), (.ro, i64), (.ro, i64)]
noncomputable def rs : List (Ty × Md) := [(.bool, (roMd .bool))]
noncomputable def E : Env := { TI := lookN [], G := lookN [], fz := [], lv := [], lx := [], lf := [], od := [] }
noncomputable def sem (a : Arg) : Option Out := lift fun k => bodyK E k Go.Proofs.Try.f90 ps rs [] [] a
noncomputable def sig : Sig := { ps := ps, rs := rs, F := fun a => sem a }
noncomputable def C : Code := bodyOf Go.Proofs.Try.f90
noncomputable def fin : St → Option Out := outK ps rs [] (Func.results Go.Proofs.Try.f90).toList (mvs [])
noncomputable def K0 : Ex → St → Option Out := endK fin
noncomputable def p (a1 : Arg) : Option Out := bif decide (a1.2.1 ≤ a1.1) then (some (decide (a1.1 ≤ a1.2.2.1), ())) else some (false, ())
noncomputable def raw (k : Nat) (a1 : Arg) : Option Out := p a1
theorem p_eq (k : Nat) (a1 : Arg) : bodyK E k Go.Proofs.Try.f90 ps rs [] [] a1 = p a1 := by kernel_rfl
theorem raw_eq (k : Nat) (a1 : Arg) : bodyK E k Go.Proofs.Try.f90 ps rs [] [] a1 = raw k a1 := (p_eq k a1).trans (by rfl)
theorem ent : EnterOk Go.Proofs.Try.prog 90 sig.cap := ⟨Go.Proofs.Try.f90, Go.Proofs.Try.func90, by kernel_rfl, by kernel_rfl, by kernel_rfl⟩
theorem env : EnvOk Go.Proofs.Try.prog E := env_ok (tl := []) (gl := []) rfl rfl (by kernel_rfl) (by kernel_rfl) (fn_nil _)
theorem chk : funOk Go.Proofs.Try.prog E Go.Proofs.Try.f90 ps rs [] = true := by kernel_rfl
theorem snd : Sound Go.Proofs.Try.prog 90 sig := sound_of_body env Go.Proofs.Try.func90 rfl (es := []) (fr := []) chk (fun _ _ h => lift_some h)
end spec_l1In
namespace impl_in
/-! loop example g00408 impl in -/
abbrev Arg : Type := Int × Int × Int × Unit
abbrev Out : Type := Bool × Unit
noncomputable def ps : List (PM × Ty) := [(.ro, i64), (.ro, i64), (.ro, i64)]
noncomputable def rs : List (Ty × Md) := [(.bool, (roMd .bool))]
noncomputable def E : Env := { TI := lookN [], G := lookN [], fz := [], lv := [], lx := [], lf := [], od := [] }
noncomputable def sem (a : Arg) : Option Out := lift fun k => bodyK E k Go.Proofs.Try.f91 ps rs [] [] a
noncomputable def sig : Sig := { ps := ps, rs := rs, F := fun a => sem a }
noncomputable def C : Code := bodyOf Go.Proofs.Try.f91
noncomputable def fin : St → Option Out := outK ps rs [] (Func.results Go.Proofs.Try.f91).toList (mvs [])
noncomputable def K0 : Ex → St → Option Out := endK fin
noncomputable def p (a1 : Arg) : Option Out := bif decide (a1.2.1 ≤ a1.1) then (some (decide (a1.1 ≤ a1.2.2.1), ())) else some (false, ())
noncomputable def raw (k : Nat) (a1 : Arg) : Option Out := p a1
theorem p_eq (k : Nat) (a1 : Arg) : bodyK E k Go.Proofs.Try.f91 ps rs [] [] a1 = p a1 := by kernel_rfl
theorem raw_eq (k : Nat) (a1 : Arg) : bodyK E k Go.Proofs.Try.f91 ps rs [] [] a1 = raw k a1 := (p_eq k a1).trans (by rfl)
theorem ent : EnterOk Go.Proofs.Try.prog 91 sig.cap := ⟨Go.Proofs.Try.f91, Go.Proofs.Try.func91, by kernel_rfl, by kernel_rfl, by kernel_rfl⟩
theorem env : EnvOk Go.Proofs.Try.prog E := env_ok (tl := []) (gl := []) rfl rfl (by kernel_rfl) (by kernel_rfl) (fn_nil _)
theorem chk : funOk Go.Proofs.Try.prog E Go.Proofs.Try.f91 ps rs [] = true := by kernel_rfl
theorem snd : Sound Go.Proofs.Try.prog 91 sig := sound_of_body env Go.Proofs.Try.func91 rfl (es := []) (fr := []) chk (fun _ _ h => lift_some h)
end impl_in
namespace laws_eqByteS
/-! loop example g00408 laws eqByteS -/
abbrev Arg : Type := (List UInt8) × (List UInt8) × Unit
abbrev Out : Type := Bool × Unit
noncomputable def ps : List (PM × Ty) := [(.ro, (.slc u8)), (.ro, (.slc u8))]
noncomputable def rs : List (Ty × Md) := [(.bool, (roMd .bool))]
noncomputable def E : Env := { TI := lookN [(5, u8), (39, (.slc u8))], G := lookN [], fz := [], lv := [(4, [0, 1, 5])], lx := [(0, [])], lf := [], od := [(6, [0, 1, 2, 3, 4, 5, 6, 7, 8])] }
noncomputable def sem (a : Arg) : Option Out := lift fun k => bodyK E k Go.Proofs.Try.f109 ps rs [] [] a
noncomputable def sig : Sig := { ps := ps, rs := rs, F := fun a => sem a }
noncomputable def C : Code := bodyOf Go.Proofs.Try.f109
noncomputable def fin : St → Option Out := outK ps rs [] (Func.results Go.Proofs.Try.f109).toList (mvs [])
noncomputable def K0 : Ex → St → Option Out := endK fin
noncomputable def S0 (rec : St → Option Out) (a1 : Arg) : (Int) → Option Out := fun v402 => rec ({ n := 26, sl := [(0, .val (.slc u8) a1.1), (1, .val (.slc u8) a1.2.1), (5, .val i64 v402)], vr := [], lent := [] })
noncomputable def X0_0 (K : Ex → St → Option Out) (a1 : Arg) : (Unit) → Option Out := fun z => K (.exit 0) ({ n := 26, sl := [], vr := [], lent := [] })
noncomputable def b0 (self : Int → Option Out) (e0 : (Unit) → Option Out) (a1 : Arg) (v402 : Int) : Option Out := bif decide (v402 < (a1.1.length : Int)) then (if 0 ≤ v402 then ((a1.1[v402.toNat]?).bind fun x603 => if 0 ≤ v402 then ((a1.2.1[v402.toNat]?).bind fun x604 => bif !decide ((x603.toNat : Int) = (x604.toNat : Int)) then (some (false, ())) else self (w64 (v402 + (1 : Int)))) else none) else none) else e0 ()
noncomputable def B0 (k : Nat) (self : Int → Option Out) (e0 : (Unit) → Option Out) (a1 : Arg) (v402 : Int) : Option Out := b0 self e0 a1 v402
theorem b0_eq (k : Nat) (rec : St → Option Out) (K : Ex → St → Option Out) (a1 : Arg) (v402 : Int) : codeK E k fin (sub [1, 1, 0, 1, 0, 0] C) ({ n := 26, sl := [(0, .val (.slc u8) a1.1), (1, .val (.slc u8) a1.2.1), (5, .val i64 v402)], vr := [], lent := [] }) (loopC rec (keepF [0, 1, 5] []) K) = b0 (S0 rec a1) (X0_0 K a1) a1 v402 := by kernel_rfl
theorem B0_eq (k : Nat) (rec : St → Option Out) (K : Ex → St → Option Out) (a1 : Arg) (v402 : Int) : codeK E k fin (sub [1, 1, 0, 1, 0, 0] C) ({ n := 26, sl := [(0, .val (.slc u8) a1.1), (1, .val (.slc u8) a1.2.1), (5, .val i64 v402)], vr := [], lent := [] }) (loopC rec (keepF [0, 1, 5] []) K) = B0 k (S0 rec a1) (X0_0 K a1) a1 v402 := (b0_eq k rec K a1 v402).trans (by rfl)
noncomputable def l0 (k : Nat) (a1 : Arg) (e0 : (Unit) → Option Out) (v : Int) : Option Out := rawIter (fun self v => B0 k self e0 a1 v) k v
theorem l0_eq (k : Nat) (K : Ex → St → Option Out) (a1 : Arg) (v402 : Int) : iterK (codeK E k fin (sub [1, 1, 0, 1, 0, 0] C)) (keepF [0, 1, 5] []) K k ({ n := 26, sl := [(0, .val (.slc u8) a1.1), (1, .val (.slc u8) a1.2.1), (5, .val i64 v402)], vr := [], lent := [] }) = l0 k a1 (X0_0 K a1) v402 :=
  iter_raw _ _ K (fun v402 => ({ n := 26, sl := [(0, .val (.slc u8) a1.1), (1, .val (.slc u8) a1.2.1), (5, .val i64 v402)], vr := [], lent := [] } : St)) (fun self v => B0 k self (X0_0 K a1) a1 v) (fun rec v => B0_eq k rec K a1 v) k v402
noncomputable def q0 (a1 : Arg) (z605 : (Unit)) : Option Out := some (true, ())
noncomputable def Q0 (k : Nat) (a1 : Arg) (z605 : (Unit)) : Option Out := q0 a1 z605
theorem q0_eq (k : Nat) (a1 : Arg) (z605 : (Unit)) : (blockC 0 (seqC (codeK E k fin (sub [1, 1, 1] C)) K0)) (.exit 0) ({ n := 26, sl := [], vr := [], lent := [] }) = q0 a1 z605 := by kernel_rfl
theorem Q0_eq (k : Nat) (a1 : Arg) (z605 : (Unit)) : (blockC 0 (seqC (codeK E k fin (sub [1, 1, 1] C)) K0)) (.exit 0) ({ n := 26, sl := [], vr := [], lent := [] }) = Q0 k a1 z605 := (q0_eq k a1 z605).trans (by rfl)
noncomputable def s0 (k : Nat) (a1 : Arg) : (Int) → Option Out := fun v402 => iterK (codeK E k fin (sub [1, 1, 0, 1, 0, 0] C)) (keepF [0, 1, 5] []) (blockC 0 (seqC (codeK E k fin (sub [1, 1, 1] C)) K0)) k ({ n := 26, sl := [(0, .val (.slc u8) a1.1), (1, .val (.slc u8) a1.2.1), (5, .val i64 v402)], vr := [], lent := [] })
noncomputable def r0 (k : Nat) (a1 : Arg) : (Int) → Option Out := fun v402 => l0 k a1 (fun z => Q0 k a1 z) v402
theorem s0_eq (k : Nat) (a1 : Arg) : s0 k a1 = r0 k a1 := by
  funext v402;
  have h0 : X0_0 ((blockC 0 (seqC (codeK E k fin (sub [1, 1, 1] C)) K0))) a1 = fun z => Q0 k a1 z := funext fun z => Q0_eq k a1 z
  refine (l0_eq k ((blockC 0 (seqC (codeK E k fin (sub [1, 1, 1] C)) K0))) a1 v402).trans ?_
  rw [h0]
  rfl
noncomputable def p (l0 : (Int) → Option Out) (a1 : Arg) : Option Out := bif !decide ((a1.1.length : Int) = (a1.2.1.length : Int)) then (some (false, ())) else l0 (0 : Int)
noncomputable def raw (k : Nat) (a1 : Arg) : Option Out := p (r0 k a1) a1
theorem p_eq (k : Nat) (a1 : Arg) : bodyK E k Go.Proofs.Try.f109 ps rs [] [] a1 = p (s0 k a1) a1 := by kernel_rfl
theorem raw_eq (k : Nat) (a1 : Arg) : bodyK E k Go.Proofs.Try.f109 ps rs [] [] a1 = raw k a1 := (p_eq k a1).trans (by rw [s0_eq]; rfl)
theorem ent : EnterOk Go.Proofs.Try.prog 109 sig.cap := ⟨Go.Proofs.Try.f109, Go.Proofs.Try.func109, by kernel_rfl, by kernel_rfl, by kernel_rfl⟩
theorem env : EnvOk Go.Proofs.Try.prog E := env_ok (tl := [(5, u8), (39, (.slc u8))]) (gl := []) rfl rfl (by kernel_rfl) (by kernel_rfl) (fn_nil _)
theorem chk : funOk Go.Proofs.Try.prog E Go.Proofs.Try.f109 ps rs [] = true := by kernel_rfl
theorem snd : Sound Go.Proofs.Try.prog 109 sig := sound_of_body env Go.Proofs.Try.func109 rfl (es := []) (fr := []) chk (fun _ _ h => lift_some h)
end laws_eqByteS
namespace laws_eqLog
/-! loop example g00408 laws eqLog -/
abbrev Arg : Type := Log × Log × Unit
abbrev Out : Type := Bool × Unit
noncomputable def ps : List (PM × Ty) := [(.ro, tLog), (.ro, tLog)]
noncomputable def rs : List (Ty × Md) := [(.bool, (roMd .bool))]
noncomputable def E : Env := { TI := lookN [(39, (.slc u8)), (41, tLog)], G := lookN [(109, laws_eqByteS.sig)], fz := [], lv := [], lx := [], lf := [], od := [] }
noncomputable def sem (a : Arg) : Option Out := lift fun k => bodyK E k Go.Proofs.Try.f34 ps rs [] [] a
noncomputable def sig : Sig := { ps := ps, rs := rs, F := fun a => sem a }
noncomputable def C : Code := bodyOf Go.Proofs.Try.f34
noncomputable def fin : St → Option Out := outK ps rs [] (Func.results Go.Proofs.Try.f34).toList (mvs [])
noncomputable def K0 : Ex → St → Option Out := endK fin
noncomputable def p (a1 : Arg) : Option Out := (laws_eqByteS.sem (a1.1.1, a1.2.1.1, ())).bind fun r2 => bif !r2.1 then (some (false, ())) else (laws_eqByteS.sem (a1.1.2.1, a1.2.1.2.1, ())).bind fun r3 => bif !r3.1 then (some (false, ())) else some (true, ())
noncomputable def raw (k : Nat) (a1 : Arg) : Option Out := p a1
theorem p_eq (k : Nat) (a1 : Arg) : bodyK E k Go.Proofs.Try.f34 ps rs [] [] a1 = p a1 := by kernel_rfl
theorem raw_eq (k : Nat) (a1 : Arg) : bodyK E k Go.Proofs.Try.f34 ps rs [] [] a1 = raw k a1 := (p_eq k a1).trans (by rfl)
theorem ent : EnterOk Go.Proofs.Try.prog 34 sig.cap := ⟨Go.Proofs.Try.f34, Go.Proofs.Try.func34, by kernel_rfl, by kernel_rfl, by kernel_rfl⟩
theorem env : EnvOk Go.Proofs.Try.prog E := env_ok (tl := [(39, (.slc u8)), (41, tLog)]) (gl := [(109, laws_eqByteS.sig)]) rfl rfl (by kernel_rfl) (by kernel_rfl) (fn_cons laws_eqByteS.snd laws_eqByteS.ent (fn_nil _))
theorem chk : funOk Go.Proofs.Try.prog E Go.Proofs.Try.f34 ps rs [] = true := by kernel_rfl
theorem snd : Sound Go.Proofs.Try.prog 34 sig := sound_of_body env Go.Proofs.Try.func34 rfl (es := []) (fr := []) chk (fun _ _ h => lift_some h)
end laws_eqLog
namespace laws_markByteS
/-! loop example g00408 laws markByteS -/
abbrev Arg : Type := (List UInt8) × Int × Unit
abbrev Out : Type := Int × (List UInt8) × Unit
noncomputable def ps : List (PM × Ty) := [(.muts (ownMd (.slc u8)), (.slc u8)), (.ro, i64)]
noncomputable def rs : List (Ty × Md) := [(i64, (roMd i64))]
noncomputable def E : Env := { TI := lookN [(3, i64), (5, u8), (39, (.slc u8))], G := lookN [], fz := [], lv := [(2, [0, 1, 5])], lx := [(0, [0, 1])], lf := [], od := [] }
noncomputable def sem (a : Arg) : Option Out := lift fun k => bodyK E k Go.Proofs.Try.f111 ps rs [0] [] a
noncomputable def sig : Sig := { ps := ps, rs := rs, F := fun a => sem a }
noncomputable def C : Code := bodyOf Go.Proofs.Try.f111
noncomputable def fin : St → Option Out := outK ps rs [0] (Func.results Go.Proofs.Try.f111).toList (mvs [])
noncomputable def K0 : Ex → St → Option Out := endK fin
noncomputable def S0 (rec : St → Option Out) (a1 : Arg) : ((List UInt8) × Int × Int) → Option Out := fun v402 => rec ({ n := 20, sl := [(0, .own (.slc u8) (ownMd (.slc u8)) [] v402.1), (1, .val i64 v402.2.1), (5, .val i64 v402.2.2)], vr := [], lent := [(0, 0, true)] })
noncomputable def X0_0 (K : Ex → St → Option Out) (a1 : Arg) : ((List UInt8) × Int) → Option Out := fun z => K (.exit 0) ({ n := 20, sl := [(0, .own (.slc u8) (ownMd (.slc u8)) [] z.1), (1, .val i64 z.2)], vr := [], lent := [(0, 0, true)] })
noncomputable def b0 (self : ((List UInt8) × Int × Int) → Option Out) (e0 : ((List UInt8) × Int) → Option Out) (a1 : Arg) (v402 : (List UInt8) × Int × Int) : Option Out := bif decide (v402.2.2 < (v402.1.length : Int)) then (if 0 ≤ v402.2.2 ∧ v402.2.2 < (v402.1.length : Int) then ((v402.1[v402.2.2.toNat]?).bind fun x603 => let y604 := v402.1.set v402.2.2.toNat (UInt8.ofInt v402.2.1); self (y604, w64 (v402.2.1 + (1 : Int)), w64 (v402.2.2 + (1 : Int)))) else none) else e0 (v402.1, v402.2.1)
noncomputable def B0 (k : Nat) (self : ((List UInt8) × Int × Int) → Option Out) (e0 : ((List UInt8) × Int) → Option Out) (a1 : Arg) (v402 : (List UInt8) × Int × Int) : Option Out := b0 self e0 a1 v402
theorem b0_eq (k : Nat) (rec : St → Option Out) (K : Ex → St → Option Out) (a1 : Arg) (v402 : (List UInt8) × Int × Int) : codeK E k fin (sub [1, 0, 1, 0, 0] C) ({ n := 20, sl := [(0, .own (.slc u8) (ownMd (.slc u8)) [] v402.1), (1, .val i64 v402.2.1), (5, .val i64 v402.2.2)], vr := [], lent := [(0, 0, true)] }) (loopC rec (keepF [0, 1, 5] []) K) = b0 (S0 rec a1) (X0_0 K a1) a1 v402 := by kernel_rfl
theorem B0_eq (k : Nat) (rec : St → Option Out) (K : Ex → St → Option Out) (a1 : Arg) (v402 : (List UInt8) × Int × Int) : codeK E k fin (sub [1, 0, 1, 0, 0] C) ({ n := 20, sl := [(0, .own (.slc u8) (ownMd (.slc u8)) [] v402.1), (1, .val i64 v402.2.1), (5, .val i64 v402.2.2)], vr := [], lent := [(0, 0, true)] }) (loopC rec (keepF [0, 1, 5] []) K) = B0 k (S0 rec a1) (X0_0 K a1) a1 v402 := (b0_eq k rec K a1 v402).trans (by rfl)
noncomputable def l0 (k : Nat) (a1 : Arg) (e0 : ((List UInt8) × Int) → Option Out) (v : (List UInt8) × Int × Int) : Option Out := rawIter (fun self v => B0 k self e0 a1 v) k v
theorem l0_eq (k : Nat) (K : Ex → St → Option Out) (a1 : Arg) (v402 : (List UInt8) × Int × Int) : iterK (codeK E k fin (sub [1, 0, 1, 0, 0] C)) (keepF [0, 1, 5] []) K k ({ n := 20, sl := [(0, .own (.slc u8) (ownMd (.slc u8)) [] v402.1), (1, .val i64 v402.2.1), (5, .val i64 v402.2.2)], vr := [], lent := [(0, 0, true)] }) = l0 k a1 (X0_0 K a1) v402 :=
  iter_raw _ _ K (fun v402 => ({ n := 20, sl := [(0, .own (.slc u8) (ownMd (.slc u8)) [] v402.1), (1, .val i64 v402.2.1), (5, .val i64 v402.2.2)], vr := [], lent := [(0, 0, true)] } : St)) (fun self v => B0 k self (X0_0 K a1) a1 v) (fun rec v => B0_eq k rec K a1 v) k v402
noncomputable def q0 (a1 : Arg) (z605 : ((List UInt8) × Int)) : Option Out := some (z605.2, z605.1, ())
noncomputable def Q0 (k : Nat) (a1 : Arg) (z605 : ((List UInt8) × Int)) : Option Out := q0 a1 z605
theorem q0_eq (k : Nat) (a1 : Arg) (z605 : ((List UInt8) × Int)) : (blockC 0 (seqC (codeK E k fin (sub [1, 1] C)) K0)) (.exit 0) ({ n := 20, sl := [(0, .own (.slc u8) (ownMd (.slc u8)) [] z605.1), (1, .val i64 z605.2)], vr := [], lent := [(0, 0, true)] }) = q0 a1 z605 := by kernel_rfl
theorem Q0_eq (k : Nat) (a1 : Arg) (z605 : ((List UInt8) × Int)) : (blockC 0 (seqC (codeK E k fin (sub [1, 1] C)) K0)) (.exit 0) ({ n := 20, sl := [(0, .own (.slc u8) (ownMd (.slc u8)) [] z605.1), (1, .val i64 z605.2)], vr := [], lent := [(0, 0, true)] }) = Q0 k a1 z605 := (q0_eq k a1 z605).trans (by rfl)
noncomputable def s0 (k : Nat) (a1 : Arg) : ((List UInt8) × Int × Int) → Option Out := fun v402 => iterK (codeK E k fin (sub [1, 0, 1, 0, 0] C)) (keepF [0, 1, 5] []) (blockC 0 (seqC (codeK E k fin (sub [1, 1] C)) K0)) k ({ n := 20, sl := [(0, .own (.slc u8) (ownMd (.slc u8)) [] v402.1), (1, .val i64 v402.2.1), (5, .val i64 v402.2.2)], vr := [], lent := [(0, 0, true)] })
noncomputable def r0 (k : Nat) (a1 : Arg) : ((List UInt8) × Int × Int) → Option Out := fun v402 => l0 k a1 (fun z => Q0 k a1 z) v402
theorem s0_eq (k : Nat) (a1 : Arg) : s0 k a1 = r0 k a1 := by
  funext v402;
  have h0 : X0_0 ((blockC 0 (seqC (codeK E k fin (sub [1, 1] C)) K0))) a1 = fun z => Q0 k a1 z := funext fun z => Q0_eq k a1 z
  refine (l0_eq k ((blockC 0 (seqC (codeK E k fin (sub [1, 1] C)) K0))) a1 v402).trans ?_
  rw [h0]
  rfl
noncomputable def p (l0 : ((List UInt8) × Int × Int) → Option Out) (a1 : Arg) : Option Out := l0 (a1.1, a1.2.1, (0 : Int))
noncomputable def raw (k : Nat) (a1 : Arg) : Option Out := p (r0 k a1) a1
theorem p_eq (k : Nat) (a1 : Arg) : bodyK E k Go.Proofs.Try.f111 ps rs [0] [] a1 = p (s0 k a1) a1 := by kernel_rfl
theorem raw_eq (k : Nat) (a1 : Arg) : bodyK E k Go.Proofs.Try.f111 ps rs [0] [] a1 = raw k a1 := (p_eq k a1).trans (by rw [s0_eq]; rfl)
theorem ent : EnterOk Go.Proofs.Try.prog 111 sig.cap := ⟨Go.Proofs.Try.f111, Go.Proofs.Try.func111, by kernel_rfl, by kernel_rfl, by kernel_rfl⟩
theorem env : EnvOk Go.Proofs.Try.prog E := env_ok (tl := [(3, i64), (5, u8), (39, (.slc u8))]) (gl := []) rfl rfl (by kernel_rfl) (by kernel_rfl) (fn_nil _)
theorem chk : funOk Go.Proofs.Try.prog E Go.Proofs.Try.f111 ps rs [0] = true := by kernel_rfl
theorem snd : Sound Go.Proofs.Try.prog 111 sig := sound_of_body env Go.Proofs.Try.func111 rfl (es := [0]) (fr := []) chk (fun _ _ h => lift_some h)
end laws_markByteS
namespace laws_markLog
/-! loop example g00408 laws markLog -/
abbrev Arg : Type := Log × Int × Unit
abbrev Out : Type := Int × Log × Unit
noncomputable def ps : List (PM × Ty) := [(.muts (ownMd tLog), tLog), (.ro, i64)]
noncomputable def rs : List (Ty × Md) := [(i64, (roMd i64))]
noncomputable def E : Env := { TI := lookN [(39, (.slc u8)), (41, tLog)], G := lookN [(111, laws_markByteS.sig)], fz := [], lv := [], lx := [], lf := [], od := [] }
noncomputable def sem (a : Arg) : Option Out := lift fun k => bodyK E k Go.Proofs.Try.f36 ps rs [2] [] a
noncomputable def sig : Sig := { ps := ps, rs := rs, F := fun a => sem a }
noncomputable def C : Code := bodyOf Go.Proofs.Try.f36
noncomputable def fin : St → Option Out := outK ps rs [2] (Func.results Go.Proofs.Try.f36).toList (mvs [])
noncomputable def K0 : Ex → St → Option Out := endK fin
noncomputable def p (a1 : Arg) : Option Out := (laws_markByteS.sem (a1.1.1, a1.2.1, ())).bind fun r2 => (laws_markByteS.sem (a1.1.2.1, r2.1, ())).bind fun r3 => some (r3.1, (r2.2.1, r3.2.1, a1.1.2.2), ())
noncomputable def raw (k : Nat) (a1 : Arg) : Option Out := p a1
theorem p_eq (k : Nat) (a1 : Arg) : bodyK E k Go.Proofs.Try.f36 ps rs [2] [] a1 = p a1 := by kernel_rfl
theorem raw_eq (k : Nat) (a1 : Arg) : bodyK E k Go.Proofs.Try.f36 ps rs [2] [] a1 = raw k a1 := (p_eq k a1).trans (by rfl)
theorem ent : EnterOk Go.Proofs.Try.prog 36 sig.cap := ⟨Go.Proofs.Try.f36, Go.Proofs.Try.func36, by kernel_rfl, by kernel_rfl, by kernel_rfl⟩
theorem env : EnvOk Go.Proofs.Try.prog E := env_ok (tl := [(39, (.slc u8)), (41, tLog)]) (gl := [(111, laws_markByteS.sig)]) rfl rfl (by kernel_rfl) (by kernel_rfl) (fn_cons laws_markByteS.snd laws_markByteS.ent (fn_nil _))
theorem chk : funOk Go.Proofs.Try.prog E Go.Proofs.Try.f36 ps rs [2] = true := by kernel_rfl
theorem snd : Sound Go.Proofs.Try.prog 36 sig := sound_of_body env Go.Proofs.Try.func36 rfl (es := [2]) (fr := []) chk (fun _ _ h => lift_some h)
end laws_markLog
namespace laws_heldByteS
/-! loop example g00408 laws heldByteS -/
abbrev Arg : Type := (List UInt8) × Int × Unit
abbrev Out : Type := Int × Unit
noncomputable def ps : List (PM × Ty) := [(.ro, (.slc u8)), (.ro, i64)]
noncomputable def rs : List (Ty × Md) := [(i64, (roMd i64))]
noncomputable def E : Env := { TI := lookN [(3, i64), (5, u8), (39, (.slc u8))], G := lookN [], fz := [], lv := [(2, [0, 1, 5])], lx := [(0, [1])], lf := [], od := [] }
noncomputable def sem (a : Arg) : Option Out := lift fun k => bodyK E k Go.Proofs.Try.f193 ps rs [] [] a
noncomputable def sig : Sig := { ps := ps, rs := rs, F := fun a => sem a }
noncomputable def C : Code := bodyOf Go.Proofs.Try.f193
noncomputable def fin : St → Option Out := outK ps rs [] (Func.results Go.Proofs.Try.f193).toList (mvs [])
noncomputable def K0 : Ex → St → Option Out := endK fin
noncomputable def S0 (rec : St → Option Out) (a1 : Arg) : (Int × Int) → Option Out := fun v402 => rec ({ n := 22, sl := [(0, .val (.slc u8) a1.1), (1, .val i64 v402.1), (5, .val i64 v402.2)], vr := [], lent := [] })
noncomputable def X0_0 (K : Ex → St → Option Out) (a1 : Arg) : Int → Option Out := fun z => K (.exit 0) ({ n := 22, sl := [(1, .val i64 z)], vr := [], lent := [] })
noncomputable def b0 (self : (Int × Int) → Option Out) (e0 : Int → Option Out) (a1 : Arg) (v402 : Int × Int) : Option Out := bif decide (v402.2 < (a1.1.length : Int)) then (if 0 ≤ v402.2 then ((a1.1[v402.2.toNat]?).bind fun x603 => bif !decide ((x603.toNat : Int) = ((UInt8.ofInt v402.1).toNat : Int)) then (some ((-1 : Int), ())) else self (w64 (v402.1 + (1 : Int)), w64 (v402.2 + (1 : Int)))) else none) else e0 v402.1
noncomputable def B0 (k : Nat) (self : (Int × Int) → Option Out) (e0 : Int → Option Out) (a1 : Arg) (v402 : Int × Int) : Option Out := b0 self e0 a1 v402
theorem b0_eq (k : Nat) (rec : St → Option Out) (K : Ex → St → Option Out) (a1 : Arg) (v402 : Int × Int) : codeK E k fin (sub [1, 0, 1, 0, 0] C) ({ n := 22, sl := [(0, .val (.slc u8) a1.1), (1, .val i64 v402.1), (5, .val i64 v402.2)], vr := [], lent := [] }) (loopC rec (keepF [0, 1, 5] []) K) = b0 (S0 rec a1) (X0_0 K a1) a1 v402 := by kernel_rfl
theorem B0_eq (k : Nat) (rec : St → Option Out) (K : Ex → St → Option Out) (a1 : Arg) (v402 : Int × Int) : codeK E k fin (sub [1, 0, 1, 0, 0] C) ({ n := 22, sl := [(0, .val (.slc u8) a1.1), (1, .val i64 v402.1), (5, .val i64 v402.2)], vr := [], lent := [] }) (loopC rec (keepF [0, 1, 5] []) K) = B0 k (S0 rec a1) (X0_0 K a1) a1 v402 := (b0_eq k rec K a1 v402).trans (by rfl)
noncomputable def l0 (k : Nat) (a1 : Arg) (e0 : Int → Option Out) (v : Int × Int) : Option Out := rawIter (fun self v => B0 k self e0 a1 v) k v
theorem l0_eq (k : Nat) (K : Ex → St → Option Out) (a1 : Arg) (v402 : Int × Int) : iterK (codeK E k fin (sub [1, 0, 1, 0, 0] C)) (keepF [0, 1, 5] []) K k ({ n := 22, sl := [(0, .val (.slc u8) a1.1), (1, .val i64 v402.1), (5, .val i64 v402.2)], vr := [], lent := [] }) = l0 k a1 (X0_0 K a1) v402 :=
  iter_raw _ _ K (fun v402 => ({ n := 22, sl := [(0, .val (.slc u8) a1.1), (1, .val i64 v402.1), (5, .val i64 v402.2)], vr := [], lent := [] } : St)) (fun self v => B0 k self (X0_0 K a1) a1 v) (fun rec v => B0_eq k rec K a1 v) k v402
noncomputable def q0 (a1 : Arg) (z604 : Int) : Option Out := some (z604, ())
noncomputable def Q0 (k : Nat) (a1 : Arg) (z604 : Int) : Option Out := q0 a1 z604
theorem q0_eq (k : Nat) (a1 : Arg) (z604 : Int) : (blockC 0 (seqC (codeK E k fin (sub [1, 1] C)) K0)) (.exit 0) ({ n := 22, sl := [(1, .val i64 z604)], vr := [], lent := [] }) = q0 a1 z604 := by kernel_rfl
theorem Q0_eq (k : Nat) (a1 : Arg) (z604 : Int) : (blockC 0 (seqC (codeK E k fin (sub [1, 1] C)) K0)) (.exit 0) ({ n := 22, sl := [(1, .val i64 z604)], vr := [], lent := [] }) = Q0 k a1 z604 := (q0_eq k a1 z604).trans (by rfl)
noncomputable def s0 (k : Nat) (a1 : Arg) : (Int × Int) → Option Out := fun v402 => iterK (codeK E k fin (sub [1, 0, 1, 0, 0] C)) (keepF [0, 1, 5] []) (blockC 0 (seqC (codeK E k fin (sub [1, 1] C)) K0)) k ({ n := 22, sl := [(0, .val (.slc u8) a1.1), (1, .val i64 v402.1), (5, .val i64 v402.2)], vr := [], lent := [] })
noncomputable def r0 (k : Nat) (a1 : Arg) : (Int × Int) → Option Out := fun v402 => l0 k a1 (fun z => Q0 k a1 z) v402
theorem s0_eq (k : Nat) (a1 : Arg) : s0 k a1 = r0 k a1 := by
  funext v402;
  have h0 : X0_0 ((blockC 0 (seqC (codeK E k fin (sub [1, 1] C)) K0))) a1 = fun z => Q0 k a1 z := funext fun z => Q0_eq k a1 z
  refine (l0_eq k ((blockC 0 (seqC (codeK E k fin (sub [1, 1] C)) K0))) a1 v402).trans ?_
  rw [h0]
  rfl
noncomputable def p (l0 : (Int × Int) → Option Out) (a1 : Arg) : Option Out := l0 (a1.2.1, (0 : Int))
noncomputable def raw (k : Nat) (a1 : Arg) : Option Out := p (r0 k a1) a1
theorem p_eq (k : Nat) (a1 : Arg) : bodyK E k Go.Proofs.Try.f193 ps rs [] [] a1 = p (s0 k a1) a1 := by kernel_rfl
theorem raw_eq (k : Nat) (a1 : Arg) : bodyK E k Go.Proofs.Try.f193 ps rs [] [] a1 = raw k a1 := (p_eq k a1).trans (by rw [s0_eq]; rfl)
theorem ent : EnterOk Go.Proofs.Try.prog 193 sig.cap := ⟨Go.Proofs.Try.f193, Go.Proofs.Try.func193, by kernel_rfl, by kernel_rfl, by kernel_rfl⟩
theorem env : EnvOk Go.Proofs.Try.prog E := env_ok (tl := [(3, i64), (5, u8), (39, (.slc u8))]) (gl := []) rfl rfl (by kernel_rfl) (by kernel_rfl) (fn_nil _)
theorem chk : funOk Go.Proofs.Try.prog E Go.Proofs.Try.f193 ps rs [] = true := by kernel_rfl
theorem snd : Sound Go.Proofs.Try.prog 193 sig := sound_of_body env Go.Proofs.Try.func193 rfl (es := []) (fr := []) chk (fun _ _ h => lift_some h)
end laws_heldByteS
namespace laws_heldLog
/-! loop example g00408 laws heldLog -/
abbrev Arg : Type := Log × Int × Unit
abbrev Out : Type := Int × Unit
noncomputable def ps : List (PM × Ty) := [(.ro, tLog), (.ro, i64)]
noncomputable def rs : List (Ty × Md) := [(i64, (roMd i64))]
noncomputable def E : Env := { TI := lookN [(39, (.slc u8)), (41, tLog)], G := lookN [(193, laws_heldByteS.sig)], fz := [], lv := [], lx := [], lf := [], od := [] }
noncomputable def sem (a : Arg) : Option Out := lift fun k => bodyK E k Go.Proofs.Try.f113 ps rs [] [] a
noncomputable def sig : Sig := { ps := ps, rs := rs, F := fun a => sem a }
noncomputable def C : Code := bodyOf Go.Proofs.Try.f113
noncomputable def fin : St → Option Out := outK ps rs [] (Func.results Go.Proofs.Try.f113).toList (mvs [])
noncomputable def K0 : Ex → St → Option Out := endK fin
noncomputable def p (a1 : Arg) : Option Out := (laws_heldByteS.sem (a1.1.1, a1.2.1, ())).bind fun r2 => bif decide (r2.1 < (0 : Int)) then (some ((-1 : Int), ())) else (laws_heldByteS.sem (a1.1.2.1, r2.1, ())).bind fun r3 => bif decide (r3.1 < (0 : Int)) then (some ((-1 : Int), ())) else some (r3.1, ())
noncomputable def raw (k : Nat) (a1 : Arg) : Option Out := p a1
theorem p_eq (k : Nat) (a1 : Arg) : bodyK E k Go.Proofs.Try.f113 ps rs [] [] a1 = p a1 := by kernel_rfl
theorem raw_eq (k : Nat) (a1 : Arg) : bodyK E k Go.Proofs.Try.f113 ps rs [] [] a1 = raw k a1 := (p_eq k a1).trans (by rfl)
theorem ent : EnterOk Go.Proofs.Try.prog 113 sig.cap := ⟨Go.Proofs.Try.f113, Go.Proofs.Try.func113, by kernel_rfl, by kernel_rfl, by kernel_rfl⟩
theorem env : EnvOk Go.Proofs.Try.prog E := env_ok (tl := [(39, (.slc u8)), (41, tLog)]) (gl := [(193, laws_heldByteS.sig)]) rfl rfl (by kernel_rfl) (by kernel_rfl) (fn_cons laws_heldByteS.snd laws_heldByteS.ent (fn_nil _))
theorem chk : funOk Go.Proofs.Try.prog E Go.Proofs.Try.f113 ps rs [] = true := by kernel_rfl
theorem snd : Sound Go.Proofs.Try.prog 113 sig := sound_of_body env Go.Proofs.Try.func113 rfl (es := []) (fr := []) chk (fun _ _ h => lift_some h)
end laws_heldLog
namespace laws_szByteS
/-! loop example g00408 laws szByteS -/
abbrev Arg : Type := (List UInt8) × Int × Unit
abbrev Out : Type := Int × Unit
noncomputable def ps : List (PM × Ty) := [(.ro, (.slc u8)), (.ro, i64)]
noncomputable def rs : List (Ty × Md) := [(i64, (roMd i64))]
noncomputable def E : Env := { TI := lookN [(39, (.slc u8))], G := lookN [], fz := [], lv := [], lx := [], lf := [], od := [] }
noncomputable def sem (a : Arg) : Option Out := lift fun k => bodyK E k Go.Proofs.Try.f98 ps rs [] [] a
noncomputable def sig : Sig := { ps := ps, rs := rs, F := fun a => sem a }
noncomputable def C : Code := bodyOf Go.Proofs.Try.f98
noncomputable def fin : St → Option Out := outK ps rs [] (Func.results Go.Proofs.Try.f98).toList (mvs [])
noncomputable def K0 : Ex → St → Option Out := endK fin
noncomputable def p (a1 : Arg) : Option Out := bif decide (w64 (a1.2.1 - (a1.1.length : Int)) < (0 : Int)) then (some ((-1 : Int), ())) else some (w64 (a1.2.1 - (a1.1.length : Int)), ())
noncomputable def raw (k : Nat) (a1 : Arg) : Option Out := p a1
theorem p_eq (k : Nat) (a1 : Arg) : bodyK E k Go.Proofs.Try.f98 ps rs [] [] a1 = p a1 := by kernel_rfl
theorem raw_eq (k : Nat) (a1 : Arg) : bodyK E k Go.Proofs.Try.f98 ps rs [] [] a1 = raw k a1 := (p_eq k a1).trans (by rfl)
theorem ent : EnterOk Go.Proofs.Try.prog 98 sig.cap := ⟨Go.Proofs.Try.f98, Go.Proofs.Try.func98, by kernel_rfl, by kernel_rfl, by kernel_rfl⟩
theorem env : EnvOk Go.Proofs.Try.prog E := env_ok (tl := [(39, (.slc u8))]) (gl := []) rfl rfl (by kernel_rfl) (by kernel_rfl) (fn_nil _)
theorem chk : funOk Go.Proofs.Try.prog E Go.Proofs.Try.f98 ps rs [] = true := by kernel_rfl
theorem snd : Sound Go.Proofs.Try.prog 98 sig := sound_of_body env Go.Proofs.Try.func98 rfl (es := []) (fr := []) chk (fun _ _ h => lift_some h)
end laws_szByteS
namespace laws_szLog
/-! loop example g00408 laws szLog -/
abbrev Arg : Type := Log × Int × Unit
abbrev Out : Type := Int × Unit
noncomputable def ps : List (PM × Ty) := [(.ro, tLog), (.ro, i64)]
noncomputable def rs : List (Ty × Md) := [(i64, (roMd i64))]
noncomputable def E : Env := { TI := lookN [(39, (.slc u8)), (49, tLog)], G := lookN [(98, laws_szByteS.sig)], fz := [], lv := [], lx := [], lf := [], od := [] }
noncomputable def sem (a : Arg) : Option Out := lift fun k => bodyK E k Go.Proofs.Try.f27 ps rs [] [] a
noncomputable def sig : Sig := { ps := ps, rs := rs, F := fun a => sem a }
noncomputable def C : Code := bodyOf Go.Proofs.Try.f27
noncomputable def fin : St → Option Out := outK ps rs [] (Func.results Go.Proofs.Try.f27).toList (mvs [])
noncomputable def K0 : Ex → St → Option Out := endK fin
noncomputable def p (a1 : Arg) : Option Out := (laws_szByteS.sem (a1.1.1, a1.2.1, ())).bind fun r2 => bif decide (r2.1 < (0 : Int)) then (some ((-1 : Int), ())) else (laws_szByteS.sem (a1.1.2.1, r2.1, ())).bind fun r3 => bif decide (r3.1 < (0 : Int)) then (some ((-1 : Int), ())) else some (r3.1, ())
noncomputable def raw (k : Nat) (a1 : Arg) : Option Out := p a1
theorem p_eq (k : Nat) (a1 : Arg) : bodyK E k Go.Proofs.Try.f27 ps rs [] [] a1 = p a1 := by kernel_rfl
theorem raw_eq (k : Nat) (a1 : Arg) : bodyK E k Go.Proofs.Try.f27 ps rs [] [] a1 = raw k a1 := (p_eq k a1).trans (by rfl)
theorem ent : EnterOk Go.Proofs.Try.prog 27 sig.cap := ⟨Go.Proofs.Try.f27, Go.Proofs.Try.func27, by kernel_rfl, by kernel_rfl, by kernel_rfl⟩
theorem env : EnvOk Go.Proofs.Try.prog E := env_ok (tl := [(39, (.slc u8)), (49, tLog)]) (gl := [(98, laws_szByteS.sig)]) rfl rfl (by kernel_rfl) (by kernel_rfl) (fn_cons laws_szByteS.snd laws_szByteS.ent (fn_nil _))
theorem chk : funOk Go.Proofs.Try.prog E Go.Proofs.Try.f27 ps rs [] = true := by kernel_rfl
theorem snd : Sound Go.Proofs.Try.prog 27 sig := sound_of_body env Go.Proofs.Try.func27 rfl (es := []) (fr := []) chk (fun _ _ h => lift_some h)
end laws_szLog
namespace laws_szRun
/-! loop example g00408 laws szRun -/
abbrev Arg : Type := Run × Int × Unit
abbrev Out : Type := Int × Unit
noncomputable def ps : List (PM × Ty) := [(.ro, tRun), (.ro, i64)]
noncomputable def rs : List (Ty × Md) := [(i64, (roMd i64))]
noncomputable def E : Env := { TI := lookN [(39, (.slc u8)), (234, tRun)], G := lookN [(98, laws_szByteS.sig)], fz := [], lv := [], lx := [], lf := [], od := [] }
noncomputable def sem (a : Arg) : Option Out := lift fun k => bodyK E k Go.Proofs.Try.f181 ps rs [] [] a
noncomputable def sig : Sig := { ps := ps, rs := rs, F := fun a => sem a }
noncomputable def C : Code := bodyOf Go.Proofs.Try.f181
noncomputable def fin : St → Option Out := outK ps rs [] (Func.results Go.Proofs.Try.f181).toList (mvs [])
noncomputable def K0 : Ex → St → Option Out := endK fin
noncomputable def p (a1 : Arg) : Option Out := (laws_szByteS.sem (a1.1.2.1, a1.2.1, ())).bind fun r2 => bif decide (r2.1 < (0 : Int)) then (some ((-1 : Int), ())) else some (r2.1, ())
noncomputable def raw (k : Nat) (a1 : Arg) : Option Out := p a1
theorem p_eq (k : Nat) (a1 : Arg) : bodyK E k Go.Proofs.Try.f181 ps rs [] [] a1 = p a1 := by kernel_rfl
theorem raw_eq (k : Nat) (a1 : Arg) : bodyK E k Go.Proofs.Try.f181 ps rs [] [] a1 = raw k a1 := (p_eq k a1).trans (by rfl)
theorem ent : EnterOk Go.Proofs.Try.prog 181 sig.cap := ⟨Go.Proofs.Try.f181, Go.Proofs.Try.func181, by kernel_rfl, by kernel_rfl, by kernel_rfl⟩
theorem env : EnvOk Go.Proofs.Try.prog E := env_ok (tl := [(39, (.slc u8)), (234, tRun)]) (gl := [(98, laws_szByteS.sig)]) rfl rfl (by kernel_rfl) (by kernel_rfl) (fn_cons laws_szByteS.snd laws_szByteS.ent (fn_nil _))
theorem chk : funOk Go.Proofs.Try.prog E Go.Proofs.Try.f181 ps rs [] = true := by kernel_rfl
theorem snd : Sound Go.Proofs.Try.prog 181 sig := sound_of_body env Go.Proofs.Try.func181 rfl (es := []) (fr := []) chk (fun _ _ h => lift_some h)
end laws_szRun
namespace laws_szRunS
/-! loop example g00408 laws szRunS -/
abbrev Arg : Type := (List Run) × Int × Unit
abbrev Out : Type := Int × Unit
noncomputable def ps : List (PM × Ty) := [(.ro, (.slc tRun)), (.ro, i64)]
noncomputable def rs : List (Ty × Md) := [(i64, (roMd i64))]
noncomputable def E : Env := { TI := lookN [(50, (.slc tRun)), (234, tRun)], G := lookN [(181, laws_szRun.sig)], fz := [], lv := [(5, [0, 1, 5])], lx := [(0, [1])], lf := [], od := [] }
noncomputable def sem (a : Arg) : Option Out := lift fun k => bodyK E k Go.Proofs.Try.f99 ps rs [] [] a
noncomputable def sig : Sig := { ps := ps, rs := rs, F := fun a => sem a }
noncomputable def C : Code := bodyOf Go.Proofs.Try.f99
noncomputable def fin : St → Option Out := outK ps rs [] (Func.results Go.Proofs.Try.f99).toList (mvs [])
noncomputable def K0 : Ex → St → Option Out := endK fin
noncomputable def S0 (rec : St → Option Out) (a1 : Arg) : (Int × Int) → Option Out := fun v402 => rec ({ n := 27, sl := [(0, .val (.slc tRun) a1.1), (1, .val i64 v402.1), (5, .val i64 v402.2)], vr := [], lent := [] })
noncomputable def X0_0 (K : Ex → St → Option Out) (a1 : Arg) : Int → Option Out := fun z => K (.exit 0) ({ n := 27, sl := [(1, .val i64 z)], vr := [], lent := [] })
noncomputable def b0 (self : (Int × Int) → Option Out) (e0 : Int → Option Out) (a1 : Arg) (v402 : Int × Int) : Option Out := bif decide (v402.2 < (a1.1.length : Int)) then (if 0 ≤ v402.2 then ((a1.1[v402.2.toNat]?).bind fun x603 => (laws_szRun.sem (x603, v402.1, ())).bind fun r604 => bif decide (r604.1 < (0 : Int)) then (some ((-1 : Int), ())) else self (r604.1, w64 (v402.2 + (1 : Int)))) else none) else e0 v402.1
noncomputable def B0 (k : Nat) (self : (Int × Int) → Option Out) (e0 : Int → Option Out) (a1 : Arg) (v402 : Int × Int) : Option Out := b0 self e0 a1 v402
theorem b0_eq (k : Nat) (rec : St → Option Out) (K : Ex → St → Option Out) (a1 : Arg) (v402 : Int × Int) : codeK E k fin (sub [1, 1, 1, 0, 1, 0, 0] C) ({ n := 27, sl := [(0, .val (.slc tRun) a1.1), (1, .val i64 v402.1), (5, .val i64 v402.2)], vr := [], lent := [] }) (loopC rec (keepF [0, 1, 5] []) K) = b0 (S0 rec a1) (X0_0 K a1) a1 v402 := by kernel_rfl
theorem B0_eq (k : Nat) (rec : St → Option Out) (K : Ex → St → Option Out) (a1 : Arg) (v402 : Int × Int) : codeK E k fin (sub [1, 1, 1, 0, 1, 0, 0] C) ({ n := 27, sl := [(0, .val (.slc tRun) a1.1), (1, .val i64 v402.1), (5, .val i64 v402.2)], vr := [], lent := [] }) (loopC rec (keepF [0, 1, 5] []) K) = B0 k (S0 rec a1) (X0_0 K a1) a1 v402 := (b0_eq k rec K a1 v402).trans (by rfl)
noncomputable def l0 (k : Nat) (a1 : Arg) (e0 : Int → Option Out) (v : Int × Int) : Option Out := rawIter (fun self v => B0 k self e0 a1 v) k v
theorem l0_eq (k : Nat) (K : Ex → St → Option Out) (a1 : Arg) (v402 : Int × Int) : iterK (codeK E k fin (sub [1, 1, 1, 0, 1, 0, 0] C)) (keepF [0, 1, 5] []) K k ({ n := 27, sl := [(0, .val (.slc tRun) a1.1), (1, .val i64 v402.1), (5, .val i64 v402.2)], vr := [], lent := [] }) = l0 k a1 (X0_0 K a1) v402 :=
  iter_raw _ _ K (fun v402 => ({ n := 27, sl := [(0, .val (.slc tRun) a1.1), (1, .val i64 v402.1), (5, .val i64 v402.2)], vr := [], lent := [] } : St)) (fun self v => B0 k self (X0_0 K a1) a1 v) (fun rec v => B0_eq k rec K a1 v) k v402
noncomputable def q0 (a1 : Arg) (z605 : Int) : Option Out := some (z605, ())
noncomputable def Q0 (k : Nat) (a1 : Arg) (z605 : Int) : Option Out := q0 a1 z605
theorem q0_eq (k : Nat) (a1 : Arg) (z605 : Int) : (blockC 0 (seqC (codeK E k fin (sub [1, 1, 1, 1] C)) K0)) (.exit 0) ({ n := 27, sl := [(1, .val i64 z605)], vr := [], lent := [] }) = q0 a1 z605 := by kernel_rfl
theorem Q0_eq (k : Nat) (a1 : Arg) (z605 : Int) : (blockC 0 (seqC (codeK E k fin (sub [1, 1, 1, 1] C)) K0)) (.exit 0) ({ n := 27, sl := [(1, .val i64 z605)], vr := [], lent := [] }) = Q0 k a1 z605 := (q0_eq k a1 z605).trans (by rfl)
noncomputable def s0 (k : Nat) (a1 : Arg) : (Int × Int) → Option Out := fun v402 => iterK (codeK E k fin (sub [1, 1, 1, 0, 1, 0, 0] C)) (keepF [0, 1, 5] []) (blockC 0 (seqC (codeK E k fin (sub [1, 1, 1, 1] C)) K0)) k ({ n := 27, sl := [(0, .val (.slc tRun) a1.1), (1, .val i64 v402.1), (5, .val i64 v402.2)], vr := [], lent := [] })
noncomputable def r0 (k : Nat) (a1 : Arg) : (Int × Int) → Option Out := fun v402 => l0 k a1 (fun z => Q0 k a1 z) v402
theorem s0_eq (k : Nat) (a1 : Arg) : s0 k a1 = r0 k a1 := by
  funext v402;
  have h0 : X0_0 ((blockC 0 (seqC (codeK E k fin (sub [1, 1, 1, 1] C)) K0))) a1 = fun z => Q0 k a1 z := funext fun z => Q0_eq k a1 z
  refine (l0_eq k ((blockC 0 (seqC (codeK E k fin (sub [1, 1, 1, 1] C)) K0))) a1 v402).trans ?_
  rw [h0]
  rfl
noncomputable def p (l0 : (Int × Int) → Option Out) (a1 : Arg) : Option Out := bif decide (w64 (a1.2.1 - (a1.1.length : Int)) < (0 : Int)) then (some ((-1 : Int), ())) else l0 (w64 (a1.2.1 - (a1.1.length : Int)), (0 : Int))
noncomputable def raw (k : Nat) (a1 : Arg) : Option Out := p (r0 k a1) a1
theorem p_eq (k : Nat) (a1 : Arg) : bodyK E k Go.Proofs.Try.f99 ps rs [] [] a1 = p (s0 k a1) a1 := by kernel_rfl
theorem raw_eq (k : Nat) (a1 : Arg) : bodyK E k Go.Proofs.Try.f99 ps rs [] [] a1 = raw k a1 := (p_eq k a1).trans (by rw [s0_eq]; rfl)
theorem ent : EnterOk Go.Proofs.Try.prog 99 sig.cap := ⟨Go.Proofs.Try.f99, Go.Proofs.Try.func99, by kernel_rfl, by kernel_rfl, by kernel_rfl⟩
theorem env : EnvOk Go.Proofs.Try.prog E := env_ok (tl := [(50, (.slc tRun)), (234, tRun)]) (gl := [(181, laws_szRun.sig)]) rfl rfl (by kernel_rfl) (by kernel_rfl) (fn_cons laws_szRun.snd laws_szRun.ent (fn_nil _))
theorem chk : funOk Go.Proofs.Try.prog E Go.Proofs.Try.f99 ps rs [] = true := by kernel_rfl
theorem snd : Sound Go.Proofs.Try.prog 99 sig := sound_of_body env Go.Proofs.Try.func99 rfl (es := []) (fr := []) chk (fun _ _ h => lift_some h)
end laws_szRunS
namespace laws_szRecord
/-! loop example g00408 laws szRecord -/
abbrev Arg : Type := Record × Int × Unit
abbrev Out : Type := Int × Unit
noncomputable def ps : List (PM × Ty) := [(.ro, tRecord), (.ro, i64)]
noncomputable def rs : List (Ty × Md) := [(i64, (roMd i64))]
noncomputable def E : Env := { TI := lookN [(50, (.slc tRun)), (52, tRecord)], G := lookN [(99, laws_szRunS.sig)], fz := [], lv := [], lx := [], lf := [], od := [] }
noncomputable def sem (a : Arg) : Option Out := lift fun k => bodyK E k Go.Proofs.Try.f28 ps rs [] [] a
noncomputable def sig : Sig := { ps := ps, rs := rs, F := fun a => sem a }
noncomputable def C : Code := bodyOf Go.Proofs.Try.f28
noncomputable def fin : St → Option Out := outK ps rs [] (Func.results Go.Proofs.Try.f28).toList (mvs [])
noncomputable def K0 : Ex → St → Option Out := endK fin
noncomputable def p (a1 : Arg) : Option Out := (laws_szRunS.sem (a1.1.2.2.2.1, a1.2.1, ())).bind fun r2 => bif decide (r2.1 < (0 : Int)) then (some ((-1 : Int), ())) else some (r2.1, ())
noncomputable def raw (k : Nat) (a1 : Arg) : Option Out := p a1
theorem p_eq (k : Nat) (a1 : Arg) : bodyK E k Go.Proofs.Try.f28 ps rs [] [] a1 = p a1 := by kernel_rfl
theorem raw_eq (k : Nat) (a1 : Arg) : bodyK E k Go.Proofs.Try.f28 ps rs [] [] a1 = raw k a1 := (p_eq k a1).trans (by rfl)
theorem ent : EnterOk Go.Proofs.Try.prog 28 sig.cap := ⟨Go.Proofs.Try.f28, Go.Proofs.Try.func28, by kernel_rfl, by kernel_rfl, by kernel_rfl⟩
theorem env : EnvOk Go.Proofs.Try.prog E := env_ok (tl := [(50, (.slc tRun)), (52, tRecord)]) (gl := [(99, laws_szRunS.sig)]) rfl rfl (by kernel_rfl) (by kernel_rfl) (fn_cons laws_szRunS.snd laws_szRunS.ent (fn_nil _))
theorem chk : funOk Go.Proofs.Try.prog E Go.Proofs.Try.f28 ps rs [] = true := by kernel_rfl
theorem snd : Sound Go.Proofs.Try.prog 28 sig := sound_of_body env Go.Proofs.Try.func28 rfl (es := []) (fr := []) chk (fun _ _ h => lift_some h)
end laws_szRecord
namespace spec_l4Runs
/-! loop example g00408 spec l4Runs -/
abbrev Arg : Type := Int × Unit
abbrev Out : Type := Bool × Unit
noncomputable def ps : List (PM × Ty) := [(.ro, i64)]
noncomputable def rs : List (Ty × Md) := [(.bool, (roMd .bool))]
noncomputable def E : Env := { TI := lookN [], G := lookN [(90, spec_l1In.sig)], fz := [], lv := [], lx := [], lf := [], od := [] }
noncomputable def sem (a : Arg) : Option Out := lift fun k => bodyK E k Go.Proofs.Try.f183 ps rs [] [] a
noncomputable def sig : Sig := { ps := ps, rs := rs, F := fun a => sem a }
noncomputable def C : Code := bodyOf Go.Proofs.Try.f183
noncomputable def fin : St → Option Out := outK ps rs [] (Func.results Go.Proofs.Try.f183).toList (mvs [])
noncomputable def K0 : Ex → St → Option Out := endK fin
noncomputable def p (a1 : Arg) : Option Out := (spec_l1In.sem (a1.1, (2 : Int), (4 : Int), ())).bind fun r2 => some (r2.1, ())
noncomputable def raw (k : Nat) (a1 : Arg) : Option Out := p a1
theorem p_eq (k : Nat) (a1 : Arg) : bodyK E k Go.Proofs.Try.f183 ps rs [] [] a1 = p a1 := by kernel_rfl
theorem raw_eq (k : Nat) (a1 : Arg) : bodyK E k Go.Proofs.Try.f183 ps rs [] [] a1 = raw k a1 := (p_eq k a1).trans (by rfl)
theorem ent : EnterOk Go.Proofs.Try.prog 183 sig.cap := ⟨Go.Proofs.Try.f183, Go.Proofs.Try.func183, by kernel_rfl, by kernel_rfl, by kernel_rfl⟩
theorem env : EnvOk Go.Proofs.Try.prog E := env_ok (tl := []) (gl := [(90, spec_l1In.sig)]) rfl rfl (by kernel_rfl) (by kernel_rfl) (fn_cons spec_l1In.snd spec_l1In.ent (fn_nil _))
theorem chk : funOk Go.Proofs.Try.prog E Go.Proofs.Try.f183 ps rs [] = true := by kernel_rfl
theorem snd : Sound Go.Proofs.Try.prog 183 sig := sound_of_body env Go.Proofs.Try.func183 rfl (es := []) (fr := []) chk (fun _ _ h => lift_some h)
end spec_l4Runs
namespace spec_l3Fault
/-! loop example g00408 spec l3Fault -/
abbrev Arg : Type := (List Run) × Unit
abbrev Out : Type := Int × Unit
noncomputable def ps : List (PM × Ty) := [(.ro, (.slc tRun))]
noncomputable def rs : List (Ty × Md) := [(i64, (roMd i64))]
noncomputable def E : Env := { TI := lookN [(2, i64), (39, (.slc u8)), (59, (.slc tRun)), (236, tRun)], G := lookN [(90, spec_l1In.sig)], fz := [], lv := [(4, [0, 3])], lx := [(0, [])], lf := [], od := [(9, [0, 1, 2, 3, 4, 5, 6, 7, 8, 9, 10, 11, 12, 13, 14, 15, 16, 17, 18, 19, 20, 21, 22, 23])] }
noncomputable def sem (a : Arg) : Option Out := lift fun k => bodyK E k Go.Proofs.Try.f184 ps rs [] [] a
noncomputable def sig : Sig := { ps := ps, rs := rs, F := fun a => sem a }
noncomputable def C : Code := bodyOf Go.Proofs.Try.f184
noncomputable def fin : St → Option Out := outK ps rs [] (Func.results Go.Proofs.Try.f184).toList (mvs [])
noncomputable def K0 : Ex → St → Option Out := endK fin
noncomputable def S0 (rec : St → Option Out) (a1 : Arg) : (Int) → Option Out := fun v402 => rec ({ n := 66, sl := [(0, .val (.slc tRun) a1.1), (3, .val i64 v402)], vr := [], lent := [] })
noncomputable def X0_0 (K : Ex → St → Option Out) (a1 : Arg) : (Unit) → Option Out := fun z => K (.exit 0) ({ n := 66, sl := [], vr := [], lent := [] })
noncomputable def b0 (self : Int → Option Out) (e0 : (Unit) → Option Out) (a1 : Arg) (v402 : Int) : Option Out := bif decide (v402 < (a1.1.length : Int)) then (if 0 ≤ v402 then ((a1.1[v402.toNat]?).bind fun x603 => if 0 ≤ v402 then ((a1.1[v402.toNat]?).bind fun x604 => (spec_l1In.sem (x604.1, (0 : Int), (63 : Int), ())).bind fun r605 => bif !r605.1 then (some ((3 : Int), ())) else (spec_l1In.sem ((x603.2.1.length : Int), (1 : Int), (64 : Int), ())).bind fun r606 => bif !r606.1 then (some ((3 : Int), ())) else if 0 ≤ v402 then ((a1.1[v402.toNat]?).bind fun x607 => bif decide ((64 : Int) < w64 (x607.1 + (x603.2.1.length : Int))) then (some ((3 : Int), ())) else bif decide ((0 : Int) < v402) then (if 0 ≤ v402 then ((a1.1[v402.toNat]?).bind fun x608 => if 0 ≤ w64 (v402 - (1 : Int)) then ((a1.1[(w64 (v402 - (1 : Int))).toNat]?).bind fun x609 => if 0 ≤ w64 (v402 - (1 : Int)) then ((a1.1[(w64 (v402 - (1 : Int))).toNat]?).bind fun x610 => bif decide (x608.1 ≤ w64 (x609.1 + (x610.2.1.length : Int))) then (some ((1 : Int), ())) else self (w64 (v402 + (1 : Int)))) else none) else none) else none) else self (w64 (v402 + (1 : Int)))) else none) else none) else none) else e0 ()
noncomputable def B0 (k : Nat) (self : Int → Option Out) (e0 : (Unit) → Option Out) (a1 : Arg) (v402 : Int) : Option Out := b0 self e0 a1 v402
theorem b0_eq (k : Nat) (rec : St → Option Out) (K : Ex → St → Option Out) (a1 : Arg) (v402 : Int) : codeK E k fin (sub [1, 1, 0, 1, 0, 0] C) ({ n := 66, sl := [(0, .val (.slc tRun) a1.1), (3, .val i64 v402)], vr := [], lent := [] }) (loopC rec (keepF [0, 3] []) K) = b0 (S0 rec a1) (X0_0 K a1) a1 v402 := by kernel_rfl
theorem B0_eq (k : Nat) (rec : St → Option Out) (K : Ex → St → Option Out) (a1 : Arg) (v402 : Int) : codeK E k fin (sub [1, 1, 0, 1, 0, 0] C) ({ n := 66, sl := [(0, .val (.slc tRun) a1.1), (3, .val i64 v402)], vr := [], lent := [] }) (loopC rec (keepF [0, 3] []) K) = B0 k (S0 rec a1) (X0_0 K a1) a1 v402 := (b0_eq k rec K a1 v402).trans (by rfl)
noncomputable def l0 (k : Nat) (a1 : Arg) (e0 : (Unit) → Option Out) (v : Int) : Option Out := rawIter (fun self v => B0 k self e0 a1 v) k v
theorem l0_eq (k : Nat) (K : Ex → St → Option Out) (a1 : Arg) (v402 : Int) : iterK (codeK E k fin (sub [1, 1, 0, 1, 0, 0] C)) (keepF [0, 3] []) K k ({ n := 66, sl := [(0, .val (.slc tRun) a1.1), (3, .val i64 v402)], vr := [], lent := [] }) = l0 k a1 (X0_0 K a1) v402 :=
  iter_raw _ _ K (fun v402 => ({ n := 66, sl := [(0, .val (.slc tRun) a1.1), (3, .val i64 v402)], vr := [], lent := [] } : St)) (fun self v => B0 k self (X0_0 K a1) a1 v) (fun rec v => B0_eq k rec K a1 v) k v402
noncomputable def q0 (a1 : Arg) (z611 : (Unit)) : Option Out := some ((0 : Int), ())
noncomputable def Q0 (k : Nat) (a1 : Arg) (z611 : (Unit)) : Option Out := q0 a1 z611
theorem q0_eq (k : Nat) (a1 : Arg) (z611 : (Unit)) : (blockC 0 (seqC (codeK E k fin (sub [1, 1, 1] C)) K0)) (.exit 0) ({ n := 66, sl := [], vr := [], lent := [] }) = q0 a1 z611 := by kernel_rfl
theorem Q0_eq (k : Nat) (a1 : Arg) (z611 : (Unit)) : (blockC 0 (seqC (codeK E k fin (sub [1, 1, 1] C)) K0)) (.exit 0) ({ n := 66, sl := [], vr := [], lent := [] }) = Q0 k a1 z611 := (q0_eq k a1 z611).trans (by rfl)
noncomputable def s0 (k : Nat) (a1 : Arg) : (Int) → Option Out := fun v402 => iterK (codeK E k fin (sub [1, 1, 0, 1, 0, 0] C)) (keepF [0, 3] []) (blockC 0 (seqC (codeK E k fin (sub [1, 1, 1] C)) K0)) k ({ n := 66, sl := [(0, .val (.slc tRun) a1.1), (3, .val i64 v402)], vr := [], lent := [] })
noncomputable def r0 (k : Nat) (a1 : Arg) : (Int) → Option Out := fun v402 => l0 k a1 (fun z => Q0 k a1 z) v402
theorem s0_eq (k : Nat) (a1 : Arg) : s0 k a1 = r0 k a1 := by
  funext v402;
  have h0 : X0_0 ((blockC 0 (seqC (codeK E k fin (sub [1, 1, 1] C)) K0))) a1 = fun z => Q0 k a1 z := funext fun z => Q0_eq k a1 z
  refine (l0_eq k ((blockC 0 (seqC (codeK E k fin (sub [1, 1, 1] C)) K0))) a1 v402).trans ?_
  rw [h0]
  rfl
noncomputable def p (l0 : (Int) → Option Out) (a1 : Arg) : Option Out := bif decide ((64 : Int) < (a1.1.length : Int)) then (some ((2 : Int), ())) else l0 (0 : Int)
noncomputable def raw (k : Nat) (a1 : Arg) : Option Out := p (r0 k a1) a1
theorem p_eq (k : Nat) (a1 : Arg) : bodyK E k Go.Proofs.Try.f184 ps rs [] [] a1 = p (s0 k a1) a1 := by kernel_rfl
theorem raw_eq (k : Nat) (a1 : Arg) : bodyK E k Go.Proofs.Try.f184 ps rs [] [] a1 = raw k a1 := (p_eq k a1).trans (by rw [s0_eq]; rfl)
theorem ent : EnterOk Go.Proofs.Try.prog 184 sig.cap := ⟨Go.Proofs.Try.f184, Go.Proofs.Try.func184, by kernel_rfl, by kernel_rfl, by kernel_rfl⟩
theorem env : EnvOk Go.Proofs.Try.prog E := env_ok (tl := [(2, i64), (39, (.slc u8)), (59, (.slc tRun)), (236, tRun)]) (gl := [(90, spec_l1In.sig)]) rfl rfl (by kernel_rfl) (by kernel_rfl) (fn_cons spec_l1In.snd spec_l1In.ent (fn_nil _))
theorem chk : funOk Go.Proofs.Try.prog E Go.Proofs.Try.f184 ps rs [] = true := by kernel_rfl
theorem snd : Sound Go.Proofs.Try.prog 184 sig := sound_of_body env Go.Proofs.Try.func184 rfl (es := []) (fr := []) chk (fun _ _ h => lift_some h)
end spec_l3Fault
namespace spec_l4Fault
/-! loop example g00408 spec l4Fault -/
abbrev Arg : Type := Record × Unit
abbrev Out : Type := Int × Unit
noncomputable def ps : List (PM × Ty) := [(.ro, (.ptr tRecord))]
noncomputable def rs : List (Ty × Md) := [(i64, (roMd i64))]
noncomputable def E : Env := { TI := lookN [(2, i64), (39, (.slc u8)), (59, (.slc tRun)), (61, tRecord), (236, tRun)], G := lookN [(90, spec_l1In.sig), (183, spec_l4Runs.sig), (184, spec_l3Fault.sig)], fz := [], lv := [], lx := [], lf := [], od := [] }
noncomputable def sem (a : Arg) : Option Out := lift fun k => bodyK E k Go.Proofs.Try.f101 ps rs [] [] a
noncomputable def sig : Sig := { ps := ps, rs := rs, F := fun a => sem a }
noncomputable def C : Code := bodyOf Go.Proofs.Try.f101
noncomputable def fin : St → Option Out := outK ps rs [] (Func.results Go.Proofs.Try.f101).toList (mvs [])
noncomputable def K0 : Ex → St → Option Out := endK fin
noncomputable def p (a1 : Arg) : Option Out := let j13 : Option Out := let j20 : Option Out := (spec_l4Runs.sem (a1.1.1, ())).bind fun r21 => bif !r21.1 then (some ((0 : Int), ())) else (spec_l3Fault.sem (a1.1.2.2.2.1, ())).bind fun r22 => bif !decide (r22.1 = (0 : Int)) then (some (r22.1, ())) else bif decide ((a1.1.2.2.2.1.length : Int) = (0 : Int)) then (some ((1 : Int), ())) else bif decide (a1.1.1 = (4 : Int)) then ((a1.1.2.2.2.1[0]?).bind fun x23 => bif !decide ((x23.2.1.length : Int) = (64 : Int)) then (some ((1 : Int), ())) else some ((0 : Int), ())) else some ((0 : Int), ()); bif !decide (a1.1.1 = (4 : Int)) then ((spec_l1In.sem (a1.1.2.1, (1 : Int), (99 : Int), ())).bind fun r14 => bif !r14.1 then (some ((3 : Int), ())) else (spec_l1In.sem (a1.1.2.2.1, (0 : Int), (11 : Int), ())).bind fun r15 => bif !r15.1 then (some ((3 : Int), ())) else j20) else (spec_l1In.sem (a1.1.2.2.1, (0 : Int), (11 : Int), ())).bind fun r16 => bif !r16.1 then (some ((3 : Int), ())) else j20; (spec_l1In.sem (a1.1.1, (1 : Int), (6 : Int), ())).bind fun r2 => bif !r2.1 then (some ((1 : Int), ())) else (spec_l4Runs.sem (a1.1.1, ())).bind fun r3 => bif !r3.1 then (bif !decide (a1.1.2.2.1 = (0 : Int)) then (some ((1 : Int), ())) else bif decide ((0 : Int) < (a1.1.2.2.2.1.length : Int)) then (some ((1 : Int), ())) else bif decide (a1.1.1 = (4 : Int)) then (bif !decide (a1.1.2.1 = (0 : Int)) then (some ((1 : Int), ())) else j13) else j13) else bif decide (a1.1.1 = (4 : Int)) then (bif !decide (a1.1.2.1 = (0 : Int)) then (some ((1 : Int), ())) else j13) else j13
noncomputable def raw (k : Nat) (a1 : Arg) : Option Out := p a1
theorem p_eq (k : Nat) (a1 : Arg) : bodyK E k Go.Proofs.Try.f101 ps rs [] [] a1 = p a1 := by kernel_rfl
theorem raw_eq (k : Nat) (a1 : Arg) : bodyK E k Go.Proofs.Try.f101 ps rs [] [] a1 = raw k a1 := (p_eq k a1).trans (by rfl)
theorem ent : EnterOk Go.Proofs.Try.prog 101 sig.cap := ⟨Go.Proofs.Try.f101, Go.Proofs.Try.func101, by kernel_rfl, by kernel_rfl, by kernel_rfl⟩
theorem env : EnvOk Go.Proofs.Try.prog E := env_ok (tl := [(2, i64), (39, (.slc u8)), (59, (.slc tRun)), (61, tRecord), (236, tRun)]) (gl := [(90, spec_l1In.sig), (183, spec_l4Runs.sig), (184, spec_l3Fault.sig)]) rfl rfl (by kernel_rfl) (by kernel_rfl) (fn_cons spec_l1In.snd spec_l1In.ent (fn_cons spec_l4Runs.snd spec_l4Runs.ent (fn_cons spec_l3Fault.snd spec_l3Fault.ent (fn_nil _))))
theorem chk : funOk Go.Proofs.Try.prog E Go.Proofs.Try.f101 ps rs [] = true := by kernel_rfl
theorem snd : Sound Go.Proofs.Try.prog 101 sig := sound_of_body env Go.Proofs.Try.func101 rfl (es := []) (fr := []) chk (fun _ _ h => lift_some h)
end spec_l4Fault
namespace spec_l4Sum
/-! loop example g00408 spec l4Sum -/
abbrev Arg : Type := (List UInt8) × Unit
abbrev Out : Type := Int × Unit
noncomputable def ps : List (PM × Ty) := [(.ro, (.slc u8))]
noncomputable def rs : List (Ty × Md) := [(i64, (roMd i64))]
noncomputable def E : Env := { TI := lookN [(2, i64), (5, u8), (39, (.slc u8))], G := lookN [], fz := [], lv := [(3, [0, 3, 4])], lx := [(0, [3])], lf := [], od := [] }
noncomputable def sem (a : Arg) : Option Out := lift fun k => bodyK E k Go.Proofs.Try.f201 ps rs [] [] a
noncomputable def sig : Sig := { ps := ps, rs := rs, F := fun a => sem a }
noncomputable def C : Code := bodyOf Go.Proofs.Try.f201
noncomputable def fin : St → Option Out := outK ps rs [] (Func.results Go.Proofs.Try.f201).toList (mvs [])
noncomputable def K0 : Ex → St → Option Out := endK fin
noncomputable def S0 (rec : St → Option Out) (a1 : Arg) : (Int × Int) → Option Out := fun v402 => rec ({ n := 21, sl := [(0, .val (.slc u8) a1.1), (3, .val i64 v402.1), (4, .val i64 v402.2)], vr := [], lent := [] })
noncomputable def X0_0 (K : Ex → St → Option Out) (a1 : Arg) : Int → Option Out := fun z => K (.exit 0) ({ n := 21, sl := [(3, .val i64 z)], vr := [], lent := [] })
noncomputable def b0 (self : (Int × Int) → Option Out) (e0 : Int → Option Out) (a1 : Arg) (v402 : Int × Int) : Option Out := bif decide (v402.2 < (a1.1.length : Int)) then (if 0 ≤ v402.2 then ((a1.1[v402.2.toNat]?).bind fun x603 => self ((w64 ((w64 (v402.1 * (31 : Int))) + (w64 (x603.toNat : Int)))).tmod (65521 : Int), w64 (v402.2 + (1 : Int)))) else none) else e0 v402.1
noncomputable def B0 (k : Nat) (self : (Int × Int) → Option Out) (e0 : Int → Option Out) (a1 : Arg) (v402 : Int × Int) : Option Out := b0 self e0 a1 v402
theorem b0_eq (k : Nat) (rec : St → Option Out) (K : Ex → St → Option Out) (a1 : Arg) (v402 : Int × Int) : codeK E k fin (sub [1, 1, 0, 1, 0, 0] C) ({ n := 21, sl := [(0, .val (.slc u8) a1.1), (3, .val i64 v402.1), (4, .val i64 v402.2)], vr := [], lent := [] }) (loopC rec (keepF [0, 3, 4] []) K) = b0 (S0 rec a1) (X0_0 K a1) a1 v402 := by kernel_rfl
theorem B0_eq (k : Nat) (rec : St → Option Out) (K : Ex → St → Option Out) (a1 : Arg) (v402 : Int × Int) : codeK E k fin (sub [1, 1, 0, 1, 0, 0] C) ({ n := 21, sl := [(0, .val (.slc u8) a1.1), (3, .val i64 v402.1), (4, .val i64 v402.2)], vr := [], lent := [] }) (loopC rec (keepF [0, 3, 4] []) K) = B0 k (S0 rec a1) (X0_0 K a1) a1 v402 := (b0_eq k rec K a1 v402).trans (by rfl)
noncomputable def l0 (k : Nat) (a1 : Arg) (e0 : Int → Option Out) (v : Int × Int) : Option Out := rawIter (fun self v => B0 k self e0 a1 v) k v
theorem l0_eq (k : Nat) (K : Ex → St → Option Out) (a1 : Arg) (v402 : Int × Int) : iterK (codeK E k fin (sub [1, 1, 0, 1, 0, 0] C)) (keepF [0, 3, 4] []) K k ({ n := 21, sl := [(0, .val (.slc u8) a1.1), (3, .val i64 v402.1), (4, .val i64 v402.2)], vr := [], lent := [] }) = l0 k a1 (X0_0 K a1) v402 :=
  iter_raw _ _ K (fun v402 => ({ n := 21, sl := [(0, .val (.slc u8) a1.1), (3, .val i64 v402.1), (4, .val i64 v402.2)], vr := [], lent := [] } : St)) (fun self v => B0 k self (X0_0 K a1) a1 v) (fun rec v => B0_eq k rec K a1 v) k v402
noncomputable def q0 (a1 : Arg) (z604 : Int) : Option Out := some (z604, ())
noncomputable def Q0 (k : Nat) (a1 : Arg) (z604 : Int) : Option Out := q0 a1 z604
theorem q0_eq (k : Nat) (a1 : Arg) (z604 : Int) : (blockC 0 (seqC (codeK E k fin (sub [1, 1, 1] C)) K0)) (.exit 0) ({ n := 21, sl := [(3, .val i64 z604)], vr := [], lent := [] }) = q0 a1 z604 := by kernel_rfl
theorem Q0_eq (k : Nat) (a1 : Arg) (z604 : Int) : (blockC 0 (seqC (codeK E k fin (sub [1, 1, 1] C)) K0)) (.exit 0) ({ n := 21, sl := [(3, .val i64 z604)], vr := [], lent := [] }) = Q0 k a1 z604 := (q0_eq k a1 z604).trans (by rfl)
noncomputable def s0 (k : Nat) (a1 : Arg) : (Int × Int) → Option Out := fun v402 => iterK (codeK E k fin (sub [1, 1, 0, 1, 0, 0] C)) (keepF [0, 3, 4] []) (blockC 0 (seqC (codeK E k fin (sub [1, 1, 1] C)) K0)) k ({ n := 21, sl := [(0, .val (.slc u8) a1.1), (3, .val i64 v402.1), (4, .val i64 v402.2)], vr := [], lent := [] })
noncomputable def r0 (k : Nat) (a1 : Arg) : (Int × Int) → Option Out := fun v402 => l0 k a1 (fun z => Q0 k a1 z) v402
theorem s0_eq (k : Nat) (a1 : Arg) : s0 k a1 = r0 k a1 := by
  funext v402;
  have h0 : X0_0 ((blockC 0 (seqC (codeK E k fin (sub [1, 1, 1] C)) K0))) a1 = fun z => Q0 k a1 z := funext fun z => Q0_eq k a1 z
  refine (l0_eq k ((blockC 0 (seqC (codeK E k fin (sub [1, 1, 1] C)) K0))) a1 v402).trans ?_
  rw [h0]
  rfl
noncomputable def p (l0 : (Int × Int) → Option Out) (a1 : Arg) : Option Out := l0 ((1 : Int), (0 : Int))
noncomputable def raw (k : Nat) (a1 : Arg) : Option Out := p (r0 k a1) a1
theorem p_eq (k : Nat) (a1 : Arg) : bodyK E k Go.Proofs.Try.f201 ps rs [] [] a1 = p (s0 k a1) a1 := by kernel_rfl
theorem raw_eq (k : Nat) (a1 : Arg) : bodyK E k Go.Proofs.Try.f201 ps rs [] [] a1 = raw k a1 := (p_eq k a1).trans (by rw [s0_eq]; rfl)
theorem ent : EnterOk Go.Proofs.Try.prog 201 sig.cap := ⟨Go.Proofs.Try.f201, Go.Proofs.Try.func201, by kernel_rfl, by kernel_rfl, by kernel_rfl⟩
theorem env : EnvOk Go.Proofs.Try.prog E := env_ok (tl := [(2, i64), (5, u8), (39, (.slc u8))]) (gl := []) rfl rfl (by kernel_rfl) (by kernel_rfl) (fn_nil _)
theorem chk : funOk Go.Proofs.Try.prog E Go.Proofs.Try.f201 ps rs [] = true := by kernel_rfl
theorem snd : Sound Go.Proofs.Try.prog 201 sig := sound_of_body env Go.Proofs.Try.func201 rfl (es := []) (fr := []) chk (fun _ _ h => lift_some h)
end spec_l4Sum
namespace spec_l4Pack
/-! loop example g00408 spec l4Pack -/
abbrev Arg : Type := Record × Unit
abbrev Out : Type := (List UInt8) × Unit
noncomputable def ps : List (PM × Ty) := [(.ro, (.ptr tRecord))]
noncomputable def rs : List (Ty × Md) := [((.slc u8), (ownMd (.slc u8)))]
noncomputable def E : Env := { TI := lookN [(2, i64), (3, i64), (5, u8), (39, (.slc u8)), (59, (.slc tRun)), (61, tRecord), (236, tRun)], G := lookN [(201, spec_l4Sum.sig)], fz := [], lv := [(3, [0, 3, 4])], lx := [(0, [3])], lf := [], od := [(1, [0, 1, 2, 3, 4, 5, 6, 7, 8, 9, 10, 11, 12, 13, 14, 15, 16, 17, 18, 19, 20, 21, 22]), (5, [0, 1, 2, 3, 4, 5, 6, 7, 8, 9, 10, 11, 12, 13, 14, 15, 16, 17, 18, 19, 22, 23, 24, 25, 26, 27, 28, 29, 20, 21, 30, 31])], ar := [(5, [4, 8, 9, 13, 17, 19, 25, 29])] }
noncomputable def sem (a : Arg) : Option Out := lift fun k => bodyK E k Go.Proofs.Try.f130 ps rs [] [] a
noncomputable def sig : Sig := { ps := ps, rs := rs, F := fun a => sem a }
noncomputable def C : Code := bodyOf Go.Proofs.Try.f130
noncomputable def fin : St → Option Out := outK ps rs [] (Func.results Go.Proofs.Try.f130).toList (mvs [])
noncomputable def K0 : Ex → St → Option Out := endK fin
noncomputable def S0 (rec : St → Option Out) (a1 : Arg) : ((List UInt8) × Int) → Option Out := fun v402 => rec ({ n := 85, sl := [(0, .cp tRecord a1.1), (3, .own (.slc u8) (ownMd (.slc u8)) [] v402.1), (4, .val i64 v402.2)], vr := [], lent := [] })
noncomputable def X0_0 (K : Ex → St → Option Out) (a1 : Arg) : (List UInt8) → Option Out := fun z => K (.exit 0) ({ n := 85, sl := [(3, .own (.slc u8) (ownMd (.slc u8)) [] z)], vr := [], lent := [] })
noncomputable def b0 (self : ((List UInt8) × Int) → Option Out) (e0 : (List UInt8) → Option Out) (a1 : Arg) (v402 : (List UInt8) × Int) : Option Out := bif decide (v402.2 < (a1.1.2.2.2.1.length : Int)) then (if 0 ≤ v402.2 then ((a1.1.2.2.2.1[v402.2.toNat]?).bind fun x603 => if 0 ≤ v402.2 then ((a1.1.2.2.2.1[v402.2.toNat]?).bind fun x604 => if 0 ≤ v402.2 then ((a1.1.2.2.2.1[v402.2.toNat]?).bind fun x605 => if v402.1.length + [UInt8.ofInt x603.1, UInt8.ofInt (x604.2.1.length : Int)].length ≤ CAP then (let y606 := v402.1 ++ [UInt8.ofInt x603.1, UInt8.ofInt (x604.2.1.length : Int)]; if y606.length + x605.2.1.length ≤ CAP then (self (y606 ++ x605.2.1, w64 (v402.2 + (1 : Int)))) else none) else none) else none) else none) else none) else e0 v402.1
noncomputable def B0 (k : Nat) (self : ((List UInt8) × Int) → Option Out) (e0 : (List UInt8) → Option Out) (a1 : Arg) (v402 : (List UInt8) × Int) : Option Out := b0 self e0 a1 v402
theorem b0_eq (k : Nat) (rec : St → Option Out) (K : Ex → St → Option Out) (a1 : Arg) (v402 : (List UInt8) × Int) : codeK E k fin (sub [1, 1, 0, 1, 0, 0] C) ({ n := 85, sl := [(0, .cp tRecord a1.1), (3, .own (.slc u8) (ownMd (.slc u8)) [] v402.1), (4, .val i64 v402.2)], vr := [], lent := [] }) (loopC rec (keepF [0, 3, 4] []) K) = b0 (S0 rec a1) (X0_0 K a1) a1 v402 := by kernel_rfl
theorem B0_eq (k : Nat) (rec : St → Option Out) (K : Ex → St → Option Out) (a1 : Arg) (v402 : (List UInt8) × Int) : codeK E k fin (sub [1, 1, 0, 1, 0, 0] C) ({ n := 85, sl := [(0, .cp tRecord a1.1), (3, .own (.slc u8) (ownMd (.slc u8)) [] v402.1), (4, .val i64 v402.2)], vr := [], lent := [] }) (loopC rec (keepF [0, 3, 4] []) K) = B0 k (S0 rec a1) (X0_0 K a1) a1 v402 := (b0_eq k rec K a1 v402).trans (by rfl)
noncomputable def l0 (k : Nat) (a1 : Arg) (e0 : (List UInt8) → Option Out) (v : (List UInt8) × Int) : Option Out := rawIter (fun self v => B0 k self e0 a1 v) k v
theorem l0_eq (k : Nat) (K : Ex → St → Option Out) (a1 : Arg) (v402 : (List UInt8) × Int) : iterK (codeK E k fin (sub [1, 1, 0, 1, 0, 0] C)) (keepF [0, 3, 4] []) K k ({ n := 85, sl := [(0, .cp tRecord a1.1), (3, .own (.slc u8) (ownMd (.slc u8)) [] v402.1), (4, .val i64 v402.2)], vr := [], lent := [] }) = l0 k a1 (X0_0 K a1) v402 :=
  iter_raw _ _ K (fun v402 => ({ n := 85, sl := [(0, .cp tRecord a1.1), (3, .own (.slc u8) (ownMd (.slc u8)) [] v402.1), (4, .val i64 v402.2)], vr := [], lent := [] } : St)) (fun self v => B0 k self (X0_0 K a1) a1 v) (fun rec v => B0_eq k rec K a1 v) k v402
noncomputable def q0 (a1 : Arg) (z607 : (List UInt8)) : Option Out := if 0 ≤ (0 : Int) ∧ (0 : Int) < (z607.length : Int) then ((z607[0]?).bind fun x608 => let y609 := z607.set 0 (UInt8.ofInt (w64 ((z607.length : Int) + (2 : Int)))); (spec_l4Sum.sem (y609, ())).bind fun r610 => if y609.length + [UInt8.ofInt (w64 (r610.1.tdiv (256 : Int))), UInt8.ofInt (r610.1.tmod (256 : Int))].length ≤ CAP then (let y611 := y609 ++ [UInt8.ofInt (w64 (r610.1.tdiv (256 : Int))), UInt8.ofInt (r610.1.tmod (256 : Int))]; some (y611, ())) else none) else none
noncomputable def Q0 (k : Nat) (a1 : Arg) (z607 : (List UInt8)) : Option Out := q0 a1 z607
theorem q0_eq (k : Nat) (a1 : Arg) (z607 : (List UInt8)) : (blockC 0 (seqC (codeK E k fin (sub [1, 1, 1] C)) K0)) (.exit 0) ({ n := 85, sl := [(3, .own (.slc u8) (ownMd (.slc u8)) [] z607)], vr := [], lent := [] }) = q0 a1 z607 := by kernel_rfl
theorem Q0_eq (k : Nat) (a1 : Arg) (z607 : (List UInt8)) : (blockC 0 (seqC (codeK E k fin (sub [1, 1, 1] C)) K0)) (.exit 0) ({ n := 85, sl := [(3, .own (.slc u8) (ownMd (.slc u8)) [] z607)], vr := [], lent := [] }) = Q0 k a1 z607 := (q0_eq k a1 z607).trans (by rfl)
noncomputable def s0 (k : Nat) (a1 : Arg) : ((List UInt8) × Int) → Option Out := fun v402 => iterK (codeK E k fin (sub [1, 1, 0, 1, 0, 0] C)) (keepF [0, 3, 4] []) (blockC 0 (seqC (codeK E k fin (sub [1, 1, 1] C)) K0)) k ({ n := 85, sl := [(0, .cp tRecord a1.1), (3, .own (.slc u8) (ownMd (.slc u8)) [] v402.1), (4, .val i64 v402.2)], vr := [], lent := [] })
noncomputable def r0 (k : Nat) (a1 : Arg) : ((List UInt8) × Int) → Option Out := fun v402 => l0 k a1 (fun z => Q0 k a1 z) v402
theorem s0_eq (k : Nat) (a1 : Arg) : s0 k a1 = r0 k a1 := by
  funext v402;
  have h0 : X0_0 ((blockC 0 (seqC (codeK E k fin (sub [1, 1, 1] C)) K0))) a1 = fun z => Q0 k a1 z := funext fun z => Q0_eq k a1 z
  refine (l0_eq k ((blockC 0 (seqC (codeK E k fin (sub [1, 1, 1] C)) K0))) a1 v402).trans ?_
  rw [h0]
  rfl
noncomputable def p (l0 : ((List UInt8) × Int) → Option Out) (a1 : Arg) : Option Out := l0 ([(0 : UInt8), UInt8.ofInt a1.1.1, UInt8.ofInt a1.1.2.1, UInt8.ofInt a1.1.2.2.1, UInt8.ofInt (a1.1.2.2.2.1.length : Int)], (0 : Int))
noncomputable def raw (k : Nat) (a1 : Arg) : Option Out := p (r0 k a1) a1
theorem p_eq (k : Nat) (a1 : Arg) : bodyK E k Go.Proofs.Try.f130 ps rs [] [] a1 = p (s0 k a1) a1 := by kernel_rfl
theorem raw_eq (k : Nat) (a1 : Arg) : bodyK E k Go.Proofs.Try.f130 ps rs [] [] a1 = raw k a1 := (p_eq k a1).trans (by rw [s0_eq]; rfl)
theorem ent : EnterOk Go.Proofs.Try.prog 130 sig.cap := ⟨Go.Proofs.Try.f130, Go.Proofs.Try.func130, by kernel_rfl, by kernel_rfl, by kernel_rfl⟩
theorem env : EnvOk Go.Proofs.Try.prog E := env_ok (tl := [(2, i64), (3, i64), (5, u8), (39, (.slc u8)), (59, (.slc tRun)), (61, tRecord), (236, tRun)]) (gl := [(201, spec_l4Sum.sig)]) rfl rfl (by kernel_rfl) (by kernel_rfl) (fn_cons spec_l4Sum.snd spec_l4Sum.ent (fn_nil _))
theorem chk : funOk Go.Proofs.Try.prog E Go.Proofs.Try.f130 ps rs [] = true := by kernel_rfl
theorem snd : Sound Go.Proofs.Try.prog 130 sig := sound_of_body env Go.Proofs.Try.func130 rfl (es := []) (fr := []) chk (fun _ _ h => lift_some h)
end spec_l4Pack
namespace spec_l2Copy
/-! loop example g00408 spec l2Copy -/
abbrev Arg : Type := (List UInt8) × Unit
abbrev Out : Type := (List UInt8) × Unit
noncomputable def ps : List (PM × Ty) := [(.ro, (.slc u8))]
noncomputable def rs : List (Ty × Md) := [((.slc u8), (ownMd (.slc u8)))]
noncomputable def E : Env := { TI := lookN [(39, (.slc u8))], G := lookN [], fz := [], lv := [], lx := [], lf := [], od := [] }
noncomputable def sem (a : Arg) : Option Out := lift fun k => bodyK E k Go.Proofs.Try.f245 ps rs [] [] a
noncomputable def sig : Sig := { ps := ps, rs := rs, F := fun a => sem a }
noncomputable def C : Code := bodyOf Go.Proofs.Try.f245
noncomputable def fin : St → Option Out := outK ps rs [] (Func.results Go.Proofs.Try.f245).toList (mvs [])
noncomputable def K0 : Ex → St → Option Out := endK fin
noncomputable def p (a1 : Arg) : Option Out := if ([] : List UInt8).length + a1.1.length ≤ CAP then (some (([] : List UInt8) ++ a1.1, ())) else none
noncomputable def raw (k : Nat) (a1 : Arg) : Option Out := p a1
theorem p_eq (k : Nat) (a1 : Arg) : bodyK E k Go.Proofs.Try.f245 ps rs [] [] a1 = p a1 := by kernel_rfl
theorem raw_eq (k : Nat) (a1 : Arg) : bodyK E k Go.Proofs.Try.f245 ps rs [] [] a1 = raw k a1 := (p_eq k a1).trans (by rfl)
theorem ent : EnterOk Go.Proofs.Try.prog 245 sig.cap := ⟨Go.Proofs.Try.f245, Go.Proofs.Try.func245, by kernel_rfl, by kernel_rfl, by kernel_rfl⟩
theorem env : EnvOk Go.Proofs.Try.prog E := env_ok (tl := [(39, (.slc u8))]) (gl := []) rfl rfl (by kernel_rfl) (by kernel_rfl) (fn_nil _)
theorem chk : funOk Go.Proofs.Try.prog E Go.Proofs.Try.f245 ps rs [] = true := by kernel_rfl
theorem snd : Sound Go.Proofs.Try.prog 245 sig := sound_of_body env Go.Proofs.Try.func245 rfl (es := []) (fr := []) chk (fun _ _ h => lift_some h)
end spec_l2Copy
namespace spec_l4Read
/-! loop example g00408 spec l4Read -/
abbrev Arg : Type := (List UInt8) × Unit
abbrev Out : Type := Record × Unit
noncomputable def ps : List (PM × Ty) := [(.ro, (.slc u8))]
noncomputable def rs : List (Ty × Md) := [(tRecord, (ownMd tRecord))]
noncomputable def E : Env := { TI := lookN [(2, i64), (3, i64), (5, u8), (39, (.slc u8)), (59, (.slc tRun)), (61, tRecord), (236, tRun)], G := lookN [(245, spec_l2Copy.sig)], fz := [], lv := [(4, [0, 2, 3, 4, 5])], lx := [(0, [2, 3])], lf := [], od := [(1, [0, 1, 2, 3, 4, 5, 6, 7, 8, 9, 10, 11, 12, 13, 14]), (8, [0, 1, 2, 3, 4, 5, 6, 7, 8, 9, 10, 11, 12, 13, 14, 15, 16, 17, 18, 19, 20])] }
noncomputable def sem (a : Arg) : Option Out := lift fun k => bodyK E k Go.Proofs.Try.f273 ps rs [] [] a
noncomputable def sig : Sig := { ps := ps, rs := rs, F := fun a => sem a }
noncomputable def C : Code := bodyOf Go.Proofs.Try.f273
noncomputable def fin : St → Option Out := outK ps rs [] (Func.results Go.Proofs.Try.f273).toList (mvs [])
noncomputable def K0 : Ex → St → Option Out := endK fin
noncomputable def S0 (rec : St → Option Out) (a1 : Arg) : (Record × Int × Int) → Option Out := fun v405 => rec ({ n := 73, sl := [(0, .val (.slc u8) a1.1), (2, .box tRecord (ownMd tRecord) [] ((0 : Int), (0 : Int), (0 : Int), ([] : List Run), ())), (3, .box tRecord (ownMd tRecord) [] v405.1), (4, .val i64 v405.2.1), (5, .val i64 v405.2.2)], vr := [], lent := [] })
noncomputable def X0_0 (K : Ex → St → Option Out) (a1 : Arg) : Record → Option Out := fun z => K (.exit 0) ({ n := 73, sl := [(2, .box tRecord (ownMd tRecord) [] ((0 : Int), (0 : Int), (0 : Int), ([] : List Run), ())), (3, .box tRecord (ownMd tRecord) [] z)], vr := [], lent := [] })
noncomputable def b0 (self : (Record × Int × Int) → Option Out) (e0 : Record → Option Out) (a1 : Arg) (v405 : Record × Int × Int) : Option Out := (a1.1[4]?).bind fun x606 => bif decide (v405.2.2 < w64 (x606.toNat : Int)) then (bif decide (w64 (v405.2.1 + (2 : Int)) ≤ (a1.1.length : Int)) then (if 0 ≤ w64 (v405.2.1 + (1 : Int)) then ((a1.1[(w64 (v405.2.1 + (1 : Int))).toNat]?).bind fun x607 => bif decide ((a1.1.length : Int) < w64 ((w64 (v405.2.1 + (2 : Int))) + (w64 (x607.toNat : Int)))) then (e0 v405.1) else if 0 ≤ v405.2.1 then ((a1.1[v405.2.1.toNat]?).bind fun x608 => if 0 ≤ w64 (v405.2.1 + (2 : Int)) ∧ w64 (v405.2.1 + (2 : Int)) ≤ w64 ((w64 (v405.2.1 + (2 : Int))) + (w64 (x607.toNat : Int))) ∧ w64 ((w64 (v405.2.1 + (2 : Int))) + (w64 (x607.toNat : Int))) ≤ (a1.1.length : Int) then ((spec_l2Copy.sem ((a1.1.take (w64 ((w64 (v405.2.1 + (2 : Int))) + (w64 (x607.toNat : Int)))).toNat).drop (w64 (v405.2.1 + (2 : Int))).toNat, ())).bind fun r609 => if v405.1.2.2.2.1.length + [(w64 (x608.toNat : Int), r609.1, ())].length ≤ CAP then (let y610 := v405.1.2.2.2.1 ++ [(w64 (x608.toNat : Int), r609.1, ())]; self ((v405.1.1, v405.1.2.1, v405.1.2.2.1, y610, v405.1.2.2.2.2), w64 ((w64 (v405.2.1 + (2 : Int))) + (w64 (x607.toNat : Int))), w64 (v405.2.2 + (1 : Int)))) else none) else none) else none) else none) else e0 v405.1) else e0 v405.1
noncomputable def B0 (k : Nat) (self : (Record × Int × Int) → Option Out) (e0 : Record → Option Out) (a1 : Arg) (v405 : Record × Int × Int) : Option Out := b0 self e0 a1 v405
theorem b0_eq (k : Nat) (rec : St → Option Out) (K : Ex → St → Option Out) (a1 : Arg) (v405 : Record × Int × Int) : codeK E k fin (sub [1, 1, 1, 0, 1, 0, 0] C) ({ n := 73, sl := [(0, .val (.slc u8) a1.1), (2, .box tRecord (ownMd tRecord) [] ((0 : Int), (0 : Int), (0 : Int), ([] : List Run), ())), (3, .box tRecord (ownMd tRecord) [] v405.1), (4, .val i64 v405.2.1), (5, .val i64 v405.2.2)], vr := [], lent := [] }) (loopC rec (keepF [0, 2, 3, 4, 5] []) K) = b0 (S0 rec a1) (X0_0 K a1) a1 v405 := by kernel_rfl
theorem B0_eq (k : Nat) (rec : St → Option Out) (K : Ex → St → Option Out) (a1 : Arg) (v405 : Record × Int × Int) : codeK E k fin (sub [1, 1, 1, 0, 1, 0, 0] C) ({ n := 73, sl := [(0, .val (.slc u8) a1.1), (2, .box tRecord (ownMd tRecord) [] ((0 : Int), (0 : Int), (0 : Int), ([] : List Run), ())), (3, .box tRecord (ownMd tRecord) [] v405.1), (4, .val i64 v405.2.1), (5, .val i64 v405.2.2)], vr := [], lent := [] }) (loopC rec (keepF [0, 2, 3, 4, 5] []) K) = B0 k (S0 rec a1) (X0_0 K a1) a1 v405 := (b0_eq k rec K a1 v405).trans (by rfl)
noncomputable def l0 (k : Nat) (a1 : Arg) (e0 : Record → Option Out) (v : Record × Int × Int) : Option Out := rawIter (fun self v => B0 k self e0 a1 v) k v
theorem l0_eq (k : Nat) (K : Ex → St → Option Out) (a1 : Arg) (v405 : Record × Int × Int) : iterK (codeK E k fin (sub [1, 1, 1, 0, 1, 0, 0] C)) (keepF [0, 2, 3, 4, 5] []) K k ({ n := 73, sl := [(0, .val (.slc u8) a1.1), (2, .box tRecord (ownMd tRecord) [] ((0 : Int), (0 : Int), (0 : Int), ([] : List Run), ())), (3, .box tRecord (ownMd tRecord) [] v405.1), (4, .val i64 v405.2.1), (5, .val i64 v405.2.2)], vr := [], lent := [] }) = l0 k a1 (X0_0 K a1) v405 :=
  iter_raw _ _ K (fun v405 => ({ n := 73, sl := [(0, .val (.slc u8) a1.1), (2, .box tRecord (ownMd tRecord) [] ((0 : Int), (0 : Int), (0 : Int), ([] : List Run), ())), (3, .box tRecord (ownMd tRecord) [] v405.1), (4, .val i64 v405.2.1), (5, .val i64 v405.2.2)], vr := [], lent := [] } : St)) (fun self v => B0 k self (X0_0 K a1) a1 v) (fun rec v => B0_eq k rec K a1 v) k v405
noncomputable def q0 (a1 : Arg) (z611 : Record) : Option Out := some (z611, ())
noncomputable def Q0 (k : Nat) (a1 : Arg) (z611 : Record) : Option Out := q0 a1 z611
theorem q0_eq (k : Nat) (a1 : Arg) (z611 : Record) : (blockC 0 (seqC (codeK E k fin (sub [1, 1, 1, 1] C)) K0)) (.exit 0) ({ n := 73, sl := [(2, .box tRecord (ownMd tRecord) [] ((0 : Int), (0 : Int), (0 : Int), ([] : List Run), ())), (3, .box tRecord (ownMd tRecord) [] z611)], vr := [], lent := [] }) = q0 a1 z611 := by kernel_rfl
theorem Q0_eq (k : Nat) (a1 : Arg) (z611 : Record) : (blockC 0 (seqC (codeK E k fin (sub [1, 1, 1, 1] C)) K0)) (.exit 0) ({ n := 73, sl := [(2, .box tRecord (ownMd tRecord) [] ((0 : Int), (0 : Int), (0 : Int), ([] : List Run), ())), (3, .box tRecord (ownMd tRecord) [] z611)], vr := [], lent := [] }) = Q0 k a1 z611 := (q0_eq k a1 z611).trans (by rfl)
noncomputable def s0 (k : Nat) (a1 : Arg) : (Record × Int × Int) → Option Out := fun v405 => iterK (codeK E k fin (sub [1, 1, 1, 0, 1, 0, 0] C)) (keepF [0, 2, 3, 4, 5] []) (blockC 0 (seqC (codeK E k fin (sub [1, 1, 1, 1] C)) K0)) k ({ n := 73, sl := [(0, .val (.slc u8) a1.1), (2, .box tRecord (ownMd tRecord) [] ((0 : Int), (0 : Int), (0 : Int), ([] : List Run), ())), (3, .box tRecord (ownMd tRecord) [] v405.1), (4, .val i64 v405.2.1), (5, .val i64 v405.2.2)], vr := [], lent := [] })
noncomputable def r0 (k : Nat) (a1 : Arg) : (Record × Int × Int) → Option Out := fun v405 => l0 k a1 (fun z => Q0 k a1 z) v405
theorem s0_eq (k : Nat) (a1 : Arg) : s0 k a1 = r0 k a1 := by
  funext v405;
  have h0 : X0_0 ((blockC 0 (seqC (codeK E k fin (sub [1, 1, 1, 1] C)) K0))) a1 = fun z => Q0 k a1 z := funext fun z => Q0_eq k a1 z
  refine (l0_eq k ((blockC 0 (seqC (codeK E k fin (sub [1, 1, 1, 1] C)) K0))) a1 v405).trans ?_
  rw [h0]
  rfl
noncomputable def p (l0 : (Record × Int × Int) → Option Out) (a1 : Arg) : Option Out := (a1.1[1]?).bind fun x2 => (a1.1[2]?).bind fun x3 => (a1.1[3]?).bind fun x4 => l0 ((w64 (x2.toNat : Int), w64 (x3.toNat : Int), w64 (x4.toNat : Int), ([] : List Run), ()), (5 : Int), (0 : Int))
noncomputable def raw (k : Nat) (a1 : Arg) : Option Out := p (r0 k a1) a1
theorem p_eq (k : Nat) (a1 : Arg) : bodyK E k Go.Proofs.Try.f273 ps rs [] [] a1 = p (s0 k a1) a1 := by kernel_rfl
theorem raw_eq (k : Nat) (a1 : Arg) : bodyK E k Go.Proofs.Try.f273 ps rs [] [] a1 = raw k a1 := (p_eq k a1).trans (by rw [s0_eq]; rfl)
theorem ent : EnterOk Go.Proofs.Try.prog 273 sig.cap := ⟨Go.Proofs.Try.f273, Go.Proofs.Try.func273, by kernel_rfl, by kernel_rfl, by kernel_rfl⟩
theorem env : EnvOk Go.Proofs.Try.prog E := env_ok (tl := [(2, i64), (3, i64), (5, u8), (39, (.slc u8)), (59, (.slc tRun)), (61, tRecord), (236, tRun)]) (gl := [(245, spec_l2Copy.sig)]) rfl rfl (by kernel_rfl) (by kernel_rfl) (fn_cons spec_l2Copy.snd spec_l2Copy.ent (fn_nil _))
theorem chk : funOk Go.Proofs.Try.prog E Go.Proofs.Try.f273 ps rs [] = true := by kernel_rfl
theorem snd : Sound Go.Proofs.Try.prog 273 sig := sound_of_body env Go.Proofs.Try.func273 rfl (es := []) (fr := []) chk (fun _ _ h => lift_some h)
end spec_l4Read
namespace spec_ReadRecord
/-! loop example g00408 spec ReadRecord -/
abbrev Arg : Type := (List UInt8) × Unit
abbrev Out : Type := RecordResult × Unit
noncomputable def ps : List (PM × Ty) := [(.ro, (.slc u8))]
noncomputable def rs : List (Ty × Md) := [(tRecordResult, (ownMd tRecordResult))]
noncomputable def E : Env := { TI := lookN [(3, i64), (5, u8), (9, .str), (39, (.slc u8)), (61, tRecord), (289, tRecordResult)], G := lookN [(101, spec_l4Fault.sig), (130, spec_l4Pack.sig), (273, spec_l4Read.sig)], fz := [], lv := [], lx := [], lf := [], od := [(5, [0, 1, 2, 5, 6, 7, 8, 3, 4, 9, 10])], ar := [(5, [8])] }
noncomputable def sem (a : Arg) : Option Out := lift fun k => bodyK E k Go.Proofs.Try.f244 ps rs [] [] a
noncomputable def sig : Sig := { ps := ps, rs := rs, F := fun a => sem a }
noncomputable def C : Code := bodyOf Go.Proofs.Try.f244
noncomputable def fin : St → Option Out := outK ps rs [] (Func.results Go.Proofs.Try.f244).toList (mvs [])
noncomputable def K0 : Ex → St → Option Out := endK fin
noncomputable def p (a1 : Arg) : Option Out := bif decide ((a1.1.length : Int) < (7 : Int)) then (some (((5 : Int), (0 : Int), ((0 : Int), (0 : Int), (0 : Int), ([] : List Run), ()), ()), ())) else (a1.1[0]?).bind fun x2 => bif decide (w64 (x2.toNat : Int) < (7 : Int)) then (some (((5 : Int), (0 : Int), ((0 : Int), (0 : Int), (0 : Int), ([] : List Run), ()), ()), ())) else (a1.1[0]?).bind fun x3 => bif decide ((a1.1.length : Int) < w64 (x3.toNat : Int)) then (some (((5 : Int), (0 : Int), ((0 : Int), (0 : Int), (0 : Int), ([] : List Run), ()), ()), ())) else (a1.1[0]?).bind fun x4 => if 0 ≤ w64 (x4.toNat : Int) ∧ w64 (x4.toNat : Int) ≤ (a1.1.length : Int) then ((spec_l4Read.sem ((a1.1.take (w64 (x4.toNat : Int)).toNat).drop 0, ())).bind fun r5 => (spec_l4Fault.sem (r5.1, ())).bind fun r6 => bif !decide (r6.1 = (0 : Int)) then (some (((5 : Int), (0 : Int), ((0 : Int), (0 : Int), (0 : Int), ([] : List Run), ()), ()), ())) else if 0 ≤ w64 (x4.toNat : Int) ∧ w64 (x4.toNat : Int) ≤ (a1.1.length : Int) then ((spec_l4Pack.sem (r5.1, ())).bind fun r7 => bif !decide (r7.1 = (a1.1.take (w64 (x4.toNat : Int)).toNat).drop 0) then (some (((5 : Int), (0 : Int), ((0 : Int), (0 : Int), (0 : Int), ([] : List Run), ()), ()), ())) else some (((0 : Int), w64 (x4.toNat : Int), r5.1, ()), ())) else none) else none
noncomputable def raw (k : Nat) (a1 : Arg) : Option Out := p a1
theorem p_eq (k : Nat) (a1 : Arg) : bodyK E k Go.Proofs.Try.f244 ps rs [] [] a1 = p a1 := by kernel_rfl
theorem raw_eq (k : Nat) (a1 : Arg) : bodyK E k Go.Proofs.Try.f244 ps rs [] [] a1 = raw k a1 := (p_eq k a1).trans (by rfl)
theorem ent : EnterOk Go.Proofs.Try.prog 244 sig.cap := ⟨Go.Proofs.Try.f244, Go.Proofs.Try.func244, by kernel_rfl, by kernel_rfl, by kernel_rfl⟩
theorem env : EnvOk Go.Proofs.Try.prog E := env_ok (tl := [(3, i64), (5, u8), (9, .str), (39, (.slc u8)), (61, tRecord), (289, tRecordResult)]) (gl := [(101, spec_l4Fault.sig), (130, spec_l4Pack.sig), (273, spec_l4Read.sig)]) rfl rfl (by kernel_rfl) (by kernel_rfl) (fn_cons spec_l4Fault.snd spec_l4Fault.ent (fn_cons spec_l4Pack.snd spec_l4Pack.ent (fn_cons spec_l4Read.snd spec_l4Read.ent (fn_nil _))))
theorem chk : funOk Go.Proofs.Try.prog E Go.Proofs.Try.f244 ps rs [] = true := by kernel_rfl
theorem snd : Sound Go.Proofs.Try.prog 244 sig := sound_of_body env Go.Proofs.Try.func244 rfl (es := []) (fr := []) chk (fun _ _ h => lift_some h)
end spec_ReadRecord
namespace spec_l5Read
/-! loop example g00408 spec l5Read -/
abbrev Arg : Type := (List UInt8) × Unit
abbrev Out : Type := (List Record) × Int × Unit
noncomputable def ps : List (PM × Ty) := [(.ro, (.slc u8))]
noncomputable def rs : List (Ty × Md) := [((.slc tRecord), (ownMd (.slc tRecord))), (i64, (roMd i64))]
noncomputable def E : Env := { TI := lookN [(2, i64), (39, (.slc u8)), (61, tRecord), (76, (.slc tRecord)), (289, tRecordResult)], G := lookN [(244, spec_ReadRecord.sig)], fz := [], lv := [(3, [0, 4, 5])], lx := [(0, [4, 5])], lf := [], od := [] }
noncomputable def sem (a : Arg) : Option Out := lift fun k => bodyK E k Go.Proofs.Try.f182 ps rs [] [] a
noncomputable def sig : Sig := { ps := ps, rs := rs, F := fun a => sem a }
noncomputable def C : Code := bodyOf Go.Proofs.Try.f182
noncomputable def fin : St → Option Out := outK ps rs [] (Func.results Go.Proofs.Try.f182).toList (mvs [])
noncomputable def K0 : Ex → St → Option Out := endK fin
noncomputable def S0 (rec : St → Option Out) (a1 : Arg) : ((List Record) × Int) → Option Out := fun v402 => rec ({ n := 30, sl := [(0, .val (.slc u8) a1.1), (4, .own (.slc tRecord) (ownMd (.slc tRecord)) [] v402.1), (5, .val i64 v402.2)], vr := [], lent := [] })
noncomputable def X0_0 (K : Ex → St → Option Out) (a1 : Arg) : ((List Record) × Int) → Option Out := fun z => K (.exit 0) ({ n := 30, sl := [(4, .own (.slc tRecord) (ownMd (.slc tRecord)) [] z.1), (5, .val i64 z.2)], vr := [], lent := [] })
noncomputable def b0 (self : ((List Record) × Int) → Option Out) (e0 : ((List Record) × Int) → Option Out) (a1 : Arg) (v402 : (List Record) × Int) : Option Out := bif decide (v402.2 < (a1.1.length : Int)) then (if 0 ≤ v402.2 ∧ v402.2 ≤ (a1.1.length : Int) then ((spec_ReadRecord.sem ((a1.1.take a1.1.length).drop v402.2.toNat, ())).bind fun r603 => bif !decide (r603.1.1 = (0 : Int)) then (e0 (v402.1, v402.2)) else if v402.1.length + [r603.1.2.2.1].length ≤ CAP then (self (v402.1 ++ [r603.1.2.2.1], w64 (v402.2 + r603.1.2.1))) else none) else none) else e0 (v402.1, v402.2)
noncomputable def B0 (k : Nat) (self : ((List Record) × Int) → Option Out) (e0 : ((List Record) × Int) → Option Out) (a1 : Arg) (v402 : (List Record) × Int) : Option Out := b0 self e0 a1 v402
theorem b0_eq (k : Nat) (rec : St → Option Out) (K : Ex → St → Option Out) (a1 : Arg) (v402 : (List Record) × Int) : codeK E k fin (sub [1, 1, 1, 0, 0, 0] C) ({ n := 30, sl := [(0, .val (.slc u8) a1.1), (4, .own (.slc tRecord) (ownMd (.slc tRecord)) [] v402.1), (5, .val i64 v402.2)], vr := [], lent := [] }) (loopC rec (keepF [0, 4, 5] []) K) = b0 (S0 rec a1) (X0_0 K a1) a1 v402 := by kernel_rfl
theorem B0_eq (k : Nat) (rec : St → Option Out) (K : Ex → St → Option Out) (a1 : Arg) (v402 : (List Record) × Int) : codeK E k fin (sub [1, 1, 1, 0, 0, 0] C) ({ n := 30, sl := [(0, .val (.slc u8) a1.1), (4, .own (.slc tRecord) (ownMd (.slc tRecord)) [] v402.1), (5, .val i64 v402.2)], vr := [], lent := [] }) (loopC rec (keepF [0, 4, 5] []) K) = B0 k (S0 rec a1) (X0_0 K a1) a1 v402 := (b0_eq k rec K a1 v402).trans (by rfl)
noncomputable def l0 (k : Nat) (a1 : Arg) (e0 : ((List Record) × Int) → Option Out) (v : (List Record) × Int) : Option Out := rawIter (fun self v => B0 k self e0 a1 v) k v
theorem l0_eq (k : Nat) (K : Ex → St → Option Out) (a1 : Arg) (v402 : (List Record) × Int) : iterK (codeK E k fin (sub [1, 1, 1, 0, 0, 0] C)) (keepF [0, 4, 5] []) K k ({ n := 30, sl := [(0, .val (.slc u8) a1.1), (4, .own (.slc tRecord) (ownMd (.slc tRecord)) [] v402.1), (5, .val i64 v402.2)], vr := [], lent := [] }) = l0 k a1 (X0_0 K a1) v402 :=
  iter_raw _ _ K (fun v402 => ({ n := 30, sl := [(0, .val (.slc u8) a1.1), (4, .own (.slc tRecord) (ownMd (.slc tRecord)) [] v402.1), (5, .val i64 v402.2)], vr := [], lent := [] } : St)) (fun self v => B0 k self (X0_0 K a1) a1 v) (fun rec v => B0_eq k rec K a1 v) k v402
noncomputable def q0 (a1 : Arg) (z604 : ((List Record) × Int)) : Option Out := some (z604.1, z604.2, ())
noncomputable def Q0 (k : Nat) (a1 : Arg) (z604 : ((List Record) × Int)) : Option Out := q0 a1 z604
theorem q0_eq (k : Nat) (a1 : Arg) (z604 : ((List Record) × Int)) : (blockC 0 (seqC (codeK E k fin (sub [1, 1, 1, 1] C)) K0)) (.exit 0) ({ n := 30, sl := [(4, .own (.slc tRecord) (ownMd (.slc tRecord)) [] z604.1), (5, .val i64 z604.2)], vr := [], lent := [] }) = q0 a1 z604 := by kernel_rfl
theorem Q0_eq (k : Nat) (a1 : Arg) (z604 : ((List Record) × Int)) : (blockC 0 (seqC (codeK E k fin (sub [1, 1, 1, 1] C)) K0)) (.exit 0) ({ n := 30, sl := [(4, .own (.slc tRecord) (ownMd (.slc tRecord)) [] z604.1), (5, .val i64 z604.2)], vr := [], lent := [] }) = Q0 k a1 z604 := (q0_eq k a1 z604).trans (by rfl)
noncomputable def s0 (k : Nat) (a1 : Arg) : ((List Record) × Int) → Option Out := fun v402 => iterK (codeK E k fin (sub [1, 1, 1, 0, 0, 0] C)) (keepF [0, 4, 5] []) (blockC 0 (seqC (codeK E k fin (sub [1, 1, 1, 1] C)) K0)) k ({ n := 30, sl := [(0, .val (.slc u8) a1.1), (4, .own (.slc tRecord) (ownMd (.slc tRecord)) [] v402.1), (5, .val i64 v402.2)], vr := [], lent := [] })
noncomputable def r0 (k : Nat) (a1 : Arg) : ((List Record) × Int) → Option Out := fun v402 => l0 k a1 (fun z => Q0 k a1 z) v402
theorem s0_eq (k : Nat) (a1 : Arg) : s0 k a1 = r0 k a1 := by
  funext v402;
  have h0 : X0_0 ((blockC 0 (seqC (codeK E k fin (sub [1, 1, 1, 1] C)) K0))) a1 = fun z => Q0 k a1 z := funext fun z => Q0_eq k a1 z
  refine (l0_eq k ((blockC 0 (seqC (codeK E k fin (sub [1, 1, 1, 1] C)) K0))) a1 v402).trans ?_
  rw [h0]
  rfl
noncomputable def p (l0 : ((List Record) × Int) → Option Out) (a1 : Arg) : Option Out := l0 (([] : List Record), (0 : Int))
noncomputable def raw (k : Nat) (a1 : Arg) : Option Out := p (r0 k a1) a1
theorem p_eq (k : Nat) (a1 : Arg) : bodyK E k Go.Proofs.Try.f182 ps rs [] [] a1 = p (s0 k a1) a1 := by kernel_rfl
theorem raw_eq (k : Nat) (a1 : Arg) : bodyK E k Go.Proofs.Try.f182 ps rs [] [] a1 = raw k a1 := (p_eq k a1).trans (by rw [s0_eq]; rfl)
theorem ent : EnterOk Go.Proofs.Try.prog 182 sig.cap := ⟨Go.Proofs.Try.f182, Go.Proofs.Try.func182, by kernel_rfl, by kernel_rfl, by kernel_rfl⟩
theorem env : EnvOk Go.Proofs.Try.prog E := env_ok (tl := [(2, i64), (39, (.slc u8)), (61, tRecord), (76, (.slc tRecord)), (289, tRecordResult)]) (gl := [(244, spec_ReadRecord.sig)]) rfl rfl (by kernel_rfl) (by kernel_rfl) (fn_cons spec_ReadRecord.snd spec_ReadRecord.ent (fn_nil _))
theorem chk : funOk Go.Proofs.Try.prog E Go.Proofs.Try.f182 ps rs [] = true := by kernel_rfl
theorem snd : Sound Go.Proofs.Try.prog 182 sig := sound_of_body env Go.Proofs.Try.func182 rfl (es := []) (fr := []) chk (fun _ _ h => lift_some h)
end spec_l5Read
namespace spec_l5Fault
/-! loop example g00408 spec l5Fault -/
abbrev Arg : Type := Log × Unit
abbrev Out : Type := Int × Unit
noncomputable def ps : List (PM × Ty) := [(.ro, (.ptr tLog))]
noncomputable def rs : List (Ty × Md) := [(i64, (roMd i64))]
noncomputable def E : Env := { TI := lookN [(39, (.slc u8)), (41, tLog)], G := lookN [(182, spec_l5Read.sig)], fz := [], lv := [], lx := [], lf := [], od := [(1, [0, 1, 2, 3, 4, 5, 6, 7, 8, 9, 10, 11])] }
noncomputable def sem (a : Arg) : Option Out := lift fun k => bodyK E k Go.Proofs.Try.f100 ps rs [] [] a
noncomputable def sig : Sig := { ps := ps, rs := rs, F := fun a => sem a }
noncomputable def C : Code := bodyOf Go.Proofs.Try.f100
noncomputable def fin : St → Option Out := outK ps rs [] (Func.results Go.Proofs.Try.f100).toList (mvs [])
noncomputable def K0 : Ex → St → Option Out := endK fin
noncomputable def p (a1 : Arg) : Option Out := bif decide ((16000 : Int) < w64 ((a1.1.1.length : Int) + (a1.1.2.1.length : Int))) then (some ((2 : Int), ())) else (spec_l5Read.sem (a1.1.1, ())).bind fun r2 => bif !decide (r2.2.1 = (a1.1.1.length : Int)) then (some ((5 : Int), ())) else (spec_l5Read.sem (a1.1.2.1, ())).bind fun r3 => bif !decide (r3.2.1 = (a1.1.2.1.length : Int)) then (some ((5 : Int), ())) else some ((0 : Int), ())
noncomputable def raw (k : Nat) (a1 : Arg) : Option Out := p a1
theorem p_eq (k : Nat) (a1 : Arg) : bodyK E k Go.Proofs.Try.f100 ps rs [] [] a1 = p a1 := by kernel_rfl
theorem raw_eq (k : Nat) (a1 : Arg) : bodyK E k Go.Proofs.Try.f100 ps rs [] [] a1 = raw k a1 := (p_eq k a1).trans (by rfl)
theorem ent : EnterOk Go.Proofs.Try.prog 100 sig.cap := ⟨Go.Proofs.Try.f100, Go.Proofs.Try.func100, by kernel_rfl, by kernel_rfl, by kernel_rfl⟩
theorem env : EnvOk Go.Proofs.Try.prog E := env_ok (tl := [(39, (.slc u8)), (41, tLog)]) (gl := [(182, spec_l5Read.sig)]) rfl rfl (by kernel_rfl) (by kernel_rfl) (fn_cons spec_l5Read.snd spec_l5Read.ent (fn_nil _))
theorem chk : funOk Go.Proofs.Try.prog E Go.Proofs.Try.f100 ps rs [] = true := by kernel_rfl
theorem snd : Sound Go.Proofs.Try.prog 100 sig := sound_of_body env Go.Proofs.Try.func100 rfl (es := []) (fr := []) chk (fun _ _ h => lift_some h)
end spec_l5Fault
namespace spec_l5Copy
/-! loop example g00408 spec l5Copy -/
abbrev Arg : Type := Log × Unit
abbrev Out : Type := Log × Unit
noncomputable def ps : List (PM × Ty) := [(.ro, tLog)]
noncomputable def rs : List (Ty × Md) := [(tLog, (ownMd tLog))]
noncomputable def E : Env := { TI := lookN [(39, (.slc u8)), (41, tLog)], G := lookN [(245, spec_l2Copy.sig)], fz := [], lv := [], lx := [], lf := [], od := [(1, [0, 1, 3, 4, 2, 5, 6, 7])] }
noncomputable def sem (a : Arg) : Option Out := lift fun k => bodyK E k Go.Proofs.Try.f185 ps rs [] [] a
noncomputable def sig : Sig := { ps := ps, rs := rs, F := fun a => sem a }
noncomputable def C : Code := bodyOf Go.Proofs.Try.f185
noncomputable def fin : St → Option Out := outK ps rs [] (Func.results Go.Proofs.Try.f185).toList (mvs [])
noncomputable def K0 : Ex → St → Option Out := endK fin
noncomputable def p (a1 : Arg) : Option Out := (spec_l2Copy.sem (a1.1.1, ())).bind fun r2 => (spec_l2Copy.sem (a1.1.2.1, ())).bind fun r3 => some ((r2.1, r3.1, ()), ())
noncomputable def raw (k : Nat) (a1 : Arg) : Option Out := p a1
theorem p_eq (k : Nat) (a1 : Arg) : bodyK E k Go.Proofs.Try.f185 ps rs [] [] a1 = p a1 := by kernel_rfl
theorem raw_eq (k : Nat) (a1 : Arg) : bodyK E k Go.Proofs.Try.f185 ps rs [] [] a1 = raw k a1 := (p_eq k a1).trans (by rfl)
theorem ent : EnterOk Go.Proofs.Try.prog 185 sig.cap := ⟨Go.Proofs.Try.f185, Go.Proofs.Try.func185, by kernel_rfl, by kernel_rfl, by kernel_rfl⟩
theorem env : EnvOk Go.Proofs.Try.prog E := env_ok (tl := [(39, (.slc u8)), (41, tLog)]) (gl := [(245, spec_l2Copy.sig)]) rfl rfl (by kernel_rfl) (by kernel_rfl) (fn_cons spec_l2Copy.snd spec_l2Copy.ent (fn_nil _))
theorem chk : funOk Go.Proofs.Try.prog E Go.Proofs.Try.f185 ps rs [] = true := by kernel_rfl
theorem snd : Sound Go.Proofs.Try.prog 185 sig := sound_of_body env Go.Proofs.Try.func185 rfl (es := []) (fr := []) chk (fun _ _ h => lift_some h)
end spec_l5Copy
namespace spec_l5Append
/-! loop example g00408 spec l5Append -/
abbrev Arg : Type := Log × Record × Unit
abbrev Out : Type := Log × Bool × Unit
noncomputable def ps : List (PM × Ty) := [(.ro, tLog), (.ro, (.ptr tRecord))]
noncomputable def rs : List (Ty × Md) := [(tLog, (roMd tLog)), (.bool, (roMd .bool))]
noncomputable def E : Env := { TI := lookN [(39, (.slc u8)), (41, tLog)], G := lookN [(130, spec_l4Pack.sig), (185, spec_l5Copy.sig)], fz := [], lv := [], lx := [], lf := [], od := [] }
noncomputable def sem (a : Arg) : Option Out := lift fun k => bodyK E k Go.Proofs.Try.f102 ps rs [] [] a
noncomputable def sig : Sig := { ps := ps, rs := rs, F := fun a => sem a }
noncomputable def C : Code := bodyOf Go.Proofs.Try.f102
noncomputable def fin : St → Option Out := outK ps rs [] (Func.results Go.Proofs.Try.f102).toList (mvs [])
noncomputable def K0 : Ex → St → Option Out := endK fin
noncomputable def p (a1 : Arg) : Option Out := (spec_l4Pack.sem (a1.2.1, ())).bind fun r2 => bif decide ((16000 : Int) < w64 ((w64 ((a1.1.1.length : Int) + (a1.1.2.1.length : Int))) + (r2.1.length : Int))) then (some (a1.1, false, ())) else (spec_l5Copy.sem (a1.1, ())).bind fun r3 => if r3.1.2.1.length + r2.1.length ≤ CAP then (some ((r3.1.1, r3.1.2.1 ++ r2.1, r3.1.2.2), true, ())) else none
noncomputable def raw (k : Nat) (a1 : Arg) : Option Out := p a1
theorem p_eq (k : Nat) (a1 : Arg) : bodyK E k Go.Proofs.Try.f102 ps rs [] [] a1 = p a1 := by kernel_rfl
theorem raw_eq (k : Nat) (a1 : Arg) : bodyK E k Go.Proofs.Try.f102 ps rs [] [] a1 = raw k a1 := (p_eq k a1).trans (by rfl)
theorem ent : EnterOk Go.Proofs.Try.prog 102 sig.cap := ⟨Go.Proofs.Try.f102, Go.Proofs.Try.func102, by kernel_rfl, by kernel_rfl, by kernel_rfl⟩
theorem env : EnvOk Go.Proofs.Try.prog E := env_ok (tl := [(39, (.slc u8)), (41, tLog)]) (gl := [(130, spec_l4Pack.sig), (185, spec_l5Copy.sig)]) rfl rfl (by kernel_rfl) (by kernel_rfl) (fn_cons spec_l4Pack.snd spec_l4Pack.ent (fn_cons spec_l5Copy.snd spec_l5Copy.ent (fn_nil _)))
theorem chk : funOk Go.Proofs.Try.prog E Go.Proofs.Try.f102 ps rs [] = true := by kernel_rfl
theorem snd : Sound Go.Proofs.Try.prog 102 sig := sound_of_body env Go.Proofs.Try.func102 rfl (es := []) (fr := []) chk (fun _ _ h => lift_some h)
end spec_l5Append
namespace spec_AppendLog
/-! loop example g00408 spec AppendLog -/
abbrev Arg : Type := Log × Record × Unit
abbrev Out : Type := LogResult × Unit
noncomputable def ps : List (PM × Ty) := [(.ro, tLog), (.ro, tRecord)]
noncomputable def rs : List (Ty × Md) := [(tLogResult, (roMd tLogResult))]
noncomputable def E : Env := { TI := lookN [(41, tLog), (56, tLogResult), (61, tRecord)], G := lookN [(100, spec_l5Fault.sig), (101, spec_l4Fault.sig), (102, spec_l5Append.sig)], fz := [], lv := [], lx := [], lf := [], od := [] }
noncomputable def sem (a : Arg) : Option Out := lift fun k => bodyK E k Go.Proofs.Try.f29 ps rs [] [] a
noncomputable def sig : Sig := { ps := ps, rs := rs, F := fun a => sem a }
noncomputable def C : Code := bodyOf Go.Proofs.Try.f29
noncomputable def fin : St → Option Out := outK ps rs [] (Func.results Go.Proofs.Try.f29).toList (mvs [])
noncomputable def K0 : Ex → St → Option Out := endK fin
noncomputable def p (a1 : Arg) : Option Out := (spec_l5Fault.sem (a1.1, ())).bind fun r2 => bif !decide (r2.1 = (0 : Int)) then (some ((r2.1, (([] : List UInt8), ([] : List UInt8), ()), ()), ())) else (spec_l4Fault.sem (a1.2.1, ())).bind fun r3 => bif !decide (r3.1 = (0 : Int)) then (some ((r3.1, (([] : List UInt8), ([] : List UInt8), ()), ()), ())) else (spec_l5Append.sem (a1.1, a1.2.1, ())).bind fun r4 => bif !r4.2.1 then (some (((9 : Int), (([] : List UInt8), ([] : List UInt8), ()), ()), ())) else some (((0 : Int), r4.1, ()), ())
noncomputable def raw (k : Nat) (a1 : Arg) : Option Out := p a1
theorem p_eq (k : Nat) (a1 : Arg) : bodyK E k Go.Proofs.Try.f29 ps rs [] [] a1 = p a1 := by kernel_rfl
theorem raw_eq (k : Nat) (a1 : Arg) : bodyK E k Go.Proofs.Try.f29 ps rs [] [] a1 = raw k a1 := (p_eq k a1).trans (by rfl)
theorem ent : EnterOk Go.Proofs.Try.prog 29 sig.cap := ⟨Go.Proofs.Try.f29, Go.Proofs.Try.func29, by kernel_rfl, by kernel_rfl, by kernel_rfl⟩
theorem env : EnvOk Go.Proofs.Try.prog E := env_ok (tl := [(41, tLog), (56, tLogResult), (61, tRecord)]) (gl := [(100, spec_l5Fault.sig), (101, spec_l4Fault.sig), (102, spec_l5Append.sig)]) rfl rfl (by kernel_rfl) (by kernel_rfl) (fn_cons spec_l5Fault.snd spec_l5Fault.ent (fn_cons spec_l4Fault.snd spec_l4Fault.ent (fn_cons spec_l5Append.snd spec_l5Append.ent (fn_nil _))))
theorem chk : funOk Go.Proofs.Try.prog E Go.Proofs.Try.f29 ps rs [] = true := by kernel_rfl
theorem snd : Sound Go.Proofs.Try.prog 29 sig := sound_of_body env Go.Proofs.Try.func29 rfl (es := []) (fr := []) chk (fun _ _ h => lift_some h)
end spec_AppendLog
namespace laws_toByteS
/-! loop example g00408 laws toByteS -/
abbrev Arg : Type := (List UInt8) × Unit
abbrev Out : Type := (List UInt8) × Unit
noncomputable def ps : List (PM × Ty) := [(.ro, (.slc u8))]
noncomputable def rs : List (Ty × Md) := [((.slc u8), (ownMd (.slc u8)))]
noncomputable def E : Env := { TI := lookN [(5, u8), (39, (.slc u8))], G := lookN [], fz := [], lv := [(3, [0, 3, 4])], lx := [(0, [3])], lf := [], od := [] }
noncomputable def sem (a : Arg) : Option Out := lift fun k => bodyK E k Go.Proofs.Try.f103 ps rs [] [] a
noncomputable def sig : Sig := { ps := ps, rs := rs, F := fun a => sem a }
noncomputable def C : Code := bodyOf Go.Proofs.Try.f103
noncomputable def fin : St → Option Out := outK ps rs [] (Func.results Go.Proofs.Try.f103).toList (mvs [])
noncomputable def K0 : Ex → St → Option Out := endK fin
noncomputable def S0 (rec : St → Option Out) (a1 : Arg) : ((List UInt8) × Int) → Option Out := fun v402 => rec ({ n := 22, sl := [(0, .val (.slc u8) a1.1), (3, .own (.slc u8) (ownMd (.slc u8)) [] v402.1), (4, .val i64 v402.2)], vr := [], lent := [] })
noncomputable def X0_0 (K : Ex → St → Option Out) (a1 : Arg) : (List UInt8) → Option Out := fun z => K (.exit 0) ({ n := 22, sl := [(3, .own (.slc u8) (ownMd (.slc u8)) [] z)], vr := [], lent := [] })
noncomputable def b0 (self : ((List UInt8) × Int) → Option Out) (e0 : (List UInt8) → Option Out) (a1 : Arg) (v402 : (List UInt8) × Int) : Option Out := bif decide (v402.2 < (a1.1.length : Int)) then (if 0 ≤ v402.2 then ((a1.1[v402.2.toNat]?).bind fun x603 => if 0 ≤ v402.2 ∧ v402.2 < (v402.1.length : Int) then ((v402.1[v402.2.toNat]?).bind fun x604 => self (v402.1.set v402.2.toNat x603, w64 (v402.2 + (1 : Int)))) else none) else none) else e0 v402.1
noncomputable def B0 (k : Nat) (self : ((List UInt8) × Int) → Option Out) (e0 : (List UInt8) → Option Out) (a1 : Arg) (v402 : (List UInt8) × Int) : Option Out := b0 self e0 a1 v402
theorem b0_eq (k : Nat) (rec : St → Option Out) (K : Ex → St → Option Out) (a1 : Arg) (v402 : (List UInt8) × Int) : codeK E k fin (sub [1, 1, 0, 1, 0, 0] C) ({ n := 22, sl := [(0, .val (.slc u8) a1.1), (3, .own (.slc u8) (ownMd (.slc u8)) [] v402.1), (4, .val i64 v402.2)], vr := [], lent := [] }) (loopC rec (keepF [0, 3, 4] []) K) = b0 (S0 rec a1) (X0_0 K a1) a1 v402 := by kernel_rfl
theorem B0_eq (k : Nat) (rec : St → Option Out) (K : Ex → St → Option Out) (a1 : Arg) (v402 : (List UInt8) × Int) : codeK E k fin (sub [1, 1, 0, 1, 0, 0] C) ({ n := 22, sl := [(0, .val (.slc u8) a1.1), (3, .own (.slc u8) (ownMd (.slc u8)) [] v402.1), (4, .val i64 v402.2)], vr := [], lent := [] }) (loopC rec (keepF [0, 3, 4] []) K) = B0 k (S0 rec a1) (X0_0 K a1) a1 v402 := (b0_eq k rec K a1 v402).trans (by rfl)
noncomputable def l0 (k : Nat) (a1 : Arg) (e0 : (List UInt8) → Option Out) (v : (List UInt8) × Int) : Option Out := rawIter (fun self v => B0 k self e0 a1 v) k v
theorem l0_eq (k : Nat) (K : Ex → St → Option Out) (a1 : Arg) (v402 : (List UInt8) × Int) : iterK (codeK E k fin (sub [1, 1, 0, 1, 0, 0] C)) (keepF [0, 3, 4] []) K k ({ n := 22, sl := [(0, .val (.slc u8) a1.1), (3, .own (.slc u8) (ownMd (.slc u8)) [] v402.1), (4, .val i64 v402.2)], vr := [], lent := [] }) = l0 k a1 (X0_0 K a1) v402 :=
  iter_raw _ _ K (fun v402 => ({ n := 22, sl := [(0, .val (.slc u8) a1.1), (3, .own (.slc u8) (ownMd (.slc u8)) [] v402.1), (4, .val i64 v402.2)], vr := [], lent := [] } : St)) (fun self v => B0 k self (X0_0 K a1) a1 v) (fun rec v => B0_eq k rec K a1 v) k v402
noncomputable def q0 (a1 : Arg) (z605 : (List UInt8)) : Option Out := some (z605, ())
noncomputable def Q0 (k : Nat) (a1 : Arg) (z605 : (List UInt8)) : Option Out := q0 a1 z605
theorem q0_eq (k : Nat) (a1 : Arg) (z605 : (List UInt8)) : (blockC 0 (seqC (codeK E k fin (sub [1, 1, 1] C)) K0)) (.exit 0) ({ n := 22, sl := [(3, .own (.slc u8) (ownMd (.slc u8)) [] z605)], vr := [], lent := [] }) = q0 a1 z605 := by kernel_rfl
theorem Q0_eq (k : Nat) (a1 : Arg) (z605 : (List UInt8)) : (blockC 0 (seqC (codeK E k fin (sub [1, 1, 1] C)) K0)) (.exit 0) ({ n := 22, sl := [(3, .own (.slc u8) (ownMd (.slc u8)) [] z605)], vr := [], lent := [] }) = Q0 k a1 z605 := (q0_eq k a1 z605).trans (by rfl)
noncomputable def s0 (k : Nat) (a1 : Arg) : ((List UInt8) × Int) → Option Out := fun v402 => iterK (codeK E k fin (sub [1, 1, 0, 1, 0, 0] C)) (keepF [0, 3, 4] []) (blockC 0 (seqC (codeK E k fin (sub [1, 1, 1] C)) K0)) k ({ n := 22, sl := [(0, .val (.slc u8) a1.1), (3, .own (.slc u8) (ownMd (.slc u8)) [] v402.1), (4, .val i64 v402.2)], vr := [], lent := [] })
noncomputable def r0 (k : Nat) (a1 : Arg) : ((List UInt8) × Int) → Option Out := fun v402 => l0 k a1 (fun z => Q0 k a1 z) v402
theorem s0_eq (k : Nat) (a1 : Arg) : s0 k a1 = r0 k a1 := by
  funext v402;
  have h0 : X0_0 ((blockC 0 (seqC (codeK E k fin (sub [1, 1, 1] C)) K0))) a1 = fun z => Q0 k a1 z := funext fun z => Q0_eq k a1 z
  refine (l0_eq k ((blockC 0 (seqC (codeK E k fin (sub [1, 1, 1] C)) K0))) a1 v402).trans ?_
  rw [h0]
  rfl
noncomputable def p (l0 : ((List UInt8) × Int) → Option Out) (a1 : Arg) : Option Out := if 0 ≤ (a1.1.length : Int) ∧ (a1.1.length : Int) ≤ (a1.1.length : Int) ∧ (a1.1.length : Int) ≤ (CAP : Int) then (l0 (List.replicate (a1.1.length : Int).toNat (0 : UInt8), (0 : Int))) else none
noncomputable def raw (k : Nat) (a1 : Arg) : Option Out := p (r0 k a1) a1
theorem p_eq (k : Nat) (a1 : Arg) : bodyK E k Go.Proofs.Try.f103 ps rs [] [] a1 = p (s0 k a1) a1 := by kernel_rfl
theorem raw_eq (k : Nat) (a1 : Arg) : bodyK E k Go.Proofs.Try.f103 ps rs [] [] a1 = raw k a1 := (p_eq k a1).trans (by rw [s0_eq]; rfl)
theorem ent : EnterOk Go.Proofs.Try.prog 103 sig.cap := ⟨Go.Proofs.Try.f103, Go.Proofs.Try.func103, by kernel_rfl, by kernel_rfl, by kernel_rfl⟩
theorem env : EnvOk Go.Proofs.Try.prog E := env_ok (tl := [(5, u8), (39, (.slc u8))]) (gl := []) rfl rfl (by kernel_rfl) (by kernel_rfl) (fn_nil _)
theorem chk : funOk Go.Proofs.Try.prog E Go.Proofs.Try.f103 ps rs [] = true := by kernel_rfl
theorem snd : Sound Go.Proofs.Try.prog 103 sig := sound_of_body env Go.Proofs.Try.func103 rfl (es := []) (fr := []) chk (fun _ _ h => lift_some h)
end laws_toByteS
namespace laws_toLog
/-! loop example g00408 laws toLog -/
abbrev Arg : Type := Log × Unit
abbrev Out : Type := Log × Unit
noncomputable def ps : List (PM × Ty) := [(.ro, tLog)]
noncomputable def rs : List (Ty × Md) := [(tLog, (ownMd tLog))]
noncomputable def E : Env := { TI := lookN [(39, (.slc u8)), (41, tLog), (49, tLog)], G := lookN [(103, laws_toByteS.sig)], fz := [], lv := [], lx := [], lf := [], od := [] }
noncomputable def sem (a : Arg) : Option Out := lift fun k => bodyK E k Go.Proofs.Try.f30 ps rs [] [] a
noncomputable def sig : Sig := { ps := ps, rs := rs, F := fun a => sem a }
noncomputable def C : Code := bodyOf Go.Proofs.Try.f30
noncomputable def fin : St → Option Out := outK ps rs [] (Func.results Go.Proofs.Try.f30).toList (mvs [])
noncomputable def K0 : Ex → St → Option Out := endK fin
noncomputable def p (a1 : Arg) : Option Out := (laws_toByteS.sem (a1.1.1, ())).bind fun r2 => (laws_toByteS.sem (a1.1.2.1, ())).bind fun r3 => some ((r2.1, r3.1, ()), ())
noncomputable def raw (k : Nat) (a1 : Arg) : Option Out := p a1
theorem p_eq (k : Nat) (a1 : Arg) : bodyK E k Go.Proofs.Try.f30 ps rs [] [] a1 = p a1 := by kernel_rfl
theorem raw_eq (k : Nat) (a1 : Arg) : bodyK E k Go.Proofs.Try.f30 ps rs [] [] a1 = raw k a1 := (p_eq k a1).trans (by rfl)
theorem ent : EnterOk Go.Proofs.Try.prog 30 sig.cap := ⟨Go.Proofs.Try.f30, Go.Proofs.Try.func30, by kernel_rfl, by kernel_rfl, by kernel_rfl⟩
theorem env : EnvOk Go.Proofs.Try.prog E := env_ok (tl := [(39, (.slc u8)), (41, tLog), (49, tLog)]) (gl := [(103, laws_toByteS.sig)]) rfl rfl (by kernel_rfl) (by kernel_rfl) (fn_cons laws_toByteS.snd laws_toByteS.ent (fn_nil _))
theorem chk : funOk Go.Proofs.Try.prog E Go.Proofs.Try.f30 ps rs [] = true := by kernel_rfl
theorem snd : Sound Go.Proofs.Try.prog 30 sig := sound_of_body env Go.Proofs.Try.func30 rfl (es := []) (fr := []) chk (fun _ _ h => lift_some h)
end laws_toLog
namespace laws_toRun
/-! loop example g00408 laws toRun -/
abbrev Arg : Type := Run × Unit
abbrev Out : Type := Run × Unit
noncomputable def ps : List (PM × Ty) := [(.ro, tRun)]
noncomputable def rs : List (Ty × Md) := [(tRun, (ownMd tRun))]
noncomputable def E : Env := { TI := lookN [(2, i64), (39, (.slc u8)), (234, tRun), (236, tRun)], G := lookN [(103, laws_toByteS.sig)], fz := [], lv := [], lx := [], lf := [], od := [] }
noncomputable def sem (a : Arg) : Option Out := lift fun k => bodyK E k Go.Proofs.Try.f186 ps rs [] [] a
noncomputable def sig : Sig := { ps := ps, rs := rs, F := fun a => sem a }
noncomputable def C : Code := bodyOf Go.Proofs.Try.f186
noncomputable def fin : St → Option Out := outK ps rs [] (Func.results Go.Proofs.Try.f186).toList (mvs [])
noncomputable def K0 : Ex → St → Option Out := endK fin
noncomputable def p (a1 : Arg) : Option Out := (laws_toByteS.sem (a1.1.2.1, ())).bind fun r2 => some ((a1.1.1, r2.1, ()), ())
noncomputable def raw (k : Nat) (a1 : Arg) : Option Out := p a1
theorem p_eq (k : Nat) (a1 : Arg) : bodyK E k Go.Proofs.Try.f186 ps rs [] [] a1 = p a1 := by kernel_rfl
theorem raw_eq (k : Nat) (a1 : Arg) : bodyK E k Go.Proofs.Try.f186 ps rs [] [] a1 = raw k a1 := (p_eq k a1).trans (by rfl)
theorem ent : EnterOk Go.Proofs.Try.prog 186 sig.cap := ⟨Go.Proofs.Try.f186, Go.Proofs.Try.func186, by kernel_rfl, by kernel_rfl, by kernel_rfl⟩
theorem env : EnvOk Go.Proofs.Try.prog E := env_ok (tl := [(2, i64), (39, (.slc u8)), (234, tRun), (236, tRun)]) (gl := [(103, laws_toByteS.sig)]) rfl rfl (by kernel_rfl) (by kernel_rfl) (fn_cons laws_toByteS.snd laws_toByteS.ent (fn_nil _))
theorem chk : funOk Go.Proofs.Try.prog E Go.Proofs.Try.f186 ps rs [] = true := by kernel_rfl
theorem snd : Sound Go.Proofs.Try.prog 186 sig := sound_of_body env Go.Proofs.Try.func186 rfl (es := []) (fr := []) chk (fun _ _ h => lift_some h)
end laws_toRun
namespace laws_toRunS
/-! loop example g00408 laws toRunS -/
abbrev Arg : Type := (List Run) × Unit
abbrev Out : Type := (List Run) × Unit
noncomputable def ps : List (PM × Ty) := [(.ro, (.slc tRun))]
noncomputable def rs : List (Ty × Md) := [((.slc tRun), (ownMd (.slc tRun)))]
noncomputable def E : Env := { TI := lookN [(50, (.slc tRun)), (59, (.slc tRun)), (234, tRun), (236, tRun)], G := lookN [(186, laws_toRun.sig)], fz := [], lv := [(3, [0, 3, 4])], lx := [(0, [3])], lf := [], od := [] }
noncomputable def sem (a : Arg) : Option Out := lift fun k => bodyK E k Go.Proofs.Try.f104 ps rs [] [] a
noncomputable def sig : Sig := { ps := ps, rs := rs, F := fun a => sem a }
noncomputable def C : Code := bodyOf Go.Proofs.Try.f104
noncomputable def fin : St → Option Out := outK ps rs [] (Func.results Go.Proofs.Try.f104).toList (mvs [])
noncomputable def K0 : Ex → St → Option Out := endK fin
noncomputable def S0 (rec : St → Option Out) (a1 : Arg) : ((List Run) × Int) → Option Out := fun v402 => rec ({ n := 23, sl := [(0, .val (.slc tRun) a1.1), (3, .own (.slc tRun) (ownMd (.slc tRun)) [] v402.1), (4, .val i64 v402.2)], vr := [], lent := [] })
noncomputable def X0_0 (K : Ex → St → Option Out) (a1 : Arg) : (List Run) → Option Out := fun z => K (.exit 0) ({ n := 23, sl := [(3, .own (.slc tRun) (ownMd (.slc tRun)) [] z)], vr := [], lent := [] })
noncomputable def b0 (self : ((List Run) × Int) → Option Out) (e0 : (List Run) → Option Out) (a1 : Arg) (v402 : (List Run) × Int) : Option Out := bif decide (v402.2 < (a1.1.length : Int)) then (if 0 ≤ v402.2 then ((a1.1[v402.2.toNat]?).bind fun x603 => (laws_toRun.sem (x603, ())).bind fun r604 => if 0 ≤ v402.2 ∧ v402.2 < (v402.1.length : Int) then ((v402.1[v402.2.toNat]?).bind fun x605 => self (v402.1.set v402.2.toNat r604.1, w64 (v402.2 + (1 : Int)))) else none) else none) else e0 v402.1
noncomputable def B0 (k : Nat) (self : ((List Run) × Int) → Option Out) (e0 : (List Run) → Option Out) (a1 : Arg) (v402 : (List Run) × Int) : Option Out := b0 self e0 a1 v402
theorem b0_eq (k : Nat) (rec : St → Option Out) (K : Ex → St → Option Out) (a1 : Arg) (v402 : (List Run) × Int) : codeK E k fin (sub [1, 1, 0, 1, 0, 0] C) ({ n := 23, sl := [(0, .val (.slc tRun) a1.1), (3, .own (.slc tRun) (ownMd (.slc tRun)) [] v402.1), (4, .val i64 v402.2)], vr := [], lent := [] }) (loopC rec (keepF [0, 3, 4] []) K) = b0 (S0 rec a1) (X0_0 K a1) a1 v402 := by kernel_rfl
theorem B0_eq (k : Nat) (rec : St → Option Out) (K : Ex → St → Option Out) (a1 : Arg) (v402 : (List Run) × Int) : codeK E k fin (sub [1, 1, 0, 1, 0, 0] C) ({ n := 23, sl := [(0, .val (.slc tRun) a1.1), (3, .own (.slc tRun) (ownMd (.slc tRun)) [] v402.1), (4, .val i64 v402.2)], vr := [], lent := [] }) (loopC rec (keepF [0, 3, 4] []) K) = B0 k (S0 rec a1) (X0_0 K a1) a1 v402 := (b0_eq k rec K a1 v402).trans (by rfl)
noncomputable def l0 (k : Nat) (a1 : Arg) (e0 : (List Run) → Option Out) (v : (List Run) × Int) : Option Out := rawIter (fun self v => B0 k self e0 a1 v) k v
theorem l0_eq (k : Nat) (K : Ex → St → Option Out) (a1 : Arg) (v402 : (List Run) × Int) : iterK (codeK E k fin (sub [1, 1, 0, 1, 0, 0] C)) (keepF [0, 3, 4] []) K k ({ n := 23, sl := [(0, .val (.slc tRun) a1.1), (3, .own (.slc tRun) (ownMd (.slc tRun)) [] v402.1), (4, .val i64 v402.2)], vr := [], lent := [] }) = l0 k a1 (X0_0 K a1) v402 :=
  iter_raw _ _ K (fun v402 => ({ n := 23, sl := [(0, .val (.slc tRun) a1.1), (3, .own (.slc tRun) (ownMd (.slc tRun)) [] v402.1), (4, .val i64 v402.2)], vr := [], lent := [] } : St)) (fun self v => B0 k self (X0_0 K a1) a1 v) (fun rec v => B0_eq k rec K a1 v) k v402
noncomputable def q0 (a1 : Arg) (z606 : (List Run)) : Option Out := some (z606, ())
noncomputable def Q0 (k : Nat) (a1 : Arg) (z606 : (List Run)) : Option Out := q0 a1 z606
theorem q0_eq (k : Nat) (a1 : Arg) (z606 : (List Run)) : (blockC 0 (seqC (codeK E k fin (sub [1, 1, 1] C)) K0)) (.exit 0) ({ n := 23, sl := [(3, .own (.slc tRun) (ownMd (.slc tRun)) [] z606)], vr := [], lent := [] }) = q0 a1 z606 := by kernel_rfl
theorem Q0_eq (k : Nat) (a1 : Arg) (z606 : (List Run)) : (blockC 0 (seqC (codeK E k fin (sub [1, 1, 1] C)) K0)) (.exit 0) ({ n := 23, sl := [(3, .own (.slc tRun) (ownMd (.slc tRun)) [] z606)], vr := [], lent := [] }) = Q0 k a1 z606 := (q0_eq k a1 z606).trans (by rfl)
noncomputable def s0 (k : Nat) (a1 : Arg) : ((List Run) × Int) → Option Out := fun v402 => iterK (codeK E k fin (sub [1, 1, 0, 1, 0, 0] C)) (keepF [0, 3, 4] []) (blockC 0 (seqC (codeK E k fin (sub [1, 1, 1] C)) K0)) k ({ n := 23, sl := [(0, .val (.slc tRun) a1.1), (3, .own (.slc tRun) (ownMd (.slc tRun)) [] v402.1), (4, .val i64 v402.2)], vr := [], lent := [] })
noncomputable def r0 (k : Nat) (a1 : Arg) : ((List Run) × Int) → Option Out := fun v402 => l0 k a1 (fun z => Q0 k a1 z) v402
theorem s0_eq (k : Nat) (a1 : Arg) : s0 k a1 = r0 k a1 := by
  funext v402;
  have h0 : X0_0 ((blockC 0 (seqC (codeK E k fin (sub [1, 1, 1] C)) K0))) a1 = fun z => Q0 k a1 z := funext fun z => Q0_eq k a1 z
  refine (l0_eq k ((blockC 0 (seqC (codeK E k fin (sub [1, 1, 1] C)) K0))) a1 v402).trans ?_
  rw [h0]
  rfl
noncomputable def p (l0 : ((List Run) × Int) → Option Out) (a1 : Arg) : Option Out := if 0 ≤ (a1.1.length : Int) ∧ (a1.1.length : Int) ≤ (a1.1.length : Int) ∧ (a1.1.length : Int) ≤ (CAP : Int) then (l0 (List.replicate (a1.1.length : Int).toNat ((0 : Int), ([] : List UInt8), ()), (0 : Int))) else none
noncomputable def raw (k : Nat) (a1 : Arg) : Option Out := p (r0 k a1) a1
theorem p_eq (k : Nat) (a1 : Arg) : bodyK E k Go.Proofs.Try.f104 ps rs [] [] a1 = p (s0 k a1) a1 := by kernel_rfl
theorem raw_eq (k : Nat) (a1 : Arg) : bodyK E k Go.Proofs.Try.f104 ps rs [] [] a1 = raw k a1 := (p_eq k a1).trans (by rw [s0_eq]; rfl)
theorem ent : EnterOk Go.Proofs.Try.prog 104 sig.cap := ⟨Go.Proofs.Try.f104, Go.Proofs.Try.func104, by kernel_rfl, by kernel_rfl, by kernel_rfl⟩
theorem env : EnvOk Go.Proofs.Try.prog E := env_ok (tl := [(50, (.slc tRun)), (59, (.slc tRun)), (234, tRun), (236, tRun)]) (gl := [(186, laws_toRun.sig)]) rfl rfl (by kernel_rfl) (by kernel_rfl) (fn_cons laws_toRun.snd laws_toRun.ent (fn_nil _))
theorem chk : funOk Go.Proofs.Try.prog E Go.Proofs.Try.f104 ps rs [] = true := by kernel_rfl
theorem snd : Sound Go.Proofs.Try.prog 104 sig := sound_of_body env Go.Proofs.Try.func104 rfl (es := []) (fr := []) chk (fun _ _ h => lift_some h)
end laws_toRunS
namespace laws_toRecord
/-! loop example g00408 laws toRecord -/
abbrev Arg : Type := Record × Unit
abbrev Out : Type := Record × Unit
noncomputable def ps : List (PM × Ty) := [(.ro, tRecord)]
noncomputable def rs : List (Ty × Md) := [(tRecord, (ownMd tRecord))]
noncomputable def E : Env := { TI := lookN [(2, i64), (50, (.slc tRun)), (52, tRecord), (59, (.slc tRun)), (61, tRecord)], G := lookN [(104, laws_toRunS.sig)], fz := [], lv := [], lx := [], lf := [], od := [] }
noncomputable def sem (a : Arg) : Option Out := lift fun k => bodyK E k Go.Proofs.Try.f31 ps rs [] [] a
noncomputable def sig : Sig := { ps := ps, rs := rs, F := fun a => sem a }
noncomputable def C : Code := bodyOf Go.Proofs.Try.f31
noncomputable def fin : St → Option Out := outK ps rs [] (Func.results Go.Proofs.Try.f31).toList (mvs [])
noncomputable def K0 : Ex → St → Option Out := endK fin
noncomputable def p (a1 : Arg) : Option Out := (laws_toRunS.sem (a1.1.2.2.2.1, ())).bind fun r2 => some ((a1.1.1, a1.1.2.1, a1.1.2.2.1, r2.1, ()), ())
noncomputable def raw (k : Nat) (a1 : Arg) : Option Out := p a1
theorem p_eq (k : Nat) (a1 : Arg) : bodyK E k Go.Proofs.Try.f31 ps rs [] [] a1 = p a1 := by kernel_rfl
theorem raw_eq (k : Nat) (a1 : Arg) : bodyK E k Go.Proofs.Try.f31 ps rs [] [] a1 = raw k a1 := (p_eq k a1).trans (by rfl)
theorem ent : EnterOk Go.Proofs.Try.prog 31 sig.cap := ⟨Go.Proofs.Try.f31, Go.Proofs.Try.func31, by kernel_rfl, by kernel_rfl, by kernel_rfl⟩
theorem env : EnvOk Go.Proofs.Try.prog E := env_ok (tl := [(2, i64), (50, (.slc tRun)), (52, tRecord), (59, (.slc tRun)), (61, tRecord)]) (gl := [(104, laws_toRunS.sig)]) rfl rfl (by kernel_rfl) (by kernel_rfl) (fn_cons laws_toRunS.snd laws_toRunS.ent (fn_nil _))
theorem chk : funOk Go.Proofs.Try.prog E Go.Proofs.Try.f31 ps rs [] = true := by kernel_rfl
theorem snd : Sound Go.Proofs.Try.prog 31 sig := sound_of_body env Go.Proofs.Try.func31 rfl (es := []) (fr := []) chk (fun _ _ h => lift_some h)
end laws_toRecord
namespace impl_turns
/-! loop example g00408 impl turns -/
abbrev Arg : Type := Int × Unit
abbrev Out : Type := Bool × Unit
noncomputable def ps : List (PM × Ty) := [(.ro, i64)]
noncomputable def rs : List (Ty × Md) := [(.bool, (roMd .bool))]
noncomputable def E : Env := { TI := lookN [], G := lookN [], fz := [], lv := [], lx := [], lf := [], od := [] }
noncomputable def sem (a : Arg) : Option Out := lift fun k => bodyK E k Go.Proofs.Try.f188 ps rs [] [] a
noncomputable def sig : Sig := { ps := ps, rs := rs, F := fun a => sem a }
noncomputable def C : Code := bodyOf Go.Proofs.Try.f188
noncomputable def fin : St → Option Out := outK ps rs [] (Func.results Go.Proofs.Try.f188).toList (mvs [])
noncomputable def K0 : Ex → St → Option Out := endK fin
noncomputable def p (a1 : Arg) : Option Out := bif decide (a1.1 = (2 : Int)) then (some (true, ())) else bif decide (a1.1 = (3 : Int)) then (some (true, ())) else some (decide (a1.1 = (4 : Int)), ())
noncomputable def raw (k : Nat) (a1 : Arg) : Option Out := p a1
theorem p_eq (k : Nat) (a1 : Arg) : bodyK E k Go.Proofs.Try.f188 ps rs [] [] a1 = p a1 := by kernel_rfl
theorem raw_eq (k : Nat) (a1 : Arg) : bodyK E k Go.Proofs.Try.f188 ps rs [] [] a1 = raw k a1 := (p_eq k a1).trans (by rfl)
theorem ent : EnterOk Go.Proofs.Try.prog 188 sig.cap := ⟨Go.Proofs.Try.f188, Go.Proofs.Try.func188, by kernel_rfl, by kernel_rfl, by kernel_rfl⟩
theorem env : EnvOk Go.Proofs.Try.prog E := env_ok (tl := []) (gl := []) rfl rfl (by kernel_rfl) (by kernel_rfl) (fn_nil _)
theorem chk : funOk Go.Proofs.Try.prog E Go.Proofs.Try.f188 ps rs [] = true := by kernel_rfl
theorem snd : Sound Go.Proofs.Try.prog 188 sig := sound_of_body env Go.Proofs.Try.func188 rfl (es := []) (fr := []) chk (fun _ _ h => lift_some h)
end impl_turns
namespace impl_isTx
/-! loop example g00408 impl isTx -/
abbrev Arg : Type := Int × Unit
abbrev Out : Type := Bool × Unit
noncomputable def ps : List (PM × Ty) := [(.ro, i64)]
noncomputable def rs : List (Ty × Md) := [(.bool, (roMd .bool))]
noncomputable def E : Env := { TI := lookN [], G := lookN [(91, impl_in.sig)], fz := [], lv := [], lx := [], lf := [], od := [] }
noncomputable def sem (a : Arg) : Option Out := lift fun k => bodyK E k Go.Proofs.Try.f189 ps rs [] [] a
noncomputable def sig : Sig := { ps := ps, rs := rs, F := fun a => sem a }
noncomputable def C : Code := bodyOf Go.Proofs.Try.f189
noncomputable def fin : St → Option Out := outK ps rs [] (Func.results Go.Proofs.Try.f189).toList (mvs [])
noncomputable def K0 : Ex → St → Option Out := endK fin
noncomputable def p (a1 : Arg) : Option Out := (impl_in.sem (a1.1, (1 : Int), (99 : Int), ())).bind fun r2 => some (r2.1, ())
noncomputable def raw (k : Nat) (a1 : Arg) : Option Out := p a1
theorem p_eq (k : Nat) (a1 : Arg) : bodyK E k Go.Proofs.Try.f189 ps rs [] [] a1 = p a1 := by kernel_rfl
theorem raw_eq (k : Nat) (a1 : Arg) : bodyK E k Go.Proofs.Try.f189 ps rs [] [] a1 = raw k a1 := (p_eq k a1).trans (by rfl)
theorem ent : EnterOk Go.Proofs.Try.prog 189 sig.cap := ⟨Go.Proofs.Try.f189, Go.Proofs.Try.func189, by kernel_rfl, by kernel_rfl, by kernel_rfl⟩
theorem env : EnvOk Go.Proofs.Try.prog E := env_ok (tl := []) (gl := [(91, impl_in.sig)]) rfl rfl (by kernel_rfl) (by kernel_rfl) (fn_cons impl_in.snd impl_in.ent (fn_nil _))
theorem chk : funOk Go.Proofs.Try.prog E Go.Proofs.Try.f189 ps rs [] = true := by kernel_rfl
theorem snd : Sound Go.Proofs.Try.prog 189 sig := sound_of_body env Go.Proofs.Try.func189 rfl (es := []) (fr := []) chk (fun _ _ h => lift_some h)
end impl_isTx
namespace impl_RunsFault
/-! loop example g00408 impl RunsFault -/
abbrev Arg : Type := (List Run) × Unit
abbrev Out : Type := Int × Unit
noncomputable def ps : List (PM × Ty) := [(.ro, (.slc tRun))]
noncomputable def rs : List (Ty × Md) := [(i64, (roMd i64))]
noncomputable def E : Env := { TI := lookN [(2, i64), (39, (.slc u8)), (59, (.slc tRun)), (236, tRun)], G := lookN [(91, impl_in.sig)], fz := [], lv := [(5, [3, 10, 11, 12])], lx := [(0, [])], lf := [], od := [] }
noncomputable def sem (a : Arg) : Option Out := lift fun k => bodyK E k Go.Proofs.Try.f190 ps rs [] [] a
noncomputable def sig : Sig := { ps := ps, rs := rs, F := fun a => sem a }
noncomputable def C : Code := bodyOf Go.Proofs.Try.f190
noncomputable def fin : St → Option Out := outK ps rs [] (Func.results Go.Proofs.Try.f190).toList (mvs [])
noncomputable def K0 : Ex → St → Option Out := endK fin
noncomputable def S0 (rec : St → Option Out) (a1 : Arg) : (Int × Int) → Option Out := fun v402 => rec ({ n := 45, sl := [(3, .val i64 v402.1), (10, .val (.slc tRun) a1.1), (11, .val i64 (a1.1.length : Int)), (12, .val i64 v402.2)], vr := [], lent := [] })
noncomputable def X0_0 (K : Ex → St → Option Out) (a1 : Arg) : (Unit) → Option Out := fun z => K (.exit 0) ({ n := 45, sl := [], vr := [], lent := [] })
noncomputable def b0 (self : (Int × Int) → Option Out) (e0 : (Unit) → Option Out) (a1 : Arg) (v402 : Int × Int) : Option Out := bif decide (v402.2 < (a1.1.length : Int)) then (if 0 ≤ v402.2 then ((a1.1[v402.2.toNat]?).bind fun x603 => (impl_in.sem (x603.1, (0 : Int), (63 : Int), ())).bind fun r604 => bif !r604.1 then (some ((3 : Int), ())) else (impl_in.sem ((x603.2.1.length : Int), (1 : Int), (64 : Int), ())).bind fun r605 => bif !r605.1 then (some ((3 : Int), ())) else bif decide ((64 : Int) < w64 (x603.1 + (x603.2.1.length : Int))) then (some ((3 : Int), ())) else bif decide (x603.1 < v402.1) then (some ((1 : Int), ())) else self (w64 ((w64 (x603.1 + (x603.2.1.length : Int))) + (1 : Int)), w64 (v402.2 + (1 : Int)))) else none) else e0 ()
noncomputable def B0 (k : Nat) (self : (Int × Int) → Option Out) (e0 : (Unit) → Option Out) (a1 : Arg) (v402 : Int × Int) : Option Out := b0 self e0 a1 v402
theorem b0_eq (k : Nat) (rec : St → Option Out) (K : Ex → St → Option Out) (a1 : Arg) (v402 : Int × Int) : codeK E k fin (sub [1, 1, 1, 0, 1, 0, 0] C) ({ n := 45, sl := [(3, .val i64 v402.1), (10, .val (.slc tRun) a1.1), (11, .val i64 (a1.1.length : Int)), (12, .val i64 v402.2)], vr := [], lent := [] }) (loopC rec (keepF [3, 10, 11, 12] []) K) = b0 (S0 rec a1) (X0_0 K a1) a1 v402 := by kernel_rfl
theorem B0_eq (k : Nat) (rec : St → Option Out) (K : Ex → St → Option Out) (a1 : Arg) (v402 : Int × Int) : codeK E k fin (sub [1, 1, 1, 0, 1, 0, 0] C) ({ n := 45, sl := [(3, .val i64 v402.1), (10, .val (.slc tRun) a1.1), (11, .val i64 (a1.1.length : Int)), (12, .val i64 v402.2)], vr := [], lent := [] }) (loopC rec (keepF [3, 10, 11, 12] []) K) = B0 k (S0 rec a1) (X0_0 K a1) a1 v402 := (b0_eq k rec K a1 v402).trans (by rfl)
noncomputable def l0 (k : Nat) (a1 : Arg) (e0 : (Unit) → Option Out) (v : Int × Int) : Option Out := rawIter (fun self v => B0 k self e0 a1 v) k v
theorem l0_eq (k : Nat) (K : Ex → St → Option Out) (a1 : Arg) (v402 : Int × Int) : iterK (codeK E k fin (sub [1, 1, 1, 0, 1, 0, 0] C)) (keepF [3, 10, 11, 12] []) K k ({ n := 45, sl := [(3, .val i64 v402.1), (10, .val (.slc tRun) a1.1), (11, .val i64 (a1.1.length : Int)), (12, .val i64 v402.2)], vr := [], lent := [] }) = l0 k a1 (X0_0 K a1) v402 :=
  iter_raw _ _ K (fun v402 => ({ n := 45, sl := [(3, .val i64 v402.1), (10, .val (.slc tRun) a1.1), (11, .val i64 (a1.1.length : Int)), (12, .val i64 v402.2)], vr := [], lent := [] } : St)) (fun self v => B0 k self (X0_0 K a1) a1 v) (fun rec v => B0_eq k rec K a1 v) k v402
noncomputable def q0 (a1 : Arg) (z606 : (Unit)) : Option Out := some ((0 : Int), ())
noncomputable def Q0 (k : Nat) (a1 : Arg) (z606 : (Unit)) : Option Out := q0 a1 z606
theorem q0_eq (k : Nat) (a1 : Arg) (z606 : (Unit)) : (blockC 0 (seqC (codeK E k fin (sub [1, 1, 1, 1] C)) K0)) (.exit 0) ({ n := 45, sl := [], vr := [], lent := [] }) = q0 a1 z606 := by kernel_rfl
theorem Q0_eq (k : Nat) (a1 : Arg) (z606 : (Unit)) : (blockC 0 (seqC (codeK E k fin (sub [1, 1, 1, 1] C)) K0)) (.exit 0) ({ n := 45, sl := [], vr := [], lent := [] }) = Q0 k a1 z606 := (q0_eq k a1 z606).trans (by rfl)
noncomputable def s0 (k : Nat) (a1 : Arg) : (Int × Int) → Option Out := fun v402 => iterK (codeK E k fin (sub [1, 1, 1, 0, 1, 0, 0] C)) (keepF [3, 10, 11, 12] []) (blockC 0 (seqC (codeK E k fin (sub [1, 1, 1, 1] C)) K0)) k ({ n := 45, sl := [(3, .val i64 v402.1), (10, .val (.slc tRun) a1.1), (11, .val i64 (a1.1.length : Int)), (12, .val i64 v402.2)], vr := [], lent := [] })
noncomputable def r0 (k : Nat) (a1 : Arg) : (Int × Int) → Option Out := fun v402 => l0 k a1 (fun z => Q0 k a1 z) v402
theorem s0_eq (k : Nat) (a1 : Arg) : s0 k a1 = r0 k a1 := by
  funext v402;
  have h0 : X0_0 ((blockC 0 (seqC (codeK E k fin (sub [1, 1, 1, 1] C)) K0))) a1 = fun z => Q0 k a1 z := funext fun z => Q0_eq k a1 z
  refine (l0_eq k ((blockC 0 (seqC (codeK E k fin (sub [1, 1, 1, 1] C)) K0))) a1 v402).trans ?_
  rw [h0]
  rfl
noncomputable def p (l0 : (Int × Int) → Option Out) (a1 : Arg) : Option Out := bif decide ((64 : Int) < (a1.1.length : Int)) then (some ((2 : Int), ())) else l0 ((0 : Int), (0 : Int))
noncomputable def raw (k : Nat) (a1 : Arg) : Option Out := p (r0 k a1) a1
theorem p_eq (k : Nat) (a1 : Arg) : bodyK E k Go.Proofs.Try.f190 ps rs [] [] a1 = p (s0 k a1) a1 := by kernel_rfl
theorem raw_eq (k : Nat) (a1 : Arg) : bodyK E k Go.Proofs.Try.f190 ps rs [] [] a1 = raw k a1 := (p_eq k a1).trans (by rw [s0_eq]; rfl)
theorem ent : EnterOk Go.Proofs.Try.prog 190 sig.cap := ⟨Go.Proofs.Try.f190, Go.Proofs.Try.func190, by kernel_rfl, by kernel_rfl, by kernel_rfl⟩
theorem env : EnvOk Go.Proofs.Try.prog E := env_ok (tl := [(2, i64), (39, (.slc u8)), (59, (.slc tRun)), (236, tRun)]) (gl := [(91, impl_in.sig)]) rfl rfl (by kernel_rfl) (by kernel_rfl) (fn_cons impl_in.snd impl_in.ent (fn_nil _))
theorem chk : funOk Go.Proofs.Try.prog E Go.Proofs.Try.f190 ps rs [] = true := by kernel_rfl
theorem snd : Sound Go.Proofs.Try.prog 190 sig := sound_of_body env Go.Proofs.Try.func190 rfl (es := []) (fr := []) chk (fun _ _ h => lift_some h)
end impl_RunsFault
namespace impl_RecordFault
/-! loop example g00408 impl RecordFault -/
abbrev Arg : Type := Record × Unit
abbrev Out : Type := Int × Unit
noncomputable def ps : List (PM × Ty) := [(.ro, tRecord)]
noncomputable def rs : List (Ty × Md) := [(i64, (roMd i64))]
noncomputable def E : Env := { TI := lookN [(2, i64), (39, (.slc u8)), (59, (.slc tRun)), (61, tRecord), (236, tRun)], G := lookN [(91, impl_in.sig), (188, impl_turns.sig), (189, impl_isTx.sig), (190, impl_RunsFault.sig)], fz := [], lv := [], lx := [], lf := [], od := [] }
noncomputable def sem (a : Arg) : Option Out := lift fun k => bodyK E k Go.Proofs.Try.f106 ps rs [] [] a
noncomputable def sig : Sig := { ps := ps, rs := rs, F := fun a => sem a }
noncomputable def C : Code := bodyOf Go.Proofs.Try.f106
noncomputable def fin : St → Option Out := outK ps rs [] (Func.results Go.Proofs.Try.f106).toList (mvs [])
noncomputable def K0 : Ex → St → Option Out := endK fin
noncomputable def p (a1 : Arg) : Option Out := let j15 : Option Out := let j23 : Option Out := (impl_RunsFault.sem (a1.1.2.2.2.1, ())).bind fun r24 => bif !decide (r24.1 = (0 : Int)) then (some (r24.1, ())) else (impl_turns.sem (a1.1.1, ())).bind fun r25 => bif r25.1 then (bif decide ((a1.1.2.2.2.1.length : Int) = (0 : Int)) then (some ((1 : Int), ())) else bif decide (a1.1.1 = (4 : Int)) then (bif !decide ((a1.1.2.2.2.1.length : Int) = (1 : Int)) then (some ((1 : Int), ())) else (a1.1.2.2.2.1[0]?).bind fun x26 => bif !decide ((x26.2.1.length : Int) = (64 : Int)) then (some ((1 : Int), ())) else some ((0 : Int), ())) else some ((0 : Int), ())) else bif decide (a1.1.1 = (4 : Int)) then (bif !decide ((a1.1.2.2.2.1.length : Int) = (1 : Int)) then (some ((1 : Int), ())) else (a1.1.2.2.2.1[0]?).bind fun x27 => bif !decide ((x27.2.1.length : Int) = (64 : Int)) then (some ((1 : Int), ())) else some ((0 : Int), ())) else some ((0 : Int), ()); bif !decide (a1.1.1 = (4 : Int)) then ((impl_isTx.sem (a1.1.2.1, ())).bind fun r16 => bif !r16.1 then (some ((3 : Int), ())) else (impl_in.sem (a1.1.2.2.1, (0 : Int), (11 : Int), ())).bind fun r17 => bif !r17.1 then (some ((3 : Int), ())) else j23) else (impl_in.sem (a1.1.2.2.1, (0 : Int), (11 : Int), ())).bind fun r18 => bif !r18.1 then (some ((3 : Int), ())) else j23; (impl_in.sem (a1.1.1, (1 : Int), (6 : Int), ())).bind fun r2 => bif !r2.1 then (some ((1 : Int), ())) else (impl_turns.sem (a1.1.1, ())).bind fun r3 => bif !r3.1 then (bif !decide (a1.1.2.2.1 = (0 : Int)) then (some ((1 : Int), ())) else bif decide ((0 : Int) < (a1.1.2.2.2.1.length : Int)) then (some ((1 : Int), ())) else bif decide (a1.1.1 = (4 : Int)) then (bif !decide (a1.1.2.1 = (0 : Int)) then (some ((1 : Int), ())) else j15) else j15) else bif decide (a1.1.1 = (4 : Int)) then (bif !decide (a1.1.2.1 = (0 : Int)) then (some ((1 : Int), ())) else j15) else j15
noncomputable def raw (k : Nat) (a1 : Arg) : Option Out := p a1
theorem p_eq (k : Nat) (a1 : Arg) : bodyK E k Go.Proofs.Try.f106 ps rs [] [] a1 = p a1 := by kernel_rfl
theorem raw_eq (k : Nat) (a1 : Arg) : bodyK E k Go.Proofs.Try.f106 ps rs [] [] a1 = raw k a1 := (p_eq k a1).trans (by rfl)
theorem ent : EnterOk Go.Proofs.Try.prog 106 sig.cap := ⟨Go.Proofs.Try.f106, Go.Proofs.Try.func106, by kernel_rfl, by kernel_rfl, by kernel_rfl⟩
theorem env : EnvOk Go.Proofs.Try.prog E := env_ok (tl := [(2, i64), (39, (.slc u8)), (59, (.slc tRun)), (61, tRecord), (236, tRun)]) (gl := [(91, impl_in.sig), (188, impl_turns.sig), (189, impl_isTx.sig), (190, impl_RunsFault.sig)]) rfl rfl (by kernel_rfl) (by kernel_rfl) (fn_cons impl_in.snd impl_in.ent (fn_cons impl_turns.snd impl_turns.ent (fn_cons impl_isTx.snd impl_isTx.ent (fn_cons impl_RunsFault.snd impl_RunsFault.ent (fn_nil _)))))
theorem chk : funOk Go.Proofs.Try.prog E Go.Proofs.Try.f106 ps rs [] = true := by kernel_rfl
theorem snd : Sound Go.Proofs.Try.prog 106 sig := sound_of_body env Go.Proofs.Try.func106 rfl (es := []) (fr := []) chk (fun _ _ h => lift_some h)
end impl_RecordFault
namespace impl_packed
/-! loop example g00408 impl packed -/
abbrev Arg : Type := Record × Unit
abbrev Out : Type := (List UInt8) × Unit
noncomputable def ps : List (PM × Ty) := [(.ro, tRecord)]
noncomputable def rs : List (Ty × Md) := [((.slc u8), (ownMd (.slc u8)))]
noncomputable def E : Env := { TI := lookN [(2, i64), (3, i64), (5, u8), (39, (.slc u8)), (59, (.slc tRun)), (61, tRecord), (236, tRun)], G := lookN [], fz := [], lv := [(3, [3, 24, 25, 26]), (11, [3, 6, 51, 52, 53])], lx := [(0, [3]), (2, [3, 6])], lf := [], od := [] }
noncomputable def sem (a : Arg) : Option Out := lift fun k => bodyK E k Go.Proofs.Try.f129 ps rs [] [] a
noncomputable def sig : Sig := { ps := ps, rs := rs, F := fun a => sem a }
noncomputable def C : Code := bodyOf Go.Proofs.Try.f129
noncomputable def fin : St → Option Out := outK ps rs [] (Func.results Go.Proofs.Try.f129).toList (mvs [])
noncomputable def K0 : Ex → St → Option Out := endK fin
noncomputable def S0 (rec : St → Option Out) (a1 : Arg) : ((List UInt8) × Int) → Option Out := fun v402 => rec ({ n := 72, sl := [(3, .own (.slc u8) (ownMd (.slc u8)) [] v402.1), (24, .val (.slc tRun) a1.1.2.2.2.1), (25, .val i64 (a1.1.2.2.2.1.length : Int)), (26, .val i64 v402.2)], vr := [], lent := [] })
noncomputable def X0_0 (K : Ex → St → Option Out) (a1 : Arg) : (List UInt8) → Option Out := fun z => K (.exit 0) ({ n := 72, sl := [(3, .own (.slc u8) (ownMd (.slc u8)) [] z)], vr := [], lent := [] })
noncomputable def b0 (self : ((List UInt8) × Int) → Option Out) (e0 : (List UInt8) → Option Out) (a1 : Arg) (v402 : (List UInt8) × Int) : Option Out := bif decide (v402.2 < (a1.1.2.2.2.1.length : Int)) then (if 0 ≤ v402.2 then ((a1.1.2.2.2.1[v402.2.toNat]?).bind fun x603 => if v402.1.length + [UInt8.ofInt x603.1, UInt8.ofInt (x603.2.1.length : Int)].length ≤ CAP then (let y604 := v402.1 ++ [UInt8.ofInt x603.1, UInt8.ofInt (x603.2.1.length : Int)]; if y604.length + x603.2.1.length ≤ CAP then (self (y604 ++ x603.2.1, w64 (v402.2 + (1 : Int)))) else none) else none) else none) else e0 v402.1
noncomputable def B0 (k : Nat) (self : ((List UInt8) × Int) → Option Out) (e0 : (List UInt8) → Option Out) (a1 : Arg) (v402 : (List UInt8) × Int) : Option Out := b0 self e0 a1 v402
theorem b0_eq (k : Nat) (rec : St → Option Out) (K : Ex → St → Option Out) (a1 : Arg) (v402 : (List UInt8) × Int) : codeK E k fin (sub [1, 1, 0, 1, 0, 0] C) ({ n := 72, sl := [(3, .own (.slc u8) (ownMd (.slc u8)) [] v402.1), (24, .val (.slc tRun) a1.1.2.2.2.1), (25, .val i64 (a1.1.2.2.2.1.length : Int)), (26, .val i64 v402.2)], vr := [], lent := [] }) (loopC rec (keepF [3, 24, 25, 26] []) K) = b0 (S0 rec a1) (X0_0 K a1) a1 v402 := by kernel_rfl
theorem B0_eq (k : Nat) (rec : St → Option Out) (K : Ex → St → Option Out) (a1 : Arg) (v402 : (List UInt8) × Int) : codeK E k fin (sub [1, 1, 0, 1, 0, 0] C) ({ n := 72, sl := [(3, .own (.slc u8) (ownMd (.slc u8)) [] v402.1), (24, .val (.slc tRun) a1.1.2.2.2.1), (25, .val i64 (a1.1.2.2.2.1.length : Int)), (26, .val i64 v402.2)], vr := [], lent := [] }) (loopC rec (keepF [3, 24, 25, 26] []) K) = B0 k (S0 rec a1) (X0_0 K a1) a1 v402 := (b0_eq k rec K a1 v402).trans (by rfl)
noncomputable def l0 (k : Nat) (a1 : Arg) (e0 : (List UInt8) → Option Out) (v : (List UInt8) × Int) : Option Out := rawIter (fun self v => B0 k self e0 a1 v) k v
theorem l0_eq (k : Nat) (K : Ex → St → Option Out) (a1 : Arg) (v402 : (List UInt8) × Int) : iterK (codeK E k fin (sub [1, 1, 0, 1, 0, 0] C)) (keepF [3, 24, 25, 26] []) K k ({ n := 72, sl := [(3, .own (.slc u8) (ownMd (.slc u8)) [] v402.1), (24, .val (.slc tRun) a1.1.2.2.2.1), (25, .val i64 (a1.1.2.2.2.1.length : Int)), (26, .val i64 v402.2)], vr := [], lent := [] }) = l0 k a1 (X0_0 K a1) v402 :=
  iter_raw _ _ K (fun v402 => ({ n := 72, sl := [(3, .own (.slc u8) (ownMd (.slc u8)) [] v402.1), (24, .val (.slc tRun) a1.1.2.2.2.1), (25, .val i64 (a1.1.2.2.2.1.length : Int)), (26, .val i64 v402.2)], vr := [], lent := [] } : St)) (fun self v => B0 k self (X0_0 K a1) a1 v) (fun rec v => B0_eq k rec K a1 v) k v402
noncomputable def S1 (rec : St → Option Out) (a1 : Arg) (c1009 : List UInt8) (c1010 : Int) : (Int × Int) → Option Out := fun v1008 => rec ({ n := 72, sl := [(3, .own (.slc u8) (ownMd (.slc u8)) [] c1009), (6, .val i64 v1008.1), (51, .ref 3 [] [0, 0]), (52, .val i64 c1010), (53, .val i64 v1008.2)], vr := [], lent := [] })
noncomputable def X1_2 (K : Ex → St → Option Out) (a1 : Arg) (c1009 : List UInt8) (c1010 : Int) : Int → Option Out := fun z => K (.exit 2) ({ n := 72, sl := [(3, .own (.slc u8) (ownMd (.slc u8)) [] c1009), (6, .val i64 z)], vr := [], lent := [] })
noncomputable def b1 (self : (Int × Int) → Option Out) (e2 : Int → Option Out) (a1 : Arg) (c1009 : List UInt8) (c1010 : Int) (v1008 : Int × Int) : Option Out := bif decide (v1008.2 < c1010) then (if 0 ≤ v1008.2 ∧ v1008.2 < (c1009.length : Int) then ((c1009[v1008.2.toNat]?).bind fun x1211 => self ((w64 ((w64 (v1008.1 * (31 : Int))) + (w64 (x1211.toNat : Int)))).tmod (65521 : Int), w64 (v1008.2 + (1 : Int)))) else none) else e2 v1008.1
noncomputable def B1 (k : Nat) (self : (Int × Int) → Option Out) (e2 : Int → Option Out) (a1 : Arg) (c1009 : List UInt8) (c1010 : Int) (v1008 : Int × Int) : Option Out := b1 self e2 a1 c1009 c1010 v1008
theorem b1_eq (k : Nat) (rec : St → Option Out) (K : Ex → St → Option Out) (a1 : Arg) (c1009 : List UInt8) (c1010 : Int) (v1008 : Int × Int) : codeK E k fin (sub [1, 1, 1, 1, 1, 0, 1, 0, 0] C) ({ n := 72, sl := [(3, .own (.slc u8) (ownMd (.slc u8)) [] c1009), (6, .val i64 v1008.1), (51, .ref 3 [] [0, 0]), (52, .val i64 c1010), (53, .val i64 v1008.2)], vr := [], lent := [] }) (loopC rec (keepF [3, 6, 51, 52, 53] []) K) = b1 (S1 rec a1 c1009 c1010) (X1_2 K a1 c1009 c1010) a1 c1009 c1010 v1008 := by kernel_rfl
theorem B1_eq (k : Nat) (rec : St → Option Out) (K : Ex → St → Option Out) (a1 : Arg) (c1009 : List UInt8) (c1010 : Int) (v1008 : Int × Int) : codeK E k fin (sub [1, 1, 1, 1, 1, 0, 1, 0, 0] C) ({ n := 72, sl := [(3, .own (.slc u8) (ownMd (.slc u8)) [] c1009), (6, .val i64 v1008.1), (51, .ref 3 [] [0, 0]), (52, .val i64 c1010), (53, .val i64 v1008.2)], vr := [], lent := [] }) (loopC rec (keepF [3, 6, 51, 52, 53] []) K) = B1 k (S1 rec a1 c1009 c1010) (X1_2 K a1 c1009 c1010) a1 c1009 c1010 v1008 := (b1_eq k rec K a1 c1009 c1010 v1008).trans (by rfl)
noncomputable def l1 (k : Nat) (a1 : Arg) (c1009 : List UInt8) (c1010 : Int) (e2 : Int → Option Out) (v : Int × Int) : Option Out := rawIter (fun self v => B1 k self e2 a1 c1009 c1010 v) k v
theorem l1_eq (k : Nat) (K : Ex → St → Option Out) (a1 : Arg) (c1009 : List UInt8) (c1010 : Int) (v1008 : Int × Int) : iterK (codeK E k fin (sub [1, 1, 1, 1, 1, 0, 1, 0, 0] C)) (keepF [3, 6, 51, 52, 53] []) K k ({ n := 72, sl := [(3, .own (.slc u8) (ownMd (.slc u8)) [] c1009), (6, .val i64 v1008.1), (51, .ref 3 [] [0, 0]), (52, .val i64 c1010), (53, .val i64 v1008.2)], vr := [], lent := [] }) = l1 k a1 c1009 c1010 (X1_2 K a1 c1009 c1010) v1008 :=
  iter_raw _ _ K (fun v1008 => ({ n := 72, sl := [(3, .own (.slc u8) (ownMd (.slc u8)) [] c1009), (6, .val i64 v1008.1), (51, .ref 3 [] [0, 0]), (52, .val i64 c1010), (53, .val i64 v1008.2)], vr := [], lent := [] } : St)) (fun self v => B1 k self (X1_2 K a1 c1009 c1010) a1 c1009 c1010 v) (fun rec v => B1_eq k rec K a1 c1009 c1010 v) k v1008
noncomputable def q1 (a1 : Arg) (c1009 : List UInt8) (c1010 : Int) (z1212 : Int) : Option Out := if c1009.length + [UInt8.ofInt (z1212.fdiv (2 ^ 8)), UInt8.ofInt z1212].length ≤ CAP then (let y1213 := c1009 ++ [UInt8.ofInt (z1212.fdiv (2 ^ 8)), UInt8.ofInt z1212]; some (y1213, ())) else none
noncomputable def Q1 (k : Nat) (a1 : Arg) (c1009 : List UInt8) (c1010 : Int) (z1212 : Int) : Option Out := q1 a1 c1009 c1010 z1212
theorem q1_eq (k : Nat) (a1 : Arg) (c1009 : List UInt8) (c1010 : Int) (z1212 : Int) : (blockC 2 (seqC (codeK E k fin (sub [1, 1, 1, 1, 1, 1] C)) K0)) (.exit 2) ({ n := 72, sl := [(3, .own (.slc u8) (ownMd (.slc u8)) [] c1009), (6, .val i64 z1212)], vr := [], lent := [] }) = q1 a1 c1009 c1010 z1212 := by kernel_rfl
theorem Q1_eq (k : Nat) (a1 : Arg) (c1009 : List UInt8) (c1010 : Int) (z1212 : Int) : (blockC 2 (seqC (codeK E k fin (sub [1, 1, 1, 1, 1, 1] C)) K0)) (.exit 2) ({ n := 72, sl := [(3, .own (.slc u8) (ownMd (.slc u8)) [] c1009), (6, .val i64 z1212)], vr := [], lent := [] }) = Q1 k a1 c1009 c1010 z1212 := (q1_eq k a1 c1009 c1010 z1212).trans (by rfl)
noncomputable def s1 (k : Nat) (a1 : Arg) : (List UInt8) → Int → (Int × Int) → Option Out := fun c1009 c1010 v1008 => iterK (codeK E k fin (sub [1, 1, 1, 1, 1, 0, 1, 0, 0] C)) (keepF [3, 6, 51, 52, 53] []) (blockC 2 (seqC (codeK E k fin (sub [1, 1, 1, 1, 1, 1] C)) K0)) k ({ n := 72, sl := [(3, .own (.slc u8) (ownMd (.slc u8)) [] c1009), (6, .val i64 v1008.1), (51, .ref 3 [] [0, 0]), (52, .val i64 c1010), (53, .val i64 v1008.2)], vr := [], lent := [] })
noncomputable def r1 (k : Nat) (a1 : Arg) : (List UInt8) → Int → (Int × Int) → Option Out := fun c1009 c1010 v1008 => l1 k a1 c1009 c1010 (fun z => Q1 k a1 c1009 c1010 z) v1008
theorem s1_eq (k : Nat) (a1 : Arg) : s1 k a1 = r1 k a1 := by
  funext c1009; funext c1010; funext v1008;
  have h2 : X1_2 ((blockC 2 (seqC (codeK E k fin (sub [1, 1, 1, 1, 1, 1] C)) K0))) a1 c1009 c1010 = fun z => Q1 k a1 c1009 c1010 z := funext fun z => Q1_eq k a1 c1009 c1010 z
  refine (l1_eq k ((blockC 2 (seqC (codeK E k fin (sub [1, 1, 1, 1, 1, 1] C)) K0))) a1 c1009 c1010 v1008).trans ?_
  rw [h2]
  rfl
noncomputable def q0 (l1 : (List UInt8) → Int → (Int × Int) → Option Out) (a1 : Arg) (z605 : (List UInt8)) : Option Out := if 0 ≤ (0 : Int) ∧ (0 : Int) < (z605.length : Int) then ((z605[0]?).bind fun x606 => let y607 := z605.set 0 (UInt8.ofInt (w64 ((z605.length : Int) + (2 : Int)))); l1 y607 (y607.length : Int) ((1 : Int), (0 : Int))) else none
noncomputable def Q0 (k : Nat) (a1 : Arg) (z605 : (List UInt8)) : Option Out := q0 (r1 k a1) a1 z605
theorem q0_eq (k : Nat) (a1 : Arg) (z605 : (List UInt8)) : (blockC 0 (seqC (codeK E k fin (sub [1, 1, 1] C)) K0)) (.exit 0) ({ n := 72, sl := [(3, .own (.slc u8) (ownMd (.slc u8)) [] z605)], vr := [], lent := [] }) = q0 (s1 k a1) a1 z605 := by kernel_rfl
theorem Q0_eq (k : Nat) (a1 : Arg) (z605 : (List UInt8)) : (blockC 0 (seqC (codeK E k fin (sub [1, 1, 1] C)) K0)) (.exit 0) ({ n := 72, sl := [(3, .own (.slc u8) (ownMd (.slc u8)) [] z605)], vr := [], lent := [] }) = Q0 k a1 z605 := (q0_eq k a1 z605).trans (by rw [s1_eq]; rfl)
noncomputable def s0 (k : Nat) (a1 : Arg) : ((List UInt8) × Int) → Option Out := fun v402 => iterK (codeK E k fin (sub [1, 1, 0, 1, 0, 0] C)) (keepF [3, 24, 25, 26] []) (blockC 0 (seqC (codeK E k fin (sub [1, 1, 1] C)) K0)) k ({ n := 72, sl := [(3, .own (.slc u8) (ownMd (.slc u8)) [] v402.1), (24, .val (.slc tRun) a1.1.2.2.2.1), (25, .val i64 (a1.1.2.2.2.1.length : Int)), (26, .val i64 v402.2)], vr := [], lent := [] })
noncomputable def r0 (k : Nat) (a1 : Arg) : ((List UInt8) × Int) → Option Out := fun v402 => l0 k a1 (fun z => Q0 k a1 z) v402
theorem s0_eq (k : Nat) (a1 : Arg) : s0 k a1 = r0 k a1 := by
  funext v402;
  have h0 : X0_0 ((blockC 0 (seqC (codeK E k fin (sub [1, 1, 1] C)) K0))) a1 = fun z => Q0 k a1 z := funext fun z => Q0_eq k a1 z
  refine (l0_eq k ((blockC 0 (seqC (codeK E k fin (sub [1, 1, 1] C)) K0))) a1 v402).trans ?_
  rw [h0]
  rfl
noncomputable def p (l0 : ((List UInt8) × Int) → Option Out) (a1 : Arg) : Option Out := l0 ([(0 : UInt8), UInt8.ofInt a1.1.1, UInt8.ofInt a1.1.2.1, UInt8.ofInt a1.1.2.2.1, UInt8.ofInt (a1.1.2.2.2.1.length : Int)], (0 : Int))
noncomputable def raw (k : Nat) (a1 : Arg) : Option Out := p (r0 k a1) a1
theorem p_eq (k : Nat) (a1 : Arg) : bodyK E k Go.Proofs.Try.f129 ps rs [] [] a1 = p (s0 k a1) a1 := by kernel_rfl
theorem raw_eq (k : Nat) (a1 : Arg) : bodyK E k Go.Proofs.Try.f129 ps rs [] [] a1 = raw k a1 := (p_eq k a1).trans (by rw [s0_eq]; rfl)
theorem ent : EnterOk Go.Proofs.Try.prog 129 sig.cap := ⟨Go.Proofs.Try.f129, Go.Proofs.Try.func129, by kernel_rfl, by kernel_rfl, by kernel_rfl⟩
theorem env : EnvOk Go.Proofs.Try.prog E := env_ok (tl := [(2, i64), (3, i64), (5, u8), (39, (.slc u8)), (59, (.slc tRun)), (61, tRecord), (236, tRun)]) (gl := []) rfl rfl (by kernel_rfl) (by kernel_rfl) (fn_nil _)
theorem chk : funOk Go.Proofs.Try.prog E Go.Proofs.Try.f129 ps rs [] = true := by kernel_rfl
theorem snd : Sound Go.Proofs.Try.prog 129 sig := sound_of_body env Go.Proofs.Try.func129 rfl (es := []) (fr := []) chk (fun _ _ h => lift_some h)
end impl_packed
namespace impl_copied
/-! loop example g00408 impl copied -/
abbrev Arg : Type := (List UInt8) × Unit
abbrev Out : Type := (List UInt8) × Unit
noncomputable def ps : List (PM × Ty) := [(.ro, (.slc u8))]
noncomputable def rs : List (Ty × Md) := [((.slc u8), (ownMd (.slc u8)))]
noncomputable def E : Env := { TI := lookN [(39, (.slc u8))], G := lookN [], fz := [], lv := [], lx := [], lf := [], od := [] }
noncomputable def sem (a : Arg) : Option Out := lift fun k => bodyK E k Go.Proofs.Try.f191 ps rs [] [] a
noncomputable def sig : Sig := { ps := ps, rs := rs, F := fun a => sem a }
noncomputable def C : Code := bodyOf Go.Proofs.Try.f191
noncomputable def fin : St → Option Out := outK ps rs [] (Func.results Go.Proofs.Try.f191).toList (mvs [])
noncomputable def K0 : Ex → St → Option Out := endK fin
noncomputable def p (a1 : Arg) : Option Out := if ([] : List UInt8).length + a1.1.length ≤ CAP then (some (([] : List UInt8) ++ a1.1, ())) else none
noncomputable def raw (k : Nat) (a1 : Arg) : Option Out := p a1
theorem p_eq (k : Nat) (a1 : Arg) : bodyK E k Go.Proofs.Try.f191 ps rs [] [] a1 = p a1 := by kernel_rfl
theorem raw_eq (k : Nat) (a1 : Arg) : bodyK E k Go.Proofs.Try.f191 ps rs [] [] a1 = raw k a1 := (p_eq k a1).trans (by rfl)
theorem ent : EnterOk Go.Proofs.Try.prog 191 sig.cap := ⟨Go.Proofs.Try.f191, Go.Proofs.Try.func191, by kernel_rfl, by kernel_rfl, by kernel_rfl⟩
theorem env : EnvOk Go.Proofs.Try.prog E := env_ok (tl := [(39, (.slc u8))]) (gl := []) rfl rfl (by kernel_rfl) (by kernel_rfl) (fn_nil _)
theorem chk : funOk Go.Proofs.Try.prog E Go.Proofs.Try.f191 ps rs [] = true := by kernel_rfl
theorem snd : Sound Go.Proofs.Try.prog 191 sig := sound_of_body env Go.Proofs.Try.func191 rfl (es := []) (fr := []) chk (fun _ _ h => lift_some h)
end impl_copied
namespace slices_Equal_byte
/-! slices Equal   byte byte  -/
abbrev Arg : Type := (List UInt8) × (List UInt8) × Unit
abbrev Out : Type := Bool × Unit
noncomputable def ps : List (PM × Ty) := [(.ro, (.slc u8)), (.ro, (.slc u8))]
noncomputable def rs : List (Ty × Md) := [(.bool, (roMd .bool))]
noncomputable def E : Env := { TI := lookN [(5, u8), (39, (.slc u8))], G := lookN [], fz := [], lv := [(4, [0, 1, 12, 13])], lx := [(0, [])], lf := [], od := [(6, [0, 1, 2, 3, 4, 5, 6, 7, 8])] }
noncomputable def sem (a : Arg) : Option Out := lift fun k => bodyK E k Go.Proofs.Try.f207 ps rs [] [] a
noncomputable def sig : Sig := { ps := ps, rs := rs, F := fun a => sem a }
noncomputable def C : Code := bodyOf Go.Proofs.Try.f207
noncomputable def fin : St → Option Out := outK ps rs [] (Func.results Go.Proofs.Try.f207).toList (mvs [])
noncomputable def K0 : Ex → St → Option Out := endK fin
noncomputable def S0 (rec : St → Option Out) (a1 : Arg) : (Int) → Option Out := fun v402 => rec ({ n := 26, sl := [(0, .val (.slc u8) a1.1), (1, .val (.slc u8) a1.2.1), (12, .val i64 (a1.1.length : Int)), (13, .val i64 v402)], vr := [], lent := [] })
noncomputable def X0_0 (K : Ex → St → Option Out) (a1 : Arg) : (Unit) → Option Out := fun z => K (.exit 0) ({ n := 26, sl := [], vr := [], lent := [] })
noncomputable def b0 (self : Int → Option Out) (e0 : (Unit) → Option Out) (a1 : Arg) (v402 : Int) : Option Out := bif decide (v402 < (a1.1.length : Int)) then (if 0 ≤ v402 then ((a1.1[v402.toNat]?).bind fun x603 => if 0 ≤ v402 then ((a1.2.1[v402.toNat]?).bind fun x604 => bif !decide ((x603.toNat : Int) = (x604.toNat : Int)) then (some (false, ())) else self (w64 (v402 + (1 : Int)))) else none) else none) else e0 ()
noncomputable def B0 (k : Nat) (self : Int → Option Out) (e0 : (Unit) → Option Out) (a1 : Arg) (v402 : Int) : Option Out := b0 self e0 a1 v402
theorem b0_eq (k : Nat) (rec : St → Option Out) (K : Ex → St → Option Out) (a1 : Arg) (v402 : Int) : codeK E k fin (sub [1, 1, 0, 1, 0, 0] C) ({ n := 26, sl := [(0, .val (.slc u8) a1.1), (1, .val (.slc u8) a1.2.1), (12, .val i64 (a1.1.length : Int)), (13, .val i64 v402)], vr := [], lent := [] }) (loopC rec (keepF [0, 1, 12, 13] []) K) = b0 (S0 rec a1) (X0_0 K a1) a1 v402 := by kernel_rfl
theorem B0_eq (k : Nat) (rec : St → Option Out) (K : Ex → St → Option Out) (a1 : Arg) (v402 : Int) : codeK E k fin (sub [1, 1, 0, 1, 0, 0] C) ({ n := 26, sl := [(0, .val (.slc u8) a1.1), (1, .val (.slc u8) a1.2.1), (12, .val i64 (a1.1.length : Int)), (13, .val i64 v402)], vr := [], lent := [] }) (loopC rec (keepF [0, 1, 12, 13] []) K) = B0 k (S0 rec a1) (X0_0 K a1) a1 v402 := (b0_eq k rec K a1 v402).trans (by rfl)
noncomputable def l0 (k : Nat) (a1 : Arg) (e0 : (Unit) → Option Out) (v : Int) : Option Out := rawIter (fun self v => B0 k self e0 a1 v) k v
theorem l0_eq (k : Nat) (K : Ex → St → Option Out) (a1 : Arg) (v402 : Int) : iterK (codeK E k fin (sub [1, 1, 0, 1, 0, 0] C)) (keepF [0, 1, 12, 13] []) K k ({ n := 26, sl := [(0, .val (.slc u8) a1.1), (1, .val (.slc u8) a1.2.1), (12, .val i64 (a1.1.length : Int)), (13, .val i64 v402)], vr := [], lent := [] }) = l0 k a1 (X0_0 K a1) v402 :=
  iter_raw _ _ K (fun v402 => ({ n := 26, sl := [(0, .val (.slc u8) a1.1), (1, .val (.slc u8) a1.2.1), (12, .val i64 (a1.1.length : Int)), (13, .val i64 v402)], vr := [], lent := [] } : St)) (fun self v => B0 k self (X0_0 K a1) a1 v) (fun rec v => B0_eq k rec K a1 v) k v402
noncomputable def q0 (a1 : Arg) (z605 : (Unit)) : Option Out := some (true, ())
noncomputable def Q0 (k : Nat) (a1 : Arg) (z605 : (Unit)) : Option Out := q0 a1 z605
theorem q0_eq (k : Nat) (a1 : Arg) (z605 : (Unit)) : (blockC 0 (seqC (codeK E k fin (sub [1, 1, 1] C)) K0)) (.exit 0) ({ n := 26, sl := [], vr := [], lent := [] }) = q0 a1 z605 := by kernel_rfl
theorem Q0_eq (k : Nat) (a1 : Arg) (z605 : (Unit)) : (blockC 0 (seqC (codeK E k fin (sub [1, 1, 1] C)) K0)) (.exit 0) ({ n := 26, sl := [], vr := [], lent := [] }) = Q0 k a1 z605 := (q0_eq k a1 z605).trans (by rfl)
noncomputable def s0 (k : Nat) (a1 : Arg) : (Int) → Option Out := fun v402 => iterK (codeK E k fin (sub [1, 1, 0, 1, 0, 0] C)) (keepF [0, 1, 12, 13] []) (blockC 0 (seqC (codeK E k fin (sub [1, 1, 1] C)) K0)) k ({ n := 26, sl := [(0, .val (.slc u8) a1.1), (1, .val (.slc u8) a1.2.1), (12, .val i64 (a1.1.length : Int)), (13, .val i64 v402)], vr := [], lent := [] })
noncomputable def r0 (k : Nat) (a1 : Arg) : (Int) → Option Out := fun v402 => l0 k a1 (fun z => Q0 k a1 z) v402
theorem s0_eq (k : Nat) (a1 : Arg) : s0 k a1 = r0 k a1 := by
  funext v402;
  have h0 : X0_0 ((blockC 0 (seqC (codeK E k fin (sub [1, 1, 1] C)) K0))) a1 = fun z => Q0 k a1 z := funext fun z => Q0_eq k a1 z
  refine (l0_eq k ((blockC 0 (seqC (codeK E k fin (sub [1, 1, 1] C)) K0))) a1 v402).trans ?_
  rw [h0]
  rfl
noncomputable def p (l0 : (Int) → Option Out) (a1 : Arg) : Option Out := bif !decide ((a1.1.length : Int) = (a1.2.1.length : Int)) then (some (false, ())) else l0 (0 : Int)
noncomputable def raw (k : Nat) (a1 : Arg) : Option Out := p (r0 k a1) a1
theorem p_eq (k : Nat) (a1 : Arg) : bodyK E k Go.Proofs.Try.f207 ps rs [] [] a1 = p (s0 k a1) a1 := by kernel_rfl
theorem raw_eq (k : Nat) (a1 : Arg) : bodyK E k Go.Proofs.Try.f207 ps rs [] [] a1 = raw k a1 := (p_eq k a1).trans (by rw [s0_eq]; rfl)
theorem ent : EnterOk Go.Proofs.Try.prog 207 sig.cap := ⟨Go.Proofs.Try.f207, Go.Proofs.Try.func207, by kernel_rfl, by kernel_rfl, by kernel_rfl⟩
theorem env : EnvOk Go.Proofs.Try.prog E := env_ok (tl := [(5, u8), (39, (.slc u8))]) (gl := []) rfl rfl (by kernel_rfl) (by kernel_rfl) (fn_nil _)
theorem chk : funOk Go.Proofs.Try.prog E Go.Proofs.Try.f207 ps rs [] = true := by kernel_rfl
theorem snd : Sound Go.Proofs.Try.prog 207 sig := sound_of_body env Go.Proofs.Try.func207 rfl (es := []) (fr := []) chk (fun _ _ h => lift_some h)
end slices_Equal_byte
namespace impl_read
/-! loop example g00408 impl read -/
abbrev Arg : Type := (List UInt8) × Unit
abbrev Out : Type := Record × Int × Unit
noncomputable def ps : List (PM × Ty) := [(.ro, (.slc u8))]
noncomputable def rs : List (Ty × Md) := [(tRecord, (ownMd tRecord)), (i64, (roMd i64))]
noncomputable def E : Env := { TI := lookN [(2, i64), (3, i64), (5, u8), (39, (.slc u8)), (59, (.slc tRun)), (61, tRecord), (236, tRun)], G := lookN [(106, impl_RecordFault.sig), (129, impl_packed.sig), (191, impl_copied.sig), (207, slices_Equal_byte.sig)], fz := [], lv := [(7, [2, 4, 5, 6, 7, 52, 53])], lx := [(0, [2, 4, 5, 6, 7])], lf := [], od := [(4, [0, 1, 2, 3, 4, 5, 6, 7, 8, 9, 10, 11, 12, 13, 14]), (11, [0, 1, 2, 3, 4, 5, 6, 7, 8, 9, 10, 11, 12, 13, 14, 15, 16, 17, 18, 19, 20])] }
noncomputable def sem (a : Arg) : Option Out := lift fun k => bodyK E k Go.Proofs.Try.f202 ps rs [] [] a
noncomputable def sig : Sig := { ps := ps, rs := rs, F := fun a => sem a }
noncomputable def C : Code := bodyOf Go.Proofs.Try.f202
noncomputable def fin : St → Option Out := outK ps rs [] (Func.results Go.Proofs.Try.f202).toList (mvs [])
noncomputable def K0 : Ex → St → Option Out := endK fin
noncomputable def S0 (rec : St → Option Out) (a1 : Arg) (c410 : List UInt8) (c411 : Int) (c412 : Int) : (Record × Int × Int) → Option Out := fun v409 => rec ({ n := 123, sl := [(2, .box tRecord (ownMd tRecord) [] ((0 : Int), (0 : Int), (0 : Int), ([] : List Run), ())), (4, .val (.slc u8) c410), (5, .box tRecord (ownMd tRecord) [] v409.1), (6, .val i64 v409.2.1), (7, .val i64 c411), (52, .val i64 c412), (53, .val i64 v409.2.2)], vr := [], lent := [] })
noncomputable def X0_0 (K : Ex → St → Option Out) (a1 : Arg) (c410 : List UInt8) (c411 : Int) (c412 : Int) : (Record × Int) → Option Out := fun z => K (.exit 0) ({ n := 123, sl := [(2, .box tRecord (ownMd tRecord) [] ((0 : Int), (0 : Int), (0 : Int), ([] : List Run), ())), (4, .val (.slc u8) c410), (5, .box tRecord (ownMd tRecord) [] z.1), (6, .val i64 z.2), (7, .val i64 c411)], vr := [], lent := [] })
noncomputable def b0 (self : (Record × Int × Int) → Option Out) (e0 : (Record × Int) → Option Out) (a1 : Arg) (c410 : List UInt8) (c411 : Int) (c412 : Int) (v409 : Record × Int × Int) : Option Out := bif decide (v409.2.2 < c412) then (bif decide (c411 < w64 (v409.2.1 + (2 : Int))) then (some (((0 : Int), (0 : Int), (0 : Int), ([] : List Run), ()), (0 : Int), ())) else if 0 ≤ w64 (v409.2.1 + (1 : Int)) then ((c410[(w64 (v409.2.1 + (1 : Int))).toNat]?).bind fun x613 => bif decide (c411 < w64 ((w64 (v409.2.1 + (2 : Int))) + (w64 (x613.toNat : Int)))) then (some (((0 : Int), (0 : Int), (0 : Int), ([] : List Run), ()), (0 : Int), ())) else if 0 ≤ w64 (v409.2.1 + (1 : Int)) then ((c410[(w64 (v409.2.1 + (1 : Int))).toNat]?).bind fun x614 => if 0 ≤ v409.2.1 then ((c410[v409.2.1.toNat]?).bind fun x615 => if 0 ≤ w64 (v409.2.1 + (2 : Int)) ∧ w64 (v409.2.1 + (2 : Int)) ≤ w64 ((w64 (v409.2.1 + (2 : Int))) + (w64 (x614.toNat : Int))) ∧ w64 ((w64 (v409.2.1 + (2 : Int))) + (w64 (x614.toNat : Int))) ≤ (c410.length : Int) then ((impl_copied.sem ((c410.take (w64 ((w64 (v409.2.1 + (2 : Int))) + (w64 (x614.toNat : Int)))).toNat).drop (w64 (v409.2.1 + (2 : Int))).toNat, ())).bind fun r616 => if v409.1.2.2.2.1.length + [(w64 (x615.toNat : Int), r616.1, ())].length ≤ CAP then (let y617 := v409.1.2.2.2.1 ++ [(w64 (x615.toNat : Int), r616.1, ())]; self ((v409.1.1, v409.1.2.1, v409.1.2.2.1, y617, v409.1.2.2.2.2), w64 (v409.2.1 + (w64 ((2 : Int) + (w64 (x614.toNat : Int))))), w64 (v409.2.2 + (1 : Int)))) else none) else none) else none) else none) else none) else e0 (v409.1, v409.2.1)
noncomputable def B0 (k : Nat) (self : (Record × Int × Int) → Option Out) (e0 : (Record × Int) → Option Out) (a1 : Arg) (c410 : List UInt8) (c411 : Int) (c412 : Int) (v409 : Record × Int × Int) : Option Out := b0 self e0 a1 c410 c411 c412 v409
theorem b0_eq (k : Nat) (rec : St → Option Out) (K : Ex → St → Option Out) (a1 : Arg) (c410 : List UInt8) (c411 : Int) (c412 : Int) (v409 : Record × Int × Int) : codeK E k fin (sub [1, 1, 1, 1, 1, 0, 1, 0, 0] C) ({ n := 123, sl := [(2, .box tRecord (ownMd tRecord) [] ((0 : Int), (0 : Int), (0 : Int), ([] : List Run), ())), (4, .val (.slc u8) c410), (5, .box tRecord (ownMd tRecord) [] v409.1), (6, .val i64 v409.2.1), (7, .val i64 c411), (52, .val i64 c412), (53, .val i64 v409.2.2)], vr := [], lent := [] }) (loopC rec (keepF [2, 4, 5, 6, 7, 52, 53] []) K) = b0 (S0 rec a1 c410 c411 c412) (X0_0 K a1 c410 c411 c412) a1 c410 c411 c412 v409 := by kernel_rfl
theorem B0_eq (k : Nat) (rec : St → Option Out) (K : Ex → St → Option Out) (a1 : Arg) (c410 : List UInt8) (c411 : Int) (c412 : Int) (v409 : Record × Int × Int) : codeK E k fin (sub [1, 1, 1, 1, 1, 0, 1, 0, 0] C) ({ n := 123, sl := [(2, .box tRecord (ownMd tRecord) [] ((0 : Int), (0 : Int), (0 : Int), ([] : List Run), ())), (4, .val (.slc u8) c410), (5, .box tRecord (ownMd tRecord) [] v409.1), (6, .val i64 v409.2.1), (7, .val i64 c411), (52, .val i64 c412), (53, .val i64 v409.2.2)], vr := [], lent := [] }) (loopC rec (keepF [2, 4, 5, 6, 7, 52, 53] []) K) = B0 k (S0 rec a1 c410 c411 c412) (X0_0 K a1 c410 c411 c412) a1 c410 c411 c412 v409 := (b0_eq k rec K a1 c410 c411 c412 v409).trans (by rfl)
noncomputable def l0 (k : Nat) (a1 : Arg) (c410 : List UInt8) (c411 : Int) (c412 : Int) (e0 : (Record × Int) → Option Out) (v : Record × Int × Int) : Option Out := rawIter (fun self v => B0 k self e0 a1 c410 c411 c412 v) k v
theorem l0_eq (k : Nat) (K : Ex → St → Option Out) (a1 : Arg) (c410 : List UInt8) (c411 : Int) (c412 : Int) (v409 : Record × Int × Int) : iterK (codeK E k fin (sub [1, 1, 1, 1, 1, 0, 1, 0, 0] C)) (keepF [2, 4, 5, 6, 7, 52, 53] []) K k ({ n := 123, sl := [(2, .box tRecord (ownMd tRecord) [] ((0 : Int), (0 : Int), (0 : Int), ([] : List Run), ())), (4, .val (.slc u8) c410), (5, .box tRecord (ownMd tRecord) [] v409.1), (6, .val i64 v409.2.1), (7, .val i64 c411), (52, .val i64 c412), (53, .val i64 v409.2.2)], vr := [], lent := [] }) = l0 k a1 c410 c411 c412 (X0_0 K a1 c410 c411 c412) v409 :=
  iter_raw _ _ K (fun v409 => ({ n := 123, sl := [(2, .box tRecord (ownMd tRecord) [] ((0 : Int), (0 : Int), (0 : Int), ([] : List Run), ())), (4, .val (.slc u8) c410), (5, .box tRecord (ownMd tRecord) [] v409.1), (6, .val i64 v409.2.1), (7, .val i64 c411), (52, .val i64 c412), (53, .val i64 v409.2.2)], vr := [], lent := [] } : St)) (fun self v => B0 k self (X0_0 K a1 c410 c411 c412) a1 c410 c411 c412 v) (fun rec v => B0_eq k rec K a1 c410 c411 c412 v) k v409
noncomputable def q0 (a1 : Arg) (c410 : List UInt8) (c411 : Int) (c412 : Int) (z618 : (Record × Int)) : Option Out := bif !decide (z618.2 = c411) then (some (((0 : Int), (0 : Int), (0 : Int), ([] : List Run), ()), (0 : Int), ())) else (impl_RecordFault.sem (z618.1, ())).bind fun r619 => bif !decide (r619.1 = (0 : Int)) then (some (((0 : Int), (0 : Int), (0 : Int), ([] : List Run), ()), (0 : Int), ())) else (impl_packed.sem (z618.1, ())).bind fun r620 => (slices_Equal_byte.sem (r620.1, c410, ())).bind fun r621 => bif !r621.1 then (some (((0 : Int), (0 : Int), (0 : Int), ([] : List Run), ()), (0 : Int), ())) else some (z618.1, (c410.length : Int), ())
noncomputable def Q0 (k : Nat) (a1 : Arg) (c410 : List UInt8) (c411 : Int) (c412 : Int) (z618 : (Record × Int)) : Option Out := q0 a1 c410 c411 c412 z618
theorem q0_eq (k : Nat) (a1 : Arg) (c410 : List UInt8) (c411 : Int) (c412 : Int) (z618 : (Record × Int)) : (blockC 0 (seqC (codeK E k fin (sub [1, 1, 1, 1, 1, 1] C)) K0)) (.exit 0) ({ n := 123, sl := [(2, .box tRecord (ownMd tRecord) [] ((0 : Int), (0 : Int), (0 : Int), ([] : List Run), ())), (4, .val (.slc u8) c410), (5, .box tRecord (ownMd tRecord) [] z618.1), (6, .val i64 z618.2), (7, .val i64 c411)], vr := [], lent := [] }) = q0 a1 c410 c411 c412 z618 := by kernel_rfl
theorem Q0_eq (k : Nat) (a1 : Arg) (c410 : List UInt8) (c411 : Int) (c412 : Int) (z618 : (Record × Int)) : (blockC 0 (seqC (codeK E k fin (sub [1, 1, 1, 1, 1, 1] C)) K0)) (.exit 0) ({ n := 123, sl := [(2, .box tRecord (ownMd tRecord) [] ((0 : Int), (0 : Int), (0 : Int), ([] : List Run), ())), (4, .val (.slc u8) c410), (5, .box tRecord (ownMd tRecord) [] z618.1), (6, .val i64 z618.2), (7, .val i64 c411)], vr := [], lent := [] }) = Q0 k a1 c410 c411 c412 z618 := (q0_eq k a1 c410 c411 c412 z618).trans (by rfl)
noncomputable def s0 (k : Nat) (a1 : Arg) : (List UInt8) → Int → Int → (Record × Int × Int) → Option Out := fun c410 c411 c412 v409 => iterK (codeK E k fin (sub [1, 1, 1, 1, 1, 0, 1, 0, 0] C)) (keepF [2, 4, 5, 6, 7, 52, 53] []) (blockC 0 (seqC (codeK E k fin (sub [1, 1, 1, 1, 1, 1] C)) K0)) k ({ n := 123, sl := [(2, .box tRecord (ownMd tRecord) [] ((0 : Int), (0 : Int), (0 : Int), ([] : List Run), ())), (4, .val (.slc u8) c410), (5, .box tRecord (ownMd tRecord) [] v409.1), (6, .val i64 v409.2.1), (7, .val i64 c411), (52, .val i64 c412), (53, .val i64 v409.2.2)], vr := [], lent := [] })
noncomputable def r0 (k : Nat) (a1 : Arg) : (List UInt8) → Int → Int → (Record × Int × Int) → Option Out := fun c410 c411 c412 v409 => l0 k a1 c410 c411 c412 (fun z => Q0 k a1 c410 c411 c412 z) v409
theorem s0_eq (k : Nat) (a1 : Arg) : s0 k a1 = r0 k a1 := by
  funext c410; funext c411; funext c412; funext v409;
  have h0 : X0_0 ((blockC 0 (seqC (codeK E k fin (sub [1, 1, 1, 1, 1, 1] C)) K0))) a1 c410 c411 c412 = fun z => Q0 k a1 c410 c411 c412 z := funext fun z => Q0_eq k a1 c410 c411 c412 z
  refine (l0_eq k ((blockC 0 (seqC (codeK E k fin (sub [1, 1, 1, 1, 1, 1] C)) K0))) a1 c410 c411 c412 v409).trans ?_
  rw [h0]
  rfl
noncomputable def p (l0 : (List UInt8) → Int → Int → (Record × Int × Int) → Option Out) (a1 : Arg) : Option Out := bif decide ((a1.1.length : Int) < (7 : Int)) then (some (((0 : Int), (0 : Int), (0 : Int), ([] : List Run), ()), (0 : Int), ())) else (a1.1[0]?).bind fun x2 => bif decide ((a1.1.length : Int) < w64 (x2.toNat : Int)) then (some (((0 : Int), (0 : Int), (0 : Int), ([] : List Run), ()), (0 : Int), ())) else (a1.1[0]?).bind fun x3 => bif decide ((x3.toNat : Int) < (7 : Int)) then (some (((0 : Int), (0 : Int), (0 : Int), ([] : List Run), ()), (0 : Int), ())) else (a1.1[0]?).bind fun x4 => if 0 ≤ (x4.toNat : Int) ∧ (x4.toNat : Int) ≤ (a1.1.length : Int) then ((((a1.1.take (x4.toNat : Int).toNat).drop 0)[1]?).bind fun x5 => (((a1.1.take (x4.toNat : Int).toNat).drop 0)[2]?).bind fun x6 => (((a1.1.take (x4.toNat : Int).toNat).drop 0)[3]?).bind fun x7 => (((a1.1.take (x4.toNat : Int).toNat).drop 0)[4]?).bind fun x8 => l0 ((a1.1.take (x4.toNat : Int).toNat).drop 0) (w64 ((((a1.1.take (x4.toNat : Int).toNat).drop 0).length : Int) - (2 : Int))) (w64 (x8.toNat : Int)) ((w64 (x5.toNat : Int), w64 (x6.toNat : Int), w64 (x7.toNat : Int), ([] : List Run), ()), (5 : Int), (0 : Int))) else none
noncomputable def raw (k : Nat) (a1 : Arg) : Option Out := p (r0 k a1) a1
theorem p_eq (k : Nat) (a1 : Arg) : bodyK E k Go.Proofs.Try.f202 ps rs [] [] a1 = p (s0 k a1) a1 := by kernel_rfl
theorem raw_eq (k : Nat) (a1 : Arg) : bodyK E k Go.Proofs.Try.f202 ps rs [] [] a1 = raw k a1 := (p_eq k a1).trans (by rw [s0_eq]; rfl)
theorem ent : EnterOk Go.Proofs.Try.prog 202 sig.cap := ⟨Go.Proofs.Try.f202, Go.Proofs.Try.func202, by kernel_rfl, by kernel_rfl, by kernel_rfl⟩
theorem env : EnvOk Go.Proofs.Try.prog E := env_ok (tl := [(2, i64), (3, i64), (5, u8), (39, (.slc u8)), (59, (.slc tRun)), (61, tRecord), (236, tRun)]) (gl := [(106, impl_RecordFault.sig), (129, impl_packed.sig), (191, impl_copied.sig), (207, slices_Equal_byte.sig)]) rfl rfl (by kernel_rfl) (by kernel_rfl) (fn_cons impl_RecordFault.snd impl_RecordFault.ent (fn_cons impl_packed.snd impl_packed.ent (fn_cons impl_copied.snd impl_copied.ent (fn_cons slices_Equal_byte.snd slices_Equal_byte.ent (fn_nil _)))))
theorem chk : funOk Go.Proofs.Try.prog E Go.Proofs.Try.f202 ps rs [] = true := by kernel_rfl
theorem snd : Sound Go.Proofs.Try.prog 202 sig := sound_of_body env Go.Proofs.Try.func202 rfl (es := []) (fr := []) chk (fun _ _ h => lift_some h)
end impl_read
namespace impl_readAll
/-! loop example g00408 impl readAll -/
abbrev Arg : Type := (List UInt8) × Unit
abbrev Out : Type := (List Record) × Int × Unit
noncomputable def ps : List (PM × Ty) := [(.ro, (.slc u8))]
noncomputable def rs : List (Ty × Md) := [((.slc tRecord), (ownMd (.slc tRecord))), (i64, (roMd i64))]
noncomputable def E : Env := { TI := lookN [(39, (.slc u8)), (61, tRecord), (76, (.slc tRecord))], G := lookN [(202, impl_read.sig)], fz := [], lv := [(3, [0, 4, 5])], lx := [], lf := [], od := [] }
noncomputable def sem (a : Arg) : Option Out := lift fun k => bodyK E k Go.Proofs.Try.f131 ps rs [] [] a
noncomputable def sig : Sig := { ps := ps, rs := rs, F := fun a => sem a }
noncomputable def C : Code := bodyOf Go.Proofs.Try.f131
noncomputable def fin : St → Option Out := outK ps rs [] (Func.results Go.Proofs.Try.f131).toList (mvs [])
noncomputable def K0 : Ex → St → Option Out := endK fin
noncomputable def S0 (rec : St → Option Out) (a1 : Arg) : ((List Record) × Int) → Option Out := fun v402 => rec ({ n := 26, sl := [(0, .val (.slc u8) a1.1), (4, .own (.slc tRecord) (ownMd (.slc tRecord)) [] v402.1), (5, .val i64 v402.2)], vr := [], lent := [] })
noncomputable def b0 (self : ((List Record) × Int) → Option Out) (a1 : Arg) (v402 : (List Record) × Int) : Option Out := if 0 ≤ v402.2 ∧ v402.2 ≤ (a1.1.length : Int) then ((impl_read.sem ((a1.1.take a1.1.length).drop v402.2.toNat, ())).bind fun r603 => bif decide (r603.2.1 = (0 : Int)) then (some (v402.1, v402.2, ())) else if v402.1.length + [r603.1].length ≤ CAP then (self (v402.1 ++ [r603.1], w64 (v402.2 + r603.2.1))) else none) else none
noncomputable def B0 (k : Nat) (self : ((List Record) × Int) → Option Out) (a1 : Arg) (v402 : (List Record) × Int) : Option Out := b0 self a1 v402
theorem b0_eq (k : Nat) (rec : St → Option Out) (K : Ex → St → Option Out) (a1 : Arg) (v402 : (List Record) × Int) : codeK E k fin (sub [1, 1, 1, 0, 0] C) ({ n := 26, sl := [(0, .val (.slc u8) a1.1), (4, .own (.slc tRecord) (ownMd (.slc tRecord)) [] v402.1), (5, .val i64 v402.2)], vr := [], lent := [] }) (loopC rec (keepF [0, 4, 5] []) K) = b0 (S0 rec a1) a1 v402 := by kernel_rfl
theorem B0_eq (k : Nat) (rec : St → Option Out) (K : Ex → St → Option Out) (a1 : Arg) (v402 : (List Record) × Int) : codeK E k fin (sub [1, 1, 1, 0, 0] C) ({ n := 26, sl := [(0, .val (.slc u8) a1.1), (4, .own (.slc tRecord) (ownMd (.slc tRecord)) [] v402.1), (5, .val i64 v402.2)], vr := [], lent := [] }) (loopC rec (keepF [0, 4, 5] []) K) = B0 k (S0 rec a1) a1 v402 := (b0_eq k rec K a1 v402).trans (by rfl)
noncomputable def l0 (k : Nat) (a1 : Arg) (v : (List Record) × Int) : Option Out := rawIter (fun self v => B0 k self a1 v) k v
theorem l0_eq (k : Nat) (K : Ex → St → Option Out) (a1 : Arg) (v402 : (List Record) × Int) : iterK (codeK E k fin (sub [1, 1, 1, 0, 0] C)) (keepF [0, 4, 5] []) K k ({ n := 26, sl := [(0, .val (.slc u8) a1.1), (4, .own (.slc tRecord) (ownMd (.slc tRecord)) [] v402.1), (5, .val i64 v402.2)], vr := [], lent := [] }) = l0 k a1 v402 :=
  iter_raw _ _ K (fun v402 => ({ n := 26, sl := [(0, .val (.slc u8) a1.1), (4, .own (.slc tRecord) (ownMd (.slc tRecord)) [] v402.1), (5, .val i64 v402.2)], vr := [], lent := [] } : St)) (fun self v => B0 k self a1 v) (fun rec v => B0_eq k rec K a1 v) k v402
noncomputable def s0 (k : Nat) (a1 : Arg) : ((List Record) × Int) → Option Out := fun v402 => iterK (codeK E k fin (sub [1, 1, 1, 0, 0] C)) (keepF [0, 4, 5] []) (blockC 0 K0) k ({ n := 26, sl := [(0, .val (.slc u8) a1.1), (4, .own (.slc tRecord) (ownMd (.slc tRecord)) [] v402.1), (5, .val i64 v402.2)], vr := [], lent := [] })
noncomputable def r0 (k : Nat) (a1 : Arg) : ((List Record) × Int) → Option Out := fun v402 => l0 k a1 v402
theorem s0_eq (k : Nat) (a1 : Arg) : s0 k a1 = r0 k a1 := by
  funext v402;
  refine (l0_eq k ((blockC 0 K0)) a1 v402).trans ?_
  rfl
noncomputable def p (l0 : ((List Record) × Int) → Option Out) (a1 : Arg) : Option Out := l0 (([] : List Record), (0 : Int))
noncomputable def raw (k : Nat) (a1 : Arg) : Option Out := p (r0 k a1) a1
theorem p_eq (k : Nat) (a1 : Arg) : bodyK E k Go.Proofs.Try.f131 ps rs [] [] a1 = p (s0 k a1) a1 := by kernel_rfl
theorem raw_eq (k : Nat) (a1 : Arg) : bodyK E k Go.Proofs.Try.f131 ps rs [] [] a1 = raw k a1 := (p_eq k a1).trans (by rw [s0_eq]; rfl)
theorem ent : EnterOk Go.Proofs.Try.prog 131 sig.cap := ⟨Go.Proofs.Try.f131, Go.Proofs.Try.func131, by kernel_rfl, by kernel_rfl, by kernel_rfl⟩
theorem env : EnvOk Go.Proofs.Try.prog E := env_ok (tl := [(39, (.slc u8)), (61, tRecord), (76, (.slc tRecord))]) (gl := [(202, impl_read.sig)]) rfl rfl (by kernel_rfl) (by kernel_rfl) (fn_cons impl_read.snd impl_read.ent (fn_nil _))
theorem chk : funOk Go.Proofs.Try.prog E Go.Proofs.Try.f131 ps rs [] = true := by kernel_rfl
theorem snd : Sound Go.Proofs.Try.prog 131 sig := sound_of_body env Go.Proofs.Try.func131 rfl (es := []) (fr := []) chk (fun _ _ h => lift_some h)
end impl_readAll
namespace impl_Log_size
/-!  loop example g00408 impl Log  size -/
abbrev Arg : Type := Log × Unit
abbrev Out : Type := Int × Unit
noncomputable def ps : List (PM × Ty) := [(.ro, tLog)]
noncomputable def rs : List (Ty × Md) := [(i64, (roMd i64))]
noncomputable def E : Env := { TI := lookN [(39, (.slc u8)), (41, tLog)], G := lookN [], fz := [], lv := [], lx := [], lf := [], od := [] }
noncomputable def sem (a : Arg) : Option Out := lift fun k => bodyK E k Go.Proofs.Try.f187 ps rs [] [] a
noncomputable def sig : Sig := { ps := ps, rs := rs, F := fun a => sem a }
noncomputable def C : Code := bodyOf Go.Proofs.Try.f187
noncomputable def fin : St → Option Out := outK ps rs [] (Func.results Go.Proofs.Try.f187).toList (mvs [])
noncomputable def K0 : Ex → St → Option Out := endK fin
noncomputable def p (a1 : Arg) : Option Out := some (w64 ((a1.1.1.length : Int) + (a1.1.2.1.length : Int)), ())
noncomputable def raw (k : Nat) (a1 : Arg) : Option Out := p a1
theorem p_eq (k : Nat) (a1 : Arg) : bodyK E k Go.Proofs.Try.f187 ps rs [] [] a1 = p a1 := by kernel_rfl
theorem raw_eq (k : Nat) (a1 : Arg) : bodyK E k Go.Proofs.Try.f187 ps rs [] [] a1 = raw k a1 := (p_eq k a1).trans (by rfl)
theorem ent : EnterOk Go.Proofs.Try.prog 187 sig.cap := ⟨Go.Proofs.Try.f187, Go.Proofs.Try.func187, by kernel_rfl, by kernel_rfl, by kernel_rfl⟩
theorem env : EnvOk Go.Proofs.Try.prog E := env_ok (tl := [(39, (.slc u8)), (41, tLog)]) (gl := []) rfl rfl (by kernel_rfl) (by kernel_rfl) (fn_nil _)
theorem chk : funOk Go.Proofs.Try.prog E Go.Proofs.Try.f187 ps rs [] = true := by kernel_rfl
theorem snd : Sound Go.Proofs.Try.prog 187 sig := sound_of_body env Go.Proofs.Try.func187 rfl (es := []) (fr := []) chk (fun _ _ h => lift_some h)
end impl_Log_size
namespace impl_LogFault
/-! loop example g00408 impl LogFault -/
abbrev Arg : Type := Log × Unit
abbrev Out : Type := Int × Unit
noncomputable def ps : List (PM × Ty) := [(.ro, tLog)]
noncomputable def rs : List (Ty × Md) := [(i64, (roMd i64))]
noncomputable def E : Env := { TI := lookN [(38, (.slc (.slc u8))), (39, (.slc u8)), (41, tLog)], G := lookN [(131, impl_readAll.sig), (187, impl_Log_size.sig)], fz := [], lv := [(4, [14, 15, 16])], lx := [(0, [])], lf := [], od := [] }
noncomputable def sem (a : Arg) : Option Out := lift fun k => bodyK E k Go.Proofs.Try.f105 ps rs [] [] a
noncomputable def sig : Sig := { ps := ps, rs := rs, F := fun a => sem a }
noncomputable def C : Code := bodyOf Go.Proofs.Try.f105
noncomputable def fin : St → Option Out := outK ps rs [] (Func.results Go.Proofs.Try.f105).toList (mvs [])
noncomputable def K0 : Ex → St → Option Out := endK fin
noncomputable def S0 (rec : St → Option Out) (a1 : Arg) : (Int) → Option Out := fun v403 => rec ({ n := 30, sl := [(14, .own (.slc (.slc u8)) (.slc true (roMd (.slc u8))) [] [a1.1.1, a1.1.2.1]), (15, .val i64 ([a1.1.1, a1.1.2.1].length : Int)), (16, .val i64 v403)], vr := [], lent := [] })
noncomputable def X0_0 (K : Ex → St → Option Out) (a1 : Arg) : (Unit) → Option Out := fun z => K (.exit 0) ({ n := 30, sl := [], vr := [], lent := [] })
noncomputable def b0 (self : Int → Option Out) (e0 : (Unit) → Option Out) (a1 : Arg) (v403 : Int) : Option Out := bif decide (v403 < ([a1.1.1, a1.1.2.1].length : Int)) then (if 0 ≤ v403 ∧ v403 < ([a1.1.1, a1.1.2.1].length : Int) then (([a1.1.1, a1.1.2.1][v403.toNat]?).bind fun x604 => (impl_readAll.sem (x604, ())).bind fun r605 => bif !decide (r605.2.1 = (x604.length : Int)) then (some ((5 : Int), ())) else self (w64 (v403 + (1 : Int)))) else none) else e0 ()
noncomputable def B0 (k : Nat) (self : Int → Option Out) (e0 : (Unit) → Option Out) (a1 : Arg) (v403 : Int) : Option Out := b0 self e0 a1 v403
theorem b0_eq (k : Nat) (rec : St → Option Out) (K : Ex → St → Option Out) (a1 : Arg) (v403 : Int) : codeK E k fin (sub [1, 1, 0, 1, 0, 0] C) ({ n := 30, sl := [(14, .own (.slc (.slc u8)) (.slc true (roMd (.slc u8))) [] [a1.1.1, a1.1.2.1]), (15, .val i64 ([a1.1.1, a1.1.2.1].length : Int)), (16, .val i64 v403)], vr := [], lent := [] }) (loopC rec (keepF [14, 15, 16] []) K) = b0 (S0 rec a1) (X0_0 K a1) a1 v403 := by kernel_rfl
theorem B0_eq (k : Nat) (rec : St → Option Out) (K : Ex → St → Option Out) (a1 : Arg) (v403 : Int) : codeK E k fin (sub [1, 1, 0, 1, 0, 0] C) ({ n := 30, sl := [(14, .own (.slc (.slc u8)) (.slc true (roMd (.slc u8))) [] [a1.1.1, a1.1.2.1]), (15, .val i64 ([a1.1.1, a1.1.2.1].length : Int)), (16, .val i64 v403)], vr := [], lent := [] }) (loopC rec (keepF [14, 15, 16] []) K) = B0 k (S0 rec a1) (X0_0 K a1) a1 v403 := (b0_eq k rec K a1 v403).trans (by rfl)
noncomputable def l0 (k : Nat) (a1 : Arg) (e0 : (Unit) → Option Out) (v : Int) : Option Out := rawIter (fun self v => B0 k self e0 a1 v) k v
theorem l0_eq (k : Nat) (K : Ex → St → Option Out) (a1 : Arg) (v403 : Int) : iterK (codeK E k fin (sub [1, 1, 0, 1, 0, 0] C)) (keepF [14, 15, 16] []) K k ({ n := 30, sl := [(14, .own (.slc (.slc u8)) (.slc true (roMd (.slc u8))) [] [a1.1.1, a1.1.2.1]), (15, .val i64 ([a1.1.1, a1.1.2.1].length : Int)), (16, .val i64 v403)], vr := [], lent := [] }) = l0 k a1 (X0_0 K a1) v403 :=
  iter_raw _ _ K (fun v403 => ({ n := 30, sl := [(14, .own (.slc (.slc u8)) (.slc true (roMd (.slc u8))) [] [a1.1.1, a1.1.2.1]), (15, .val i64 ([a1.1.1, a1.1.2.1].length : Int)), (16, .val i64 v403)], vr := [], lent := [] } : St)) (fun self v => B0 k self (X0_0 K a1) a1 v) (fun rec v => B0_eq k rec K a1 v) k v403
noncomputable def q0 (a1 : Arg) (z606 : (Unit)) : Option Out := some ((0 : Int), ())
noncomputable def Q0 (k : Nat) (a1 : Arg) (z606 : (Unit)) : Option Out := q0 a1 z606
theorem q0_eq (k : Nat) (a1 : Arg) (z606 : (Unit)) : (blockC 0 (seqC (codeK E k fin (sub [1, 1, 1] C)) K0)) (.exit 0) ({ n := 30, sl := [], vr := [], lent := [] }) = q0 a1 z606 := by kernel_rfl
theorem Q0_eq (k : Nat) (a1 : Arg) (z606 : (Unit)) : (blockC 0 (seqC (codeK E k fin (sub [1, 1, 1] C)) K0)) (.exit 0) ({ n := 30, sl := [], vr := [], lent := [] }) = Q0 k a1 z606 := (q0_eq k a1 z606).trans (by rfl)
noncomputable def s0 (k : Nat) (a1 : Arg) : (Int) → Option Out := fun v403 => iterK (codeK E k fin (sub [1, 1, 0, 1, 0, 0] C)) (keepF [14, 15, 16] []) (blockC 0 (seqC (codeK E k fin (sub [1, 1, 1] C)) K0)) k ({ n := 30, sl := [(14, .own (.slc (.slc u8)) (.slc true (roMd (.slc u8))) [] [a1.1.1, a1.1.2.1]), (15, .val i64 ([a1.1.1, a1.1.2.1].length : Int)), (16, .val i64 v403)], vr := [], lent := [] })
noncomputable def r0 (k : Nat) (a1 : Arg) : (Int) → Option Out := fun v403 => l0 k a1 (fun z => Q0 k a1 z) v403
theorem s0_eq (k : Nat) (a1 : Arg) : s0 k a1 = r0 k a1 := by
  funext v403;
  have h0 : X0_0 ((blockC 0 (seqC (codeK E k fin (sub [1, 1, 1] C)) K0))) a1 = fun z => Q0 k a1 z := funext fun z => Q0_eq k a1 z
  refine (l0_eq k ((blockC 0 (seqC (codeK E k fin (sub [1, 1, 1] C)) K0))) a1 v403).trans ?_
  rw [h0]
  rfl
noncomputable def p (l0 : (Int) → Option Out) (a1 : Arg) : Option Out := (impl_Log_size.sem (a1.1, ())).bind fun r2 => bif decide ((16000 : Int) < r2.1) then (some ((2 : Int), ())) else l0 (0 : Int)
noncomputable def raw (k : Nat) (a1 : Arg) : Option Out := p (r0 k a1) a1
theorem p_eq (k : Nat) (a1 : Arg) : bodyK E k Go.Proofs.Try.f105 ps rs [] [] a1 = p (s0 k a1) a1 := by kernel_rfl
theorem raw_eq (k : Nat) (a1 : Arg) : bodyK E k Go.Proofs.Try.f105 ps rs [] [] a1 = raw k a1 := (p_eq k a1).trans (by rw [s0_eq]; rfl)
theorem ent : EnterOk Go.Proofs.Try.prog 105 sig.cap := ⟨Go.Proofs.Try.f105, Go.Proofs.Try.func105, by kernel_rfl, by kernel_rfl, by kernel_rfl⟩
theorem env : EnvOk Go.Proofs.Try.prog E := env_ok (tl := [(38, (.slc (.slc u8))), (39, (.slc u8)), (41, tLog)]) (gl := [(131, impl_readAll.sig), (187, impl_Log_size.sig)]) rfl rfl (by kernel_rfl) (by kernel_rfl) (fn_cons impl_readAll.snd impl_readAll.ent (fn_cons impl_Log_size.snd impl_Log_size.ent (fn_nil _)))
theorem chk : funOk Go.Proofs.Try.prog E Go.Proofs.Try.f105 ps rs [] = true := by kernel_rfl
theorem snd : Sound Go.Proofs.Try.prog 105 sig := sound_of_body env Go.Proofs.Try.func105 rfl (es := []) (fr := []) chk (fun _ _ h => lift_some h)
end impl_LogFault
namespace impl_Log_appended
/-!  loop example g00408 impl Log  appended -/
abbrev Arg : Type := Log × Record × Unit
abbrev Out : Type := Log × Bool × Unit
noncomputable def ps : List (PM × Ty) := [(.ro, tLog), (.ro, tRecord)]
noncomputable def rs : List (Ty × Md) := [(tLog, (roMd tLog)), (.bool, (roMd .bool))]
noncomputable def E : Env := { TI := lookN [(39, (.slc u8)), (41, tLog), (61, tRecord)], G := lookN [(129, impl_packed.sig), (187, impl_Log_size.sig), (191, impl_copied.sig)], fz := [], lv := [], lx := [], lf := [], od := [(4, [0, 1, 2, 3, 5, 4, 6, 7, 8, 9])], ar := [(4, [1, 3])], bx := [(4, [2])] }
noncomputable def sem (a : Arg) : Option Out := lift fun k => bodyK E k Go.Proofs.Try.f107 ps rs [] [] a
noncomputable def sig : Sig := { ps := ps, rs := rs, F := fun a => sem a }
noncomputable def C : Code := bodyOf Go.Proofs.Try.f107
noncomputable def fin : St → Option Out := outK ps rs [] (Func.results Go.Proofs.Try.f107).toList (mvs [])
noncomputable def K0 : Ex → St → Option Out := endK fin
noncomputable def p (a1 : Arg) : Option Out := (impl_packed.sem (a1.2.1, ())).bind fun r2 => (impl_Log_size.sem (a1.1, ())).bind fun r3 => bif decide ((16000 : Int) < w64 (r3.1 + (r2.1.length : Int))) then (some (a1.1, false, ())) else (impl_copied.sem (a1.1.2.1, ())).bind fun r4 => if r4.1.length + r2.1.length ≤ CAP then (some ((a1.1.1, r4.1 ++ r2.1, ()), true, ())) else none
noncomputable def raw (k : Nat) (a1 : Arg) : Option Out := p a1
theorem p_eq (k : Nat) (a1 : Arg) : bodyK E k Go.Proofs.Try.f107 ps rs [] [] a1 = p a1 := by kernel_rfl
theorem raw_eq (k : Nat) (a1 : Arg) : bodyK E k Go.Proofs.Try.f107 ps rs [] [] a1 = raw k a1 := (p_eq k a1).trans (by rfl)
theorem ent : EnterOk Go.Proofs.Try.prog 107 sig.cap := ⟨Go.Proofs.Try.f107, Go.Proofs.Try.func107, by kernel_rfl, by kernel_rfl, by kernel_rfl⟩
theorem env : EnvOk Go.Proofs.Try.prog E := env_ok (tl := [(39, (.slc u8)), (41, tLog), (61, tRecord)]) (gl := [(129, impl_packed.sig), (187, impl_Log_size.sig), (191, impl_copied.sig)]) rfl rfl (by kernel_rfl) (by kernel_rfl) (fn_cons impl_packed.snd impl_packed.ent (fn_cons impl_Log_size.snd impl_Log_size.ent (fn_cons impl_copied.snd impl_copied.ent (fn_nil _))))
theorem chk : funOk Go.Proofs.Try.prog E Go.Proofs.Try.f107 ps rs [] = true := by kernel_rfl
theorem snd : Sound Go.Proofs.Try.prog 107 sig := sound_of_body env Go.Proofs.Try.func107 rfl (es := []) (fr := []) chk (fun _ _ h => lift_some h)
end impl_Log_appended
namespace impl_Log_own
/-!  loop example g00408 impl Log  own -/
abbrev Arg : Type := Log × Unit
abbrev Out : Type := Log × Unit
noncomputable def ps : List (PM × Ty) := [(.ro, tLog)]
noncomputable def rs : List (Ty × Md) := [(tLog, (ownMd tLog))]
noncomputable def E : Env := { TI := lookN [(39, (.slc u8)), (41, tLog)], G := lookN [(191, impl_copied.sig)], fz := [], lv := [], lx := [], lf := [], od := [(1, [0, 1, 3, 4, 2, 5, 6, 7])] }
noncomputable def sem (a : Arg) : Option Out := lift fun k => bodyK E k Go.Proofs.Try.f108 ps rs [] [] a
noncomputable def sig : Sig := { ps := ps, rs := rs, F := fun a => sem a }
noncomputable def C : Code := bodyOf Go.Proofs.Try.f108
noncomputable def fin : St → Option Out := outK ps rs [] (Func.results Go.Proofs.Try.f108).toList (mvs [])
noncomputable def K0 : Ex → St → Option Out := endK fin
noncomputable def p (a1 : Arg) : Option Out := (impl_copied.sem (a1.1.1, ())).bind fun r2 => (impl_copied.sem (a1.1.2.1, ())).bind fun r3 => some ((r2.1, r3.1, ()), ())
noncomputable def raw (k : Nat) (a1 : Arg) : Option Out := p a1
theorem p_eq (k : Nat) (a1 : Arg) : bodyK E k Go.Proofs.Try.f108 ps rs [] [] a1 = p a1 := by kernel_rfl
theorem raw_eq (k : Nat) (a1 : Arg) : bodyK E k Go.Proofs.Try.f108 ps rs [] [] a1 = raw k a1 := (p_eq k a1).trans (by rfl)
theorem ent : EnterOk Go.Proofs.Try.prog 108 sig.cap := ⟨Go.Proofs.Try.f108, Go.Proofs.Try.func108, by kernel_rfl, by kernel_rfl, by kernel_rfl⟩
theorem env : EnvOk Go.Proofs.Try.prog E := env_ok (tl := [(39, (.slc u8)), (41, tLog)]) (gl := [(191, impl_copied.sig)]) rfl rfl (by kernel_rfl) (by kernel_rfl) (fn_cons impl_copied.snd impl_copied.ent (fn_nil _))
theorem chk : funOk Go.Proofs.Try.prog E Go.Proofs.Try.f108 ps rs [] = true := by kernel_rfl
theorem snd : Sound Go.Proofs.Try.prog 108 sig := sound_of_body env Go.Proofs.Try.func108 rfl (es := []) (fr := []) chk (fun _ _ h => lift_some h)
end impl_Log_own
namespace impl_AppendLog
/-! loop example g00408 impl AppendLog -/
abbrev Arg : Type := Log × Record × Unit
abbrev Out : Type := LogResult × Unit
noncomputable def ps : List (PM × Ty) := [(.ro, tLog), (.ro, tRecord)]
noncomputable def rs : List (Ty × Md) := [(tLogResult, (ownMd tLogResult))]
noncomputable def E : Env := { TI := lookN [(41, tLog), (56, tLogResult), (61, tRecord)], G := lookN [(105, impl_LogFault.sig), (106, impl_RecordFault.sig), (107, impl_Log_appended.sig), (108, impl_Log_own.sig)], fz := [], lv := [], lx := [], lf := [], od := [] }
noncomputable def sem (a : Arg) : Option Out := lift fun k => bodyK E k Go.Proofs.Try.f32 ps rs [] [] a
noncomputable def sig : Sig := { ps := ps, rs := rs, F := fun a => sem a }
noncomputable def C : Code := bodyOf Go.Proofs.Try.f32
noncomputable def fin : St → Option Out := outK ps rs [] (Func.results Go.Proofs.Try.f32).toList (mvs [])
noncomputable def K0 : Ex → St → Option Out := endK fin
noncomputable def p (a1 : Arg) : Option Out := (impl_LogFault.sem (a1.1, ())).bind fun r2 => bif !decide (r2.1 = (0 : Int)) then (some ((r2.1, (([] : List UInt8), ([] : List UInt8), ()), ()), ())) else (impl_RecordFault.sem (a1.2.1, ())).bind fun r3 => bif !decide (r3.1 = (0 : Int)) then (some ((r3.1, (([] : List UInt8), ([] : List UInt8), ()), ()), ())) else (impl_Log_appended.sem (a1.1, a1.2.1, ())).bind fun r4 => bif !r4.2.1 then (some (((9 : Int), (([] : List UInt8), ([] : List UInt8), ()), ()), ())) else (impl_Log_own.sem (r4.1, ())).bind fun r5 => some (((0 : Int), r5.1, ()), ())
noncomputable def raw (k : Nat) (a1 : Arg) : Option Out := p a1
theorem p_eq (k : Nat) (a1 : Arg) : bodyK E k Go.Proofs.Try.f32 ps rs [] [] a1 = p a1 := by kernel_rfl
theorem raw_eq (k : Nat) (a1 : Arg) : bodyK E k Go.Proofs.Try.f32 ps rs [] [] a1 = raw k a1 := (p_eq k a1).trans (by rfl)
theorem ent : EnterOk Go.Proofs.Try.prog 32 sig.cap := ⟨Go.Proofs.Try.f32, Go.Proofs.Try.func32, by kernel_rfl, by kernel_rfl, by kernel_rfl⟩
theorem env : EnvOk Go.Proofs.Try.prog E := env_ok (tl := [(41, tLog), (56, tLogResult), (61, tRecord)]) (gl := [(105, impl_LogFault.sig), (106, impl_RecordFault.sig), (107, impl_Log_appended.sig), (108, impl_Log_own.sig)]) rfl rfl (by kernel_rfl) (by kernel_rfl) (fn_cons impl_LogFault.snd impl_LogFault.ent (fn_cons impl_RecordFault.snd impl_RecordFault.ent (fn_cons impl_Log_appended.snd impl_Log_appended.ent (fn_cons impl_Log_own.snd impl_Log_own.ent (fn_nil _)))))
theorem chk : funOk Go.Proofs.Try.prog E Go.Proofs.Try.f32 ps rs [] = true := by kernel_rfl
theorem snd : Sound Go.Proofs.Try.prog 32 sig := sound_of_body env Go.Proofs.Try.func32 rfl (es := []) (fr := []) chk (fun _ _ h => lift_some h)
end impl_AppendLog
namespace laws_eqLogResult
/-! loop example g00408 laws eqLogResult -/
abbrev Arg : Type := LogResult × LogResult × Unit
abbrev Out : Type := Bool × Unit
noncomputable def ps : List (PM × Ty) := [(.ro, tLogResult), (.ro, tLogResult)]
noncomputable def rs : List (Ty × Md) := [(.bool, (roMd .bool))]
noncomputable def E : Env := { TI := lookN [(2, i64), (41, tLog), (56, tLogResult)], G := lookN [(34, laws_eqLog.sig)], fz := [], lv := [], lx := [], lf := [], od := [] }
noncomputable def sem (a : Arg) : Option Out := lift fun k => bodyK E k Go.Proofs.Try.f33 ps rs [] [] a
noncomputable def sig : Sig := { ps := ps, rs := rs, F := fun a => sem a }
noncomputable def C : Code := bodyOf Go.Proofs.Try.f33
noncomputable def fin : St → Option Out := outK ps rs [] (Func.results Go.Proofs.Try.f33).toList (mvs [])
noncomputable def K0 : Ex → St → Option Out := endK fin
noncomputable def p (a1 : Arg) : Option Out := bif !decide (a1.1.1 = a1.2.1.1) then (some (false, ())) else (laws_eqLog.sem (a1.1.2.1, a1.2.1.2.1, ())).bind fun r2 => bif !r2.1 then (some (false, ())) else some (true, ())
noncomputable def raw (k : Nat) (a1 : Arg) : Option Out := p a1
theorem p_eq (k : Nat) (a1 : Arg) : bodyK E k Go.Proofs.Try.f33 ps rs [] [] a1 = p a1 := by kernel_rfl
theorem raw_eq (k : Nat) (a1 : Arg) : bodyK E k Go.Proofs.Try.f33 ps rs [] [] a1 = raw k a1 := (p_eq k a1).trans (by rfl)
theorem ent : EnterOk Go.Proofs.Try.prog 33 sig.cap := ⟨Go.Proofs.Try.f33, Go.Proofs.Try.func33, by kernel_rfl, by kernel_rfl, by kernel_rfl⟩
theorem env : EnvOk Go.Proofs.Try.prog E := env_ok (tl := [(2, i64), (41, tLog), (56, tLogResult)]) (gl := [(34, laws_eqLog.sig)]) rfl rfl (by kernel_rfl) (by kernel_rfl) (fn_cons laws_eqLog.snd laws_eqLog.ent (fn_nil _))
theorem chk : funOk Go.Proofs.Try.prog E Go.Proofs.Try.f33 ps rs [] = true := by kernel_rfl
theorem snd : Sound Go.Proofs.Try.prog 33 sig := sound_of_body env Go.Proofs.Try.func33 rfl (es := []) (fr := []) chk (fun _ _ h => lift_some h)
end laws_eqLogResult
namespace laws_eqRun
/-! loop example g00408 laws eqRun -/
abbrev Arg : Type := Run × Run × Unit
abbrev Out : Type := Bool × Unit
noncomputable def ps : List (PM × Ty) := [(.ro, tRun), (.ro, tRun)]
noncomputable def rs : List (Ty × Md) := [(.bool, (roMd .bool))]
noncomputable def E : Env := { TI := lookN [(2, i64), (39, (.slc u8)), (236, tRun)], G := lookN [(109, laws_eqByteS.sig)], fz := [], lv := [], lx := [], lf := [], od := [] }
noncomputable def sem (a : Arg) : Option Out := lift fun k => bodyK E k Go.Proofs.Try.f192 ps rs [] [] a
noncomputable def sig : Sig := { ps := ps, rs := rs, F := fun a => sem a }
noncomputable def C : Code := bodyOf Go.Proofs.Try.f192
noncomputable def fin : St → Option Out := outK ps rs [] (Func.results Go.Proofs.Try.f192).toList (mvs [])
noncomputable def K0 : Ex → St → Option Out := endK fin
noncomputable def p (a1 : Arg) : Option Out := bif !decide (a1.1.1 = a1.2.1.1) then (some (false, ())) else (laws_eqByteS.sem (a1.1.2.1, a1.2.1.2.1, ())).bind fun r2 => bif !r2.1 then (some (false, ())) else some (true, ())
noncomputable def raw (k : Nat) (a1 : Arg) : Option Out := p a1
theorem p_eq (k : Nat) (a1 : Arg) : bodyK E k Go.Proofs.Try.f192 ps rs [] [] a1 = p a1 := by kernel_rfl
theorem raw_eq (k : Nat) (a1 : Arg) : bodyK E k Go.Proofs.Try.f192 ps rs [] [] a1 = raw k a1 := (p_eq k a1).trans (by rfl)
theorem ent : EnterOk Go.Proofs.Try.prog 192 sig.cap := ⟨Go.Proofs.Try.f192, Go.Proofs.Try.func192, by kernel_rfl, by kernel_rfl, by kernel_rfl⟩
theorem env : EnvOk Go.Proofs.Try.prog E := env_ok (tl := [(2, i64), (39, (.slc u8)), (236, tRun)]) (gl := [(109, laws_eqByteS.sig)]) rfl rfl (by kernel_rfl) (by kernel_rfl) (fn_cons laws_eqByteS.snd laws_eqByteS.ent (fn_nil _))
theorem chk : funOk Go.Proofs.Try.prog E Go.Proofs.Try.f192 ps rs [] = true := by kernel_rfl
theorem snd : Sound Go.Proofs.Try.prog 192 sig := sound_of_body env Go.Proofs.Try.func192 rfl (es := []) (fr := []) chk (fun _ _ h => lift_some h)
end laws_eqRun
namespace laws_eqRunS
/-! loop example g00408 laws eqRunS -/
abbrev Arg : Type := (List Run) × (List Run) × Unit
abbrev Out : Type := Bool × Unit
noncomputable def ps : List (PM × Ty) := [(.ro, (.slc tRun)), (.ro, (.slc tRun))]
noncomputable def rs : List (Ty × Md) := [(.bool, (roMd .bool))]
noncomputable def E : Env := { TI := lookN [(59, (.slc tRun)), (236, tRun)], G := lookN [(192, laws_eqRun.sig)], fz := [], lv := [(4, [0, 1, 5])], lx := [(0, [])], lf := [], od := [(6, [0, 1, 2, 3, 4, 5, 6, 7, 8, 9])] }
noncomputable def sem (a : Arg) : Option Out := lift fun k => bodyK E k Go.Proofs.Try.f110 ps rs [] [] a
noncomputable def sig : Sig := { ps := ps, rs := rs, F := fun a => sem a }
noncomputable def C : Code := bodyOf Go.Proofs.Try.f110
noncomputable def fin : St → Option Out := outK ps rs [] (Func.results Go.Proofs.Try.f110).toList (mvs [])
noncomputable def K0 : Ex → St → Option Out := endK fin
noncomputable def S0 (rec : St → Option Out) (a1 : Arg) : (Int) → Option Out := fun v402 => rec ({ n := 27, sl := [(0, .val (.slc tRun) a1.1), (1, .val (.slc tRun) a1.2.1), (5, .val i64 v402)], vr := [], lent := [] })
noncomputable def X0_0 (K : Ex → St → Option Out) (a1 : Arg) : (Unit) → Option Out := fun z => K (.exit 0) ({ n := 27, sl := [], vr := [], lent := [] })
noncomputable def b0 (self : Int → Option Out) (e0 : (Unit) → Option Out) (a1 : Arg) (v402 : Int) : Option Out := bif decide (v402 < (a1.1.length : Int)) then (if 0 ≤ v402 then ((a1.1[v402.toNat]?).bind fun x603 => if 0 ≤ v402 then ((a1.2.1[v402.toNat]?).bind fun x604 => (laws_eqRun.sem (x603, x604, ())).bind fun r605 => bif !r605.1 then (some (false, ())) else self (w64 (v402 + (1 : Int)))) else none) else none) else e0 ()
noncomputable def B0 (k : Nat) (self : Int → Option Out) (e0 : (Unit) → Option Out) (a1 : Arg) (v402 : Int) : Option Out := b0 self e0 a1 v402
theorem b0_eq (k : Nat) (rec : St → Option Out) (K : Ex → St → Option Out) (a1 : Arg) (v402 : Int) : codeK E k fin (sub [1, 1, 0, 1, 0, 0] C) ({ n := 27, sl := [(0, .val (.slc tRun) a1.1), (1, .val (.slc tRun) a1.2.1), (5, .val i64 v402)], vr := [], lent := [] }) (loopC rec (keepF [0, 1, 5] []) K) = b0 (S0 rec a1) (X0_0 K a1) a1 v402 := by kernel_rfl
theorem B0_eq (k : Nat) (rec : St → Option Out) (K : Ex → St → Option Out) (a1 : Arg) (v402 : Int) : codeK E k fin (sub [1, 1, 0, 1, 0, 0] C) ({ n := 27, sl := [(0, .val (.slc tRun) a1.1), (1, .val (.slc tRun) a1.2.1), (5, .val i64 v402)], vr := [], lent := [] }) (loopC rec (keepF [0, 1, 5] []) K) = B0 k (S0 rec a1) (X0_0 K a1) a1 v402 := (b0_eq k rec K a1 v402).trans (by rfl)
noncomputable def l0 (k : Nat) (a1 : Arg) (e0 : (Unit) → Option Out) (v : Int) : Option Out := rawIter (fun self v => B0 k self e0 a1 v) k v
theorem l0_eq (k : Nat) (K : Ex → St → Option Out) (a1 : Arg) (v402 : Int) : iterK (codeK E k fin (sub [1, 1, 0, 1, 0, 0] C)) (keepF [0, 1, 5] []) K k ({ n := 27, sl := [(0, .val (.slc tRun) a1.1), (1, .val (.slc tRun) a1.2.1), (5, .val i64 v402)], vr := [], lent := [] }) = l0 k a1 (X0_0 K a1) v402 :=
  iter_raw _ _ K (fun v402 => ({ n := 27, sl := [(0, .val (.slc tRun) a1.1), (1, .val (.slc tRun) a1.2.1), (5, .val i64 v402)], vr := [], lent := [] } : St)) (fun self v => B0 k self (X0_0 K a1) a1 v) (fun rec v => B0_eq k rec K a1 v) k v402
noncomputable def q0 (a1 : Arg) (z606 : (Unit)) : Option Out := some (true, ())
noncomputable def Q0 (k : Nat) (a1 : Arg) (z606 : (Unit)) : Option Out := q0 a1 z606
theorem q0_eq (k : Nat) (a1 : Arg) (z606 : (Unit)) : (blockC 0 (seqC (codeK E k fin (sub [1, 1, 1] C)) K0)) (.exit 0) ({ n := 27, sl := [], vr := [], lent := [] }) = q0 a1 z606 := by kernel_rfl
theorem Q0_eq (k : Nat) (a1 : Arg) (z606 : (Unit)) : (blockC 0 (seqC (codeK E k fin (sub [1, 1, 1] C)) K0)) (.exit 0) ({ n := 27, sl := [], vr := [], lent := [] }) = Q0 k a1 z606 := (q0_eq k a1 z606).trans (by rfl)
noncomputable def s0 (k : Nat) (a1 : Arg) : (Int) → Option Out := fun v402 => iterK (codeK E k fin (sub [1, 1, 0, 1, 0, 0] C)) (keepF [0, 1, 5] []) (blockC 0 (seqC (codeK E k fin (sub [1, 1, 1] C)) K0)) k ({ n := 27, sl := [(0, .val (.slc tRun) a1.1), (1, .val (.slc tRun) a1.2.1), (5, .val i64 v402)], vr := [], lent := [] })
noncomputable def r0 (k : Nat) (a1 : Arg) : (Int) → Option Out := fun v402 => l0 k a1 (fun z => Q0 k a1 z) v402
theorem s0_eq (k : Nat) (a1 : Arg) : s0 k a1 = r0 k a1 := by
  funext v402;
  have h0 : X0_0 ((blockC 0 (seqC (codeK E k fin (sub [1, 1, 1] C)) K0))) a1 = fun z => Q0 k a1 z := funext fun z => Q0_eq k a1 z
  refine (l0_eq k ((blockC 0 (seqC (codeK E k fin (sub [1, 1, 1] C)) K0))) a1 v402).trans ?_
  rw [h0]
  rfl
noncomputable def p (l0 : (Int) → Option Out) (a1 : Arg) : Option Out := bif !decide ((a1.1.length : Int) = (a1.2.1.length : Int)) then (some (false, ())) else l0 (0 : Int)
noncomputable def raw (k : Nat) (a1 : Arg) : Option Out := p (r0 k a1) a1
theorem p_eq (k : Nat) (a1 : Arg) : bodyK E k Go.Proofs.Try.f110 ps rs [] [] a1 = p (s0 k a1) a1 := by kernel_rfl
theorem raw_eq (k : Nat) (a1 : Arg) : bodyK E k Go.Proofs.Try.f110 ps rs [] [] a1 = raw k a1 := (p_eq k a1).trans (by rw [s0_eq]; rfl)
theorem ent : EnterOk Go.Proofs.Try.prog 110 sig.cap := ⟨Go.Proofs.Try.f110, Go.Proofs.Try.func110, by kernel_rfl, by kernel_rfl, by kernel_rfl⟩
theorem env : EnvOk Go.Proofs.Try.prog E := env_ok (tl := [(59, (.slc tRun)), (236, tRun)]) (gl := [(192, laws_eqRun.sig)]) rfl rfl (by kernel_rfl) (by kernel_rfl) (fn_cons laws_eqRun.snd laws_eqRun.ent (fn_nil _))
theorem chk : funOk Go.Proofs.Try.prog E Go.Proofs.Try.f110 ps rs [] = true := by kernel_rfl
theorem snd : Sound Go.Proofs.Try.prog 110 sig := sound_of_body env Go.Proofs.Try.func110 rfl (es := []) (fr := []) chk (fun _ _ h => lift_some h)
end laws_eqRunS
namespace laws_eqRecord
/-! loop example g00408 laws eqRecord -/
abbrev Arg : Type := Record × Record × Unit
abbrev Out : Type := Bool × Unit
noncomputable def ps : List (PM × Ty) := [(.ro, tRecord), (.ro, tRecord)]
noncomputable def rs : List (Ty × Md) := [(.bool, (roMd .bool))]
noncomputable def E : Env := { TI := lookN [(2, i64), (59, (.slc tRun)), (61, tRecord)], G := lookN [(110, laws_eqRunS.sig)], fz := [], lv := [], lx := [], lf := [], od := [] }
noncomputable def sem (a : Arg) : Option Out := lift fun k => bodyK E k Go.Proofs.Try.f35 ps rs [] [] a
noncomputable def sig : Sig := { ps := ps, rs := rs, F := fun a => sem a }
noncomputable def C : Code := bodyOf Go.Proofs.Try.f35
noncomputable def fin : St → Option Out := outK ps rs [] (Func.results Go.Proofs.Try.f35).toList (mvs [])
noncomputable def K0 : Ex → St → Option Out := endK fin
noncomputable def p (a1 : Arg) : Option Out := bif !decide (a1.1.1 = a1.2.1.1) then (some (false, ())) else bif !decide (a1.1.2.1 = a1.2.1.2.1) then (some (false, ())) else bif !decide (a1.1.2.2.1 = a1.2.1.2.2.1) then (some (false, ())) else (laws_eqRunS.sem (a1.1.2.2.2.1, a1.2.1.2.2.2.1, ())).bind fun r2 => bif !r2.1 then (some (false, ())) else some (true, ())
noncomputable def raw (k : Nat) (a1 : Arg) : Option Out := p a1
theorem p_eq (k : Nat) (a1 : Arg) : bodyK E k Go.Proofs.Try.f35 ps rs [] [] a1 = p a1 := by kernel_rfl
theorem raw_eq (k : Nat) (a1 : Arg) : bodyK E k Go.Proofs.Try.f35 ps rs [] [] a1 = raw k a1 := (p_eq k a1).trans (by rfl)
theorem ent : EnterOk Go.Proofs.Try.prog 35 sig.cap := ⟨Go.Proofs.Try.f35, Go.Proofs.Try.func35, by kernel_rfl, by kernel_rfl, by kernel_rfl⟩
theorem env : EnvOk Go.Proofs.Try.prog E := env_ok (tl := [(2, i64), (59, (.slc tRun)), (61, tRecord)]) (gl := [(110, laws_eqRunS.sig)]) rfl rfl (by kernel_rfl) (by kernel_rfl) (fn_cons laws_eqRunS.snd laws_eqRunS.ent (fn_nil _))
theorem chk : funOk Go.Proofs.Try.prog E Go.Proofs.Try.f35 ps rs [] = true := by kernel_rfl
theorem snd : Sound Go.Proofs.Try.prog 35 sig := sound_of_body env Go.Proofs.Try.func35 rfl (es := []) (fr := []) chk (fun _ _ h => lift_some h)
end laws_eqRecord
namespace laws_markRunS
/-! loop example g00408 laws markRunS -/
abbrev Arg : Type := (List Run) × Int × Unit
abbrev Out : Type := Int × (List Run) × Unit
noncomputable def ps : List (PM × Ty) := [(.muts (ownMd (.slc tRun)), (.slc tRun)), (.ro, i64)]
noncomputable def rs : List (Ty × Md) := [(i64, (roMd i64))]
noncomputable def E : Env := { TI := lookN [(2, i64), (39, (.slc u8)), (59, (.slc tRun)), (236, tRun)], G := lookN [(111, laws_markByteS.sig)], fz := [], lv := [(2, [0, 1, 5])], lx := [(0, [0, 1])], lf := [], od := [] }
noncomputable def sem (a : Arg) : Option Out := lift fun k => bodyK E k Go.Proofs.Try.f112 ps rs [0] [] a
noncomputable def sig : Sig := { ps := ps, rs := rs, F := fun a => sem a }
noncomputable def C : Code := bodyOf Go.Proofs.Try.f112
noncomputable def fin : St → Option Out := outK ps rs [0] (Func.results Go.Proofs.Try.f112).toList (mvs [])
noncomputable def K0 : Ex → St → Option Out := endK fin
noncomputable def S0 (rec : St → Option Out) (a1 : Arg) : ((List Run) × Int × Int) → Option Out := fun v402 => rec ({ n := 27, sl := [(0, .own (.slc tRun) (ownMd (.slc tRun)) [] v402.1), (1, .val i64 v402.2.1), (5, .val i64 v402.2.2)], vr := [], lent := [(0, 0, true)] })
noncomputable def X0_0 (K : Ex → St → Option Out) (a1 : Arg) : ((List Run) × Int) → Option Out := fun z => K (.exit 0) ({ n := 27, sl := [(0, .own (.slc tRun) (ownMd (.slc tRun)) [] z.1), (1, .val i64 z.2)], vr := [], lent := [(0, 0, true)] })
noncomputable def b0 (self : ((List Run) × Int × Int) → Option Out) (e0 : ((List Run) × Int) → Option Out) (a1 : Arg) (v402 : (List Run) × Int × Int) : Option Out := bif decide (v402.2.2 < (v402.1.length : Int)) then (if 0 ≤ v402.2.2 ∧ v402.2.2 < (v402.1.length : Int) then ((v402.1[v402.2.2.toNat]?).bind fun x603 => let y604 := v402.1.set v402.2.2.toNat (v402.2.1, x603.2); if 0 ≤ v402.2.2 ∧ v402.2.2 < (y604.length : Int) then ((y604[v402.2.2.toNat]?).bind fun x605 => (y604[v402.2.2.toNat]?).bind fun x606 => (y604[v402.2.2.toNat]?).bind fun x607 => (laws_markByteS.sem (x607.2.1, w64 (v402.2.1 + (1 : Int)), ())).bind fun r608 => (y604[v402.2.2.toNat]?).bind fun x609 => let y610 := y604.set v402.2.2.toNat (x609.1, r608.2.1, x609.2.2); self (y610, r608.1, w64 (v402.2.2 + (1 : Int)))) else none) else none) else e0 (v402.1, v402.2.1)
noncomputable def B0 (k : Nat) (self : ((List Run) × Int × Int) → Option Out) (e0 : ((List Run) × Int) → Option Out) (a1 : Arg) (v402 : (List Run) × Int × Int) : Option Out := b0 self e0 a1 v402
theorem b0_eq (k : Nat) (rec : St → Option Out) (K : Ex → St → Option Out) (a1 : Arg) (v402 : (List Run) × Int × Int) : codeK E k fin (sub [1, 0, 1, 0, 0] C) ({ n := 27, sl := [(0, .own (.slc tRun) (ownMd (.slc tRun)) [] v402.1), (1, .val i64 v402.2.1), (5, .val i64 v402.2.2)], vr := [], lent := [(0, 0, true)] }) (loopC rec (keepF [0, 1, 5] []) K) = b0 (S0 rec a1) (X0_0 K a1) a1 v402 := by kernel_rfl
theorem B0_eq (k : Nat) (rec : St → Option Out) (K : Ex → St → Option Out) (a1 : Arg) (v402 : (List Run) × Int × Int) : codeK E k fin (sub [1, 0, 1, 0, 0] C) ({ n := 27, sl := [(0, .own (.slc tRun) (ownMd (.slc tRun)) [] v402.1), (1, .val i64 v402.2.1), (5, .val i64 v402.2.2)], vr := [], lent := [(0, 0, true)] }) (loopC rec (keepF [0, 1, 5] []) K) = B0 k (S0 rec a1) (X0_0 K a1) a1 v402 := (b0_eq k rec K a1 v402).trans (by rfl)
noncomputable def l0 (k : Nat) (a1 : Arg) (e0 : ((List Run) × Int) → Option Out) (v : (List Run) × Int × Int) : Option Out := rawIter (fun self v => B0 k self e0 a1 v) k v
theorem l0_eq (k : Nat) (K : Ex → St → Option Out) (a1 : Arg) (v402 : (List Run) × Int × Int) : iterK (codeK E k fin (sub [1, 0, 1, 0, 0] C)) (keepF [0, 1, 5] []) K k ({ n := 27, sl := [(0, .own (.slc tRun) (ownMd (.slc tRun)) [] v402.1), (1, .val i64 v402.2.1), (5, .val i64 v402.2.2)], vr := [], lent := [(0, 0, true)] }) = l0 k a1 (X0_0 K a1) v402 :=
  iter_raw _ _ K (fun v402 => ({ n := 27, sl := [(0, .own (.slc tRun) (ownMd (.slc tRun)) [] v402.1), (1, .val i64 v402.2.1), (5, .val i64 v402.2.2)], vr := [], lent := [(0, 0, true)] } : St)) (fun self v => B0 k self (X0_0 K a1) a1 v) (fun rec v => B0_eq k rec K a1 v) k v402
noncomputable def q0 (a1 : Arg) (z611 : ((List Run) × Int)) : Option Out := some (z611.2, z611.1, ())
noncomputable def Q0 (k : Nat) (a1 : Arg) (z611 : ((List Run) × Int)) : Option Out := q0 a1 z611
theorem q0_eq (k : Nat) (a1 : Arg) (z611 : ((List Run) × Int)) : (blockC 0 (seqC (codeK E k fin (sub [1, 1] C)) K0)) (.exit 0) ({ n := 27, sl := [(0, .own (.slc tRun) (ownMd (.slc tRun)) [] z611.1), (1, .val i64 z611.2)], vr := [], lent := [(0, 0, true)] }) = q0 a1 z611 := by kernel_rfl
theorem Q0_eq (k : Nat) (a1 : Arg) (z611 : ((List Run) × Int)) : (blockC 0 (seqC (codeK E k fin (sub [1, 1] C)) K0)) (.exit 0) ({ n := 27, sl := [(0, .own (.slc tRun) (ownMd (.slc tRun)) [] z611.1), (1, .val i64 z611.2)], vr := [], lent := [(0, 0, true)] }) = Q0 k a1 z611 := (q0_eq k a1 z611).trans (by rfl)
noncomputable def s0 (k : Nat) (a1 : Arg) : ((List Run) × Int × Int) → Option Out := fun v402 => iterK (codeK E k fin (sub [1, 0, 1, 0, 0] C)) (keepF [0, 1, 5] []) (blockC 0 (seqC (codeK E k fin (sub [1, 1] C)) K0)) k ({ n := 27, sl := [(0, .own (.slc tRun) (ownMd (.slc tRun)) [] v402.1), (1, .val i64 v402.2.1), (5, .val i64 v402.2.2)], vr := [], lent := [(0, 0, true)] })
noncomputable def r0 (k : Nat) (a1 : Arg) : ((List Run) × Int × Int) → Option Out := fun v402 => l0 k a1 (fun z => Q0 k a1 z) v402
theorem s0_eq (k : Nat) (a1 : Arg) : s0 k a1 = r0 k a1 := by
  funext v402;
  have h0 : X0_0 ((blockC 0 (seqC (codeK E k fin (sub [1, 1] C)) K0))) a1 = fun z => Q0 k a1 z := funext fun z => Q0_eq k a1 z
  refine (l0_eq k ((blockC 0 (seqC (codeK E k fin (sub [1, 1] C)) K0))) a1 v402).trans ?_
  rw [h0]
  rfl
noncomputable def p (l0 : ((List Run) × Int × Int) → Option Out) (a1 : Arg) : Option Out := l0 (a1.1, a1.2.1, (0 : Int))
noncomputable def raw (k : Nat) (a1 : Arg) : Option Out := p (r0 k a1) a1
theorem p_eq (k : Nat) (a1 : Arg) : bodyK E k Go.Proofs.Try.f112 ps rs [0] [] a1 = p (s0 k a1) a1 := by kernel_rfl
theorem raw_eq (k : Nat) (a1 : Arg) : bodyK E k Go.Proofs.Try.f112 ps rs [0] [] a1 = raw k a1 := (p_eq k a1).trans (by rw [s0_eq]; rfl)
theorem ent : EnterOk Go.Proofs.Try.prog 112 sig.cap := ⟨Go.Proofs.Try.f112, Go.Proofs.Try.func112, by kernel_rfl, by kernel_rfl, by kernel_rfl⟩
theorem env : EnvOk Go.Proofs.Try.prog E := env_ok (tl := [(2, i64), (39, (.slc u8)), (59, (.slc tRun)), (236, tRun)]) (gl := [(111, laws_markByteS.sig)]) rfl rfl (by kernel_rfl) (by kernel_rfl) (fn_cons laws_markByteS.snd laws_markByteS.ent (fn_nil _))
theorem chk : funOk Go.Proofs.Try.prog E Go.Proofs.Try.f112 ps rs [0] = true := by kernel_rfl
theorem snd : Sound Go.Proofs.Try.prog 112 sig := sound_of_body env Go.Proofs.Try.func112 rfl (es := [0]) (fr := []) chk (fun _ _ h => lift_some h)
end laws_markRunS
namespace laws_markRecord
/-! loop example g00408 laws markRecord -/
abbrev Arg : Type := Record × Int × Unit
abbrev Out : Type := Int × Record × Unit
noncomputable def ps : List (PM × Ty) := [(.muts (ownMd tRecord), tRecord), (.ro, i64)]
noncomputable def rs : List (Ty × Md) := [(i64, (roMd i64))]
noncomputable def E : Env := { TI := lookN [(59, (.slc tRun)), (61, tRecord)], G := lookN [(112, laws_markRunS.sig)], fz := [], lv := [], lx := [], lf := [], od := [] }
noncomputable def sem (a : Arg) : Option Out := lift fun k => bodyK E k Go.Proofs.Try.f37 ps rs [2] [] a
noncomputable def sig : Sig := { ps := ps, rs := rs, F := fun a => sem a }
noncomputable def C : Code := bodyOf Go.Proofs.Try.f37
noncomputable def fin : St → Option Out := outK ps rs [2] (Func.results Go.Proofs.Try.f37).toList (mvs [])
noncomputable def K0 : Ex → St → Option Out := endK fin
noncomputable def p (a1 : Arg) : Option Out := (laws_markRunS.sem (a1.1.2.2.2.1, a1.2.1, ())).bind fun r2 => some (r2.1, (a1.1.1, a1.1.2.1, a1.1.2.2.1, r2.2.1, a1.1.2.2.2.2), ())
noncomputable def raw (k : Nat) (a1 : Arg) : Option Out := p a1
theorem p_eq (k : Nat) (a1 : Arg) : bodyK E k Go.Proofs.Try.f37 ps rs [2] [] a1 = p a1 := by kernel_rfl
theorem raw_eq (k : Nat) (a1 : Arg) : bodyK E k Go.Proofs.Try.f37 ps rs [2] [] a1 = raw k a1 := (p_eq k a1).trans (by rfl)
theorem ent : EnterOk Go.Proofs.Try.prog 37 sig.cap := ⟨Go.Proofs.Try.f37, Go.Proofs.Try.func37, by kernel_rfl, by kernel_rfl, by kernel_rfl⟩
theorem env : EnvOk Go.Proofs.Try.prog E := env_ok (tl := [(59, (.slc tRun)), (61, tRecord)]) (gl := [(112, laws_markRunS.sig)]) rfl rfl (by kernel_rfl) (by kernel_rfl) (fn_cons laws_markRunS.snd laws_markRunS.ent (fn_nil _))
theorem chk : funOk Go.Proofs.Try.prog E Go.Proofs.Try.f37 ps rs [2] = true := by kernel_rfl
theorem snd : Sound Go.Proofs.Try.prog 37 sig := sound_of_body env Go.Proofs.Try.func37 rfl (es := [2]) (fr := []) chk (fun _ _ h => lift_some h)
end laws_markRecord
namespace laws_markLogResult
/-! loop example g00408 laws markLogResult -/
abbrev Arg : Type := LogResult × Int × Unit
abbrev Out : Type := Int × LogResult × Unit
noncomputable def ps : List (PM × Ty) := [(.muts (ownMd tLogResult), tLogResult), (.ro, i64)]
noncomputable def rs : List (Ty × Md) := [(i64, (roMd i64))]
noncomputable def E : Env := { TI := lookN [(41, tLog), (56, tLogResult)], G := lookN [(36, laws_markLog.sig)], fz := [], lv := [], lx := [], lf := [], od := [] }
noncomputable def sem (a : Arg) : Option Out := lift fun k => bodyK E k Go.Proofs.Try.f38 ps rs [2] [] a
noncomputable def sig : Sig := { ps := ps, rs := rs, F := fun a => sem a }
noncomputable def C : Code := bodyOf Go.Proofs.Try.f38
noncomputable def fin : St → Option Out := outK ps rs [2] (Func.results Go.Proofs.Try.f38).toList (mvs [])
noncomputable def K0 : Ex → St → Option Out := endK fin
noncomputable def p (a1 : Arg) : Option Out := (laws_markLog.sem (a1.1.2.1, a1.2.1, ())).bind fun r2 => some (r2.1, (a1.1.1, r2.2.1, a1.1.2.2), ())
noncomputable def raw (k : Nat) (a1 : Arg) : Option Out := p a1
theorem p_eq (k : Nat) (a1 : Arg) : bodyK E k Go.Proofs.Try.f38 ps rs [2] [] a1 = p a1 := by kernel_rfl
theorem raw_eq (k : Nat) (a1 : Arg) : bodyK E k Go.Proofs.Try.f38 ps rs [2] [] a1 = raw k a1 := (p_eq k a1).trans (by rfl)
theorem ent : EnterOk Go.Proofs.Try.prog 38 sig.cap := ⟨Go.Proofs.Try.f38, Go.Proofs.Try.func38, by kernel_rfl, by kernel_rfl, by kernel_rfl⟩
theorem env : EnvOk Go.Proofs.Try.prog E := env_ok (tl := [(41, tLog), (56, tLogResult)]) (gl := [(36, laws_markLog.sig)]) rfl rfl (by kernel_rfl) (by kernel_rfl) (fn_cons laws_markLog.snd laws_markLog.ent (fn_nil _))
theorem chk : funOk Go.Proofs.Try.prog E Go.Proofs.Try.f38 ps rs [2] = true := by kernel_rfl
theorem snd : Sound Go.Proofs.Try.prog 38 sig := sound_of_body env Go.Proofs.Try.func38 rfl (es := [2]) (fr := []) chk (fun _ _ h => lift_some h)
end laws_markLogResult
namespace laws_heldLogResult
/-! loop example g00408 laws heldLogResult -/
abbrev Arg : Type := LogResult × Int × Unit
abbrev Out : Type := Int × Unit
noncomputable def ps : List (PM × Ty) := [(.ro, tLogResult), (.ro, i64)]
noncomputable def rs : List (Ty × Md) := [(i64, (roMd i64))]
noncomputable def E : Env := { TI := lookN [(41, tLog), (56, tLogResult)], G := lookN [(113, laws_heldLog.sig)], fz := [], lv := [], lx := [], lf := [], od := [] }
noncomputable def sem (a : Arg) : Option Out := lift fun k => bodyK E k Go.Proofs.Try.f39 ps rs [] [] a
noncomputable def sig : Sig := { ps := ps, rs := rs, F := fun a => sem a }
noncomputable def C : Code := bodyOf Go.Proofs.Try.f39
noncomputable def fin : St → Option Out := outK ps rs [] (Func.results Go.Proofs.Try.f39).toList (mvs [])
noncomputable def K0 : Ex → St → Option Out := endK fin
noncomputable def p (a1 : Arg) : Option Out := (laws_heldLog.sem (a1.1.2.1, a1.2.1, ())).bind fun r2 => bif decide (r2.1 < (0 : Int)) then (some ((-1 : Int), ())) else some (r2.1, ())
noncomputable def raw (k : Nat) (a1 : Arg) : Option Out := p a1
theorem p_eq (k : Nat) (a1 : Arg) : bodyK E k Go.Proofs.Try.f39 ps rs [] [] a1 = p a1 := by kernel_rfl
theorem raw_eq (k : Nat) (a1 : Arg) : bodyK E k Go.Proofs.Try.f39 ps rs [] [] a1 = raw k a1 := (p_eq k a1).trans (by rfl)
theorem ent : EnterOk Go.Proofs.Try.prog 39 sig.cap := ⟨Go.Proofs.Try.f39, Go.Proofs.Try.func39, by kernel_rfl, by kernel_rfl, by kernel_rfl⟩
theorem env : EnvOk Go.Proofs.Try.prog E := env_ok (tl := [(41, tLog), (56, tLogResult)]) (gl := [(113, laws_heldLog.sig)]) rfl rfl (by kernel_rfl) (by kernel_rfl) (fn_cons laws_heldLog.snd laws_heldLog.ent (fn_nil _))
theorem chk : funOk Go.Proofs.Try.prog E Go.Proofs.Try.f39 ps rs [] = true := by kernel_rfl
theorem snd : Sound Go.Proofs.Try.prog 39 sig := sound_of_body env Go.Proofs.Try.func39 rfl (es := []) (fr := []) chk (fun _ _ h => lift_some h)
end laws_heldLogResult
namespace laws_FnExactAppendLog
/-! loop example g00408 laws FnExactAppendLog -/
abbrev Arg : Type := Log × Record × Unit
abbrev Out : Type := Bool × Unit
noncomputable def ps : List (PM × Ty) := [(.ro, tLog), (.ro, tRecord)]
noncomputable def rs : List (Ty × Md) := [(.bool, (roMd .bool))]
noncomputable def E : Env := { TI := lookN [(41, tLog), (49, tLog), (52, tRecord), (56, tLogResult), (61, tRecord)], G := lookN [(27, laws_szLog.sig), (28, laws_szRecord.sig), (29, spec_AppendLog.sig), (30, laws_toLog.sig), (31, laws_toRecord.sig), (32, impl_AppendLog.sig), (33, laws_eqLogResult.sig), (34, laws_eqLog.sig), (35, laws_eqRecord.sig), (36, laws_markLog.sig), (37, laws_markRecord.sig), (38, laws_markLogResult.sig), (39, laws_heldLogResult.sig)], fz := [], lv := [], lx := [], lf := [], od := [(8, [0, 2, 1, 3, 4, 5, 6]), (14, [0, 1, 2, 3, 4]), (16, [0, 1, 2, 3, 4]), (31, [0, 2, 1, 3, 4, 5, 6])], ar := [(8, [0, 2]), (31, [0, 2])], bx := [(8, [2, 3])], pd := [(8, [5]), (31, [5])] }
noncomputable def sem (a : Arg) : Option Out := lift fun k => bodyK E k Go.Proofs.Try.f6 ps rs [] [] a
noncomputable def sig : Sig := { ps := ps, rs := rs, F := fun a => sem a }
noncomputable def C : Code := bodyOf Go.Proofs.Try.f6
noncomputable def fin : St → Option Out := outK ps rs [] (Func.results Go.Proofs.Try.f6).toList (mvs [])
noncomputable def K0 : Ex → St → Option Out := endK fin
noncomputable def p (a1 : Arg) : Option Out := (laws_szLog.sem (a1.1, (1048576 : Int), ())).bind fun r2 => bif decide (r2.1 < (0 : Int)) then (some (true, ())) else (laws_szRecord.sem (a1.2.1, r2.1, ())).bind fun r3 => bif decide (r3.1 < (0 : Int)) then (some (true, ())) else (laws_toLog.sem (a1.1, ())).bind fun r4 => (laws_toRecord.sem (a1.2.1, ())).bind fun r5 => (spec_AppendLog.sem (r4.1, r5.1, ())).bind fun r6 => (laws_toLog.sem (a1.1, ())).bind fun r7 => (laws_toRecord.sem (a1.2.1, ())).bind fun r8 => (impl_AppendLog.sem (r7.1, r8.1, ())).bind fun r9 => (laws_eqLogResult.sem (r9.1, r6.1, ())).bind fun r10 => bif !r10.1 then (some (false, ())) else (laws_toLog.sem (a1.1, ())).bind fun r11 => (laws_eqLog.sem (r7.1, r11.1, ())).bind fun r12 => bif !r12.1 then (some (false, ())) else (laws_toRecord.sem (a1.2.1, ())).bind fun r13 => (laws_eqRecord.sem (r8.1, r13.1, ())).bind fun r14 => bif !r14.1 then (some (false, ())) else (laws_markLog.sem (r7.1, (1 : Int), ())).bind fun r15 => (laws_markRecord.sem (r8.1, r15.1, ())).bind fun r16 => bif decide (r16.1 < (0 : Int)) then (some (false, ())) else (laws_eqLogResult.sem (r9.1, r6.1, ())).bind fun r17 => bif !r17.1 then (some (false, ())) else (laws_markLogResult.sem (r9.1, (1 : Int), ())).bind fun r18 => (laws_heldLogResult.sem (r18.2.1, (1 : Int), ())).bind fun r19 => bif decide (r19.1 < (0 : Int)) then (some (false, ())) else bif !decide (r19.1 = r18.1) then (some (false, ())) else (laws_toLog.sem (a1.1, ())).bind fun r20 => (laws_toRecord.sem (a1.2.1, ())).bind fun r21 => (impl_AppendLog.sem (r20.1, r21.1, ())).bind fun r22 => (laws_eqLogResult.sem (r22.1, r6.1, ())).bind fun r23 => bif !r23.1 then (some (false, ())) else (laws_heldLogResult.sem (r18.2.1, (1 : Int), ())).bind fun r24 => bif decide (r24.1 < (0 : Int)) then (some (false, ())) else bif !decide (r24.1 = r18.1) then (some (false, ())) else some (true, ())
noncomputable def raw (k : Nat) (a1 : Arg) : Option Out := p a1
theorem p_eq (k : Nat) (a1 : Arg) : bodyK E k Go.Proofs.Try.f6 ps rs [] [] a1 = p a1 := by kernel_rfl
theorem raw_eq (k : Nat) (a1 : Arg) : bodyK E k Go.Proofs.Try.f6 ps rs [] [] a1 = raw k a1 := (p_eq k a1).trans (by rfl)
theorem ent : EnterOk Go.Proofs.Try.prog 6 sig.cap := ⟨Go.Proofs.Try.f6, Go.Proofs.Try.func6, by kernel_rfl, by kernel_rfl, by kernel_rfl⟩
theorem env : EnvOk Go.Proofs.Try.prog E := env_ok (tl := [(41, tLog), (49, tLog), (52, tRecord), (56, tLogResult), (61, tRecord)]) (gl := [(27, laws_szLog.sig), (28, laws_szRecord.sig), (29, spec_AppendLog.sig), (30, laws_toLog.sig), (31, laws_toRecord.sig), (32, impl_AppendLog.sig), (33, laws_eqLogResult.sig), (34, laws_eqLog.sig), (35, laws_eqRecord.sig), (36, laws_markLog.sig), (37, laws_markRecord.sig), (38, laws_markLogResult.sig), (39, laws_heldLogResult.sig)]) rfl rfl (by kernel_rfl) (by kernel_rfl) (fn_cons laws_szLog.snd laws_szLog.ent (fn_cons laws_szRecord.snd laws_szRecord.ent (fn_cons spec_AppendLog.snd spec_AppendLog.ent (fn_cons laws_toLog.snd laws_toLog.ent (fn_cons laws_toRecord.snd laws_toRecord.ent (fn_cons impl_AppendLog.snd impl_AppendLog.ent (fn_cons laws_eqLogResult.snd laws_eqLogResult.ent (fn_cons laws_eqLog.snd laws_eqLog.ent (fn_cons laws_eqRecord.snd laws_eqRecord.ent (fn_cons laws_markLog.snd laws_markLog.ent (fn_cons laws_markRecord.snd laws_markRecord.ent (fn_cons laws_markLogResult.snd laws_markLogResult.ent (fn_cons laws_heldLogResult.snd laws_heldLogResult.ent (fn_nil _))))))))))))))
theorem chk : funOk Go.Proofs.Try.prog E Go.Proofs.Try.f6 ps rs [] = true := by kernel_rfl
theorem snd : Sound Go.Proofs.Try.prog 6 sig := sound_of_body env Go.Proofs.Try.func6 rfl (es := []) (fr := []) chk (fun _ _ h => lift_some h)
end laws_FnExactAppendLog
end OT
