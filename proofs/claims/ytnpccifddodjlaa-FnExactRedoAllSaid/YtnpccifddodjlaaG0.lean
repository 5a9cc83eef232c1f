/- Printed by gen.py, a program of this claim: what each Go function computes. -/
import Derived.Test.YtnpccifddodjlaaOUk
import Derived.Test.YtnpccifddodjlaaProg
import Derived.KernelRfl
set_option maxRecDepth 100000
set_option linter.unusedVariables false
namespace OT
open Go
abbrev Row : Type := (Int × Int × Int × (List UInt8) × Unit)
abbrev tRow : Ty := (tupT [i64, i64, i64, .str])
abbrev Change : Type := (Bool × Row × Bool × Row × Unit)
abbrev tChange : Ty := (tupT [.bool, tRow, .bool, tRow])
abbrev Sent : Type := (Int × Int × (List Change) × Unit)
abbrev tSent : Ty := (tupT [i64, i64, (.slc tChange)])
abbrev Key : Type := (Int × Int × Unit)
abbrev tKey : Ty := (tupT [i64, i64])
abbrev Tx : Type := (Int × (List Change) × (List Int) × (List Key) × Unit)
abbrev tTx : Ty := (tupT [i64, (.slc tChange), (.slc i64), (.slc tKey)])
abbrev Plain : Type := ((List Row) × (List Tx) × Int × Unit)
abbrev tPlain : Ty := (tupT [(.slc tRow), (.slc tTx), i64])
abbrev PlainResult : Type := (Int × Int × Plain × Unit)
abbrev tPlainResult : Ty := (tupT [i64, i64, tPlain])
abbrev Log : Type := ((List UInt8) × (List UInt8) × Unit)
abbrev tLog : Ty := (tupT [(.slc u8), (.slc u8)])
abbrev Store : Type := (Bool × (List (List UInt8)) × Log × (List Tx) × Int × Unit)
abbrev tStore : Ty := (tupT [.bool, (.slc (.slc u8)), tLog, (.slc tTx), i64])
abbrev StoreResult : Type := (Int × Int × Store × Unit)
abbrev tStoreResult : Ty := (tupT [i64, i64, tStore])
abbrev Run : Type := (Int × (List UInt8) × Unit)
abbrev tRun : Ty := (tupT [i64, (.slc u8)])
abbrev Record : Type := (Int × Int × Int × (List Run) × Unit)
abbrev tRecord : Ty := (tupT [i64, i64, i64, (.slc tRun)])
abbrev RecordResult : Type := (Int × Int × Record × Unit)
abbrev tRecordResult : Ty := (tupT [i64, i64, tRecord])
abbrev LogResult : Type := (Int × Log × Unit)
abbrev tLogResult : Ty := (tupT [i64, tLog])
abbrev EditsResult : Type := (Int × (List Run) × (List (List UInt8)) × Unit)
abbrev tEditsResult : Ty := (tupT [i64, (.slc tRun), (.slc (.slc u8))])
abbrev L1Src : Type := ((List UInt8) × Int × Unit)
abbrev tL1Src : Ty := (tupT [(.slc u8), i64])
abbrev RecordsResult : Type := (Int × Int × (List Record) × Unit)
abbrev tRecordsResult : Ty := (tupT [i64, i64, (.slc tRecord)])
abbrev RowsResult : Type := (Int × (List Row) × Unit)
abbrev tRowsResult : Ty := (tupT [i64, (.slc tRow)])
abbrev Buffer : Type := (Int × (List Change) × Unit)
abbrev tBuffer : Ty := (tupT [i64, (.slc tChange)])
abbrev Miner : Type := ((List (List UInt8)) × (List Buffer) × Unit)
abbrev tMiner : Ty := (tupT [(.slc (.slc u8)), (.slc tBuffer)])
abbrev Connector : Type := (Miner × Int × Miner × Int × Unit)
abbrev tConnector : Ty := (tupT [tMiner, i64, tMiner, i64])
abbrev SentResult : Type := (Int × (List Sent) × Connector × Unit)
abbrev tSentResult : Ty := (tupT [i64, (.slc tSent), tConnector])
abbrev TxsResult : Type := (Int × (List Tx) × Unit)
abbrev tTxsResult : Ty := (tupT [i64, (.slc tTx)])
namespace spec_l1In
/-! loop example g00408 spec l1In -/
abbrev Arg : Type := Int × Int × Int × Unit
abbrev Out : Type := Bool × Unit
noncomputable def ps : List (PM × Ty) := [(.ro, i64), (.ro, i64), (.ro, i64)]
noncomputable def rs : List (Ty × Md) := [(.bool, (roMd .bool))]
noncomputable def E : Env := { TI := lookN [], G := lookN [], fz := [], lv := [], lx := [], lf := [], od := [] }
noncomputable def sem (a : Arg) : Option Out := lift fun k => bodyK E k Go.Proofs.Try.f90 ps rs [] [] a
noncomputable def sig : Sig := { ps := ps, rs := rs, F := fun a => sem a }
noncomputable def C : Code := bodyOf Go.Proofs.Try.f90
noncomputable def fin : St → Option Out := outK ps rs [] (Func.results Go.Proofs.Try.f90).toList (mvs [])
noncomputable def K0 : Ex → St → Option Out := endK fin
noncomputable def p (a1 : Arg) : Option Out := bif decide (a1.2.1 ≤ a1.1) then (some (decide (a1.1 ≤ a1.2.2.1), ())) else some (false, ())
noncomputable def raw (k : Nat) (a1 : Arg) : Option Out := p a1
theorem p_eq (k : Nat) (a1 : Arg) : bodyK E k Go.Proofs.Try.f90 ps rs [] [] a1 = p a1 := by kernel_rfl
theorem raw_eq (k : Nat) (a1 : Arg) : bodyK E k Go.Proofs.Try.f90 ps rs [] [] a1 = raw k a1 := (p_eq k a1).trans (by rfl)
theorem ent : EnterOk Go.Proofs.Try.prog 90 sig.cap := ⟨Go.Proofs.Try.f90, Go.Proofs.Try.func90, by kernel_rfl, by kernel_rfl, by kernel_rfl⟩
theorem env : EnvOk Go.Proofs.Try.prog E := env_ok (tl := []) (gl := []) rfl rfl (by kernel_rfl) (by kernel_rfl) (fn_nil _)
theorem chk : funOk Go.Proofs.Try.prog E Go.Proofs.Try.f90 ps rs [] = true := by kernel_rfl
theorem snd : Sound Go.Proofs.Try.prog 90 sig := sound_of_body env Go.Proofs.Try.func90 rfl (es := []) (fr := []) chk (fun _ _ h => lift_some h)
end spec_l1In
namespace impl_in
/-! loop example g00408 impl in -/
abbrev Arg : Type := Int × Int × Int × Unit
abbrev Out : Type := Bool × Unit
noncomputable def ps : List (PM × Ty) := [(.ro, i64), (.ro, i64), (.ro, i64)]
noncomputable def rs : List (Ty × Md) := [(.bool, (roMd .bool))]
noncomputable def E : Env := { TI := lookN [], G := lookN [], fz := [], lv := [], lx := [], lf := [], od := [] }
noncomputable def sem (a : Arg) : Option Out := lift fun k => bodyK E k Go.Proofs.Try.f91 ps rs [] [] a
noncomputable def sig : Sig := { ps := ps, rs := rs, F := fun a => sem a }
noncomputable def C : Code := bodyOf Go.Proofs.Try.f91
noncomputable def fin : St → Option Out := outK ps rs [] (Func.results Go.Proofs.Try.f91).toList (mvs [])
noncomputable def K0 : Ex → St → Option Out := endK fin
noncomputable def p (a1 : Arg) : Option Out := bif decide (a1.2.1 ≤ a1.1) then (some (decide (a1.1 ≤ a1.2.2.1), ())) else some (false, ())
noncomputable def raw (k : Nat) (a1 : Arg) : Option Out := p a1
theorem p_eq (k : Nat) (a1 : Arg) : bodyK E k Go.Proofs.Try.f91 ps rs [] [] a1 = p a1 := by kernel_rfl
theorem raw_eq (k : Nat) (a1 : Arg) : bodyK E k Go.Proofs.Try.f91 ps rs [] [] a1 = raw k a1 := (p_eq k a1).trans (by rfl)
theorem ent : EnterOk Go.Proofs.Try.prog 91 sig.cap := ⟨Go.Proofs.Try.f91, Go.Proofs.Try.func91, by kernel_rfl, by kernel_rfl, by kernel_rfl⟩
theorem env : EnvOk Go.Proofs.Try.prog E := env_ok (tl := []) (gl := []) rfl rfl (by kernel_rfl) (by kernel_rfl) (fn_nil _)
theorem chk : funOk Go.Proofs.Try.prog E Go.Proofs.Try.f91 ps rs [] = true := by kernel_rfl
theorem snd : Sound Go.Proofs.Try.prog 91 sig := sound_of_body env Go.Proofs.Try.func91 rfl (es := []) (fr := []) chk (fun _ _ h => lift_some h)
end impl_in
namespace laws_eqByteS
/-! loop example g00408 laws eqByteS -/
abbrev Arg : Type := (List UInt8) × (List UInt8) × Unit
abbrev Out : Type := Bool × Unit
noncomputable def ps : List (PM × Ty) := [(.ro, (.slc u8)), (.ro, (.slc u8))]
noncomputable def rs : List (Ty × Md) := [(.bool, (roMd .bool))]
noncomputable def E : Env := { TI := lookN [(5, u8), (39, (.slc u8))], G := lookN [], fz := [], lv := [(4, [0, 1, 5])], lx := [(0, [])], lf := [], od := [(6, [0, 1, 2, 3, 4, 5, 6, 7, 8])] }
noncomputable def sem (a : Arg) : Option Out := lift fun k => bodyK E k Go.Proofs.Try.f109 ps rs [] [] a
noncomputable def sig : Sig := { ps := ps, rs := rs, F := fun a => sem a }
noncomputable def C : Code := bodyOf Go.Proofs.Try.f109
noncomputable def fin : St → Option Out := outK ps rs [] (Func.results Go.Proofs.Try.f109).toList (mvs [])
noncomputable def K0 : Ex → St → Option Out := endK fin
noncomputable def S0 (rec : St → Option Out) (a1 : Arg) : (Int) → Option Out := fun v402 => rec ({ n := 26, sl := [(0, .val (.slc u8) a1.1), (1, .val (.slc u8) a1.2.1), (5, .val i64 v402)], vr := [], lent := [] })
noncomputable def X0_0 (K : Ex → St → Option Out) (a1 : Arg) : (Unit) → Option Out := fun z => K (.exit 0) ({ n := 26, sl := [], vr := [], lent := [] })
noncomputable def b0 (self : Int → Option Out) (e0 : (Unit) → Option Out) (a1 : Arg) (v402 : Int) : Option Out := bif decide (v402 < (a1.1.length : Int)) then (if 0 ≤ v402 then ((a1.1[v402.toNat]?).bind fun x603 => if 0 ≤ v402 then ((a1.2.1[v402.toNat]?).bind fun x604 => bif !decide ((x603.toNat : Int) = (x604.toNat : Int)) then (some (false, ())) else self (w64 (v402 + (1 : Int)))) else none) else none) else e0 ()
noncomputable def B0 (k : Nat) (self : Int → Option Out) (e0 : (Unit) → Option Out) (a1 : Arg) (v402 : Int) : Option Out := b0 self e0 a1 v402
theorem b0_eq (k : Nat) (rec : St → Option Out) (K : Ex → St → Option Out) (a1 : Arg) (v402 : Int) : codeK E k fin (sub [1, 1, 0, 1, 0, 0] C) ({ n := 26, sl := [(0, .val (.slc u8) a1.1), (1, .val (.slc u8) a1.2.1), (5, .val i64 v402)], vr := [], lent := [] }) (loopC rec (keepF [0, 1, 5] []) K) = b0 (S0 rec a1) (X0_0 K a1) a1 v402 := by kernel_rfl
theorem B0_eq (k : Nat) (rec : St → Option Out) (K : Ex → St → Option Out) (a1 : Arg) (v402 : Int) : codeK E k fin (sub [1, 1, 0, 1, 0, 0] C) ({ n := 26, sl := [(0, .val (.slc u8) a1.1), (1, .val (.slc u8) a1.2.1), (5, .val i64 v402)], vr := [], lent := [] }) (loopC rec (keepF [0, 1, 5] []) K) = B0 k (S0 rec a1) (X0_0 K a1) a1 v402 := (b0_eq k rec K a1 v402).trans (by rfl)
noncomputable def l0 (k : Nat) (a1 : Arg) (e0 : (Unit) → Option Out) (v : Int) : Option Out := rawIter (fun self v => B0 k self e0 a1 v) k v
theorem l0_eq (k : Nat) (K : Ex → St → Option Out) (a1 : Arg) (v402 : Int) : iterK (codeK E k fin (sub [1, 1, 0, 1, 0, 0] C)) (keepF [0, 1, 5] []) K k ({ n := 26, sl := [(0, .val (.slc u8) a1.1), (1, .val (.slc u8) a1.2.1), (5, .val i64 v402)], vr := [], lent := [] }) = l0 k a1 (X0_0 K a1) v402 :=
  iter_raw _ _ K (fun v402 => ({ n := 26, sl := [(0, .val (.slc u8) a1.1), (1, .val (.slc u8) a1.2.1), (5, .val i64 v402)], vr := [], lent := [] } : St)) (fun self v => B0 k self (X0_0 K a1) a1 v) (fun rec v => B0_eq k rec K a1 v) k v402
noncomputable def q0 (a1 : Arg) (z605 : (Unit)) : Option Out := some (true, ())
noncomputable def Q0 (k : Nat) (a1 : Arg) (z605 : (Unit)) : Option Out := q0 a1 z605
theorem q0_eq (k : Nat) (a1 : Arg) (z605 : (Unit)) : (blockC 0 (seqC (codeK E k fin (sub [1, 1, 1] C)) K0)) (.exit 0) ({ n := 26, sl := [], vr := [], lent := [] }) = q0 a1 z605 := by kernel_rfl
theorem Q0_eq (k : Nat) (a1 : Arg) (z605 : (Unit)) : (blockC 0 (seqC (codeK E k fin (sub [1, 1, 1] C)) K0)) (.exit 0) ({ n := 26, sl := [], vr := [], lent := [] }) = Q0 k a1 z605 := (q0_eq k a1 z605).trans (by rfl)
noncomputable def s0 (k : Nat) (a1 : Arg) : (Int) → Option Out := fun v402 => iterK (codeK E k fin (sub [1, 1, 0, 1, 0, 0] C)) (keepF [0, 1, 5] []) (blockC 0 (seqC (codeK E k fin (sub [1, 1, 1] C)) K0)) k ({ n := 26, sl := [(0, .val (.slc u8) a1.1), (1, .val (.slc u8) a1.2.1), (5, .val i64 v402)], vr := [], lent := [] })
noncomputable def r0 (k : Nat) (a1 : Arg) : (Int) → Option Out := fun v402 => l0 k a1 (fun z => Q0 k a1 z) v402
theorem s0_eq (k : Nat) (a1 : Arg) : s0 k a1 = r0 k a1 := by
  funext v402;
  have h0 : X0_0 ((blockC 0 (seqC (codeK E k fin (sub [1, 1, 1] C)) K0))) a1 = fun z => Q0 k a1 z := funext fun z => Q0_eq k a1 z
  refine (l0_eq k ((blockC 0 (seqC (codeK E k fin (sub [1, 1, 1] C)) K0))) a1 v402).trans ?_
  rw [h0]
  rfl
noncomputable def p (l0 : (Int) → Option Out) (a1 : Arg) : Option Out := bif !decide ((a1.1.length : Int) = (a1.2.1.length : Int)) then (some (false, ())) else l0 (0 : Int)
noncomputable def raw (k : Nat) (a1 : Arg) : Option Out := p (r0 k a1) a1
theorem p_eq (k : Nat) (a1 : Arg) : bodyK E k Go.Proofs.Try.f109 ps rs [] [] a1 = p (s0 k a1) a1 := by kernel_rfl
theorem raw_eq (k : Nat) (a1 : Arg) : bodyK E k Go.Proofs.Try.f109 ps rs [] [] a1 = raw k a1 := (p_eq k a1).trans (by rw [s0_eq]; rfl)
theorem ent : EnterOk Go.Proofs.Try.prog 109 sig.cap := ⟨Go.Proofs.Try.f109, Go.Proofs.Try.func109, by kernel_rfl, by kernel_rfl, by kernel_rfl⟩
theorem env : EnvOk Go.Proofs.Try.prog E := env_ok (tl := [(5, u8), (39, (.slc u8))]) (gl := []) rfl rfl (by kernel_rfl) (by kernel_rfl) (fn_nil _)
theorem chk : funOk Go.Proofs.Try.prog E Go.Proofs.Try.f109 ps rs [] = true := by kernel_rfl
theorem snd : Sound Go.Proofs.Try.prog 109 sig := sound_of_body env Go.Proofs.Try.func109 rfl (es := []) (fr := []) chk (fun _ _ h => lift_some h)
end laws_eqByteS
namespace laws_eqByteSS
/-! loop example g00408 laws eqByteSS -/
abbrev Arg : Type := (List (List UInt8)) × (List (List UInt8)) × Unit
abbrev Out : Type := Bool × Unit
noncomputable def ps : List (PM × Ty) := [(.ro, (.slc (.slc u8))), (.ro, (.slc (.slc u8)))]
noncomputable def rs : List (Ty × Md) := [(.bool, (roMd .bool))]
noncomputable def E : Env := { TI := lookN [(38, (.slc (.slc u8))), (39, (.slc u8))], G := lookN [(109, laws_eqByteS.sig)], fz := [], lv := [(4, [0, 1, 5])], lx := [(0, [])], lf := [], od := [(6, [0, 1, 2, 3, 4, 5, 6, 7, 8, 9])] }
noncomputable def sem (a : Arg) : Option Out := lift fun k => bodyK E k Go.Proofs.Try.f119 ps rs [] [] a
noncomputable def sig : Sig := { ps := ps, rs := rs, F := fun a => sem a }
noncomputable def C : Code := bodyOf Go.Proofs.Try.f119
noncomputable def fin : St → Option Out := outK ps rs [] (Func.results Go.Proofs.Try.f119).toList (mvs [])
noncomputable def K0 : Ex → St → Option Out := endK fin
noncomputable def S0 (rec : St → Option Out) (a1 : Arg) : (Int) → Option Out := fun v402 => rec ({ n := 27, sl := [(0, .val (.slc (.slc u8)) a1.1), (1, .val (.slc (.slc u8)) a1.2.1), (5, .val i64 v402)], vr := [], lent := [] })
noncomputable def X0_0 (K : Ex → St → Option Out) (a1 : Arg) : (Unit) → Option Out := fun z => K (.exit 0) ({ n := 27, sl := [], vr := [], lent := [] })
noncomputable def b0 (self : Int → Option Out) (e0 : (Unit) → Option Out) (a1 : Arg) (v402 : Int) : Option Out := bif decide (v402 < (a1.1.length : Int)) then (if 0 ≤ v402 then ((a1.1[v402.toNat]?).bind fun x603 => if 0 ≤ v402 then ((a1.2.1[v402.toNat]?).bind fun x604 => (laws_eqByteS.sem (x603, x604, ())).bind fun r605 => bif !r605.1 then (some (false, ())) else self (w64 (v402 + (1 : Int)))) else none) else none) else e0 ()
noncomputable def B0 (k : Nat) (self : Int → Option Out) (e0 : (Unit) → Option Out) (a1 : Arg) (v402 : Int) : Option Out := b0 self e0 a1 v402
theorem b0_eq (k : Nat) (rec : St → Option Out) (K : Ex → St → Option Out) (a1 : Arg) (v402 : Int) : codeK E k fin (sub [1, 1, 0, 1, 0, 0] C) ({ n := 27, sl := [(0, .val (.slc (.slc u8)) a1.1), (1, .val (.slc (.slc u8)) a1.2.1), (5, .val i64 v402)], vr := [], lent := [] }) (loopC rec (keepF [0, 1, 5] []) K) = b0 (S0 rec a1) (X0_0 K a1) a1 v402 := by kernel_rfl
theorem B0_eq (k : Nat) (rec : St → Option Out) (K : Ex → St → Option Out) (a1 : Arg) (v402 : Int) : codeK E k fin (sub [1, 1, 0, 1, 0, 0] C) ({ n := 27, sl := [(0, .val (.slc (.slc u8)) a1.1), (1, .val (.slc (.slc u8)) a1.2.1), (5, .val i64 v402)], vr := [], lent := [] }) (loopC rec (keepF [0, 1, 5] []) K) = B0 k (S0 rec a1) (X0_0 K a1) a1 v402 := (b0_eq k rec K a1 v402).trans (by rfl)
noncomputable def l0 (k : Nat) (a1 : Arg) (e0 : (Unit) → Option Out) (v : Int) : Option Out := rawIter (fun self v => B0 k self e0 a1 v) k v
theorem l0_eq (k : Nat) (K : Ex → St → Option Out) (a1 : Arg) (v402 : Int) : iterK (codeK E k fin (sub [1, 1, 0, 1, 0, 0] C)) (keepF [0, 1, 5] []) K k ({ n := 27, sl := [(0, .val (.slc (.slc u8)) a1.1), (1, .val (.slc (.slc u8)) a1.2.1), (5, .val i64 v402)], vr := [], lent := [] }) = l0 k a1 (X0_0 K a1) v402 :=
  iter_raw _ _ K (fun v402 => ({ n := 27, sl := [(0, .val (.slc (.slc u8)) a1.1), (1, .val (.slc (.slc u8)) a1.2.1), (5, .val i64 v402)], vr := [], lent := [] } : St)) (fun self v => B0 k self (X0_0 K a1) a1 v) (fun rec v => B0_eq k rec K a1 v) k v402
noncomputable def q0 (a1 : Arg) (z606 : (Unit)) : Option Out := some (true, ())
noncomputable def Q0 (k : Nat) (a1 : Arg) (z606 : (Unit)) : Option Out := q0 a1 z606
theorem q0_eq (k : Nat) (a1 : Arg) (z606 : (Unit)) : (blockC 0 (seqC (codeK E k fin (sub [1, 1, 1] C)) K0)) (.exit 0) ({ n := 27, sl := [], vr := [], lent := [] }) = q0 a1 z606 := by kernel_rfl
theorem Q0_eq (k : Nat) (a1 : Arg) (z606 : (Unit)) : (blockC 0 (seqC (codeK E k fin (sub [1, 1, 1] C)) K0)) (.exit 0) ({ n := 27, sl := [], vr := [], lent := [] }) = Q0 k a1 z606 := (q0_eq k a1 z606).trans (by rfl)
noncomputable def s0 (k : Nat) (a1 : Arg) : (Int) → Option Out := fun v402 => iterK (codeK E k fin (sub [1, 1, 0, 1, 0, 0] C)) (keepF [0, 1, 5] []) (blockC 0 (seqC (codeK E k fin (sub [1, 1, 1] C)) K0)) k ({ n := 27, sl := [(0, .val (.slc (.slc u8)) a1.1), (1, .val (.slc (.slc u8)) a1.2.1), (5, .val i64 v402)], vr := [], lent := [] })
noncomputable def r0 (k : Nat) (a1 : Arg) : (Int) → Option Out := fun v402 => l0 k a1 (fun z => Q0 k a1 z) v402
theorem s0_eq (k : Nat) (a1 : Arg) : s0 k a1 = r0 k a1 := by
  funext v402;
  have h0 : X0_0 ((blockC 0 (seqC (codeK E k fin (sub [1, 1, 1] C)) K0))) a1 = fun z => Q0 k a1 z := funext fun z => Q0_eq k a1 z
  refine (l0_eq k ((blockC 0 (seqC (codeK E k fin (sub [1, 1, 1] C)) K0))) a1 v402).trans ?_
  rw [h0]
  rfl
noncomputable def p (l0 : (Int) → Option Out) (a1 : Arg) : Option Out := bif !decide ((a1.1.length : Int) = (a1.2.1.length : Int)) then (some (false, ())) else l0 (0 : Int)
noncomputable def raw (k : Nat) (a1 : Arg) : Option Out := p (r0 k a1) a1
theorem p_eq (k : Nat) (a1 : Arg) : bodyK E k Go.Proofs.Try.f119 ps rs [] [] a1 = p (s0 k a1) a1 := by kernel_rfl
theorem raw_eq (k : Nat) (a1 : Arg) : bodyK E k Go.Proofs.Try.f119 ps rs [] [] a1 = raw k a1 := (p_eq k a1).trans (by rw [s0_eq]; rfl)
theorem ent : EnterOk Go.Proofs.Try.prog 119 sig.cap := ⟨Go.Proofs.Try.f119, Go.Proofs.Try.func119, by kernel_rfl, by kernel_rfl, by kernel_rfl⟩
theorem env : EnvOk Go.Proofs.Try.prog E := env_ok (tl := [(38, (.slc (.slc u8))), (39, (.slc u8))]) (gl := [(109, laws_eqByteS.sig)]) rfl rfl (by kernel_rfl) (by kernel_rfl) (fn_cons laws_eqByteS.snd laws_eqByteS.ent (fn_nil _))
theorem chk : funOk Go.Proofs.Try.prog E Go.Proofs.Try.f119 ps rs [] = true := by kernel_rfl
theorem snd : Sound Go.Proofs.Try.prog 119 sig := sound_of_body env Go.Proofs.Try.func119 rfl (es := []) (fr := []) chk (fun _ _ h => lift_some h)
end laws_eqByteSS
namespace laws_markByteS
/-! loop example g00408 laws markByteS -/
abbrev Arg : Type := (List UInt8) × Int × Unit
abbrev Out : Type := Int × (List UInt8) × Unit
noncomputable def ps : List (PM × Ty) := [(.muts (ownMd (.slc u8)), (.slc u8)), (.ro, i64)]
noncomputable def rs : List (Ty × Md) := [(i64, (roMd i64))]
noncomputable def E : Env := { TI := lookN [(3, i64), (5, u8), (39, (.slc u8))], G := lookN [], fz := [], lv := [(2, [0, 1, 5])], lx := [(0, [0, 1])], lf := [], od := [] }
noncomputable def sem (a : Arg) : Option Out := lift fun k => bodyK E k Go.Proofs.Try.f111 ps rs [0] [] a
noncomputable def sig : Sig := { ps := ps, rs := rs, F := fun a => sem a }
noncomputable def C : Code := bodyOf Go.Proofs.Try.f111
noncomputable def fin : St → Option Out := outK ps rs [0] (Func.results Go.Proofs.Try.f111).toList (mvs [])
noncomputable def K0 : Ex → St → Option Out := endK fin
noncomputable def S0 (rec : St → Option Out) (a1 : Arg) : ((List UInt8) × Int × Int) → Option Out := fun v402 => rec ({ n := 20, sl := [(0, .own (.slc u8) (ownMd (.slc u8)) [] v402.1), (1, .val i64 v402.2.1), (5, .val i64 v402.2.2)], vr := [], lent := [(0, 0, true)] })
noncomputable def X0_0 (K : Ex → St → Option Out) (a1 : Arg) : ((List UInt8) × Int) → Option Out := fun z => K (.exit 0) ({ n := 20, sl := [(0, .own (.slc u8) (ownMd (.slc u8)) [] z.1), (1, .val i64 z.2)], vr := [], lent := [(0, 0, true)] })
noncomputable def b0 (self : ((List UInt8) × Int × Int) → Option Out) (e0 : ((List UInt8) × Int) → Option Out) (a1 : Arg) (v402 : (List UInt8) × Int × Int) : Option Out := bif decide (v402.2.2 < (v402.1.length : Int)) then (if 0 ≤ v402.2.2 ∧ v402.2.2 < (v402.1.length : Int) then ((v402.1[v402.2.2.toNat]?).bind fun x603 => let y604 := v402.1.set v402.2.2.toNat (UInt8.ofInt v402.2.1); self (y604, w64 (v402.2.1 + (1 : Int)), w64 (v402.2.2 + (1 : Int)))) else none) else e0 (v402.1, v402.2.1)
noncomputable def B0 (k : Nat) (self : ((List UInt8) × Int × Int) → Option Out) (e0 : ((List UInt8) × Int) → Option Out) (a1 : Arg) (v402 : (List UInt8) × Int × Int) : Option Out := b0 self e0 a1 v402
theorem b0_eq (k : Nat) (rec : St → Option Out) (K : Ex → St → Option Out) (a1 : Arg) (v402 : (List UInt8) × Int × Int) : codeK E k fin (sub [1, 0, 1, 0, 0] C) ({ n := 20, sl := [(0, .own (.slc u8) (ownMd (.slc u8)) [] v402.1), (1, .val i64 v402.2.1), (5, .val i64 v402.2.2)], vr := [], lent := [(0, 0, true)] }) (loopC rec (keepF [0, 1, 5] []) K) = b0 (S0 rec a1) (X0_0 K a1) a1 v402 := by kernel_rfl
theorem B0_eq (k : Nat) (rec : St → Option Out) (K : Ex → St → Option Out) (a1 : Arg) (v402 : (List UInt8) × Int × Int) : codeK E k fin (sub [1, 0, 1, 0, 0] C) ({ n := 20, sl := [(0, .own (.slc u8) (ownMd (.slc u8)) [] v402.1), (1, .val i64 v402.2.1), (5, .val i64 v402.2.2)], vr := [], lent := [(0, 0, true)] }) (loopC rec (keepF [0, 1, 5] []) K) = B0 k (S0 rec a1) (X0_0 K a1) a1 v402 := (b0_eq k rec K a1 v402).trans (by rfl)
noncomputable def l0 (k : Nat) (a1 : Arg) (e0 : ((List UInt8) × Int) → Option Out) (v : (List UInt8) × Int × Int) : Option Out := rawIter (fun self v => B0 k self e0 a1 v) k v
theorem l0_eq (k : Nat) (K : Ex → St → Option Out) (a1 : Arg) (v402 : (List UInt8) × Int × Int) : iterK (codeK E k fin (sub [1, 0, 1, 0, 0] C)) (keepF [0, 1, 5] []) K k ({ n := 20, sl := [(0, .own (.slc u8) (ownMd (.slc u8)) [] v402.1), (1, .val i64 v402.2.1), (5, .val i64 v402.2.2)], vr := [], lent := [(0, 0, true)] }) = l0 k a1 (X0_0 K a1) v402 :=
  iter_raw _ _ K (fun v402 => ({ n := 20, sl := [(0, .own (.slc u8) (ownMd (.slc u8)) [] v402.1), (1, .val i64 v402.2.1), (5, .val i64 v402.2.2)], vr := [], lent := [(0, 0, true)] } : St)) (fun self v => B0 k self (X0_0 K a1) a1 v) (fun rec v => B0_eq k rec K a1 v) k v402
noncomputable def q0 (a1 : Arg) (z605 : ((List UInt8) × Int)) : Option Out := some (z605.2, z605.1, ())
noncomputable def Q0 (k : Nat) (a1 : Arg) (z605 : ((List UInt8) × Int)) : Option Out := q0 a1 z605
theorem q0_eq (k : Nat) (a1 : Arg) (z605 : ((List UInt8) × Int)) : (blockC 0 (seqC (codeK E k fin (sub [1, 1] C)) K0)) (.exit 0) ({ n := 20, sl := [(0, .own (.slc u8) (ownMd (.slc u8)) [] z605.1), (1, .val i64 z605.2)], vr := [], lent := [(0, 0, true)] }) = q0 a1 z605 := by kernel_rfl
theorem Q0_eq (k : Nat) (a1 : Arg) (z605 : ((List UInt8) × Int)) : (blockC 0 (seqC (codeK E k fin (sub [1, 1] C)) K0)) (.exit 0) ({ n := 20, sl := [(0, .own (.slc u8) (ownMd (.slc u8)) [] z605.1), (1, .val i64 z605.2)], vr := [], lent := [(0, 0, true)] }) = Q0 k a1 z605 := (q0_eq k a1 z605).trans (by rfl)
noncomputable def s0 (k : Nat) (a1 : Arg) : ((List UInt8) × Int × Int) → Option Out := fun v402 => iterK (codeK E k fin (sub [1, 0, 1, 0, 0] C)) (keepF [0, 1, 5] []) (blockC 0 (seqC (codeK E k fin (sub [1, 1] C)) K0)) k ({ n := 20, sl := [(0, .own (.slc u8) (ownMd (.slc u8)) [] v402.1), (1, .val i64 v402.2.1), (5, .val i64 v402.2.2)], vr := [], lent := [(0, 0, true)] })
noncomputable def r0 (k : Nat) (a1 : Arg) : ((List UInt8) × Int × Int) → Option Out := fun v402 => l0 k a1 (fun z => Q0 k a1 z) v402
theorem s0_eq (k : Nat) (a1 : Arg) : s0 k a1 = r0 k a1 := by
  funext v402;
  have h0 : X0_0 ((blockC 0 (seqC (codeK E k fin (sub [1, 1] C)) K0))) a1 = fun z => Q0 k a1 z := funext fun z => Q0_eq k a1 z
  refine (l0_eq k ((blockC 0 (seqC (codeK E k fin (sub [1, 1] C)) K0))) a1 v402).trans ?_
  rw [h0]
  rfl
noncomputable def p (l0 : ((List UInt8) × Int × Int) → Option Out) (a1 : Arg) : Option Out := l0 (a1.1, a1.2.1, (0 : Int))
noncomputable def raw (k : Nat) (a1 : Arg) : Option Out := p (r0 k a1) a1
theorem p_eq (k : Nat) (a1 : Arg) : bodyK E k Go.Proofs.Try.f111 ps rs [0] [] a1 = p (s0 k a1) a1 := by kernel_rfl
theorem raw_eq (k : Nat) (a1 : Arg) : bodyK E k Go.Proofs.Try.f111 ps rs [0] [] a1 = raw k a1 := (p_eq k a1).trans (by rw [s0_eq]; rfl)
theorem ent : EnterOk Go.Proofs.Try.prog 111 sig.cap := ⟨Go.Proofs.Try.f111, Go.Proofs.Try.func111, by kernel_rfl, by kernel_rfl, by kernel_rfl⟩
theorem env : EnvOk Go.Proofs.Try.prog E := env_ok (tl := [(3, i64), (5, u8), (39, (.slc u8))]) (gl := []) rfl rfl (by kernel_rfl) (by kernel_rfl) (fn_nil _)
theorem chk : funOk Go.Proofs.Try.prog E Go.Proofs.Try.f111 ps rs [0] = true := by kernel_rfl
theorem snd : Sound Go.Proofs.Try.prog 111 sig := sound_of_body env Go.Proofs.Try.func111 rfl (es := [0]) (fr := []) chk (fun _ _ h => lift_some h)
end laws_markByteS
namespace laws_markByteSS
/-! loop example g00408 laws markByteSS -/
abbrev Arg : Type := (List (List UInt8)) × Int × Unit
abbrev Out : Type := Int × (List (List UInt8)) × Unit
noncomputable def ps : List (PM × Ty) := [(.muts (ownMd (.slc (.slc u8))), (.slc (.slc u8))), (.ro, i64)]
noncomputable def rs : List (Ty × Md) := [(i64, (roMd i64))]
noncomputable def E : Env := { TI := lookN [(38, (.slc (.slc u8))), (39, (.slc u8))], G := lookN [(111, laws_markByteS.sig)], fz := [], lv := [(2, [0, 1, 5])], lx := [(0, [0, 1])], lf := [], od := [] }
noncomputable def sem (a : Arg) : Option Out := lift fun k => bodyK E k Go.Proofs.Try.f121 ps rs [0] [] a
noncomputable def sig : Sig := { ps := ps, rs := rs, F := fun a => sem a }
noncomputable def C : Code := bodyOf Go.Proofs.Try.f121
noncomputable def fin : St → Option Out := outK ps rs [0] (Func.results Go.Proofs.Try.f121).toList (mvs [])
noncomputable def K0 : Ex → St → Option Out := endK fin
noncomputable def S0 (rec : St → Option Out) (a1 : Arg) : ((List (List UInt8)) × Int × Int) → Option Out := fun v402 => rec ({ n := 19, sl := [(0, .own (.slc (.slc u8)) (ownMd (.slc (.slc u8))) [] v402.1), (1, .val i64 v402.2.1), (5, .val i64 v402.2.2)], vr := [], lent := [(0, 0, true)] })
noncomputable def X0_0 (K : Ex → St → Option Out) (a1 : Arg) : ((List (List UInt8)) × Int) → Option Out := fun z => K (.exit 0) ({ n := 19, sl := [(0, .own (.slc (.slc u8)) (ownMd (.slc (.slc u8))) [] z.1), (1, .val i64 z.2)], vr := [], lent := [(0, 0, true)] })
noncomputable def b0 (self : ((List (List UInt8)) × Int × Int) → Option Out) (e0 : ((List (List UInt8)) × Int) → Option Out) (a1 : Arg) (v402 : (List (List UInt8)) × Int × Int) : Option Out := bif decide (v402.2.2 < (v402.1.length : Int)) then (if 0 ≤ v402.2.2 ∧ v402.2.2 < (v402.1.length : Int) then ((v402.1[v402.2.2.toNat]?).bind fun x603 => (v402.1[v402.2.2.toNat]?).bind fun x604 => (v402.1[v402.2.2.toNat]?).bind fun x605 => (laws_markByteS.sem (x605, v402.2.1, ())).bind fun r606 => (v402.1[v402.2.2.toNat]?).bind fun x607 => self (v402.1.set v402.2.2.toNat r606.2.1, r606.1, w64 (v402.2.2 + (1 : Int)))) else none) else e0 (v402.1, v402.2.1)
noncomputable def B0 (k : Nat) (self : ((List (List UInt8)) × Int × Int) → Option Out) (e0 : ((List (List UInt8)) × Int) → Option Out) (a1 : Arg) (v402 : (List (List UInt8)) × Int × Int) : Option Out := b0 self e0 a1 v402
theorem b0_eq (k : Nat) (rec : St → Option Out) (K : Ex → St → Option Out) (a1 : Arg) (v402 : (List (List UInt8)) × Int × Int) : codeK E k fin (sub [1, 0, 1, 0, 0] C) ({ n := 19, sl := [(0, .own (.slc (.slc u8)) (ownMd (.slc (.slc u8))) [] v402.1), (1, .val i64 v402.2.1), (5, .val i64 v402.2.2)], vr := [], lent := [(0, 0, true)] }) (loopC rec (keepF [0, 1, 5] []) K) = b0 (S0 rec a1) (X0_0 K a1) a1 v402 := by kernel_rfl
theorem B0_eq (k : Nat) (rec : St → Option Out) (K : Ex → St → Option Out) (a1 : Arg) (v402 : (List (List UInt8)) × Int × Int) : codeK E k fin (sub [1, 0, 1, 0, 0] C) ({ n := 19, sl := [(0, .own (.slc (.slc u8)) (ownMd (.slc (.slc u8))) [] v402.1), (1, .val i64 v402.2.1), (5, .val i64 v402.2.2)], vr := [], lent := [(0, 0, true)] }) (loopC rec (keepF [0, 1, 5] []) K) = B0 k (S0 rec a1) (X0_0 K a1) a1 v402 := (b0_eq k rec K a1 v402).trans (by rfl)
noncomputable def l0 (k : Nat) (a1 : Arg) (e0 : ((List (List UInt8)) × Int) → Option Out) (v : (List (List UInt8)) × Int × Int) : Option Out := rawIter (fun self v => B0 k self e0 a1 v) k v
theorem l0_eq (k : Nat) (K : Ex → St → Option Out) (a1 : Arg) (v402 : (List (List UInt8)) × Int × Int) : iterK (codeK E k fin (sub [1, 0, 1, 0, 0] C)) (keepF [0, 1, 5] []) K k ({ n := 19, sl := [(0, .own (.slc (.slc u8)) (ownMd (.slc (.slc u8))) [] v402.1), (1, .val i64 v402.2.1), (5, .val i64 v402.2.2)], vr := [], lent := [(0, 0, true)] }) = l0 k a1 (X0_0 K a1) v402 :=
  iter_raw _ _ K (fun v402 => ({ n := 19, sl := [(0, .own (.slc (.slc u8)) (ownMd (.slc (.slc u8))) [] v402.1), (1, .val i64 v402.2.1), (5, .val i64 v402.2.2)], vr := [], lent := [(0, 0, true)] } : St)) (fun self v => B0 k self (X0_0 K a1) a1 v) (fun rec v => B0_eq k rec K a1 v) k v402
noncomputable def q0 (a1 : Arg) (z608 : ((List (List UInt8)) × Int)) : Option Out := some (z608.2, z608.1, ())
noncomputable def Q0 (k : Nat) (a1 : Arg) (z608 : ((List (List UInt8)) × Int)) : Option Out := q0 a1 z608
theorem q0_eq (k : Nat) (a1 : Arg) (z608 : ((List (List UInt8)) × Int)) : (blockC 0 (seqC (codeK E k fin (sub [1, 1] C)) K0)) (.exit 0) ({ n := 19, sl := [(0, .own (.slc (.slc u8)) (ownMd (.slc (.slc u8))) [] z608.1), (1, .val i64 z608.2)], vr := [], lent := [(0, 0, true)] }) = q0 a1 z608 := by kernel_rfl
theorem Q0_eq (k : Nat) (a1 : Arg) (z608 : ((List (List UInt8)) × Int)) : (blockC 0 (seqC (codeK E k fin (sub [1, 1] C)) K0)) (.exit 0) ({ n := 19, sl := [(0, .own (.slc (.slc u8)) (ownMd (.slc (.slc u8))) [] z608.1), (1, .val i64 z608.2)], vr := [], lent := [(0, 0, true)] }) = Q0 k a1 z608 := (q0_eq k a1 z608).trans (by rfl)
noncomputable def s0 (k : Nat) (a1 : Arg) : ((List (List UInt8)) × Int × Int) → Option Out := fun v402 => iterK (codeK E k fin (sub [1, 0, 1, 0, 0] C)) (keepF [0, 1, 5] []) (blockC 0 (seqC (codeK E k fin (sub [1, 1] C)) K0)) k ({ n := 19, sl := [(0, .own (.slc (.slc u8)) (ownMd (.slc (.slc u8))) [] v402.1), (1, .val i64 v402.2.1), (5, .val i64 v402.2.2)], vr := [], lent := [(0, 0, true)] })
noncomputable def r0 (k : Nat) (a1 : Arg) : ((List (List UInt8)) × Int × Int) → Option Out := fun v402 => l0 k a1 (fun z => Q0 k a1 z) v402
theorem s0_eq (k : Nat) (a1 : Arg) : s0 k a1 = r0 k a1 := by
  funext v402;
  have h0 : X0_0 ((blockC 0 (seqC (codeK E k fin (sub [1, 1] C)) K0))) a1 = fun z => Q0 k a1 z := funext fun z => Q0_eq k a1 z
  refine (l0_eq k ((blockC 0 (seqC (codeK E k fin (sub [1, 1] C)) K0))) a1 v402).trans ?_
  rw [h0]
  rfl
noncomputable def p (l0 : ((List (List UInt8)) × Int × Int) → Option Out) (a1 : Arg) : Option Out := l0 (a1.1, a1.2.1, (0 : Int))
noncomputable def raw (k : Nat) (a1 : Arg) : Option Out := p (r0 k a1) a1
theorem p_eq (k : Nat) (a1 : Arg) : bodyK E k Go.Proofs.Try.f121 ps rs [0] [] a1 = p (s0 k a1) a1 := by kernel_rfl
theorem raw_eq (k : Nat) (a1 : Arg) : bodyK E k Go.Proofs.Try.f121 ps rs [0] [] a1 = raw k a1 := (p_eq k a1).trans (by rw [s0_eq]; rfl)
theorem ent : EnterOk Go.Proofs.Try.prog 121 sig.cap := ⟨Go.Proofs.Try.f121, Go.Proofs.Try.func121, by kernel_rfl, by kernel_rfl, by kernel_rfl⟩
theorem env : EnvOk Go.Proofs.Try.prog E := env_ok (tl := [(38, (.slc (.slc u8))), (39, (.slc u8))]) (gl := [(111, laws_markByteS.sig)]) rfl rfl (by kernel_rfl) (by kernel_rfl) (fn_cons laws_markByteS.snd laws_markByteS.ent (fn_nil _))
theorem chk : funOk Go.Proofs.Try.prog E Go.Proofs.Try.f121 ps rs [0] = true := by kernel_rfl
theorem snd : Sound Go.Proofs.Try.prog 121 sig := sound_of_body env Go.Proofs.Try.func121 rfl (es := [0]) (fr := []) chk (fun _ _ h => lift_some h)
end laws_markByteSS
namespace laws_heldByteS
/-! loop example g00408 laws heldByteS -/
abbrev Arg : Type := (List UInt8) × Int × Unit
abbrev Out : Type := Int × Unit
noncomputable def ps : List (PM × Ty) := [(.ro, (.slc u8)), (.ro, i64)]
noncomputable def rs : List (Ty × Md) := [(i64, (roMd i64))]
noncomputable def E : Env := { TI := lookN [(3, i64), (5, u8), (39, (.slc u8))], G := lookN [], fz := [], lv := [(2, [0, 1, 5])], lx := [(0, [1])], lf := [], od := [] }
noncomputable def sem (a : Arg) : Option Out := lift fun k => bodyK E k Go.Proofs.Try.f193 ps rs [] [] a
noncomputable def sig : Sig := { ps := ps, rs := rs, F := fun a => sem a }
noncomputable def C : Code := bodyOf Go.Proofs.Try.f193
noncomputable def fin : St → Option Out := outK ps rs [] (Func.results Go.Proofs.Try.f193).toList (mvs [])
noncomputable def K0 : Ex → St → Option Out := endK fin
noncomputable def S0 (rec : St → Option Out) (a1 : Arg) : (Int × Int) → Option Out := fun v402 => rec ({ n := 22, sl := [(0, .val (.slc u8) a1.1), (1, .val i64 v402.1), (5, .val i64 v402.2)], vr := [], lent := [] })
noncomputable def X0_0 (K : Ex → St → Option Out) (a1 : Arg) : Int → Option Out := fun z => K (.exit 0) ({ n := 22, sl := [(1, .val i64 z)], vr := [], lent := [] })
noncomputable def b0 (self : (Int × Int) → Option Out) (e0 : Int → Option Out) (a1 : Arg) (v402 : Int × Int) : Option Out := bif decide (v402.2 < (a1.1.length : Int)) then (if 0 ≤ v402.2 then ((a1.1[v402.2.toNat]?).bind fun x603 => bif !decide ((x603.toNat : Int) = ((UInt8.ofInt v402.1).toNat : Int)) then (some ((-1 : Int), ())) else self (w64 (v402.1 + (1 : Int)), w64 (v402.2 + (1 : Int)))) else none) else e0 v402.1
noncomputable def B0 (k : Nat) (self : (Int × Int) → Option Out) (e0 : Int → Option Out) (a1 : Arg) (v402 : Int × Int) : Option Out := b0 self e0 a1 v402
theorem b0_eq (k : Nat) (rec : St → Option Out) (K : Ex → St → Option Out) (a1 : Arg) (v402 : Int × Int) : codeK E k fin (sub [1, 0, 1, 0, 0] C) ({ n := 22, sl := [(0, .val (.slc u8) a1.1), (1, .val i64 v402.1), (5, .val i64 v402.2)], vr := [], lent := [] }) (loopC rec (keepF [0, 1, 5] []) K) = b0 (S0 rec a1) (X0_0 K a1) a1 v402 := by kernel_rfl
theorem B0_eq (k : Nat) (rec : St → Option Out) (K : Ex → St → Option Out) (a1 : Arg) (v402 : Int × Int) : codeK E k fin (sub [1, 0, 1, 0, 0] C) ({ n := 22, sl := [(0, .val (.slc u8) a1.1), (1, .val i64 v402.1), (5, .val i64 v402.2)], vr := [], lent := [] }) (loopC rec (keepF [0, 1, 5] []) K) = B0 k (S0 rec a1) (X0_0 K a1) a1 v402 := (b0_eq k rec K a1 v402).trans (by rfl)
noncomputable def l0 (k : Nat) (a1 : Arg) (e0 : Int → Option Out) (v : Int × Int) : Option Out := rawIter (fun self v => B0 k self e0 a1 v) k v
theorem l0_eq (k : Nat) (K : Ex → St → Option Out) (a1 : Arg) (v402 : Int × Int) : iterK (codeK E k fin (sub [1, 0, 1, 0, 0] C)) (keepF [0, 1, 5] []) K k ({ n := 22, sl := [(0, .val (.slc u8) a1.1), (1, .val i64 v402.1), (5, .val i64 v402.2)], vr := [], lent := [] }) = l0 k a1 (X0_0 K a1) v402 :=
  iter_raw _ _ K (fun v402 => ({ n := 22, sl := [(0, .val (.slc u8) a1.1), (1, .val i64 v402.1), (5, .val i64 v402.2)], vr := [], lent := [] } : St)) (fun self v => B0 k self (X0_0 K a1) a1 v) (fun rec v => B0_eq k rec K a1 v) k v402
noncomputable def q0 (a1 : Arg) (z604 : Int) : Option Out := some (z604, ())
noncomputable def Q0 (k : Nat) (a1 : Arg) (z604 : Int) : Option Out := q0 a1 z604
theorem q0_eq (k : Nat) (a1 : Arg) (z604 : Int) : (blockC 0 (seqC (codeK E k fin (sub [1, 1] C)) K0)) (.exit 0) ({ n := 22, sl := [(1, .val i64 z604)], vr := [], lent := [] }) = q0 a1 z604 := by kernel_rfl
theorem Q0_eq (k : Nat) (a1 : Arg) (z604 : Int) : (blockC 0 (seqC (codeK E k fin (sub [1, 1] C)) K0)) (.exit 0) ({ n := 22, sl := [(1, .val i64 z604)], vr := [], lent := [] }) = Q0 k a1 z604 := (q0_eq k a1 z604).trans (by rfl)
noncomputable def s0 (k : Nat) (a1 : Arg) : (Int × Int) → Option Out := fun v402 => iterK (codeK E k fin (sub [1, 0, 1, 0, 0] C)) (keepF [0, 1, 5] []) (blockC 0 (seqC (codeK E k fin (sub [1, 1] C)) K0)) k ({ n := 22, sl := [(0, .val (.slc u8) a1.1), (1, .val i64 v402.1), (5, .val i64 v402.2)], vr := [], lent := [] })
noncomputable def r0 (k : Nat) (a1 : Arg) : (Int × Int) → Option Out := fun v402 => l0 k a1 (fun z => Q0 k a1 z) v402
theorem s0_eq (k : Nat) (a1 : Arg) : s0 k a1 = r0 k a1 := by
  funext v402;
  have h0 : X0_0 ((blockC 0 (seqC (codeK E k fin (sub [1, 1] C)) K0))) a1 = fun z => Q0 k a1 z := funext fun z => Q0_eq k a1 z
  refine (l0_eq k ((blockC 0 (seqC (codeK E k fin (sub [1, 1] C)) K0))) a1 v402).trans ?_
  rw [h0]
  rfl
noncomputable def p (l0 : (Int × Int) → Option Out) (a1 : Arg) : Option Out := l0 (a1.2.1, (0 : Int))
noncomputable def raw (k : Nat) (a1 : Arg) : Option Out := p (r0 k a1) a1
theorem p_eq (k : Nat) (a1 : Arg) : bodyK E k Go.Proofs.Try.f193 ps rs [] [] a1 = p (s0 k a1) a1 := by kernel_rfl
theorem raw_eq (k : Nat) (a1 : Arg) : bodyK E k Go.Proofs.Try.f193 ps rs [] [] a1 = raw k a1 := (p_eq k a1).trans (by rw [s0_eq]; rfl)
theorem ent : EnterOk Go.Proofs.Try.prog 193 sig.cap := ⟨Go.Proofs.Try.f193, Go.Proofs.Try.func193, by kernel_rfl, by kernel_rfl, by kernel_rfl⟩
theorem env : EnvOk Go.Proofs.Try.prog E := env_ok (tl := [(3, i64), (5, u8), (39, (.slc u8))]) (gl := []) rfl rfl (by kernel_rfl) (by kernel_rfl) (fn_nil _)
theorem chk : funOk Go.Proofs.Try.prog E Go.Proofs.Try.f193 ps rs [] = true := by kernel_rfl
theorem snd : Sound Go.Proofs.Try.prog 193 sig := sound_of_body env Go.Proofs.Try.func193 rfl (es := []) (fr := []) chk (fun _ _ h => lift_some h)
end laws_heldByteS
namespace laws_heldByteSS
/-! loop example g00408 laws heldByteSS -/
abbrev Arg : Type := (List (List UInt8)) × Int × Unit
abbrev Out : Type := Int × Unit
noncomputable def ps : List (PM × Ty) := [(.ro, (.slc (.slc u8))), (.ro, i64)]
noncomputable def rs : List (Ty × Md) := [(i64, (roMd i64))]
noncomputable def E : Env := { TI := lookN [(38, (.slc (.slc u8))), (39, (.slc u8))], G := lookN [(193, laws_heldByteS.sig)], fz := [], lv := [(2, [0, 1, 5])], lx := [(0, [1])], lf := [], od := [] }
noncomputable def sem (a : Arg) : Option Out := lift fun k => bodyK E k Go.Proofs.Try.f123 ps rs [] [] a
noncomputable def sig : Sig := { ps := ps, rs := rs, F := fun a => sem a }
noncomputable def C : Code := bodyOf Go.Proofs.Try.f123
noncomputable def fin : St → Option Out := outK ps rs [] (Func.results Go.Proofs.Try.f123).toList (mvs [])
noncomputable def K0 : Ex → St → Option Out := endK fin
noncomputable def S0 (rec : St → Option Out) (a1 : Arg) : (Int × Int) → Option Out := fun v402 => rec ({ n := 21, sl := [(0, .val (.slc (.slc u8)) a1.1), (1, .val i64 v402.1), (5, .val i64 v402.2)], vr := [], lent := [] })
noncomputable def X0_0 (K : Ex → St → Option Out) (a1 : Arg) : Int → Option Out := fun z => K (.exit 0) ({ n := 21, sl := [(1, .val i64 z)], vr := [], lent := [] })
noncomputable def b0 (self : (Int × Int) → Option Out) (e0 : Int → Option Out) (a1 : Arg) (v402 : Int × Int) : Option Out := bif decide (v402.2 < (a1.1.length : Int)) then (if 0 ≤ v402.2 then ((a1.1[v402.2.toNat]?).bind fun x603 => (laws_heldByteS.sem (x603, v402.1, ())).bind fun r604 => bif decide (r604.1 < (0 : Int)) then (some ((-1 : Int), ())) else self (r604.1, w64 (v402.2 + (1 : Int)))) else none) else e0 v402.1
noncomputable def B0 (k : Nat) (self : (Int × Int) → Option Out) (e0 : Int → Option Out) (a1 : Arg) (v402 : Int × Int) : Option Out := b0 self e0 a1 v402
theorem b0_eq (k : Nat) (rec : St → Option Out) (K : Ex → St → Option Out) (a1 : Arg) (v402 : Int × Int) : codeK E k fin (sub [1, 0, 1, 0, 0] C) ({ n := 21, sl := [(0, .val (.slc (.slc u8)) a1.1), (1, .val i64 v402.1), (5, .val i64 v402.2)], vr := [], lent := [] }) (loopC rec (keepF [0, 1, 5] []) K) = b0 (S0 rec a1) (X0_0 K a1) a1 v402 := by kernel_rfl
theorem B0_eq (k : Nat) (rec : St → Option Out) (K : Ex → St → Option Out) (a1 : Arg) (v402 : Int × Int) : codeK E k fin (sub [1, 0, 1, 0, 0] C) ({ n := 21, sl := [(0, .val (.slc (.slc u8)) a1.1), (1, .val i64 v402.1), (5, .val i64 v402.2)], vr := [], lent := [] }) (loopC rec (keepF [0, 1, 5] []) K) = B0 k (S0 rec a1) (X0_0 K a1) a1 v402 := (b0_eq k rec K a1 v402).trans (by rfl)
noncomputable def l0 (k : Nat) (a1 : Arg) (e0 : Int → Option Out) (v : Int × Int) : Option Out := rawIter (fun self v => B0 k self e0 a1 v) k v
theorem l0_eq (k : Nat) (K : Ex → St → Option Out) (a1 : Arg) (v402 : Int × Int) : iterK (codeK E k fin (sub [1, 0, 1, 0, 0] C)) (keepF [0, 1, 5] []) K k ({ n := 21, sl := [(0, .val (.slc (.slc u8)) a1.1), (1, .val i64 v402.1), (5, .val i64 v402.2)], vr := [], lent := [] }) = l0 k a1 (X0_0 K a1) v402 :=
  iter_raw _ _ K (fun v402 => ({ n := 21, sl := [(0, .val (.slc (.slc u8)) a1.1), (1, .val i64 v402.1), (5, .val i64 v402.2)], vr := [], lent := [] } : St)) (fun self v => B0 k self (X0_0 K a1) a1 v) (fun rec v => B0_eq k rec K a1 v) k v402
noncomputable def q0 (a1 : Arg) (z605 : Int) : Option Out := some (z605, ())
noncomputable def Q0 (k : Nat) (a1 : Arg) (z605 : Int) : Option Out := q0 a1 z605
theorem q0_eq (k : Nat) (a1 : Arg) (z605 : Int) : (blockC 0 (seqC (codeK E k fin (sub [1, 1] C)) K0)) (.exit 0) ({ n := 21, sl := [(1, .val i64 z605)], vr := [], lent := [] }) = q0 a1 z605 := by kernel_rfl
theorem Q0_eq (k : Nat) (a1 : Arg) (z605 : Int) : (blockC 0 (seqC (codeK E k fin (sub [1, 1] C)) K0)) (.exit 0) ({ n := 21, sl := [(1, .val i64 z605)], vr := [], lent := [] }) = Q0 k a1 z605 := (q0_eq k a1 z605).trans (by rfl)
noncomputable def s0 (k : Nat) (a1 : Arg) : (Int × Int) → Option Out := fun v402 => iterK (codeK E k fin (sub [1, 0, 1, 0, 0] C)) (keepF [0, 1, 5] []) (blockC 0 (seqC (codeK E k fin (sub [1, 1] C)) K0)) k ({ n := 21, sl := [(0, .val (.slc (.slc u8)) a1.1), (1, .val i64 v402.1), (5, .val i64 v402.2)], vr := [], lent := [] })
noncomputable def r0 (k : Nat) (a1 : Arg) : (Int × Int) → Option Out := fun v402 => l0 k a1 (fun z => Q0 k a1 z) v402
theorem s0_eq (k : Nat) (a1 : Arg) : s0 k a1 = r0 k a1 := by
  funext v402;
  have h0 : X0_0 ((blockC 0 (seqC (codeK E k fin (sub [1, 1] C)) K0))) a1 = fun z => Q0 k a1 z := funext fun z => Q0_eq k a1 z
  refine (l0_eq k ((blockC 0 (seqC (codeK E k fin (sub [1, 1] C)) K0))) a1 v402).trans ?_
  rw [h0]
  rfl
noncomputable def p (l0 : (Int × Int) → Option Out) (a1 : Arg) : Option Out := l0 (a1.2.1, (0 : Int))
noncomputable def raw (k : Nat) (a1 : Arg) : Option Out := p (r0 k a1) a1
theorem p_eq (k : Nat) (a1 : Arg) : bodyK E k Go.Proofs.Try.f123 ps rs [] [] a1 = p (s0 k a1) a1 := by kernel_rfl
theorem raw_eq (k : Nat) (a1 : Arg) : bodyK E k Go.Proofs.Try.f123 ps rs [] [] a1 = raw k a1 := (p_eq k a1).trans (by rw [s0_eq]; rfl)
theorem ent : EnterOk Go.Proofs.Try.prog 123 sig.cap := ⟨Go.Proofs.Try.f123, Go.Proofs.Try.func123, by kernel_rfl, by kernel_rfl, by kernel_rfl⟩
theorem env : EnvOk Go.Proofs.Try.prog E := env_ok (tl := [(38, (.slc (.slc u8))), (39, (.slc u8))]) (gl := [(193, laws_heldByteS.sig)]) rfl rfl (by kernel_rfl) (by kernel_rfl) (fn_cons laws_heldByteS.snd laws_heldByteS.ent (fn_nil _))
theorem chk : funOk Go.Proofs.Try.prog E Go.Proofs.Try.f123 ps rs [] = true := by kernel_rfl
theorem snd : Sound Go.Proofs.Try.prog 123 sig := sound_of_body env Go.Proofs.Try.func123 rfl (es := []) (fr := []) chk (fun _ _ h => lift_some h)
end laws_heldByteSS
namespace laws_szByteS
/-! loop example g00408 laws szByteS -/
abbrev Arg : Type := (List UInt8) × Int × Unit
abbrev Out : Type := Int × Unit
noncomputable def ps : List (PM × Ty) := [(.ro, (.slc u8)), (.ro, i64)]
noncomputable def rs : List (Ty × Md) := [(i64, (roMd i64))]
noncomputable def E : Env := { TI := lookN [(39, (.slc u8))], G := lookN [], fz := [], lv := [], lx := [], lf := [], od := [] }
noncomputable def sem (a : Arg) : Option Out := lift fun k => bodyK E k Go.Proofs.Try.f98 ps rs [] [] a
noncomputable def sig : Sig := { ps := ps, rs := rs, F := fun a => sem a }
noncomputable def C : Code := bodyOf Go.Proofs.Try.f98
noncomputable def fin : St → Option Out := outK ps rs [] (Func.results Go.Proofs.Try.f98).toList (mvs [])
noncomputable def K0 : Ex → St → Option Out := endK fin
noncomputable def p (a1 : Arg) : Option Out := bif decide (w64 (a1.2.1 - (a1.1.length : Int)) < (0 : Int)) then (some ((-1 : Int), ())) else some (w64 (a1.2.1 - (a1.1.length : Int)), ())
noncomputable def raw (k : Nat) (a1 : Arg) : Option Out := p a1
theorem p_eq (k : Nat) (a1 : Arg) : bodyK E k Go.Proofs.Try.f98 ps rs [] [] a1 = p a1 := by kernel_rfl
theorem raw_eq (k : Nat) (a1 : Arg) : bodyK E k Go.Proofs.Try.f98 ps rs [] [] a1 = raw k a1 := (p_eq k a1).trans (by rfl)
theorem ent : EnterOk Go.Proofs.Try.prog 98 sig.cap := ⟨Go.Proofs.Try.f98, Go.Proofs.Try.func98, by kernel_rfl, by kernel_rfl, by kernel_rfl⟩
theorem env : EnvOk Go.Proofs.Try.prog E := env_ok (tl := [(39, (.slc u8))]) (gl := []) rfl rfl (by kernel_rfl) (by kernel_rfl) (fn_nil _)
theorem chk : funOk Go.Proofs.Try.prog E Go.Proofs.Try.f98 ps rs [] = true := by kernel_rfl
theorem snd : Sound Go.Proofs.Try.prog 98 sig := sound_of_body env Go.Proofs.Try.func98 rfl (es := []) (fr := []) chk (fun _ _ h => lift_some h)
end laws_szByteS
namespace laws_szRun
/-! loop example g00408 laws szRun -/
abbrev Arg : Type := Run × Int × Unit
abbrev Out : Type := Int × Unit
noncomputable def ps : List (PM × Ty) := [(.ro, tRun), (.ro, i64)]
noncomputable def rs : List (Ty × Md) := [(i64, (roMd i64))]
noncomputable def E : Env := { TI := lookN [(39, (.slc u8)), (234, tRun)], G := lookN [(98, laws_szByteS.sig)], fz := [], lv := [], lx := [], lf := [], od := [] }
noncomputable def sem (a : Arg) : Option Out := lift fun k => bodyK E k Go.Proofs.Try.f181 ps rs [] [] a
noncomputable def sig : Sig := { ps := ps, rs := rs, F := fun a => sem a }
noncomputable def C : Code := bodyOf Go.Proofs.Try.f181
noncomputable def fin : St → Option Out := outK ps rs [] (Func.results Go.Proofs.Try.f181).toList (mvs [])
noncomputable def K0 : Ex → St → Option Out := endK fin
noncomputable def p (a1 : Arg) : Option Out := (laws_szByteS.sem (a1.1.2.1, a1.2.1, ())).bind fun r2 => bif decide (r2.1 < (0 : Int)) then (some ((-1 : Int), ())) else some (r2.1, ())
noncomputable def raw (k : Nat) (a1 : Arg) : Option Out := p a1
theorem p_eq (k : Nat) (a1 : Arg) : bodyK E k Go.Proofs.Try.f181 ps rs [] [] a1 = p a1 := by kernel_rfl
theorem raw_eq (k : Nat) (a1 : Arg) : bodyK E k Go.Proofs.Try.f181 ps rs [] [] a1 = raw k a1 := (p_eq k a1).trans (by rfl)
theorem ent : EnterOk Go.Proofs.Try.prog 181 sig.cap := ⟨Go.Proofs.Try.f181, Go.Proofs.Try.func181, by kernel_rfl, by kernel_rfl, by kernel_rfl⟩
theorem env : EnvOk Go.Proofs.Try.prog E := env_ok (tl := [(39, (.slc u8)), (234, tRun)]) (gl := [(98, laws_szByteS.sig)]) rfl rfl (by kernel_rfl) (by kernel_rfl) (fn_cons laws_szByteS.snd laws_szByteS.ent (fn_nil _))
theorem chk : funOk Go.Proofs.Try.prog E Go.Proofs.Try.f181 ps rs [] = true := by kernel_rfl
theorem snd : Sound Go.Proofs.Try.prog 181 sig := sound_of_body env Go.Proofs.Try.func181 rfl (es := []) (fr := []) chk (fun _ _ h => lift_some h)
end laws_szRun
namespace laws_szRunS
/-! loop example g00408 laws szRunS -/
abbrev Arg : Type := (List Run) × Int × Unit
abbrev Out : Type := Int × Unit
noncomputable def ps : List (PM × Ty) := [(.ro, (.slc tRun)), (.ro, i64)]
noncomputable def rs : List (Ty × Md) := [(i64, (roMd i64))]
noncomputable def E : Env := { TI := lookN [(50, (.slc tRun)), (234, tRun)], G := lookN [(181, laws_szRun.sig)], fz := [], lv := [(5, [0, 1, 5])], lx := [(0, [1])], lf := [], od := [] }
noncomputable def sem (a : Arg) : Option Out := lift fun k => bodyK E k Go.Proofs.Try.f99 ps rs [] [] a
noncomputable def sig : Sig := { ps := ps, rs := rs, F := fun a => sem a }
noncomputable def C : Code := bodyOf Go.Proofs.Try.f99
noncomputable def fin : St → Option Out := outK ps rs [] (Func.results Go.Proofs.Try.f99).toList (mvs [])
noncomputable def K0 : Ex → St → Option Out := endK fin
noncomputable def S0 (rec : St → Option Out) (a1 : Arg) : (Int × Int) → Option Out := fun v402 => rec ({ n := 27, sl := [(0, .val (.slc tRun) a1.1), (1, .val i64 v402.1), (5, .val i64 v402.2)], vr := [], lent := [] })
noncomputable def X0_0 (K : Ex → St → Option Out) (a1 : Arg) : Int → Option Out := fun z => K (.exit 0) ({ n := 27, sl := [(1, .val i64 z)], vr := [], lent := [] })
noncomputable def b0 (self : (Int × Int) → Option Out) (e0 : Int → Option Out) (a1 : Arg) (v402 : Int × Int) : Option Out := bif decide (v402.2 < (a1.1.length : Int)) then (if 0 ≤ v402.2 then ((a1.1[v402.2.toNat]?).bind fun x603 => (laws_szRun.sem (x603, v402.1, ())).bind fun r604 => bif decide (r604.1 < (0 : Int)) then (some ((-1 : Int), ())) else self (r604.1, w64 (v402.2 + (1 : Int)))) else none) else e0 v402.1
noncomputable def B0 (k : Nat) (self : (Int × Int) → Option Out) (e0 : Int → Option Out) (a1 : Arg) (v402 : Int × Int) : Option Out := b0 self e0 a1 v402
theorem b0_eq (k : Nat) (rec : St → Option Out) (K : Ex → St → Option Out) (a1 : Arg) (v402 : Int × Int) : codeK E k fin (sub [1, 1, 1, 0, 1, 0, 0] C) ({ n := 27, sl := [(0, .val (.slc tRun) a1.1), (1, .val i64 v402.1), (5, .val i64 v402.2)], vr := [], lent := [] }) (loopC rec (keepF [0, 1, 5] []) K) = b0 (S0 rec a1) (X0_0 K a1) a1 v402 := by kernel_rfl
theorem B0_eq (k : Nat) (rec : St → Option Out) (K : Ex → St → Option Out) (a1 : Arg) (v402 : Int × Int) : codeK E k fin (sub [1, 1, 1, 0, 1, 0, 0] C) ({ n := 27, sl := [(0, .val (.slc tRun) a1.1), (1, .val i64 v402.1), (5, .val i64 v402.2)], vr := [], lent := [] }) (loopC rec (keepF [0, 1, 5] []) K) = B0 k (S0 rec a1) (X0_0 K a1) a1 v402 := (b0_eq k rec K a1 v402).trans (by rfl)
noncomputable def l0 (k : Nat) (a1 : Arg) (e0 : Int → Option Out) (v : Int × Int) : Option Out := rawIter (fun self v => B0 k self e0 a1 v) k v
theorem l0_eq (k : Nat) (K : Ex → St → Option Out) (a1 : Arg) (v402 : Int × Int) : iterK (codeK E k fin (sub [1, 1, 1, 0, 1, 0, 0] C)) (keepF [0, 1, 5] []) K k ({ n := 27, sl := [(0, .val (.slc tRun) a1.1), (1, .val i64 v402.1), (5, .val i64 v402.2)], vr := [], lent := [] }) = l0 k a1 (X0_0 K a1) v402 :=
  iter_raw _ _ K (fun v402 => ({ n := 27, sl := [(0, .val (.slc tRun) a1.1), (1, .val i64 v402.1), (5, .val i64 v402.2)], vr := [], lent := [] } : St)) (fun self v => B0 k self (X0_0 K a1) a1 v) (fun rec v => B0_eq k rec K a1 v) k v402
noncomputable def q0 (a1 : Arg) (z605 : Int) : Option Out := some (z605, ())
noncomputable def Q0 (k : Nat) (a1 : Arg) (z605 : Int) : Option Out := q0 a1 z605
theorem q0_eq (k : Nat) (a1 : Arg) (z605 : Int) : (blockC 0 (seqC (codeK E k fin (sub [1, 1, 1, 1] C)) K0)) (.exit 0) ({ n := 27, sl := [(1, .val i64 z605)], vr := [], lent := [] }) = q0 a1 z605 := by kernel_rfl
theorem Q0_eq (k : Nat) (a1 : Arg) (z605 : Int) : (blockC 0 (seqC (codeK E k fin (sub [1, 1, 1, 1] C)) K0)) (.exit 0) ({ n := 27, sl := [(1, .val i64 z605)], vr := [], lent := [] }) = Q0 k a1 z605 := (q0_eq k a1 z605).trans (by rfl)
noncomputable def s0 (k : Nat) (a1 : Arg) : (Int × Int) → Option Out := fun v402 => iterK (codeK E k fin (sub [1, 1, 1, 0, 1, 0, 0] C)) (keepF [0, 1, 5] []) (blockC 0 (seqC (codeK E k fin (sub [1, 1, 1, 1] C)) K0)) k ({ n := 27, sl := [(0, .val (.slc tRun) a1.1), (1, .val i64 v402.1), (5, .val i64 v402.2)], vr := [], lent := [] })
noncomputable def r0 (k : Nat) (a1 : Arg) : (Int × Int) → Option Out := fun v402 => l0 k a1 (fun z => Q0 k a1 z) v402
theorem s0_eq (k : Nat) (a1 : Arg) : s0 k a1 = r0 k a1 := by
  funext v402;
  have h0 : X0_0 ((blockC 0 (seqC (codeK E k fin (sub [1, 1, 1, 1] C)) K0))) a1 = fun z => Q0 k a1 z := funext fun z => Q0_eq k a1 z
  refine (l0_eq k ((blockC 0 (seqC (codeK E k fin (sub [1, 1, 1, 1] C)) K0))) a1 v402).trans ?_
  rw [h0]
  rfl
noncomputable def p (l0 : (Int × Int) → Option Out) (a1 : Arg) : Option Out := bif decide (w64 (a1.2.1 - (a1.1.length : Int)) < (0 : Int)) then (some ((-1 : Int), ())) else l0 (w64 (a1.2.1 - (a1.1.length : Int)), (0 : Int))
noncomputable def raw (k : Nat) (a1 : Arg) : Option Out := p (r0 k a1) a1
theorem p_eq (k : Nat) (a1 : Arg) : bodyK E k Go.Proofs.Try.f99 ps rs [] [] a1 = p (s0 k a1) a1 := by kernel_rfl
theorem raw_eq (k : Nat) (a1 : Arg) : bodyK E k Go.Proofs.Try.f99 ps rs [] [] a1 = raw k a1 := (p_eq k a1).trans (by rw [s0_eq]; rfl)
theorem ent : EnterOk Go.Proofs.Try.prog 99 sig.cap := ⟨Go.Proofs.Try.f99, Go.Proofs.Try.func99, by kernel_rfl, by kernel_rfl, by kernel_rfl⟩
theorem env : EnvOk Go.Proofs.Try.prog E := env_ok (tl := [(50, (.slc tRun)), (234, tRun)]) (gl := [(181, laws_szRun.sig)]) rfl rfl (by kernel_rfl) (by kernel_rfl) (fn_cons laws_szRun.snd laws_szRun.ent (fn_nil _))
theorem chk : funOk Go.Proofs.Try.prog E Go.Proofs.Try.f99 ps rs [] = true := by kernel_rfl
theorem snd : Sound Go.Proofs.Try.prog 99 sig := sound_of_body env Go.Proofs.Try.func99 rfl (es := []) (fr := []) chk (fun _ _ h => lift_some h)
end laws_szRunS
namespace laws_szRecord
/-! loop example g00408 laws szRecord -/
abbrev Arg : Type := Record × Int × Unit
abbrev Out : Type := Int × Unit
noncomputable def ps : List (PM × Ty) := [(.ro, tRecord), (.ro, i64)]
noncomputable def rs : List (Ty × Md) := [(i64, (roMd i64))]
noncomputable def E : Env := { TI := lookN [(50, (.slc tRun)), (52, tRecord)], G := lookN [(99, laws_szRunS.sig)], fz := [], lv := [], lx := [], lf := [], od := [] }
noncomputable def sem (a : Arg) : Option Out := lift fun k => bodyK E k Go.Proofs.Try.f28 ps rs [] [] a
noncomputable def sig : Sig := { ps := ps, rs := rs, F := fun a => sem a }
noncomputable def C : Code := bodyOf Go.Proofs.Try.f28
noncomputable def fin : St → Option Out := outK ps rs [] (Func.results Go.Proofs.Try.f28).toList (mvs [])
noncomputable def K0 : Ex → St → Option Out := endK fin
noncomputable def p (a1 : Arg) : Option Out := (laws_szRunS.sem (a1.1.2.2.2.1, a1.2.1, ())).bind fun r2 => bif decide (r2.1 < (0 : Int)) then (some ((-1 : Int), ())) else some (r2.1, ())
noncomputable def raw (k : Nat) (a1 : Arg) : Option Out := p a1
theorem p_eq (k : Nat) (a1 : Arg) : bodyK E k Go.Proofs.Try.f28 ps rs [] [] a1 = p a1 := by kernel_rfl
theorem raw_eq (k : Nat) (a1 : Arg) : bodyK E k Go.Proofs.Try.f28 ps rs [] [] a1 = raw k a1 := (p_eq k a1).trans (by rfl)
theorem ent : EnterOk Go.Proofs.Try.prog 28 sig.cap := ⟨Go.Proofs.Try.f28, Go.Proofs.Try.func28, by kernel_rfl, by kernel_rfl, by kernel_rfl⟩
theorem env : EnvOk Go.Proofs.Try.prog E := env_ok (tl := [(50, (.slc tRun)), (52, tRecord)]) (gl := [(99, laws_szRunS.sig)]) rfl rfl (by kernel_rfl) (by kernel_rfl) (fn_cons laws_szRunS.snd laws_szRunS.ent (fn_nil _))
theorem chk : funOk Go.Proofs.Try.prog E Go.Proofs.Try.f28 ps rs [] = true := by kernel_rfl
theorem snd : Sound Go.Proofs.Try.prog 28 sig := sound_of_body env Go.Proofs.Try.func28 rfl (es := []) (fr := []) chk (fun _ _ h => lift_some h)
end laws_szRecord
namespace spec_l4Runs
/-! loop example g00408 spec l4Runs -/
abbrev Arg : Type := Int × Unit
abbrev Out : Type := Bool × Unit
noncomputable def ps : List (PM × Ty) := [(.ro, i64)]
noncomputable def rs : List (Ty × Md) := [(.bool, (roMd .bool))]
noncomputable def E : Env := { TI := lookN [], G := lookN [(90, spec_l1In.sig)], fz := [], lv := [], lx := [], lf := [], od := [] }
noncomputable def sem (a : Arg) : Option Out := lift fun k => bodyK E k Go.Proofs.Try.f183 ps rs [] [] a
noncomputable def sig : Sig := { ps := ps, rs := rs, F := fun a => sem a }
noncomputable def C : Code := bodyOf Go.Proofs.Try.f183
noncomputable def fin : St → Option Out := outK ps rs [] (Func.results Go.Proofs.Try.f183).toList (mvs [])
noncomputable def K0 : Ex → St → Option Out := endK fin
noncomputable def p (a1 : Arg) : Option Out := (spec_l1In.sem (a1.1, (2 : Int), (4 : Int), ())).bind fun r2 => some (r2.1, ())
noncomputable def raw (k : Nat) (a1 : Arg) : Option Out := p a1
theorem p_eq (k : Nat) (a1 : Arg) : bodyK E k Go.Proofs.Try.f183 ps rs [] [] a1 = p a1 := by kernel_rfl
theorem raw_eq (k : Nat) (a1 : Arg) : bodyK E k Go.Proofs.Try.f183 ps rs [] [] a1 = raw k a1 := (p_eq k a1).trans (by rfl)
theorem ent : EnterOk Go.Proofs.Try.prog 183 sig.cap := ⟨Go.Proofs.Try.f183, Go.Proofs.Try.func183, by kernel_rfl, by kernel_rfl, by kernel_rfl⟩
theorem env : EnvOk Go.Proofs.Try.prog E := env_ok (tl := []) (gl := [(90, spec_l1In.sig)]) rfl rfl (by kernel_rfl) (by kernel_rfl) (fn_cons spec_l1In.snd spec_l1In.ent (fn_nil _))
theorem chk : funOk Go.Proofs.Try.prog E Go.Proofs.Try.f183 ps rs [] = true := by kernel_rfl
theorem snd : Sound Go.Proofs.Try.prog 183 sig := sound_of_body env Go.Proofs.Try.func183 rfl (es := []) (fr := []) chk (fun _ _ h => lift_some h)
end spec_l4Runs
namespace spec_l3Fault
/-! loop example g00408 spec l3Fault -/
abbrev Arg : Type := (List Run) × Unit
abbrev Out : Type := Int × Unit
noncomputable def ps : List (PM × Ty) := [(.ro, (.slc tRun))]
noncomputable def rs : List (Ty × Md) := [(i64, (roMd i64))]
noncomputable def E : Env := { TI := lookN [(2, i64), (39, (.slc u8)), (59, (.slc tRun)), (236, tRun)], G := lookN [(90, spec_l1In.sig)], fz := [], lv := [(4, [0, 3])], lx := [(0, [])], lf := [], od := [(9, [0, 1, 2, 3, 4, 5, 6, 7, 8, 9, 10, 11, 12, 13, 14, 15, 16, 17, 18, 19, 20, 21, 22, 23])] }
noncomputable def sem (a : Arg) : Option Out := lift fun k => bodyK E k Go.Proofs.Try.f184 ps rs [] [] a
noncomputable def sig : Sig := { ps := ps, rs := rs, F := fun a => sem a }
noncomputable def C : Code := bodyOf Go.Proofs.Try.f184
noncomputable def fin : St → Option Out := outK ps rs [] (Func.results Go.Proofs.Try.f184).toList (mvs [])
noncomputable def K0 : Ex → St → Option Out := endK fin
noncomputable def S0 (rec : St → Option Out) (a1 : Arg) : (Int) → Option Out := fun v402 => rec ({ n := 66, sl := [(0, .val (.slc tRun) a1.1), (3, .val i64 v402)], vr := [], lent := [] })
noncomputable def X0_0 (K : Ex → St → Option Out) (a1 : Arg) : (Unit) → Option Out := fun z => K (.exit 0) ({ n := 66, sl := [], vr := [], lent := [] })
noncomputable def b0 (self : Int → Option Out) (e0 : (Unit) → Option Out) (a1 : Arg) (v402 : Int) : Option Out := bif decide (v402 < (a1.1.length : Int)) then (if 0 ≤ v402 then ((a1.1[v402.toNat]?).bind fun x603 => if 0 ≤ v402 then ((a1.1[v402.toNat]?).bind fun x604 => (spec_l1In.sem (x604.1, (0 : Int), (63 : Int), ())).bind fun r605 => bif !r605.1 then (some ((3 : Int), ())) else (spec_l1In.sem ((x603.2.1.length : Int), (1 : Int), (64 : Int), ())).bind fun r606 => bif !r606.1 then (some ((3 : Int), ())) else if 0 ≤ v402 then ((a1.1[v402.toNat]?).bind fun x607 => bif decide ((64 : Int) < w64 (x607.1 + (x603.2.1.length : Int))) then (some ((3 : Int), ())) else bif decide ((0 : Int) < v402) then (if 0 ≤ v402 then ((a1.1[v402.toNat]?).bind fun x608 => if 0 ≤ w64 (v402 - (1 : Int)) then ((a1.1[(w64 (v402 - (1 : Int))).toNat]?).bind fun x609 => if 0 ≤ w64 (v402 - (1 : Int)) then ((a1.1[(w64 (v402 - (1 : Int))).toNat]?).bind fun x610 => bif decide (x608.1 ≤ w64 (x609.1 + (x610.2.1.length : Int))) then (some ((1 : Int), ())) else self (w64 (v402 + (1 : Int)))) else none) else none) else none) else self (w64 (v402 + (1 : Int)))) else none) else none) else none) else e0 ()
noncomputable def B0 (k : Nat) (self : Int → Option Out) (e0 : (Unit) → Option Out) (a1 : Arg) (v402 : Int) : Option Out := b0 self e0 a1 v402
theorem b0_eq (k : Nat) (rec : St → Option Out) (K : Ex → St → Option Out) (a1 : Arg) (v402 : Int) : codeK E k fin (sub [1, 1, 0, 1, 0, 0] C) ({ n := 66, sl := [(0, .val (.slc tRun) a1.1), (3, .val i64 v402)], vr := [], lent := [] }) (loopC rec (keepF [0, 3] []) K) = b0 (S0 rec a1) (X0_0 K a1) a1 v402 := by kernel_rfl
theorem B0_eq (k : Nat) (rec : St → Option Out) (K : Ex → St → Option Out) (a1 : Arg) (v402 : Int) : codeK E k fin (sub [1, 1, 0, 1, 0, 0] C) ({ n := 66, sl := [(0, .val (.slc tRun) a1.1), (3, .val i64 v402)], vr := [], lent := [] }) (loopC rec (keepF [0, 3] []) K) = B0 k (S0 rec a1) (X0_0 K a1) a1 v402 := (b0_eq k rec K a1 v402).trans (by rfl)
noncomputable def l0 (k : Nat) (a1 : Arg) (e0 : (Unit) → Option Out) (v : Int) : Option Out := rawIter (fun self v => B0 k self e0 a1 v) k v
theorem l0_eq (k : Nat) (K : Ex → St → Option Out) (a1 : Arg) (v402 : Int) : iterK (codeK E k fin (sub [1, 1, 0, 1, 0, 0] C)) (keepF [0, 3] []) K k ({ n := 66, sl := [(0, .val (.slc tRun) a1.1), (3, .val i64 v402)], vr := [], lent := [] }) = l0 k a1 (X0_0 K a1) v402 :=
  iter_raw _ _ K (fun v402 => ({ n := 66, sl := [(0, .val (.slc tRun) a1.1), (3, .val i64 v402)], vr := [], lent := [] } : St)) (fun self v => B0 k self (X0_0 K a1) a1 v) (fun rec v => B0_eq k rec K a1 v) k v402
noncomputable def q0 (a1 : Arg) (z611 : (Unit)) : Option Out := some ((0 : Int), ())
noncomputable def Q0 (k : Nat) (a1 : Arg) (z611 : (Unit)) : Option Out := q0 a1 z611
theorem q0_eq (k : Nat) (a1 : Arg) (z611 : (Unit)) : (blockC 0 (seqC (codeK E k fin (sub [1, 1, 1] C)) K0)) (.exit 0) ({ n := 66, sl := [], vr := [], lent := [] }) = q0 a1 z611 := by kernel_rfl
theorem Q0_eq (k : Nat) (a1 : Arg) (z611 : (Unit)) : (blockC 0 (seqC (codeK E k fin (sub [1, 1, 1] C)) K0)) (.exit 0) ({ n := 66, sl := [], vr := [], lent := [] }) = Q0 k a1 z611 := (q0_eq k a1 z611).trans (by rfl)
noncomputable def s0 (k : Nat) (a1 : Arg) : (Int) → Option Out := fun v402 => iterK (codeK E k fin (sub [1, 1, 0, 1, 0, 0] C)) (keepF [0, 3] []) (blockC 0 (seqC (codeK E k fin (sub [1, 1, 1] C)) K0)) k ({ n := 66, sl := [(0, .val (.slc tRun) a1.1), (3, .val i64 v402)], vr := [], lent := [] })
noncomputable def r0 (k : Nat) (a1 : Arg) : (Int) → Option Out := fun v402 => l0 k a1 (fun z => Q0 k a1 z) v402
theorem s0_eq (k : Nat) (a1 : Arg) : s0 k a1 = r0 k a1 := by
  funext v402;
  have h0 : X0_0 ((blockC 0 (seqC (codeK E k fin (sub [1, 1, 1] C)) K0))) a1 = fun z => Q0 k a1 z := funext fun z => Q0_eq k a1 z
  refine (l0_eq k ((blockC 0 (seqC (codeK E k fin (sub [1, 1, 1] C)) K0))) a1 v402).trans ?_
  rw [h0]
  rfl
noncomputable def p (l0 : (Int) → Option Out) (a1 : Arg) : Option Out := bif decide ((64 : Int) < (a1.1.length : Int)) then (some ((2 : Int), ())) else l0 (0 : Int)
noncomputable def raw (k : Nat) (a1 : Arg) : Option Out := p (r0 k a1) a1
theorem p_eq (k : Nat) (a1 : Arg) : bodyK E k Go.Proofs.Try.f184 ps rs [] [] a1 = p (s0 k a1) a1 := by kernel_rfl
theorem raw_eq (k : Nat) (a1 : Arg) : bodyK E k Go.Proofs.Try.f184 ps rs [] [] a1 = raw k a1 := (p_eq k a1).trans (by rw [s0_eq]; rfl)
theorem ent : EnterOk Go.Proofs.Try.prog 184 sig.cap := ⟨Go.Proofs.Try.f184, Go.Proofs.Try.func184, by kernel_rfl, by kernel_rfl, by kernel_rfl⟩
theorem env : EnvOk Go.Proofs.Try.prog E := env_ok (tl := [(2, i64), (39, (.slc u8)), (59, (.slc tRun)), (236, tRun)]) (gl := [(90, spec_l1In.sig)]) rfl rfl (by kernel_rfl) (by kernel_rfl) (fn_cons spec_l1In.snd spec_l1In.ent (fn_nil _))
theorem chk : funOk Go.Proofs.Try.prog E Go.Proofs.Try.f184 ps rs [] = true := by kernel_rfl
theorem snd : Sound Go.Proofs.Try.prog 184 sig := sound_of_body env Go.Proofs.Try.func184 rfl (es := []) (fr := []) chk (fun _ _ h => lift_some h)
end spec_l3Fault
namespace spec_l4Fault
/-! loop example g00408 spec l4Fault -/
abbrev Arg : Type := Record × Unit
abbrev Out : Type := Int × Unit
noncomputable def ps : List (PM × Ty) := [(.ro, (.ptr tRecord))]
noncomputable def rs : List (Ty × Md) := [(i64, (roMd i64))]
noncomputable def E : Env := { TI := lookN [(2, i64), (39, (.slc u8)), (59, (.slc tRun)), (61, tRecord), (236, tRun)], G := lookN [(90, spec_l1In.sig), (183, spec_l4Runs.sig), (184, spec_l3Fault.sig)], fz := [], lv := [], lx := [], lf := [], od := [] }
noncomputable def sem (a : Arg) : Option Out := lift fun k => bodyK E k Go.Proofs.Try.f101 ps rs [] [] a
noncomputable def sig : Sig := { ps := ps, rs := rs, F := fun a => sem a }
noncomputable def C : Code := bodyOf Go.Proofs.Try.f101
noncomputable def fin : St → Option Out := outK ps rs [] (Func.results Go.Proofs.Try.f101).toList (mvs [])
noncomputable def K0 : Ex → St → Option Out := endK fin
noncomputable def p (a1 : Arg) : Option Out := let j13 : Option Out := let j20 : Option Out := (spec_l4Runs.sem (a1.1.1, ())).bind fun r21 => bif !r21.1 then (some ((0 : Int), ())) else (spec_l3Fault.sem (a1.1.2.2.2.1, ())).bind fun r22 => bif !decide (r22.1 = (0 : Int)) then (some (r22.1, ())) else bif decide ((a1.1.2.2.2.1.length : Int) = (0 : Int)) then (some ((1 : Int), ())) else bif decide (a1.1.1 = (4 : Int)) then ((a1.1.2.2.2.1[0]?).bind fun x23 => bif !decide ((x23.2.1.length : Int) = (64 : Int)) then (some ((1 : Int), ())) else some ((0 : Int), ())) else some ((0 : Int), ()); bif !decide (a1.1.1 = (4 : Int)) then ((spec_l1In.sem (a1.1.2.1, (1 : Int), (99 : Int), ())).bind fun r14 => bif !r14.1 then (some ((3 : Int), ())) else (spec_l1In.sem (a1.1.2.2.1, (0 : Int), (11 : Int), ())).bind fun r15 => bif !r15.1 then (some ((3 : Int), ())) else j20) else (spec_l1In.sem (a1.1.2.2.1, (0 : Int), (11 : Int), ())).bind fun r16 => bif !r16.1 then (some ((3 : Int), ())) else j20; (spec_l1In.sem (a1.1.1, (1 : Int), (6 : Int), ())).bind fun r2 => bif !r2.1 then (some ((1 : Int), ())) else (spec_l4Runs.sem (a1.1.1, ())).bind fun r3 => bif !r3.1 then (bif !decide (a1.1.2.2.1 = (0 : Int)) then (some ((1 : Int), ())) else bif decide ((0 : Int) < (a1.1.2.2.2.1.length : Int)) then (some ((1 : Int), ())) else bif decide (a1.1.1 = (4 : Int)) then (bif !decide (a1.1.2.1 = (0 : Int)) then (some ((1 : Int), ())) else j13) else j13) else bif decide (a1.1.1 = (4 : Int)) then (bif !decide (a1.1.2.1 = (0 : Int)) then (some ((1 : Int), ())) else j13) else j13
noncomputable def raw (k : Nat) (a1 : Arg) : Option Out := p a1
theorem p_eq (k : Nat) (a1 : Arg) : bodyK E k Go.Proofs.Try.f101 ps rs [] [] a1 = p a1 := by kernel_rfl
theorem raw_eq (k : Nat) (a1 : Arg) : bodyK E k Go.Proofs.Try.f101 ps rs [] [] a1 = raw k a1 := (p_eq k a1).trans (by rfl)
theorem ent : EnterOk Go.Proofs.Try.prog 101 sig.cap := ⟨Go.Proofs.Try.f101, Go.Proofs.Try.func101, by kernel_rfl, by kernel_rfl, by kernel_rfl⟩
theorem env : EnvOk Go.Proofs.Try.prog E := env_ok (tl := [(2, i64), (39, (.slc u8)), (59, (.slc tRun)), (61, tRecord), (236, tRun)]) (gl := [(90, spec_l1In.sig), (183, spec_l4Runs.sig), (184, spec_l3Fault.sig)]) rfl rfl (by kernel_rfl) (by kernel_rfl) (fn_cons spec_l1In.snd spec_l1In.ent (fn_cons spec_l4Runs.snd spec_l4Runs.ent (fn_cons spec_l3Fault.snd spec_l3Fault.ent (fn_nil _))))
theorem chk : funOk Go.Proofs.Try.prog E Go.Proofs.Try.f101 ps rs [] = true := by kernel_rfl
theorem snd : Sound Go.Proofs.Try.prog 101 sig := sound_of_body env Go.Proofs.Try.func101 rfl (es := []) (fr := []) chk (fun _ _ h => lift_some h)
end spec_l4Fault
namespace spec_l2Copy
/-! loop example g00408 spec l2Copy -/
abbrev Arg : Type := (List UInt8) × Unit
abbrev Out : Type := (List UInt8) × Unit
noncomputable def ps : List (PM × Ty) := [(.ro, (.slc u8))]
noncomputable def rs : List (Ty × Md) := [((.slc u8), (ownMd (.slc u8)))]
noncomputable def E : Env := { TI := lookN [(39, (.slc u8))], G := lookN [], fz := [], lv := [], lx := [], lf := [], od := [] }
noncomputable def sem (a : Arg) : Option Out := lift fun k => bodyK E k Go.Proofs.Try.f245 ps rs [] [] a
noncomputable def sig : Sig := { ps := ps, rs := rs, F := fun a => sem a }
noncomputable def C : Code := bodyOf Go.Proofs.Try.f245
noncomputable def fin : St → Option Out := outK ps rs [] (Func.results Go.Proofs.Try.f245).toList (mvs [])
noncomputable def K0 : Ex → St → Option Out := endK fin
noncomputable def p (a1 : Arg) : Option Out := if ([] : List UInt8).length + a1.1.length ≤ CAP then (some (([] : List UInt8) ++ a1.1, ())) else none
noncomputable def raw (k : Nat) (a1 : Arg) : Option Out := p a1
theorem p_eq (k : Nat) (a1 : Arg) : bodyK E k Go.Proofs.Try.f245 ps rs [] [] a1 = p a1 := by kernel_rfl
theorem raw_eq (k : Nat) (a1 : Arg) : bodyK E k Go.Proofs.Try.f245 ps rs [] [] a1 = raw k a1 := (p_eq k a1).trans (by rfl)
theorem ent : EnterOk Go.Proofs.Try.prog 245 sig.cap := ⟨Go.Proofs.Try.f245, Go.Proofs.Try.func245, by kernel_rfl, by kernel_rfl, by kernel_rfl⟩
theorem env : EnvOk Go.Proofs.Try.prog E := env_ok (tl := [(39, (.slc u8))]) (gl := []) rfl rfl (by kernel_rfl) (by kernel_rfl) (fn_nil _)
theorem chk : funOk Go.Proofs.Try.prog E Go.Proofs.Try.f245 ps rs [] = true := by kernel_rfl
theorem snd : Sound Go.Proofs.Try.prog 245 sig := sound_of_body env Go.Proofs.Try.func245 rfl (es := []) (fr := []) chk (fun _ _ h => lift_some h)
end spec_l2Copy
namespace laws_toByteS
/-! loop example g00408 laws toByteS -/
abbrev Arg : Type := (List UInt8) × Unit
abbrev Out : Type := (List UInt8) × Unit
noncomputable def ps : List (PM × Ty) := [(.ro, (.slc u8))]
noncomputable def rs : List (Ty × Md) := [((.slc u8), (ownMd (.slc u8)))]
noncomputable def E : Env := { TI := lookN [(5, u8), (39, (.slc u8))], G := lookN [], fz := [], lv := [(3, [0, 3, 4])], lx := [(0, [3])], lf := [], od := [] }
noncomputable def sem (a : Arg) : Option Out := lift fun k => bodyK E k Go.Proofs.Try.f103 ps rs [] [] a
noncomputable def sig : Sig := { ps := ps, rs := rs, F := fun a => sem a }
noncomputable def C : Code := bodyOf Go.Proofs.Try.f103
noncomputable def fin : St → Option Out := outK ps rs [] (Func.results Go.Proofs.Try.f103).toList (mvs [])
noncomputable def K0 : Ex → St → Option Out := endK fin
noncomputable def S0 (rec : St → Option Out) (a1 : Arg) : ((List UInt8) × Int) → Option Out := fun v402 => rec ({ n := 22, sl := [(0, .val (.slc u8) a1.1), (3, .own (.slc u8) (ownMd (.slc u8)) [] v402.1), (4, .val i64 v402.2)], vr := [], lent := [] })
noncomputable def X0_0 (K : Ex → St → Option Out) (a1 : Arg) : (List UInt8) → Option Out := fun z => K (.exit 0) ({ n := 22, sl := [(3, .own (.slc u8) (ownMd (.slc u8)) [] z)], vr := [], lent := [] })
noncomputable def b0 (self : ((List UInt8) × Int) → Option Out) (e0 : (List UInt8) → Option Out) (a1 : Arg) (v402 : (List UInt8) × Int) : Option Out := bif decide (v402.2 < (a1.1.length : Int)) then (if 0 ≤ v402.2 then ((a1.1[v402.2.toNat]?).bind fun x603 => if 0 ≤ v402.2 ∧ v402.2 < (v402.1.length : Int) then ((v402.1[v402.2.toNat]?).bind fun x604 => self (v402.1.set v402.2.toNat x603, w64 (v402.2 + (1 : Int)))) else none) else none) else e0 v402.1
noncomputable def B0 (k : Nat) (self : ((List UInt8) × Int) → Option Out) (e0 : (List UInt8) → Option Out) (a1 : Arg) (v402 : (List UInt8) × Int) : Option Out := b0 self e0 a1 v402
theorem b0_eq (k : Nat) (rec : St → Option Out) (K : Ex → St → Option Out) (a1 : Arg) (v402 : (List UInt8) × Int) : codeK E k fin (sub [1, 1, 0, 1, 0, 0] C) ({ n := 22, sl := [(0, .val (.slc u8) a1.1), (3, .own (.slc u8) (ownMd (.slc u8)) [] v402.1), (4, .val i64 v402.2)], vr := [], lent := [] }) (loopC rec (keepF [0, 3, 4] []) K) = b0 (S0 rec a1) (X0_0 K a1) a1 v402 := by kernel_rfl
theorem B0_eq (k : Nat) (rec : St → Option Out) (K : Ex → St → Option Out) (a1 : Arg) (v402 : (List UInt8) × Int) : codeK E k fin (sub [1, 1, 0, 1, 0, 0] C) ({ n := 22, sl := [(0, .val (.slc u8) a1.1), (3, .own (.slc u8) (ownMd (.slc u8)) [] v402.1), (4, .val i64 v402.2)], vr := [], lent := [] }) (loopC rec (keepF [0, 3, 4] []) K) = B0 k (S0 rec a1) (X0_0 K a1) a1 v402 := (b0_eq k rec K a1 v402).trans (by rfl)
noncomputable def l0 (k : Nat) (a1 : Arg) (e0 : (List UInt8) → Option Out) (v : (List UInt8) × Int) : Option Out := rawIter (fun self v => B0 k self e0 a1 v) k v
theorem l0_eq (k : Nat) (K : Ex → St → Option Out) (a1 : Arg) (v402 : (List UInt8) × Int) : iterK (codeK E k fin (sub [1, 1, 0, 1, 0, 0] C)) (keepF [0, 3, 4] []) K k ({ n := 22, sl := [(0, .val (.slc u8) a1.1), (3, .own (.slc u8) (ownMd (.slc u8)) [] v402.1), (4, .val i64 v402.2)], vr := [], lent := [] }) = l0 k a1 (X0_0 K a1) v402 :=
  iter_raw _ _ K (fun v402 => ({ n := 22, sl := [(0, .val (.slc u8) a1.1), (3, .own (.slc u8) (ownMd (.slc u8)) [] v402.1), (4, .val i64 v402.2)], vr := [], lent := [] } : St)) (fun self v => B0 k self (X0_0 K a1) a1 v) (fun rec v => B0_eq k rec K a1 v) k v402
noncomputable def q0 (a1 : Arg) (z605 : (List UInt8)) : Option Out := some (z605, ())
noncomputable def Q0 (k : Nat) (a1 : Arg) (z605 : (List UInt8)) : Option Out := q0 a1 z605
theorem q0_eq (k : Nat) (a1 : Arg) (z605 : (List UInt8)) : (blockC 0 (seqC (codeK E k fin (sub [1, 1, 1] C)) K0)) (.exit 0) ({ n := 22, sl := [(3, .own (.slc u8) (ownMd (.slc u8)) [] z605)], vr := [], lent := [] }) = q0 a1 z605 := by kernel_rfl
theorem Q0_eq (k : Nat) (a1 : Arg) (z605 : (List UInt8)) : (blockC 0 (seqC (codeK E k fin (sub [1, 1, 1] C)) K0)) (.exit 0) ({ n := 22, sl := [(3, .own (.slc u8) (ownMd (.slc u8)) [] z605)], vr := [], lent := [] }) = Q0 k a1 z605 := (q0_eq k a1 z605).trans (by rfl)
noncomputable def s0 (k : Nat) (a1 : Arg) : ((List UInt8) × Int) → Option Out := fun v402 => iterK (codeK E k fin (sub [1, 1, 0, 1, 0, 0] C)) (keepF [0, 3, 4] []) (blockC 0 (seqC (codeK E k fin (sub [1, 1, 1] C)) K0)) k ({ n := 22, sl := [(0, .val (.slc u8) a1.1), (3, .own (.slc u8) (ownMd (.slc u8)) [] v402.1), (4, .val i64 v402.2)], vr := [], lent := [] })
noncomputable def r0 (k : Nat) (a1 : Arg) : ((List UInt8) × Int) → Option Out := fun v402 => l0 k a1 (fun z => Q0 k a1 z) v402
theorem s0_eq (k : Nat) (a1 : Arg) : s0 k a1 = r0 k a1 := by
  funext v402;
  have h0 : X0_0 ((blockC 0 (seqC (codeK E k fin (sub [1, 1, 1] C)) K0))) a1 = fun z => Q0 k a1 z := funext fun z => Q0_eq k a1 z
  refine (l0_eq k ((blockC 0 (seqC (codeK E k fin (sub [1, 1, 1] C)) K0))) a1 v402).trans ?_
  rw [h0]
  rfl
noncomputable def p (l0 : ((List UInt8) × Int) → Option Out) (a1 : Arg) : Option Out := if 0 ≤ (a1.1.length : Int) ∧ (a1.1.length : Int) ≤ (a1.1.length : Int) ∧ (a1.1.length : Int) ≤ (CAP : Int) then (l0 (List.replicate (a1.1.length : Int).toNat (0 : UInt8), (0 : Int))) else none
noncomputable def raw (k : Nat) (a1 : Arg) : Option Out := p (r0 k a1) a1
theorem p_eq (k : Nat) (a1 : Arg) : bodyK E k Go.Proofs.Try.f103 ps rs [] [] a1 = p (s0 k a1) a1 := by kernel_rfl
theorem raw_eq (k : Nat) (a1 : Arg) : bodyK E k Go.Proofs.Try.f103 ps rs [] [] a1 = raw k a1 := (p_eq k a1).trans (by rw [s0_eq]; rfl)
theorem ent : EnterOk Go.Proofs.Try.prog 103 sig.cap := ⟨Go.Proofs.Try.f103, Go.Proofs.Try.func103, by kernel_rfl, by kernel_rfl, by kernel_rfl⟩
theorem env : EnvOk Go.Proofs.Try.prog E := env_ok (tl := [(5, u8), (39, (.slc u8))]) (gl := []) rfl rfl (by kernel_rfl) (by kernel_rfl) (fn_nil _)
theorem chk : funOk Go.Proofs.Try.prog E Go.Proofs.Try.f103 ps rs [] = true := by kernel_rfl
theorem snd : Sound Go.Proofs.Try.prog 103 sig := sound_of_body env Go.Proofs.Try.func103 rfl (es := []) (fr := []) chk (fun _ _ h => lift_some h)
end laws_toByteS
namespace laws_toRun
/-! loop example g00408 laws toRun -/
abbrev Arg : Type := Run × Unit
abbrev Out : Type := Run × Unit
noncomputable def ps : List (PM × Ty) := [(.ro, tRun)]
noncomputable def rs : List (Ty × Md) := [(tRun, (ownMd tRun))]
noncomputable def E : Env := { TI := lookN [(2, i64), (39, (.slc u8)), (234, tRun), (236, tRun)], G := lookN [(103, laws_toByteS.sig)], fz := [], lv := [], lx := [], lf := [], od := [] }
noncomputable def sem (a : Arg) : Option Out := lift fun k => bodyK E k Go.Proofs.Try.f186 ps rs [] [] a
noncomputable def sig : Sig := { ps := ps, rs := rs, F := fun a => sem a }
noncomputable def C : Code := bodyOf Go.Proofs.Try.f186
noncomputable def fin : St → Option Out := outK ps rs [] (Func.results Go.Proofs.Try.f186).toList (mvs [])
noncomputable def K0 : Ex → St → Option Out := endK fin
noncomputable def p (a1 : Arg) : Option Out := (laws_toByteS.sem (a1.1.2.1, ())).bind fun r2 => some ((a1.1.1, r2.1, ()), ())
noncomputable def raw (k : Nat) (a1 : Arg) : Option Out := p a1
theorem p_eq (k : Nat) (a1 : Arg) : bodyK E k Go.Proofs.Try.f186 ps rs [] [] a1 = p a1 := by kernel_rfl
theorem raw_eq (k : Nat) (a1 : Arg) : bodyK E k Go.Proofs.Try.f186 ps rs [] [] a1 = raw k a1 := (p_eq k a1).trans (by rfl)
theorem ent : EnterOk Go.Proofs.Try.prog 186 sig.cap := ⟨Go.Proofs.Try.f186, Go.Proofs.Try.func186, by kernel_rfl, by kernel_rfl, by kernel_rfl⟩
theorem env : EnvOk Go.Proofs.Try.prog E := env_ok (tl := [(2, i64), (39, (.slc u8)), (234, tRun), (236, tRun)]) (gl := [(103, laws_toByteS.sig)]) rfl rfl (by kernel_rfl) (by kernel_rfl) (fn_cons laws_toByteS.snd laws_toByteS.ent (fn_nil _))
theorem chk : funOk Go.Proofs.Try.prog E Go.Proofs.Try.f186 ps rs [] = true := by kernel_rfl
theorem snd : Sound Go.Proofs.Try.prog 186 sig := sound_of_body env Go.Proofs.Try.func186 rfl (es := []) (fr := []) chk (fun _ _ h => lift_some h)
end laws_toRun
namespace laws_toRunS
/-! loop example g00408 laws toRunS -/
abbrev Arg : Type := (List Run) × Unit
abbrev Out : Type := (List Run) × Unit
noncomputable def ps : List (PM × Ty) := [(.ro, (.slc tRun))]
noncomputable def rs : List (Ty × Md) := [((.slc tRun), (ownMd (.slc tRun)))]
noncomputable def E : Env := { TI := lookN [(50, (.slc tRun)), (59, (.slc tRun)), (234, tRun), (236, tRun)], G := lookN [(186, laws_toRun.sig)], fz := [], lv := [(3, [0, 3, 4])], lx := [(0, [3])], lf := [], od := [] }
noncomputable def sem (a : Arg) : Option Out := lift fun k => bodyK E k Go.Proofs.Try.f104 ps rs [] [] a
noncomputable def sig : Sig := { ps := ps, rs := rs, F := fun a => sem a }
noncomputable def C : Code := bodyOf Go.Proofs.Try.f104
noncomputable def fin : St → Option Out := outK ps rs [] (Func.results Go.Proofs.Try.f104).toList (mvs [])
noncomputable def K0 : Ex → St → Option Out := endK fin
noncomputable def S0 (rec : St → Option Out) (a1 : Arg) : ((List Run) × Int) → Option Out := fun v402 => rec ({ n := 23, sl := [(0, .val (.slc tRun) a1.1), (3, .own (.slc tRun) (ownMd (.slc tRun)) [] v402.1), (4, .val i64 v402.2)], vr := [], lent := [] })
noncomputable def X0_0 (K : Ex → St → Option Out) (a1 : Arg) : (List Run) → Option Out := fun z => K (.exit 0) ({ n := 23, sl := [(3, .own (.slc tRun) (ownMd (.slc tRun)) [] z)], vr := [], lent := [] })
noncomputable def b0 (self : ((List Run) × Int) → Option Out) (e0 : (List Run) → Option Out) (a1 : Arg) (v402 : (List Run) × Int) : Option Out := bif decide (v402.2 < (a1.1.length : Int)) then (if 0 ≤ v402.2 then ((a1.1[v402.2.toNat]?).bind fun x603 => (laws_toRun.sem (x603, ())).bind fun r604 => if 0 ≤ v402.2 ∧ v402.2 < (v402.1.length : Int) then ((v402.1[v402.2.toNat]?).bind fun x605 => self (v402.1.set v402.2.toNat r604.1, w64 (v402.2 + (1 : Int)))) else none) else none) else e0 v402.1
noncomputable def B0 (k : Nat) (self : ((List Run) × Int) → Option Out) (e0 : (List Run) → Option Out) (a1 : Arg) (v402 : (List Run) × Int) : Option Out := b0 self e0 a1 v402
theorem b0_eq (k : Nat) (rec : St → Option Out) (K : Ex → St → Option Out) (a1 : Arg) (v402 : (List Run) × Int) : codeK E k fin (sub [1, 1, 0, 1, 0, 0] C) ({ n := 23, sl := [(0, .val (.slc tRun) a1.1), (3, .own (.slc tRun) (ownMd (.slc tRun)) [] v402.1), (4, .val i64 v402.2)], vr := [], lent := [] }) (loopC rec (keepF [0, 3, 4] []) K) = b0 (S0 rec a1) (X0_0 K a1) a1 v402 := by kernel_rfl
theorem B0_eq (k : Nat) (rec : St → Option Out) (K : Ex → St → Option Out) (a1 : Arg) (v402 : (List Run) × Int) : codeK E k fin (sub [1, 1, 0, 1, 0, 0] C) ({ n := 23, sl := [(0, .val (.slc tRun) a1.1), (3, .own (.slc tRun) (ownMd (.slc tRun)) [] v402.1), (4, .val i64 v402.2)], vr := [], lent := [] }) (loopC rec (keepF [0, 3, 4] []) K) = B0 k (S0 rec a1) (X0_0 K a1) a1 v402 := (b0_eq k rec K a1 v402).trans (by rfl)
noncomputable def l0 (k : Nat) (a1 : Arg) (e0 : (List Run) → Option Out) (v : (List Run) × Int) : Option Out := rawIter (fun self v => B0 k self e0 a1 v) k v
theorem l0_eq (k : Nat) (K : Ex → St → Option Out) (a1 : Arg) (v402 : (List Run) × Int) : iterK (codeK E k fin (sub [1, 1, 0, 1, 0, 0] C)) (keepF [0, 3, 4] []) K k ({ n := 23, sl := [(0, .val (.slc tRun) a1.1), (3, .own (.slc tRun) (ownMd (.slc tRun)) [] v402.1), (4, .val i64 v402.2)], vr := [], lent := [] }) = l0 k a1 (X0_0 K a1) v402 :=
  iter_raw _ _ K (fun v402 => ({ n := 23, sl := [(0, .val (.slc tRun) a1.1), (3, .own (.slc tRun) (ownMd (.slc tRun)) [] v402.1), (4, .val i64 v402.2)], vr := [], lent := [] } : St)) (fun self v => B0 k self (X0_0 K a1) a1 v) (fun rec v => B0_eq k rec K a1 v) k v402
noncomputable def q0 (a1 : Arg) (z606 : (List Run)) : Option Out := some (z606, ())
noncomputable def Q0 (k : Nat) (a1 : Arg) (z606 : (List Run)) : Option Out := q0 a1 z606
theorem q0_eq (k : Nat) (a1 : Arg) (z606 : (List Run)) : (blockC 0 (seqC (codeK E k fin (sub [1, 1, 1] C)) K0)) (.exit 0) ({ n := 23, sl := [(3, .own (.slc tRun) (ownMd (.slc tRun)) [] z606)], vr := [], lent := [] }) = q0 a1 z606 := by kernel_rfl
theorem Q0_eq (k : Nat) (a1 : Arg) (z606 : (List Run)) : (blockC 0 (seqC (codeK E k fin (sub [1, 1, 1] C)) K0)) (.exit 0) ({ n := 23, sl := [(3, .own (.slc tRun) (ownMd (.slc tRun)) [] z606)], vr := [], lent := [] }) = Q0 k a1 z606 := (q0_eq k a1 z606).trans (by rfl)
noncomputable def s0 (k : Nat) (a1 : Arg) : ((List Run) × Int) → Option Out := fun v402 => iterK (codeK E k fin (sub [1, 1, 0, 1, 0, 0] C)) (keepF [0, 3, 4] []) (blockC 0 (seqC (codeK E k fin (sub [1, 1, 1] C)) K0)) k ({ n := 23, sl := [(0, .val (.slc tRun) a1.1), (3, .own (.slc tRun) (ownMd (.slc tRun)) [] v402.1), (4, .val i64 v402.2)], vr := [], lent := [] })
noncomputable def r0 (k : Nat) (a1 : Arg) : ((List Run) × Int) → Option Out := fun v402 => l0 k a1 (fun z => Q0 k a1 z) v402
theorem s0_eq (k : Nat) (a1 : Arg) : s0 k a1 = r0 k a1 := by
  funext v402;
  have h0 : X0_0 ((blockC 0 (seqC (codeK E k fin (sub [1, 1, 1] C)) K0))) a1 = fun z => Q0 k a1 z := funext fun z => Q0_eq k a1 z
  refine (l0_eq k ((blockC 0 (seqC (codeK E k fin (sub [1, 1, 1] C)) K0))) a1 v402).trans ?_
  rw [h0]
  rfl
noncomputable def p (l0 : ((List Run) × Int) → Option Out) (a1 : Arg) : Option Out := if 0 ≤ (a1.1.length : Int) ∧ (a1.1.length : Int) ≤ (a1.1.length : Int) ∧ (a1.1.length : Int) ≤ (CAP : Int) then (l0 (List.replicate (a1.1.length : Int).toNat ((0 : Int), ([] : List UInt8), ()), (0 : Int))) else none
noncomputable def raw (k : Nat) (a1 : Arg) : Option Out := p (r0 k a1) a1
theorem p_eq (k : Nat) (a1 : Arg) : bodyK E k Go.Proofs.Try.f104 ps rs [] [] a1 = p (s0 k a1) a1 := by kernel_rfl
theorem raw_eq (k : Nat) (a1 : Arg) : bodyK E k Go.Proofs.Try.f104 ps rs [] [] a1 = raw k a1 := (p_eq k a1).trans (by rw [s0_eq]; rfl)
theorem ent : EnterOk Go.Proofs.Try.prog 104 sig.cap := ⟨Go.Proofs.Try.f104, Go.Proofs.Try.func104, by kernel_rfl, by kernel_rfl, by kernel_rfl⟩
theorem env : EnvOk Go.Proofs.Try.prog E := env_ok (tl := [(50, (.slc tRun)), (59, (.slc tRun)), (234, tRun), (236, tRun)]) (gl := [(186, laws_toRun.sig)]) rfl rfl (by kernel_rfl) (by kernel_rfl) (fn_cons laws_toRun.snd laws_toRun.ent (fn_nil _))
theorem chk : funOk Go.Proofs.Try.prog E Go.Proofs.Try.f104 ps rs [] = true := by kernel_rfl
theorem snd : Sound Go.Proofs.Try.prog 104 sig := sound_of_body env Go.Proofs.Try.func104 rfl (es := []) (fr := []) chk (fun _ _ h => lift_some h)
end laws_toRunS
namespace laws_toRecord
/-! loop example g00408 laws toRecord -/
abbrev Arg : Type := Record × Unit
abbrev Out : Type := Record × Unit
noncomputable def ps : List (PM × Ty) := [(.ro, tRecord)]
noncomputable def rs : List (Ty × Md) := [(tRecord, (ownMd tRecord))]
noncomputable def E : Env := { TI := lookN [(2, i64), (50, (.slc tRun)), (52, tRecord), (59, (.slc tRun)), (61, tRecord)], G := lookN [(104, laws_toRunS.sig)], fz := [], lv := [], lx := [], lf := [], od := [] }
noncomputable def sem (a : Arg) : Option Out := lift fun k => bodyK E k Go.Proofs.Try.f31 ps rs [] [] a
noncomputable def sig : Sig := { ps := ps, rs := rs, F := fun a => sem a }
noncomputable def C : Code := bodyOf Go.Proofs.Try.f31
noncomputable def fin : St → Option Out := outK ps rs [] (Func.results Go.Proofs.Try.f31).toList (mvs [])
noncomputable def K0 : Ex → St → Option Out := endK fin
noncomputable def p (a1 : Arg) : Option Out := (laws_toRunS.sem (a1.1.2.2.2.1, ())).bind fun r2 => some ((a1.1.1, a1.1.2.1, a1.1.2.2.1, r2.1, ()), ())
noncomputable def raw (k : Nat) (a1 : Arg) : Option Out := p a1
theorem p_eq (k : Nat) (a1 : Arg) : bodyK E k Go.Proofs.Try.f31 ps rs [] [] a1 = p a1 := by kernel_rfl
theorem raw_eq (k : Nat) (a1 : Arg) : bodyK E k Go.Proofs.Try.f31 ps rs [] [] a1 = raw k a1 := (p_eq k a1).trans (by rfl)
theorem ent : EnterOk Go.Proofs.Try.prog 31 sig.cap := ⟨Go.Proofs.Try.f31, Go.Proofs.Try.func31, by kernel_rfl, by kernel_rfl, by kernel_rfl⟩
theorem env : EnvOk Go.Proofs.Try.prog E := env_ok (tl := [(2, i64), (50, (.slc tRun)), (52, tRecord), (59, (.slc tRun)), (61, tRecord)]) (gl := [(104, laws_toRunS.sig)]) rfl rfl (by kernel_rfl) (by kernel_rfl) (fn_cons laws_toRunS.snd laws_toRunS.ent (fn_nil _))
theorem chk : funOk Go.Proofs.Try.prog E Go.Proofs.Try.f31 ps rs [] = true := by kernel_rfl
theorem snd : Sound Go.Proofs.Try.prog 31 sig := sound_of_body env Go.Proofs.Try.func31 rfl (es := []) (fr := []) chk (fun _ _ h => lift_some h)
end laws_toRecord
namespace impl_turns
/-! loop example g00408 impl turns -/
abbrev Arg : Type := Int × Unit
abbrev Out : Type := Bool × Unit
noncomputable def ps : List (PM × Ty) := [(.ro, i64)]
noncomputable def rs : List (Ty × Md) := [(.bool, (roMd .bool))]
noncomputable def E : Env := { TI := lookN [], G := lookN [], fz := [], lv := [], lx := [], lf := [], od := [] }
noncomputable def sem (a : Arg) : Option Out := lift fun k => bodyK E k Go.Proofs.Try.f188 ps rs [] [] a
noncomputable def sig : Sig := { ps := ps, rs := rs, F := fun a => sem a }
noncomputable def C : Code := bodyOf Go.Proofs.Try.f188
noncomputable def fin : St → Option Out := outK ps rs [] (Func.results Go.Proofs.Try.f188).toList (mvs [])
noncomputable def K0 : Ex → St → Option Out := endK fin
noncomputable def p (a1 : Arg) : Option Out := bif decide (a1.1 = (2 : Int)) then (some (true, ())) else bif decide (a1.1 = (3 : Int)) then (some (true, ())) else some (decide (a1.1 = (4 : Int)), ())
noncomputable def raw (k : Nat) (a1 : Arg) : Option Out := p a1
theorem p_eq (k : Nat) (a1 : Arg) : bodyK E k Go.Proofs.Try.f188 ps rs [] [] a1 = p a1 := by kernel_rfl
theorem raw_eq (k : Nat) (a1 : Arg) : bodyK E k Go.Proofs.Try.f188 ps rs [] [] a1 = raw k a1 := (p_eq k a1).trans (by rfl)
theorem ent : EnterOk Go.Proofs.Try.prog 188 sig.cap := ⟨Go.Proofs.Try.f188, Go.Proofs.Try.func188, by kernel_rfl, by kernel_rfl, by kernel_rfl⟩
theorem env : EnvOk Go.Proofs.Try.prog E := env_ok (tl := []) (gl := []) rfl rfl (by kernel_rfl) (by kernel_rfl) (fn_nil _)
theorem chk : funOk Go.Proofs.Try.prog E Go.Proofs.Try.f188 ps rs [] = true := by kernel_rfl
theorem snd : Sound Go.Proofs.Try.prog 188 sig := sound_of_body env Go.Proofs.Try.func188 rfl (es := []) (fr := []) chk (fun _ _ h => lift_some h)
end impl_turns
namespace impl_isTx
/-! loop example g00408 impl isTx -/
abbrev Arg : Type := Int × Unit
abbrev Out : Type := Bool × Unit
noncomputable def ps : List (PM × Ty) := [(.ro, i64)]
noncomputable def rs : List (Ty × Md) := [(.bool, (roMd .bool))]
noncomputable def E : Env := { TI := lookN [], G := lookN [(91, impl_in.sig)], fz := [], lv := [], lx := [], lf := [], od := [] }
noncomputable def sem (a : Arg) : Option Out := lift fun k => bodyK E k Go.Proofs.Try.f189 ps rs [] [] a
noncomputable def sig : Sig := { ps := ps, rs := rs, F := fun a => sem a }
noncomputable def C : Code := bodyOf Go.Proofs.Try.f189
noncomputable def fin : St → Option Out := outK ps rs [] (Func.results Go.Proofs.Try.f189).toList (mvs [])
noncomputable def K0 : Ex → St → Option Out := endK fin
noncomputable def p (a1 : Arg) : Option Out := (impl_in.sem (a1.1, (1 : Int), (99 : Int), ())).bind fun r2 => some (r2.1, ())
noncomputable def raw (k : Nat) (a1 : Arg) : Option Out := p a1
theorem p_eq (k : Nat) (a1 : Arg) : bodyK E k Go.Proofs.Try.f189 ps rs [] [] a1 = p a1 := by kernel_rfl
theorem raw_eq (k : Nat) (a1 : Arg) : bodyK E k Go.Proofs.Try.f189 ps rs [] [] a1 = raw k a1 := (p_eq k a1).trans (by rfl)
theorem ent : EnterOk Go.Proofs.Try.prog 189 sig.cap := ⟨Go.Proofs.Try.f189, Go.Proofs.Try.func189, by kernel_rfl, by kernel_rfl, by kernel_rfl⟩
theorem env : EnvOk Go.Proofs.Try.prog E := env_ok (tl := []) (gl := [(91, impl_in.sig)]) rfl rfl (by kernel_rfl) (by kernel_rfl) (fn_cons impl_in.snd impl_in.ent (fn_nil _))
theorem chk : funOk Go.Proofs.Try.prog E Go.Proofs.Try.f189 ps rs [] = true := by kernel_rfl
theorem snd : Sound Go.Proofs.Try.prog 189 sig := sound_of_body env Go.Proofs.Try.func189 rfl (es := []) (fr := []) chk (fun _ _ h => lift_some h)
end impl_isTx
namespace impl_RunsFault
/-! loop example g00408 impl RunsFault -/
abbrev Arg : Type := (List Run) × Unit
abbrev Out : Type := Int × Unit
noncomputable def ps : List (PM × Ty) := [(.ro, (.slc tRun))]
noncomputable def rs : List (Ty × Md) := [(i64, (roMd i64))]
noncomputable def E : Env := { TI := lookN [(2, i64), (39, (.slc u8)), (59, (.slc tRun)), (236, tRun)], G := lookN [(91, impl_in.sig)], fz := [], lv := [(5, [3, 10, 11, 12])], lx := [(0, [])], lf := [], od := [] }
noncomputable def sem (a : Arg) : Option Out := lift fun k => bodyK E k Go.Proofs.Try.f190 ps rs [] [] a
noncomputable def sig : Sig := { ps := ps, rs := rs, F := fun a => sem a }
noncomputable def C : Code := bodyOf Go.Proofs.Try.f190
noncomputable def fin : St → Option Out := outK ps rs [] (Func.results Go.Proofs.Try.f190).toList (mvs [])
noncomputable def K0 : Ex → St → Option Out := endK fin
noncomputable def S0 (rec : St → Option Out) (a1 : Arg) : (Int × Int) → Option Out := fun v402 => rec ({ n := 45, sl := [(3, .val i64 v402.1), (10, .val (.slc tRun) a1.1), (11, .val i64 (a1.1.length : Int)), (12, .val i64 v402.2)], vr := [], lent := [] })
noncomputable def X0_0 (K : Ex → St → Option Out) (a1 : Arg) : (Unit) → Option Out := fun z => K (.exit 0) ({ n := 45, sl := [], vr := [], lent := [] })
noncomputable def b0 (self : (Int × Int) → Option Out) (e0 : (Unit) → Option Out) (a1 : Arg) (v402 : Int × Int) : Option Out := bif decide (v402.2 < (a1.1.length : Int)) then (if 0 ≤ v402.2 then ((a1.1[v402.2.toNat]?).bind fun x603 => (impl_in.sem (x603.1, (0 : Int), (63 : Int), ())).bind fun r604 => bif !r604.1 then (some ((3 : Int), ())) else (impl_in.sem ((x603.2.1.length : Int), (1 : Int), (64 : Int), ())).bind fun r605 => bif !r605.1 then (some ((3 : Int), ())) else bif decide ((64 : Int) < w64 (x603.1 + (x603.2.1.length : Int))) then (some ((3 : Int), ())) else bif decide (x603.1 < v402.1) then (some ((1 : Int), ())) else self (w64 ((w64 (x603.1 + (x603.2.1.length : Int))) + (1 : Int)), w64 (v402.2 + (1 : Int)))) else none) else e0 ()
noncomputable def B0 (k : Nat) (self : (Int × Int) → Option Out) (e0 : (Unit) → Option Out) (a1 : Arg) (v402 : Int × Int) : Option Out := b0 self e0 a1 v402
theorem b0_eq (k : Nat) (rec : St → Option Out) (K : Ex → St → Option Out) (a1 : Arg) (v402 : Int × Int) : codeK E k fin (sub [1, 1, 1, 0, 1, 0, 0] C) ({ n := 45, sl := [(3, .val i64 v402.1), (10, .val (.slc tRun) a1.1), (11, .val i64 (a1.1.length : Int)), (12, .val i64 v402.2)], vr := [], lent := [] }) (loopC rec (keepF [3, 10, 11, 12] []) K) = b0 (S0 rec a1) (X0_0 K a1) a1 v402 := by kernel_rfl
theorem B0_eq (k : Nat) (rec : St → Option Out) (K : Ex → St → Option Out) (a1 : Arg) (v402 : Int × Int) : codeK E k fin (sub [1, 1, 1, 0, 1, 0, 0] C) ({ n := 45, sl := [(3, .val i64 v402.1), (10, .val (.slc tRun) a1.1), (11, .val i64 (a1.1.length : Int)), (12, .val i64 v402.2)], vr := [], lent := [] }) (loopC rec (keepF [3, 10, 11, 12] []) K) = B0 k (S0 rec a1) (X0_0 K a1) a1 v402 := (b0_eq k rec K a1 v402).trans (by rfl)
noncomputable def l0 (k : Nat) (a1 : Arg) (e0 : (Unit) → Option Out) (v : Int × Int) : Option Out := rawIter (fun self v => B0 k self e0 a1 v) k v
theorem l0_eq (k : Nat) (K : Ex → St → Option Out) (a1 : Arg) (v402 : Int × Int) : iterK (codeK E k fin (sub [1, 1, 1, 0, 1, 0, 0] C)) (keepF [3, 10, 11, 12] []) K k ({ n := 45, sl := [(3, .val i64 v402.1), (10, .val (.slc tRun) a1.1), (11, .val i64 (a1.1.length : Int)), (12, .val i64 v402.2)], vr := [], lent := [] }) = l0 k a1 (X0_0 K a1) v402 :=
  iter_raw _ _ K (fun v402 => ({ n := 45, sl := [(3, .val i64 v402.1), (10, .val (.slc tRun) a1.1), (11, .val i64 (a1.1.length : Int)), (12, .val i64 v402.2)], vr := [], lent := [] } : St)) (fun self v => B0 k self (X0_0 K a1) a1 v) (fun rec v => B0_eq k rec K a1 v) k v402
noncomputable def q0 (a1 : Arg) (z606 : (Unit)) : Option Out := some ((0 : Int), ())
noncomputable def Q0 (k : Nat) (a1 : Arg) (z606 : (Unit)) : Option Out := q0 a1 z606
theorem q0_eq (k : Nat) (a1 : Arg) (z606 : (Unit)) : (blockC 0 (seqC (codeK E k fin (sub [1, 1, 1, 1] C)) K0)) (.exit 0) ({ n := 45, sl := [], vr := [], lent := [] }) = q0 a1 z606 := by kernel_rfl
theorem Q0_eq (k : Nat) (a1 : Arg) (z606 : (Unit)) : (blockC 0 (seqC (codeK E k fin (sub [1, 1, 1, 1] C)) K0)) (.exit 0) ({ n := 45, sl := [], vr := [], lent := [] }) = Q0 k a1 z606 := (q0_eq k a1 z606).trans (by rfl)
noncomputable def s0 (k : Nat) (a1 : Arg) : (Int × Int) → Option Out := fun v402 => iterK (codeK E k fin (sub [1, 1, 1, 0, 1, 0, 0] C)) (keepF [3, 10, 11, 12] []) (blockC 0 (seqC (codeK E k fin (sub [1, 1, 1, 1] C)) K0)) k ({ n := 45, sl := [(3, .val i64 v402.1), (10, .val (.slc tRun) a1.1), (11, .val i64 (a1.1.length : Int)), (12, .val i64 v402.2)], vr := [], lent := [] })
noncomputable def r0 (k : Nat) (a1 : Arg) : (Int × Int) → Option Out := fun v402 => l0 k a1 (fun z => Q0 k a1 z) v402
theorem s0_eq (k : Nat) (a1 : Arg) : s0 k a1 = r0 k a1 := by
  funext v402;
  have h0 : X0_0 ((blockC 0 (seqC (codeK E k fin (sub [1, 1, 1, 1] C)) K0))) a1 = fun z => Q0 k a1 z := funext fun z => Q0_eq k a1 z
  refine (l0_eq k ((blockC 0 (seqC (codeK E k fin (sub [1, 1, 1, 1] C)) K0))) a1 v402).trans ?_
  rw [h0]
  rfl
noncomputable def p (l0 : (Int × Int) → Option Out) (a1 : Arg) : Option Out := bif decide ((64 : Int) < (a1.1.length : Int)) then (some ((2 : Int), ())) else l0 ((0 : Int), (0 : Int))
noncomputable def raw (k : Nat) (a1 : Arg) : Option Out := p (r0 k a1) a1
theorem p_eq (k : Nat) (a1 : Arg) : bodyK E k Go.Proofs.Try.f190 ps rs [] [] a1 = p (s0 k a1) a1 := by kernel_rfl
theorem raw_eq (k : Nat) (a1 : Arg) : bodyK E k Go.Proofs.Try.f190 ps rs [] [] a1 = raw k a1 := (p_eq k a1).trans (by rw [s0_eq]; rfl)
theorem ent : EnterOk Go.Proofs.Try.prog 190 sig.cap := ⟨Go.Proofs.Try.f190, Go.Proofs.Try.func190, by kernel_rfl, by kernel_rfl, by kernel_rfl⟩
theorem env : EnvOk Go.Proofs.Try.prog E := env_ok (tl := [(2, i64), (39, (.slc u8)), (59, (.slc tRun)), (236, tRun)]) (gl := [(91, impl_in.sig)]) rfl rfl (by kernel_rfl) (by kernel_rfl) (fn_cons impl_in.snd impl_in.ent (fn_nil _))
theorem chk : funOk Go.Proofs.Try.prog E Go.Proofs.Try.f190 ps rs [] = true := by kernel_rfl
theorem snd : Sound Go.Proofs.Try.prog 190 sig := sound_of_body env Go.Proofs.Try.func190 rfl (es := []) (fr := []) chk (fun _ _ h => lift_some h)
end impl_RunsFault
namespace impl_RecordFault
/-! loop example g00408 impl RecordFault -/
abbrev Arg : Type := Record × Unit
abbrev Out : Type := Int × Unit
noncomputable def ps : List (PM × Ty) := [(.ro, tRecord)]
noncomputable def rs : List (Ty × Md) := [(i64, (roMd i64))]
noncomputable def E : Env := { TI := lookN [(2, i64), (39, (.slc u8)), (59, (.slc tRun)), (61, tRecord), (236, tRun)], G := lookN [(91, impl_in.sig), (188, impl_turns.sig), (189, impl_isTx.sig), (190, impl_RunsFault.sig)], fz := [], lv := [], lx := [], lf := [], od := [] }
noncomputable def sem (a : Arg) : Option Out := lift fun k => bodyK E k Go.Proofs.Try.f106 ps rs [] [] a
noncomputable def sig : Sig := { ps := ps, rs := rs, F := fun a => sem a }
noncomputable def C : Code := bodyOf Go.Proofs.Try.f106
noncomputable def fin : St → Option Out := outK ps rs [] (Func.results Go.Proofs.Try.f106).toList (mvs [])
noncomputable def K0 : Ex → St → Option Out := endK fin
noncomputable def p (a1 : Arg) : Option Out := let j15 : Option Out := let j23 : Option Out := (impl_RunsFault.sem (a1.1.2.2.2.1, ())).bind fun r24 => bif !decide (r24.1 = (0 : Int)) then (some (r24.1, ())) else (impl_turns.sem (a1.1.1, ())).bind fun r25 => bif r25.1 then (bif decide ((a1.1.2.2.2.1.length : Int) = (0 : Int)) then (some ((1 : Int), ())) else bif decide (a1.1.1 = (4 : Int)) then (bif !decide ((a1.1.2.2.2.1.length : Int) = (1 : Int)) then (some ((1 : Int), ())) else (a1.1.2.2.2.1[0]?).bind fun x26 => bif !decide ((x26.2.1.length : Int) = (64 : Int)) then (some ((1 : Int), ())) else some ((0 : Int), ())) else some ((0 : Int), ())) else bif decide (a1.1.1 = (4 : Int)) then (bif !decide ((a1.1.2.2.2.1.length : Int) = (1 : Int)) then (some ((1 : Int), ())) else (a1.1.2.2.2.1[0]?).bind fun x27 => bif !decide ((x27.2.1.length : Int) = (64 : Int)) then (some ((1 : Int), ())) else some ((0 : Int), ())) else some ((0 : Int), ()); bif !decide (a1.1.1 = (4 : Int)) then ((impl_isTx.sem (a1.1.2.1, ())).bind fun r16 => bif !r16.1 then (some ((3 : Int), ())) else (impl_in.sem (a1.1.2.2.1, (0 : Int), (11 : Int), ())).bind fun r17 => bif !r17.1 then (some ((3 : Int), ())) else j23) else (impl_in.sem (a1.1.2.2.1, (0 : Int), (11 : Int), ())).bind fun r18 => bif !r18.1 then (some ((3 : Int), ())) else j23; (impl_in.sem (a1.1.1, (1 : Int), (6 : Int), ())).bind fun r2 => bif !r2.1 then (some ((1 : Int), ())) else (impl_turns.sem (a1.1.1, ())).bind fun r3 => bif !r3.1 then (bif !decide (a1.1.2.2.1 = (0 : Int)) then (some ((1 : Int), ())) else bif decide ((0 : Int) < (a1.1.2.2.2.1.length : Int)) then (some ((1 : Int), ())) else bif decide (a1.1.1 = (4 : Int)) then (bif !decide (a1.1.2.1 = (0 : Int)) then (some ((1 : Int), ())) else j15) else j15) else bif decide (a1.1.1 = (4 : Int)) then (bif !decide (a1.1.2.1 = (0 : Int)) then (some ((1 : Int), ())) else j15) else j15
noncomputable def raw (k : Nat) (a1 : Arg) : Option Out := p a1
theorem p_eq (k : Nat) (a1 : Arg) : bodyK E k Go.Proofs.Try.f106 ps rs [] [] a1 = p a1 := by kernel_rfl
theorem raw_eq (k : Nat) (a1 : Arg) : bodyK E k Go.Proofs.Try.f106 ps rs [] [] a1 = raw k a1 := (p_eq k a1).trans (by rfl)
theorem ent : EnterOk Go.Proofs.Try.prog 106 sig.cap := ⟨Go.Proofs.Try.f106, Go.Proofs.Try.func106, by kernel_rfl, by kernel_rfl, by kernel_rfl⟩
theorem env : EnvOk Go.Proofs.Try.prog E := env_ok (tl := [(2, i64), (39, (.slc u8)), (59, (.slc tRun)), (61, tRecord), (236, tRun)]) (gl := [(91, impl_in.sig), (188, impl_turns.sig), (189, impl_isTx.sig), (190, impl_RunsFault.sig)]) rfl rfl (by kernel_rfl) (by kernel_rfl) (fn_cons impl_in.snd impl_in.ent (fn_cons impl_turns.snd impl_turns.ent (fn_cons impl_isTx.snd impl_isTx.ent (fn_cons impl_RunsFault.snd impl_RunsFault.ent (fn_nil _)))))
theorem chk : funOk Go.Proofs.Try.prog E Go.Proofs.Try.f106 ps rs [] = true := by kernel_rfl
theorem snd : Sound Go.Proofs.Try.prog 106 sig := sound_of_body env Go.Proofs.Try.func106 rfl (es := []) (fr := []) chk (fun _ _ h => lift_some h)
end impl_RecordFault
namespace impl_copied
/-! loop example g00408 impl copied -/
abbrev Arg : Type := (List UInt8) × Unit
abbrev Out : Type := (List UInt8) × Unit
noncomputable def ps : List (PM × Ty) := [(.ro, (.slc u8))]
noncomputable def rs : List (Ty × Md) := [((.slc u8), (ownMd (.slc u8)))]
noncomputable def E : Env := { TI := lookN [(39, (.slc u8))], G := lookN [], fz := [], lv := [], lx := [], lf := [], od := [] }
noncomputable def sem (a : Arg) : Option Out := lift fun k => bodyK E k Go.Proofs.Try.f191 ps rs [] [] a
noncomputable def sig : Sig := { ps := ps, rs := rs, F := fun a => sem a }
noncomputable def C : Code := bodyOf Go.Proofs.Try.f191
noncomputable def fin : St → Option Out := outK ps rs [] (Func.results Go.Proofs.Try.f191).toList (mvs [])
noncomputable def K0 : Ex → St → Option Out := endK fin
noncomputable def p (a1 : Arg) : Option Out := if ([] : List UInt8).length + a1.1.length ≤ CAP then (some (([] : List UInt8) ++ a1.1, ())) else none
noncomputable def raw (k : Nat) (a1 : Arg) : Option Out := p a1
theorem p_eq (k : Nat) (a1 : Arg) : bodyK E k Go.Proofs.Try.f191 ps rs [] [] a1 = p a1 := by kernel_rfl
theorem raw_eq (k : Nat) (a1 : Arg) : bodyK E k Go.Proofs.Try.f191 ps rs [] [] a1 = raw k a1 := (p_eq k a1).trans (by rfl)
theorem ent : EnterOk Go.Proofs.Try.prog 191 sig.cap := ⟨Go.Proofs.Try.f191, Go.Proofs.Try.func191, by kernel_rfl, by kernel_rfl, by kernel_rfl⟩
theorem env : EnvOk Go.Proofs.Try.prog E := env_ok (tl := [(39, (.slc u8))]) (gl := []) rfl rfl (by kernel_rfl) (by kernel_rfl) (fn_nil _)
theorem chk : funOk Go.Proofs.Try.prog E Go.Proofs.Try.f191 ps rs [] = true := by kernel_rfl
theorem snd : Sound Go.Proofs.Try.prog 191 sig := sound_of_body env Go.Proofs.Try.func191 rfl (es := []) (fr := []) chk (fun _ _ h => lift_some h)
end impl_copied
namespace laws_eqRun
/-! loop example g00408 laws eqRun -/
abbrev Arg : Type := Run × Run × Unit
abbrev Out : Type := Bool × Unit
noncomputable def ps : List (PM × Ty) := [(.ro, tRun), (.ro, tRun)]
noncomputable def rs : List (Ty × Md) := [(.bool, (roMd .bool))]
noncomputable def E : Env := { TI := lookN [(2, i64), (39, (.slc u8)), (236, tRun)], G := lookN [(109, laws_eqByteS.sig)], fz := [], lv := [], lx := [], lf := [], od := [] }
noncomputable def sem (a : Arg) : Option Out := lift fun k => bodyK E k Go.Proofs.Try.f192 ps rs [] [] a
noncomputable def sig : Sig := { ps := ps, rs := rs, F := fun a => sem a }
noncomputable def C : Code := bodyOf Go.Proofs.Try.f192
noncomputable def fin : St → Option Out := outK ps rs [] (Func.results Go.Proofs.Try.f192).toList (mvs [])
noncomputable def K0 : Ex → St → Option Out := endK fin
noncomputable def p (a1 : Arg) : Option Out := bif !decide (a1.1.1 = a1.2.1.1) then (some (false, ())) else (laws_eqByteS.sem (a1.1.2.1, a1.2.1.2.1, ())).bind fun r2 => bif !r2.1 then (some (false, ())) else some (true, ())
noncomputable def raw (k : Nat) (a1 : Arg) : Option Out := p a1
theorem p_eq (k : Nat) (a1 : Arg) : bodyK E k Go.Proofs.Try.f192 ps rs [] [] a1 = p a1 := by kernel_rfl
theorem raw_eq (k : Nat) (a1 : Arg) : bodyK E k Go.Proofs.Try.f192 ps rs [] [] a1 = raw k a1 := (p_eq k a1).trans (by rfl)
theorem ent : EnterOk Go.Proofs.Try.prog 192 sig.cap := ⟨Go.Proofs.Try.f192, Go.Proofs.Try.func192, by kernel_rfl, by kernel_rfl, by kernel_rfl⟩
theorem env : EnvOk Go.Proofs.Try.prog E := env_ok (tl := [(2, i64), (39, (.slc u8)), (236, tRun)]) (gl := [(109, laws_eqByteS.sig)]) rfl rfl (by kernel_rfl) (by kernel_rfl) (fn_cons laws_eqByteS.snd laws_eqByteS.ent (fn_nil _))
theorem chk : funOk Go.Proofs.Try.prog E Go.Proofs.Try.f192 ps rs [] = true := by kernel_rfl
theorem snd : Sound Go.Proofs.Try.prog 192 sig := sound_of_body env Go.Proofs.Try.func192 rfl (es := []) (fr := []) chk (fun _ _ h => lift_some h)
end laws_eqRun
namespace laws_eqRunS
/-! loop example g00408 laws eqRunS -/
abbrev Arg : Type := (List Run) × (List Run) × Unit
abbrev Out : Type := Bool × Unit
noncomputable def ps : List (PM × Ty) := [(.ro, (.slc tRun)), (.ro, (.slc tRun))]
noncomputable def rs : List (Ty × Md) := [(.bool, (roMd .bool))]
noncomputable def E : Env := { TI := lookN [(59, (.slc tRun)), (236, tRun)], G := lookN [(192, laws_eqRun.sig)], fz := [], lv := [(4, [0, 1, 5])], lx := [(0, [])], lf := [], od := [(6, [0, 1, 2, 3, 4, 5, 6, 7, 8, 9])] }
noncomputable def sem (a : Arg) : Option Out := lift fun k => bodyK E k Go.Proofs.Try.f110 ps rs [] [] a
noncomputable def sig : Sig := { ps := ps, rs := rs, F := fun a => sem a }
noncomputable def C : Code := bodyOf Go.Proofs.Try.f110
noncomputable def fin : St → Option Out := outK ps rs [] (Func.results Go.Proofs.Try.f110).toList (mvs [])
noncomputable def K0 : Ex → St → Option Out := endK fin
noncomputable def S0 (rec : St → Option Out) (a1 : Arg) : (Int) → Option Out := fun v402 => rec ({ n := 27, sl := [(0, .val (.slc tRun) a1.1), (1, .val (.slc tRun) a1.2.1), (5, .val i64 v402)], vr := [], lent := [] })
noncomputable def X0_0 (K : Ex → St → Option Out) (a1 : Arg) : (Unit) → Option Out := fun z => K (.exit 0) ({ n := 27, sl := [], vr := [], lent := [] })
noncomputable def b0 (self : Int → Option Out) (e0 : (Unit) → Option Out) (a1 : Arg) (v402 : Int) : Option Out := bif decide (v402 < (a1.1.length : Int)) then (if 0 ≤ v402 then ((a1.1[v402.toNat]?).bind fun x603 => if 0 ≤ v402 then ((a1.2.1[v402.toNat]?).bind fun x604 => (laws_eqRun.sem (x603, x604, ())).bind fun r605 => bif !r605.1 then (some (false, ())) else self (w64 (v402 + (1 : Int)))) else none) else none) else e0 ()
noncomputable def B0 (k : Nat) (self : Int → Option Out) (e0 : (Unit) → Option Out) (a1 : Arg) (v402 : Int) : Option Out := b0 self e0 a1 v402
theorem b0_eq (k : Nat) (rec : St → Option Out) (K : Ex → St → Option Out) (a1 : Arg) (v402 : Int) : codeK E k fin (sub [1, 1, 0, 1, 0, 0] C) ({ n := 27, sl := [(0, .val (.slc tRun) a1.1), (1, .val (.slc tRun) a1.2.1), (5, .val i64 v402)], vr := [], lent := [] }) (loopC rec (keepF [0, 1, 5] []) K) = b0 (S0 rec a1) (X0_0 K a1) a1 v402 := by kernel_rfl
theorem B0_eq (k : Nat) (rec : St → Option Out) (K : Ex → St → Option Out) (a1 : Arg) (v402 : Int) : codeK E k fin (sub [1, 1, 0, 1, 0, 0] C) ({ n := 27, sl := [(0, .val (.slc tRun) a1.1), (1, .val (.slc tRun) a1.2.1), (5, .val i64 v402)], vr := [], lent := [] }) (loopC rec (keepF [0, 1, 5] []) K) = B0 k (S0 rec a1) (X0_0 K a1) a1 v402 := (b0_eq k rec K a1 v402).trans (by rfl)
noncomputable def l0 (k : Nat) (a1 : Arg) (e0 : (Unit) → Option Out) (v : Int) : Option Out := rawIter (fun self v => B0 k self e0 a1 v) k v
theorem l0_eq (k : Nat) (K : Ex → St → Option Out) (a1 : Arg) (v402 : Int) : iterK (codeK E k fin (sub [1, 1, 0, 1, 0, 0] C)) (keepF [0, 1, 5] []) K k ({ n := 27, sl := [(0, .val (.slc tRun) a1.1), (1, .val (.slc tRun) a1.2.1), (5, .val i64 v402)], vr := [], lent := [] }) = l0 k a1 (X0_0 K a1) v402 :=
  iter_raw _ _ K (fun v402 => ({ n := 27, sl := [(0, .val (.slc tRun) a1.1), (1, .val (.slc tRun) a1.2.1), (5, .val i64 v402)], vr := [], lent := [] } : St)) (fun self v => B0 k self (X0_0 K a1) a1 v) (fun rec v => B0_eq k rec K a1 v) k v402
noncomputable def q0 (a1 : Arg) (z606 : (Unit)) : Option Out := some (true, ())
noncomputable def Q0 (k : Nat) (a1 : Arg) (z606 : (Unit)) : Option Out := q0 a1 z606
theorem q0_eq (k : Nat) (a1 : Arg) (z606 : (Unit)) : (blockC 0 (seqC (codeK E k fin (sub [1, 1, 1] C)) K0)) (.exit 0) ({ n := 27, sl := [], vr := [], lent := [] }) = q0 a1 z606 := by kernel_rfl
theorem Q0_eq (k : Nat) (a1 : Arg) (z606 : (Unit)) : (blockC 0 (seqC (codeK E k fin (sub [1, 1, 1] C)) K0)) (.exit 0) ({ n := 27, sl := [], vr := [], lent := [] }) = Q0 k a1 z606 := (q0_eq k a1 z606).trans (by rfl)
noncomputable def s0 (k : Nat) (a1 : Arg) : (Int) → Option Out := fun v402 => iterK (codeK E k fin (sub [1, 1, 0, 1, 0, 0] C)) (keepF [0, 1, 5] []) (blockC 0 (seqC (codeK E k fin (sub [1, 1, 1] C)) K0)) k ({ n := 27, sl := [(0, .val (.slc tRun) a1.1), (1, .val (.slc tRun) a1.2.1), (5, .val i64 v402)], vr := [], lent := [] })
noncomputable def r0 (k : Nat) (a1 : Arg) : (Int) → Option Out := fun v402 => l0 k a1 (fun z => Q0 k a1 z) v402
theorem s0_eq (k : Nat) (a1 : Arg) : s0 k a1 = r0 k a1 := by
  funext v402;
  have h0 : X0_0 ((blockC 0 (seqC (codeK E k fin (sub [1, 1, 1] C)) K0))) a1 = fun z => Q0 k a1 z := funext fun z => Q0_eq k a1 z
  refine (l0_eq k ((blockC 0 (seqC (codeK E k fin (sub [1, 1, 1] C)) K0))) a1 v402).trans ?_
  rw [h0]
  rfl
noncomputable def p (l0 : (Int) → Option Out) (a1 : Arg) : Option Out := bif !decide ((a1.1.length : Int) = (a1.2.1.length : Int)) then (some (false, ())) else l0 (0 : Int)
noncomputable def raw (k : Nat) (a1 : Arg) : Option Out := p (r0 k a1) a1
theorem p_eq (k : Nat) (a1 : Arg) : bodyK E k Go.Proofs.Try.f110 ps rs [] [] a1 = p (s0 k a1) a1 := by kernel_rfl
theorem raw_eq (k : Nat) (a1 : Arg) : bodyK E k Go.Proofs.Try.f110 ps rs [] [] a1 = raw k a1 := (p_eq k a1).trans (by rw [s0_eq]; rfl)
theorem ent : EnterOk Go.Proofs.Try.prog 110 sig.cap := ⟨Go.Proofs.Try.f110, Go.Proofs.Try.func110, by kernel_rfl, by kernel_rfl, by kernel_rfl⟩
theorem env : EnvOk Go.Proofs.Try.prog E := env_ok (tl := [(59, (.slc tRun)), (236, tRun)]) (gl := [(192, laws_eqRun.sig)]) rfl rfl (by kernel_rfl) (by kernel_rfl) (fn_cons laws_eqRun.snd laws_eqRun.ent (fn_nil _))
theorem chk : funOk Go.Proofs.Try.prog E Go.Proofs.Try.f110 ps rs [] = true := by kernel_rfl
theorem snd : Sound Go.Proofs.Try.prog 110 sig := sound_of_body env Go.Proofs.Try.func110 rfl (es := []) (fr := []) chk (fun _ _ h => lift_some h)
end laws_eqRunS
namespace laws_eqRecord
/-! loop example g00408 laws eqRecord -/
abbrev Arg : Type := Record × Record × Unit
abbrev Out : Type := Bool × Unit
noncomputable def ps : List (PM × Ty) := [(.ro, tRecord), (.ro, tRecord)]
noncomputable def rs : List (Ty × Md) := [(.bool, (roMd .bool))]
noncomputable def E : Env := { TI := lookN [(2, i64), (59, (.slc tRun)), (61, tRecord)], G := lookN [(110, laws_eqRunS.sig)], fz := [], lv := [], lx := [], lf := [], od := [] }
noncomputable def sem (a : Arg) : Option Out := lift fun k => bodyK E k Go.Proofs.Try.f35 ps rs [] [] a
noncomputable def sig : Sig := { ps := ps, rs := rs, F := fun a => sem a }
noncomputable def C : Code := bodyOf Go.Proofs.Try.f35
noncomputable def fin : St → Option Out := outK ps rs [] (Func.results Go.Proofs.Try.f35).toList (mvs [])
noncomputable def K0 : Ex → St → Option Out := endK fin
noncomputable def p (a1 : Arg) : Option Out := bif !decide (a1.1.1 = a1.2.1.1) then (some (false, ())) else bif !decide (a1.1.2.1 = a1.2.1.2.1) then (some (false, ())) else bif !decide (a1.1.2.2.1 = a1.2.1.2.2.1) then (some (false, ())) else (laws_eqRunS.sem (a1.1.2.2.2.1, a1.2.1.2.2.2.1, ())).bind fun r2 => bif !r2.1 then (some (false, ())) else some (true, ())
noncomputable def raw (k : Nat) (a1 : Arg) : Option Out := p a1
theorem p_eq (k : Nat) (a1 : Arg) : bodyK E k Go.Proofs.Try.f35 ps rs [] [] a1 = p a1 := by kernel_rfl
theorem raw_eq (k : Nat) (a1 : Arg) : bodyK E k Go.Proofs.Try.f35 ps rs [] [] a1 = raw k a1 := (p_eq k a1).trans (by rfl)
theorem ent : EnterOk Go.Proofs.Try.prog 35 sig.cap := ⟨Go.Proofs.Try.f35, Go.Proofs.Try.func35, by kernel_rfl, by kernel_rfl, by kernel_rfl⟩
theorem env : EnvOk Go.Proofs.Try.prog E := env_ok (tl := [(2, i64), (59, (.slc tRun)), (61, tRecord)]) (gl := [(110, laws_eqRunS.sig)]) rfl rfl (by kernel_rfl) (by kernel_rfl) (fn_cons laws_eqRunS.snd laws_eqRunS.ent (fn_nil _))
theorem chk : funOk Go.Proofs.Try.prog E Go.Proofs.Try.f35 ps rs [] = true := by kernel_rfl
theorem snd : Sound Go.Proofs.Try.prog 35 sig := sound_of_body env Go.Proofs.Try.func35 rfl (es := []) (fr := []) chk (fun _ _ h => lift_some h)
end laws_eqRecord
namespace laws_markRunS
/-! loop example g00408 laws markRunS -/
abbrev Arg : Type := (List Run) × Int × Unit
abbrev Out : Type := Int × (List Run) × Unit
noncomputable def ps : List (PM × Ty) := [(.muts (ownMd (.slc tRun)), (.slc tRun)), (.ro, i64)]
noncomputable def rs : List (Ty × Md) := [(i64, (roMd i64))]
noncomputable def E : Env := { TI := lookN [(2, i64), (39, (.slc u8)), (59, (.slc tRun)), (236, tRun)], G := lookN [(111, laws_markByteS.sig)], fz := [], lv := [(2, [0, 1, 5])], lx := [(0, [0, 1])], lf := [], od := [] }
noncomputable def sem (a : Arg) : Option Out := lift fun k => bodyK E k Go.Proofs.Try.f112 ps rs [0] [] a
noncomputable def sig : Sig := { ps := ps, rs := rs, F := fun a => sem a }
noncomputable def C : Code := bodyOf Go.Proofs.Try.f112
noncomputable def fin : St → Option Out := outK ps rs [0] (Func.results Go.Proofs.Try.f112).toList (mvs [])
noncomputable def K0 : Ex → St → Option Out := endK fin
noncomputable def S0 (rec : St → Option Out) (a1 : Arg) : ((List Run) × Int × Int) → Option Out := fun v402 => rec ({ n := 27, sl := [(0, .own (.slc tRun) (ownMd (.slc tRun)) [] v402.1), (1, .val i64 v402.2.1), (5, .val i64 v402.2.2)], vr := [], lent := [(0, 0, true)] })
noncomputable def X0_0 (K : Ex → St → Option Out) (a1 : Arg) : ((List Run) × Int) → Option Out := fun z => K (.exit 0) ({ n := 27, sl := [(0, .own (.slc tRun) (ownMd (.slc tRun)) [] z.1), (1, .val i64 z.2)], vr := [], lent := [(0, 0, true)] })
noncomputable def b0 (self : ((List Run) × Int × Int) → Option Out) (e0 : ((List Run) × Int) → Option Out) (a1 : Arg) (v402 : (List Run) × Int × Int) : Option Out := bif decide (v402.2.2 < (v402.1.length : Int)) then (if 0 ≤ v402.2.2 ∧ v402.2.2 < (v402.1.length : Int) then ((v402.1[v402.2.2.toNat]?).bind fun x603 => let y604 := v402.1.set v402.2.2.toNat (v402.2.1, x603.2); if 0 ≤ v402.2.2 ∧ v402.2.2 < (y604.length : Int) then ((y604[v402.2.2.toNat]?).bind fun x605 => (y604[v402.2.2.toNat]?).bind fun x606 => (y604[v402.2.2.toNat]?).bind fun x607 => (laws_markByteS.sem (x607.2.1, w64 (v402.2.1 + (1 : Int)), ())).bind fun r608 => (y604[v402.2.2.toNat]?).bind fun x609 => let y610 := y604.set v402.2.2.toNat (x609.1, r608.2.1, x609.2.2); self (y610, r608.1, w64 (v402.2.2 + (1 : Int)))) else none) else none) else e0 (v402.1, v402.2.1)
noncomputable def B0 (k : Nat) (self : ((List Run) × Int × Int) → Option Out) (e0 : ((List Run) × Int) → Option Out) (a1 : Arg) (v402 : (List Run) × Int × Int) : Option Out := b0 self e0 a1 v402
theorem b0_eq (k : Nat) (rec : St → Option Out) (K : Ex → St → Option Out) (a1 : Arg) (v402 : (List Run) × Int × Int) : codeK E k fin (sub [1, 0, 1, 0, 0] C) ({ n := 27, sl := [(0, .own (.slc tRun) (ownMd (.slc tRun)) [] v402.1), (1, .val i64 v402.2.1), (5, .val i64 v402.2.2)], vr := [], lent := [(0, 0, true)] }) (loopC rec (keepF [0, 1, 5] []) K) = b0 (S0 rec a1) (X0_0 K a1) a1 v402 := by kernel_rfl
theorem B0_eq (k : Nat) (rec : St → Option Out) (K : Ex → St → Option Out) (a1 : Arg) (v402 : (List Run) × Int × Int) : codeK E k fin (sub [1, 0, 1, 0, 0] C) ({ n := 27, sl := [(0, .own (.slc tRun) (ownMd (.slc tRun)) [] v402.1), (1, .val i64 v402.2.1), (5, .val i64 v402.2.2)], vr := [], lent := [(0, 0, true)] }) (loopC rec (keepF [0, 1, 5] []) K) = B0 k (S0 rec a1) (X0_0 K a1) a1 v402 := (b0_eq k rec K a1 v402).trans (by rfl)
noncomputable def l0 (k : Nat) (a1 : Arg) (e0 : ((List Run) × Int) → Option Out) (v : (List Run) × Int × Int) : Option Out := rawIter (fun self v => B0 k self e0 a1 v) k v
theorem l0_eq (k : Nat) (K : Ex → St → Option Out) (a1 : Arg) (v402 : (List Run) × Int × Int) : iterK (codeK E k fin (sub [1, 0, 1, 0, 0] C)) (keepF [0, 1, 5] []) K k ({ n := 27, sl := [(0, .own (.slc tRun) (ownMd (.slc tRun)) [] v402.1), (1, .val i64 v402.2.1), (5, .val i64 v402.2.2)], vr := [], lent := [(0, 0, true)] }) = l0 k a1 (X0_0 K a1) v402 :=
  iter_raw _ _ K (fun v402 => ({ n := 27, sl := [(0, .own (.slc tRun) (ownMd (.slc tRun)) [] v402.1), (1, .val i64 v402.2.1), (5, .val i64 v402.2.2)], vr := [], lent := [(0, 0, true)] } : St)) (fun self v => B0 k self (X0_0 K a1) a1 v) (fun rec v => B0_eq k rec K a1 v) k v402
noncomputable def q0 (a1 : Arg) (z611 : ((List Run) × Int)) : Option Out := some (z611.2, z611.1, ())
noncomputable def Q0 (k : Nat) (a1 : Arg) (z611 : ((List Run) × Int)) : Option Out := q0 a1 z611
theorem q0_eq (k : Nat) (a1 : Arg) (z611 : ((List Run) × Int)) : (blockC 0 (seqC (codeK E k fin (sub [1, 1] C)) K0)) (.exit 0) ({ n := 27, sl := [(0, .own (.slc tRun) (ownMd (.slc tRun)) [] z611.1), (1, .val i64 z611.2)], vr := [], lent := [(0, 0, true)] }) = q0 a1 z611 := by kernel_rfl
theorem Q0_eq (k : Nat) (a1 : Arg) (z611 : ((List Run) × Int)) : (blockC 0 (seqC (codeK E k fin (sub [1, 1] C)) K0)) (.exit 0) ({ n := 27, sl := [(0, .own (.slc tRun) (ownMd (.slc tRun)) [] z611.1), (1, .val i64 z611.2)], vr := [], lent := [(0, 0, true)] }) = Q0 k a1 z611 := (q0_eq k a1 z611).trans (by rfl)
noncomputable def s0 (k : Nat) (a1 : Arg) : ((List Run) × Int × Int) → Option Out := fun v402 => iterK (codeK E k fin (sub [1, 0, 1, 0, 0] C)) (keepF [0, 1, 5] []) (blockC 0 (seqC (codeK E k fin (sub [1, 1] C)) K0)) k ({ n := 27, sl := [(0, .own (.slc tRun) (ownMd (.slc tRun)) [] v402.1), (1, .val i64 v402.2.1), (5, .val i64 v402.2.2)], vr := [], lent := [(0, 0, true)] })
noncomputable def r0 (k : Nat) (a1 : Arg) : ((List Run) × Int × Int) → Option Out := fun v402 => l0 k a1 (fun z => Q0 k a1 z) v402
theorem s0_eq (k : Nat) (a1 : Arg) : s0 k a1 = r0 k a1 := by
  funext v402;
  have h0 : X0_0 ((blockC 0 (seqC (codeK E k fin (sub [1, 1] C)) K0))) a1 = fun z => Q0 k a1 z := funext fun z => Q0_eq k a1 z
  refine (l0_eq k ((blockC 0 (seqC (codeK E k fin (sub [1, 1] C)) K0))) a1 v402).trans ?_
  rw [h0]
  rfl
noncomputable def p (l0 : ((List Run) × Int × Int) → Option Out) (a1 : Arg) : Option Out := l0 (a1.1, a1.2.1, (0 : Int))
noncomputable def raw (k : Nat) (a1 : Arg) : Option Out := p (r0 k a1) a1
theorem p_eq (k : Nat) (a1 : Arg) : bodyK E k Go.Proofs.Try.f112 ps rs [0] [] a1 = p (s0 k a1) a1 := by kernel_rfl
theorem raw_eq (k : Nat) (a1 : Arg) : bodyK E k Go.Proofs.Try.f112 ps rs [0] [] a1 = raw k a1 := (p_eq k a1).trans (by rw [s0_eq]; rfl)
theorem ent : EnterOk Go.Proofs.Try.prog 112 sig.cap := ⟨Go.Proofs.Try.f112, Go.Proofs.Try.func112, by kernel_rfl, by kernel_rfl, by kernel_rfl⟩
theorem env : EnvOk Go.Proofs.Try.prog E := env_ok (tl := [(2, i64), (39, (.slc u8)), (59, (.slc tRun)), (236, tRun)]) (gl := [(111, laws_markByteS.sig)]) rfl rfl (by kernel_rfl) (by kernel_rfl) (fn_cons laws_markByteS.snd laws_markByteS.ent (fn_nil _))
theorem chk : funOk Go.Proofs.Try.prog E Go.Proofs.Try.f112 ps rs [0] = true := by kernel_rfl
theorem snd : Sound Go.Proofs.Try.prog 112 sig := sound_of_body env Go.Proofs.Try.func112 rfl (es := [0]) (fr := []) chk (fun _ _ h => lift_some h)
end laws_markRunS
namespace laws_szRecordS
/-! loop example g00408 laws szRecordS -/
abbrev Arg : Type := (List Record) × Int × Unit
abbrev Out : Type := Int × Unit
noncomputable def ps : List (PM × Ty) := [(.ro, (.slc tRecord)), (.ro, i64)]
noncomputable def rs : List (Ty × Md) := [(i64, (roMd i64))]
noncomputable def E : Env := { TI := lookN [(52, tRecord), (70, (.slc tRecord))], G := lookN [(28, laws_szRecord.sig)], fz := [], lv := [(5, [0, 1, 5])], lx := [(0, [1])], lf := [], od := [] }
noncomputable def sem (a : Arg) : Option Out := lift fun k => bodyK E k Go.Proofs.Try.f40 ps rs [] [] a
noncomputable def sig : Sig := { ps := ps, rs := rs, F := fun a => sem a }
noncomputable def C : Code := bodyOf Go.Proofs.Try.f40
noncomputable def fin : St → Option Out := outK ps rs [] (Func.results Go.Proofs.Try.f40).toList (mvs [])
noncomputable def K0 : Ex → St → Option Out := endK fin
noncomputable def S0 (rec : St → Option Out) (a1 : Arg) : (Int × Int) → Option Out := fun v402 => rec ({ n := 27, sl := [(0, .val (.slc tRecord) a1.1), (1, .val i64 v402.1), (5, .val i64 v402.2)], vr := [], lent := [] })
noncomputable def X0_0 (K : Ex → St → Option Out) (a1 : Arg) : Int → Option Out := fun z => K (.exit 0) ({ n := 27, sl := [(1, .val i64 z)], vr := [], lent := [] })
noncomputable def b0 (self : (Int × Int) → Option Out) (e0 : Int → Option Out) (a1 : Arg) (v402 : Int × Int) : Option Out := bif decide (v402.2 < (a1.1.length : Int)) then (if 0 ≤ v402.2 then ((a1.1[v402.2.toNat]?).bind fun x603 => (laws_szRecord.sem (x603, v402.1, ())).bind fun r604 => bif decide (r604.1 < (0 : Int)) then (some ((-1 : Int), ())) else self (r604.1, w64 (v402.2 + (1 : Int)))) else none) else e0 v402.1
noncomputable def B0 (k : Nat) (self : (Int × Int) → Option Out) (e0 : Int → Option Out) (a1 : Arg) (v402 : Int × Int) : Option Out := b0 self e0 a1 v402
theorem b0_eq (k : Nat) (rec : St → Option Out) (K : Ex → St → Option Out) (a1 : Arg) (v402 : Int × Int) : codeK E k fin (sub [1, 1, 1, 0, 1, 0, 0] C) ({ n := 27, sl := [(0, .val (.slc tRecord) a1.1), (1, .val i64 v402.1), (5, .val i64 v402.2)], vr := [], lent := [] }) (loopC rec (keepF [0, 1, 5] []) K) = b0 (S0 rec a1) (X0_0 K a1) a1 v402 := by kernel_rfl
theorem B0_eq (k : Nat) (rec : St → Option Out) (K : Ex → St → Option Out) (a1 : Arg) (v402 : Int × Int) : codeK E k fin (sub [1, 1, 1, 0, 1, 0, 0] C) ({ n := 27, sl := [(0, .val (.slc tRecord) a1.1), (1, .val i64 v402.1), (5, .val i64 v402.2)], vr := [], lent := [] }) (loopC rec (keepF [0, 1, 5] []) K) = B0 k (S0 rec a1) (X0_0 K a1) a1 v402 := (b0_eq k rec K a1 v402).trans (by rfl)
noncomputable def l0 (k : Nat) (a1 : Arg) (e0 : Int → Option Out) (v : Int × Int) : Option Out := rawIter (fun self v => B0 k self e0 a1 v) k v
theorem l0_eq (k : Nat) (K : Ex → St → Option Out) (a1 : Arg) (v402 : Int × Int) : iterK (codeK E k fin (sub [1, 1, 1, 0, 1, 0, 0] C)) (keepF [0, 1, 5] []) K k ({ n := 27, sl := [(0, .val (.slc tRecord) a1.1), (1, .val i64 v402.1), (5, .val i64 v402.2)], vr := [], lent := [] }) = l0 k a1 (X0_0 K a1) v402 :=
  iter_raw _ _ K (fun v402 => ({ n := 27, sl := [(0, .val (.slc tRecord) a1.1), (1, .val i64 v402.1), (5, .val i64 v402.2)], vr := [], lent := [] } : St)) (fun self v => B0 k self (X0_0 K a1) a1 v) (fun rec v => B0_eq k rec K a1 v) k v402
noncomputable def q0 (a1 : Arg) (z605 : Int) : Option Out := some (z605, ())
noncomputable def Q0 (k : Nat) (a1 : Arg) (z605 : Int) : Option Out := q0 a1 z605
theorem q0_eq (k : Nat) (a1 : Arg) (z605 : Int) : (blockC 0 (seqC (codeK E k fin (sub [1, 1, 1, 1] C)) K0)) (.exit 0) ({ n := 27, sl := [(1, .val i64 z605)], vr := [], lent := [] }) = q0 a1 z605 := by kernel_rfl
theorem Q0_eq (k : Nat) (a1 : Arg) (z605 : Int) : (blockC 0 (seqC (codeK E k fin (sub [1, 1, 1, 1] C)) K0)) (.exit 0) ({ n := 27, sl := [(1, .val i64 z605)], vr := [], lent := [] }) = Q0 k a1 z605 := (q0_eq k a1 z605).trans (by rfl)
noncomputable def s0 (k : Nat) (a1 : Arg) : (Int × Int) → Option Out := fun v402 => iterK (codeK E k fin (sub [1, 1, 1, 0, 1, 0, 0] C)) (keepF [0, 1, 5] []) (blockC 0 (seqC (codeK E k fin (sub [1, 1, 1, 1] C)) K0)) k ({ n := 27, sl := [(0, .val (.slc tRecord) a1.1), (1, .val i64 v402.1), (5, .val i64 v402.2)], vr := [], lent := [] })
noncomputable def r0 (k : Nat) (a1 : Arg) : (Int × Int) → Option Out := fun v402 => l0 k a1 (fun z => Q0 k a1 z) v402
theorem s0_eq (k : Nat) (a1 : Arg) : s0 k a1 = r0 k a1 := by
  funext v402;
  have h0 : X0_0 ((blockC 0 (seqC (codeK E k fin (sub [1, 1, 1, 1] C)) K0))) a1 = fun z => Q0 k a1 z := funext fun z => Q0_eq k a1 z
  refine (l0_eq k ((blockC 0 (seqC (codeK E k fin (sub [1, 1, 1, 1] C)) K0))) a1 v402).trans ?_
  rw [h0]
  rfl
noncomputable def p (l0 : (Int × Int) → Option Out) (a1 : Arg) : Option Out := bif decide (w64 (a1.2.1 - (a1.1.length : Int)) < (0 : Int)) then (some ((-1 : Int), ())) else l0 (w64 (a1.2.1 - (a1.1.length : Int)), (0 : Int))
noncomputable def raw (k : Nat) (a1 : Arg) : Option Out := p (r0 k a1) a1
theorem p_eq (k : Nat) (a1 : Arg) : bodyK E k Go.Proofs.Try.f40 ps rs [] [] a1 = p (s0 k a1) a1 := by kernel_rfl
theorem raw_eq (k : Nat) (a1 : Arg) : bodyK E k Go.Proofs.Try.f40 ps rs [] [] a1 = raw k a1 := (p_eq k a1).trans (by rw [s0_eq]; rfl)
theorem ent : EnterOk Go.Proofs.Try.prog 40 sig.cap := ⟨Go.Proofs.Try.f40, Go.Proofs.Try.func40, by kernel_rfl, by kernel_rfl, by kernel_rfl⟩
theorem env : EnvOk Go.Proofs.Try.prog E := env_ok (tl := [(52, tRecord), (70, (.slc tRecord))]) (gl := [(28, laws_szRecord.sig)]) rfl rfl (by kernel_rfl) (by kernel_rfl) (fn_cons laws_szRecord.snd laws_szRecord.ent (fn_nil _))
theorem chk : funOk Go.Proofs.Try.prog E Go.Proofs.Try.f40 ps rs [] = true := by kernel_rfl
theorem snd : Sound Go.Proofs.Try.prog 40 sig := sound_of_body env Go.Proofs.Try.func40 rfl (es := []) (fr := []) chk (fun _ _ h => lift_some h)
end laws_szRecordS
namespace spec_l7Bad
/-! loop example g00408 spec l7Bad -/
abbrev Arg : Type := Int × Unit
abbrev Out : Type := EditsResult × Unit
noncomputable def ps : List (PM × Ty) := [(.ro, i64)]
noncomputable def rs : List (Ty × Md) := [(tEditsResult, (ownMd tEditsResult))]
noncomputable def E : Env := { TI := lookN [(74, tEditsResult)], G := lookN [], fz := [], lv := [], lx := [], lf := [], od := [] }
noncomputable def sem (a : Arg) : Option Out := lift fun k => bodyK E k Go.Proofs.Try.f115 ps rs [] [] a
noncomputable def sig : Sig := { ps := ps, rs := rs, F := fun a => sem a }
noncomputable def C : Code := bodyOf Go.Proofs.Try.f115
noncomputable def fin : St → Option Out := outK ps rs [] (Func.results Go.Proofs.Try.f115).toList (mvs [])
noncomputable def K0 : Ex → St → Option Out := endK fin
noncomputable def p (a1 : Arg) : Option Out := some ((a1.1, ([] : List Run), ([] : List (List UInt8)), ()), ())
noncomputable def raw (k : Nat) (a1 : Arg) : Option Out := p a1
theorem p_eq (k : Nat) (a1 : Arg) : bodyK E k Go.Proofs.Try.f115 ps rs [] [] a1 = p a1 := by kernel_rfl
theorem raw_eq (k : Nat) (a1 : Arg) : bodyK E k Go.Proofs.Try.f115 ps rs [] [] a1 = raw k a1 := (p_eq k a1).trans (by rfl)
theorem ent : EnterOk Go.Proofs.Try.prog 115 sig.cap := ⟨Go.Proofs.Try.f115, Go.Proofs.Try.func115, by kernel_rfl, by kernel_rfl, by kernel_rfl⟩
theorem env : EnvOk Go.Proofs.Try.prog E := env_ok (tl := [(74, tEditsResult)]) (gl := []) rfl rfl (by kernel_rfl) (by kernel_rfl) (fn_nil _)
theorem chk : funOk Go.Proofs.Try.prog E Go.Proofs.Try.f115 ps rs [] = true := by kernel_rfl
theorem snd : Sound Go.Proofs.Try.prog 115 sig := sound_of_body env Go.Proofs.Try.func115 rfl (es := []) (fr := []) chk (fun _ _ h => lift_some h)
end spec_l7Bad
namespace spec_l7Copy
/-! loop example g00408 spec l7Copy -/
abbrev Arg : Type := (List (List UInt8)) × Unit
abbrev Out : Type := (List (List UInt8)) × Unit
noncomputable def ps : List (PM × Ty) := [(.ro, (.slc (.slc u8)))]
noncomputable def rs : List (Ty × Md) := [((.slc (.slc u8)), (ownMd (.slc (.slc u8))))]
noncomputable def E : Env := { TI := lookN [(38, (.slc (.slc u8))), (39, (.slc u8))], G := lookN [(245, spec_l2Copy.sig)], fz := [], lv := [(3, [0, 3, 4])], lx := [(0, [3])], lf := [], od := [] }
noncomputable def sem (a : Arg) : Option Out := lift fun k => bodyK E k Go.Proofs.Try.f246 ps rs [] [] a
noncomputable def sig : Sig := { ps := ps, rs := rs, F := fun a => sem a }
noncomputable def C : Code := bodyOf Go.Proofs.Try.f246
noncomputable def fin : St → Option Out := outK ps rs [] (Func.results Go.Proofs.Try.f246).toList (mvs [])
noncomputable def K0 : Ex → St → Option Out := endK fin
noncomputable def S0 (rec : St → Option Out) (a1 : Arg) : ((List (List UInt8)) × Int) → Option Out := fun v402 => rec ({ n := 21, sl := [(0, .val (.slc (.slc u8)) a1.1), (3, .own (.slc (.slc u8)) (ownMd (.slc (.slc u8))) [] v402.1), (4, .val i64 v402.2)], vr := [], lent := [] })
noncomputable def X0_0 (K : Ex → St → Option Out) (a1 : Arg) : (List (List UInt8)) → Option Out := fun z => K (.exit 0) ({ n := 21, sl := [(3, .own (.slc (.slc u8)) (ownMd (.slc (.slc u8))) [] z)], vr := [], lent := [] })
noncomputable def b0 (self : ((List (List UInt8)) × Int) → Option Out) (e0 : (List (List UInt8)) → Option Out) (a1 : Arg) (v402 : (List (List UInt8)) × Int) : Option Out := bif decide (v402.2 < (a1.1.length : Int)) then (if 0 ≤ v402.2 then ((a1.1[v402.2.toNat]?).bind fun x603 => (spec_l2Copy.sem (x603, ())).bind fun r604 => if v402.1.length + [r604.1].length ≤ CAP then (self (v402.1 ++ [r604.1], w64 (v402.2 + (1 : Int)))) else none) else none) else e0 v402.1
noncomputable def B0 (k : Nat) (self : ((List (List UInt8)) × Int) → Option Out) (e0 : (List (List UInt8)) → Option Out) (a1 : Arg) (v402 : (List (List UInt8)) × Int) : Option Out := b0 self e0 a1 v402
theorem b0_eq (k : Nat) (rec : St → Option Out) (K : Ex → St → Option Out) (a1 : Arg) (v402 : (List (List UInt8)) × Int) : codeK E k fin (sub [1, 1, 0, 1, 0, 0] C) ({ n := 21, sl := [(0, .val (.slc (.slc u8)) a1.1), (3, .own (.slc (.slc u8)) (ownMd (.slc (.slc u8))) [] v402.1), (4, .val i64 v402.2)], vr := [], lent := [] }) (loopC rec (keepF [0, 3, 4] []) K) = b0 (S0 rec a1) (X0_0 K a1) a1 v402 := by kernel_rfl
theorem B0_eq (k : Nat) (rec : St → Option Out) (K : Ex → St → Option Out) (a1 : Arg) (v402 : (List (List UInt8)) × Int) : codeK E k fin (sub [1, 1, 0, 1, 0, 0] C) ({ n := 21, sl := [(0, .val (.slc (.slc u8)) a1.1), (3, .own (.slc (.slc u8)) (ownMd (.slc (.slc u8))) [] v402.1), (4, .val i64 v402.2)], vr := [], lent := [] }) (loopC rec (keepF [0, 3, 4] []) K) = B0 k (S0 rec a1) (X0_0 K a1) a1 v402 := (b0_eq k rec K a1 v402).trans (by rfl)
noncomputable def l0 (k : Nat) (a1 : Arg) (e0 : (List (List UInt8)) → Option Out) (v : (List (List UInt8)) × Int) : Option Out := rawIter (fun self v => B0 k self e0 a1 v) k v
theorem l0_eq (k : Nat) (K : Ex → St → Option Out) (a1 : Arg) (v402 : (List (List UInt8)) × Int) : iterK (codeK E k fin (sub [1, 1, 0, 1, 0, 0] C)) (keepF [0, 3, 4] []) K k ({ n := 21, sl := [(0, .val (.slc (.slc u8)) a1.1), (3, .own (.slc (.slc u8)) (ownMd (.slc (.slc u8))) [] v402.1), (4, .val i64 v402.2)], vr := [], lent := [] }) = l0 k a1 (X0_0 K a1) v402 :=
  iter_raw _ _ K (fun v402 => ({ n := 21, sl := [(0, .val (.slc (.slc u8)) a1.1), (3, .own (.slc (.slc u8)) (ownMd (.slc (.slc u8))) [] v402.1), (4, .val i64 v402.2)], vr := [], lent := [] } : St)) (fun self v => B0 k self (X0_0 K a1) a1 v) (fun rec v => B0_eq k rec K a1 v) k v402
noncomputable def q0 (a1 : Arg) (z605 : (List (List UInt8))) : Option Out := some (z605, ())
noncomputable def Q0 (k : Nat) (a1 : Arg) (z605 : (List (List UInt8))) : Option Out := q0 a1 z605
theorem q0_eq (k : Nat) (a1 : Arg) (z605 : (List (List UInt8))) : (blockC 0 (seqC (codeK E k fin (sub [1, 1, 1] C)) K0)) (.exit 0) ({ n := 21, sl := [(3, .own (.slc (.slc u8)) (ownMd (.slc (.slc u8))) [] z605)], vr := [], lent := [] }) = q0 a1 z605 := by kernel_rfl
theorem Q0_eq (k : Nat) (a1 : Arg) (z605 : (List (List UInt8))) : (blockC 0 (seqC (codeK E k fin (sub [1, 1, 1] C)) K0)) (.exit 0) ({ n := 21, sl := [(3, .own (.slc (.slc u8)) (ownMd (.slc (.slc u8))) [] z605)], vr := [], lent := [] }) = Q0 k a1 z605 := (q0_eq k a1 z605).trans (by rfl)
noncomputable def s0 (k : Nat) (a1 : Arg) : ((List (List UInt8)) × Int) → Option Out := fun v402 => iterK (codeK E k fin (sub [1, 1, 0, 1, 0, 0] C)) (keepF [0, 3, 4] []) (blockC 0 (seqC (codeK E k fin (sub [1, 1, 1] C)) K0)) k ({ n := 21, sl := [(0, .val (.slc (.slc u8)) a1.1), (3, .own (.slc (.slc u8)) (ownMd (.slc (.slc u8))) [] v402.1), (4, .val i64 v402.2)], vr := [], lent := [] })
noncomputable def r0 (k : Nat) (a1 : Arg) : ((List (List UInt8)) × Int) → Option Out := fun v402 => l0 k a1 (fun z => Q0 k a1 z) v402
theorem s0_eq (k : Nat) (a1 : Arg) : s0 k a1 = r0 k a1 := by
  funext v402;
  have h0 : X0_0 ((blockC 0 (seqC (codeK E k fin (sub [1, 1, 1] C)) K0))) a1 = fun z => Q0 k a1 z := funext fun z => Q0_eq k a1 z
  refine (l0_eq k ((blockC 0 (seqC (codeK E k fin (sub [1, 1, 1] C)) K0))) a1 v402).trans ?_
  rw [h0]
  rfl
noncomputable def p (l0 : ((List (List UInt8)) × Int) → Option Out) (a1 : Arg) : Option Out := l0 (([] : List (List UInt8)), (0 : Int))
noncomputable def raw (k : Nat) (a1 : Arg) : Option Out := p (r0 k a1) a1
theorem p_eq (k : Nat) (a1 : Arg) : bodyK E k Go.Proofs.Try.f246 ps rs [] [] a1 = p (s0 k a1) a1 := by kernel_rfl
theorem raw_eq (k : Nat) (a1 : Arg) : bodyK E k Go.Proofs.Try.f246 ps rs [] [] a1 = raw k a1 := (p_eq k a1).trans (by rw [s0_eq]; rfl)
theorem ent : EnterOk Go.Proofs.Try.prog 246 sig.cap := ⟨Go.Proofs.Try.f246, Go.Proofs.Try.func246, by kernel_rfl, by kernel_rfl, by kernel_rfl⟩
theorem env : EnvOk Go.Proofs.Try.prog E := env_ok (tl := [(38, (.slc (.slc u8))), (39, (.slc u8))]) (gl := [(245, spec_l2Copy.sig)]) rfl rfl (by kernel_rfl) (by kernel_rfl) (fn_cons spec_l2Copy.snd spec_l2Copy.ent (fn_nil _))
theorem chk : funOk Go.Proofs.Try.prog E Go.Proofs.Try.f246 ps rs [] = true := by kernel_rfl
theorem snd : Sound Go.Proofs.Try.prog 246 sig := sound_of_body env Go.Proofs.Try.func246 rfl (es := []) (fr := []) chk (fun _ _ h => lift_some h)
end spec_l7Copy
namespace spec_l2New
/-! loop example g00408 spec l2New -/
abbrev Arg : Type := UInt8 × Unit
abbrev Out : Type := (List UInt8) × Unit
noncomputable def ps : List (PM × Ty) := [(.ro, u8)]
noncomputable def rs : List (Ty × Md) := [((.slc u8), (ownMd (.slc u8)))]
noncomputable def E : Env := { TI := lookN [(5, u8), (39, (.slc u8))], G := lookN [], fz := [], lv := [(3, [0, 3, 4])], lx := [(0, [3])], lf := [], od := [] }
noncomputable def sem (a : Arg) : Option Out := lift fun k => bodyK E k Go.Proofs.Try.f247 ps rs [] [] a
noncomputable def sig : Sig := { ps := ps, rs := rs, F := fun a => sem a }
noncomputable def C : Code := bodyOf Go.Proofs.Try.f247
noncomputable def fin : St → Option Out := outK ps rs [] (Func.results Go.Proofs.Try.f247).toList (mvs [])
noncomputable def K0 : Ex → St → Option Out := endK fin
noncomputable def S0 (rec : St → Option Out) (a1 : Arg) : ((List UInt8) × Int) → Option Out := fun v402 => rec ({ n := 19, sl := [(0, .val u8 a1.1), (3, .own (.slc u8) (ownMd (.slc u8)) [] v402.1), (4, .val i64 v402.2)], vr := [], lent := [] })
noncomputable def X0_0 (K : Ex → St → Option Out) (a1 : Arg) : (List UInt8) → Option Out := fun z => K (.exit 0) ({ n := 19, sl := [(3, .own (.slc u8) (ownMd (.slc u8)) [] z)], vr := [], lent := [] })
noncomputable def b0 (self : ((List UInt8) × Int) → Option Out) (e0 : (List UInt8) → Option Out) (a1 : Arg) (v402 : (List UInt8) × Int) : Option Out := bif decide (v402.2 < (64 : Int)) then (if 0 ≤ v402.2 ∧ v402.2 < (v402.1.length : Int) then ((v402.1[v402.2.toNat]?).bind fun x603 => self (v402.1.set v402.2.toNat a1.1, w64 (v402.2 + (1 : Int)))) else none) else e0 v402.1
noncomputable def B0 (k : Nat) (self : ((List UInt8) × Int) → Option Out) (e0 : (List UInt8) → Option Out) (a1 : Arg) (v402 : (List UInt8) × Int) : Option Out := b0 self e0 a1 v402
theorem b0_eq (k : Nat) (rec : St → Option Out) (K : Ex → St → Option Out) (a1 : Arg) (v402 : (List UInt8) × Int) : codeK E k fin (sub [1, 1, 0, 1, 0, 0] C) ({ n := 19, sl := [(0, .val u8 a1.1), (3, .own (.slc u8) (ownMd (.slc u8)) [] v402.1), (4, .val i64 v402.2)], vr := [], lent := [] }) (loopC rec (keepF [0, 3, 4] []) K) = b0 (S0 rec a1) (X0_0 K a1) a1 v402 := by kernel_rfl
theorem B0_eq (k : Nat) (rec : St → Option Out) (K : Ex → St → Option Out) (a1 : Arg) (v402 : (List UInt8) × Int) : codeK E k fin (sub [1, 1, 0, 1, 0, 0] C) ({ n := 19, sl := [(0, .val u8 a1.1), (3, .own (.slc u8) (ownMd (.slc u8)) [] v402.1), (4, .val i64 v402.2)], vr := [], lent := [] }) (loopC rec (keepF [0, 3, 4] []) K) = B0 k (S0 rec a1) (X0_0 K a1) a1 v402 := (b0_eq k rec K a1 v402).trans (by rfl)
noncomputable def l0 (k : Nat) (a1 : Arg) (e0 : (List UInt8) → Option Out) (v : (List UInt8) × Int) : Option Out := rawIter (fun self v => B0 k self e0 a1 v) k v
theorem l0_eq (k : Nat) (K : Ex → St → Option Out) (a1 : Arg) (v402 : (List UInt8) × Int) : iterK (codeK E k fin (sub [1, 1, 0, 1, 0, 0] C)) (keepF [0, 3, 4] []) K k ({ n := 19, sl := [(0, .val u8 a1.1), (3, .own (.slc u8) (ownMd (.slc u8)) [] v402.1), (4, .val i64 v402.2)], vr := [], lent := [] }) = l0 k a1 (X0_0 K a1) v402 :=
  iter_raw _ _ K (fun v402 => ({ n := 19, sl := [(0, .val u8 a1.1), (3, .own (.slc u8) (ownMd (.slc u8)) [] v402.1), (4, .val i64 v402.2)], vr := [], lent := [] } : St)) (fun self v => B0 k self (X0_0 K a1) a1 v) (fun rec v => B0_eq k rec K a1 v) k v402
noncomputable def q0 (a1 : Arg) (z604 : (List UInt8)) : Option Out := if 0 ≤ (0 : Int) ∧ (0 : Int) < (z604.length : Int) then ((z604[0]?).bind fun x605 => if 0 ≤ (1 : Int) ∧ (1 : Int) < ((z604.set 0 (0 : UInt8)).length : Int) then (((z604.set 0 (0 : UInt8))[1]?).bind fun x606 => let y607 := (z604.set 0 (0 : UInt8)).set 1 (64 : UInt8); some (y607, ())) else none) else none
noncomputable def Q0 (k : Nat) (a1 : Arg) (z604 : (List UInt8)) : Option Out := q0 a1 z604
theorem q0_eq (k : Nat) (a1 : Arg) (z604 : (List UInt8)) : (blockC 0 (seqC (codeK E k fin (sub [1, 1, 1] C)) K0)) (.exit 0) ({ n := 19, sl := [(3, .own (.slc u8) (ownMd (.slc u8)) [] z604)], vr := [], lent := [] }) = q0 a1 z604 := by kernel_rfl
theorem Q0_eq (k : Nat) (a1 : Arg) (z604 : (List UInt8)) : (blockC 0 (seqC (codeK E k fin (sub [1, 1, 1] C)) K0)) (.exit 0) ({ n := 19, sl := [(3, .own (.slc u8) (ownMd (.slc u8)) [] z604)], vr := [], lent := [] }) = Q0 k a1 z604 := (q0_eq k a1 z604).trans (by rfl)
noncomputable def s0 (k : Nat) (a1 : Arg) : ((List UInt8) × Int) → Option Out := fun v402 => iterK (codeK E k fin (sub [1, 1, 0, 1, 0, 0] C)) (keepF [0, 3, 4] []) (blockC 0 (seqC (codeK E k fin (sub [1, 1, 1] C)) K0)) k ({ n := 19, sl := [(0, .val u8 a1.1), (3, .own (.slc u8) (ownMd (.slc u8)) [] v402.1), (4, .val i64 v402.2)], vr := [], lent := [] })
noncomputable def r0 (k : Nat) (a1 : Arg) : ((List UInt8) × Int) → Option Out := fun v402 => l0 k a1 (fun z => Q0 k a1 z) v402
theorem s0_eq (k : Nat) (a1 : Arg) : s0 k a1 = r0 k a1 := by
  funext v402;
  have h0 : X0_0 ((blockC 0 (seqC (codeK E k fin (sub [1, 1, 1] C)) K0))) a1 = fun z => Q0 k a1 z := funext fun z => Q0_eq k a1 z
  refine (l0_eq k ((blockC 0 (seqC (codeK E k fin (sub [1, 1, 1] C)) K0))) a1 v402).trans ?_
  rw [h0]
  rfl
noncomputable def p (l0 : ((List UInt8) × Int) → Option Out) (a1 : Arg) : Option Out := if 0 ≤ (64 : Int) ∧ (64 : Int) ≤ (64 : Int) ∧ (64 : Int) ≤ (CAP : Int) then (l0 (List.replicate 64 (0 : UInt8), (0 : Int))) else none
noncomputable def raw (k : Nat) (a1 : Arg) : Option Out := p (r0 k a1) a1
theorem p_eq (k : Nat) (a1 : Arg) : bodyK E k Go.Proofs.Try.f247 ps rs [] [] a1 = p (s0 k a1) a1 := by kernel_rfl
theorem raw_eq (k : Nat) (a1 : Arg) : bodyK E k Go.Proofs.Try.f247 ps rs [] [] a1 = raw k a1 := (p_eq k a1).trans (by rw [s0_eq]; rfl)
theorem ent : EnterOk Go.Proofs.Try.prog 247 sig.cap := ⟨Go.Proofs.Try.f247, Go.Proofs.Try.func247, by kernel_rfl, by kernel_rfl, by kernel_rfl⟩
theorem env : EnvOk Go.Proofs.Try.prog E := env_ok (tl := [(5, u8), (39, (.slc u8))]) (gl := []) rfl rfl (by kernel_rfl) (by kernel_rfl) (fn_nil _)
theorem chk : funOk Go.Proofs.Try.prog E Go.Proofs.Try.f247 ps rs [] = true := by kernel_rfl
theorem snd : Sound Go.Proofs.Try.prog 247 sig := sound_of_body env Go.Proofs.Try.func247 rfl (es := []) (fr := []) chk (fun _ _ h => lift_some h)
end spec_l2New
namespace spec_l3Apply
/-! loop example g00408 spec l3Apply -/
abbrev Arg : Type := (List UInt8) × (List Run) × Unit
abbrev Out : Type := (List UInt8) × Unit
noncomputable def ps : List (PM × Ty) := [(.ro, (.slc u8)), (.ro, (.slc tRun))]
noncomputable def rs : List (Ty × Md) := [((.slc u8), (ownMd (.slc u8)))]
noncomputable def E : Env := { TI := lookN [(2, i64), (39, (.slc u8)), (59, (.slc tRun)), (236, tRun)], G := lookN [(245, spec_l2Copy.sig)], fz := [], lv := [(3, [1, 5, 6])], lx := [(0, [5])], lf := [], od := [(5, [0, 1, 2, 3, 4, 5, 6, 7, 8, 9, 10, 11, 12])] }
noncomputable def sem (a : Arg) : Option Out := lift fun k => bodyK E k Go.Proofs.Try.f248 ps rs [] [] a
noncomputable def sig : Sig := { ps := ps, rs := rs, F := fun a => sem a }
noncomputable def C : Code := bodyOf Go.Proofs.Try.f248
noncomputable def fin : St → Option Out := outK ps rs [] (Func.results Go.Proofs.Try.f248).toList (mvs [])
noncomputable def K0 : Ex → St → Option Out := endK fin
noncomputable def S0 (rec : St → Option Out) (a1 : Arg) : ((List UInt8) × Int) → Option Out := fun v403 => rec ({ n := 29, sl := [(1, .val (.slc tRun) a1.2.1), (5, .own (.slc u8) (ownMd (.slc u8)) [] v403.1), (6, .val i64 v403.2)], vr := [], lent := [] })
noncomputable def X0_0 (K : Ex → St → Option Out) (a1 : Arg) : (List UInt8) → Option Out := fun z => K (.exit 0) ({ n := 29, sl := [(5, .own (.slc u8) (ownMd (.slc u8)) [] z)], vr := [], lent := [] })
noncomputable def b0 (self : ((List UInt8) × Int) → Option Out) (e0 : (List UInt8) → Option Out) (a1 : Arg) (v403 : (List UInt8) × Int) : Option Out := bif decide (v403.2 < (a1.2.1.length : Int)) then (if 0 ≤ v403.2 then ((a1.2.1[v403.2.toNat]?).bind fun x604 => if 0 ≤ x604.1 ∧ x604.1 ≤ (v403.1.length : Int) then (if 0 ≤ v403.2 then ((a1.2.1[v403.2.toNat]?).bind fun x605 => let y606 := over v403.1 x604.1.toNat (min x605.2.1.length (v403.1.length - x604.1.toNat)) x605.2.1; self (y606, w64 (v403.2 + (1 : Int)))) else none) else none) else none) else e0 v403.1
noncomputable def B0 (k : Nat) (self : ((List UInt8) × Int) → Option Out) (e0 : (List UInt8) → Option Out) (a1 : Arg) (v403 : (List UInt8) × Int) : Option Out := b0 self e0 a1 v403
theorem b0_eq (k : Nat) (rec : St → Option Out) (K : Ex → St → Option Out) (a1 : Arg) (v403 : (List UInt8) × Int) : codeK E k fin (sub [1, 1, 0, 1, 0, 0] C) ({ n := 29, sl := [(1, .val (.slc tRun) a1.2.1), (5, .own (.slc u8) (ownMd (.slc u8)) [] v403.1), (6, .val i64 v403.2)], vr := [], lent := [] }) (loopC rec (keepF [1, 5, 6] []) K) = b0 (S0 rec a1) (X0_0 K a1) a1 v403 := by kernel_rfl
theorem B0_eq (k : Nat) (rec : St → Option Out) (K : Ex → St → Option Out) (a1 : Arg) (v403 : (List UInt8) × Int) : codeK E k fin (sub [1, 1, 0, 1, 0, 0] C) ({ n := 29, sl := [(1, .val (.slc tRun) a1.2.1), (5, .own (.slc u8) (ownMd (.slc u8)) [] v403.1), (6, .val i64 v403.2)], vr := [], lent := [] }) (loopC rec (keepF [1, 5, 6] []) K) = B0 k (S0 rec a1) (X0_0 K a1) a1 v403 := (b0_eq k rec K a1 v403).trans (by rfl)
noncomputable def l0 (k : Nat) (a1 : Arg) (e0 : (List UInt8) → Option Out) (v : (List UInt8) × Int) : Option Out := rawIter (fun self v => B0 k self e0 a1 v) k v
theorem l0_eq (k : Nat) (K : Ex → St → Option Out) (a1 : Arg) (v403 : (List UInt8) × Int) : iterK (codeK E k fin (sub [1, 1, 0, 1, 0, 0] C)) (keepF [1, 5, 6] []) K k ({ n := 29, sl := [(1, .val (.slc tRun) a1.2.1), (5, .own (.slc u8) (ownMd (.slc u8)) [] v403.1), (6, .val i64 v403.2)], vr := [], lent := [] }) = l0 k a1 (X0_0 K a1) v403 :=
  iter_raw _ _ K (fun v403 => ({ n := 29, sl := [(1, .val (.slc tRun) a1.2.1), (5, .own (.slc u8) (ownMd (.slc u8)) [] v403.1), (6, .val i64 v403.2)], vr := [], lent := [] } : St)) (fun self v => B0 k self (X0_0 K a1) a1 v) (fun rec v => B0_eq k rec K a1 v) k v403
noncomputable def q0 (a1 : Arg) (z607 : (List UInt8)) : Option Out := some (z607, ())
noncomputable def Q0 (k : Nat) (a1 : Arg) (z607 : (List UInt8)) : Option Out := q0 a1 z607
theorem q0_eq (k : Nat) (a1 : Arg) (z607 : (List UInt8)) : (blockC 0 (seqC (codeK E k fin (sub [1, 1, 1] C)) K0)) (.exit 0) ({ n := 29, sl := [(5, .own (.slc u8) (ownMd (.slc u8)) [] z607)], vr := [], lent := [] }) = q0 a1 z607 := by kernel_rfl
theorem Q0_eq (k : Nat) (a1 : Arg) (z607 : (List UInt8)) : (blockC 0 (seqC (codeK E k fin (sub [1, 1, 1] C)) K0)) (.exit 0) ({ n := 29, sl := [(5, .own (.slc u8) (ownMd (.slc u8)) [] z607)], vr := [], lent := [] }) = Q0 k a1 z607 := (q0_eq k a1 z607).trans (by rfl)
noncomputable def s0 (k : Nat) (a1 : Arg) : ((List UInt8) × Int) → Option Out := fun v403 => iterK (codeK E k fin (sub [1, 1, 0, 1, 0, 0] C)) (keepF [1, 5, 6] []) (blockC 0 (seqC (codeK E k fin (sub [1, 1, 1] C)) K0)) k ({ n := 29, sl := [(1, .val (.slc tRun) a1.2.1), (5, .own (.slc u8) (ownMd (.slc u8)) [] v403.1), (6, .val i64 v403.2)], vr := [], lent := [] })
noncomputable def r0 (k : Nat) (a1 : Arg) : ((List UInt8) × Int) → Option Out := fun v403 => l0 k a1 (fun z => Q0 k a1 z) v403
theorem s0_eq (k : Nat) (a1 : Arg) : s0 k a1 = r0 k a1 := by
  funext v403;
  have h0 : X0_0 ((blockC 0 (seqC (codeK E k fin (sub [1, 1, 1] C)) K0))) a1 = fun z => Q0 k a1 z := funext fun z => Q0_eq k a1 z
  refine (l0_eq k ((blockC 0 (seqC (codeK E k fin (sub [1, 1, 1] C)) K0))) a1 v403).trans ?_
  rw [h0]
  rfl
noncomputable def p (l0 : ((List UInt8) × Int) → Option Out) (a1 : Arg) : Option Out := (spec_l2Copy.sem (a1.1, ())).bind fun r2 => l0 (r2.1, (0 : Int))
noncomputable def raw (k : Nat) (a1 : Arg) : Option Out := p (r0 k a1) a1
theorem p_eq (k : Nat) (a1 : Arg) : bodyK E k Go.Proofs.Try.f248 ps rs [] [] a1 = p (s0 k a1) a1 := by kernel_rfl
theorem raw_eq (k : Nat) (a1 : Arg) : bodyK E k Go.Proofs.Try.f248 ps rs [] [] a1 = raw k a1 := (p_eq k a1).trans (by rw [s0_eq]; rfl)
theorem ent : EnterOk Go.Proofs.Try.prog 248 sig.cap := ⟨Go.Proofs.Try.f248, Go.Proofs.Try.func248, by kernel_rfl, by kernel_rfl, by kernel_rfl⟩
theorem env : EnvOk Go.Proofs.Try.prog E := env_ok (tl := [(2, i64), (39, (.slc u8)), (59, (.slc tRun)), (236, tRun)]) (gl := [(245, spec_l2Copy.sig)]) rfl rfl (by kernel_rfl) (by kernel_rfl) (fn_cons spec_l2Copy.snd spec_l2Copy.ent (fn_nil _))
theorem chk : funOk Go.Proofs.Try.prog E Go.Proofs.Try.f248 ps rs [] = true := by kernel_rfl
theorem snd : Sound Go.Proofs.Try.prog 248 sig := sound_of_body env Go.Proofs.Try.func248 rfl (es := []) (fr := []) chk (fun _ _ h => lift_some h)
end spec_l3Apply
namespace spec_ApplyRecord
/-! loop example g00408 spec ApplyRecord -/
abbrev Arg : Type := (List (List UInt8)) × Record × Unit
abbrev Out : Type := EditsResult × Unit
noncomputable def ps : List (PM × Ty) := [(.ro, (.slc (.slc u8))), (.ro, tRecord)]
noncomputable def rs : List (Ty × Md) := [(tEditsResult, (ownMd tEditsResult))]
noncomputable def E : Env := { TI := lookN [(2, i64), (38, (.slc (.slc u8))), (39, (.slc u8)), (59, (.slc tRun)), (61, tRecord), (74, tEditsResult)], G := lookN [(101, spec_l4Fault.sig), (115, spec_l7Bad.sig), (183, spec_l4Runs.sig), (246, spec_l7Copy.sig), (247, spec_l2New.sig), (248, spec_l3Apply.sig)], fz := [], lv := [(4, [0, 3, 4, 5])], lx := [(0, [0, 3, 4])], lf := [], od := [(20, [0, 1, 2, 3, 4, 5, 6]), (21, [0, 1, 2, 3, 4, 5, 6, 7, 8, 9, 10, 11, 12, 13, 14])] }
noncomputable def sem (a : Arg) : Option Out := lift fun k => bodyK E k Go.Proofs.Try.f194 ps rs [] [] a
noncomputable def sig : Sig := { ps := ps, rs := rs, F := fun a => sem a }
noncomputable def C : Code := bodyOf Go.Proofs.Try.f194
noncomputable def fin : St → Option Out := outK ps rs [] (Func.results Go.Proofs.Try.f194).toList (mvs [])
noncomputable def K0 : Ex → St → Option Out := endK fin
noncomputable def S0 (rec : St → Option Out) (a1 : Arg) : (Int) → Option Out := fun v403 => rec ({ n := 75, sl := [(0, .val (.slc (.slc u8)) a1.1), (3, .box tRecord (roMd tRecord) [] a1.2.1), (4, .box tEditsResult (ownMd tEditsResult) [] ((0 : Int), ([] : List Run), ([] : List (List UInt8)), ())), (5, .val i64 v403)], vr := [], lent := [] })
noncomputable def X0_0 (K : Ex → St → Option Out) (a1 : Arg) : (Unit) → Option Out := fun z => K (.exit 0) ({ n := 75, sl := [(0, .val (.slc (.slc u8)) a1.1), (3, .box tRecord (roMd tRecord) [] a1.2.1), (4, .box tEditsResult (ownMd tEditsResult) [] ((0 : Int), ([] : List Run), ([] : List (List UInt8)), ()))], vr := [], lent := [] })
noncomputable def b0 (self : Int → Option Out) (e0 : (Unit) → Option Out) (a1 : Arg) (v403 : Int) : Option Out := bif decide (v403 < (a1.1.length : Int)) then (if 0 ≤ v403 then ((a1.1[v403.toNat]?).bind fun x604 => bif !decide ((x604.length : Int) = (64 : Int)) then ((spec_l7Bad.sem ((1 : Int), ())).bind fun r605 => some (r605.1, ())) else self (w64 (v403 + (1 : Int)))) else none) else e0 ()
noncomputable def B0 (k : Nat) (self : Int → Option Out) (e0 : (Unit) → Option Out) (a1 : Arg) (v403 : Int) : Option Out := b0 self e0 a1 v403
theorem b0_eq (k : Nat) (rec : St → Option Out) (K : Ex → St → Option Out) (a1 : Arg) (v403 : Int) : codeK E k fin (sub [1, 1, 0, 1, 0, 0] C) ({ n := 75, sl := [(0, .val (.slc (.slc u8)) a1.1), (3, .box tRecord (roMd tRecord) [] a1.2.1), (4, .box tEditsResult (ownMd tEditsResult) [] ((0 : Int), ([] : List Run), ([] : List (List UInt8)), ())), (5, .val i64 v403)], vr := [], lent := [] }) (loopC rec (keepF [0, 3, 4, 5] []) K) = b0 (S0 rec a1) (X0_0 K a1) a1 v403 := by kernel_rfl
theorem B0_eq (k : Nat) (rec : St → Option Out) (K : Ex → St → Option Out) (a1 : Arg) (v403 : Int) : codeK E k fin (sub [1, 1, 0, 1, 0, 0] C) ({ n := 75, sl := [(0, .val (.slc (.slc u8)) a1.1), (3, .box tRecord (roMd tRecord) [] a1.2.1), (4, .box tEditsResult (ownMd tEditsResult) [] ((0 : Int), ([] : List Run), ([] : List (List UInt8)), ())), (5, .val i64 v403)], vr := [], lent := [] }) (loopC rec (keepF [0, 3, 4, 5] []) K) = B0 k (S0 rec a1) (X0_0 K a1) a1 v403 := (b0_eq k rec K a1 v403).trans (by rfl)
noncomputable def l0 (k : Nat) (a1 : Arg) (e0 : (Unit) → Option Out) (v : Int) : Option Out := rawIter (fun self v => B0 k self e0 a1 v) k v
theorem l0_eq (k : Nat) (K : Ex → St → Option Out) (a1 : Arg) (v403 : Int) : iterK (codeK E k fin (sub [1, 1, 0, 1, 0, 0] C)) (keepF [0, 3, 4, 5] []) K k ({ n := 75, sl := [(0, .val (.slc (.slc u8)) a1.1), (3, .box tRecord (roMd tRecord) [] a1.2.1), (4, .box tEditsResult (ownMd tEditsResult) [] ((0 : Int), ([] : List Run), ([] : List (List UInt8)), ())), (5, .val i64 v403)], vr := [], lent := [] }) = l0 k a1 (X0_0 K a1) v403 :=
  iter_raw _ _ K (fun v403 => ({ n := 75, sl := [(0, .val (.slc (.slc u8)) a1.1), (3, .box tRecord (roMd tRecord) [] a1.2.1), (4, .box tEditsResult (ownMd tEditsResult) [] ((0 : Int), ([] : List Run), ([] : List (List UInt8)), ())), (5, .val i64 v403)], vr := [], lent := [] } : St)) (fun self v => B0 k self (X0_0 K a1) a1 v) (fun rec v => B0_eq k rec K a1 v) k v403
noncomputable def q0 (a1 : Arg) (z606 : (Unit)) : Option Out := (spec_l4Fault.sem (a1.2.1, ())).bind fun r607 => bif !decide (r607.1 = (0 : Int)) then ((spec_l7Bad.sem (r607.1, ())).bind fun r608 => some (r608.1, ())) else (spec_l7Copy.sem (a1.1, ())).bind fun r609 => (spec_l4Runs.sem (a1.2.1.1, ())).bind fun r610 => bif !r610.1 then (some (((0 : Int), ([] : List Run), r609.1, ()), ())) else bif decide ((a1.1.length : Int) < a1.2.1.2.2.1) then ((spec_l7Bad.sem ((1 : Int), ())).bind fun r611 => some (r611.1, ())) else bif decide (a1.2.1.2.2.1 = (12 : Int)) then ((spec_l7Bad.sem ((2 : Int), ())).bind fun r612 => some (r612.1, ())) else let j620 := fun (p619 : EditsResult) => (if 0 ≤ a1.2.1.2.2.1 ∧ a1.2.1.2.2.1 < (p619.2.2.1.length : Int) then ((p619.2.2.1[a1.2.1.2.2.1.toNat]?).bind fun x621 => (p619.2.2.1[a1.2.1.2.2.1.toNat]?).bind fun x622 => (spec_l3Apply.sem (x622, a1.2.1.2.2.2.1, ())).bind fun r623 => if 0 ≤ a1.2.1.2.2.1 ∧ a1.2.1.2.2.1 < (p619.2.2.1.length : Int) then ((p619.2.2.1[a1.2.1.2.2.1.toNat]?).bind fun x624 => some ((p619.1, p619.2.1, p619.2.2.1.set a1.2.1.2.2.1.toNat r623.1, p619.2.2.2), ())) else none) else none : Option Out); bif decide (a1.2.1.2.2.1 = (a1.1.length : Int)) then ((spec_l2New.sem ((0 : UInt8), ())).bind fun r613 => if r609.1.length + [r613.1].length ≤ CAP then (j620 ((0 : Int), ([] : List Run), r609.1 ++ [r613.1], ())) else none) else j620 ((0 : Int), ([] : List Run), r609.1, ())
noncomputable def Q0 (k : Nat) (a1 : Arg) (z606 : (Unit)) : Option Out := q0 a1 z606
theorem q0_eq (k : Nat) (a1 : Arg) (z606 : (Unit)) : (blockC 0 (seqC (codeK E k fin (sub [1, 1, 1] C)) K0)) (.exit 0) ({ n := 75, sl := [(0, .val (.slc (.slc u8)) a1.1), (3, .box tRecord (roMd tRecord) [] a1.2.1), (4, .box tEditsResult (ownMd tEditsResult) [] ((0 : Int), ([] : List Run), ([] : List (List UInt8)), ()))], vr := [], lent := [] }) = q0 a1 z606 := by kernel_rfl
theorem Q0_eq (k : Nat) (a1 : Arg) (z606 : (Unit)) : (blockC 0 (seqC (codeK E k fin (sub [1, 1, 1] C)) K0)) (.exit 0) ({ n := 75, sl := [(0, .val (.slc (.slc u8)) a1.1), (3, .box tRecord (roMd tRecord) [] a1.2.1), (4, .box tEditsResult (ownMd tEditsResult) [] ((0 : Int), ([] : List Run), ([] : List (List UInt8)), ()))], vr := [], lent := [] }) = Q0 k a1 z606 := (q0_eq k a1 z606).trans (by rfl)
noncomputable def s0 (k : Nat) (a1 : Arg) : (Int) → Option Out := fun v403 => iterK (codeK E k fin (sub [1, 1, 0, 1, 0, 0] C)) (keepF [0, 3, 4, 5] []) (blockC 0 (seqC (codeK E k fin (sub [1, 1, 1] C)) K0)) k ({ n := 75, sl := [(0, .val (.slc (.slc u8)) a1.1), (3, .box tRecord (roMd tRecord) [] a1.2.1), (4, .box tEditsResult (ownMd tEditsResult) [] ((0 : Int), ([] : List Run), ([] : List (List UInt8)), ())), (5, .val i64 v403)], vr := [], lent := [] })
noncomputable def r0 (k : Nat) (a1 : Arg) : (Int) → Option Out := fun v403 => l0 k a1 (fun z => Q0 k a1 z) v403
theorem s0_eq (k : Nat) (a1 : Arg) : s0 k a1 = r0 k a1 := by
  funext v403;
  have h0 : X0_0 ((blockC 0 (seqC (codeK E k fin (sub [1, 1, 1] C)) K0))) a1 = fun z => Q0 k a1 z := funext fun z => Q0_eq k a1 z
  refine (l0_eq k ((blockC 0 (seqC (codeK E k fin (sub [1, 1, 1] C)) K0))) a1 v403).trans ?_
  rw [h0]
  rfl
noncomputable def p (l0 : (Int) → Option Out) (a1 : Arg) : Option Out := bif decide ((12 : Int) < (a1.1.length : Int)) then ((spec_l7Bad.sem ((2 : Int), ())).bind fun r2 => some (r2.1, ())) else l0 (0 : Int)
noncomputable def raw (k : Nat) (a1 : Arg) : Option Out := p (r0 k a1) a1
theorem p_eq (k : Nat) (a1 : Arg) : bodyK E k Go.Proofs.Try.f194 ps rs [] [] a1 = p (s0 k a1) a1 := by kernel_rfl
theorem raw_eq (k : Nat) (a1 : Arg) : bodyK E k Go.Proofs.Try.f194 ps rs [] [] a1 = raw k a1 := (p_eq k a1).trans (by rw [s0_eq]; rfl)
theorem ent : EnterOk Go.Proofs.Try.prog 194 sig.cap := ⟨Go.Proofs.Try.f194, Go.Proofs.Try.func194, by kernel_rfl, by kernel_rfl, by kernel_rfl⟩
theorem env : EnvOk Go.Proofs.Try.prog E := env_ok (tl := [(2, i64), (38, (.slc (.slc u8))), (39, (.slc u8)), (59, (.slc tRun)), (61, tRecord), (74, tEditsResult)]) (gl := [(101, spec_l4Fault.sig), (115, spec_l7Bad.sig), (183, spec_l4Runs.sig), (246, spec_l7Copy.sig), (247, spec_l2New.sig), (248, spec_l3Apply.sig)]) rfl rfl (by kernel_rfl) (by kernel_rfl) (fn_cons spec_l4Fault.snd spec_l4Fault.ent (fn_cons spec_l7Bad.snd spec_l7Bad.ent (fn_cons spec_l4Runs.snd spec_l4Runs.ent (fn_cons spec_l7Copy.snd spec_l7Copy.ent (fn_cons spec_l2New.snd spec_l2New.ent (fn_cons spec_l3Apply.snd spec_l3Apply.ent (fn_nil _)))))))
theorem chk : funOk Go.Proofs.Try.prog E Go.Proofs.Try.f194 ps rs [] = true := by kernel_rfl
theorem snd : Sound Go.Proofs.Try.prog 194 sig := sound_of_body env Go.Proofs.Try.func194 rfl (es := []) (fr := []) chk (fun _ _ h => lift_some h)
end spec_ApplyRecord
namespace spec_l12Redo
/-! loop example g00408 spec l12Redo -/
abbrev Arg : Type := (List Record) × Unit
abbrev Out : Type := (List (List UInt8)) × Int × Unit
noncomputable def ps : List (PM × Ty) := [(.ro, (.slc tRecord))]
noncomputable def rs : List (Ty × Md) := [((.slc (.slc u8)), (ownMd (.slc (.slc u8)))), (i64, (roMd i64))]
noncomputable def E : Env := { TI := lookN [(2, i64), (38, (.slc (.slc u8))), (61, tRecord), (74, tEditsResult), (76, (.slc tRecord))], G := lookN [(194, spec_ApplyRecord.sig)], fz := [], lv := [(3, [0, 4, 5])], lx := [(0, [4])], lf := [], od := [(7, [0, 1, 2, 3])] }
noncomputable def sem (a : Arg) : Option Out := lift fun k => bodyK E k Go.Proofs.Try.f114 ps rs [] [] a
noncomputable def sig : Sig := { ps := ps, rs := rs, F := fun a => sem a }
noncomputable def C : Code := bodyOf Go.Proofs.Try.f114
noncomputable def fin : St → Option Out := outK ps rs [] (Func.results Go.Proofs.Try.f114).toList (mvs [])
noncomputable def K0 : Ex → St → Option Out := endK fin
noncomputable def S0 (rec : St → Option Out) (a1 : Arg) : ((List (List UInt8)) × Int) → Option Out := fun v402 => rec ({ n := 28, sl := [(0, .val (.slc tRecord) a1.1), (4, .own (.slc (.slc u8)) (ownMd (.slc (.slc u8))) [] v402.1), (5, .val i64 v402.2)], vr := [], lent := [] })
noncomputable def X0_0 (K : Ex → St → Option Out) (a1 : Arg) : (List (List UInt8)) → Option Out := fun z => K (.exit 0) ({ n := 28, sl := [(4, .own (.slc (.slc u8)) (ownMd (.slc (.slc u8))) [] z)], vr := [], lent := [] })
noncomputable def b0 (self : ((List (List UInt8)) × Int) → Option Out) (e0 : (List (List UInt8)) → Option Out) (a1 : Arg) (v402 : (List (List UInt8)) × Int) : Option Out := bif decide (v402.2 < (a1.1.length : Int)) then (if 0 ≤ v402.2 then ((a1.1[v402.2.toNat]?).bind fun x603 => (spec_ApplyRecord.sem (v402.1, x603, ())).bind fun r604 => bif !decide (r604.1.1 = (0 : Int)) then (some (([] : List (List UInt8)), r604.1.1, ())) else self (r604.1.2.2.1, w64 (v402.2 + (1 : Int)))) else none) else e0 v402.1
noncomputable def B0 (k : Nat) (self : ((List (List UInt8)) × Int) → Option Out) (e0 : (List (List UInt8)) → Option Out) (a1 : Arg) (v402 : (List (List UInt8)) × Int) : Option Out := b0 self e0 a1 v402
theorem b0_eq (k : Nat) (rec : St → Option Out) (K : Ex → St → Option Out) (a1 : Arg) (v402 : (List (List UInt8)) × Int) : codeK E k fin (sub [1, 1, 0, 1, 0, 0] C) ({ n := 28, sl := [(0, .val (.slc tRecord) a1.1), (4, .own (.slc (.slc u8)) (ownMd (.slc (.slc u8))) [] v402.1), (5, .val i64 v402.2)], vr := [], lent := [] }) (loopC rec (keepF [0, 4, 5] []) K) = b0 (S0 rec a1) (X0_0 K a1) a1 v402 := by kernel_rfl
theorem B0_eq (k : Nat) (rec : St → Option Out) (K : Ex → St → Option Out) (a1 : Arg) (v402 : (List (List UInt8)) × Int) : codeK E k fin (sub [1, 1, 0, 1, 0, 0] C) ({ n := 28, sl := [(0, .val (.slc tRecord) a1.1), (4, .own (.slc (.slc u8)) (ownMd (.slc (.slc u8))) [] v402.1), (5, .val i64 v402.2)], vr := [], lent := [] }) (loopC rec (keepF [0, 4, 5] []) K) = B0 k (S0 rec a1) (X0_0 K a1) a1 v402 := (b0_eq k rec K a1 v402).trans (by rfl)
noncomputable def l0 (k : Nat) (a1 : Arg) (e0 : (List (List UInt8)) → Option Out) (v : (List (List UInt8)) × Int) : Option Out := rawIter (fun self v => B0 k self e0 a1 v) k v
theorem l0_eq (k : Nat) (K : Ex → St → Option Out) (a1 : Arg) (v402 : (List (List UInt8)) × Int) : iterK (codeK E k fin (sub [1, 1, 0, 1, 0, 0] C)) (keepF [0, 4, 5] []) K k ({ n := 28, sl := [(0, .val (.slc tRecord) a1.1), (4, .own (.slc (.slc u8)) (ownMd (.slc (.slc u8))) [] v402.1), (5, .val i64 v402.2)], vr := [], lent := [] }) = l0 k a1 (X0_0 K a1) v402 :=
  iter_raw _ _ K (fun v402 => ({ n := 28, sl := [(0, .val (.slc tRecord) a1.1), (4, .own (.slc (.slc u8)) (ownMd (.slc (.slc u8))) [] v402.1), (5, .val i64 v402.2)], vr := [], lent := [] } : St)) (fun self v => B0 k self (X0_0 K a1) a1 v) (fun rec v => B0_eq k rec K a1 v) k v402
noncomputable def q0 (a1 : Arg) (z605 : (List (List UInt8))) : Option Out := some (z605, (0 : Int), ())
noncomputable def Q0 (k : Nat) (a1 : Arg) (z605 : (List (List UInt8))) : Option Out := q0 a1 z605
theorem q0_eq (k : Nat) (a1 : Arg) (z605 : (List (List UInt8))) : (blockC 0 (seqC (codeK E k fin (sub [1, 1, 1] C)) K0)) (.exit 0) ({ n := 28, sl := [(4, .own (.slc (.slc u8)) (ownMd (.slc (.slc u8))) [] z605)], vr := [], lent := [] }) = q0 a1 z605 := by kernel_rfl
theorem Q0_eq (k : Nat) (a1 : Arg) (z605 : (List (List UInt8))) : (blockC 0 (seqC (codeK E k fin (sub [1, 1, 1] C)) K0)) (.exit 0) ({ n := 28, sl := [(4, .own (.slc (.slc u8)) (ownMd (.slc (.slc u8))) [] z605)], vr := [], lent := [] }) = Q0 k a1 z605 := (q0_eq k a1 z605).trans (by rfl)
noncomputable def s0 (k : Nat) (a1 : Arg) : ((List (List UInt8)) × Int) → Option Out := fun v402 => iterK (codeK E k fin (sub [1, 1, 0, 1, 0, 0] C)) (keepF [0, 4, 5] []) (blockC 0 (seqC (codeK E k fin (sub [1, 1, 1] C)) K0)) k ({ n := 28, sl := [(0, .val (.slc tRecord) a1.1), (4, .own (.slc (.slc u8)) (ownMd (.slc (.slc u8))) [] v402.1), (5, .val i64 v402.2)], vr := [], lent := [] })
noncomputable def r0 (k : Nat) (a1 : Arg) : ((List (List UInt8)) × Int) → Option Out := fun v402 => l0 k a1 (fun z => Q0 k a1 z) v402
theorem s0_eq (k : Nat) (a1 : Arg) : s0 k a1 = r0 k a1 := by
  funext v402;
  have h0 : X0_0 ((blockC 0 (seqC (codeK E k fin (sub [1, 1, 1] C)) K0))) a1 = fun z => Q0 k a1 z := funext fun z => Q0_eq k a1 z
  refine (l0_eq k ((blockC 0 (seqC (codeK E k fin (sub [1, 1, 1] C)) K0))) a1 v402).trans ?_
  rw [h0]
  rfl
noncomputable def p (l0 : ((List (List UInt8)) × Int) → Option Out) (a1 : Arg) : Option Out := l0 (([] : List (List UInt8)), (0 : Int))
noncomputable def raw (k : Nat) (a1 : Arg) : Option Out := p (r0 k a1) a1
theorem p_eq (k : Nat) (a1 : Arg) : bodyK E k Go.Proofs.Try.f114 ps rs [] [] a1 = p (s0 k a1) a1 := by kernel_rfl
theorem raw_eq (k : Nat) (a1 : Arg) : bodyK E k Go.Proofs.Try.f114 ps rs [] [] a1 = raw k a1 := (p_eq k a1).trans (by rw [s0_eq]; rfl)
theorem ent : EnterOk Go.Proofs.Try.prog 114 sig.cap := ⟨Go.Proofs.Try.f114, Go.Proofs.Try.func114, by kernel_rfl, by kernel_rfl, by kernel_rfl⟩
theorem env : EnvOk Go.Proofs.Try.prog E := env_ok (tl := [(2, i64), (38, (.slc (.slc u8))), (61, tRecord), (74, tEditsResult), (76, (.slc tRecord))]) (gl := [(194, spec_ApplyRecord.sig)]) rfl rfl (by kernel_rfl) (by kernel_rfl) (fn_cons spec_ApplyRecord.snd spec_ApplyRecord.ent (fn_nil _))
theorem chk : funOk Go.Proofs.Try.prog E Go.Proofs.Try.f114 ps rs [] = true := by kernel_rfl
theorem snd : Sound Go.Proofs.Try.prog 114 sig := sound_of_body env Go.Proofs.Try.func114 rfl (es := []) (fr := []) chk (fun _ _ h => lift_some h)
end spec_l12Redo
namespace spec_RedoAll
/-! loop example g00408 spec RedoAll -/
abbrev Arg : Type := (List Record) × Unit
abbrev Out : Type := EditsResult × Unit
noncomputable def ps : List (PM × Ty) := [(.ro, (.slc tRecord))]
noncomputable def rs : List (Ty × Md) := [(tEditsResult, (ownMd tEditsResult))]
noncomputable def E : Env := { TI := lookN [(74, tEditsResult)], G := lookN [(114, spec_l12Redo.sig), (115, spec_l7Bad.sig)], fz := [], lv := [], lx := [], lf := [], od := [] }
noncomputable def sem (a : Arg) : Option Out := lift fun k => bodyK E k Go.Proofs.Try.f41 ps rs [] [] a
noncomputable def sig : Sig := { ps := ps, rs := rs, F := fun a => sem a }
noncomputable def C : Code := bodyOf Go.Proofs.Try.f41
noncomputable def fin : St → Option Out := outK ps rs [] (Func.results Go.Proofs.Try.f41).toList (mvs [])
noncomputable def K0 : Ex → St → Option Out := endK fin
noncomputable def p (a1 : Arg) : Option Out := (spec_l12Redo.sem (a1.1, ())).bind fun r2 => bif !decide (r2.2.1 = (0 : Int)) then ((spec_l7Bad.sem (r2.2.1, ())).bind fun r3 => some (r3.1, ())) else some (((0 : Int), ([] : List Run), r2.1, ()), ())
noncomputable def raw (k : Nat) (a1 : Arg) : Option Out := p a1
theorem p_eq (k : Nat) (a1 : Arg) : bodyK E k Go.Proofs.Try.f41 ps rs [] [] a1 = p a1 := by kernel_rfl
theorem raw_eq (k : Nat) (a1 : Arg) : bodyK E k Go.Proofs.Try.f41 ps rs [] [] a1 = raw k a1 := (p_eq k a1).trans (by rfl)
theorem ent : EnterOk Go.Proofs.Try.prog 41 sig.cap := ⟨Go.Proofs.Try.f41, Go.Proofs.Try.func41, by kernel_rfl, by kernel_rfl, by kernel_rfl⟩
theorem env : EnvOk Go.Proofs.Try.prog E := env_ok (tl := [(74, tEditsResult)]) (gl := [(114, spec_l12Redo.sig), (115, spec_l7Bad.sig)]) rfl rfl (by kernel_rfl) (by kernel_rfl) (fn_cons spec_l12Redo.snd spec_l12Redo.ent (fn_cons spec_l7Bad.snd spec_l7Bad.ent (fn_nil _)))
theorem chk : funOk Go.Proofs.Try.prog E Go.Proofs.Try.f41 ps rs [] = true := by kernel_rfl
theorem snd : Sound Go.Proofs.Try.prog 41 sig := sound_of_body env Go.Proofs.Try.func41 rfl (es := []) (fr := []) chk (fun _ _ h => lift_some h)
end spec_RedoAll
namespace laws_toRecordS
/-! loop example g00408 laws toRecordS -/
abbrev Arg : Type := (List Record) × Unit
abbrev Out : Type := (List Record) × Unit
noncomputable def ps : List (PM × Ty) := [(.ro, (.slc tRecord))]
noncomputable def rs : List (Ty × Md) := [((.slc tRecord), (ownMd (.slc tRecord)))]
noncomputable def E : Env := { TI := lookN [(52, tRecord), (61, tRecord), (70, (.slc tRecord)), (76, (.slc tRecord))], G := lookN [(31, laws_toRecord.sig)], fz := [], lv := [(3, [0, 3, 4])], lx := [(0, [3])], lf := [], od := [] }
noncomputable def sem (a : Arg) : Option Out := lift fun k => bodyK E k Go.Proofs.Try.f42 ps rs [] [] a
noncomputable def sig : Sig := { ps := ps, rs := rs, F := fun a => sem a }
noncomputable def C : Code := bodyOf Go.Proofs.Try.f42
noncomputable def fin : St → Option Out := outK ps rs [] (Func.results Go.Proofs.Try.f42).toList (mvs [])
noncomputable def K0 : Ex → St → Option Out := endK fin
noncomputable def S0 (rec : St → Option Out) (a1 : Arg) : ((List Record) × Int) → Option Out := fun v402 => rec ({ n := 23, sl := [(0, .val (.slc tRecord) a1.1), (3, .own (.slc tRecord) (ownMd (.slc tRecord)) [] v402.1), (4, .val i64 v402.2)], vr := [], lent := [] })
noncomputable def X0_0 (K : Ex → St → Option Out) (a1 : Arg) : (List Record) → Option Out := fun z => K (.exit 0) ({ n := 23, sl := [(3, .own (.slc tRecord) (ownMd (.slc tRecord)) [] z)], vr := [], lent := [] })
noncomputable def b0 (self : ((List Record) × Int) → Option Out) (e0 : (List Record) → Option Out) (a1 : Arg) (v402 : (List Record) × Int) : Option Out := bif decide (v402.2 < (a1.1.length : Int)) then (if 0 ≤ v402.2 then ((a1.1[v402.2.toNat]?).bind fun x603 => (laws_toRecord.sem (x603, ())).bind fun r604 => if 0 ≤ v402.2 ∧ v402.2 < (v402.1.length : Int) then ((v402.1[v402.2.toNat]?).bind fun x605 => self (v402.1.set v402.2.toNat r604.1, w64 (v402.2 + (1 : Int)))) else none) else none) else e0 v402.1
noncomputable def B0 (k : Nat) (self : ((List Record) × Int) → Option Out) (e0 : (List Record) → Option Out) (a1 : Arg) (v402 : (List Record) × Int) : Option Out := b0 self e0 a1 v402
theorem b0_eq (k : Nat) (rec : St → Option Out) (K : Ex → St → Option Out) (a1 : Arg) (v402 : (List Record) × Int) : codeK E k fin (sub [1, 1, 0, 1, 0, 0] C) ({ n := 23, sl := [(0, .val (.slc tRecord) a1.1), (3, .own (.slc tRecord) (ownMd (.slc tRecord)) [] v402.1), (4, .val i64 v402.2)], vr := [], lent := [] }) (loopC rec (keepF [0, 3, 4] []) K) = b0 (S0 rec a1) (X0_0 K a1) a1 v402 := by kernel_rfl
theorem B0_eq (k : Nat) (rec : St → Option Out) (K : Ex → St → Option Out) (a1 : Arg) (v402 : (List Record) × Int) : codeK E k fin (sub [1, 1, 0, 1, 0, 0] C) ({ n := 23, sl := [(0, .val (.slc tRecord) a1.1), (3, .own (.slc tRecord) (ownMd (.slc tRecord)) [] v402.1), (4, .val i64 v402.2)], vr := [], lent := [] }) (loopC rec (keepF [0, 3, 4] []) K) = B0 k (S0 rec a1) (X0_0 K a1) a1 v402 := (b0_eq k rec K a1 v402).trans (by rfl)
noncomputable def l0 (k : Nat) (a1 : Arg) (e0 : (List Record) → Option Out) (v : (List Record) × Int) : Option Out := rawIter (fun self v => B0 k self e0 a1 v) k v
theorem l0_eq (k : Nat) (K : Ex → St → Option Out) (a1 : Arg) (v402 : (List Record) × Int) : iterK (codeK E k fin (sub [1, 1, 0, 1, 0, 0] C)) (keepF [0, 3, 4] []) K k ({ n := 23, sl := [(0, .val (.slc tRecord) a1.1), (3, .own (.slc tRecord) (ownMd (.slc tRecord)) [] v402.1), (4, .val i64 v402.2)], vr := [], lent := [] }) = l0 k a1 (X0_0 K a1) v402 :=
  iter_raw _ _ K (fun v402 => ({ n := 23, sl := [(0, .val (.slc tRecord) a1.1), (3, .own (.slc tRecord) (ownMd (.slc tRecord)) [] v402.1), (4, .val i64 v402.2)], vr := [], lent := [] } : St)) (fun self v => B0 k self (X0_0 K a1) a1 v) (fun rec v => B0_eq k rec K a1 v) k v402
noncomputable def q0 (a1 : Arg) (z606 : (List Record)) : Option Out := some (z606, ())
noncomputable def Q0 (k : Nat) (a1 : Arg) (z606 : (List Record)) : Option Out := q0 a1 z606
theorem q0_eq (k : Nat) (a1 : Arg) (z606 : (List Record)) : (blockC 0 (seqC (codeK E k fin (sub [1, 1, 1] C)) K0)) (.exit 0) ({ n := 23, sl := [(3, .own (.slc tRecord) (ownMd (.slc tRecord)) [] z606)], vr := [], lent := [] }) = q0 a1 z606 := by kernel_rfl
theorem Q0_eq (k : Nat) (a1 : Arg) (z606 : (List Record)) : (blockC 0 (seqC (codeK E k fin (sub [1, 1, 1] C)) K0)) (.exit 0) ({ n := 23, sl := [(3, .own (.slc tRecord) (ownMd (.slc tRecord)) [] z606)], vr := [], lent := [] }) = Q0 k a1 z606 := (q0_eq k a1 z606).trans (by rfl)
noncomputable def s0 (k : Nat) (a1 : Arg) : ((List Record) × Int) → Option Out := fun v402 => iterK (codeK E k fin (sub [1, 1, 0, 1, 0, 0] C)) (keepF [0, 3, 4] []) (blockC 0 (seqC (codeK E k fin (sub [1, 1, 1] C)) K0)) k ({ n := 23, sl := [(0, .val (.slc tRecord) a1.1), (3, .own (.slc tRecord) (ownMd (.slc tRecord)) [] v402.1), (4, .val i64 v402.2)], vr := [], lent := [] })
noncomputable def r0 (k : Nat) (a1 : Arg) : ((List Record) × Int) → Option Out := fun v402 => l0 k a1 (fun z => Q0 k a1 z) v402
theorem s0_eq (k : Nat) (a1 : Arg) : s0 k a1 = r0 k a1 := by
  funext v402;
  have h0 : X0_0 ((blockC 0 (seqC (codeK E k fin (sub [1, 1, 1] C)) K0))) a1 = fun z => Q0 k a1 z := funext fun z => Q0_eq k a1 z
  refine (l0_eq k ((blockC 0 (seqC (codeK E k fin (sub [1, 1, 1] C)) K0))) a1 v402).trans ?_
  rw [h0]
  rfl
noncomputable def p (l0 : ((List Record) × Int) → Option Out) (a1 : Arg) : Option Out := if 0 ≤ (a1.1.length : Int) ∧ (a1.1.length : Int) ≤ (a1.1.length : Int) ∧ (a1.1.length : Int) ≤ (CAP : Int) then (l0 (List.replicate (a1.1.length : Int).toNat ((0 : Int), (0 : Int), (0 : Int), ([] : List Run), ()), (0 : Int))) else none
noncomputable def raw (k : Nat) (a1 : Arg) : Option Out := p (r0 k a1) a1
theorem p_eq (k : Nat) (a1 : Arg) : bodyK E k Go.Proofs.Try.f42 ps rs [] [] a1 = p (s0 k a1) a1 := by kernel_rfl
theorem raw_eq (k : Nat) (a1 : Arg) : bodyK E k Go.Proofs.Try.f42 ps rs [] [] a1 = raw k a1 := (p_eq k a1).trans (by rw [s0_eq]; rfl)
theorem ent : EnterOk Go.Proofs.Try.prog 42 sig.cap := ⟨Go.Proofs.Try.f42, Go.Proofs.Try.func42, by kernel_rfl, by kernel_rfl, by kernel_rfl⟩
theorem env : EnvOk Go.Proofs.Try.prog E := env_ok (tl := [(52, tRecord), (61, tRecord), (70, (.slc tRecord)), (76, (.slc tRecord))]) (gl := [(31, laws_toRecord.sig)]) rfl rfl (by kernel_rfl) (by kernel_rfl) (fn_cons laws_toRecord.snd laws_toRecord.ent (fn_nil _))
theorem chk : funOk Go.Proofs.Try.prog E Go.Proofs.Try.f42 ps rs [] = true := by kernel_rfl
theorem snd : Sound Go.Proofs.Try.prog 42 sig := sound_of_body env Go.Proofs.Try.func42 rfl (es := []) (fr := []) chk (fun _ _ h => lift_some h)
end laws_toRecordS
namespace slices_Clone_bytes
/-! slices Clone     byte   byte  -/
abbrev Arg : Type := (List (List UInt8)) × Unit
abbrev Out : Type := (List (List UInt8)) × Unit
noncomputable def ps : List (PM × Ty) := [(.ro, (.slc (.slc u8)))]
noncomputable def rs : List (Ty × Md) := [((.slc (.slc u8)), (.slc true (roMd (.slc u8))))]
noncomputable def E : Env := { TI := lookN [(38, (.slc (.slc u8)))], G := lookN [], fz := [], lv := [], lx := [], lf := [], od := [] }
noncomputable def sem (a : Arg) : Option Out := lift fun k => bodyK E k Go.Proofs.Try.f249 ps rs [] [] a
noncomputable def sig : Sig := { ps := ps, rs := rs, F := fun a => sem a }
noncomputable def C : Code := bodyOf Go.Proofs.Try.f249
noncomputable def fin : St → Option Out := outK ps rs [] (Func.results Go.Proofs.Try.f249).toList (mvs [])
noncomputable def K0 : Ex → St → Option Out := endK fin
noncomputable def p (a1 : Arg) : Option Out := nilB a1.1 (some (([] : List (List UInt8)), ())) (if ([] : List (List UInt8)).length + a1.1.length ≤ CAP then (some (([] : List (List UInt8)) ++ a1.1, ())) else none)
noncomputable def raw (k : Nat) (a1 : Arg) : Option Out := p a1
theorem p_eq (k : Nat) (a1 : Arg) : bodyK E k Go.Proofs.Try.f249 ps rs [] [] a1 = p a1 := by kernel_rfl
theorem raw_eq (k : Nat) (a1 : Arg) : bodyK E k Go.Proofs.Try.f249 ps rs [] [] a1 = raw k a1 := (p_eq k a1).trans (by rfl)
theorem ent : EnterOk Go.Proofs.Try.prog 249 sig.cap := ⟨Go.Proofs.Try.f249, Go.Proofs.Try.func249, by kernel_rfl, by kernel_rfl, by kernel_rfl⟩
theorem env : EnvOk Go.Proofs.Try.prog E := env_ok (tl := [(38, (.slc (.slc u8)))]) (gl := []) rfl rfl (by kernel_rfl) (by kernel_rfl) (fn_nil _)
theorem chk : funOk Go.Proofs.Try.prog E Go.Proofs.Try.f249 ps rs [] = true := by kernel_rfl
theorem snd : Sound Go.Proofs.Try.prog 249 sig := sound_of_body env Go.Proofs.Try.func249 rfl (es := []) (fr := []) chk (fun _ _ h => lift_some h)
end slices_Clone_bytes
namespace impl_newPage
/-! loop example g00408 impl newPage -/
abbrev Arg : Type := UInt8 × Unit
abbrev Out : Type := (List UInt8) × Unit
noncomputable def ps : List (PM × Ty) := [(.ro, u8)]
noncomputable def rs : List (Ty × Md) := [((.slc u8), (ownMd (.slc u8)))]
noncomputable def E : Env := { TI := lookN [(5, u8), (39, (.slc u8))], G := lookN [], fz := [], lv := [(3, [0, 3, 7, 8])], lx := [(0, [3])], lf := [], od := [] }
noncomputable def sem (a : Arg) : Option Out := lift fun k => bodyK E k Go.Proofs.Try.f250 ps rs [] [] a
noncomputable def sig : Sig := { ps := ps, rs := rs, F := fun a => sem a }
noncomputable def C : Code := bodyOf Go.Proofs.Try.f250
noncomputable def fin : St → Option Out := outK ps rs [] (Func.results Go.Proofs.Try.f250).toList (mvs [])
noncomputable def K0 : Ex → St → Option Out := endK fin
noncomputable def S0 (rec : St → Option Out) (a1 : Arg) : ((List UInt8) × Int) → Option Out := fun v402 => rec ({ n := 21, sl := [(0, .val u8 a1.1), (3, .own (.slc u8) (ownMd (.slc u8)) [] v402.1), (7, .val i64 ((List.replicate 64 (0 : UInt8)).length : Int)), (8, .val i64 v402.2)], vr := [], lent := [] })
noncomputable def X0_0 (K : Ex → St → Option Out) (a1 : Arg) : (List UInt8) → Option Out := fun z => K (.exit 0) ({ n := 21, sl := [(3, .own (.slc u8) (ownMd (.slc u8)) [] z)], vr := [], lent := [] })
noncomputable def b0 (self : ((List UInt8) × Int) → Option Out) (e0 : (List UInt8) → Option Out) (a1 : Arg) (v402 : (List UInt8) × Int) : Option Out := bif decide (v402.2 < ((List.replicate 64 (0 : UInt8)).length : Int)) then (if 0 ≤ v402.2 ∧ v402.2 < (v402.1.length : Int) then ((v402.1[v402.2.toNat]?).bind fun x603 => self (v402.1.set v402.2.toNat a1.1, w64 (v402.2 + (1 : Int)))) else none) else e0 v402.1
noncomputable def B0 (k : Nat) (self : ((List UInt8) × Int) → Option Out) (e0 : (List UInt8) → Option Out) (a1 : Arg) (v402 : (List UInt8) × Int) : Option Out := b0 self e0 a1 v402
theorem b0_eq (k : Nat) (rec : St → Option Out) (K : Ex → St → Option Out) (a1 : Arg) (v402 : (List UInt8) × Int) : codeK E k fin (sub [1, 1, 0, 1, 0, 0] C) ({ n := 21, sl := [(0, .val u8 a1.1), (3, .own (.slc u8) (ownMd (.slc u8)) [] v402.1), (7, .val i64 ((List.replicate 64 (0 : UInt8)).length : Int)), (8, .val i64 v402.2)], vr := [], lent := [] }) (loopC rec (keepF [0, 3, 7, 8] []) K) = b0 (S0 rec a1) (X0_0 K a1) a1 v402 := by kernel_rfl
theorem B0_eq (k : Nat) (rec : St → Option Out) (K : Ex → St → Option Out) (a1 : Arg) (v402 : (List UInt8) × Int) : codeK E k fin (sub [1, 1, 0, 1, 0, 0] C) ({ n := 21, sl := [(0, .val u8 a1.1), (3, .own (.slc u8) (ownMd (.slc u8)) [] v402.1), (7, .val i64 ((List.replicate 64 (0 : UInt8)).length : Int)), (8, .val i64 v402.2)], vr := [], lent := [] }) (loopC rec (keepF [0, 3, 7, 8] []) K) = B0 k (S0 rec a1) (X0_0 K a1) a1 v402 := (b0_eq k rec K a1 v402).trans (by rfl)
noncomputable def l0 (k : Nat) (a1 : Arg) (e0 : (List UInt8) → Option Out) (v : (List UInt8) × Int) : Option Out := rawIter (fun self v => B0 k self e0 a1 v) k v
theorem l0_eq (k : Nat) (K : Ex → St → Option Out) (a1 : Arg) (v402 : (List UInt8) × Int) : iterK (codeK E k fin (sub [1, 1, 0, 1, 0, 0] C)) (keepF [0, 3, 7, 8] []) K k ({ n := 21, sl := [(0, .val u8 a1.1), (3, .own (.slc u8) (ownMd (.slc u8)) [] v402.1), (7, .val i64 ((List.replicate 64 (0 : UInt8)).length : Int)), (8, .val i64 v402.2)], vr := [], lent := [] }) = l0 k a1 (X0_0 K a1) v402 :=
  iter_raw _ _ K (fun v402 => ({ n := 21, sl := [(0, .val u8 a1.1), (3, .own (.slc u8) (ownMd (.slc u8)) [] v402.1), (7, .val i64 ((List.replicate 64 (0 : UInt8)).length : Int)), (8, .val i64 v402.2)], vr := [], lent := [] } : St)) (fun self v => B0 k self (X0_0 K a1) a1 v) (fun rec v => B0_eq k rec K a1 v) k v402
noncomputable def q0 (a1 : Arg) (z604 : (List UInt8)) : Option Out := if 0 ≤ (0 : Int) ∧ (0 : Int) < (z604.length : Int) then ((z604[0]?).bind fun x605 => if 0 ≤ (1 : Int) ∧ (1 : Int) < ((z604.set 0 (0 : UInt8)).length : Int) then (((z604.set 0 (0 : UInt8))[1]?).bind fun x606 => let y607 := (z604.set 0 (0 : UInt8)).set 1 (64 : UInt8); some (y607, ())) else none) else none
noncomputable def Q0 (k : Nat) (a1 : Arg) (z604 : (List UInt8)) : Option Out := q0 a1 z604
theorem q0_eq (k : Nat) (a1 : Arg) (z604 : (List UInt8)) : (blockC 0 (seqC (codeK E k fin (sub [1, 1, 1] C)) K0)) (.exit 0) ({ n := 21, sl := [(3, .own (.slc u8) (ownMd (.slc u8)) [] z604)], vr := [], lent := [] }) = q0 a1 z604 := by kernel_rfl
theorem Q0_eq (k : Nat) (a1 : Arg) (z604 : (List UInt8)) : (blockC 0 (seqC (codeK E k fin (sub [1, 1, 1] C)) K0)) (.exit 0) ({ n := 21, sl := [(3, .own (.slc u8) (ownMd (.slc u8)) [] z604)], vr := [], lent := [] }) = Q0 k a1 z604 := (q0_eq k a1 z604).trans (by rfl)
noncomputable def s0 (k : Nat) (a1 : Arg) : ((List UInt8) × Int) → Option Out := fun v402 => iterK (codeK E k fin (sub [1, 1, 0, 1, 0, 0] C)) (keepF [0, 3, 7, 8] []) (blockC 0 (seqC (codeK E k fin (sub [1, 1, 1] C)) K0)) k ({ n := 21, sl := [(0, .val u8 a1.1), (3, .own (.slc u8) (ownMd (.slc u8)) [] v402.1), (7, .val i64 ((List.replicate 64 (0 : UInt8)).length : Int)), (8, .val i64 v402.2)], vr := [], lent := [] })
noncomputable def r0 (k : Nat) (a1 : Arg) : ((List UInt8) × Int) → Option Out := fun v402 => l0 k a1 (fun z => Q0 k a1 z) v402
theorem s0_eq (k : Nat) (a1 : Arg) : s0 k a1 = r0 k a1 := by
  funext v402;
  have h0 : X0_0 ((blockC 0 (seqC (codeK E k fin (sub [1, 1, 1] C)) K0))) a1 = fun z => Q0 k a1 z := funext fun z => Q0_eq k a1 z
  refine (l0_eq k ((blockC 0 (seqC (codeK E k fin (sub [1, 1, 1] C)) K0))) a1 v402).trans ?_
  rw [h0]
  rfl
noncomputable def p (l0 : ((List UInt8) × Int) → Option Out) (a1 : Arg) : Option Out := if 0 ≤ (64 : Int) ∧ (64 : Int) ≤ (64 : Int) ∧ (64 : Int) ≤ (CAP : Int) then (l0 (List.replicate 64 (0 : UInt8), (0 : Int))) else none
noncomputable def raw (k : Nat) (a1 : Arg) : Option Out := p (r0 k a1) a1
theorem p_eq (k : Nat) (a1 : Arg) : bodyK E k Go.Proofs.Try.f250 ps rs [] [] a1 = p (s0 k a1) a1 := by kernel_rfl
theorem raw_eq (k : Nat) (a1 : Arg) : bodyK E k Go.Proofs.Try.f250 ps rs [] [] a1 = raw k a1 := (p_eq k a1).trans (by rw [s0_eq]; rfl)
theorem ent : EnterOk Go.Proofs.Try.prog 250 sig.cap := ⟨Go.Proofs.Try.f250, Go.Proofs.Try.func250, by kernel_rfl, by kernel_rfl, by kernel_rfl⟩
theorem env : EnvOk Go.Proofs.Try.prog E := env_ok (tl := [(5, u8), (39, (.slc u8))]) (gl := []) rfl rfl (by kernel_rfl) (by kernel_rfl) (fn_nil _)
theorem chk : funOk Go.Proofs.Try.prog E Go.Proofs.Try.f250 ps rs [] = true := by kernel_rfl
theorem snd : Sound Go.Proofs.Try.prog 250 sig := sound_of_body env Go.Proofs.Try.func250 rfl (es := []) (fr := []) chk (fun _ _ h => lift_some h)
end impl_newPage
namespace impl_applied
/-! loop example g00408 impl applied -/
abbrev Arg : Type := (List UInt8) × (List Run) × Unit
abbrev Out : Type := (List UInt8) × Unit
noncomputable def ps : List (PM × Ty) := [(.ro, (.slc u8)), (.ro, (.slc tRun))]
noncomputable def rs : List (Ty × Md) := [((.slc u8), (ownMd (.slc u8)))]
noncomputable def E : Env := { TI := lookN [(2, i64), (39, (.slc u8)), (59, (.slc tRun)), (236, tRun)], G := lookN [(191, impl_copied.sig)], fz := [], lv := [(3, [5, 10, 11, 12])], lx := [(0, [5])], lf := [], od := [(5, [0, 1, 2, 3, 4, 5, 6])] }
noncomputable def sem (a : Arg) : Option Out := lift fun k => bodyK E k Go.Proofs.Try.f251 ps rs [] [] a
noncomputable def sig : Sig := { ps := ps, rs := rs, F := fun a => sem a }
noncomputable def C : Code := bodyOf Go.Proofs.Try.f251
noncomputable def fin : St → Option Out := outK ps rs [] (Func.results Go.Proofs.Try.f251).toList (mvs [])
noncomputable def K0 : Ex → St → Option Out := endK fin
noncomputable def S0 (rec : St → Option Out) (a1 : Arg) : ((List UInt8) × Int) → Option Out := fun v403 => rec ({ n := 25, sl := [(5, .own (.slc u8) (ownMd (.slc u8)) [] v403.1), (10, .val (.slc tRun) a1.2.1), (11, .val i64 (a1.2.1.length : Int)), (12, .val i64 v403.2)], vr := [], lent := [] })
noncomputable def X0_0 (K : Ex → St → Option Out) (a1 : Arg) : (List UInt8) → Option Out := fun z => K (.exit 0) ({ n := 25, sl := [(5, .own (.slc u8) (ownMd (.slc u8)) [] z)], vr := [], lent := [] })
noncomputable def b0 (self : ((List UInt8) × Int) → Option Out) (e0 : (List UInt8) → Option Out) (a1 : Arg) (v403 : (List UInt8) × Int) : Option Out := bif decide (v403.2 < (a1.2.1.length : Int)) then (if 0 ≤ v403.2 then ((a1.2.1[v403.2.toNat]?).bind fun x604 => if 0 ≤ x604.1 ∧ x604.1 ≤ (v403.1.length : Int) then (let y605 := over v403.1 x604.1.toNat (min x604.2.1.length (v403.1.length - x604.1.toNat)) x604.2.1; self (y605, w64 (v403.2 + (1 : Int)))) else none) else none) else e0 v403.1
noncomputable def B0 (k : Nat) (self : ((List UInt8) × Int) → Option Out) (e0 : (List UInt8) → Option Out) (a1 : Arg) (v403 : (List UInt8) × Int) : Option Out := b0 self e0 a1 v403
theorem b0_eq (k : Nat) (rec : St → Option Out) (K : Ex → St → Option Out) (a1 : Arg) (v403 : (List UInt8) × Int) : codeK E k fin (sub [1, 1, 0, 1, 0, 0] C) ({ n := 25, sl := [(5, .own (.slc u8) (ownMd (.slc u8)) [] v403.1), (10, .val (.slc tRun) a1.2.1), (11, .val i64 (a1.2.1.length : Int)), (12, .val i64 v403.2)], vr := [], lent := [] }) (loopC rec (keepF [5, 10, 11, 12] []) K) = b0 (S0 rec a1) (X0_0 K a1) a1 v403 := by kernel_rfl
theorem B0_eq (k : Nat) (rec : St → Option Out) (K : Ex → St → Option Out) (a1 : Arg) (v403 : (List UInt8) × Int) : codeK E k fin (sub [1, 1, 0, 1, 0, 0] C) ({ n := 25, sl := [(5, .own (.slc u8) (ownMd (.slc u8)) [] v403.1), (10, .val (.slc tRun) a1.2.1), (11, .val i64 (a1.2.1.length : Int)), (12, .val i64 v403.2)], vr := [], lent := [] }) (loopC rec (keepF [5, 10, 11, 12] []) K) = B0 k (S0 rec a1) (X0_0 K a1) a1 v403 := (b0_eq k rec K a1 v403).trans (by rfl)
noncomputable def l0 (k : Nat) (a1 : Arg) (e0 : (List UInt8) → Option Out) (v : (List UInt8) × Int) : Option Out := rawIter (fun self v => B0 k self e0 a1 v) k v
theorem l0_eq (k : Nat) (K : Ex → St → Option Out) (a1 : Arg) (v403 : (List UInt8) × Int) : iterK (codeK E k fin (sub [1, 1, 0, 1, 0, 0] C)) (keepF [5, 10, 11, 12] []) K k ({ n := 25, sl := [(5, .own (.slc u8) (ownMd (.slc u8)) [] v403.1), (10, .val (.slc tRun) a1.2.1), (11, .val i64 (a1.2.1.length : Int)), (12, .val i64 v403.2)], vr := [], lent := [] }) = l0 k a1 (X0_0 K a1) v403 :=
  iter_raw _ _ K (fun v403 => ({ n := 25, sl := [(5, .own (.slc u8) (ownMd (.slc u8)) [] v403.1), (10, .val (.slc tRun) a1.2.1), (11, .val i64 (a1.2.1.length : Int)), (12, .val i64 v403.2)], vr := [], lent := [] } : St)) (fun self v => B0 k self (X0_0 K a1) a1 v) (fun rec v => B0_eq k rec K a1 v) k v403
noncomputable def q0 (a1 : Arg) (z606 : (List UInt8)) : Option Out := some (z606, ())
noncomputable def Q0 (k : Nat) (a1 : Arg) (z606 : (List UInt8)) : Option Out := q0 a1 z606
theorem q0_eq (k : Nat) (a1 : Arg) (z606 : (List UInt8)) : (blockC 0 (seqC (codeK E k fin (sub [1, 1, 1] C)) K0)) (.exit 0) ({ n := 25, sl := [(5, .own (.slc u8) (ownMd (.slc u8)) [] z606)], vr := [], lent := [] }) = q0 a1 z606 := by kernel_rfl
theorem Q0_eq (k : Nat) (a1 : Arg) (z606 : (List UInt8)) : (blockC 0 (seqC (codeK E k fin (sub [1, 1, 1] C)) K0)) (.exit 0) ({ n := 25, sl := [(5, .own (.slc u8) (ownMd (.slc u8)) [] z606)], vr := [], lent := [] }) = Q0 k a1 z606 := (q0_eq k a1 z606).trans (by rfl)
noncomputable def s0 (k : Nat) (a1 : Arg) : ((List UInt8) × Int) → Option Out := fun v403 => iterK (codeK E k fin (sub [1, 1, 0, 1, 0, 0] C)) (keepF [5, 10, 11, 12] []) (blockC 0 (seqC (codeK E k fin (sub [1, 1, 1] C)) K0)) k ({ n := 25, sl := [(5, .own (.slc u8) (ownMd (.slc u8)) [] v403.1), (10, .val (.slc tRun) a1.2.1), (11, .val i64 (a1.2.1.length : Int)), (12, .val i64 v403.2)], vr := [], lent := [] })
noncomputable def r0 (k : Nat) (a1 : Arg) : ((List UInt8) × Int) → Option Out := fun v403 => l0 k a1 (fun z => Q0 k a1 z) v403
theorem s0_eq (k : Nat) (a1 : Arg) : s0 k a1 = r0 k a1 := by
  funext v403;
  have h0 : X0_0 ((blockC 0 (seqC (codeK E k fin (sub [1, 1, 1] C)) K0))) a1 = fun z => Q0 k a1 z := funext fun z => Q0_eq k a1 z
  refine (l0_eq k ((blockC 0 (seqC (codeK E k fin (sub [1, 1, 1] C)) K0))) a1 v403).trans ?_
  rw [h0]
  rfl
noncomputable def p (l0 : ((List UInt8) × Int) → Option Out) (a1 : Arg) : Option Out := (impl_copied.sem (a1.1, ())).bind fun r2 => l0 (r2.1, (0 : Int))
noncomputable def raw (k : Nat) (a1 : Arg) : Option Out := p (r0 k a1) a1
theorem p_eq (k : Nat) (a1 : Arg) : bodyK E k Go.Proofs.Try.f251 ps rs [] [] a1 = p (s0 k a1) a1 := by kernel_rfl
theorem raw_eq (k : Nat) (a1 : Arg) : bodyK E k Go.Proofs.Try.f251 ps rs [] [] a1 = raw k a1 := (p_eq k a1).trans (by rw [s0_eq]; rfl)
theorem ent : EnterOk Go.Proofs.Try.prog 251 sig.cap := ⟨Go.Proofs.Try.f251, Go.Proofs.Try.func251, by kernel_rfl, by kernel_rfl, by kernel_rfl⟩
theorem env : EnvOk Go.Proofs.Try.prog E := env_ok (tl := [(2, i64), (39, (.slc u8)), (59, (.slc tRun)), (236, tRun)]) (gl := [(191, impl_copied.sig)]) rfl rfl (by kernel_rfl) (by kernel_rfl) (fn_cons impl_copied.snd impl_copied.ent (fn_nil _))
theorem chk : funOk Go.Proofs.Try.prog E Go.Proofs.Try.f251 ps rs [] = true := by kernel_rfl
theorem snd : Sound Go.Proofs.Try.prog 251 sig := sound_of_body env Go.Proofs.Try.func251 rfl (es := []) (fr := []) chk (fun _ _ h => lift_some h)
end impl_applied
namespace impl_recorded
/-! loop example g00408 impl recorded -/
abbrev Arg : Type := (List (List UInt8)) × Record × Unit
abbrev Out : Type := (List (List UInt8)) × Int × Unit
noncomputable def ps : List (PM × Ty) := [(.ro, (.slc (.slc u8))), (.ro, tRecord)]
noncomputable def rs : List (Ty × Md) := [((.slc (.slc u8)), (roMd (.slc (.slc u8)))), (i64, (roMd i64))]
noncomputable def E : Env := { TI := lookN [(2, i64), (38, (.slc (.slc u8))), (39, (.slc u8)), (59, (.slc tRun)), (61, tRecord)], G := lookN [(188, impl_turns.sig), (249, slices_Clone_bytes.sig), (250, impl_newPage.sig), (251, impl_applied.sig)], fz := [], lv := [], lx := [], lf := [], od := [(10, [0, 1, 2, 3, 4, 5, 6, 7, 8, 9, 10, 11, 12])] }
noncomputable def sem (a : Arg) : Option Out := lift fun k => bodyK E k Go.Proofs.Try.f195 ps rs [] [] a
noncomputable def sig : Sig := { ps := ps, rs := rs, F := fun a => sem a }
noncomputable def C : Code := bodyOf Go.Proofs.Try.f195
noncomputable def fin : St → Option Out := outK ps rs [] (Func.results Go.Proofs.Try.f195).toList (mvs [])
noncomputable def K0 : Ex → St → Option Out := endK fin
noncomputable def p (a1 : Arg) : Option Out := (impl_turns.sem (a1.2.1.1, ())).bind fun r2 => bif !r2.1 then (some (a1.1, (0 : Int), ())) else bif decide ((a1.1.length : Int) < a1.2.1.2.2.1) then (some (([] : List (List UInt8)), (1 : Int), ())) else bif decide (a1.2.1.2.2.1 = (12 : Int)) then (some (([] : List (List UInt8)), (2 : Int), ())) else (slices_Clone_bytes.sem (a1.1, ())).bind fun r3 => let j10 := fun (p9 : List (List UInt8)) => (if 0 ≤ a1.2.1.2.2.1 ∧ a1.2.1.2.2.1 < (p9.length : Int) then ((p9[a1.2.1.2.2.1.toNat]?).bind fun x11 => (impl_applied.sem (x11, a1.2.1.2.2.2.1, ())).bind fun r12 => if 0 ≤ a1.2.1.2.2.1 ∧ a1.2.1.2.2.1 < (p9.length : Int) then ((p9[a1.2.1.2.2.1.toNat]?).bind fun x13 => some (p9.set a1.2.1.2.2.1.toNat r12.1, (0 : Int), ())) else none) else none : Option Out); bif decide (a1.2.1.2.2.1 = (a1.1.length : Int)) then ((impl_newPage.sem ((0 : UInt8), ())).bind fun r4 => if r3.1.length + [r4.1].length ≤ CAP then (j10 (r3.1 ++ [r4.1])) else none) else j10 r3.1
noncomputable def raw (k : Nat) (a1 : Arg) : Option Out := p a1
theorem p_eq (k : Nat) (a1 : Arg) : bodyK E k Go.Proofs.Try.f195 ps rs [] [] a1 = p a1 := by kernel_rfl
theorem raw_eq (k : Nat) (a1 : Arg) : bodyK E k Go.Proofs.Try.f195 ps rs [] [] a1 = raw k a1 := (p_eq k a1).trans (by rfl)
theorem ent : EnterOk Go.Proofs.Try.prog 195 sig.cap := ⟨Go.Proofs.Try.f195, Go.Proofs.Try.func195, by kernel_rfl, by kernel_rfl, by kernel_rfl⟩
theorem env : EnvOk Go.Proofs.Try.prog E := env_ok (tl := [(2, i64), (38, (.slc (.slc u8))), (39, (.slc u8)), (59, (.slc tRun)), (61, tRecord)]) (gl := [(188, impl_turns.sig), (249, slices_Clone_bytes.sig), (250, impl_newPage.sig), (251, impl_applied.sig)]) rfl rfl (by kernel_rfl) (by kernel_rfl) (fn_cons impl_turns.snd impl_turns.ent (fn_cons slices_Clone_bytes.snd slices_Clone_bytes.ent (fn_cons impl_newPage.snd impl_newPage.ent (fn_cons impl_applied.snd impl_applied.ent (fn_nil _)))))
theorem chk : funOk Go.Proofs.Try.prog E Go.Proofs.Try.f195 ps rs [] = true := by kernel_rfl
theorem snd : Sound Go.Proofs.Try.prog 195 sig := sound_of_body env Go.Proofs.Try.func195 rfl (es := []) (fr := []) chk (fun _ _ h => lift_some h)
end impl_recorded
namespace impl_redo
/-! loop example g00408 impl redo -/
abbrev Arg : Type := (List Record) × Unit
abbrev Out : Type := (List (List UInt8)) × Int × Unit
noncomputable def ps : List (PM × Ty) := [(.ro, (.slc tRecord))]
noncomputable def rs : List (Ty × Md) := [((.slc (.slc u8)), (roMd (.slc (.slc u8)))), (i64, (roMd i64))]
noncomputable def E : Env := { TI := lookN [(38, (.slc (.slc u8))), (61, tRecord), (76, (.slc tRecord))], G := lookN [(106, impl_RecordFault.sig), (195, impl_recorded.sig)], fz := [], lv := [(3, [4, 10, 11, 12])], lx := [(0, [4])], lf := [(3, [(4, (.slc false (.slc false .leaf)))])], od := [] }
noncomputable def sem (a : Arg) : Option Out := lift fun k => bodyK E k Go.Proofs.Try.f116 ps rs [] [] a
noncomputable def sig : Sig := { ps := ps, rs := rs, F := fun a => sem a }
noncomputable def C : Code := bodyOf Go.Proofs.Try.f116
noncomputable def fin : St → Option Out := outK ps rs [] (Func.results Go.Proofs.Try.f116).toList (mvs [])
noncomputable def K0 : Ex → St → Option Out := endK fin
noncomputable def S0 (rec : St → Option Out) (a1 : Arg) : ((List (List UInt8)) × Int) → Option Out := fun v402 => rec ({ n := 33, sl := [(4, .val (.slc (.slc u8)) v402.1), (10, .val (.slc tRecord) a1.1), (11, .val i64 (a1.1.length : Int)), (12, .val i64 v402.2)], vr := [], lent := [] })
noncomputable def X0_0 (K : Ex → St → Option Out) (a1 : Arg) : (List (List UInt8)) → Option Out := fun z => K (.exit 0) ({ n := 33, sl := [(4, .val (.slc (.slc u8)) z)], vr := [], lent := [] })
noncomputable def b0 (self : ((List (List UInt8)) × Int) → Option Out) (e0 : (List (List UInt8)) → Option Out) (a1 : Arg) (v402 : (List (List UInt8)) × Int) : Option Out := bif decide (v402.2 < (a1.1.length : Int)) then (if 0 ≤ v402.2 then ((a1.1[v402.2.toNat]?).bind fun x603 => (impl_RecordFault.sem (x603, ())).bind fun r604 => bif !decide (r604.1 = (0 : Int)) then (some (([] : List (List UInt8)), r604.1, ())) else (impl_recorded.sem (v402.1, x603, ())).bind fun r605 => bif !decide (r605.2.1 = (0 : Int)) then (some (([] : List (List UInt8)), r605.2.1, ())) else self (r605.1, w64 (v402.2 + (1 : Int)))) else none) else e0 v402.1
noncomputable def B0 (k : Nat) (self : ((List (List UInt8)) × Int) → Option Out) (e0 : (List (List UInt8)) → Option Out) (a1 : Arg) (v402 : (List (List UInt8)) × Int) : Option Out := b0 self e0 a1 v402
theorem b0_eq (k : Nat) (rec : St → Option Out) (K : Ex → St → Option Out) (a1 : Arg) (v402 : (List (List UInt8)) × Int) : codeK E k fin (sub [1, 1, 0, 1, 0, 0] C) ({ n := 33, sl := [(4, .val (.slc (.slc u8)) v402.1), (10, .val (.slc tRecord) a1.1), (11, .val i64 (a1.1.length : Int)), (12, .val i64 v402.2)], vr := [], lent := [] }) (loopC rec (keepF [4, 10, 11, 12] [(4, (.slc false (.slc false .leaf)))]) K) = b0 (S0 rec a1) (X0_0 K a1) a1 v402 := by kernel_rfl
theorem B0_eq (k : Nat) (rec : St → Option Out) (K : Ex → St → Option Out) (a1 : Arg) (v402 : (List (List UInt8)) × Int) : codeK E k fin (sub [1, 1, 0, 1, 0, 0] C) ({ n := 33, sl := [(4, .val (.slc (.slc u8)) v402.1), (10, .val (.slc tRecord) a1.1), (11, .val i64 (a1.1.length : Int)), (12, .val i64 v402.2)], vr := [], lent := [] }) (loopC rec (keepF [4, 10, 11, 12] [(4, (.slc false (.slc false .leaf)))]) K) = B0 k (S0 rec a1) (X0_0 K a1) a1 v402 := (b0_eq k rec K a1 v402).trans (by rfl)
noncomputable def l0 (k : Nat) (a1 : Arg) (e0 : (List (List UInt8)) → Option Out) (v : (List (List UInt8)) × Int) : Option Out := rawIter (fun self v => B0 k self e0 a1 v) k v
theorem l0_eq (k : Nat) (K : Ex → St → Option Out) (a1 : Arg) (v402 : (List (List UInt8)) × Int) : iterK (codeK E k fin (sub [1, 1, 0, 1, 0, 0] C)) (keepF [4, 10, 11, 12] [(4, (.slc false (.slc false .leaf)))]) K k ({ n := 33, sl := [(4, .val (.slc (.slc u8)) v402.1), (10, .val (.slc tRecord) a1.1), (11, .val i64 (a1.1.length : Int)), (12, .val i64 v402.2)], vr := [], lent := [] }) = l0 k a1 (X0_0 K a1) v402 :=
  iter_raw _ _ K (fun v402 => ({ n := 33, sl := [(4, .val (.slc (.slc u8)) v402.1), (10, .val (.slc tRecord) a1.1), (11, .val i64 (a1.1.length : Int)), (12, .val i64 v402.2)], vr := [], lent := [] } : St)) (fun self v => B0 k self (X0_0 K a1) a1 v) (fun rec v => B0_eq k rec K a1 v) k v402
noncomputable def q0 (a1 : Arg) (z606 : (List (List UInt8))) : Option Out := some (z606, (0 : Int), ())
noncomputable def Q0 (k : Nat) (a1 : Arg) (z606 : (List (List UInt8))) : Option Out := q0 a1 z606
theorem q0_eq (k : Nat) (a1 : Arg) (z606 : (List (List UInt8))) : (blockC 0 (seqC (codeK E k fin (sub [1, 1, 1] C)) K0)) (.exit 0) ({ n := 33, sl := [(4, .val (.slc (.slc u8)) z606)], vr := [], lent := [] }) = q0 a1 z606 := by kernel_rfl
theorem Q0_eq (k : Nat) (a1 : Arg) (z606 : (List (List UInt8))) : (blockC 0 (seqC (codeK E k fin (sub [1, 1, 1] C)) K0)) (.exit 0) ({ n := 33, sl := [(4, .val (.slc (.slc u8)) z606)], vr := [], lent := [] }) = Q0 k a1 z606 := (q0_eq k a1 z606).trans (by rfl)
noncomputable def s0 (k : Nat) (a1 : Arg) : ((List (List UInt8)) × Int) → Option Out := fun v402 => iterK (codeK E k fin (sub [1, 1, 0, 1, 0, 0] C)) (keepF [4, 10, 11, 12] [(4, (.slc false (.slc false .leaf)))]) (blockC 0 (seqC (codeK E k fin (sub [1, 1, 1] C)) K0)) k ({ n := 33, sl := [(4, .val (.slc (.slc u8)) v402.1), (10, .val (.slc tRecord) a1.1), (11, .val i64 (a1.1.length : Int)), (12, .val i64 v402.2)], vr := [], lent := [] })
noncomputable def r0 (k : Nat) (a1 : Arg) : ((List (List UInt8)) × Int) → Option Out := fun v402 => l0 k a1 (fun z => Q0 k a1 z) v402
theorem s0_eq (k : Nat) (a1 : Arg) : s0 k a1 = r0 k a1 := by
  funext v402;
  have h0 : X0_0 ((blockC 0 (seqC (codeK E k fin (sub [1, 1, 1] C)) K0))) a1 = fun z => Q0 k a1 z := funext fun z => Q0_eq k a1 z
  refine (l0_eq k ((blockC 0 (seqC (codeK E k fin (sub [1, 1, 1] C)) K0))) a1 v402).trans ?_
  rw [h0]
  rfl
noncomputable def p (l0 : ((List (List UInt8)) × Int) → Option Out) (a1 : Arg) : Option Out := l0 (([] : List (List UInt8)), (0 : Int))
noncomputable def raw (k : Nat) (a1 : Arg) : Option Out := p (r0 k a1) a1
theorem p_eq (k : Nat) (a1 : Arg) : bodyK E k Go.Proofs.Try.f116 ps rs [] [] a1 = p (s0 k a1) a1 := by kernel_rfl
theorem raw_eq (k : Nat) (a1 : Arg) : bodyK E k Go.Proofs.Try.f116 ps rs [] [] a1 = raw k a1 := (p_eq k a1).trans (by rw [s0_eq]; rfl)
theorem ent : EnterOk Go.Proofs.Try.prog 116 sig.cap := ⟨Go.Proofs.Try.f116, Go.Proofs.Try.func116, by kernel_rfl, by kernel_rfl, by kernel_rfl⟩
theorem env : EnvOk Go.Proofs.Try.prog E := env_ok (tl := [(38, (.slc (.slc u8))), (61, tRecord), (76, (.slc tRecord))]) (gl := [(106, impl_RecordFault.sig), (195, impl_recorded.sig)]) rfl rfl (by kernel_rfl) (by kernel_rfl) (fn_cons impl_RecordFault.snd impl_RecordFault.ent (fn_cons impl_recorded.snd impl_recorded.ent (fn_nil _)))
theorem chk : funOk Go.Proofs.Try.prog E Go.Proofs.Try.f116 ps rs [] = true := by kernel_rfl
theorem snd : Sound Go.Proofs.Try.prog 116 sig := sound_of_body env Go.Proofs.Try.func116 rfl (es := []) (fr := []) chk (fun _ _ h => lift_some h)
end impl_redo
namespace impl_copies
/-! loop example g00408 impl copies -/
abbrev Arg : Type := (List (List UInt8)) × Unit
abbrev Out : Type := (List (List UInt8)) × Unit
noncomputable def ps : List (PM × Ty) := [(.ro, (.slc (.slc u8)))]
noncomputable def rs : List (Ty × Md) := [((.slc (.slc u8)), (ownMd (.slc (.slc u8))))]
noncomputable def E : Env := { TI := lookN [(38, (.slc (.slc u8))), (39, (.slc u8))], G := lookN [(191, impl_copied.sig)], fz := [], lv := [(3, [3, 6, 7, 8])], lx := [(0, [3])], lf := [], od := [] }
noncomputable def sem (a : Arg) : Option Out := lift fun k => bodyK E k Go.Proofs.Try.f117 ps rs [] [] a
noncomputable def sig : Sig := { ps := ps, rs := rs, F := fun a => sem a }
noncomputable def C : Code := bodyOf Go.Proofs.Try.f117
noncomputable def fin : St → Option Out := outK ps rs [] (Func.results Go.Proofs.Try.f117).toList (mvs [])
noncomputable def K0 : Ex → St → Option Out := endK fin
noncomputable def S0 (rec : St → Option Out) (a1 : Arg) : ((List (List UInt8)) × Int) → Option Out := fun v402 => rec ({ n := 19, sl := [(3, .own (.slc (.slc u8)) (ownMd (.slc (.slc u8))) [] v402.1), (6, .val (.slc (.slc u8)) a1.1), (7, .val i64 (a1.1.length : Int)), (8, .val i64 v402.2)], vr := [], lent := [] })
noncomputable def X0_0 (K : Ex → St → Option Out) (a1 : Arg) : (List (List UInt8)) → Option Out := fun z => K (.exit 0) ({ n := 19, sl := [(3, .own (.slc (.slc u8)) (ownMd (.slc (.slc u8))) [] z)], vr := [], lent := [] })
noncomputable def b0 (self : ((List (List UInt8)) × Int) → Option Out) (e0 : (List (List UInt8)) → Option Out) (a1 : Arg) (v402 : (List (List UInt8)) × Int) : Option Out := bif decide (v402.2 < (a1.1.length : Int)) then (if 0 ≤ v402.2 then ((a1.1[v402.2.toNat]?).bind fun x603 => (impl_copied.sem (x603, ())).bind fun r604 => if v402.1.length + [r604.1].length ≤ CAP then (self (v402.1 ++ [r604.1], w64 (v402.2 + (1 : Int)))) else none) else none) else e0 v402.1
noncomputable def B0 (k : Nat) (self : ((List (List UInt8)) × Int) → Option Out) (e0 : (List (List UInt8)) → Option Out) (a1 : Arg) (v402 : (List (List UInt8)) × Int) : Option Out := b0 self e0 a1 v402
theorem b0_eq (k : Nat) (rec : St → Option Out) (K : Ex → St → Option Out) (a1 : Arg) (v402 : (List (List UInt8)) × Int) : codeK E k fin (sub [1, 1, 0, 1, 0, 0] C) ({ n := 19, sl := [(3, .own (.slc (.slc u8)) (ownMd (.slc (.slc u8))) [] v402.1), (6, .val (.slc (.slc u8)) a1.1), (7, .val i64 (a1.1.length : Int)), (8, .val i64 v402.2)], vr := [], lent := [] }) (loopC rec (keepF [3, 6, 7, 8] []) K) = b0 (S0 rec a1) (X0_0 K a1) a1 v402 := by kernel_rfl
theorem B0_eq (k : Nat) (rec : St → Option Out) (K : Ex → St → Option Out) (a1 : Arg) (v402 : (List (List UInt8)) × Int) : codeK E k fin (sub [1, 1, 0, 1, 0, 0] C) ({ n := 19, sl := [(3, .own (.slc (.slc u8)) (ownMd (.slc (.slc u8))) [] v402.1), (6, .val (.slc (.slc u8)) a1.1), (7, .val i64 (a1.1.length : Int)), (8, .val i64 v402.2)], vr := [], lent := [] }) (loopC rec (keepF [3, 6, 7, 8] []) K) = B0 k (S0 rec a1) (X0_0 K a1) a1 v402 := (b0_eq k rec K a1 v402).trans (by rfl)
noncomputable def l0 (k : Nat) (a1 : Arg) (e0 : (List (List UInt8)) → Option Out) (v : (List (List UInt8)) × Int) : Option Out := rawIter (fun self v => B0 k self e0 a1 v) k v
theorem l0_eq (k : Nat) (K : Ex → St → Option Out) (a1 : Arg) (v402 : (List (List UInt8)) × Int) : iterK (codeK E k fin (sub [1, 1, 0, 1, 0, 0] C)) (keepF [3, 6, 7, 8] []) K k ({ n := 19, sl := [(3, .own (.slc (.slc u8)) (ownMd (.slc (.slc u8))) [] v402.1), (6, .val (.slc (.slc u8)) a1.1), (7, .val i64 (a1.1.length : Int)), (8, .val i64 v402.2)], vr := [], lent := [] }) = l0 k a1 (X0_0 K a1) v402 :=
  iter_raw _ _ K (fun v402 => ({ n := 19, sl := [(3, .own (.slc (.slc u8)) (ownMd (.slc (.slc u8))) [] v402.1), (6, .val (.slc (.slc u8)) a1.1), (7, .val i64 (a1.1.length : Int)), (8, .val i64 v402.2)], vr := [], lent := [] } : St)) (fun self v => B0 k self (X0_0 K a1) a1 v) (fun rec v => B0_eq k rec K a1 v) k v402
noncomputable def q0 (a1 : Arg) (z605 : (List (List UInt8))) : Option Out := some (z605, ())
noncomputable def Q0 (k : Nat) (a1 : Arg) (z605 : (List (List UInt8))) : Option Out := q0 a1 z605
theorem q0_eq (k : Nat) (a1 : Arg) (z605 : (List (List UInt8))) : (blockC 0 (seqC (codeK E k fin (sub [1, 1, 1] C)) K0)) (.exit 0) ({ n := 19, sl := [(3, .own (.slc (.slc u8)) (ownMd (.slc (.slc u8))) [] z605)], vr := [], lent := [] }) = q0 a1 z605 := by kernel_rfl
theorem Q0_eq (k : Nat) (a1 : Arg) (z605 : (List (List UInt8))) : (blockC 0 (seqC (codeK E k fin (sub [1, 1, 1] C)) K0)) (.exit 0) ({ n := 19, sl := [(3, .own (.slc (.slc u8)) (ownMd (.slc (.slc u8))) [] z605)], vr := [], lent := [] }) = Q0 k a1 z605 := (q0_eq k a1 z605).trans (by rfl)
noncomputable def s0 (k : Nat) (a1 : Arg) : ((List (List UInt8)) × Int) → Option Out := fun v402 => iterK (codeK E k fin (sub [1, 1, 0, 1, 0, 0] C)) (keepF [3, 6, 7, 8] []) (blockC 0 (seqC (codeK E k fin (sub [1, 1, 1] C)) K0)) k ({ n := 19, sl := [(3, .own (.slc (.slc u8)) (ownMd (.slc (.slc u8))) [] v402.1), (6, .val (.slc (.slc u8)) a1.1), (7, .val i64 (a1.1.length : Int)), (8, .val i64 v402.2)], vr := [], lent := [] })
noncomputable def r0 (k : Nat) (a1 : Arg) : ((List (List UInt8)) × Int) → Option Out := fun v402 => l0 k a1 (fun z => Q0 k a1 z) v402
theorem s0_eq (k : Nat) (a1 : Arg) : s0 k a1 = r0 k a1 := by
  funext v402;
  have h0 : X0_0 ((blockC 0 (seqC (codeK E k fin (sub [1, 1, 1] C)) K0))) a1 = fun z => Q0 k a1 z := funext fun z => Q0_eq k a1 z
  refine (l0_eq k ((blockC 0 (seqC (codeK E k fin (sub [1, 1, 1] C)) K0))) a1 v402).trans ?_
  rw [h0]
  rfl
noncomputable def p (l0 : ((List (List UInt8)) × Int) → Option Out) (a1 : Arg) : Option Out := l0 (([] : List (List UInt8)), (0 : Int))
noncomputable def raw (k : Nat) (a1 : Arg) : Option Out := p (r0 k a1) a1
theorem p_eq (k : Nat) (a1 : Arg) : bodyK E k Go.Proofs.Try.f117 ps rs [] [] a1 = p (s0 k a1) a1 := by kernel_rfl
theorem raw_eq (k : Nat) (a1 : Arg) : bodyK E k Go.Proofs.Try.f117 ps rs [] [] a1 = raw k a1 := (p_eq k a1).trans (by rw [s0_eq]; rfl)
theorem ent : EnterOk Go.Proofs.Try.prog 117 sig.cap := ⟨Go.Proofs.Try.f117, Go.Proofs.Try.func117, by kernel_rfl, by kernel_rfl, by kernel_rfl⟩
theorem env : EnvOk Go.Proofs.Try.prog E := env_ok (tl := [(38, (.slc (.slc u8))), (39, (.slc u8))]) (gl := [(191, impl_copied.sig)]) rfl rfl (by kernel_rfl) (by kernel_rfl) (fn_cons impl_copied.snd impl_copied.ent (fn_nil _))
theorem chk : funOk Go.Proofs.Try.prog E Go.Proofs.Try.f117 ps rs [] = true := by kernel_rfl
theorem snd : Sound Go.Proofs.Try.prog 117 sig := sound_of_body env Go.Proofs.Try.func117 rfl (es := []) (fr := []) chk (fun _ _ h => lift_some h)
end impl_copies
namespace impl_RedoAll
/-! loop example g00408 impl RedoAll -/
abbrev Arg : Type := (List Record) × Unit
abbrev Out : Type := EditsResult × Unit
noncomputable def ps : List (PM × Ty) := [(.ro, (.slc tRecord))]
noncomputable def rs : List (Ty × Md) := [(tEditsResult, (ownMd tEditsResult))]
noncomputable def E : Env := { TI := lookN [(74, tEditsResult)], G := lookN [(116, impl_redo.sig), (117, impl_copies.sig)], fz := [], lv := [], lx := [], lf := [], od := [] }
noncomputable def sem (a : Arg) : Option Out := lift fun k => bodyK E k Go.Proofs.Try.f43 ps rs [] [] a
noncomputable def sig : Sig := { ps := ps, rs := rs, F := fun a => sem a }
noncomputable def C : Code := bodyOf Go.Proofs.Try.f43
noncomputable def fin : St → Option Out := outK ps rs [] (Func.results Go.Proofs.Try.f43).toList (mvs [])
noncomputable def K0 : Ex → St → Option Out := endK fin
noncomputable def p (a1 : Arg) : Option Out := (impl_redo.sem (a1.1, ())).bind fun r2 => bif !decide (r2.2.1 = (0 : Int)) then (some ((r2.2.1, ([] : List Run), ([] : List (List UInt8)), ()), ())) else (impl_copies.sem (r2.1, ())).bind fun r3 => some (((0 : Int), ([] : List Run), r3.1, ()), ())
noncomputable def raw (k : Nat) (a1 : Arg) : Option Out := p a1
theorem p_eq (k : Nat) (a1 : Arg) : bodyK E k Go.Proofs.Try.f43 ps rs [] [] a1 = p a1 := by kernel_rfl
theorem raw_eq (k : Nat) (a1 : Arg) : bodyK E k Go.Proofs.Try.f43 ps rs [] [] a1 = raw k a1 := (p_eq k a1).trans (by rfl)
theorem ent : EnterOk Go.Proofs.Try.prog 43 sig.cap := ⟨Go.Proofs.Try.f43, Go.Proofs.Try.func43, by kernel_rfl, by kernel_rfl, by kernel_rfl⟩
theorem env : EnvOk Go.Proofs.Try.prog E := env_ok (tl := [(74, tEditsResult)]) (gl := [(116, impl_redo.sig), (117, impl_copies.sig)]) rfl rfl (by kernel_rfl) (by kernel_rfl) (fn_cons impl_redo.snd impl_redo.ent (fn_cons impl_copies.snd impl_copies.ent (fn_nil _)))
theorem chk : funOk Go.Proofs.Try.prog E Go.Proofs.Try.f43 ps rs [] = true := by kernel_rfl
theorem snd : Sound Go.Proofs.Try.prog 43 sig := sound_of_body env Go.Proofs.Try.func43 rfl (es := []) (fr := []) chk (fun _ _ h => lift_some h)
end impl_RedoAll
namespace laws_eqEdit
/-! loop example g00408 laws eqEdit -/
abbrev Arg : Type := Run × Run × Unit
abbrev Out : Type := Bool × Unit
noncomputable def ps : List (PM × Ty) := [(.ro, tRun), (.ro, tRun)]
noncomputable def rs : List (Ty × Md) := [(.bool, (roMd .bool))]
noncomputable def E : Env := { TI := lookN [(2, i64), (39, (.slc u8)), (245, tRun)], G := lookN [(109, laws_eqByteS.sig)], fz := [], lv := [], lx := [], lf := [], od := [] }
noncomputable def sem (a : Arg) : Option Out := lift fun k => bodyK E k Go.Proofs.Try.f196 ps rs [] [] a
noncomputable def sig : Sig := { ps := ps, rs := rs, F := fun a => sem a }
noncomputable def C : Code := bodyOf Go.Proofs.Try.f196
noncomputable def fin : St → Option Out := outK ps rs [] (Func.results Go.Proofs.Try.f196).toList (mvs [])
noncomputable def K0 : Ex → St → Option Out := endK fin
noncomputable def p (a1 : Arg) : Option Out := bif !decide (a1.1.1 = a1.2.1.1) then (some (false, ())) else (laws_eqByteS.sem (a1.1.2.1, a1.2.1.2.1, ())).bind fun r2 => bif !r2.1 then (some (false, ())) else some (true, ())
noncomputable def raw (k : Nat) (a1 : Arg) : Option Out := p a1
theorem p_eq (k : Nat) (a1 : Arg) : bodyK E k Go.Proofs.Try.f196 ps rs [] [] a1 = p a1 := by kernel_rfl
theorem raw_eq (k : Nat) (a1 : Arg) : bodyK E k Go.Proofs.Try.f196 ps rs [] [] a1 = raw k a1 := (p_eq k a1).trans (by rfl)
theorem ent : EnterOk Go.Proofs.Try.prog 196 sig.cap := ⟨Go.Proofs.Try.f196, Go.Proofs.Try.func196, by kernel_rfl, by kernel_rfl, by kernel_rfl⟩
theorem env : EnvOk Go.Proofs.Try.prog E := env_ok (tl := [(2, i64), (39, (.slc u8)), (245, tRun)]) (gl := [(109, laws_eqByteS.sig)]) rfl rfl (by kernel_rfl) (by kernel_rfl) (fn_cons laws_eqByteS.snd laws_eqByteS.ent (fn_nil _))
theorem chk : funOk Go.Proofs.Try.prog E Go.Proofs.Try.f196 ps rs [] = true := by kernel_rfl
theorem snd : Sound Go.Proofs.Try.prog 196 sig := sound_of_body env Go.Proofs.Try.func196 rfl (es := []) (fr := []) chk (fun _ _ h => lift_some h)
end laws_eqEdit
namespace laws_eqEditS
/-! loop example g00408 laws eqEditS -/
abbrev Arg : Type := (List Run) × (List Run) × Unit
abbrev Out : Type := Bool × Unit
noncomputable def ps : List (PM × Ty) := [(.ro, (.slc tRun)), (.ro, (.slc tRun))]
noncomputable def rs : List (Ty × Md) := [(.bool, (roMd .bool))]
noncomputable def E : Env := { TI := lookN [(72, (.slc tRun)), (245, tRun)], G := lookN [(196, laws_eqEdit.sig)], fz := [], lv := [(4, [0, 1, 5])], lx := [(0, [])], lf := [], od := [(6, [0, 1, 2, 3, 4, 5, 6, 7, 8, 9])] }
noncomputable def sem (a : Arg) : Option Out := lift fun k => bodyK E k Go.Proofs.Try.f118 ps rs [] [] a
noncomputable def sig : Sig := { ps := ps, rs := rs, F := fun a => sem a }
noncomputable def C : Code := bodyOf Go.Proofs.Try.f118
noncomputable def fin : St → Option Out := outK ps rs [] (Func.results Go.Proofs.Try.f118).toList (mvs [])
noncomputable def K0 : Ex → St → Option Out := endK fin
noncomputable def S0 (rec : St → Option Out) (a1 : Arg) : (Int) → Option Out := fun v402 => rec ({ n := 27, sl := [(0, .val (.slc tRun) a1.1), (1, .val (.slc tRun) a1.2.1), (5, .val i64 v402)], vr := [], lent := [] })
noncomputable def X0_0 (K : Ex → St → Option Out) (a1 : Arg) : (Unit) → Option Out := fun z => K (.exit 0) ({ n := 27, sl := [], vr := [], lent := [] })
noncomputable def b0 (self : Int → Option Out) (e0 : (Unit) → Option Out) (a1 : Arg) (v402 : Int) : Option Out := bif decide (v402 < (a1.1.length : Int)) then (if 0 ≤ v402 then ((a1.1[v402.toNat]?).bind fun x603 => if 0 ≤ v402 then ((a1.2.1[v402.toNat]?).bind fun x604 => (laws_eqEdit.sem (x603, x604, ())).bind fun r605 => bif !r605.1 then (some (false, ())) else self (w64 (v402 + (1 : Int)))) else none) else none) else e0 ()
noncomputable def B0 (k : Nat) (self : Int → Option Out) (e0 : (Unit) → Option Out) (a1 : Arg) (v402 : Int) : Option Out := b0 self e0 a1 v402
theorem b0_eq (k : Nat) (rec : St → Option Out) (K : Ex → St → Option Out) (a1 : Arg) (v402 : Int) : codeK E k fin (sub [1, 1, 0, 1, 0, 0] C) ({ n := 27, sl := [(0, .val (.slc tRun) a1.1), (1, .val (.slc tRun) a1.2.1), (5, .val i64 v402)], vr := [], lent := [] }) (loopC rec (keepF [0, 1, 5] []) K) = b0 (S0 rec a1) (X0_0 K a1) a1 v402 := by kernel_rfl
theorem B0_eq (k : Nat) (rec : St → Option Out) (K : Ex → St → Option Out) (a1 : Arg) (v402 : Int) : codeK E k fin (sub [1, 1, 0, 1, 0, 0] C) ({ n := 27, sl := [(0, .val (.slc tRun) a1.1), (1, .val (.slc tRun) a1.2.1), (5, .val i64 v402)], vr := [], lent := [] }) (loopC rec (keepF [0, 1, 5] []) K) = B0 k (S0 rec a1) (X0_0 K a1) a1 v402 := (b0_eq k rec K a1 v402).trans (by rfl)
noncomputable def l0 (k : Nat) (a1 : Arg) (e0 : (Unit) → Option Out) (v : Int) : Option Out := rawIter (fun self v => B0 k self e0 a1 v) k v
theorem l0_eq (k : Nat) (K : Ex → St → Option Out) (a1 : Arg) (v402 : Int) : iterK (codeK E k fin (sub [1, 1, 0, 1, 0, 0] C)) (keepF [0, 1, 5] []) K k ({ n := 27, sl := [(0, .val (.slc tRun) a1.1), (1, .val (.slc tRun) a1.2.1), (5, .val i64 v402)], vr := [], lent := [] }) = l0 k a1 (X0_0 K a1) v402 :=
  iter_raw _ _ K (fun v402 => ({ n := 27, sl := [(0, .val (.slc tRun) a1.1), (1, .val (.slc tRun) a1.2.1), (5, .val i64 v402)], vr := [], lent := [] } : St)) (fun self v => B0 k self (X0_0 K a1) a1 v) (fun rec v => B0_eq k rec K a1 v) k v402
noncomputable def q0 (a1 : Arg) (z606 : (Unit)) : Option Out := some (true, ())
noncomputable def Q0 (k : Nat) (a1 : Arg) (z606 : (Unit)) : Option Out := q0 a1 z606
theorem q0_eq (k : Nat) (a1 : Arg) (z606 : (Unit)) : (blockC 0 (seqC (codeK E k fin (sub [1, 1, 1] C)) K0)) (.exit 0) ({ n := 27, sl := [], vr := [], lent := [] }) = q0 a1 z606 := by kernel_rfl
theorem Q0_eq (k : Nat) (a1 : Arg) (z606 : (Unit)) : (blockC 0 (seqC (codeK E k fin (sub [1, 1, 1] C)) K0)) (.exit 0) ({ n := 27, sl := [], vr := [], lent := [] }) = Q0 k a1 z606 := (q0_eq k a1 z606).trans (by rfl)
noncomputable def s0 (k : Nat) (a1 : Arg) : (Int) → Option Out := fun v402 => iterK (codeK E k fin (sub [1, 1, 0, 1, 0, 0] C)) (keepF [0, 1, 5] []) (blockC 0 (seqC (codeK E k fin (sub [1, 1, 1] C)) K0)) k ({ n := 27, sl := [(0, .val (.slc tRun) a1.1), (1, .val (.slc tRun) a1.2.1), (5, .val i64 v402)], vr := [], lent := [] })
noncomputable def r0 (k : Nat) (a1 : Arg) : (Int) → Option Out := fun v402 => l0 k a1 (fun z => Q0 k a1 z) v402
theorem s0_eq (k : Nat) (a1 : Arg) : s0 k a1 = r0 k a1 := by
  funext v402;
  have h0 : X0_0 ((blockC 0 (seqC (codeK E k fin (sub [1, 1, 1] C)) K0))) a1 = fun z => Q0 k a1 z := funext fun z => Q0_eq k a1 z
  refine (l0_eq k ((blockC 0 (seqC (codeK E k fin (sub [1, 1, 1] C)) K0))) a1 v402).trans ?_
  rw [h0]
  rfl
noncomputable def p (l0 : (Int) → Option Out) (a1 : Arg) : Option Out := bif !decide ((a1.1.length : Int) = (a1.2.1.length : Int)) then (some (false, ())) else l0 (0 : Int)
noncomputable def raw (k : Nat) (a1 : Arg) : Option Out := p (r0 k a1) a1
theorem p_eq (k : Nat) (a1 : Arg) : bodyK E k Go.Proofs.Try.f118 ps rs [] [] a1 = p (s0 k a1) a1 := by kernel_rfl
theorem raw_eq (k : Nat) (a1 : Arg) : bodyK E k Go.Proofs.Try.f118 ps rs [] [] a1 = raw k a1 := (p_eq k a1).trans (by rw [s0_eq]; rfl)
theorem ent : EnterOk Go.Proofs.Try.prog 118 sig.cap := ⟨Go.Proofs.Try.f118, Go.Proofs.Try.func118, by kernel_rfl, by kernel_rfl, by kernel_rfl⟩
theorem env : EnvOk Go.Proofs.Try.prog E := env_ok (tl := [(72, (.slc tRun)), (245, tRun)]) (gl := [(196, laws_eqEdit.sig)]) rfl rfl (by kernel_rfl) (by kernel_rfl) (fn_cons laws_eqEdit.snd laws_eqEdit.ent (fn_nil _))
theorem chk : funOk Go.Proofs.Try.prog E Go.Proofs.Try.f118 ps rs [] = true := by kernel_rfl
theorem snd : Sound Go.Proofs.Try.prog 118 sig := sound_of_body env Go.Proofs.Try.func118 rfl (es := []) (fr := []) chk (fun _ _ h => lift_some h)
end laws_eqEditS
namespace laws_eqEditsResult
/-! loop example g00408 laws eqEditsResult -/
abbrev Arg : Type := EditsResult × EditsResult × Unit
abbrev Out : Type := Bool × Unit
noncomputable def ps : List (PM × Ty) := [(.ro, tEditsResult), (.ro, tEditsResult)]
noncomputable def rs : List (Ty × Md) := [(.bool, (roMd .bool))]
noncomputable def E : Env := { TI := lookN [(2, i64), (38, (.slc (.slc u8))), (72, (.slc tRun)), (74, tEditsResult)], G := lookN [(118, laws_eqEditS.sig), (119, laws_eqByteSS.sig)], fz := [], lv := [], lx := [], lf := [], od := [] }
noncomputable def sem (a : Arg) : Option Out := lift fun k => bodyK E k Go.Proofs.Try.f44 ps rs [] [] a
noncomputable def sig : Sig := { ps := ps, rs := rs, F := fun a => sem a }
noncomputable def C : Code := bodyOf Go.Proofs.Try.f44
noncomputable def fin : St → Option Out := outK ps rs [] (Func.results Go.Proofs.Try.f44).toList (mvs [])
noncomputable def K0 : Ex → St → Option Out := endK fin
noncomputable def p (a1 : Arg) : Option Out := bif !decide (a1.1.1 = a1.2.1.1) then (some (false, ())) else (laws_eqEditS.sem (a1.1.2.1, a1.2.1.2.1, ())).bind fun r2 => bif !r2.1 then (some (false, ())) else (laws_eqByteSS.sem (a1.1.2.2.1, a1.2.1.2.2.1, ())).bind fun r3 => bif !r3.1 then (some (false, ())) else some (true, ())
noncomputable def raw (k : Nat) (a1 : Arg) : Option Out := p a1
theorem p_eq (k : Nat) (a1 : Arg) : bodyK E k Go.Proofs.Try.f44 ps rs [] [] a1 = p a1 := by kernel_rfl
theorem raw_eq (k : Nat) (a1 : Arg) : bodyK E k Go.Proofs.Try.f44 ps rs [] [] a1 = raw k a1 := (p_eq k a1).trans (by rfl)
theorem ent : EnterOk Go.Proofs.Try.prog 44 sig.cap := ⟨Go.Proofs.Try.f44, Go.Proofs.Try.func44, by kernel_rfl, by kernel_rfl, by kernel_rfl⟩
theorem env : EnvOk Go.Proofs.Try.prog E := env_ok (tl := [(2, i64), (38, (.slc (.slc u8))), (72, (.slc tRun)), (74, tEditsResult)]) (gl := [(118, laws_eqEditS.sig), (119, laws_eqByteSS.sig)]) rfl rfl (by kernel_rfl) (by kernel_rfl) (fn_cons laws_eqEditS.snd laws_eqEditS.ent (fn_cons laws_eqByteSS.snd laws_eqByteSS.ent (fn_nil _)))
theorem chk : funOk Go.Proofs.Try.prog E Go.Proofs.Try.f44 ps rs [] = true := by kernel_rfl
theorem snd : Sound Go.Proofs.Try.prog 44 sig := sound_of_body env Go.Proofs.Try.func44 rfl (es := []) (fr := []) chk (fun _ _ h => lift_some h)
end laws_eqEditsResult
namespace laws_eqRecordS
/-! loop example g00408 laws eqRecordS -/
abbrev Arg : Type := (List Record) × (List Record) × Unit
abbrev Out : Type := Bool × Unit
noncomputable def ps : List (PM × Ty) := [(.ro, (.slc tRecord)), (.ro, (.slc tRecord))]
noncomputable def rs : List (Ty × Md) := [(.bool, (roMd .bool))]
noncomputable def E : Env := { TI := lookN [(61, tRecord), (76, (.slc tRecord))], G := lookN [(35, laws_eqRecord.sig)], fz := [], lv := [(4, [0, 1, 5])], lx := [(0, [])], lf := [], od := [(6, [0, 1, 2, 3, 4, 5, 6, 7, 8, 9])] }
noncomputable def sem (a : Arg) : Option Out := lift fun k => bodyK E k Go.Proofs.Try.f45 ps rs [] [] a
noncomputable def sig : Sig := { ps := ps, rs := rs, F := fun a => sem a }
noncomputable def C : Code := bodyOf Go.Proofs.Try.f45
noncomputable def fin : St → Option Out := outK ps rs [] (Func.results Go.Proofs.Try.f45).toList (mvs [])
noncomputable def K0 : Ex → St → Option Out := endK fin
noncomputable def S0 (rec : St → Option Out) (a1 : Arg) : (Int) → Option Out := fun v402 => rec ({ n := 27, sl := [(0, .val (.slc tRecord) a1.1), (1, .val (.slc tRecord) a1.2.1), (5, .val i64 v402)], vr := [], lent := [] })
noncomputable def X0_0 (K : Ex → St → Option Out) (a1 : Arg) : (Unit) → Option Out := fun z => K (.exit 0) ({ n := 27, sl := [], vr := [], lent := [] })
noncomputable def b0 (self : Int → Option Out) (e0 : (Unit) → Option Out) (a1 : Arg) (v402 : Int) : Option Out := bif decide (v402 < (a1.1.length : Int)) then (if 0 ≤ v402 then ((a1.1[v402.toNat]?).bind fun x603 => if 0 ≤ v402 then ((a1.2.1[v402.toNat]?).bind fun x604 => (laws_eqRecord.sem (x603, x604, ())).bind fun r605 => bif !r605.1 then (some (false, ())) else self (w64 (v402 + (1 : Int)))) else none) else none) else e0 ()
noncomputable def B0 (k : Nat) (self : Int → Option Out) (e0 : (Unit) → Option Out) (a1 : Arg) (v402 : Int) : Option Out := b0 self e0 a1 v402
theorem b0_eq (k : Nat) (rec : St → Option Out) (K : Ex → St → Option Out) (a1 : Arg) (v402 : Int) : codeK E k fin (sub [1, 1, 0, 1, 0, 0] C) ({ n := 27, sl := [(0, .val (.slc tRecord) a1.1), (1, .val (.slc tRecord) a1.2.1), (5, .val i64 v402)], vr := [], lent := [] }) (loopC rec (keepF [0, 1, 5] []) K) = b0 (S0 rec a1) (X0_0 K a1) a1 v402 := by kernel_rfl
theorem B0_eq (k : Nat) (rec : St → Option Out) (K : Ex → St → Option Out) (a1 : Arg) (v402 : Int) : codeK E k fin (sub [1, 1, 0, 1, 0, 0] C) ({ n := 27, sl := [(0, .val (.slc tRecord) a1.1), (1, .val (.slc tRecord) a1.2.1), (5, .val i64 v402)], vr := [], lent := [] }) (loopC rec (keepF [0, 1, 5] []) K) = B0 k (S0 rec a1) (X0_0 K a1) a1 v402 := (b0_eq k rec K a1 v402).trans (by rfl)
noncomputable def l0 (k : Nat) (a1 : Arg) (e0 : (Unit) → Option Out) (v : Int) : Option Out := rawIter (fun self v => B0 k self e0 a1 v) k v
theorem l0_eq (k : Nat) (K : Ex → St → Option Out) (a1 : Arg) (v402 : Int) : iterK (codeK E k fin (sub [1, 1, 0, 1, 0, 0] C)) (keepF [0, 1, 5] []) K k ({ n := 27, sl := [(0, .val (.slc tRecord) a1.1), (1, .val (.slc tRecord) a1.2.1), (5, .val i64 v402)], vr := [], lent := [] }) = l0 k a1 (X0_0 K a1) v402 :=
  iter_raw _ _ K (fun v402 => ({ n := 27, sl := [(0, .val (.slc tRecord) a1.1), (1, .val (.slc tRecord) a1.2.1), (5, .val i64 v402)], vr := [], lent := [] } : St)) (fun self v => B0 k self (X0_0 K a1) a1 v) (fun rec v => B0_eq k rec K a1 v) k v402
noncomputable def q0 (a1 : Arg) (z606 : (Unit)) : Option Out := some (true, ())
noncomputable def Q0 (k : Nat) (a1 : Arg) (z606 : (Unit)) : Option Out := q0 a1 z606
theorem q0_eq (k : Nat) (a1 : Arg) (z606 : (Unit)) : (blockC 0 (seqC (codeK E k fin (sub [1, 1, 1] C)) K0)) (.exit 0) ({ n := 27, sl := [], vr := [], lent := [] }) = q0 a1 z606 := by kernel_rfl
theorem Q0_eq (k : Nat) (a1 : Arg) (z606 : (Unit)) : (blockC 0 (seqC (codeK E k fin (sub [1, 1, 1] C)) K0)) (.exit 0) ({ n := 27, sl := [], vr := [], lent := [] }) = Q0 k a1 z606 := (q0_eq k a1 z606).trans (by rfl)
noncomputable def s0 (k : Nat) (a1 : Arg) : (Int) → Option Out := fun v402 => iterK (codeK E k fin (sub [1, 1, 0, 1, 0, 0] C)) (keepF [0, 1, 5] []) (blockC 0 (seqC (codeK E k fin (sub [1, 1, 1] C)) K0)) k ({ n := 27, sl := [(0, .val (.slc tRecord) a1.1), (1, .val (.slc tRecord) a1.2.1), (5, .val i64 v402)], vr := [], lent := [] })
noncomputable def r0 (k : Nat) (a1 : Arg) : (Int) → Option Out := fun v402 => l0 k a1 (fun z => Q0 k a1 z) v402
theorem s0_eq (k : Nat) (a1 : Arg) : s0 k a1 = r0 k a1 := by
  funext v402;
  have h0 : X0_0 ((blockC 0 (seqC (codeK E k fin (sub [1, 1, 1] C)) K0))) a1 = fun z => Q0 k a1 z := funext fun z => Q0_eq k a1 z
  refine (l0_eq k ((blockC 0 (seqC (codeK E k fin (sub [1, 1, 1] C)) K0))) a1 v402).trans ?_
  rw [h0]
  rfl
noncomputable def p (l0 : (Int) → Option Out) (a1 : Arg) : Option Out := bif !decide ((a1.1.length : Int) = (a1.2.1.length : Int)) then (some (false, ())) else l0 (0 : Int)
noncomputable def raw (k : Nat) (a1 : Arg) : Option Out := p (r0 k a1) a1
theorem p_eq (k : Nat) (a1 : Arg) : bodyK E k Go.Proofs.Try.f45 ps rs [] [] a1 = p (s0 k a1) a1 := by kernel_rfl
theorem raw_eq (k : Nat) (a1 : Arg) : bodyK E k Go.Proofs.Try.f45 ps rs [] [] a1 = raw k a1 := (p_eq k a1).trans (by rw [s0_eq]; rfl)
theorem ent : EnterOk Go.Proofs.Try.prog 45 sig.cap := ⟨Go.Proofs.Try.f45, Go.Proofs.Try.func45, by kernel_rfl, by kernel_rfl, by kernel_rfl⟩
theorem env : EnvOk Go.Proofs.Try.prog E := env_ok (tl := [(61, tRecord), (76, (.slc tRecord))]) (gl := [(35, laws_eqRecord.sig)]) rfl rfl (by kernel_rfl) (by kernel_rfl) (fn_cons laws_eqRecord.snd laws_eqRecord.ent (fn_nil _))
theorem chk : funOk Go.Proofs.Try.prog E Go.Proofs.Try.f45 ps rs [] = true := by kernel_rfl
theorem snd : Sound Go.Proofs.Try.prog 45 sig := sound_of_body env Go.Proofs.Try.func45 rfl (es := []) (fr := []) chk (fun _ _ h => lift_some h)
end laws_eqRecordS
namespace laws_markRecordS
/-! loop example g00408 laws markRecordS -/
abbrev Arg : Type := (List Record) × Int × Unit
abbrev Out : Type := Int × (List Record) × Unit
noncomputable def ps : List (PM × Ty) := [(.muts (ownMd (.slc tRecord)), (.slc tRecord)), (.ro, i64)]
noncomputable def rs : List (Ty × Md) := [(i64, (roMd i64))]
noncomputable def E : Env := { TI := lookN [(2, i64), (59, (.slc tRun)), (61, tRecord), (76, (.slc tRecord))], G := lookN [(112, laws_markRunS.sig)], fz := [], lv := [(2, [0, 1, 5])], lx := [(0, [0, 1])], lf := [], od := [] }
noncomputable def sem (a : Arg) : Option Out := lift fun k => bodyK E k Go.Proofs.Try.f46 ps rs [0] [] a
noncomputable def sig : Sig := { ps := ps, rs := rs, F := fun a => sem a }
noncomputable def C : Code := bodyOf Go.Proofs.Try.f46
noncomputable def fin : St → Option Out := outK ps rs [0] (Func.results Go.Proofs.Try.f46).toList (mvs [])
noncomputable def K0 : Ex → St → Option Out := endK fin
noncomputable def S0 (rec : St → Option Out) (a1 : Arg) : ((List Record) × Int × Int) → Option Out := fun v402 => rec ({ n := 41, sl := [(0, .own (.slc tRecord) (ownMd (.slc tRecord)) [] v402.1), (1, .val i64 v402.2.1), (5, .val i64 v402.2.2)], vr := [], lent := [(0, 0, true)] })
noncomputable def X0_0 (K : Ex → St → Option Out) (a1 : Arg) : ((List Record) × Int) → Option Out := fun z => K (.exit 0) ({ n := 41, sl := [(0, .own (.slc tRecord) (ownMd (.slc tRecord)) [] z.1), (1, .val i64 z.2)], vr := [], lent := [(0, 0, true)] })
noncomputable def b0 (self : ((List Record) × Int × Int) → Option Out) (e0 : ((List Record) × Int) → Option Out) (a1 : Arg) (v402 : (List Record) × Int × Int) : Option Out := bif decide (v402.2.2 < (v402.1.length : Int)) then (if 0 ≤ v402.2.2 ∧ v402.2.2 < (v402.1.length : Int) then ((v402.1[v402.2.2.toNat]?).bind fun x603 => let y604 := v402.1.set v402.2.2.toNat (v402.2.1, x603.2); if 0 ≤ v402.2.2 ∧ v402.2.2 < (y604.length : Int) then ((y604[v402.2.2.toNat]?).bind fun x605 => let y606 := y604.set v402.2.2.toNat (x605.1, w64 (v402.2.1 + (1 : Int)), x605.2.2); if 0 ≤ v402.2.2 ∧ v402.2.2 < (y606.length : Int) then ((y606[v402.2.2.toNat]?).bind fun x607 => let y608 := y606.set v402.2.2.toNat (x607.1, x607.2.1, w64 ((w64 (v402.2.1 + (1 : Int))) + (1 : Int)), x607.2.2.2); if 0 ≤ v402.2.2 ∧ v402.2.2 < (y608.length : Int) then ((y608[v402.2.2.toNat]?).bind fun x609 => (y608[v402.2.2.toNat]?).bind fun x610 => (y608[v402.2.2.toNat]?).bind fun x611 => (laws_markRunS.sem (x611.2.2.2.1, w64 ((w64 ((w64 (v402.2.1 + (1 : Int))) + (1 : Int))) + (1 : Int)), ())).bind fun r612 => (y608[v402.2.2.toNat]?).bind fun x613 => let y614 := y608.set v402.2.2.toNat (x613.1, x613.2.1, x613.2.2.1, r612.2.1, x613.2.2.2.2); self (y614, r612.1, w64 (v402.2.2 + (1 : Int)))) else none) else none) else none) else none) else e0 (v402.1, v402.2.1)
noncomputable def B0 (k : Nat) (self : ((List Record) × Int × Int) → Option Out) (e0 : ((List Record) × Int) → Option Out) (a1 : Arg) (v402 : (List Record) × Int × Int) : Option Out := b0 self e0 a1 v402
theorem b0_eq (k : Nat) (rec : St → Option Out) (K : Ex → St → Option Out) (a1 : Arg) (v402 : (List Record) × Int × Int) : codeK E k fin (sub [1, 0, 1, 0, 0] C) ({ n := 41, sl := [(0, .own (.slc tRecord) (ownMd (.slc tRecord)) [] v402.1), (1, .val i64 v402.2.1), (5, .val i64 v402.2.2)], vr := [], lent := [(0, 0, true)] }) (loopC rec (keepF [0, 1, 5] []) K) = b0 (S0 rec a1) (X0_0 K a1) a1 v402 := by kernel_rfl
theorem B0_eq (k : Nat) (rec : St → Option Out) (K : Ex → St → Option Out) (a1 : Arg) (v402 : (List Record) × Int × Int) : codeK E k fin (sub [1, 0, 1, 0, 0] C) ({ n := 41, sl := [(0, .own (.slc tRecord) (ownMd (.slc tRecord)) [] v402.1), (1, .val i64 v402.2.1), (5, .val i64 v402.2.2)], vr := [], lent := [(0, 0, true)] }) (loopC rec (keepF [0, 1, 5] []) K) = B0 k (S0 rec a1) (X0_0 K a1) a1 v402 := (b0_eq k rec K a1 v402).trans (by rfl)
noncomputable def l0 (k : Nat) (a1 : Arg) (e0 : ((List Record) × Int) → Option Out) (v : (List Record) × Int × Int) : Option Out := rawIter (fun self v => B0 k self e0 a1 v) k v
theorem l0_eq (k : Nat) (K : Ex → St → Option Out) (a1 : Arg) (v402 : (List Record) × Int × Int) : iterK (codeK E k fin (sub [1, 0, 1, 0, 0] C)) (keepF [0, 1, 5] []) K k ({ n := 41, sl := [(0, .own (.slc tRecord) (ownMd (.slc tRecord)) [] v402.1), (1, .val i64 v402.2.1), (5, .val i64 v402.2.2)], vr := [], lent := [(0, 0, true)] }) = l0 k a1 (X0_0 K a1) v402 :=
  iter_raw _ _ K (fun v402 => ({ n := 41, sl := [(0, .own (.slc tRecord) (ownMd (.slc tRecord)) [] v402.1), (1, .val i64 v402.2.1), (5, .val i64 v402.2.2)], vr := [], lent := [(0, 0, true)] } : St)) (fun self v => B0 k self (X0_0 K a1) a1 v) (fun rec v => B0_eq k rec K a1 v) k v402
noncomputable def q0 (a1 : Arg) (z615 : ((List Record) × Int)) : Option Out := some (z615.2, z615.1, ())
noncomputable def Q0 (k : Nat) (a1 : Arg) (z615 : ((List Record) × Int)) : Option Out := q0 a1 z615
theorem q0_eq (k : Nat) (a1 : Arg) (z615 : ((List Record) × Int)) : (blockC 0 (seqC (codeK E k fin (sub [1, 1] C)) K0)) (.exit 0) ({ n := 41, sl := [(0, .own (.slc tRecord) (ownMd (.slc tRecord)) [] z615.1), (1, .val i64 z615.2)], vr := [], lent := [(0, 0, true)] }) = q0 a1 z615 := by kernel_rfl
theorem Q0_eq (k : Nat) (a1 : Arg) (z615 : ((List Record) × Int)) : (blockC 0 (seqC (codeK E k fin (sub [1, 1] C)) K0)) (.exit 0) ({ n := 41, sl := [(0, .own (.slc tRecord) (ownMd (.slc tRecord)) [] z615.1), (1, .val i64 z615.2)], vr := [], lent := [(0, 0, true)] }) = Q0 k a1 z615 := (q0_eq k a1 z615).trans (by rfl)
noncomputable def s0 (k : Nat) (a1 : Arg) : ((List Record) × Int × Int) → Option Out := fun v402 => iterK (codeK E k fin (sub [1, 0, 1, 0, 0] C)) (keepF [0, 1, 5] []) (blockC 0 (seqC (codeK E k fin (sub [1, 1] C)) K0)) k ({ n := 41, sl := [(0, .own (.slc tRecord) (ownMd (.slc tRecord)) [] v402.1), (1, .val i64 v402.2.1), (5, .val i64 v402.2.2)], vr := [], lent := [(0, 0, true)] })
noncomputable def r0 (k : Nat) (a1 : Arg) : ((List Record) × Int × Int) → Option Out := fun v402 => l0 k a1 (fun z => Q0 k a1 z) v402
theorem s0_eq (k : Nat) (a1 : Arg) : s0 k a1 = r0 k a1 := by
  funext v402;
  have h0 : X0_0 ((blockC 0 (seqC (codeK E k fin (sub [1, 1] C)) K0))) a1 = fun z => Q0 k a1 z := funext fun z => Q0_eq k a1 z
  refine (l0_eq k ((blockC 0 (seqC (codeK E k fin (sub [1, 1] C)) K0))) a1 v402).trans ?_
  rw [h0]
  rfl
noncomputable def p (l0 : ((List Record) × Int × Int) → Option Out) (a1 : Arg) : Option Out := l0 (a1.1, a1.2.1, (0 : Int))
noncomputable def raw (k : Nat) (a1 : Arg) : Option Out := p (r0 k a1) a1
theorem p_eq (k : Nat) (a1 : Arg) : bodyK E k Go.Proofs.Try.f46 ps rs [0] [] a1 = p (s0 k a1) a1 := by kernel_rfl
theorem raw_eq (k : Nat) (a1 : Arg) : bodyK E k Go.Proofs.Try.f46 ps rs [0] [] a1 = raw k a1 := (p_eq k a1).trans (by rw [s0_eq]; rfl)
theorem ent : EnterOk Go.Proofs.Try.prog 46 sig.cap := ⟨Go.Proofs.Try.f46, Go.Proofs.Try.func46, by kernel_rfl, by kernel_rfl, by kernel_rfl⟩
theorem env : EnvOk Go.Proofs.Try.prog E := env_ok (tl := [(2, i64), (59, (.slc tRun)), (61, tRecord), (76, (.slc tRecord))]) (gl := [(112, laws_markRunS.sig)]) rfl rfl (by kernel_rfl) (by kernel_rfl) (fn_cons laws_markRunS.snd laws_markRunS.ent (fn_nil _))
theorem chk : funOk Go.Proofs.Try.prog E Go.Proofs.Try.f46 ps rs [0] = true := by kernel_rfl
theorem snd : Sound Go.Proofs.Try.prog 46 sig := sound_of_body env Go.Proofs.Try.func46 rfl (es := [0]) (fr := []) chk (fun _ _ h => lift_some h)
end laws_markRecordS
namespace laws_markEditS
/-! loop example g00408 laws markEditS -/
abbrev Arg : Type := (List Run) × Int × Unit
abbrev Out : Type := Int × (List Run) × Unit
noncomputable def ps : List (PM × Ty) := [(.muts (ownMd (.slc tRun)), (.slc tRun)), (.ro, i64)]
noncomputable def rs : List (Ty × Md) := [(i64, (roMd i64))]
noncomputable def E : Env := { TI := lookN [(2, i64), (39, (.slc u8)), (72, (.slc tRun)), (245, tRun)], G := lookN [(111, laws_markByteS.sig)], fz := [], lv := [(2, [0, 1, 5])], lx := [(0, [0, 1])], lf := [], od := [] }
noncomputable def sem (a : Arg) : Option Out := lift fun k => bodyK E k Go.Proofs.Try.f120 ps rs [0] [] a
noncomputable def sig : Sig := { ps := ps, rs := rs, F := fun a => sem a }
noncomputable def C : Code := bodyOf Go.Proofs.Try.f120
noncomputable def fin : St → Option Out := outK ps rs [0] (Func.results Go.Proofs.Try.f120).toList (mvs [])
noncomputable def K0 : Ex → St → Option Out := endK fin
noncomputable def S0 (rec : St → Option Out) (a1 : Arg) : ((List Run) × Int × Int) → Option Out := fun v402 => rec ({ n := 27, sl := [(0, .own (.slc tRun) (ownMd (.slc tRun)) [] v402.1), (1, .val i64 v402.2.1), (5, .val i64 v402.2.2)], vr := [], lent := [(0, 0, true)] })
noncomputable def X0_0 (K : Ex → St → Option Out) (a1 : Arg) : ((List Run) × Int) → Option Out := fun z => K (.exit 0) ({ n := 27, sl := [(0, .own (.slc tRun) (ownMd (.slc tRun)) [] z.1), (1, .val i64 z.2)], vr := [], lent := [(0, 0, true)] })
noncomputable def b0 (self : ((List Run) × Int × Int) → Option Out) (e0 : ((List Run) × Int) → Option Out) (a1 : Arg) (v402 : (List Run) × Int × Int) : Option Out := bif decide (v402.2.2 < (v402.1.length : Int)) then (if 0 ≤ v402.2.2 ∧ v402.2.2 < (v402.1.length : Int) then ((v402.1[v402.2.2.toNat]?).bind fun x603 => let y604 := v402.1.set v402.2.2.toNat (v402.2.1, x603.2); if 0 ≤ v402.2.2 ∧ v402.2.2 < (y604.length : Int) then ((y604[v402.2.2.toNat]?).bind fun x605 => (y604[v402.2.2.toNat]?).bind fun x606 => (y604[v402.2.2.toNat]?).bind fun x607 => (laws_markByteS.sem (x607.2.1, w64 (v402.2.1 + (1 : Int)), ())).bind fun r608 => (y604[v402.2.2.toNat]?).bind fun x609 => let y610 := y604.set v402.2.2.toNat (x609.1, r608.2.1, x609.2.2); self (y610, r608.1, w64 (v402.2.2 + (1 : Int)))) else none) else none) else e0 (v402.1, v402.2.1)
noncomputable def B0 (k : Nat) (self : ((List Run) × Int × Int) → Option Out) (e0 : ((List Run) × Int) → Option Out) (a1 : Arg) (v402 : (List Run) × Int × Int) : Option Out := b0 self e0 a1 v402
theorem b0_eq (k : Nat) (rec : St → Option Out) (K : Ex → St → Option Out) (a1 : Arg) (v402 : (List Run) × Int × Int) : codeK E k fin (sub [1, 0, 1, 0, 0] C) ({ n := 27, sl := [(0, .own (.slc tRun) (ownMd (.slc tRun)) [] v402.1), (1, .val i64 v402.2.1), (5, .val i64 v402.2.2)], vr := [], lent := [(0, 0, true)] }) (loopC rec (keepF [0, 1, 5] []) K) = b0 (S0 rec a1) (X0_0 K a1) a1 v402 := by kernel_rfl
theorem B0_eq (k : Nat) (rec : St → Option Out) (K : Ex → St → Option Out) (a1 : Arg) (v402 : (List Run) × Int × Int) : codeK E k fin (sub [1, 0, 1, 0, 0] C) ({ n := 27, sl := [(0, .own (.slc tRun) (ownMd (.slc tRun)) [] v402.1), (1, .val i64 v402.2.1), (5, .val i64 v402.2.2)], vr := [], lent := [(0, 0, true)] }) (loopC rec (keepF [0, 1, 5] []) K) = B0 k (S0 rec a1) (X0_0 K a1) a1 v402 := (b0_eq k rec K a1 v402).trans (by rfl)
noncomputable def l0 (k : Nat) (a1 : Arg) (e0 : ((List Run) × Int) → Option Out) (v : (List Run) × Int × Int) : Option Out := rawIter (fun self v => B0 k self e0 a1 v) k v
theorem l0_eq (k : Nat) (K : Ex → St → Option Out) (a1 : Arg) (v402 : (List Run) × Int × Int) : iterK (codeK E k fin (sub [1, 0, 1, 0, 0] C)) (keepF [0, 1, 5] []) K k ({ n := 27, sl := [(0, .own (.slc tRun) (ownMd (.slc tRun)) [] v402.1), (1, .val i64 v402.2.1), (5, .val i64 v402.2.2)], vr := [], lent := [(0, 0, true)] }) = l0 k a1 (X0_0 K a1) v402 :=
  iter_raw _ _ K (fun v402 => ({ n := 27, sl := [(0, .own (.slc tRun) (ownMd (.slc tRun)) [] v402.1), (1, .val i64 v402.2.1), (5, .val i64 v402.2.2)], vr := [], lent := [(0, 0, true)] } : St)) (fun self v => B0 k self (X0_0 K a1) a1 v) (fun rec v => B0_eq k rec K a1 v) k v402
noncomputable def q0 (a1 : Arg) (z611 : ((List Run) × Int)) : Option Out := some (z611.2, z611.1, ())
noncomputable def Q0 (k : Nat) (a1 : Arg) (z611 : ((List Run) × Int)) : Option Out := q0 a1 z611
theorem q0_eq (k : Nat) (a1 : Arg) (z611 : ((List Run) × Int)) : (blockC 0 (seqC (codeK E k fin (sub [1, 1] C)) K0)) (.exit 0) ({ n := 27, sl := [(0, .own (.slc tRun) (ownMd (.slc tRun)) [] z611.1), (1, .val i64 z611.2)], vr := [], lent := [(0, 0, true)] }) = q0 a1 z611 := by kernel_rfl
theorem Q0_eq (k : Nat) (a1 : Arg) (z611 : ((List Run) × Int)) : (blockC 0 (seqC (codeK E k fin (sub [1, 1] C)) K0)) (.exit 0) ({ n := 27, sl := [(0, .own (.slc tRun) (ownMd (.slc tRun)) [] z611.1), (1, .val i64 z611.2)], vr := [], lent := [(0, 0, true)] }) = Q0 k a1 z611 := (q0_eq k a1 z611).trans (by rfl)
noncomputable def s0 (k : Nat) (a1 : Arg) : ((List Run) × Int × Int) → Option Out := fun v402 => iterK (codeK E k fin (sub [1, 0, 1, 0, 0] C)) (keepF [0, 1, 5] []) (blockC 0 (seqC (codeK E k fin (sub [1, 1] C)) K0)) k ({ n := 27, sl := [(0, .own (.slc tRun) (ownMd (.slc tRun)) [] v402.1), (1, .val i64 v402.2.1), (5, .val i64 v402.2.2)], vr := [], lent := [(0, 0, true)] })
noncomputable def r0 (k : Nat) (a1 : Arg) : ((List Run) × Int × Int) → Option Out := fun v402 => l0 k a1 (fun z => Q0 k a1 z) v402
theorem s0_eq (k : Nat) (a1 : Arg) : s0 k a1 = r0 k a1 := by
  funext v402;
  have h0 : X0_0 ((blockC 0 (seqC (codeK E k fin (sub [1, 1] C)) K0))) a1 = fun z => Q0 k a1 z := funext fun z => Q0_eq k a1 z
  refine (l0_eq k ((blockC 0 (seqC (codeK E k fin (sub [1, 1] C)) K0))) a1 v402).trans ?_
  rw [h0]
  rfl
noncomputable def p (l0 : ((List Run) × Int × Int) → Option Out) (a1 : Arg) : Option Out := l0 (a1.1, a1.2.1, (0 : Int))
noncomputable def raw (k : Nat) (a1 : Arg) : Option Out := p (r0 k a1) a1
theorem p_eq (k : Nat) (a1 : Arg) : bodyK E k Go.Proofs.Try.f120 ps rs [0] [] a1 = p (s0 k a1) a1 := by kernel_rfl
theorem raw_eq (k : Nat) (a1 : Arg) : bodyK E k Go.Proofs.Try.f120 ps rs [0] [] a1 = raw k a1 := (p_eq k a1).trans (by rw [s0_eq]; rfl)
theorem ent : EnterOk Go.Proofs.Try.prog 120 sig.cap := ⟨Go.Proofs.Try.f120, Go.Proofs.Try.func120, by kernel_rfl, by kernel_rfl, by kernel_rfl⟩
theorem env : EnvOk Go.Proofs.Try.prog E := env_ok (tl := [(2, i64), (39, (.slc u8)), (72, (.slc tRun)), (245, tRun)]) (gl := [(111, laws_markByteS.sig)]) rfl rfl (by kernel_rfl) (by kernel_rfl) (fn_cons laws_markByteS.snd laws_markByteS.ent (fn_nil _))
theorem chk : funOk Go.Proofs.Try.prog E Go.Proofs.Try.f120 ps rs [0] = true := by kernel_rfl
theorem snd : Sound Go.Proofs.Try.prog 120 sig := sound_of_body env Go.Proofs.Try.func120 rfl (es := [0]) (fr := []) chk (fun _ _ h => lift_some h)
end laws_markEditS
namespace laws_markEditsResult
/-! loop example g00408 laws markEditsResult -/
abbrev Arg : Type := EditsResult × Int × Unit
abbrev Out : Type := Int × EditsResult × Unit
noncomputable def ps : List (PM × Ty) := [(.muts (ownMd tEditsResult), tEditsResult), (.ro, i64)]
noncomputable def rs : List (Ty × Md) := [(i64, (roMd i64))]
noncomputable def E : Env := { TI := lookN [(38, (.slc (.slc u8))), (72, (.slc tRun)), (74, tEditsResult)], G := lookN [(120, laws_markEditS.sig), (121, laws_markByteSS.sig)], fz := [], lv := [], lx := [], lf := [], od := [] }
noncomputable def sem (a : Arg) : Option Out := lift fun k => bodyK E k Go.Proofs.Try.f47 ps rs [2] [] a
noncomputable def sig : Sig := { ps := ps, rs := rs, F := fun a => sem a }
noncomputable def C : Code := bodyOf Go.Proofs.Try.f47
noncomputable def fin : St → Option Out := outK ps rs [2] (Func.results Go.Proofs.Try.f47).toList (mvs [])
noncomputable def K0 : Ex → St → Option Out := endK fin
noncomputable def p (a1 : Arg) : Option Out := (laws_markEditS.sem (a1.1.2.1, a1.2.1, ())).bind fun r2 => (laws_markByteSS.sem (a1.1.2.2.1, r2.1, ())).bind fun r3 => some (r3.1, (a1.1.1, r2.2.1, r3.2.1, a1.1.2.2.2), ())
noncomputable def raw (k : Nat) (a1 : Arg) : Option Out := p a1
theorem p_eq (k : Nat) (a1 : Arg) : bodyK E k Go.Proofs.Try.f47 ps rs [2] [] a1 = p a1 := by kernel_rfl
theorem raw_eq (k : Nat) (a1 : Arg) : bodyK E k Go.Proofs.Try.f47 ps rs [2] [] a1 = raw k a1 := (p_eq k a1).trans (by rfl)
theorem ent : EnterOk Go.Proofs.Try.prog 47 sig.cap := ⟨Go.Proofs.Try.f47, Go.Proofs.Try.func47, by kernel_rfl, by kernel_rfl, by kernel_rfl⟩
theorem env : EnvOk Go.Proofs.Try.prog E := env_ok (tl := [(38, (.slc (.slc u8))), (72, (.slc tRun)), (74, tEditsResult)]) (gl := [(120, laws_markEditS.sig), (121, laws_markByteSS.sig)]) rfl rfl (by kernel_rfl) (by kernel_rfl) (fn_cons laws_markEditS.snd laws_markEditS.ent (fn_cons laws_markByteSS.snd laws_markByteSS.ent (fn_nil _)))
theorem chk : funOk Go.Proofs.Try.prog E Go.Proofs.Try.f47 ps rs [2] = true := by kernel_rfl
theorem snd : Sound Go.Proofs.Try.prog 47 sig := sound_of_body env Go.Proofs.Try.func47 rfl (es := [2]) (fr := []) chk (fun _ _ h => lift_some h)
end laws_markEditsResult
namespace laws_heldEditS
/-! loop example g00408 laws heldEditS -/
abbrev Arg : Type := (List Run) × Int × Unit
abbrev Out : Type := Int × Unit
noncomputable def ps : List (PM × Ty) := [(.ro, (.slc tRun)), (.ro, i64)]
noncomputable def rs : List (Ty × Md) := [(i64, (roMd i64))]
noncomputable def E : Env := { TI := lookN [(2, i64), (39, (.slc u8)), (72, (.slc tRun)), (245, tRun)], G := lookN [(193, laws_heldByteS.sig)], fz := [], lv := [(2, [0, 1, 5])], lx := [(0, [1])], lf := [], od := [] }
noncomputable def sem (a : Arg) : Option Out := lift fun k => bodyK E k Go.Proofs.Try.f122 ps rs [] [] a
noncomputable def sig : Sig := { ps := ps, rs := rs, F := fun a => sem a }
noncomputable def C : Code := bodyOf Go.Proofs.Try.f122
noncomputable def fin : St → Option Out := outK ps rs [] (Func.results Go.Proofs.Try.f122).toList (mvs [])
noncomputable def K0 : Ex → St → Option Out := endK fin
noncomputable def S0 (rec : St → Option Out) (a1 : Arg) : (Int × Int) → Option Out := fun v402 => rec ({ n := 31, sl := [(0, .val (.slc tRun) a1.1), (1, .val i64 v402.1), (5, .val i64 v402.2)], vr := [], lent := [] })
noncomputable def X0_0 (K : Ex → St → Option Out) (a1 : Arg) : Int → Option Out := fun z => K (.exit 0) ({ n := 31, sl := [(1, .val i64 z)], vr := [], lent := [] })
noncomputable def b0 (self : (Int × Int) → Option Out) (e0 : Int → Option Out) (a1 : Arg) (v402 : Int × Int) : Option Out := bif decide (v402.2 < (a1.1.length : Int)) then (if 0 ≤ v402.2 then ((a1.1[v402.2.toNat]?).bind fun x603 => bif !decide (x603.1 = v402.1) then (some ((-1 : Int), ())) else if 0 ≤ v402.2 then ((a1.1[v402.2.toNat]?).bind fun x604 => (laws_heldByteS.sem (x604.2.1, w64 (v402.1 + (1 : Int)), ())).bind fun r605 => bif decide (r605.1 < (0 : Int)) then (some ((-1 : Int), ())) else self (r605.1, w64 (v402.2 + (1 : Int)))) else none) else none) else e0 v402.1
noncomputable def B0 (k : Nat) (self : (Int × Int) → Option Out) (e0 : Int → Option Out) (a1 : Arg) (v402 : Int × Int) : Option Out := b0 self e0 a1 v402
theorem b0_eq (k : Nat) (rec : St → Option Out) (K : Ex → St → Option Out) (a1 : Arg) (v402 : Int × Int) : codeK E k fin (sub [1, 0, 1, 0, 0] C) ({ n := 31, sl := [(0, .val (.slc tRun) a1.1), (1, .val i64 v402.1), (5, .val i64 v402.2)], vr := [], lent := [] }) (loopC rec (keepF [0, 1, 5] []) K) = b0 (S0 rec a1) (X0_0 K a1) a1 v402 := by kernel_rfl
theorem B0_eq (k : Nat) (rec : St → Option Out) (K : Ex → St → Option Out) (a1 : Arg) (v402 : Int × Int) : codeK E k fin (sub [1, 0, 1, 0, 0] C) ({ n := 31, sl := [(0, .val (.slc tRun) a1.1), (1, .val i64 v402.1), (5, .val i64 v402.2)], vr := [], lent := [] }) (loopC rec (keepF [0, 1, 5] []) K) = B0 k (S0 rec a1) (X0_0 K a1) a1 v402 := (b0_eq k rec K a1 v402).trans (by rfl)
noncomputable def l0 (k : Nat) (a1 : Arg) (e0 : Int → Option Out) (v : Int × Int) : Option Out := rawIter (fun self v => B0 k self e0 a1 v) k v
theorem l0_eq (k : Nat) (K : Ex → St → Option Out) (a1 : Arg) (v402 : Int × Int) : iterK (codeK E k fin (sub [1, 0, 1, 0, 0] C)) (keepF [0, 1, 5] []) K k ({ n := 31, sl := [(0, .val (.slc tRun) a1.1), (1, .val i64 v402.1), (5, .val i64 v402.2)], vr := [], lent := [] }) = l0 k a1 (X0_0 K a1) v402 :=
  iter_raw _ _ K (fun v402 => ({ n := 31, sl := [(0, .val (.slc tRun) a1.1), (1, .val i64 v402.1), (5, .val i64 v402.2)], vr := [], lent := [] } : St)) (fun self v => B0 k self (X0_0 K a1) a1 v) (fun rec v => B0_eq k rec K a1 v) k v402
noncomputable def q0 (a1 : Arg) (z606 : Int) : Option Out := some (z606, ())
noncomputable def Q0 (k : Nat) (a1 : Arg) (z606 : Int) : Option Out := q0 a1 z606
theorem q0_eq (k : Nat) (a1 : Arg) (z606 : Int) : (blockC 0 (seqC (codeK E k fin (sub [1, 1] C)) K0)) (.exit 0) ({ n := 31, sl := [(1, .val i64 z606)], vr := [], lent := [] }) = q0 a1 z606 := by kernel_rfl
theorem Q0_eq (k : Nat) (a1 : Arg) (z606 : Int) : (blockC 0 (seqC (codeK E k fin (sub [1, 1] C)) K0)) (.exit 0) ({ n := 31, sl := [(1, .val i64 z606)], vr := [], lent := [] }) = Q0 k a1 z606 := (q0_eq k a1 z606).trans (by rfl)
noncomputable def s0 (k : Nat) (a1 : Arg) : (Int × Int) → Option Out := fun v402 => iterK (codeK E k fin (sub [1, 0, 1, 0, 0] C)) (keepF [0, 1, 5] []) (blockC 0 (seqC (codeK E k fin (sub [1, 1] C)) K0)) k ({ n := 31, sl := [(0, .val (.slc tRun) a1.1), (1, .val i64 v402.1), (5, .val i64 v402.2)], vr := [], lent := [] })
noncomputable def r0 (k : Nat) (a1 : Arg) : (Int × Int) → Option Out := fun v402 => l0 k a1 (fun z => Q0 k a1 z) v402
theorem s0_eq (k : Nat) (a1 : Arg) : s0 k a1 = r0 k a1 := by
  funext v402;
  have h0 : X0_0 ((blockC 0 (seqC (codeK E k fin (sub [1, 1] C)) K0))) a1 = fun z => Q0 k a1 z := funext fun z => Q0_eq k a1 z
  refine (l0_eq k ((blockC 0 (seqC (codeK E k fin (sub [1, 1] C)) K0))) a1 v402).trans ?_
  rw [h0]
  rfl
noncomputable def p (l0 : (Int × Int) → Option Out) (a1 : Arg) : Option Out := l0 (a1.2.1, (0 : Int))
noncomputable def raw (k : Nat) (a1 : Arg) : Option Out := p (r0 k a1) a1
theorem p_eq (k : Nat) (a1 : Arg) : bodyK E k Go.Proofs.Try.f122 ps rs [] [] a1 = p (s0 k a1) a1 := by kernel_rfl
theorem raw_eq (k : Nat) (a1 : Arg) : bodyK E k Go.Proofs.Try.f122 ps rs [] [] a1 = raw k a1 := (p_eq k a1).trans (by rw [s0_eq]; rfl)
theorem ent : EnterOk Go.Proofs.Try.prog 122 sig.cap := ⟨Go.Proofs.Try.f122, Go.Proofs.Try.func122, by kernel_rfl, by kernel_rfl, by kernel_rfl⟩
theorem env : EnvOk Go.Proofs.Try.prog E := env_ok (tl := [(2, i64), (39, (.slc u8)), (72, (.slc tRun)), (245, tRun)]) (gl := [(193, laws_heldByteS.sig)]) rfl rfl (by kernel_rfl) (by kernel_rfl) (fn_cons laws_heldByteS.snd laws_heldByteS.ent (fn_nil _))
theorem chk : funOk Go.Proofs.Try.prog E Go.Proofs.Try.f122 ps rs [] = true := by kernel_rfl
theorem snd : Sound Go.Proofs.Try.prog 122 sig := sound_of_body env Go.Proofs.Try.func122 rfl (es := []) (fr := []) chk (fun _ _ h => lift_some h)
end laws_heldEditS
namespace laws_heldEditsResult
/-! loop example g00408 laws heldEditsResult -/
abbrev Arg : Type := EditsResult × Int × Unit
abbrev Out : Type := Int × Unit
noncomputable def ps : List (PM × Ty) := [(.ro, tEditsResult), (.ro, i64)]
noncomputable def rs : List (Ty × Md) := [(i64, (roMd i64))]
noncomputable def E : Env := { TI := lookN [(38, (.slc (.slc u8))), (72, (.slc tRun)), (74, tEditsResult)], G := lookN [(122, laws_heldEditS.sig), (123, laws_heldByteSS.sig)], fz := [], lv := [], lx := [], lf := [], od := [] }
noncomputable def sem (a : Arg) : Option Out := lift fun k => bodyK E k Go.Proofs.Try.f48 ps rs [] [] a
noncomputable def sig : Sig := { ps := ps, rs := rs, F := fun a => sem a }
noncomputable def C : Code := bodyOf Go.Proofs.Try.f48
noncomputable def fin : St → Option Out := outK ps rs [] (Func.results Go.Proofs.Try.f48).toList (mvs [])
noncomputable def K0 : Ex → St → Option Out := endK fin
noncomputable def p (a1 : Arg) : Option Out := (laws_heldEditS.sem (a1.1.2.1, a1.2.1, ())).bind fun r2 => bif decide (r2.1 < (0 : Int)) then (some ((-1 : Int), ())) else (laws_heldByteSS.sem (a1.1.2.2.1, r2.1, ())).bind fun r3 => bif decide (r3.1 < (0 : Int)) then (some ((-1 : Int), ())) else some (r3.1, ())
noncomputable def raw (k : Nat) (a1 : Arg) : Option Out := p a1
theorem p_eq (k : Nat) (a1 : Arg) : bodyK E k Go.Proofs.Try.f48 ps rs [] [] a1 = p a1 := by kernel_rfl
theorem raw_eq (k : Nat) (a1 : Arg) : bodyK E k Go.Proofs.Try.f48 ps rs [] [] a1 = raw k a1 := (p_eq k a1).trans (by rfl)
theorem ent : EnterOk Go.Proofs.Try.prog 48 sig.cap := ⟨Go.Proofs.Try.f48, Go.Proofs.Try.func48, by kernel_rfl, by kernel_rfl, by kernel_rfl⟩
theorem env : EnvOk Go.Proofs.Try.prog E := env_ok (tl := [(38, (.slc (.slc u8))), (72, (.slc tRun)), (74, tEditsResult)]) (gl := [(122, laws_heldEditS.sig), (123, laws_heldByteSS.sig)]) rfl rfl (by kernel_rfl) (by kernel_rfl) (fn_cons laws_heldEditS.snd laws_heldEditS.ent (fn_cons laws_heldByteSS.snd laws_heldByteSS.ent (fn_nil _)))
theorem chk : funOk Go.Proofs.Try.prog E Go.Proofs.Try.f48 ps rs [] = true := by kernel_rfl
theorem snd : Sound Go.Proofs.Try.prog 48 sig := sound_of_body env Go.Proofs.Try.func48 rfl (es := []) (fr := []) chk (fun _ _ h => lift_some h)
end laws_heldEditsResult
namespace laws_FnExactRedoAll
/-! loop example g00408 laws FnExactRedoAll -/
abbrev Arg : Type := (List Record) × Unit
abbrev Out : Type := Bool × Unit
noncomputable def ps : List (PM × Ty) := [(.ro, (.slc tRecord))]
noncomputable def rs : List (Ty × Md) := [(.bool, (roMd .bool))]
noncomputable def E : Env := { TI := lookN [(74, tEditsResult)], G := lookN [(40, laws_szRecordS.sig), (41, spec_RedoAll.sig), (42, laws_toRecordS.sig), (43, impl_RedoAll.sig), (44, laws_eqEditsResult.sig), (45, laws_eqRecordS.sig), (46, laws_markRecordS.sig), (47, laws_markEditsResult.sig), (48, laws_heldEditsResult.sig)], fz := [], lv := [], lx := [], lf := [], od := [] }
noncomputable def sem (a : Arg) : Option Out := lift fun k => bodyK E k Go.Proofs.Try.f7 ps rs [] [] a
noncomputable def sig : Sig := { ps := ps, rs := rs, F := fun a => sem a }
noncomputable def C : Code := bodyOf Go.Proofs.Try.f7
noncomputable def fin : St → Option Out := outK ps rs [] (Func.results Go.Proofs.Try.f7).toList (mvs [])
noncomputable def K0 : Ex → St → Option Out := endK fin
noncomputable def p (a1 : Arg) : Option Out := (laws_szRecordS.sem (a1.1, (1048576 : Int), ())).bind fun r2 => bif decide (r2.1 < (0 : Int)) then (some (true, ())) else (laws_toRecordS.sem (a1.1, ())).bind fun r3 => (spec_RedoAll.sem (r3.1, ())).bind fun r4 => (laws_toRecordS.sem (a1.1, ())).bind fun r5 => (impl_RedoAll.sem (r5.1, ())).bind fun r6 => (laws_eqEditsResult.sem (r6.1, r4.1, ())).bind fun r7 => bif !r7.1 then (some (false, ())) else (laws_toRecordS.sem (a1.1, ())).bind fun r8 => (laws_eqRecordS.sem (r5.1, r8.1, ())).bind fun r9 => bif !r9.1 then (some (false, ())) else (laws_markRecordS.sem (r5.1, (1 : Int), ())).bind fun r10 => bif decide (r10.1 < (0 : Int)) then (some (false, ())) else (laws_eqEditsResult.sem (r6.1, r4.1, ())).bind fun r11 => bif !r11.1 then (some (false, ())) else (laws_markEditsResult.sem (r6.1, (1 : Int), ())).bind fun r12 => (laws_heldEditsResult.sem (r12.2.1, (1 : Int), ())).bind fun r13 => bif decide (r13.1 < (0 : Int)) then (some (false, ())) else bif !decide (r13.1 = r12.1) then (some (false, ())) else (laws_toRecordS.sem (a1.1, ())).bind fun r14 => (impl_RedoAll.sem (r14.1, ())).bind fun r15 => (laws_eqEditsResult.sem (r15.1, r4.1, ())).bind fun r16 => bif !r16.1 then (some (false, ())) else (laws_heldEditsResult.sem (r12.2.1, (1 : Int), ())).bind fun r17 => bif decide (r17.1 < (0 : Int)) then (some (false, ())) else bif !decide (r17.1 = r12.1) then (some (false, ())) else some (true, ())
noncomputable def raw (k : Nat) (a1 : Arg) : Option Out := p a1
theorem p_eq (k : Nat) (a1 : Arg) : bodyK E k Go.Proofs.Try.f7 ps rs [] [] a1 = p a1 := by kernel_rfl
theorem raw_eq (k : Nat) (a1 : Arg) : bodyK E k Go.Proofs.Try.f7 ps rs [] [] a1 = raw k a1 := (p_eq k a1).trans (by rfl)
theorem ent : EnterOk Go.Proofs.Try.prog 7 sig.cap := ⟨Go.Proofs.Try.f7, Go.Proofs.Try.func7, by kernel_rfl, by kernel_rfl, by kernel_rfl⟩
theorem env : EnvOk Go.Proofs.Try.prog E := env_ok (tl := [(74, tEditsResult)]) (gl := [(40, laws_szRecordS.sig), (41, spec_RedoAll.sig), (42, laws_toRecordS.sig), (43, impl_RedoAll.sig), (44, laws_eqEditsResult.sig), (45, laws_eqRecordS.sig), (46, laws_markRecordS.sig), (47, laws_markEditsResult.sig), (48, laws_heldEditsResult.sig)]) rfl rfl (by kernel_rfl) (by kernel_rfl) (fn_cons laws_szRecordS.snd laws_szRecordS.ent (fn_cons spec_RedoAll.snd spec_RedoAll.ent (fn_cons laws_toRecordS.snd laws_toRecordS.ent (fn_cons impl_RedoAll.snd impl_RedoAll.ent (fn_cons laws_eqEditsResult.snd laws_eqEditsResult.ent (fn_cons laws_eqRecordS.snd laws_eqRecordS.ent (fn_cons laws_markRecordS.snd laws_markRecordS.ent (fn_cons laws_markEditsResult.snd laws_markEditsResult.ent (fn_cons laws_heldEditsResult.snd laws_heldEditsResult.ent (fn_nil _))))))))))
theorem chk : funOk Go.Proofs.Try.prog E Go.Proofs.Try.f7 ps rs [] = true := by kernel_rfl
theorem snd : Sound Go.Proofs.Try.prog 7 sig := sound_of_body env Go.Proofs.Try.func7 rfl (es := []) (fr := []) chk (fun _ _ h => lift_some h)
end laws_FnExactRedoAll
end OT
