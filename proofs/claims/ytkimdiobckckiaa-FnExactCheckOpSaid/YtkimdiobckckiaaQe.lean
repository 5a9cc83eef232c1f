/- The proof's parts, merged: Printed by gen.py, a program of this claim  what each Go function computes.. No conditions but those that each states. -/
import Derived.Test.YtkimdiobckckiaaQd
set_option maxRecDepth 100000
set_option linter.unusedVariables false
namespace OT
open Go Go.Proofs.Try
namespace impl_txFault
/-! loop example g00408 impl txFault -/
abbrev Arg : Type := Tx × Unit
abbrev Out : Type := Int × Unit
noncomputable def ps : PQ := [(.ro, tTx)]
noncomputable def rs : RQ := [(i64, (roMd i64))]
noncomputable def tl : TL := [(2, i64), (50, tChange), (65, (.slc tChange)), (96, (.slc i64)), (97, (.slc tKey)), (99, tTx), (146, tKey)]
noncomputable def gl : GL := [(47, impl_in.sig), (143, impl_singleFault.sig), (144, slices_Contains_Key.sig), (145, impl_Change_lock.sig), (146, impl_isKey.sig)]
noncomputable def E : Env := { TI := lookN tl, G := lookN gl, lv := [(2, [1, 12, 13, 14]), (14, [1, 6, 41, 42, 43]), (21, [1, 57, 58, 59])], lx := [(0, [1]), (2, [1]), (4, [])], od := [(7, [0, 1, 2, 3, 4, 5]), (25, [0, 1, 2, 3, 4, 5])] }
noncomputable def W (k : Nat) (a : Arg) : Option Out := bodyK E k f93 ps rs [] [] a
noncomputable def sem (a : Arg) : Option Out := lift fun k => W k a
noncomputable def sig : Sig := { ps := ps, rs := rs, F := sem }
noncomputable def C : Code := bodyOf f93
noncomputable def fin : St → Option Out := outK ps rs [] (Func.results f93).toList (mvs [])
noncomputable def K0 : Ex → St → Option Out := endK fin
noncomputable def T0 (a1 : Arg) (v402 : Int) : St := { n := 77, sl := [(1, .box tTx (roMd tTx) [] a1.1), (12, .val (.slc tChange) a1.1.2.1), (13, .val i64 (a1.1.2.1.length : Int)), (14, .val i64 v402)], vr := [], lent := [] }
noncomputable def N0 (k : Nat) : St → (Ex → St → Option Out) → Option Out := codeK E k fin (sub [1, 0, 1, 0, 0] C)
noncomputable def M0 : St → St := keepF [1, 12, 13, 14] []
noncomputable def S0 (rec : RT Out) (a1 : Arg) : (Int) → Option Out := fun v402 => rec (T0 a1 v402)
noncomputable def X0_0 (K : KT Out) (a1 : Arg) : (Unit) → Option Out := fun z => K (.exit 0) ({ n := 77, sl := [(1, .box tTx (roMd tTx) [] a1.1)], vr := [], lent := [] })
noncomputable def b0 (self : Int → Option Out) (e0 : (Unit) → Option Out) (a1 : Arg) (v402 : Int) : Option Out := bif decide (v402 < (a1.1.2.1.length : Int)) then (if 0 ≤ v402 then ((a1.1.2.1[v402.toNat]?).bind fun x603 => (impl_singleFault.sem (x603, ())).bind fun r604 => bif !decide (r604.1 = (0 : Int)) then (some (r604.1, ())) else (impl_Change_lock.sem (x603, ())).bind fun r605 => (slices_Contains_Key.sem (a1.1.2.2.2.1, r605.1, ())).bind fun r606 => bif !r606.1 then (some ((8 : Int), ())) else self (w64 (v402 + (1 : Int)))) else none) else e0 ()
noncomputable def B0 (k : Nat) (self : Int → Option Out) (e0 : (Unit) → Option Out) (a1 : Arg) (v402 : Int) : Option Out := b0 self e0 a1 v402
theorem B0_eq (k : Nat) (rec : RT Out) (K : KT Out) (a1 : Arg) (v402 : Int) : N0 k (T0 a1 v402) (loopC rec M0 K) = B0 k (S0 rec a1) (X0_0 K a1) a1 v402 := by kernel_rfl
noncomputable def l0 (k : Nat) (a1 : Arg) (e0 : (Unit) → Option Out) (v : Int) : Option Out := rawIter (fun self v => B0 k self e0 a1 v) k v
theorem l0_eq (k : Nat) (K : KT Out) (a1 : Arg) (v402 : Int) : iterK (N0 k) M0 K k (T0 a1 v402) = l0 k a1 (X0_0 K a1) v402 :=
  iter_raw _ _ K (fun v402 => (T0 a1 v402)) (fun self v => B0 k self (X0_0 K a1) a1 v) (fun rec v => B0_eq k rec K a1 v) k v402
noncomputable def T1 (a1 : Arg) (v1008 : Int × Int) : St := { n := 77, sl := [(1, .box tTx (roMd tTx) [] a1.1), (6, .val i64 v1008.1), (41, .val (.slc i64) a1.1.2.2.1), (42, .val i64 (a1.1.2.2.1.length : Int)), (43, .val i64 v1008.2)], vr := [], lent := [] }
noncomputable def N1 (k : Nat) : St → (Ex → St → Option Out) → Option Out := codeK E k fin (sub [1, 1, 1, 1, 0, 1, 0, 0] C)
noncomputable def M1 : St → St := keepF [1, 6, 41, 42, 43] []
noncomputable def S1 (rec : RT Out) (a1 : Arg) : (Int × Int) → Option Out := fun v1008 => rec (T1 a1 v1008)
noncomputable def X1_2 (K : KT Out) (a1 : Arg) : (Unit) → Option Out := fun z => K (.exit 2) ({ n := 77, sl := [(1, .box tTx (roMd tTx) [] a1.1)], vr := [], lent := [] })
noncomputable def b1 (self : (Int × Int) → Option Out) (e2 : (Unit) → Option Out) (a1 : Arg) (v1008 : Int × Int) : Option Out := bif decide (v1008.2 < (a1.1.2.2.1.length : Int)) then (if 0 ≤ v1008.2 then ((a1.1.2.2.1[v1008.2.toNat]?).bind fun x1209 => (impl_in.sem (x1209, v1008.1, (a1.1.2.1.length : Int), ())).bind fun r1210 => bif !r1210.1 then (some ((3 : Int), ())) else self (x1209, w64 (v1008.2 + (1 : Int)))) else none) else e2 ()
noncomputable def B1 (k : Nat) (self : (Int × Int) → Option Out) (e2 : (Unit) → Option Out) (a1 : Arg) (v1008 : Int × Int) : Option Out := b1 self e2 a1 v1008
theorem B1_eq (k : Nat) (rec : RT Out) (K : KT Out) (a1 : Arg) (v1008 : Int × Int) : N1 k (T1 a1 v1008) (loopC rec M1 K) = B1 k (S1 rec a1) (X1_2 K a1) a1 v1008 := by kernel_rfl
noncomputable def l1 (k : Nat) (a1 : Arg) (e2 : (Unit) → Option Out) (v : Int × Int) : Option Out := rawIter (fun self v => B1 k self e2 a1 v) k v
theorem l1_eq (k : Nat) (K : KT Out) (a1 : Arg) (v1008 : Int × Int) : iterK (N1 k) M1 K k (T1 a1 v1008) = l1 k a1 (X1_2 K a1) v1008 :=
  iter_raw _ _ K (fun v1008 => (T1 a1 v1008)) (fun self v => B1 k self (X1_2 K a1) a1 v) (fun rec v => B1_eq k rec K a1 v) k v1008
noncomputable def T2 (a1 : Arg) (v1612 : Int) : St := { n := 77, sl := [(1, .box tTx (roMd tTx) [] a1.1), (57, .val (.slc tKey) a1.1.2.2.2.1), (58, .val i64 (a1.1.2.2.2.1.length : Int)), (59, .val i64 v1612)], vr := [], lent := [] }
noncomputable def N2 (k : Nat) : St → (Ex → St → Option Out) → Option Out := codeK E k fin (sub [1, 1, 1, 1, 1, 0, 1, 0, 0] C)
noncomputable def M2 : St → St := keepF [1, 57, 58, 59] []
noncomputable def S2 (rec : RT Out) (a1 : Arg) : (Int) → Option Out := fun v1612 => rec (T2 a1 v1612)
noncomputable def X2_4 (K : KT Out) (a1 : Arg) : (Unit) → Option Out := fun z => K (.exit 4) ({ n := 77, sl := [], vr := [], lent := [] })
noncomputable def b2 (self : Int → Option Out) (e4 : (Unit) → Option Out) (a1 : Arg) (v1612 : Int) : Option Out := bif decide (v1612 < (a1.1.2.2.2.1.length : Int)) then (if 0 ≤ v1612 then ((a1.1.2.2.2.1[v1612.toNat]?).bind fun x1813 => (impl_isKey.sem (x1813.1, x1813.2.1, ())).bind fun r1814 => bif !r1814.1 then (some ((3 : Int), ())) else if 0 ≤ v1612 ∧ v1612 ≤ (a1.1.2.2.2.1.length : Int) then ((slices_Contains_Key.sem ((a1.1.2.2.2.1.take v1612.toNat).drop 0, x1813, ())).bind fun r1815 => bif r1815.1 then (some ((6 : Int), ())) else self (w64 (v1612 + (1 : Int)))) else none) else none) else e4 ()
noncomputable def B2 (k : Nat) (self : Int → Option Out) (e4 : (Unit) → Option Out) (a1 : Arg) (v1612 : Int) : Option Out := b2 self e4 a1 v1612
theorem B2_eq (k : Nat) (rec : RT Out) (K : KT Out) (a1 : Arg) (v1612 : Int) : N2 k (T2 a1 v1612) (loopC rec M2 K) = B2 k (S2 rec a1) (X2_4 K a1) a1 v1612 := by kernel_rfl
noncomputable def l2 (k : Nat) (a1 : Arg) (e4 : (Unit) → Option Out) (v : Int) : Option Out := rawIter (fun self v => B2 k self e4 a1 v) k v
theorem l2_eq (k : Nat) (K : KT Out) (a1 : Arg) (v1612 : Int) : iterK (N2 k) M2 K k (T2 a1 v1612) = l2 k a1 (X2_4 K a1) v1612 :=
  iter_raw _ _ K (fun v1612 => (T2 a1 v1612)) (fun self v => B2 k self (X2_4 K a1) a1 v) (fun rec v => B2_eq k rec K a1 v) k v1612
noncomputable def q2 (a1 : Arg) (z1816 : (Unit)) : Option Out := some ((0 : Int), ())
noncomputable def Q2 (k : Nat) (a1 : Arg) (z1816 : (Unit)) : Option Out := q2 a1 z1816
theorem Q2_eq (k : Nat) (a1 : Arg) (z1816 : (Unit)) : X2_4 (blockC 4 (seqC (codeK E k fin (sub [1, 1, 1, 1, 1, 1] C)) K0)) a1 z1816 = Q2 k a1 z1816 := by kernel_rfl
noncomputable def s2 (k : Nat) (a1 : Arg) : (Int) → Option Out := fun v1612 => iterK (N2 k) M2 (blockC 4 (seqC (codeK E k fin (sub [1, 1, 1, 1, 1, 1] C)) K0)) k (T2 a1 v1612)
noncomputable def r2 (k : Nat) (a1 : Arg) : (Int) → Option Out := fun v1612 => l2 k a1 (fun z => Q2 k a1 z) v1612
theorem s2_eq (k : Nat) (a1 : Arg) : s2 k a1 = r2 k a1 := by
  funext v1612;
  have h4 : X2_4 ((blockC 4 (seqC (codeK E k fin (sub [1, 1, 1, 1, 1, 1] C)) K0))) a1 = fun z => Q2 k a1 z := funext fun z => Q2_eq k a1 z
  refine (l2_eq k ((blockC 4 (seqC (codeK E k fin (sub [1, 1, 1, 1, 1, 1] C)) K0))) a1 v1612).trans ?_
  rw [h4]
  rfl
noncomputable def q1 (l2 : (Int) → Option Out) (a1 : Arg) (z1211 : (Unit)) : Option Out := l2 (0 : Int)
noncomputable def Q1 (k : Nat) (a1 : Arg) (z1211 : (Unit)) : Option Out := q1 (r2 k a1) a1 z1211
theorem q1_eq (k : Nat) (a1 : Arg) (z1211 : (Unit)) : X1_2 (blockC 2 (seqC (codeK E k fin (sub [1, 1, 1, 1, 1] C)) K0)) a1 z1211 = q1 (s2 k a1) a1 z1211 := by kernel_rfl
theorem Q1_eq (k : Nat) (a1 : Arg) (z1211 : (Unit)) : X1_2 (blockC 2 (seqC (codeK E k fin (sub [1, 1, 1, 1, 1] C)) K0)) a1 z1211 = Q1 k a1 z1211 := (q1_eq k a1 z1211).trans (by rw [s2_eq]; rfl)
noncomputable def s1 (k : Nat) (a1 : Arg) : (Int × Int) → Option Out := fun v1008 => iterK (N1 k) M1 (blockC 2 (seqC (codeK E k fin (sub [1, 1, 1, 1, 1] C)) K0)) k (T1 a1 v1008)
noncomputable def r1 (k : Nat) (a1 : Arg) : (Int × Int) → Option Out := fun v1008 => l1 k a1 (fun z => Q1 k a1 z) v1008
theorem s1_eq (k : Nat) (a1 : Arg) : s1 k a1 = r1 k a1 := by
  funext v1008;
  have h2 : X1_2 ((blockC 2 (seqC (codeK E k fin (sub [1, 1, 1, 1, 1] C)) K0))) a1 = fun z => Q1 k a1 z := funext fun z => Q1_eq k a1 z
  refine (l1_eq k ((blockC 2 (seqC (codeK E k fin (sub [1, 1, 1, 1, 1] C)) K0))) a1 v1008).trans ?_
  rw [h2]
  rfl
noncomputable def q0 (l1 : (Int × Int) → Option Out) (a1 : Arg) (z607 : (Unit)) : Option Out := bif decide ((8 : Int) < (a1.1.2.2.1.length : Int)) then (some ((2 : Int), ())) else bif decide ((12 : Int) < (a1.1.2.2.2.1.length : Int)) then (some ((2 : Int), ())) else l1 ((0 : Int), (0 : Int))
noncomputable def Q0 (k : Nat) (a1 : Arg) (z607 : (Unit)) : Option Out := q0 (r1 k a1) a1 z607
theorem q0_eq (k : Nat) (a1 : Arg) (z607 : (Unit)) : X0_0 (blockC 0 (seqC (codeK E k fin (sub [1, 1] C)) K0)) a1 z607 = q0 (s1 k a1) a1 z607 := by kernel_rfl
theorem Q0_eq (k : Nat) (a1 : Arg) (z607 : (Unit)) : X0_0 (blockC 0 (seqC (codeK E k fin (sub [1, 1] C)) K0)) a1 z607 = Q0 k a1 z607 := (q0_eq k a1 z607).trans (by rw [s1_eq]; rfl)
noncomputable def s0 (k : Nat) (a1 : Arg) : (Int) → Option Out := fun v402 => iterK (N0 k) M0 (blockC 0 (seqC (codeK E k fin (sub [1, 1] C)) K0)) k (T0 a1 v402)
noncomputable def r0 (k : Nat) (a1 : Arg) : (Int) → Option Out := fun v402 => l0 k a1 (fun z => Q0 k a1 z) v402
theorem s0_eq (k : Nat) (a1 : Arg) : s0 k a1 = r0 k a1 := by
  funext v402;
  have h0 : X0_0 ((blockC 0 (seqC (codeK E k fin (sub [1, 1] C)) K0))) a1 = fun z => Q0 k a1 z := funext fun z => Q0_eq k a1 z
  refine (l0_eq k ((blockC 0 (seqC (codeK E k fin (sub [1, 1] C)) K0))) a1 v402).trans ?_
  rw [h0]
  rfl
noncomputable def p (l0 : (Int) → Option Out) (a1 : Arg) : Option Out := l0 (0 : Int)
noncomputable def raw (k : Nat) (a1 : Arg) : Option Out := p (r0 k a1) a1
theorem p_eq (k : Nat) (a1 : Arg) : W k a1 = p (s0 k a1) a1 := by kernel_rfl
theorem raw_eq (k : Nat) (a1 : Arg) : W k a1 = raw k a1 := (p_eq k a1).trans (by rw [s0_eq]; rfl)
theorem ok : Ok prog 93 sig := fn_ok func93 (tl := tl) (gl := gl) (es := []) (fr := []) rfl rfl (by kernel_rfl) (fc impl_in.ok (fc impl_singleFault.ok (fc slices_Contains_Key.ok (fc impl_Change_lock.ok (fc impl_isKey.ok (fn_nil _)))))) (fun _ => rfl)
end impl_txFault
namespace impl_undone
/-! loop example g00408 impl undone -/
abbrev Arg : Type := (List Tx) × Unit
abbrev Out : Type := Int × Unit
noncomputable def ps : PQ := [(.ro, (.slc tTx))]
noncomputable def rs : RQ := [(i64, (roMd i64))]
noncomputable def tl : TL := [(29, (.slc tTx)), (65, (.slc tChange)), (99, tTx)]
noncomputable def gl : GL := []
noncomputable def E : Env := { TI := lookN tl, G := lookN gl, lv := [(3, [3, 6, 7, 8])], lx := [(0, [3])] }
noncomputable def W (k : Nat) (a : Arg) : Option Out := bodyK E k f94 ps rs [] [] a
noncomputable def sem (a : Arg) : Option Out := lift fun k => W k a
noncomputable def sig : Sig := { ps := ps, rs := rs, F := sem }
noncomputable def C : Code := bodyOf f94
noncomputable def fin : St → Option Out := outK ps rs [] (Func.results f94).toList (mvs [])
noncomputable def K0 : Ex → St → Option Out := endK fin
noncomputable def T0 (a1 : Arg) (v402 : Int × Int) : St := { n := 19, sl := [(3, .val i64 v402.1), (6, .val (.slc tTx) a1.1), (7, .val i64 (a1.1.length : Int)), (8, .val i64 v402.2)], vr := [], lent := [] }
noncomputable def N0 (k : Nat) : St → (Ex → St → Option Out) → Option Out := codeK E k fin (sub [1, 1, 0, 1, 0, 0] C)
noncomputable def M0 : St → St := keepF [3, 6, 7, 8] []
noncomputable def S0 (rec : RT Out) (a1 : Arg) : (Int × Int) → Option Out := fun v402 => rec (T0 a1 v402)
noncomputable def X0_0 (K : KT Out) (a1 : Arg) : Int → Option Out := fun z => K (.exit 0) ({ n := 19, sl := [(3, .val i64 z)], vr := [], lent := [] })
noncomputable def b0 (self : (Int × Int) → Option Out) (e0 : Int → Option Out) (a1 : Arg) (v402 : Int × Int) : Option Out := bif decide (v402.2 < (a1.1.length : Int)) then (if 0 ≤ v402.2 then ((a1.1[v402.2.toNat]?).bind fun x603 => self (w64 (v402.1 + (x603.2.1.length : Int)), w64 (v402.2 + (1 : Int)))) else none) else e0 v402.1
noncomputable def B0 (k : Nat) (self : (Int × Int) → Option Out) (e0 : Int → Option Out) (a1 : Arg) (v402 : Int × Int) : Option Out := b0 self e0 a1 v402
theorem B0_eq (k : Nat) (rec : RT Out) (K : KT Out) (a1 : Arg) (v402 : Int × Int) : N0 k (T0 a1 v402) (loopC rec M0 K) = B0 k (S0 rec a1) (X0_0 K a1) a1 v402 := by kernel_rfl
noncomputable def l0 (k : Nat) (a1 : Arg) (e0 : Int → Option Out) (v : Int × Int) : Option Out := rawIter (fun self v => B0 k self e0 a1 v) k v
theorem l0_eq (k : Nat) (K : KT Out) (a1 : Arg) (v402 : Int × Int) : iterK (N0 k) M0 K k (T0 a1 v402) = l0 k a1 (X0_0 K a1) v402 :=
  iter_raw _ _ K (fun v402 => (T0 a1 v402)) (fun self v => B0 k self (X0_0 K a1) a1 v) (fun rec v => B0_eq k rec K a1 v) k v402
noncomputable def q0 (a1 : Arg) (z604 : Int) : Option Out := some (z604, ())
noncomputable def Q0 (k : Nat) (a1 : Arg) (z604 : Int) : Option Out := q0 a1 z604
theorem Q0_eq (k : Nat) (a1 : Arg) (z604 : Int) : X0_0 (blockC 0 (seqC (codeK E k fin (sub [1, 1, 1] C)) K0)) a1 z604 = Q0 k a1 z604 := by kernel_rfl
noncomputable def s0 (k : Nat) (a1 : Arg) : (Int × Int) → Option Out := fun v402 => iterK (N0 k) M0 (blockC 0 (seqC (codeK E k fin (sub [1, 1, 1] C)) K0)) k (T0 a1 v402)
noncomputable def r0 (k : Nat) (a1 : Arg) : (Int × Int) → Option Out := fun v402 => l0 k a1 (fun z => Q0 k a1 z) v402
theorem s0_eq (k : Nat) (a1 : Arg) : s0 k a1 = r0 k a1 := by
  funext v402;
  have h0 : X0_0 ((blockC 0 (seqC (codeK E k fin (sub [1, 1, 1] C)) K0))) a1 = fun z => Q0 k a1 z := funext fun z => Q0_eq k a1 z
  refine (l0_eq k ((blockC 0 (seqC (codeK E k fin (sub [1, 1, 1] C)) K0))) a1 v402).trans ?_
  rw [h0]
  rfl
noncomputable def p (l0 : (Int × Int) → Option Out) (a1 : Arg) : Option Out := l0 ((0 : Int), (0 : Int))
noncomputable def raw (k : Nat) (a1 : Arg) : Option Out := p (r0 k a1) a1
theorem p_eq (k : Nat) (a1 : Arg) : W k a1 = p (s0 k a1) a1 := by kernel_rfl
theorem raw_eq (k : Nat) (a1 : Arg) : W k a1 = raw k a1 := (p_eq k a1).trans (by rw [s0_eq]; rfl)
theorem ok : Ok prog 94 sig := fn_ok func94 (tl := tl) (gl := gl) (es := []) (fr := []) rfl rfl (by kernel_rfl) (fn_nil _) (fun _ => rfl)
end impl_undone
namespace impl_TxsFault
/-! loop example g00408 impl TxsFault -/
abbrev Arg : Type := (List Tx) × Unit
abbrev Out : Type := Int × Unit
noncomputable def ps : PQ := [(.ro, (.slc tTx))]
noncomputable def rs : RQ := [(i64, (roMd i64))]
noncomputable def tl : TL := [(2, i64), (29, (.slc tTx)), (97, (.slc tKey)), (99, tTx), (100, (.map tKey .bool)), (146, tKey)]
noncomputable def gl : GL := [(92, impl_isTx.sig), (93, impl_txFault.sig), (94, impl_undone.sig)]
noncomputable def E : Env := { TI := lookN tl, G := lookN gl, lv := [(4, [0, 14, 15, 16]), (16, [0, 6, 45, 46, 47]), (19, [0, 6, 45, 46, 47, 52, 53, 54])], lx := [(0, [0]), (2, [0]), (4, [0, 6, 45, 46, 47])], od := [(8, [0, 1, 2, 3, 4, 5, 6, 7, 8, 9, 10, 11, 12])] }
noncomputable def W (k : Nat) (a : Arg) : Option Out := bodyK E k f46 ps rs [] [] a
noncomputable def sem (a : Arg) : Option Out := lift fun k => W k a
noncomputable def sig : Sig := { ps := ps, rs := rs, F := sem }
noncomputable def C : Code := bodyOf f46
noncomputable def fin : St → Option Out := outK ps rs [] (Func.results f46).toList (mvs [])
noncomputable def K0 : Ex → St → Option Out := endK fin
noncomputable def T0 (a1 : Arg) (v402 : Int) : St := { n := 68, sl := [(0, .val (.slc tTx) a1.1), (14, .val (.slc tTx) a1.1), (15, .val i64 (a1.1.length : Int)), (16, .val i64 v402)], vr := [], lent := [] }
noncomputable def N0 (k : Nat) : St → (Ex → St → Option Out) → Option Out := codeK E k fin (sub [1, 1, 0, 1, 0, 0] C)
noncomputable def M0 : St → St := keepF [0, 14, 15, 16] []
noncomputable def S0 (rec : RT Out) (a1 : Arg) : (Int) → Option Out := fun v402 => rec (T0 a1 v402)
noncomputable def X0_0 (K : KT Out) (a1 : Arg) : (Unit) → Option Out := fun z => K (.exit 0) ({ n := 68, sl := [(0, .val (.slc tTx) a1.1)], vr := [], lent := [] })
noncomputable def b0 (self : Int → Option Out) (e0 : (Unit) → Option Out) (a1 : Arg) (v402 : Int) : Option Out := bif decide (v402 < (a1.1.length : Int)) then (if 0 ≤ v402 then ((a1.1[v402.toNat]?).bind fun x603 => (impl_isTx.sem (x603.1, ())).bind fun r604 => bif !r604.1 then (some ((3 : Int), ())) else bif decide ((0 : Int) < v402) then (if 0 ≤ w64 (v402 - (1 : Int)) then ((a1.1[(w64 (v402 - (1 : Int))).toNat]?).bind fun x605 => bif decide (x603.1 ≤ x605.1) then (some ((1 : Int), ())) else (impl_txFault.sem (x603, ())).bind fun r607 => bif !decide (r607.1 = (0 : Int)) then (some (r607.1, ())) else self (w64 (v402 + (1 : Int)))) else none) else (impl_txFault.sem (x603, ())).bind fun r608 => bif !decide (r608.1 = (0 : Int)) then (some (r608.1, ())) else self (w64 (v402 + (1 : Int)))) else none) else e0 ()
noncomputable def B0 (k : Nat) (self : Int → Option Out) (e0 : (Unit) → Option Out) (a1 : Arg) (v402 : Int) : Option Out := b0 self e0 a1 v402
theorem B0_eq (k : Nat) (rec : RT Out) (K : KT Out) (a1 : Arg) (v402 : Int) : N0 k (T0 a1 v402) (loopC rec M0 K) = B0 k (S0 rec a1) (X0_0 K a1) a1 v402 := by kernel_rfl
noncomputable def l0 (k : Nat) (a1 : Arg) (e0 : (Unit) → Option Out) (v : Int) : Option Out := rawIter (fun self v => B0 k self e0 a1 v) k v
theorem l0_eq (k : Nat) (K : KT Out) (a1 : Arg) (v402 : Int) : iterK (N0 k) M0 K k (T0 a1 v402) = l0 k a1 (X0_0 K a1) v402 :=
  iter_raw _ _ K (fun v402 => (T0 a1 v402)) (fun self v => B0 k self (X0_0 K a1) a1 v) (fun rec v => B0_eq k rec K a1 v) k v402
noncomputable def T1 (a1 : Arg) (v1010 : (List Tx) × (List (Key × Bool)) × (List Tx) × Int × Int) : St := { n := 68, sl := [(0, .val (.slc tTx) v1010.1), (6, .own (.map tKey .bool) (ownMd (.map tKey .bool)) [] v1010.2.1), (45, .val (.slc tTx) v1010.2.2.1), (46, .val i64 v1010.2.2.2.1), (47, .val i64 v1010.2.2.2.2)], vr := [], lent := [] }
noncomputable def N1 (k : Nat) : St → (Ex → St → Option Out) → Option Out := codeK E k fin (sub [1, 1, 1, 1, 0, 1, 0, 0] C)
noncomputable def M1 : St → St := keepF [0, 6, 45, 46, 47] []
noncomputable def S1 (rec : RT Out) (a1 : Arg) : ((List Tx) × (List (Key × Bool)) × (List Tx) × Int × Int) → Option Out := fun v1010 => rec (T1 a1 v1010)
noncomputable def X1_2 (K : KT Out) (a1 : Arg) : (List Tx) → Option Out := fun z => K (.exit 2) ({ n := 68, sl := [(0, .val (.slc tTx) z)], vr := [], lent := [] })
noncomputable def T2 (a1 : Arg) (c1613 : List Tx) (c1614 : List Tx) (c1615 : Int) (c1616 : Int) (c1617 : List Key) (c1618 : Int) (v1612 : (List (Key × Bool)) × Int) : St := { n := 68, sl := [(0, .val (.slc tTx) c1613), (6, .own (.map tKey .bool) (ownMd (.map tKey .bool)) [] v1612.1), (45, .val (.slc tTx) c1614), (46, .val i64 c1615), (47, .val i64 c1616), (52, .val (.slc tKey) c1617), (53, .val i64 c1618), (54, .val i64 v1612.2)], vr := [], lent := [] }
noncomputable def N2 (k : Nat) : St → (Ex → St → Option Out) → Option Out := codeK E k fin (sub [1, 1, 1, 1, 0, 1, 0, 0, 1, 1, 0, 0, 1, 1, 0, 0] C)
noncomputable def M2 : St → St := keepF [0, 6, 45, 46, 47, 52, 53, 54] []
noncomputable def S2 (rec : RT Out) (a1 : Arg) (c1613 : List Tx) (c1614 : List Tx) (c1615 : Int) (c1616 : Int) (c1617 : List Key) (c1618 : Int) : ((List (Key × Bool)) × Int) → Option Out := fun v1612 => rec (T2 a1 c1613 c1614 c1615 c1616 c1617 c1618 v1612)
noncomputable def X2_4 (K : KT Out) (a1 : Arg) (c1613 : List Tx) (c1614 : List Tx) (c1615 : Int) (c1616 : Int) (c1617 : List Key) (c1618 : Int) : (List (Key × Bool)) → Option Out := fun z => K (.exit 4) ({ n := 68, sl := [(0, .val (.slc tTx) c1613), (6, .own (.map tKey .bool) (ownMd (.map tKey .bool)) [] z), (45, .val (.slc tTx) c1614), (46, .val i64 c1615), (47, .val i64 c1616)], vr := [], lent := [] })
noncomputable def b2 (self : ((List (Key × Bool)) × Int) → Option Out) (e4 : (List (Key × Bool)) → Option Out) (a1 : Arg) (c1613 : List Tx) (c1614 : List Tx) (c1615 : Int) (c1616 : Int) (c1617 : List Key) (c1618 : Int) (v1612 : (List (Key × Bool)) × Int) : Option Out := bif decide (v1612.2 < c1618) then (if 0 ≤ v1612.2 then ((c1617[v1612.2.toNat]?).bind fun x1819 => bif orZ (mapGet tKey v1612.1 x1819) false then (some ((7 : Int), ())) else self (mapPut tKey v1612.1 x1819 true, w64 (v1612.2 + (1 : Int)))) else none) else e4 v1612.1
noncomputable def B2 (k : Nat) (self : ((List (Key × Bool)) × Int) → Option Out) (e4 : (List (Key × Bool)) → Option Out) (a1 : Arg) (c1613 : List Tx) (c1614 : List Tx) (c1615 : Int) (c1616 : Int) (c1617 : List Key) (c1618 : Int) (v1612 : (List (Key × Bool)) × Int) : Option Out := b2 self e4 a1 c1613 c1614 c1615 c1616 c1617 c1618 v1612
theorem B2_eq (k : Nat) (rec : RT Out) (K : KT Out) (a1 : Arg) (c1613 : List Tx) (c1614 : List Tx) (c1615 : Int) (c1616 : Int) (c1617 : List Key) (c1618 : Int) (v1612 : (List (Key × Bool)) × Int) : N2 k (T2 a1 c1613 c1614 c1615 c1616 c1617 c1618 v1612) (loopC rec M2 K) = B2 k (S2 rec a1 c1613 c1614 c1615 c1616 c1617 c1618) (X2_4 K a1 c1613 c1614 c1615 c1616 c1617 c1618) a1 c1613 c1614 c1615 c1616 c1617 c1618 v1612 := by kernel_rfl
noncomputable def l2 (k : Nat) (a1 : Arg) (c1613 : List Tx) (c1614 : List Tx) (c1615 : Int) (c1616 : Int) (c1617 : List Key) (c1618 : Int) (e4 : (List (Key × Bool)) → Option Out) (v : (List (Key × Bool)) × Int) : Option Out := rawIter (fun self v => B2 k self e4 a1 c1613 c1614 c1615 c1616 c1617 c1618 v) k v
theorem l2_eq (k : Nat) (K : KT Out) (a1 : Arg) (c1613 : List Tx) (c1614 : List Tx) (c1615 : Int) (c1616 : Int) (c1617 : List Key) (c1618 : Int) (v1612 : (List (Key × Bool)) × Int) : iterK (N2 k) M2 K k (T2 a1 c1613 c1614 c1615 c1616 c1617 c1618 v1612) = l2 k a1 c1613 c1614 c1615 c1616 c1617 c1618 (X2_4 K a1 c1613 c1614 c1615 c1616 c1617 c1618) v1612 :=
  iter_raw _ _ K (fun v1612 => (T2 a1 c1613 c1614 c1615 c1616 c1617 c1618 v1612)) (fun self v => B2 k self (X2_4 K a1 c1613 c1614 c1615 c1616 c1617 c1618) a1 c1613 c1614 c1615 c1616 c1617 c1618 v) (fun rec v => B2_eq k rec K a1 c1613 c1614 c1615 c1616 c1617 c1618 v) k v1612
noncomputable def q1 (self : ((List Tx) × (List (Key × Bool)) × (List Tx) × Int × Int) → Option Out) (e2 : (List Tx) → Option Out) (a1 : Arg) (c1613 : List Tx) (c1614 : List Tx) (c1615 : Int) (c1616 : Int) (c1617 : List Key) (c1618 : Int) (z1820 : (List (Key × Bool))) : Option Out := self (c1613, z1820, c1614, c1615, w64 (c1616 + (1 : Int)))
noncomputable def Q1 (k : Nat) (self : ((List Tx) × (List (Key × Bool)) × (List Tx) × Int × Int) → Option Out) (e2 : (List Tx) → Option Out) (a1 : Arg) (c1613 : List Tx) (c1614 : List Tx) (c1615 : Int) (c1616 : Int) (c1617 : List Key) (c1618 : Int) (z1820 : (List (Key × Bool))) : Option Out := q1 self e2 a1 c1613 c1614 c1615 c1616 c1617 c1618 z1820
theorem Q1_eq (k : Nat) (rec : RT Out) (K : KT Out) (a1 : Arg) (c1613 : List Tx) (c1614 : List Tx) (c1615 : Int) (c1616 : Int) (c1617 : List Key) (c1618 : Int) (z1820 : (List (Key × Bool))) : X2_4 (blockC 4 (blockC 3 (seqC (codeK E k fin (sub [1, 1, 1, 1, 0, 1, 0, 0, 1, 1, 1] C)) (loopC rec (keepF [0, 6, 45, 46, 47] []) K)))) a1 c1613 c1614 c1615 c1616 c1617 c1618 z1820 = Q1 k (S1 rec a1) (X1_2 K a1) a1 c1613 c1614 c1615 c1616 c1617 c1618 z1820 := by kernel_rfl
noncomputable def s2 (k : Nat) (rec : RT Out) (K : KT Out) (a1 : Arg) : (List Tx) → (List Tx) → Int → Int → (List Key) → Int → ((List (Key × Bool)) × Int) → Option Out := fun c1613 c1614 c1615 c1616 c1617 c1618 v1612 => iterK (N2 k) M2 (blockC 4 (blockC 3 (seqC (codeK E k fin (sub [1, 1, 1, 1, 0, 1, 0, 0, 1, 1, 1] C)) (loopC rec (keepF [0, 6, 45, 46, 47] []) K)))) k (T2 a1 c1613 c1614 c1615 c1616 c1617 c1618 v1612)
noncomputable def r2 (k : Nat) (self : ((List Tx) × (List (Key × Bool)) × (List Tx) × Int × Int) → Option Out) (e2 : (List Tx) → Option Out) (a1 : Arg) : (List Tx) → (List Tx) → Int → Int → (List Key) → Int → ((List (Key × Bool)) × Int) → Option Out := fun c1613 c1614 c1615 c1616 c1617 c1618 v1612 => l2 k a1 c1613 c1614 c1615 c1616 c1617 c1618 (fun z => Q1 k self e2 a1 c1613 c1614 c1615 c1616 c1617 c1618 z) v1612
theorem s2_eq (k : Nat) (rec : RT Out) (K : KT Out) (a1 : Arg) : s2 k rec K a1 = r2 k (S1 rec a1) (X1_2 K a1) a1 := by
  funext c1613; funext c1614; funext c1615; funext c1616; funext c1617; funext c1618; funext v1612;
  have h4 : X2_4 ((blockC 4 (blockC 3 (seqC (codeK E k fin (sub [1, 1, 1, 1, 0, 1, 0, 0, 1, 1, 1] C)) (loopC rec (keepF [0, 6, 45, 46, 47] []) K))))) a1 c1613 c1614 c1615 c1616 c1617 c1618 = fun z => Q1 k (S1 rec a1) (X1_2 K a1) a1 c1613 c1614 c1615 c1616 c1617 c1618 z := funext fun z => Q1_eq k rec K a1 c1613 c1614 c1615 c1616 c1617 c1618 z
  refine (l2_eq k ((blockC 4 (blockC 3 (seqC (codeK E k fin (sub [1, 1, 1, 1, 0, 1, 0, 0, 1, 1, 1] C)) (loopC rec (keepF [0, 6, 45, 46, 47] []) K))))) a1 c1613 c1614 c1615 c1616 c1617 c1618 v1612).trans ?_
  rw [h4]
  rfl
noncomputable def b1 (self : ((List Tx) × (List (Key × Bool)) × (List Tx) × Int × Int) → Option Out) (e2 : (List Tx) → Option Out) (l2 : (List Tx) → (List Tx) → Int → Int → (List Key) → Int → ((List (Key × Bool)) × Int) → Option Out) (a1 : Arg) (v1010 : (List Tx) × (List (Key × Bool)) × (List Tx) × Int × Int) : Option Out := bif decide (v1010.2.2.2.2 < v1010.2.2.2.1) then (if 0 ≤ v1010.2.2.2.2 then ((v1010.2.2.1[v1010.2.2.2.2.toNat]?).bind fun x1211 => l2 v1010.1 v1010.2.2.1 v1010.2.2.2.1 v1010.2.2.2.2 x1211.2.2.2.1 (x1211.2.2.2.1.length : Int) (v1010.2.1, (0 : Int))) else none) else e2 v1010.1
noncomputable def B1 (k : Nat) (self : ((List Tx) × (List (Key × Bool)) × (List Tx) × Int × Int) → Option Out) (e2 : (List Tx) → Option Out) (a1 : Arg) (v1010 : (List Tx) × (List (Key × Bool)) × (List Tx) × Int × Int) : Option Out := b1 self e2 (r2 k self e2 a1) a1 v1010
theorem b1_eq (k : Nat) (rec : RT Out) (K : KT Out) (a1 : Arg) (v1010 : (List Tx) × (List (Key × Bool)) × (List Tx) × Int × Int) : N1 k (T1 a1 v1010) (loopC rec M1 K) = b1 (S1 rec a1) (X1_2 K a1) (s2 k rec K a1) a1 v1010 := by kernel_rfl
theorem B1_eq (k : Nat) (rec : RT Out) (K : KT Out) (a1 : Arg) (v1010 : (List Tx) × (List (Key × Bool)) × (List Tx) × Int × Int) : N1 k (T1 a1 v1010) (loopC rec M1 K) = B1 k (S1 rec a1) (X1_2 K a1) a1 v1010 := (b1_eq k rec K a1 v1010).trans (by rw [s2_eq]; rfl)
noncomputable def l1 (k : Nat) (a1 : Arg) (e2 : (List Tx) → Option Out) (v : (List Tx) × (List (Key × Bool)) × (List Tx) × Int × Int) : Option Out := rawIter (fun self v => B1 k self e2 a1 v) k v
theorem l1_eq (k : Nat) (K : KT Out) (a1 : Arg) (v1010 : (List Tx) × (List (Key × Bool)) × (List Tx) × Int × Int) : iterK (N1 k) M1 K k (T1 a1 v1010) = l1 k a1 (X1_2 K a1) v1010 :=
  iter_raw _ _ K (fun v1010 => (T1 a1 v1010)) (fun self v => B1 k self (X1_2 K a1) a1 v) (fun rec v => B1_eq k rec K a1 v) k v1010
noncomputable def q2 (a1 : Arg) (z1821 : (List Tx)) : Option Out := (impl_undone.sem (z1821, ())).bind fun r1822 => bif decide ((12 : Int) < r1822.1) then (some ((2 : Int), ())) else some ((0 : Int), ())
noncomputable def Q2 (k : Nat) (a1 : Arg) (z1821 : (List Tx)) : Option Out := q2 a1 z1821
theorem Q2_eq (k : Nat) (a1 : Arg) (z1821 : (List Tx)) : X1_2 (blockC 2 (seqC (codeK E k fin (sub [1, 1, 1, 1, 1] C)) K0)) a1 z1821 = Q2 k a1 z1821 := by kernel_rfl
noncomputable def s1 (k : Nat) (a1 : Arg) : ((List Tx) × (List (Key × Bool)) × (List Tx) × Int × Int) → Option Out := fun v1010 => iterK (N1 k) M1 (blockC 2 (seqC (codeK E k fin (sub [1, 1, 1, 1, 1] C)) K0)) k (T1 a1 v1010)
noncomputable def r1 (k : Nat) (a1 : Arg) : ((List Tx) × (List (Key × Bool)) × (List Tx) × Int × Int) → Option Out := fun v1010 => l1 k a1 (fun z => Q2 k a1 z) v1010
theorem s1_eq (k : Nat) (a1 : Arg) : s1 k a1 = r1 k a1 := by
  funext v1010;
  have h2 : X1_2 ((blockC 2 (seqC (codeK E k fin (sub [1, 1, 1, 1, 1] C)) K0))) a1 = fun z => Q2 k a1 z := funext fun z => Q2_eq k a1 z
  refine (l1_eq k ((blockC 2 (seqC (codeK E k fin (sub [1, 1, 1, 1, 1] C)) K0))) a1 v1010).trans ?_
  rw [h2]
  rfl
noncomputable def q0 (l1 : ((List Tx) × (List (Key × Bool)) × (List Tx) × Int × Int) → Option Out) (a1 : Arg) (z609 : (Unit)) : Option Out := l1 (a1.1, ([] : List (Key × Bool)), a1.1, (a1.1.length : Int), (0 : Int))
noncomputable def Q0 (k : Nat) (a1 : Arg) (z609 : (Unit)) : Option Out := q0 (r1 k a1) a1 z609
theorem q0_eq (k : Nat) (a1 : Arg) (z609 : (Unit)) : X0_0 (blockC 0 (seqC (codeK E k fin (sub [1, 1, 1] C)) K0)) a1 z609 = q0 (s1 k a1) a1 z609 := by kernel_rfl
theorem Q0_eq (k : Nat) (a1 : Arg) (z609 : (Unit)) : X0_0 (blockC 0 (seqC (codeK E k fin (sub [1, 1, 1] C)) K0)) a1 z609 = Q0 k a1 z609 := (q0_eq k a1 z609).trans (by rw [s1_eq]; rfl)
noncomputable def s0 (k : Nat) (a1 : Arg) : (Int) → Option Out := fun v402 => iterK (N0 k) M0 (blockC 0 (seqC (codeK E k fin (sub [1, 1, 1] C)) K0)) k (T0 a1 v402)
noncomputable def r0 (k : Nat) (a1 : Arg) : (Int) → Option Out := fun v402 => l0 k a1 (fun z => Q0 k a1 z) v402
theorem s0_eq (k : Nat) (a1 : Arg) : s0 k a1 = r0 k a1 := by
  funext v402;
  have h0 : X0_0 ((blockC 0 (seqC (codeK E k fin (sub [1, 1, 1] C)) K0))) a1 = fun z => Q0 k a1 z := funext fun z => Q0_eq k a1 z
  refine (l0_eq k ((blockC 0 (seqC (codeK E k fin (sub [1, 1, 1] C)) K0))) a1 v402).trans ?_
  rw [h0]
  rfl
noncomputable def p (l0 : (Int) → Option Out) (a1 : Arg) : Option Out := bif decide ((4 : Int) < (a1.1.length : Int)) then (some ((2 : Int), ())) else l0 (0 : Int)
noncomputable def raw (k : Nat) (a1 : Arg) : Option Out := p (r0 k a1) a1
theorem p_eq (k : Nat) (a1 : Arg) : W k a1 = p (s0 k a1) a1 := by kernel_rfl
theorem raw_eq (k : Nat) (a1 : Arg) : W k a1 = raw k a1 := (p_eq k a1).trans (by rw [s0_eq]; rfl)
theorem ok : Ok prog 46 sig := fn_ok func46 (tl := tl) (gl := gl) (es := []) (fr := []) rfl rfl (by kernel_rfl) (fc impl_isTx.ok (fc impl_txFault.ok (fc impl_undone.ok (fn_nil _)))) (fun _ => rfl)
end impl_TxsFault
namespace impl_keysOf
/-! loop example g00408 impl keysOf -/
abbrev Arg : Type := (List Row) × (List Tx) × Unit
abbrev Out : Type := (List (Key × Bool)) × Unit
noncomputable def ps : PQ := [(.ro, (.slc tRow)), (.ro, (.slc tTx))]
noncomputable def rs : RQ := [((.map tKey .bool), (ownMd (.map tKey .bool)))]
noncomputable def tl : TL := [(2, i64), (28, (.slc tRow)), (29, (.slc tTx)), (48, tRow), (97, (.slc tKey)), (99, tTx), (100, (.map tKey .bool)), (146, tKey)]
noncomputable def gl : GL := []
noncomputable def E : Env := { TI := lookN tl, G := lookN gl, lv := [(3, [1, 5, 13, 14, 15]), (8, [5, 26, 27, 28]), (11, [5, 26, 27, 28, 33, 34, 35])], lx := [(0, [1, 5]), (2, [5]), (4, [5, 26, 27, 28])] }
noncomputable def W (k : Nat) (a : Arg) : Option Out := bodyK E k f48 ps rs [] [] a
noncomputable def sem (a : Arg) : Option Out := lift fun k => W k a
noncomputable def sig : Sig := { ps := ps, rs := rs, F := sem }
noncomputable def C : Code := bodyOf f48
noncomputable def fin : St → Option Out := outK ps rs [] (Func.results f48).toList (mvs [])
noncomputable def K0 : Ex → St → Option Out := endK fin
noncomputable def T0 (a1 : Arg) (v402 : (List (Key × Bool)) × Int) : St := { n := 44, sl := [(1, .val (.slc tTx) a1.2.1), (5, .own (.map tKey .bool) (ownMd (.map tKey .bool)) [] v402.1), (13, .val (.slc tRow) a1.1), (14, .val i64 (a1.1.length : Int)), (15, .val i64 v402.2)], vr := [], lent := [] }
noncomputable def N0 (k : Nat) : St → (Ex → St → Option Out) → Option Out := codeK E k fin (sub [1, 1, 0, 1, 0, 0] C)
noncomputable def M0 : St → St := keepF [1, 5, 13, 14, 15] []
noncomputable def S0 (rec : RT Out) (a1 : Arg) : ((List (Key × Bool)) × Int) → Option Out := fun v402 => rec (T0 a1 v402)
noncomputable def X0_0 (K : KT Out) (a1 : Arg) : (List (Key × Bool)) → Option Out := fun z => K (.exit 0) ({ n := 44, sl := [(1, .val (.slc tTx) a1.2.1), (5, .own (.map tKey .bool) (ownMd (.map tKey .bool)) [] z)], vr := [], lent := [] })
noncomputable def b0 (self : ((List (Key × Bool)) × Int) → Option Out) (e0 : (List (Key × Bool)) → Option Out) (a1 : Arg) (v402 : (List (Key × Bool)) × Int) : Option Out := bif decide (v402.2 < (a1.1.length : Int)) then (if 0 ≤ v402.2 then ((a1.1[v402.2.toNat]?).bind fun x603 => let y604 := mapPut tKey v402.1 (x603.1, x603.2.1, ()) true; self (y604, w64 (v402.2 + (1 : Int)))) else none) else e0 v402.1
noncomputable def B0 (k : Nat) (self : ((List (Key × Bool)) × Int) → Option Out) (e0 : (List (Key × Bool)) → Option Out) (a1 : Arg) (v402 : (List (Key × Bool)) × Int) : Option Out := b0 self e0 a1 v402
theorem B0_eq (k : Nat) (rec : RT Out) (K : KT Out) (a1 : Arg) (v402 : (List (Key × Bool)) × Int) : N0 k (T0 a1 v402) (loopC rec M0 K) = B0 k (S0 rec a1) (X0_0 K a1) a1 v402 := by kernel_rfl
noncomputable def l0 (k : Nat) (a1 : Arg) (e0 : (List (Key × Bool)) → Option Out) (v : (List (Key × Bool)) × Int) : Option Out := rawIter (fun self v => B0 k self e0 a1 v) k v
theorem l0_eq (k : Nat) (K : KT Out) (a1 : Arg) (v402 : (List (Key × Bool)) × Int) : iterK (N0 k) M0 K k (T0 a1 v402) = l0 k a1 (X0_0 K a1) v402 :=
  iter_raw _ _ K (fun v402 => (T0 a1 v402)) (fun self v => B0 k self (X0_0 K a1) a1 v) (fun rec v => B0_eq k rec K a1 v) k v402
noncomputable def T1 (a1 : Arg) (v1006 : (List (Key × Bool)) × (List Tx) × Int × Int) : St := { n := 44, sl := [(5, .own (.map tKey .bool) (ownMd (.map tKey .bool)) [] v1006.1), (26, .val (.slc tTx) v1006.2.1), (27, .val i64 v1006.2.2.1), (28, .val i64 v1006.2.2.2)], vr := [], lent := [] }
noncomputable def N1 (k : Nat) : St → (Ex → St → Option Out) → Option Out := codeK E k fin (sub [1, 1, 1, 0, 1, 0, 0] C)
noncomputable def M1 : St → St := keepF [5, 26, 27, 28] []
noncomputable def S1 (rec : RT Out) (a1 : Arg) : ((List (Key × Bool)) × (List Tx) × Int × Int) → Option Out := fun v1006 => rec (T1 a1 v1006)
noncomputable def X1_2 (K : KT Out) (a1 : Arg) : (List (Key × Bool)) → Option Out := fun z => K (.exit 2) ({ n := 44, sl := [(5, .own (.map tKey .bool) (ownMd (.map tKey .bool)) [] z)], vr := [], lent := [] })
noncomputable def T2 (a1 : Arg) (c1609 : List Tx) (c1610 : Int) (c1611 : Int) (c1612 : List Key) (c1613 : Int) (v1608 : (List (Key × Bool)) × Int) : St := { n := 44, sl := [(5, .own (.map tKey .bool) (ownMd (.map tKey .bool)) [] v1608.1), (26, .val (.slc tTx) c1609), (27, .val i64 c1610), (28, .val i64 c1611), (33, .val (.slc tKey) c1612), (34, .val i64 c1613), (35, .val i64 v1608.2)], vr := [], lent := [] }
noncomputable def N2 (k : Nat) : St → (Ex → St → Option Out) → Option Out := codeK E k fin (sub [1, 1, 1, 0, 1, 0, 0, 1, 1, 0, 0, 1, 1, 0, 0] C)
noncomputable def M2 : St → St := keepF [5, 26, 27, 28, 33, 34, 35] []
noncomputable def S2 (rec : RT Out) (a1 : Arg) (c1609 : List Tx) (c1610 : Int) (c1611 : Int) (c1612 : List Key) (c1613 : Int) : ((List (Key × Bool)) × Int) → Option Out := fun v1608 => rec (T2 a1 c1609 c1610 c1611 c1612 c1613 v1608)
noncomputable def X2_4 (K : KT Out) (a1 : Arg) (c1609 : List Tx) (c1610 : Int) (c1611 : Int) (c1612 : List Key) (c1613 : Int) : (List (Key × Bool)) → Option Out := fun z => K (.exit 4) ({ n := 44, sl := [(5, .own (.map tKey .bool) (ownMd (.map tKey .bool)) [] z), (26, .val (.slc tTx) c1609), (27, .val i64 c1610), (28, .val i64 c1611)], vr := [], lent := [] })
noncomputable def b2 (self : ((List (Key × Bool)) × Int) → Option Out) (e4 : (List (Key × Bool)) → Option Out) (a1 : Arg) (c1609 : List Tx) (c1610 : Int) (c1611 : Int) (c1612 : List Key) (c1613 : Int) (v1608 : (List (Key × Bool)) × Int) : Option Out := bif decide (v1608.2 < c1613) then (if 0 ≤ v1608.2 then ((c1612[v1608.2.toNat]?).bind fun x1814 => self (mapPut tKey v1608.1 x1814 true, w64 (v1608.2 + (1 : Int)))) else none) else e4 v1608.1
noncomputable def B2 (k : Nat) (self : ((List (Key × Bool)) × Int) → Option Out) (e4 : (List (Key × Bool)) → Option Out) (a1 : Arg) (c1609 : List Tx) (c1610 : Int) (c1611 : Int) (c1612 : List Key) (c1613 : Int) (v1608 : (List (Key × Bool)) × Int) : Option Out := b2 self e4 a1 c1609 c1610 c1611 c1612 c1613 v1608
theorem B2_eq (k : Nat) (rec : RT Out) (K : KT Out) (a1 : Arg) (c1609 : List Tx) (c1610 : Int) (c1611 : Int) (c1612 : List Key) (c1613 : Int) (v1608 : (List (Key × Bool)) × Int) : N2 k (T2 a1 c1609 c1610 c1611 c1612 c1613 v1608) (loopC rec M2 K) = B2 k (S2 rec a1 c1609 c1610 c1611 c1612 c1613) (X2_4 K a1 c1609 c1610 c1611 c1612 c1613) a1 c1609 c1610 c1611 c1612 c1613 v1608 := by kernel_rfl
noncomputable def l2 (k : Nat) (a1 : Arg) (c1609 : List Tx) (c1610 : Int) (c1611 : Int) (c1612 : List Key) (c1613 : Int) (e4 : (List (Key × Bool)) → Option Out) (v : (List (Key × Bool)) × Int) : Option Out := rawIter (fun self v => B2 k self e4 a1 c1609 c1610 c1611 c1612 c1613 v) k v
theorem l2_eq (k : Nat) (K : KT Out) (a1 : Arg) (c1609 : List Tx) (c1610 : Int) (c1611 : Int) (c1612 : List Key) (c1613 : Int) (v1608 : (List (Key × Bool)) × Int) : iterK (N2 k) M2 K k (T2 a1 c1609 c1610 c1611 c1612 c1613 v1608) = l2 k a1 c1609 c1610 c1611 c1612 c1613 (X2_4 K a1 c1609 c1610 c1611 c1612 c1613) v1608 :=
  iter_raw _ _ K (fun v1608 => (T2 a1 c1609 c1610 c1611 c1612 c1613 v1608)) (fun self v => B2 k self (X2_4 K a1 c1609 c1610 c1611 c1612 c1613) a1 c1609 c1610 c1611 c1612 c1613 v) (fun rec v => B2_eq k rec K a1 c1609 c1610 c1611 c1612 c1613 v) k v1608
noncomputable def q1 (self : ((List (Key × Bool)) × (List Tx) × Int × Int) → Option Out) (e2 : (List (Key × Bool)) → Option Out) (a1 : Arg) (c1609 : List Tx) (c1610 : Int) (c1611 : Int) (c1612 : List Key) (c1613 : Int) (z1815 : (List (Key × Bool))) : Option Out := self (z1815, c1609, c1610, w64 (c1611 + (1 : Int)))
noncomputable def Q1 (k : Nat) (self : ((List (Key × Bool)) × (List Tx) × Int × Int) → Option Out) (e2 : (List (Key × Bool)) → Option Out) (a1 : Arg) (c1609 : List Tx) (c1610 : Int) (c1611 : Int) (c1612 : List Key) (c1613 : Int) (z1815 : (List (Key × Bool))) : Option Out := q1 self e2 a1 c1609 c1610 c1611 c1612 c1613 z1815
theorem Q1_eq (k : Nat) (rec : RT Out) (K : KT Out) (a1 : Arg) (c1609 : List Tx) (c1610 : Int) (c1611 : Int) (c1612 : List Key) (c1613 : Int) (z1815 : (List (Key × Bool))) : X2_4 (blockC 4 (blockC 3 (seqC (codeK E k fin (sub [1, 1, 1, 0, 1, 0, 0, 1, 1, 1] C)) (loopC rec (keepF [5, 26, 27, 28] []) K)))) a1 c1609 c1610 c1611 c1612 c1613 z1815 = Q1 k (S1 rec a1) (X1_2 K a1) a1 c1609 c1610 c1611 c1612 c1613 z1815 := by kernel_rfl
noncomputable def s2 (k : Nat) (rec : RT Out) (K : KT Out) (a1 : Arg) : (List Tx) → Int → Int → (List Key) → Int → ((List (Key × Bool)) × Int) → Option Out := fun c1609 c1610 c1611 c1612 c1613 v1608 => iterK (N2 k) M2 (blockC 4 (blockC 3 (seqC (codeK E k fin (sub [1, 1, 1, 0, 1, 0, 0, 1, 1, 1] C)) (loopC rec (keepF [5, 26, 27, 28] []) K)))) k (T2 a1 c1609 c1610 c1611 c1612 c1613 v1608)
noncomputable def r2 (k : Nat) (self : ((List (Key × Bool)) × (List Tx) × Int × Int) → Option Out) (e2 : (List (Key × Bool)) → Option Out) (a1 : Arg) : (List Tx) → Int → Int → (List Key) → Int → ((List (Key × Bool)) × Int) → Option Out := fun c1609 c1610 c1611 c1612 c1613 v1608 => l2 k a1 c1609 c1610 c1611 c1612 c1613 (fun z => Q1 k self e2 a1 c1609 c1610 c1611 c1612 c1613 z) v1608
theorem s2_eq (k : Nat) (rec : RT Out) (K : KT Out) (a1 : Arg) : s2 k rec K a1 = r2 k (S1 rec a1) (X1_2 K a1) a1 := by
  funext c1609; funext c1610; funext c1611; funext c1612; funext c1613; funext v1608;
  have h4 : X2_4 ((blockC 4 (blockC 3 (seqC (codeK E k fin (sub [1, 1, 1, 0, 1, 0, 0, 1, 1, 1] C)) (loopC rec (keepF [5, 26, 27, 28] []) K))))) a1 c1609 c1610 c1611 c1612 c1613 = fun z => Q1 k (S1 rec a1) (X1_2 K a1) a1 c1609 c1610 c1611 c1612 c1613 z := funext fun z => Q1_eq k rec K a1 c1609 c1610 c1611 c1612 c1613 z
  refine (l2_eq k ((blockC 4 (blockC 3 (seqC (codeK E k fin (sub [1, 1, 1, 0, 1, 0, 0, 1, 1, 1] C)) (loopC rec (keepF [5, 26, 27, 28] []) K))))) a1 c1609 c1610 c1611 c1612 c1613 v1608).trans ?_
  rw [h4]
  rfl
noncomputable def b1 (self : ((List (Key × Bool)) × (List Tx) × Int × Int) → Option Out) (e2 : (List (Key × Bool)) → Option Out) (l2 : (List Tx) → Int → Int → (List Key) → Int → ((List (Key × Bool)) × Int) → Option Out) (a1 : Arg) (v1006 : (List (Key × Bool)) × (List Tx) × Int × Int) : Option Out := bif decide (v1006.2.2.2 < v1006.2.2.1) then (if 0 ≤ v1006.2.2.2 then ((v1006.2.1[v1006.2.2.2.toNat]?).bind fun x1207 => l2 v1006.2.1 v1006.2.2.1 v1006.2.2.2 x1207.2.2.2.1 (x1207.2.2.2.1.length : Int) (v1006.1, (0 : Int))) else none) else e2 v1006.1
noncomputable def B1 (k : Nat) (self : ((List (Key × Bool)) × (List Tx) × Int × Int) → Option Out) (e2 : (List (Key × Bool)) → Option Out) (a1 : Arg) (v1006 : (List (Key × Bool)) × (List Tx) × Int × Int) : Option Out := b1 self e2 (r2 k self e2 a1) a1 v1006
theorem b1_eq (k : Nat) (rec : RT Out) (K : KT Out) (a1 : Arg) (v1006 : (List (Key × Bool)) × (List Tx) × Int × Int) : N1 k (T1 a1 v1006) (loopC rec M1 K) = b1 (S1 rec a1) (X1_2 K a1) (s2 k rec K a1) a1 v1006 := by kernel_rfl
theorem B1_eq (k : Nat) (rec : RT Out) (K : KT Out) (a1 : Arg) (v1006 : (List (Key × Bool)) × (List Tx) × Int × Int) : N1 k (T1 a1 v1006) (loopC rec M1 K) = B1 k (S1 rec a1) (X1_2 K a1) a1 v1006 := (b1_eq k rec K a1 v1006).trans (by rw [s2_eq]; rfl)
noncomputable def l1 (k : Nat) (a1 : Arg) (e2 : (List (Key × Bool)) → Option Out) (v : (List (Key × Bool)) × (List Tx) × Int × Int) : Option Out := rawIter (fun self v => B1 k self e2 a1 v) k v
theorem l1_eq (k : Nat) (K : KT Out) (a1 : Arg) (v1006 : (List (Key × Bool)) × (List Tx) × Int × Int) : iterK (N1 k) M1 K k (T1 a1 v1006) = l1 k a1 (X1_2 K a1) v1006 :=
  iter_raw _ _ K (fun v1006 => (T1 a1 v1006)) (fun self v => B1 k self (X1_2 K a1) a1 v) (fun rec v => B1_eq k rec K a1 v) k v1006
noncomputable def q2 (a1 : Arg) (z1816 : (List (Key × Bool))) : Option Out := some (z1816, ())
noncomputable def Q2 (k : Nat) (a1 : Arg) (z1816 : (List (Key × Bool))) : Option Out := q2 a1 z1816
theorem Q2_eq (k : Nat) (a1 : Arg) (z1816 : (List (Key × Bool))) : X1_2 (blockC 2 (seqC (codeK E k fin (sub [1, 1, 1, 1] C)) K0)) a1 z1816 = Q2 k a1 z1816 := by kernel_rfl
noncomputable def s1 (k : Nat) (a1 : Arg) : ((List (Key × Bool)) × (List Tx) × Int × Int) → Option Out := fun v1006 => iterK (N1 k) M1 (blockC 2 (seqC (codeK E k fin (sub [1, 1, 1, 1] C)) K0)) k (T1 a1 v1006)
noncomputable def r1 (k : Nat) (a1 : Arg) : ((List (Key × Bool)) × (List Tx) × Int × Int) → Option Out := fun v1006 => l1 k a1 (fun z => Q2 k a1 z) v1006
theorem s1_eq (k : Nat) (a1 : Arg) : s1 k a1 = r1 k a1 := by
  funext v1006;
  have h2 : X1_2 ((blockC 2 (seqC (codeK E k fin (sub [1, 1, 1, 1] C)) K0))) a1 = fun z => Q2 k a1 z := funext fun z => Q2_eq k a1 z
  refine (l1_eq k ((blockC 2 (seqC (codeK E k fin (sub [1, 1, 1, 1] C)) K0))) a1 v1006).trans ?_
  rw [h2]
  rfl
noncomputable def q0 (l1 : ((List (Key × Bool)) × (List Tx) × Int × Int) → Option Out) (a1 : Arg) (z605 : (List (Key × Bool))) : Option Out := l1 (z605, a1.2.1, (a1.2.1.length : Int), (0 : Int))
noncomputable def Q0 (k : Nat) (a1 : Arg) (z605 : (List (Key × Bool))) : Option Out := q0 (r1 k a1) a1 z605
theorem q0_eq (k : Nat) (a1 : Arg) (z605 : (List (Key × Bool))) : X0_0 (blockC 0 (seqC (codeK E k fin (sub [1, 1, 1] C)) K0)) a1 z605 = q0 (s1 k a1) a1 z605 := by kernel_rfl
theorem Q0_eq (k : Nat) (a1 : Arg) (z605 : (List (Key × Bool))) : X0_0 (blockC 0 (seqC (codeK E k fin (sub [1, 1, 1] C)) K0)) a1 z605 = Q0 k a1 z605 := (q0_eq k a1 z605).trans (by rw [s1_eq]; rfl)
noncomputable def s0 (k : Nat) (a1 : Arg) : ((List (Key × Bool)) × Int) → Option Out := fun v402 => iterK (N0 k) M0 (blockC 0 (seqC (codeK E k fin (sub [1, 1, 1] C)) K0)) k (T0 a1 v402)
noncomputable def r0 (k : Nat) (a1 : Arg) : ((List (Key × Bool)) × Int) → Option Out := fun v402 => l0 k a1 (fun z => Q0 k a1 z) v402
theorem s0_eq (k : Nat) (a1 : Arg) : s0 k a1 = r0 k a1 := by
  funext v402;
  have h0 : X0_0 ((blockC 0 (seqC (codeK E k fin (sub [1, 1, 1] C)) K0))) a1 = fun z => Q0 k a1 z := funext fun z => Q0_eq k a1 z
  refine (l0_eq k ((blockC 0 (seqC (codeK E k fin (sub [1, 1, 1] C)) K0))) a1 v402).trans ?_
  rw [h0]
  rfl
noncomputable def p (l0 : ((List (Key × Bool)) × Int) → Option Out) (a1 : Arg) : Option Out := l0 (([] : List (Key × Bool)), (0 : Int))
noncomputable def raw (k : Nat) (a1 : Arg) : Option Out := p (r0 k a1) a1
theorem p_eq (k : Nat) (a1 : Arg) : W k a1 = p (s0 k a1) a1 := by kernel_rfl
theorem raw_eq (k : Nat) (a1 : Arg) : W k a1 = raw k a1 := (p_eq k a1).trans (by rw [s0_eq]; rfl)
theorem ok : Ok prog 48 sig := fn_ok func48 (tl := tl) (gl := gl) (es := []) (fr := []) rfl rfl (by kernel_rfl) (fn_nil _) (fun _ => rfl)
end impl_keysOf
namespace slices_BinarySearchFunc_Row
/-! slices BinarySearchFunc   loop example g00408 impl Row loop example g00408 impl Row loop example g00408 impl Row  -/
abbrev Arg : Type := (List Row) × Row × (Nat × Int) × Unit
abbrev Out : Type := Int × Bool × Unit
noncomputable def ps : PQ := [(.ro, (.slc tRow)), (.ro, tRow), (.fix 123, .fn)]
noncomputable def rs : RQ := [(i64, (roMd i64)), (.bool, (roMd .bool))]
noncomputable def tl : TL := [(3, i64), (28, (.slc tRow)), (48, tRow), (220, (.int .u64))]
noncomputable def gl : GL := [(123, impl_order.sig)]
noncomputable def E : Env := { TI := lookN tl, G := lookN gl, lv := [(3, [0, 2, 4, 8, 9, 10])], lx := [(0, [0, 2, 4, 8, 9])], od := [(5, [0, 1, 2, 3, 4, 5, 6, 7]), (8, [0, 1, 2, 3, 4, 5, 6, 7, 8, 9, 10, 11, 12, 13, 14, 15])] }
noncomputable def W (k : Nat) (a : Arg) : Option Out := bodyK E k f122 ps rs [] [] a
noncomputable def sem (a : Arg) : Option Out := lift fun k => W k a
noncomputable def sig : Sig := { ps := ps, rs := rs, F := sem }
noncomputable def C : Code := bodyOf f122
noncomputable def fin : St → Option Out := outK ps rs [] (Func.results f122).toList (mvs [])
noncomputable def K0 : Ex → St → Option Out := endK fin
noncomputable def T0 (a1 : Arg) (v402 : Int × Int) : St := { n := 49, sl := [(0, .val (.slc tRow) a1.1), (2, .val .fn ((123, a1.2.2.1.2) : Nat × Int)), (4, .box tRow (roMd tRow) [] a1.2.1), (8, .val i64 (a1.1.length : Int)), (9, .val i64 v402.1), (10, .val i64 v402.2)], vr := [], lent := [] }
noncomputable def N0 (k : Nat) : St → (Ex → St → Option Out) → Option Out := codeK E k fin (sub [1, 1, 1, 0, 0, 0] C)
noncomputable def M0 : St → St := keepF [0, 2, 4, 8, 9, 10] []
noncomputable def S0 (rec : RT Out) (a1 : Arg) : (Int × Int) → Option Out := fun v402 => rec (T0 a1 v402)
noncomputable def X0_0 (K : KT Out) (a1 : Arg) : Int → Option Out := fun z => K (.exit 0) ({ n := 49, sl := [(0, .val (.slc tRow) a1.1), (2, .val .fn ((123, a1.2.2.1.2) : Nat × Int)), (4, .box tRow (roMd tRow) [] a1.2.1), (8, .val i64 (a1.1.length : Int)), (9, .val i64 z)], vr := [], lent := [] })
noncomputable def b0 (self : (Int × Int) → Option Out) (e0 : Int → Option Out) (a1 : Arg) (v402 : Int × Int) : Option Out := bif decide (v402.1 < v402.2) then (if 0 ≤ w64 ((IntKind.wrap .u64 (w64 (v402.1 + v402.2))).fdiv (2 ^ 1)) then ((a1.1[(w64 ((IntKind.wrap .u64 (w64 (v402.1 + v402.2))).fdiv (2 ^ 1))).toNat]?).bind fun x603 => (impl_order.sem (x603, a1.2.1, ())).bind fun r604 => bif decide (r604.1 < (0 : Int)) then (self (w64 ((w64 ((IntKind.wrap .u64 (w64 (v402.1 + v402.2))).fdiv (2 ^ 1))) + (1 : Int)), v402.2)) else self (v402.1, w64 ((IntKind.wrap .u64 (w64 (v402.1 + v402.2))).fdiv (2 ^ 1)))) else none) else e0 v402.1
noncomputable def B0 (k : Nat) (self : (Int × Int) → Option Out) (e0 : Int → Option Out) (a1 : Arg) (v402 : Int × Int) : Option Out := b0 self e0 a1 v402
theorem B0_eq (k : Nat) (rec : RT Out) (K : KT Out) (a1 : Arg) (v402 : Int × Int) : N0 k (T0 a1 v402) (loopC rec M0 K) = B0 k (S0 rec a1) (X0_0 K a1) a1 v402 := by kernel_rfl
noncomputable def l0 (k : Nat) (a1 : Arg) (e0 : Int → Option Out) (v : Int × Int) : Option Out := rawIter (fun self v => B0 k self e0 a1 v) k v
theorem l0_eq (k : Nat) (K : KT Out) (a1 : Arg) (v402 : Int × Int) : iterK (N0 k) M0 K k (T0 a1 v402) = l0 k a1 (X0_0 K a1) v402 :=
  iter_raw _ _ K (fun v402 => (T0 a1 v402)) (fun self v => B0 k self (X0_0 K a1) a1 v) (fun rec v => B0_eq k rec K a1 v) k v402
noncomputable def q0 (a1 : Arg) (z605 : Int) : Option Out := bif decide (z605 < (a1.1.length : Int)) then (if 0 ≤ z605 then ((a1.1[z605.toNat]?).bind fun x606 => (impl_order.sem (x606, a1.2.1, ())).bind fun r607 => some (z605, decide (r607.1 = (0 : Int)), ())) else none) else some (z605, false, ())
noncomputable def Q0 (k : Nat) (a1 : Arg) (z605 : Int) : Option Out := q0 a1 z605
theorem Q0_eq (k : Nat) (a1 : Arg) (z605 : Int) : X0_0 (blockC 0 (seqC (codeK E k fin (sub [1, 1, 1, 1] C)) K0)) a1 z605 = Q0 k a1 z605 := by kernel_rfl
noncomputable def s0 (k : Nat) (a1 : Arg) : (Int × Int) → Option Out := fun v402 => iterK (N0 k) M0 (blockC 0 (seqC (codeK E k fin (sub [1, 1, 1, 1] C)) K0)) k (T0 a1 v402)
noncomputable def r0 (k : Nat) (a1 : Arg) : (Int × Int) → Option Out := fun v402 => l0 k a1 (fun z => Q0 k a1 z) v402
theorem s0_eq (k : Nat) (a1 : Arg) : s0 k a1 = r0 k a1 := by
  funext v402;
  have h0 : X0_0 ((blockC 0 (seqC (codeK E k fin (sub [1, 1, 1, 1] C)) K0))) a1 = fun z => Q0 k a1 z := funext fun z => Q0_eq k a1 z
  refine (l0_eq k ((blockC 0 (seqC (codeK E k fin (sub [1, 1, 1, 1] C)) K0))) a1 v402).trans ?_
  rw [h0]
  rfl
noncomputable def p (l0 : (Int × Int) → Option Out) (a1 : Arg) : Option Out := l0 ((0 : Int), (a1.1.length : Int))
noncomputable def raw (k : Nat) (a1 : Arg) : Option Out := p (r0 k a1) a1
theorem p_eq (k : Nat) (a1 : Arg) : W k a1 = p (s0 k a1) a1 := by kernel_rfl
theorem raw_eq (k : Nat) (a1 : Arg) : W k a1 = raw k a1 := (p_eq k a1).trans (by rw [s0_eq]; rfl)
theorem ok : Ok prog 122 sig := fn_ok func122 (tl := tl) (gl := gl) (es := []) (fr := []) rfl rfl (by kernel_rfl) (fc impl_order.ok (fn_nil _)) (fun _ => rfl)
end slices_BinarySearchFunc_Row
namespace laws_eqRow
/-! loop example g00408 laws eqRow -/
abbrev Arg : Type := Row × Row × Unit
abbrev Out : Type := Bool × Unit
noncomputable def ps : PQ := [(.ro, tRow), (.ro, tRow)]
noncomputable def rs : RQ := [(.bool, (roMd .bool))]
noncomputable def tl : TL := [(2, i64), (9, .str), (48, tRow)]
noncomputable def gl : GL := []
noncomputable def E : Env := { TI := lookN tl, G := lookN gl }
noncomputable def W (k : Nat) (a : Arg) : Option Out := bodyK E k f67 ps rs [] [] a
noncomputable def sem (a : Arg) : Option Out := lift fun k => W k a
noncomputable def sig : Sig := { ps := ps, rs := rs, F := sem }
noncomputable def p (a1 : Arg) : Option Out := bif !decide (a1.1.1 = a1.2.1.1) then (some (false, ())) else bif !decide (a1.1.2.1 = a1.2.1.2.1) then (some (false, ())) else bif !decide (a1.1.2.2.1 = a1.2.1.2.2.1) then (some (false, ())) else bif !decide (a1.1.2.2.2.1 = a1.2.1.2.2.2.1) then (some (false, ())) else some (true, ())
noncomputable def raw (k : Nat) (a1 : Arg) : Option Out := p a1
theorem raw_eq (k : Nat) (a1 : Arg) : W k a1 = raw k a1 := by kernel_rfl
theorem ok : Ok prog 67 sig := fn_ok func67 (tl := tl) (gl := gl) (es := []) (fr := []) rfl rfl (by kernel_rfl) (fn_nil _) (fun _ => rfl)
end laws_eqRow
namespace laws_eqRowS
/-! loop example g00408 laws eqRowS -/
abbrev Arg : Type := (List Row) × (List Row) × Unit
abbrev Out : Type := Bool × Unit
noncomputable def ps : PQ := [(.ro, (.slc tRow)), (.ro, (.slc tRow))]
noncomputable def rs : RQ := [(.bool, (roMd .bool))]
noncomputable def tl : TL := [(28, (.slc tRow)), (48, tRow)]
noncomputable def gl : GL := [(67, laws_eqRow.sig)]
noncomputable def E : Env := { TI := lookN tl, G := lookN gl, lv := [(4, [0, 1, 5])], lx := [(0, [])], od := [(6, [0, 1, 2, 3, 4, 5, 6, 7, 8, 9])] }
noncomputable def W (k : Nat) (a : Arg) : Option Out := bodyK E k f28 ps rs [] [] a
noncomputable def sem (a : Arg) : Option Out := lift fun k => W k a
noncomputable def sig : Sig := { ps := ps, rs := rs, F := sem }
noncomputable def C : Code := bodyOf f28
noncomputable def fin : St → Option Out := outK ps rs [] (Func.results f28).toList (mvs [])
noncomputable def K0 : Ex → St → Option Out := endK fin
noncomputable def T0 (a1 : Arg) (v402 : Int) : St := { n := 27, sl := [(0, .val (.slc tRow) a1.1), (1, .val (.slc tRow) a1.2.1), (5, .val i64 v402)], vr := [], lent := [] }
noncomputable def N0 (k : Nat) : St → (Ex → St → Option Out) → Option Out := codeK E k fin (sub [1, 1, 0, 1, 0, 0] C)
noncomputable def M0 : St → St := keepF [0, 1, 5] []
noncomputable def S0 (rec : RT Out) (a1 : Arg) : (Int) → Option Out := fun v402 => rec (T0 a1 v402)
noncomputable def X0_0 (K : KT Out) (a1 : Arg) : (Unit) → Option Out := fun z => K (.exit 0) ({ n := 27, sl := [], vr := [], lent := [] })
noncomputable def b0 (self : Int → Option Out) (e0 : (Unit) → Option Out) (a1 : Arg) (v402 : Int) : Option Out := bif decide (v402 < (a1.1.length : Int)) then (if 0 ≤ v402 then ((a1.1[v402.toNat]?).bind fun x603 => if 0 ≤ v402 then ((a1.2.1[v402.toNat]?).bind fun x604 => (laws_eqRow.sem (x603, x604, ())).bind fun r605 => bif !r605.1 then (some (false, ())) else self (w64 (v402 + (1 : Int)))) else none) else none) else e0 ()
noncomputable def B0 (k : Nat) (self : Int → Option Out) (e0 : (Unit) → Option Out) (a1 : Arg) (v402 : Int) : Option Out := b0 self e0 a1 v402
theorem B0_eq (k : Nat) (rec : RT Out) (K : KT Out) (a1 : Arg) (v402 : Int) : N0 k (T0 a1 v402) (loopC rec M0 K) = B0 k (S0 rec a1) (X0_0 K a1) a1 v402 := by kernel_rfl
noncomputable def l0 (k : Nat) (a1 : Arg) (e0 : (Unit) → Option Out) (v : Int) : Option Out := rawIter (fun self v => B0 k self e0 a1 v) k v
theorem l0_eq (k : Nat) (K : KT Out) (a1 : Arg) (v402 : Int) : iterK (N0 k) M0 K k (T0 a1 v402) = l0 k a1 (X0_0 K a1) v402 :=
  iter_raw _ _ K (fun v402 => (T0 a1 v402)) (fun self v => B0 k self (X0_0 K a1) a1 v) (fun rec v => B0_eq k rec K a1 v) k v402
noncomputable def q0 (a1 : Arg) (z606 : (Unit)) : Option Out := some (true, ())
noncomputable def Q0 (k : Nat) (a1 : Arg) (z606 : (Unit)) : Option Out := q0 a1 z606
theorem Q0_eq (k : Nat) (a1 : Arg) (z606 : (Unit)) : X0_0 (blockC 0 (seqC (codeK E k fin (sub [1, 1, 1] C)) K0)) a1 z606 = Q0 k a1 z606 := by kernel_rfl
noncomputable def s0 (k : Nat) (a1 : Arg) : (Int) → Option Out := fun v402 => iterK (N0 k) M0 (blockC 0 (seqC (codeK E k fin (sub [1, 1, 1] C)) K0)) k (T0 a1 v402)
noncomputable def r0 (k : Nat) (a1 : Arg) : (Int) → Option Out := fun v402 => l0 k a1 (fun z => Q0 k a1 z) v402
theorem s0_eq (k : Nat) (a1 : Arg) : s0 k a1 = r0 k a1 := by
  funext v402;
  have h0 : X0_0 ((blockC 0 (seqC (codeK E k fin (sub [1, 1, 1] C)) K0))) a1 = fun z => Q0 k a1 z := funext fun z => Q0_eq k a1 z
  refine (l0_eq k ((blockC 0 (seqC (codeK E k fin (sub [1, 1, 1] C)) K0))) a1 v402).trans ?_
  rw [h0]
  rfl
noncomputable def p (l0 : (Int) → Option Out) (a1 : Arg) : Option Out := bif !decide ((a1.1.length : Int) = (a1.2.1.length : Int)) then (some (false, ())) else l0 (0 : Int)
noncomputable def raw (k : Nat) (a1 : Arg) : Option Out := p (r0 k a1) a1
theorem p_eq (k : Nat) (a1 : Arg) : W k a1 = p (s0 k a1) a1 := by kernel_rfl
theorem raw_eq (k : Nat) (a1 : Arg) : W k a1 = raw k a1 := (p_eq k a1).trans (by rw [s0_eq]; rfl)
theorem ok : Ok prog 28 sig := fn_ok func28 (tl := tl) (gl := gl) (es := []) (fr := []) rfl rfl (by kernel_rfl) (fc laws_eqRow.ok (fn_nil _)) (fun _ => rfl)
end laws_eqRowS
namespace laws_eqChange
/-! loop example g00408 laws eqChange -/
abbrev Arg : Type := Change × Change × Unit
abbrev Out : Type := Bool × Unit
noncomputable def ps : PQ := [(.ro, tChange), (.ro, tChange)]
noncomputable def rs : RQ := [(.bool, (roMd .bool))]
noncomputable def tl : TL := [(4, .bool), (48, tRow), (50, tChange)]
noncomputable def gl : GL := [(67, laws_eqRow.sig)]
noncomputable def E : Env := { TI := lookN tl, G := lookN gl }
noncomputable def W (k : Nat) (a : Arg) : Option Out := bodyK E k f66 ps rs [] [] a
noncomputable def sem (a : Arg) : Option Out := lift fun k => W k a
noncomputable def sig : Sig := { ps := ps, rs := rs, F := sem }
noncomputable def p (a1 : Arg) : Option Out := bif !(a1.1.1 == a1.2.1.1) then (some (false, ())) else (laws_eqRow.sem (a1.1.2.1, a1.2.1.2.1, ())).bind fun r2 => bif !r2.1 then (some (false, ())) else bif !(a1.1.2.2.1 == a1.2.1.2.2.1) then (some (false, ())) else (laws_eqRow.sem (a1.1.2.2.2.1, a1.2.1.2.2.2.1, ())).bind fun r3 => bif !r3.1 then (some (false, ())) else some (true, ())
noncomputable def raw (k : Nat) (a1 : Arg) : Option Out := p a1
theorem raw_eq (k : Nat) (a1 : Arg) : W k a1 = raw k a1 := by kernel_rfl
theorem ok : Ok prog 66 sig := fn_ok func66 (tl := tl) (gl := gl) (es := []) (fr := []) rfl rfl (by kernel_rfl) (fc laws_eqRow.ok (fn_nil _)) (fun _ => rfl)
end laws_eqChange
namespace laws_eqChangeS
/-! loop example g00408 laws eqChangeS -/
abbrev Arg : Type := (List Change) × (List Change) × Unit
abbrev Out : Type := Bool × Unit
noncomputable def ps : PQ := [(.ro, (.slc tChange)), (.ro, (.slc tChange))]
noncomputable def rs : RQ := [(.bool, (roMd .bool))]
noncomputable def tl : TL := [(50, tChange), (65, (.slc tChange))]
noncomputable def gl : GL := [(66, laws_eqChange.sig)]
noncomputable def E : Env := { TI := lookN tl, G := lookN gl, lv := [(4, [0, 1, 5])], lx := [(0, [])], od := [(6, [0, 1, 2, 3, 4, 5, 6, 7, 8, 9])] }
noncomputable def W (k : Nat) (a : Arg) : Option Out := bodyK E k f125 ps rs [] [] a
noncomputable def sem (a : Arg) : Option Out := lift fun k => W k a
noncomputable def sig : Sig := { ps := ps, rs := rs, F := sem }
noncomputable def C : Code := bodyOf f125
noncomputable def fin : St → Option Out := outK ps rs [] (Func.results f125).toList (mvs [])
noncomputable def K0 : Ex → St → Option Out := endK fin
noncomputable def T0 (a1 : Arg) (v402 : Int) : St := { n := 27, sl := [(0, .val (.slc tChange) a1.1), (1, .val (.slc tChange) a1.2.1), (5, .val i64 v402)], vr := [], lent := [] }
noncomputable def N0 (k : Nat) : St → (Ex → St → Option Out) → Option Out := codeK E k fin (sub [1, 1, 0, 1, 0, 0] C)
noncomputable def M0 : St → St := keepF [0, 1, 5] []
noncomputable def S0 (rec : RT Out) (a1 : Arg) : (Int) → Option Out := fun v402 => rec (T0 a1 v402)
noncomputable def X0_0 (K : KT Out) (a1 : Arg) : (Unit) → Option Out := fun z => K (.exit 0) ({ n := 27, sl := [], vr := [], lent := [] })
noncomputable def b0 (self : Int → Option Out) (e0 : (Unit) → Option Out) (a1 : Arg) (v402 : Int) : Option Out := bif decide (v402 < (a1.1.length : Int)) then (if 0 ≤ v402 then ((a1.1[v402.toNat]?).bind fun x603 => if 0 ≤ v402 then ((a1.2.1[v402.toNat]?).bind fun x604 => (laws_eqChange.sem (x603, x604, ())).bind fun r605 => bif !r605.1 then (some (false, ())) else self (w64 (v402 + (1 : Int)))) else none) else none) else e0 ()
noncomputable def B0 (k : Nat) (self : Int → Option Out) (e0 : (Unit) → Option Out) (a1 : Arg) (v402 : Int) : Option Out := b0 self e0 a1 v402
theorem B0_eq (k : Nat) (rec : RT Out) (K : KT Out) (a1 : Arg) (v402 : Int) : N0 k (T0 a1 v402) (loopC rec M0 K) = B0 k (S0 rec a1) (X0_0 K a1) a1 v402 := by kernel_rfl
noncomputable def l0 (k : Nat) (a1 : Arg) (e0 : (Unit) → Option Out) (v : Int) : Option Out := rawIter (fun self v => B0 k self e0 a1 v) k v
theorem l0_eq (k : Nat) (K : KT Out) (a1 : Arg) (v402 : Int) : iterK (N0 k) M0 K k (T0 a1 v402) = l0 k a1 (X0_0 K a1) v402 :=
  iter_raw _ _ K (fun v402 => (T0 a1 v402)) (fun self v => B0 k self (X0_0 K a1) a1 v) (fun rec v => B0_eq k rec K a1 v) k v402
noncomputable def q0 (a1 : Arg) (z606 : (Unit)) : Option Out := some (true, ())
noncomputable def Q0 (k : Nat) (a1 : Arg) (z606 : (Unit)) : Option Out := q0 a1 z606
theorem Q0_eq (k : Nat) (a1 : Arg) (z606 : (Unit)) : X0_0 (blockC 0 (seqC (codeK E k fin (sub [1, 1, 1] C)) K0)) a1 z606 = Q0 k a1 z606 := by kernel_rfl
noncomputable def s0 (k : Nat) (a1 : Arg) : (Int) → Option Out := fun v402 => iterK (N0 k) M0 (blockC 0 (seqC (codeK E k fin (sub [1, 1, 1] C)) K0)) k (T0 a1 v402)
noncomputable def r0 (k : Nat) (a1 : Arg) : (Int) → Option Out := fun v402 => l0 k a1 (fun z => Q0 k a1 z) v402
theorem s0_eq (k : Nat) (a1 : Arg) : s0 k a1 = r0 k a1 := by
  funext v402;
  have h0 : X0_0 ((blockC 0 (seqC (codeK E k fin (sub [1, 1, 1] C)) K0))) a1 = fun z => Q0 k a1 z := funext fun z => Q0_eq k a1 z
  refine (l0_eq k ((blockC 0 (seqC (codeK E k fin (sub [1, 1, 1] C)) K0))) a1 v402).trans ?_
  rw [h0]
  rfl
noncomputable def p (l0 : (Int) → Option Out) (a1 : Arg) : Option Out := bif !decide ((a1.1.length : Int) = (a1.2.1.length : Int)) then (some (false, ())) else l0 (0 : Int)
noncomputable def raw (k : Nat) (a1 : Arg) : Option Out := p (r0 k a1) a1
theorem p_eq (k : Nat) (a1 : Arg) : W k a1 = p (s0 k a1) a1 := by kernel_rfl
theorem raw_eq (k : Nat) (a1 : Arg) : W k a1 = raw k a1 := (p_eq k a1).trans (by rw [s0_eq]; rfl)
theorem ok : Ok prog 125 sig := fn_ok func125 (tl := tl) (gl := gl) (es := []) (fr := []) rfl rfl (by kernel_rfl) (fc laws_eqChange.ok (fn_nil _)) (fun _ => rfl)
end laws_eqChangeS
namespace laws_eqInt64S
/-! loop example g00408 laws eqInt64S -/
abbrev Arg : Type := (List Int) × (List Int) × Unit
abbrev Out : Type := Bool × Unit
noncomputable def ps : PQ := [(.ro, (.slc i64)), (.ro, (.slc i64))]
noncomputable def rs : RQ := [(.bool, (roMd .bool))]
noncomputable def tl : TL := [(2, i64), (96, (.slc i64))]
noncomputable def gl : GL := []
noncomputable def E : Env := { TI := lookN tl, G := lookN gl, lv := [(4, [0, 1, 5])], lx := [(0, [])], od := [(6, [0, 1, 2, 3, 4, 5, 6, 7, 8])] }
noncomputable def W (k : Nat) (a : Arg) : Option Out := bodyK E k f126 ps rs [] [] a
noncomputable def sem (a : Arg) : Option Out := lift fun k => W k a
noncomputable def sig : Sig := { ps := ps, rs := rs, F := sem }
noncomputable def C : Code := bodyOf f126
noncomputable def fin : St → Option Out := outK ps rs [] (Func.results f126).toList (mvs [])
noncomputable def K0 : Ex → St → Option Out := endK fin
noncomputable def T0 (a1 : Arg) (v402 : Int) : St := { n := 26, sl := [(0, .val (.slc i64) a1.1), (1, .val (.slc i64) a1.2.1), (5, .val i64 v402)], vr := [], lent := [] }
noncomputable def N0 (k : Nat) : St → (Ex → St → Option Out) → Option Out := codeK E k fin (sub [1, 1, 0, 1, 0, 0] C)
noncomputable def M0 : St → St := keepF [0, 1, 5] []
noncomputable def S0 (rec : RT Out) (a1 : Arg) : (Int) → Option Out := fun v402 => rec (T0 a1 v402)
noncomputable def X0_0 (K : KT Out) (a1 : Arg) : (Unit) → Option Out := fun z => K (.exit 0) ({ n := 26, sl := [], vr := [], lent := [] })
noncomputable def b0 (self : Int → Option Out) (e0 : (Unit) → Option Out) (a1 : Arg) (v402 : Int) : Option Out := bif decide (v402 < (a1.1.length : Int)) then (if 0 ≤ v402 then ((a1.1[v402.toNat]?).bind fun x603 => if 0 ≤ v402 then ((a1.2.1[v402.toNat]?).bind fun x604 => bif !decide (x603 = x604) then (some (false, ())) else self (w64 (v402 + (1 : Int)))) else none) else none) else e0 ()
noncomputable def B0 (k : Nat) (self : Int → Option Out) (e0 : (Unit) → Option Out) (a1 : Arg) (v402 : Int) : Option Out := b0 self e0 a1 v402
theorem B0_eq (k : Nat) (rec : RT Out) (K : KT Out) (a1 : Arg) (v402 : Int) : N0 k (T0 a1 v402) (loopC rec M0 K) = B0 k (S0 rec a1) (X0_0 K a1) a1 v402 := by kernel_rfl
noncomputable def l0 (k : Nat) (a1 : Arg) (e0 : (Unit) → Option Out) (v : Int) : Option Out := rawIter (fun self v => B0 k self e0 a1 v) k v
theorem l0_eq (k : Nat) (K : KT Out) (a1 : Arg) (v402 : Int) : iterK (N0 k) M0 K k (T0 a1 v402) = l0 k a1 (X0_0 K a1) v402 :=
  iter_raw _ _ K (fun v402 => (T0 a1 v402)) (fun self v => B0 k self (X0_0 K a1) a1 v) (fun rec v => B0_eq k rec K a1 v) k v402
noncomputable def q0 (a1 : Arg) (z605 : (Unit)) : Option Out := some (true, ())
noncomputable def Q0 (k : Nat) (a1 : Arg) (z605 : (Unit)) : Option Out := q0 a1 z605
theorem Q0_eq (k : Nat) (a1 : Arg) (z605 : (Unit)) : X0_0 (blockC 0 (seqC (codeK E k fin (sub [1, 1, 1] C)) K0)) a1 z605 = Q0 k a1 z605 := by kernel_rfl
noncomputable def s0 (k : Nat) (a1 : Arg) : (Int) → Option Out := fun v402 => iterK (N0 k) M0 (blockC 0 (seqC (codeK E k fin (sub [1, 1, 1] C)) K0)) k (T0 a1 v402)
noncomputable def r0 (k : Nat) (a1 : Arg) : (Int) → Option Out := fun v402 => l0 k a1 (fun z => Q0 k a1 z) v402
theorem s0_eq (k : Nat) (a1 : Arg) : s0 k a1 = r0 k a1 := by
  funext v402;
  have h0 : X0_0 ((blockC 0 (seqC (codeK E k fin (sub [1, 1, 1] C)) K0))) a1 = fun z => Q0 k a1 z := funext fun z => Q0_eq k a1 z
  refine (l0_eq k ((blockC 0 (seqC (codeK E k fin (sub [1, 1, 1] C)) K0))) a1 v402).trans ?_
  rw [h0]
  rfl
noncomputable def p (l0 : (Int) → Option Out) (a1 : Arg) : Option Out := bif !decide ((a1.1.length : Int) = (a1.2.1.length : Int)) then (some (false, ())) else l0 (0 : Int)
noncomputable def raw (k : Nat) (a1 : Arg) : Option Out := p (r0 k a1) a1
theorem p_eq (k : Nat) (a1 : Arg) : W k a1 = p (s0 k a1) a1 := by kernel_rfl
theorem raw_eq (k : Nat) (a1 : Arg) : W k a1 = raw k a1 := (p_eq k a1).trans (by rw [s0_eq]; rfl)
theorem ok : Ok prog 126 sig := fn_ok func126 (tl := tl) (gl := gl) (es := []) (fr := []) rfl rfl (by kernel_rfl) (fn_nil _) (fun _ => rfl)
end laws_eqInt64S
namespace laws_eqKey
/-! loop example g00408 laws eqKey -/
abbrev Arg : Type := Key × Key × Unit
abbrev Out : Type := Bool × Unit
noncomputable def ps : PQ := [(.ro, tKey), (.ro, tKey)]
noncomputable def rs : RQ := [(.bool, (roMd .bool))]
noncomputable def tl : TL := [(2, i64), (146, tKey)]
noncomputable def gl : GL := []
noncomputable def E : Env := { TI := lookN tl, G := lookN gl }
noncomputable def W (k : Nat) (a : Arg) : Option Out := bodyK E k f167 ps rs [] [] a
noncomputable def sem (a : Arg) : Option Out := lift fun k => W k a
noncomputable def sig : Sig := { ps := ps, rs := rs, F := sem }
noncomputable def p (a1 : Arg) : Option Out := bif !decide (a1.1.1 = a1.2.1.1) then (some (false, ())) else bif !decide (a1.1.2.1 = a1.2.1.2.1) then (some (false, ())) else some (true, ())
noncomputable def raw (k : Nat) (a1 : Arg) : Option Out := p a1
theorem raw_eq (k : Nat) (a1 : Arg) : W k a1 = raw k a1 := by kernel_rfl
theorem ok : Ok prog 167 sig := fn_ok func167 (tl := tl) (gl := gl) (es := []) (fr := []) rfl rfl (by kernel_rfl) (fn_nil _) (fun _ => rfl)
end laws_eqKey
namespace laws_eqKeyS
/-! loop example g00408 laws eqKeyS -/
abbrev Arg : Type := (List Key) × (List Key) × Unit
abbrev Out : Type := Bool × Unit
noncomputable def ps : PQ := [(.ro, (.slc tKey)), (.ro, (.slc tKey))]
noncomputable def rs : RQ := [(.bool, (roMd .bool))]
noncomputable def tl : TL := [(97, (.slc tKey)), (146, tKey)]
noncomputable def gl : GL := [(167, laws_eqKey.sig)]
noncomputable def E : Env := { TI := lookN tl, G := lookN gl, lv := [(4, [0, 1, 5])], lx := [(0, [])], od := [(6, [0, 1, 2, 3, 4, 5, 6, 7, 8, 9])] }
noncomputable def W (k : Nat) (a : Arg) : Option Out := bodyK E k f127 ps rs [] [] a
noncomputable def sem (a : Arg) : Option Out := lift fun k => W k a
noncomputable def sig : Sig := { ps := ps, rs := rs, F := sem }
noncomputable def C : Code := bodyOf f127
noncomputable def fin : St → Option Out := outK ps rs [] (Func.results f127).toList (mvs [])
noncomputable def K0 : Ex → St → Option Out := endK fin
noncomputable def T0 (a1 : Arg) (v402 : Int) : St := { n := 27, sl := [(0, .val (.slc tKey) a1.1), (1, .val (.slc tKey) a1.2.1), (5, .val i64 v402)], vr := [], lent := [] }
noncomputable def N0 (k : Nat) : St → (Ex → St → Option Out) → Option Out := codeK E k fin (sub [1, 1, 0, 1, 0, 0] C)
noncomputable def M0 : St → St := keepF [0, 1, 5] []
noncomputable def S0 (rec : RT Out) (a1 : Arg) : (Int) → Option Out := fun v402 => rec (T0 a1 v402)
noncomputable def X0_0 (K : KT Out) (a1 : Arg) : (Unit) → Option Out := fun z => K (.exit 0) ({ n := 27, sl := [], vr := [], lent := [] })
noncomputable def b0 (self : Int → Option Out) (e0 : (Unit) → Option Out) (a1 : Arg) (v402 : Int) : Option Out := bif decide (v402 < (a1.1.length : Int)) then (if 0 ≤ v402 then ((a1.1[v402.toNat]?).bind fun x603 => if 0 ≤ v402 then ((a1.2.1[v402.toNat]?).bind fun x604 => (laws_eqKey.sem (x603, x604, ())).bind fun r605 => bif !r605.1 then (some (false, ())) else self (w64 (v402 + (1 : Int)))) else none) else none) else e0 ()
noncomputable def B0 (k : Nat) (self : Int → Option Out) (e0 : (Unit) → Option Out) (a1 : Arg) (v402 : Int) : Option Out := b0 self e0 a1 v402
theorem B0_eq (k : Nat) (rec : RT Out) (K : KT Out) (a1 : Arg) (v402 : Int) : N0 k (T0 a1 v402) (loopC rec M0 K) = B0 k (S0 rec a1) (X0_0 K a1) a1 v402 := by kernel_rfl
noncomputable def l0 (k : Nat) (a1 : Arg) (e0 : (Unit) → Option Out) (v : Int) : Option Out := rawIter (fun self v => B0 k self e0 a1 v) k v
theorem l0_eq (k : Nat) (K : KT Out) (a1 : Arg) (v402 : Int) : iterK (N0 k) M0 K k (T0 a1 v402) = l0 k a1 (X0_0 K a1) v402 :=
  iter_raw _ _ K (fun v402 => (T0 a1 v402)) (fun self v => B0 k self (X0_0 K a1) a1 v) (fun rec v => B0_eq k rec K a1 v) k v402
noncomputable def q0 (a1 : Arg) (z606 : (Unit)) : Option Out := some (true, ())
noncomputable def Q0 (k : Nat) (a1 : Arg) (z606 : (Unit)) : Option Out := q0 a1 z606
theorem Q0_eq (k : Nat) (a1 : Arg) (z606 : (Unit)) : X0_0 (blockC 0 (seqC (codeK E k fin (sub [1, 1, 1] C)) K0)) a1 z606 = Q0 k a1 z606 := by kernel_rfl
noncomputable def s0 (k : Nat) (a1 : Arg) : (Int) → Option Out := fun v402 => iterK (N0 k) M0 (blockC 0 (seqC (codeK E k fin (sub [1, 1, 1] C)) K0)) k (T0 a1 v402)
noncomputable def r0 (k : Nat) (a1 : Arg) : (Int) → Option Out := fun v402 => l0 k a1 (fun z => Q0 k a1 z) v402
theorem s0_eq (k : Nat) (a1 : Arg) : s0 k a1 = r0 k a1 := by
  funext v402;
  have h0 : X0_0 ((blockC 0 (seqC (codeK E k fin (sub [1, 1, 1] C)) K0))) a1 = fun z => Q0 k a1 z := funext fun z => Q0_eq k a1 z
  refine (l0_eq k ((blockC 0 (seqC (codeK E k fin (sub [1, 1, 1] C)) K0))) a1 v402).trans ?_
  rw [h0]
  rfl
noncomputable def p (l0 : (Int) → Option Out) (a1 : Arg) : Option Out := bif !decide ((a1.1.length : Int) = (a1.2.1.length : Int)) then (some (false, ())) else l0 (0 : Int)
noncomputable def raw (k : Nat) (a1 : Arg) : Option Out := p (r0 k a1) a1
theorem p_eq (k : Nat) (a1 : Arg) : W k a1 = p (s0 k a1) a1 := by kernel_rfl
theorem raw_eq (k : Nat) (a1 : Arg) : W k a1 = raw k a1 := (p_eq k a1).trans (by rw [s0_eq]; rfl)
theorem ok : Ok prog 127 sig := fn_ok func127 (tl := tl) (gl := gl) (es := []) (fr := []) rfl rfl (by kernel_rfl) (fc laws_eqKey.ok (fn_nil _)) (fun _ => rfl)
end laws_eqKeyS
namespace laws_eqTx
/-! loop example g00408 laws eqTx -/
abbrev Arg : Type := Tx × Tx × Unit
abbrev Out : Type := Bool × Unit
noncomputable def ps : PQ := [(.ro, tTx), (.ro, tTx)]
noncomputable def rs : RQ := [(.bool, (roMd .bool))]
noncomputable def tl : TL := [(2, i64), (65, (.slc tChange)), (96, (.slc i64)), (97, (.slc tKey)), (99, tTx)]
noncomputable def gl : GL := [(125, laws_eqChangeS.sig), (126, laws_eqInt64S.sig), (127, laws_eqKeyS.sig)]
noncomputable def E : Env := { TI := lookN tl, G := lookN gl }
noncomputable def W (k : Nat) (a : Arg) : Option Out := bodyK E k f68 ps rs [] [] a
noncomputable def sem (a : Arg) : Option Out := lift fun k => W k a
noncomputable def sig : Sig := { ps := ps, rs := rs, F := sem }
noncomputable def p (a1 : Arg) : Option Out := bif !decide (a1.1.1 = a1.2.1.1) then (some (false, ())) else (laws_eqChangeS.sem (a1.1.2.1, a1.2.1.2.1, ())).bind fun r2 => bif !r2.1 then (some (false, ())) else (laws_eqInt64S.sem (a1.1.2.2.1, a1.2.1.2.2.1, ())).bind fun r3 => bif !r3.1 then (some (false, ())) else (laws_eqKeyS.sem (a1.1.2.2.2.1, a1.2.1.2.2.2.1, ())).bind fun r4 => bif !r4.1 then (some (false, ())) else some (true, ())
noncomputable def raw (k : Nat) (a1 : Arg) : Option Out := p a1
theorem raw_eq (k : Nat) (a1 : Arg) : W k a1 = raw k a1 := by kernel_rfl
theorem ok : Ok prog 68 sig := fn_ok func68 (tl := tl) (gl := gl) (es := []) (fr := []) rfl rfl (by kernel_rfl) (fc laws_eqChangeS.ok (fc laws_eqInt64S.ok (fc laws_eqKeyS.ok (fn_nil _)))) (fun _ => rfl)
end laws_eqTx
namespace laws_eqTxS
/-! loop example g00408 laws eqTxS -/
abbrev Arg : Type := (List Tx) × (List Tx) × Unit
abbrev Out : Type := Bool × Unit
noncomputable def ps : PQ := [(.ro, (.slc tTx)), (.ro, (.slc tTx))]
noncomputable def rs : RQ := [(.bool, (roMd .bool))]
noncomputable def tl : TL := [(29, (.slc tTx)), (99, tTx)]
noncomputable def gl : GL := [(68, laws_eqTx.sig)]
noncomputable def E : Env := { TI := lookN tl, G := lookN gl, lv := [(4, [0, 1, 5])], lx := [(0, [])], od := [(6, [0, 1, 2, 3, 4, 5, 6, 7, 8, 9])] }
noncomputable def W (k : Nat) (a : Arg) : Option Out := bodyK E k f29 ps rs [] [] a
noncomputable def sem (a : Arg) : Option Out := lift fun k => W k a
noncomputable def sig : Sig := { ps := ps, rs := rs, F := sem }
noncomputable def C : Code := bodyOf f29
noncomputable def fin : St → Option Out := outK ps rs [] (Func.results f29).toList (mvs [])
noncomputable def K0 : Ex → St → Option Out := endK fin
noncomputable def T0 (a1 : Arg) (v402 : Int) : St := { n := 27, sl := [(0, .val (.slc tTx) a1.1), (1, .val (.slc tTx) a1.2.1), (5, .val i64 v402)], vr := [], lent := [] }
noncomputable def N0 (k : Nat) : St → (Ex → St → Option Out) → Option Out := codeK E k fin (sub [1, 1, 0, 1, 0, 0] C)
noncomputable def M0 : St → St := keepF [0, 1, 5] []
noncomputable def S0 (rec : RT Out) (a1 : Arg) : (Int) → Option Out := fun v402 => rec (T0 a1 v402)
noncomputable def X0_0 (K : KT Out) (a1 : Arg) : (Unit) → Option Out := fun z => K (.exit 0) ({ n := 27, sl := [], vr := [], lent := [] })
noncomputable def b0 (self : Int → Option Out) (e0 : (Unit) → Option Out) (a1 : Arg) (v402 : Int) : Option Out := bif decide (v402 < (a1.1.length : Int)) then (if 0 ≤ v402 then ((a1.1[v402.toNat]?).bind fun x603 => if 0 ≤ v402 then ((a1.2.1[v402.toNat]?).bind fun x604 => (laws_eqTx.sem (x603, x604, ())).bind fun r605 => bif !r605.1 then (some (false, ())) else self (w64 (v402 + (1 : Int)))) else none) else none) else e0 ()
noncomputable def B0 (k : Nat) (self : Int → Option Out) (e0 : (Unit) → Option Out) (a1 : Arg) (v402 : Int) : Option Out := b0 self e0 a1 v402
theorem B0_eq (k : Nat) (rec : RT Out) (K : KT Out) (a1 : Arg) (v402 : Int) : N0 k (T0 a1 v402) (loopC rec M0 K) = B0 k (S0 rec a1) (X0_0 K a1) a1 v402 := by kernel_rfl
noncomputable def l0 (k : Nat) (a1 : Arg) (e0 : (Unit) → Option Out) (v : Int) : Option Out := rawIter (fun self v => B0 k self e0 a1 v) k v
theorem l0_eq (k : Nat) (K : KT Out) (a1 : Arg) (v402 : Int) : iterK (N0 k) M0 K k (T0 a1 v402) = l0 k a1 (X0_0 K a1) v402 :=
  iter_raw _ _ K (fun v402 => (T0 a1 v402)) (fun self v => B0 k self (X0_0 K a1) a1 v) (fun rec v => B0_eq k rec K a1 v) k v402
noncomputable def q0 (a1 : Arg) (z606 : (Unit)) : Option Out := some (true, ())
noncomputable def Q0 (k : Nat) (a1 : Arg) (z606 : (Unit)) : Option Out := q0 a1 z606
theorem Q0_eq (k : Nat) (a1 : Arg) (z606 : (Unit)) : X0_0 (blockC 0 (seqC (codeK E k fin (sub [1, 1, 1] C)) K0)) a1 z606 = Q0 k a1 z606 := by kernel_rfl
noncomputable def s0 (k : Nat) (a1 : Arg) : (Int) → Option Out := fun v402 => iterK (N0 k) M0 (blockC 0 (seqC (codeK E k fin (sub [1, 1, 1] C)) K0)) k (T0 a1 v402)
noncomputable def r0 (k : Nat) (a1 : Arg) : (Int) → Option Out := fun v402 => l0 k a1 (fun z => Q0 k a1 z) v402
theorem s0_eq (k : Nat) (a1 : Arg) : s0 k a1 = r0 k a1 := by
  funext v402;
  have h0 : X0_0 ((blockC 0 (seqC (codeK E k fin (sub [1, 1, 1] C)) K0))) a1 = fun z => Q0 k a1 z := funext fun z => Q0_eq k a1 z
  refine (l0_eq k ((blockC 0 (seqC (codeK E k fin (sub [1, 1, 1] C)) K0))) a1 v402).trans ?_
  rw [h0]
  rfl
noncomputable def p (l0 : (Int) → Option Out) (a1 : Arg) : Option Out := bif !decide ((a1.1.length : Int) = (a1.2.1.length : Int)) then (some (false, ())) else l0 (0 : Int)
noncomputable def raw (k : Nat) (a1 : Arg) : Option Out := p (r0 k a1) a1
theorem p_eq (k : Nat) (a1 : Arg) : W k a1 = p (s0 k a1) a1 := by kernel_rfl
theorem raw_eq (k : Nat) (a1 : Arg) : W k a1 = raw k a1 := (p_eq k a1).trans (by rw [s0_eq]; rfl)
theorem ok : Ok prog 29 sig := fn_ok func29 (tl := tl) (gl := gl) (es := []) (fr := []) rfl rfl (by kernel_rfl) (fc laws_eqTx.ok (fn_nil _)) (fun _ => rfl)
end laws_eqTxS
namespace laws_szOp
/-! loop example g00408 laws szOp -/
abbrev Arg : Type := Op × Int × Unit
abbrev Out : Type := Int × Unit
noncomputable def ps : PQ := [(.ro, tOp), (.ro, i64)]
noncomputable def rs : RQ := [(i64, (roMd i64))]
noncomputable def tl : TL := [(42, tRow), (44, tOp)]
noncomputable def gl : GL := [(54, laws_szRow.sig)]
noncomputable def E : Env := { TI := lookN tl, G := lookN gl }
noncomputable def W (k : Nat) (a : Arg) : Option Out := bodyK E k f21 ps rs [] [] a
noncomputable def sem (a : Arg) : Option Out := lift fun k => W k a
noncomputable def sig : Sig := { ps := ps, rs := rs, F := sem }
noncomputable def p (a1 : Arg) : Option Out := (laws_szRow.sem (a1.1.2.2.1, a1.2.1, ())).bind fun r2 => bif decide (r2.1 < (0 : Int)) then (some ((-1 : Int), ())) else some (r2.1, ())
noncomputable def raw (k : Nat) (a1 : Arg) : Option Out := p a1
theorem raw_eq (k : Nat) (a1 : Arg) : W k a1 = raw k a1 := by kernel_rfl
theorem ok : Ok prog 21 sig := fn_ok func21 (tl := tl) (gl := gl) (es := []) (fr := []) rfl rfl (by kernel_rfl) (fc laws_szRow.ok (fn_nil _)) (fun _ => rfl)
end laws_szOp
namespace spec_l10Bad
/-! loop example g00408 spec l10Bad -/
abbrev Arg : Type := Int × Unit
abbrev Out : Type := ChangeResult × Unit
noncomputable def ps : PQ := [(.ro, i64)]
noncomputable def rs : RQ := [(tChangeResult, (roMd tChangeResult))]
noncomputable def tl : TL := [(52, tChangeResult)]
noncomputable def gl : GL := []
noncomputable def E : Env := { TI := lookN tl, G := lookN gl }
noncomputable def W (k : Nat) (a : Arg) : Option Out := bodyK E k f57 ps rs [] [] a
noncomputable def sem (a : Arg) : Option Out := lift fun k => W k a
noncomputable def sig : Sig := { ps := ps, rs := rs, F := sem }
noncomputable def p (a1 : Arg) : Option Out := some ((a1.1, false, (false, ((0 : Int), (0 : Int), (0 : Int), ([] : List UInt8), ()), false, ((0 : Int), (0 : Int), (0 : Int), ([] : List UInt8), ()), ()), ()), ())
noncomputable def raw (k : Nat) (a1 : Arg) : Option Out := p a1
theorem raw_eq (k : Nat) (a1 : Arg) : W k a1 = raw k a1 := by kernel_rfl
theorem ok : Ok prog 57 sig := fn_ok func57 (tl := tl) (gl := gl) (es := []) (fr := []) rfl rfl (by kernel_rfl) (fn_nil _) (fun _ => rfl)
end spec_l10Bad
namespace spec_l10Row
/-! loop example g00408 spec l10Row -/
abbrev Arg : Type := Int × Unit
abbrev Out : Type := Bool × Unit
noncomputable def ps : PQ := [(.ro, i64)]
noncomputable def rs : RQ := [(.bool, (roMd .bool))]
noncomputable def tl : TL := []
noncomputable def gl : GL := [(88, spec_l1In.sig)]
noncomputable def E : Env := { TI := lookN tl, G := lookN gl }
noncomputable def W (k : Nat) (a : Arg) : Option Out := bodyK E k f113 ps rs [] [] a
noncomputable def sem (a : Arg) : Option Out := lift fun k => W k a
noncomputable def sig : Sig := { ps := ps, rs := rs, F := sem }
noncomputable def p (a1 : Arg) : Option Out := (spec_l1In.sem (a1.1, (2 : Int), (4 : Int), ())).bind fun r2 => some (r2.1, ())
noncomputable def raw (k : Nat) (a1 : Arg) : Option Out := p a1
theorem raw_eq (k : Nat) (a1 : Arg) : W k a1 = raw k a1 := by kernel_rfl
theorem ok : Ok prog 113 sig := fn_ok func113 (tl := tl) (gl := gl) (es := []) (fr := []) rfl rfl (by kernel_rfl) (fc spec_l1In.ok (fn_nil _)) (fun _ => rfl)
end spec_l10Row
namespace spec_l10Form
/-! loop example g00408 spec l10Form -/
abbrev Arg : Type := Op × Unit
abbrev Out : Type := Bool × Unit
noncomputable def ps : PQ := [(.ro, (.ptr tOp))]
noncomputable def rs : RQ := [(.bool, (roMd .bool))]
noncomputable def tl : TL := [(2, i64), (9, .str), (48, tRow), (57, tOp)]
noncomputable def gl : GL := [(88, spec_l1In.sig), (113, spec_l10Row.sig)]
noncomputable def E : Env := { TI := lookN tl, G := lookN gl }
noncomputable def W (k : Nat) (a : Arg) : Option Out := bodyK E k f112 ps rs [] [] a
noncomputable def sem (a : Arg) : Option Out := lift fun k => W k a
noncomputable def sig : Sig := { ps := ps, rs := rs, F := sem }
noncomputable def p (a1 : Arg) : Option Out := let j6 : Option Out := let j8 : Option Out := bif decide (a1.1.1 = (4 : Int)) then (bif decide (a1.1.2.2.1.2.2.1 = (0 : Int)) then (some (decide (a1.1.2.2.1.2.2.2.1 = ([] : List UInt8)), ())) else some (false, ())) else (spec_l10Row.sem (a1.1.1, ())).bind fun r9 => bif r9.1 then (some (true, ())) else some ((Ty.eq tRow a1.1.2.2.1 ((0 : Int), (0 : Int), (0 : Int), ([] : List UInt8), ())), ()); bif decide (a1.1.1 = (1 : Int)) then (bif !decide (a1.1.2.1 = (0 : Int)) then (some (false, ())) else j8) else bif decide (a1.1.1 = (9 : Int)) then (bif !decide (a1.1.2.1 = (0 : Int)) then (some (false, ())) else j8) else j8; (spec_l1In.sem (a1.1.1, (1 : Int), (9 : Int), ())).bind fun r2 => bif !r2.1 then (some (false, ())) else bif !decide (a1.1.1 = (6 : Int)) then (bif !decide (a1.1.2.2.2.1 = (0 : Int)) then (some (false, ())) else j6) else j6
noncomputable def raw (k : Nat) (a1 : Arg) : Option Out := p a1
theorem raw_eq (k : Nat) (a1 : Arg) : W k a1 = raw k a1 := by kernel_rfl
theorem ok : Ok prog 112 sig := fn_ok func112 (tl := tl) (gl := gl) (es := []) (fr := []) rfl rfl (by kernel_rfl) (fc spec_l1In.ok (fc spec_l10Row.ok (fn_nil _))) (fun _ => rfl)
end spec_l10Form
namespace spec_l10Op
/-! loop example g00408 spec l10Op -/
abbrev Arg : Type := Op × Unit
abbrev Out : Type := Int × Unit
noncomputable def ps : PQ := [(.ro, (.ptr tOp))]
noncomputable def rs : RQ := [(i64, (roMd i64))]
noncomputable def tl : TL := [(2, i64), (57, tOp)]
noncomputable def gl : GL := [(88, spec_l1In.sig), (106, spec_l1Fault.sig), (112, spec_l10Form.sig), (113, spec_l10Row.sig)]
noncomputable def E : Env := { TI := lookN tl, G := lookN gl }
noncomputable def W (k : Nat) (a : Arg) : Option Out := bodyK E k f59 ps rs [] [] a
noncomputable def sem (a : Arg) : Option Out := lift fun k => W k a
noncomputable def sig : Sig := { ps := ps, rs := rs, F := sem }
noncomputable def p (a1 : Arg) : Option Out := (spec_l10Form.sem (a1.1, ())).bind fun r2 => bif !r2.1 then (some ((1 : Int), ())) else bif !decide (a1.1.1 = (1 : Int)) then (bif !decide (a1.1.1 = (9 : Int)) then ((spec_l1In.sem (a1.1.2.1, (1 : Int), (99 : Int), ())).bind fun r3 => bif !r3.1 then (some ((3 : Int), ())) else (spec_l1In.sem (a1.1.2.2.2.1, (0 : Int), (7 : Int), ())).bind fun r4 => bif !r4.1 then (some ((3 : Int), ())) else (spec_l10Row.sem (a1.1.1, ())).bind fun r9 => bif r9.1 then ((spec_l1Fault.sem (a1.1.2.2.1, ())).bind fun r10 => some (r10.1, ())) else some ((0 : Int), ())) else (spec_l1In.sem (a1.1.2.2.2.1, (0 : Int), (7 : Int), ())).bind fun r5 => bif !r5.1 then (some ((3 : Int), ())) else (spec_l10Row.sem (a1.1.1, ())).bind fun r11 => bif r11.1 then ((spec_l1Fault.sem (a1.1.2.2.1, ())).bind fun r12 => some (r12.1, ())) else some ((0 : Int), ())) else (spec_l1In.sem (a1.1.2.2.2.1, (0 : Int), (7 : Int), ())).bind fun r6 => bif !r6.1 then (some ((3 : Int), ())) else (spec_l10Row.sem (a1.1.1, ())).bind fun r13 => bif r13.1 then ((spec_l1Fault.sem (a1.1.2.2.1, ())).bind fun r14 => some (r14.1, ())) else some ((0 : Int), ())
noncomputable def raw (k : Nat) (a1 : Arg) : Option Out := p a1
theorem raw_eq (k : Nat) (a1 : Arg) : W k a1 = raw k a1 := by kernel_rfl
theorem ok : Ok prog 59 sig := fn_ok func59 (tl := tl) (gl := gl) (es := []) (fr := []) rfl rfl (by kernel_rfl) (fc spec_l1In.ok (fc spec_l1Fault.ok (fc spec_l10Form.ok (fc spec_l10Row.ok (fn_nil _))))) (fun _ => rfl)
end spec_l10Op
namespace spec_l10At
/-! loop example g00408 spec l10At -/
abbrev Arg : Type := (List Tx) × Int × Unit
abbrev Out : Type := Int × Unit
noncomputable def ps : PQ := [(.ro, (.slc tTx)), (.ro, i64)]
noncomputable def rs : RQ := [(i64, (roMd i64))]
noncomputable def tl : TL := [(2, i64), (29, (.slc tTx)), (99, tTx)]
noncomputable def gl : GL := []
noncomputable def E : Env := { TI := lookN tl, G := lookN gl, lv := [(2, [0, 1, 5])], lx := [(0, [])] }
noncomputable def W (k : Nat) (a : Arg) : Option Out := bodyK E k f114 ps rs [] [] a
noncomputable def sem (a : Arg) : Option Out := lift fun k => W k a
noncomputable def sig : Sig := { ps := ps, rs := rs, F := sem }
noncomputable def C : Code := bodyOf f114
noncomputable def fin : St → Option Out := outK ps rs [] (Func.results f114).toList (mvs [])
noncomputable def K0 : Ex → St → Option Out := endK fin
noncomputable def T0 (a1 : Arg) (v402 : Int) : St := { n := 20, sl := [(0, .val (.slc tTx) a1.1), (1, .val i64 a1.2.1), (5, .val i64 v402)], vr := [], lent := [] }
noncomputable def N0 (k : Nat) : St → (Ex → St → Option Out) → Option Out := codeK E k fin (sub [1, 0, 1, 0, 0] C)
noncomputable def M0 : St → St := keepF [0, 1, 5] []
noncomputable def S0 (rec : RT Out) (a1 : Arg) : (Int) → Option Out := fun v402 => rec (T0 a1 v402)
noncomputable def X0_0 (K : KT Out) (a1 : Arg) : (Unit) → Option Out := fun z => K (.exit 0) ({ n := 20, sl := [], vr := [], lent := [] })
noncomputable def b0 (self : Int → Option Out) (e0 : (Unit) → Option Out) (a1 : Arg) (v402 : Int) : Option Out := bif decide (v402 < (a1.1.length : Int)) then (if 0 ≤ v402 then ((a1.1[v402.toNat]?).bind fun x603 => bif decide (x603.1 = a1.2.1) then (some (v402, ())) else self (w64 (v402 + (1 : Int)))) else none) else e0 ()
noncomputable def B0 (k : Nat) (self : Int → Option Out) (e0 : (Unit) → Option Out) (a1 : Arg) (v402 : Int) : Option Out := b0 self e0 a1 v402
theorem B0_eq (k : Nat) (rec : RT Out) (K : KT Out) (a1 : Arg) (v402 : Int) : N0 k (T0 a1 v402) (loopC rec M0 K) = B0 k (S0 rec a1) (X0_0 K a1) a1 v402 := by kernel_rfl
noncomputable def l0 (k : Nat) (a1 : Arg) (e0 : (Unit) → Option Out) (v : Int) : Option Out := rawIter (fun self v => B0 k self e0 a1 v) k v
theorem l0_eq (k : Nat) (K : KT Out) (a1 : Arg) (v402 : Int) : iterK (N0 k) M0 K k (T0 a1 v402) = l0 k a1 (X0_0 K a1) v402 :=
  iter_raw _ _ K (fun v402 => (T0 a1 v402)) (fun self v => B0 k self (X0_0 K a1) a1 v) (fun rec v => B0_eq k rec K a1 v) k v402
noncomputable def q0 (a1 : Arg) (z604 : (Unit)) : Option Out := some ((-1 : Int), ())
noncomputable def Q0 (k : Nat) (a1 : Arg) (z604 : (Unit)) : Option Out := q0 a1 z604
theorem Q0_eq (k : Nat) (a1 : Arg) (z604 : (Unit)) : X0_0 (blockC 0 (seqC (codeK E k fin (sub [1, 1] C)) K0)) a1 z604 = Q0 k a1 z604 := by kernel_rfl
noncomputable def s0 (k : Nat) (a1 : Arg) : (Int) → Option Out := fun v402 => iterK (N0 k) M0 (blockC 0 (seqC (codeK E k fin (sub [1, 1] C)) K0)) k (T0 a1 v402)
noncomputable def r0 (k : Nat) (a1 : Arg) : (Int) → Option Out := fun v402 => l0 k a1 (fun z => Q0 k a1 z) v402
theorem s0_eq (k : Nat) (a1 : Arg) : s0 k a1 = r0 k a1 := by
  funext v402;
  have h0 : X0_0 ((blockC 0 (seqC (codeK E k fin (sub [1, 1] C)) K0))) a1 = fun z => Q0 k a1 z := funext fun z => Q0_eq k a1 z
  refine (l0_eq k ((blockC 0 (seqC (codeK E k fin (sub [1, 1] C)) K0))) a1 v402).trans ?_
  rw [h0]
  rfl
noncomputable def p (l0 : (Int) → Option Out) (a1 : Arg) : Option Out := l0 (0 : Int)
noncomputable def raw (k : Nat) (a1 : Arg) : Option Out := p (r0 k a1) a1
theorem p_eq (k : Nat) (a1 : Arg) : W k a1 = p (s0 k a1) a1 := by kernel_rfl
theorem raw_eq (k : Nat) (a1 : Arg) : W k a1 = raw k a1 := (p_eq k a1).trans (by rw [s0_eq]; rfl)
theorem ok : Ok prog 114 sig := fn_ok func114 (tl := tl) (gl := gl) (es := []) (fr := []) rfl rfl (by kernel_rfl) (fn_nil _) (fun _ => rfl)
end spec_l10At
namespace spec_l10Held
/-! loop example g00408 spec l10Held -/
abbrev Arg : Type := (List Tx) × Int × Key × Unit
abbrev Out : Type := Bool × Unit
noncomputable def ps : PQ := [(.ro, (.slc tTx)), (.ro, i64), (.ro, tKey)]
noncomputable def rs : RQ := [(.bool, (roMd .bool))]
noncomputable def tl : TL := [(2, i64), (29, (.slc tTx)), (97, (.slc tKey)), (99, tTx), (146, tKey)]
noncomputable def gl : GL := []
noncomputable def E : Env := { TI := lookN tl, G := lookN gl, lv := [(2, [0, 1, 5, 7]), (6, [0, 1, 5, 7, 8])], lx := [(0, []), (1, [0, 1, 5, 7]), (2, [0, 1, 5, 7])] }
noncomputable def W (k : Nat) (a : Arg) : Option Out := bodyK E k f159 ps rs [] [] a
noncomputable def sem (a : Arg) : Option Out := lift fun k => W k a
noncomputable def sig : Sig := { ps := ps, rs := rs, F := sem }
noncomputable def C : Code := bodyOf f159
noncomputable def fin : St → Option Out := outK ps rs [] (Func.results f159).toList (mvs [])
noncomputable def K0 : Ex → St → Option Out := endK fin
noncomputable def T0 (a1 : Arg) (v402 : (List Tx) × Int × Key × Int) : St := { n := 68, sl := [(0, .val (.slc tTx) v402.1), (1, .val i64 v402.2.1), (5, .box tKey (roMd tKey) [] v402.2.2.1), (7, .val i64 v402.2.2.2)], vr := [], lent := [] }
noncomputable def N0 (k : Nat) : St → (Ex → St → Option Out) → Option Out := codeK E k fin (sub [1, 0, 1, 0, 0] C)
noncomputable def M0 : St → St := keepF [0, 1, 5, 7] []
noncomputable def S0 (rec : RT Out) (a1 : Arg) : ((List Tx) × Int × Key × Int) → Option Out := fun v402 => rec (T0 a1 v402)
noncomputable def X0_0 (K : KT Out) (a1 : Arg) : (Unit) → Option Out := fun z => K (.exit 0) ({ n := 68, sl := [], vr := [], lent := [] })
noncomputable def T1 (a1 : Arg) (c1005 : List Tx) (c1006 : Int) (c1007 : Key) (c1008 : Int) (v1004 : Int) : St := { n := 68, sl := [(0, .val (.slc tTx) c1005), (1, .val i64 c1006), (5, .box tKey (roMd tKey) [] c1007), (7, .val i64 c1008), (8, .val i64 v1004)], vr := [], lent := [] }
noncomputable def N1 (k : Nat) : St → (Ex → St → Option Out) → Option Out := codeK E k fin (sub [1, 0, 1, 0, 0, 1, 0, 0, 1, 1, 0, 0] C)
noncomputable def M1 : St → St := keepF [0, 1, 5, 7, 8] []
noncomputable def S1 (rec : RT Out) (a1 : Arg) (c1005 : List Tx) (c1006 : Int) (c1007 : Key) (c1008 : Int) : (Int) → Option Out := fun v1004 => rec (T1 a1 c1005 c1006 c1007 c1008 v1004)
noncomputable def X1_2 (K : KT Out) (a1 : Arg) (c1005 : List Tx) (c1006 : Int) (c1007 : Key) (c1008 : Int) : (Unit) → Option Out := fun z => K (.exit 2) ({ n := 68, sl := [(0, .val (.slc tTx) c1005), (1, .val i64 c1006), (5, .box tKey (roMd tKey) [] c1007), (7, .val i64 c1008)], vr := [], lent := [] })
noncomputable def b1 (self : Int → Option Out) (e2 : (Unit) → Option Out) (a1 : Arg) (c1005 : List Tx) (c1006 : Int) (c1007 : Key) (c1008 : Int) (v1004 : Int) : Option Out := if 0 ≤ c1008 then ((c1005[c1008.toNat]?).bind fun x1209 => bif decide (v1004 < (x1209.2.2.2.1.length : Int)) then (if 0 ≤ c1008 then ((c1005[c1008.toNat]?).bind fun x1210 => if 0 ≤ v1004 then ((x1210.2.2.2.1[v1004.toNat]?).bind fun x1211 => bif (Ty.eq tKey x1211 c1007) then (some (true, ())) else bif decide (x1211.1 = (0 : Int)) then (bif decide (x1211.2.1 = c1007.1) then (some (true, ())) else bif decide (c1007.1 = (0 : Int)) then (bif decide (x1211.1 = c1007.2.1) then (some (true, ())) else self (w64 (v1004 + (1 : Int)))) else self (w64 (v1004 + (1 : Int)))) else bif decide (c1007.1 = (0 : Int)) then (bif decide (x1211.1 = c1007.2.1) then (some (true, ())) else self (w64 (v1004 + (1 : Int)))) else self (w64 (v1004 + (1 : Int)))) else none) else none) else e2 ()) else none
noncomputable def B1 (k : Nat) (self : Int → Option Out) (e2 : (Unit) → Option Out) (a1 : Arg) (c1005 : List Tx) (c1006 : Int) (c1007 : Key) (c1008 : Int) (v1004 : Int) : Option Out := b1 self e2 a1 c1005 c1006 c1007 c1008 v1004
theorem B1_eq (k : Nat) (rec : RT Out) (K : KT Out) (a1 : Arg) (c1005 : List Tx) (c1006 : Int) (c1007 : Key) (c1008 : Int) (v1004 : Int) : N1 k (T1 a1 c1005 c1006 c1007 c1008 v1004) (loopC rec M1 K) = B1 k (S1 rec a1 c1005 c1006 c1007 c1008) (X1_2 K a1 c1005 c1006 c1007 c1008) a1 c1005 c1006 c1007 c1008 v1004 := by kernel_rfl
noncomputable def l1 (k : Nat) (a1 : Arg) (c1005 : List Tx) (c1006 : Int) (c1007 : Key) (c1008 : Int) (e2 : (Unit) → Option Out) (v : Int) : Option Out := rawIter (fun self v => B1 k self e2 a1 c1005 c1006 c1007 c1008 v) k v
theorem l1_eq (k : Nat) (K : KT Out) (a1 : Arg) (c1005 : List Tx) (c1006 : Int) (c1007 : Key) (c1008 : Int) (v1004 : Int) : iterK (N1 k) M1 K k (T1 a1 c1005 c1006 c1007 c1008 v1004) = l1 k a1 c1005 c1006 c1007 c1008 (X1_2 K a1 c1005 c1006 c1007 c1008) v1004 :=
  iter_raw _ _ K (fun v1004 => (T1 a1 c1005 c1006 c1007 c1008 v1004)) (fun self v => B1 k self (X1_2 K a1 c1005 c1006 c1007 c1008) a1 c1005 c1006 c1007 c1008 v) (fun rec v => B1_eq k rec K a1 c1005 c1006 c1007 c1008 v) k v1004
noncomputable def q0 (self : ((List Tx) × Int × Key × Int) → Option Out) (e0 : (Unit) → Option Out) (a1 : Arg) (c1005 : List Tx) (c1006 : Int) (c1007 : Key) (c1008 : Int) (z1212 : (Unit)) : Option Out := self (c1005, c1006, c1007, w64 (c1008 + (1 : Int)))
noncomputable def Q0 (k : Nat) (self : ((List Tx) × Int × Key × Int) → Option Out) (e0 : (Unit) → Option Out) (a1 : Arg) (c1005 : List Tx) (c1006 : Int) (c1007 : Key) (c1008 : Int) (z1212 : (Unit)) : Option Out := q0 self e0 a1 c1005 c1006 c1007 c1008 z1212
theorem Q0_eq (k : Nat) (rec : RT Out) (K : KT Out) (a1 : Arg) (c1005 : List Tx) (c1006 : Int) (c1007 : Key) (c1008 : Int) (z1212 : (Unit)) : X1_2 (blockC 2 (blockC 1 (seqC (codeK E k fin (sub [1, 0, 1, 0, 0, 1, 1] C)) (loopC rec (keepF [0, 1, 5, 7] []) K)))) a1 c1005 c1006 c1007 c1008 z1212 = Q0 k (S0 rec a1) (X0_0 K a1) a1 c1005 c1006 c1007 c1008 z1212 := by kernel_rfl
noncomputable def s1 (k : Nat) (rec : RT Out) (K : KT Out) (a1 : Arg) : (List Tx) → Int → Key → Int → (Int) → Option Out := fun c1005 c1006 c1007 c1008 v1004 => iterK (N1 k) M1 (blockC 2 (blockC 1 (seqC (codeK E k fin (sub [1, 0, 1, 0, 0, 1, 1] C)) (loopC rec (keepF [0, 1, 5, 7] []) K)))) k (T1 a1 c1005 c1006 c1007 c1008 v1004)
noncomputable def r1 (k : Nat) (self : ((List Tx) × Int × Key × Int) → Option Out) (e0 : (Unit) → Option Out) (a1 : Arg) : (List Tx) → Int → Key → Int → (Int) → Option Out := fun c1005 c1006 c1007 c1008 v1004 => l1 k a1 c1005 c1006 c1007 c1008 (fun z => Q0 k self e0 a1 c1005 c1006 c1007 c1008 z) v1004
theorem s1_eq (k : Nat) (rec : RT Out) (K : KT Out) (a1 : Arg) : s1 k rec K a1 = r1 k (S0 rec a1) (X0_0 K a1) a1 := by
  funext c1005; funext c1006; funext c1007; funext c1008; funext v1004;
  have h2 : X1_2 ((blockC 2 (blockC 1 (seqC (codeK E k fin (sub [1, 0, 1, 0, 0, 1, 1] C)) (loopC rec (keepF [0, 1, 5, 7] []) K))))) a1 c1005 c1006 c1007 c1008 = fun z => Q0 k (S0 rec a1) (X0_0 K a1) a1 c1005 c1006 c1007 c1008 z := funext fun z => Q0_eq k rec K a1 c1005 c1006 c1007 c1008 z
  refine (l1_eq k ((blockC 2 (blockC 1 (seqC (codeK E k fin (sub [1, 0, 1, 0, 0, 1, 1] C)) (loopC rec (keepF [0, 1, 5, 7] []) K))))) a1 c1005 c1006 c1007 c1008 v1004).trans ?_
  rw [h2]
  rfl
noncomputable def b0 (self : ((List Tx) × Int × Key × Int) → Option Out) (e0 : (Unit) → Option Out) (l1 : (List Tx) → Int → Key → Int → (Int) → Option Out) (a1 : Arg) (v402 : (List Tx) × Int × Key × Int) : Option Out := bif decide (v402.2.2.2 < (v402.1.length : Int)) then (if 0 ≤ v402.2.2.2 then ((v402.1[v402.2.2.2.toNat]?).bind fun x603 => bif decide (x603.1 = v402.2.1) then (self (v402.1, v402.2.1, v402.2.2.1, w64 (v402.2.2.2 + (1 : Int)))) else l1 v402.1 v402.2.1 v402.2.2.1 v402.2.2.2 (0 : Int)) else none) else e0 ()
noncomputable def B0 (k : Nat) (self : ((List Tx) × Int × Key × Int) → Option Out) (e0 : (Unit) → Option Out) (a1 : Arg) (v402 : (List Tx) × Int × Key × Int) : Option Out := b0 self e0 (r1 k self e0 a1) a1 v402
theorem b0_eq (k : Nat) (rec : RT Out) (K : KT Out) (a1 : Arg) (v402 : (List Tx) × Int × Key × Int) : N0 k (T0 a1 v402) (loopC rec M0 K) = b0 (S0 rec a1) (X0_0 K a1) (s1 k rec K a1) a1 v402 := by kernel_rfl
theorem B0_eq (k : Nat) (rec : RT Out) (K : KT Out) (a1 : Arg) (v402 : (List Tx) × Int × Key × Int) : N0 k (T0 a1 v402) (loopC rec M0 K) = B0 k (S0 rec a1) (X0_0 K a1) a1 v402 := (b0_eq k rec K a1 v402).trans (by rw [s1_eq]; rfl)
noncomputable def l0 (k : Nat) (a1 : Arg) (e0 : (Unit) → Option Out) (v : (List Tx) × Int × Key × Int) : Option Out := rawIter (fun self v => B0 k self e0 a1 v) k v
theorem l0_eq (k : Nat) (K : KT Out) (a1 : Arg) (v402 : (List Tx) × Int × Key × Int) : iterK (N0 k) M0 K k (T0 a1 v402) = l0 k a1 (X0_0 K a1) v402 :=
  iter_raw _ _ K (fun v402 => (T0 a1 v402)) (fun self v => B0 k self (X0_0 K a1) a1 v) (fun rec v => B0_eq k rec K a1 v) k v402
noncomputable def q1 (a1 : Arg) (z1213 : (Unit)) : Option Out := some (false, ())
noncomputable def Q1 (k : Nat) (a1 : Arg) (z1213 : (Unit)) : Option Out := q1 a1 z1213
theorem Q1_eq (k : Nat) (a1 : Arg) (z1213 : (Unit)) : X0_0 (blockC 0 (seqC (codeK E k fin (sub [1, 1] C)) K0)) a1 z1213 = Q1 k a1 z1213 := by kernel_rfl
noncomputable def s0 (k : Nat) (a1 : Arg) : ((List Tx) × Int × Key × Int) → Option Out := fun v402 => iterK (N0 k) M0 (blockC 0 (seqC (codeK E k fin (sub [1, 1] C)) K0)) k (T0 a1 v402)
noncomputable def r0 (k : Nat) (a1 : Arg) : ((List Tx) × Int × Key × Int) → Option Out := fun v402 => l0 k a1 (fun z => Q1 k a1 z) v402
theorem s0_eq (k : Nat) (a1 : Arg) : s0 k a1 = r0 k a1 := by
  funext v402;
  have h0 : X0_0 ((blockC 0 (seqC (codeK E k fin (sub [1, 1] C)) K0))) a1 = fun z => Q1 k a1 z := funext fun z => Q1_eq k a1 z
  refine (l0_eq k ((blockC 0 (seqC (codeK E k fin (sub [1, 1] C)) K0))) a1 v402).trans ?_
  rw [h0]
  rfl
noncomputable def p (l0 : ((List Tx) × Int × Key × Int) → Option Out) (a1 : Arg) : Option Out := l0 (a1.1, a1.2.1, a1.2.2.1, (0 : Int))
noncomputable def raw (k : Nat) (a1 : Arg) : Option Out := p (r0 k a1) a1
theorem p_eq (k : Nat) (a1 : Arg) : W k a1 = p (s0 k a1) a1 := by kernel_rfl
theorem raw_eq (k : Nat) (a1 : Arg) : W k a1 = raw k a1 := (p_eq k a1).trans (by rw [s0_eq]; rfl)
theorem ok : Ok prog 159 sig := fn_ok func159 (tl := tl) (gl := gl) (es := []) (fr := []) rfl rfl (by kernel_rfl) (fn_nil _) (fun _ => rfl)
end spec_l10Held
namespace spec_l10Wanted
/-! loop example g00408 spec l10Wanted -/
abbrev Arg : Type := (List Row) × Op × Unit
abbrev Out : Type := Change × Int × Unit
noncomputable def ps : PQ := [(.ro, (.slc tRow)), (.ro, (.ptr tOp))]
noncomputable def rs : RQ := [(tChange, (roMd tChange)), (i64, (roMd i64))]
noncomputable def tl : TL := [(2, i64), (4, .bool), (28, (.slc tRow)), (48, tRow), (50, tChange), (57, tOp)]
noncomputable def gl : GL := [(191, spec_l6At.sig)]
noncomputable def E : Env := { TI := lookN tl, G := lookN gl, od := [(1, [0, 1, 2, 3, 4, 5, 6, 7, 8, 9, 10, 11, 12])] }
noncomputable def W (k : Nat) (a : Arg) : Option Out := bodyK E k f160 ps rs [] [] a
noncomputable def sem (a : Arg) : Option Out := lift fun k => W k a
noncomputable def sig : Sig := { ps := ps, rs := rs, F := sem }
noncomputable def p (a1 : Arg) : Option Out := (spec_l6At.sem (a1.1, a1.2.1.2.2.1.1, a1.2.1.2.2.1.2.1, ())).bind fun r2 => let j5 : Option Out := let j7 : Option Out := let j10 := fun (p9 : Change) => (bif p9.2.2.1 then (some ((p9.1, p9.2.1, p9.2.2.1, a1.2.1.2.2.1, p9.2.2.2.2), (0 : Int), ())) else some (p9, (0 : Int), ()) : Option Out); bif decide ((0 : Int) ≤ r2.1) then (if 0 ≤ r2.1 then ((a1.1[r2.1.toNat]?).bind fun x8 => j10 (decide ((0 : Int) ≤ r2.1), x8, !decide (a1.2.1.1 = (4 : Int)), ((0 : Int), (0 : Int), (0 : Int), ([] : List UInt8), ()), ())) else none) else j10 (decide ((0 : Int) ≤ r2.1), ((0 : Int), (0 : Int), (0 : Int), ([] : List UInt8), ()), !decide (a1.2.1.1 = (4 : Int)), ((0 : Int), (0 : Int), (0 : Int), ([] : List UInt8), ()), ()); bif !decide (a1.2.1.1 = (2 : Int)) then (bif decide (r2.1 < (0 : Int)) then (some ((false, ((0 : Int), (0 : Int), (0 : Int), ([] : List UInt8), ()), false, ((0 : Int), (0 : Int), (0 : Int), ([] : List UInt8), ()), ()), (4 : Int), ())) else j7) else j7; bif decide (a1.2.1.1 = (2 : Int)) then (bif decide ((0 : Int) ≤ r2.1) then (some ((false, ((0 : Int), (0 : Int), (0 : Int), ([] : List UInt8), ()), false, ((0 : Int), (0 : Int), (0 : Int), ([] : List UInt8), ()), ()), (6 : Int), ())) else j5) else j5
noncomputable def raw (k : Nat) (a1 : Arg) : Option Out := p a1
theorem raw_eq (k : Nat) (a1 : Arg) : W k a1 = raw k a1 := by kernel_rfl
theorem ok : Ok prog 160 sig := fn_ok func160 (tl := tl) (gl := gl) (es := []) (fr := []) rfl rfl (by kernel_rfl) (fc spec_l6At.ok (fn_nil _)) (fun _ => rfl)
end spec_l10Wanted
namespace spec_l8Catalog
/-! loop example g00408 spec l8Catalog -/
abbrev Arg : Type := (List Row) × Change × Unit
abbrev Out : Type := Int × Unit
noncomputable def ps : PQ := [(.ro, (.slc tRow)), (.ro, (.ptr tChange))]
noncomputable def rs : RQ := [(i64, (roMd i64))]
noncomputable def tl : TL := [(2, i64), (4, .bool), (9, .str), (28, (.slc tRow)), (48, tRow), (50, tChange)]
noncomputable def gl : GL := [(88, spec_l1In.sig), (190, spec_l6Key.sig)]
noncomputable def E : Env := { TI := lookN tl, G := lookN gl, lv := [(5, [0, 1, 6, 7])], lx := [(0, [])], od := [(7, [0, 1, 2, 3, 4, 5, 6, 7, 8, 9, 10, 11, 12, 13, 14, 15, 16, 17, 18, 19, 20, 21, 22, 23, 24, 25, 26, 27, 28, 29, 30, 31, 32, 33, 34, 35])] }
noncomputable def W (k : Nat) (a : Arg) : Option Out := bodyK E k f194 ps rs [] [] a
noncomputable def sem (a : Arg) : Option Out := lift fun k => W k a
noncomputable def sig : Sig := { ps := ps, rs := rs, F := sem }
noncomputable def C : Code := bodyOf f194
noncomputable def fin : St → Option Out := outK ps rs [] (Func.results f194).toList (mvs [])
noncomputable def K0 : Ex → St → Option Out := endK fin
noncomputable def T0 (a1 : Arg) (c1008 : Int) (v1007 : Int) : St := { n := 80, sl := [(0, .val (.slc tRow) a1.1), (1, .cp tChange a1.2.1), (6, .val i64 c1008), (7, .val i64 v1007)], vr := [], lent := [] }
noncomputable def N0 (k : Nat) : St → (Ex → St → Option Out) → Option Out := codeK E k fin (sub [1, 1, 1, 0, 1, 0, 0] C)
noncomputable def M0 : St → St := keepF [0, 1, 6, 7] []
noncomputable def S0 (rec : RT Out) (a1 : Arg) (c1008 : Int) : (Int) → Option Out := fun v1007 => rec (T0 a1 c1008 v1007)
noncomputable def X0_0 (K : KT Out) (a1 : Arg) (c1008 : Int) : (Unit) → Option Out := fun z => K (.exit 0) ({ n := 80, sl := [], vr := [], lent := [] })
noncomputable def b0 (self : Int → Option Out) (e0 : (Unit) → Option Out) (a1 : Arg) (c1008 : Int) (v1007 : Int) : Option Out := bif decide (v1007 < (a1.1.length : Int)) then (if 0 ≤ v1007 then ((a1.1[v1007.toNat]?).bind fun x1209 => bif decide (x1209.1 = c1008) then (if 0 ≤ v1007 then ((a1.1[v1007.toNat]?).bind fun x1210 => bif !decide (x1210.1 = (0 : Int)) then (bif !a1.2.1.2.2.1 then (some ((8 : Int), ())) else if 0 ≤ v1007 then ((a1.1[v1007.toNat]?).bind fun x1211 => bif decide (a1.2.1.2.2.2.1.2.2.1 < (x1211.2.2.2.1.length : Int)) then (some ((8 : Int), ())) else self (w64 (v1007 + (1 : Int)))) else none) else self (w64 (v1007 + (1 : Int)))) else none) else self (w64 (v1007 + (1 : Int)))) else none) else e0 ()
noncomputable def B0 (k : Nat) (self : Int → Option Out) (e0 : (Unit) → Option Out) (a1 : Arg) (c1008 : Int) (v1007 : Int) : Option Out := b0 self e0 a1 c1008 v1007
theorem B0_eq (k : Nat) (rec : RT Out) (K : KT Out) (a1 : Arg) (c1008 : Int) (v1007 : Int) : N0 k (T0 a1 c1008 v1007) (loopC rec M0 K) = B0 k (S0 rec a1 c1008) (X0_0 K a1 c1008) a1 c1008 v1007 := by kernel_rfl
noncomputable def l0 (k : Nat) (a1 : Arg) (c1008 : Int) (e0 : (Unit) → Option Out) (v : Int) : Option Out := rawIter (fun self v => B0 k self e0 a1 c1008 v) k v
theorem l0_eq (k : Nat) (K : KT Out) (a1 : Arg) (c1008 : Int) (v1007 : Int) : iterK (N0 k) M0 K k (T0 a1 c1008 v1007) = l0 k a1 c1008 (X0_0 K a1 c1008) v1007 :=
  iter_raw _ _ K (fun v1007 => (T0 a1 c1008 v1007)) (fun self v => B0 k self (X0_0 K a1 c1008) a1 c1008 v) (fun rec v => B0_eq k rec K a1 c1008 v) k v1007
noncomputable def q0 (a1 : Arg) (c1008 : Int) (z1212 : (Unit)) : Option Out := some ((0 : Int), ())
noncomputable def Q0 (k : Nat) (a1 : Arg) (c1008 : Int) (z1212 : (Unit)) : Option Out := q0 a1 c1008 z1212
theorem Q0_eq (k : Nat) (a1 : Arg) (c1008 : Int) (z1212 : (Unit)) : X0_0 (blockC 0 (seqC (codeK E k fin (sub [1, 1, 1, 1] C)) K0)) a1 c1008 z1212 = Q0 k a1 c1008 z1212 := by kernel_rfl
noncomputable def s0 (k : Nat) (a1 : Arg) : Int → (Int) → Option Out := fun c1008 v1007 => iterK (N0 k) M0 (blockC 0 (seqC (codeK E k fin (sub [1, 1, 1, 1] C)) K0)) k (T0 a1 c1008 v1007)
noncomputable def r0 (k : Nat) (a1 : Arg) : Int → (Int) → Option Out := fun c1008 v1007 => l0 k a1 c1008 (fun z => Q0 k a1 c1008 z) v1007
theorem s0_eq (k : Nat) (a1 : Arg) : s0 k a1 = r0 k a1 := by
  funext c1008; funext v1007;
  have h0 : X0_0 ((blockC 0 (seqC (codeK E k fin (sub [1, 1, 1, 1] C)) K0))) a1 c1008 = fun z => Q0 k a1 c1008 z := funext fun z => Q0_eq k a1 c1008 z
  refine (l0_eq k ((blockC 0 (seqC (codeK E k fin (sub [1, 1, 1, 1] C)) K0))) a1 c1008 v1007).trans ?_
  rw [h0]
  rfl
noncomputable def p (l0 : Int → (Int) → Option Out) (a1 : Arg) : Option Out := (spec_l6Key.sem (a1.2.1, ())).bind fun r2 => let j606 : Option Out := l0 r2.2.1 (0 : Int); bif a1.2.1.2.2.1 then ((spec_l1In.sem (r2.2.1, (1 : Int), (3 : Int), ())).bind fun r3 => bif !r3.1 then (some ((10 : Int), ())) else bif decide ((8 : Int) < a1.2.1.2.2.2.1.2.2.1) then (some ((10 : Int), ())) else bif !decide (a1.2.1.2.2.2.1.2.2.2.1 = ([] : List UInt8)) then (some ((10 : Int), ())) else j606) else j606
noncomputable def raw (k : Nat) (a1 : Arg) : Option Out := p (r0 k a1) a1
theorem p_eq (k : Nat) (a1 : Arg) : W k a1 = p (s0 k a1) a1 := by kernel_rfl
theorem raw_eq (k : Nat) (a1 : Arg) : W k a1 = raw k a1 := (p_eq k a1).trans (by rw [s0_eq]; rfl)
theorem ok : Ok prog 194 sig := fn_ok func194 (tl := tl) (gl := gl) (es := []) (fr := []) rfl rfl (by kernel_rfl) (fc spec_l1In.ok (fc spec_l6Key.ok (fn_nil _))) (fun _ => rfl)
end spec_l8Catalog
namespace spec_l8Longest
/-! loop example g00408 spec l8Longest -/
abbrev Arg : Type := (List Row) × Int × Unit
abbrev Out : Type := Int × Unit
noncomputable def ps : PQ := [(.ro, (.slc tRow)), (.ro, i64)]
noncomputable def rs : RQ := [(i64, (roMd i64))]
noncomputable def tl : TL := [(2, i64), (28, (.slc tRow)), (48, tRow)]
noncomputable def gl : GL := [(191, spec_l6At.sig)]
noncomputable def E : Env := { TI := lookN tl, G := lookN gl }
noncomputable def W (k : Nat) (a : Arg) : Option Out := bodyK E k f195 ps rs [] [] a
noncomputable def sem (a : Arg) : Option Out := lift fun k => W k a
noncomputable def sig : Sig := { ps := ps, rs := rs, F := sem }
noncomputable def p (a1 : Arg) : Option Out := (spec_l6At.sem (a1.1, (0 : Int), a1.2.1, ())).bind fun r2 => bif decide (r2.1 < (0 : Int)) then (some ((-1 : Int), ())) else if 0 ≤ r2.1 then ((a1.1[r2.1.toNat]?).bind fun x3 => some (x3.2.2.1, ())) else none
noncomputable def raw (k : Nat) (a1 : Arg) : Option Out := p a1
theorem raw_eq (k : Nat) (a1 : Arg) : W k a1 = raw k a1 := by kernel_rfl
theorem ok : Ok prog 195 sig := fn_ok func195 (tl := tl) (gl := gl) (es := []) (fr := []) rfl rfl (by kernel_rfl) (fc spec_l6At.ok (fn_nil _)) (fun _ => rfl)
end spec_l8Longest
namespace spec_l8May
/-! loop example g00408 spec l8May -/
abbrev Arg : Type := (List Row) × Change × Unit
abbrev Out : Type := Int × Unit
noncomputable def ps : PQ := [(.ro, (.slc tRow)), (.ro, (.ptr tChange))]
noncomputable def rs : RQ := [(i64, (roMd i64))]
noncomputable def tl : TL := [(4, .bool), (9, .str), (48, tRow), (50, tChange)]
noncomputable def gl : GL := [(190, spec_l6Key.sig), (194, spec_l8Catalog.sig), (195, spec_l8Longest.sig)]
noncomputable def E : Env := { TI := lookN tl, G := lookN gl }
noncomputable def W (k : Nat) (a : Arg) : Option Out := bodyK E k f161 ps rs [] [] a
noncomputable def sem (a : Arg) : Option Out := lift fun k => W k a
noncomputable def sig : Sig := { ps := ps, rs := rs, F := sem }
noncomputable def p (a1 : Arg) : Option Out := (spec_l6Key.sem (a1.2.1, ())).bind fun r2 => bif decide (r2.1 = (0 : Int)) then ((spec_l8Catalog.sem (a1.1, a1.2.1, ())).bind fun r3 => some (r3.1, ())) else bif !a1.2.1.2.2.1 then (some ((0 : Int), ())) else (spec_l8Longest.sem (a1.1, r2.1, ())).bind fun r4 => bif decide (r4.1 < (0 : Int)) then (some ((4 : Int), ())) else bif decide (r4.1 < (a1.2.1.2.2.2.1.2.2.2.1.length : Int)) then (some ((10 : Int), ())) else some ((0 : Int), ())
noncomputable def raw (k : Nat) (a1 : Arg) : Option Out := p a1
theorem raw_eq (k : Nat) (a1 : Arg) : W k a1 = raw k a1 := by kernel_rfl
theorem ok : Ok prog 161 sig := fn_ok func161 (tl := tl) (gl := gl) (es := []) (fr := []) rfl rfl (by kernel_rfl) (fc spec_l6Key.ok (fc spec_l8Catalog.ok (fc spec_l8Longest.ok (fn_nil _)))) (fun _ => rfl)
end spec_l8May
namespace spec_l10CheckRow
/-! loop example g00408 spec l10CheckRow -/
abbrev Arg : Type := (List Row) × (List Tx) × Op × Unit
abbrev Out : Type := ChangeResult × Unit
noncomputable def ps : PQ := [(.ro, (.slc tRow)), (.ro, (.slc tTx)), (.ro, (.ptr tOp))]
noncomputable def rs : RQ := [(tChangeResult, (roMd tChangeResult))]
noncomputable def tl : TL := [(2, i64), (4, .bool), (48, tRow), (50, tChange), (52, tChangeResult), (57, tOp), (146, tKey)]
noncomputable def gl : GL := [(57, spec_l10Bad.sig), (89, spec_l10Room.sig), (111, spec_l10Count.sig), (159, spec_l10Held.sig), (160, spec_l10Wanted.sig), (161, spec_l8May.sig)]
noncomputable def E : Env := { TI := lookN tl, G := lookN gl, od := [(1, [0, 1, 2, 3, 4, 5, 6, 7, 8, 9, 10, 11, 12]), (2, [0, 1, 2, 3, 4, 5, 6])] }
noncomputable def W (k : Nat) (a : Arg) : Option Out := bodyK E k f115 ps rs [] [] a
noncomputable def sem (a : Arg) : Option Out := lift fun k => W k a
noncomputable def sig : Sig := { ps := ps, rs := rs, F := sem }
noncomputable def p (a1 : Arg) : Option Out := (spec_l10Held.sem (a1.2.1, a1.2.2.1.2.1, (a1.2.2.1.2.2.1.1, a1.2.2.1.2.2.1.2.1, ()), ())).bind fun r2 => bif r2.1 then ((spec_l10Bad.sem ((7 : Int), ())).bind fun r3 => some (r3.1, ())) else (spec_l10Wanted.sem (a1.1, a1.2.2.1, ())).bind fun r4 => bif !decide (r4.2.1 = (0 : Int)) then ((spec_l10Bad.sem (r4.2.1, ())).bind fun r5 => some (r5.1, ())) else (spec_l8May.sem (a1.1, r4.1, ())).bind fun r6 => bif !decide (r6.1 = (0 : Int)) then ((spec_l10Bad.sem (r6.1, ())).bind fun r7 => some (r7.1, ())) else (spec_l10Room.sem (a1.1, a1.2.1, (a1.2.2.1.2.2.1.1, a1.2.2.1.2.2.1.2.1, ()), ())).bind fun r8 => bif decide ((12 : Int) < r8.1) then ((spec_l10Bad.sem ((9 : Int), ())).bind fun r10 => some (r10.1, ())) else (spec_l10Count.sem (a1.2.1, ())).bind fun r9 => bif decide ((12 : Int) ≤ r9.1) then ((spec_l10Bad.sem ((9 : Int), ())).bind fun r11 => some (r11.1, ())) else bif r4.1.1 then (bif r4.1.2.2.1 then (bif (Ty.eq tRow r4.1.2.1 r4.1.2.2.2.1) then (some (((0 : Int), false, (false, ((0 : Int), (0 : Int), (0 : Int), ([] : List UInt8), ()), false, ((0 : Int), (0 : Int), (0 : Int), ([] : List UInt8), ()), ()), ()), ())) else some (((0 : Int), true, r4.1, ()), ())) else some (((0 : Int), true, r4.1, ()), ())) else some (((0 : Int), true, r4.1, ()), ())
noncomputable def raw (k : Nat) (a1 : Arg) : Option Out := p a1
theorem raw_eq (k : Nat) (a1 : Arg) : W k a1 = raw k a1 := by kernel_rfl
theorem ok : Ok prog 115 sig := fn_ok func115 (tl := tl) (gl := gl) (es := []) (fr := []) rfl rfl (by kernel_rfl) (fc spec_l10Bad.ok (fc spec_l10Room.ok (fc spec_l10Count.ok (fc spec_l10Held.ok (fc spec_l10Wanted.ok (fc spec_l8May.ok (fn_nil _))))))) (fun _ => rfl)
end spec_l10CheckRow
namespace spec_l10Check
/-! loop example g00408 spec l10Check -/
abbrev Arg : Type := (List Row) × (List Tx) × Op × Unit
abbrev Out : Type := ChangeResult × Unit
noncomputable def ps : PQ := [(.ro, (.slc tRow)), (.ro, (.slc tTx)), (.ro, (.ptr tOp))]
noncomputable def rs : RQ := [(tChangeResult, (roMd tChangeResult))]
noncomputable def tl : TL := [(2, i64), (29, (.slc tTx)), (52, tChangeResult), (57, tOp), (96, (.slc i64)), (99, tTx)]
noncomputable def gl : GL := [(57, spec_l10Bad.sig), (114, spec_l10At.sig), (115, spec_l10CheckRow.sig)]
noncomputable def E : Env := { TI := lookN tl, G := lookN gl, od := [(17, [0, 1, 2, 3, 4, 5, 6, 7, 8, 9, 10])] }
noncomputable def W (k : Nat) (a : Arg) : Option Out := bodyK E k f60 ps rs [] [] a
noncomputable def sem (a : Arg) : Option Out := lift fun k => W k a
noncomputable def sig : Sig := { ps := ps, rs := rs, F := sem }
noncomputable def p (a1 : Arg) : Option Out := bif decide (a1.2.2.1.1 = (1 : Int)) then (bif decide ((4 : Int) ≤ (a1.2.1.length : Int)) then ((spec_l10Bad.sem ((2 : Int), ())).bind fun r2 => some (r2.1, ())) else some (((0 : Int), false, (false, ((0 : Int), (0 : Int), (0 : Int), ([] : List UInt8), ()), false, ((0 : Int), (0 : Int), (0 : Int), ([] : List UInt8), ()), ()), ()), ())) else bif decide (a1.2.2.1.1 = (9 : Int)) then (some (((0 : Int), false, (false, ((0 : Int), (0 : Int), (0 : Int), ([] : List UInt8), ()), false, ((0 : Int), (0 : Int), (0 : Int), ([] : List UInt8), ()), ()), ()), ())) else (spec_l10At.sem (a1.2.1, a1.2.2.1.2.1, ())).bind fun r3 => bif decide (r3.1 < (0 : Int)) then ((spec_l10Bad.sem ((4 : Int), ())).bind fun r4 => some (r4.1, ())) else bif decide (a1.2.2.1.1 = (5 : Int)) then (if 0 ≤ r3.1 then ((a1.2.1[r3.1.toNat]?).bind fun x5 => bif decide ((8 : Int) ≤ (x5.2.2.1.length : Int)) then ((spec_l10Bad.sem ((2 : Int), ())).bind fun r6 => some (r6.1, ())) else some (((0 : Int), false, (false, ((0 : Int), (0 : Int), (0 : Int), ([] : List UInt8), ()), false, ((0 : Int), (0 : Int), (0 : Int), ([] : List UInt8), ()), ()), ()), ())) else none) else bif decide (a1.2.2.1.1 = (6 : Int)) then (if 0 ≤ r3.1 then ((a1.2.1[r3.1.toNat]?).bind fun x7 => bif decide ((x7.2.2.1.length : Int) ≤ a1.2.2.1.2.2.2.1) then ((spec_l10Bad.sem ((3 : Int), ())).bind fun r8 => some (r8.1, ())) else some (((0 : Int), false, (false, ((0 : Int), (0 : Int), (0 : Int), ([] : List UInt8), ()), false, ((0 : Int), (0 : Int), (0 : Int), ([] : List UInt8), ()), ()), ()), ())) else none) else bif decide (a1.2.2.1.1 = (7 : Int)) then (bif decide (a1.2.2.1.1 = (7 : Int)) then (some (((0 : Int), false, (false, ((0 : Int), (0 : Int), (0 : Int), ([] : List UInt8), ()), false, ((0 : Int), (0 : Int), (0 : Int), ([] : List UInt8), ()), ()), ()), ())) else (spec_l10CheckRow.sem (a1.1, a1.2.1, a1.2.2.1, ())).bind fun r10 => some (r10.1, ())) else bif decide (a1.2.2.1.1 = (8 : Int)) then (some (((0 : Int), false, (false, ((0 : Int), (0 : Int), (0 : Int), ([] : List UInt8), ()), false, ((0 : Int), (0 : Int), (0 : Int), ([] : List UInt8), ()), ()), ()), ())) else (spec_l10CheckRow.sem (a1.1, a1.2.1, a1.2.2.1, ())).bind fun r11 => some (r11.1, ())
noncomputable def raw (k : Nat) (a1 : Arg) : Option Out := p a1
theorem raw_eq (k : Nat) (a1 : Arg) : W k a1 = raw k a1 := by kernel_rfl
theorem ok : Ok prog 60 sig := fn_ok func60 (tl := tl) (gl := gl) (es := []) (fr := []) rfl rfl (by kernel_rfl) (fc spec_l10Bad.ok (fc spec_l10At.ok (fc spec_l10CheckRow.ok (fn_nil _)))) (fun _ => rfl)
end spec_l10Check
namespace spec_CheckOp
/-! loop example g00408 spec CheckOp -/
abbrev Arg : Type := (List Row) × (List Tx) × Op × Unit
abbrev Out : Type := ChangeResult × Unit
noncomputable def ps : PQ := [(.ro, (.slc tRow)), (.ro, (.slc tTx)), (.ro, tOp)]
noncomputable def rs : RQ := [(tChangeResult, (roMd tChangeResult))]
noncomputable def tl : TL := [(52, tChangeResult), (57, tOp)]
noncomputable def gl : GL := [(56, spec_l6Rows.sig), (57, spec_l10Bad.sig), (58, spec_l10Fault.sig), (59, spec_l10Op.sig), (60, spec_l10Check.sig)]
noncomputable def E : Env := { TI := lookN tl, G := lookN gl }
noncomputable def W (k : Nat) (a : Arg) : Option Out := bodyK E k f22 ps rs [] [] a
noncomputable def sem (a : Arg) : Option Out := lift fun k => W k a
noncomputable def sig : Sig := { ps := ps, rs := rs, F := sem }
noncomputable def p (a1 : Arg) : Option Out := (spec_l6Rows.sem (a1.1, ())).bind fun r2 => bif !decide (r2.1 = (0 : Int)) then ((spec_l10Bad.sem (r2.1, ())).bind fun r3 => some (r3.1, ())) else (spec_l10Fault.sem (a1.2.1, ())).bind fun r4 => bif !decide (r4.1 = (0 : Int)) then ((spec_l10Bad.sem (r4.1, ())).bind fun r5 => some (r5.1, ())) else (spec_l10Op.sem (a1.2.2.1, ())).bind fun r6 => bif !decide (r6.1 = (0 : Int)) then ((spec_l10Bad.sem (r6.1, ())).bind fun r7 => some (r7.1, ())) else (spec_l10Check.sem (a1.1, a1.2.1, a1.2.2.1, ())).bind fun r8 => some (r8.1, ())
noncomputable def raw (k : Nat) (a1 : Arg) : Option Out := p a1
theorem raw_eq (k : Nat) (a1 : Arg) : W k a1 = raw k a1 := by kernel_rfl
theorem ok : Ok prog 22 sig := fn_ok func22 (tl := tl) (gl := gl) (es := []) (fr := []) rfl rfl (by kernel_rfl) (fc spec_l6Rows.ok (fc spec_l10Bad.ok (fc spec_l10Fault.ok (fc spec_l10Op.ok (fc spec_l10Check.ok (fn_nil _)))))) (fun _ => rfl)
end spec_CheckOp
namespace laws_toOp
/-! loop example g00408 laws toOp -/
abbrev Arg : Type := Op × Unit
abbrev Out : Type := Op × Unit
noncomputable def ps : PQ := [(.ro, tOp)]
noncomputable def rs : RQ := [(tOp, (roMd tOp))]
noncomputable def tl : TL := [(2, i64), (42, tRow), (44, tOp), (48, tRow), (57, tOp)]
noncomputable def gl : GL := [(61, laws_toRow.sig)]
noncomputable def E : Env := { TI := lookN tl, G := lookN gl }
noncomputable def W (k : Nat) (a : Arg) : Option Out := bodyK E k f25 ps rs [] [] a
noncomputable def sem (a : Arg) : Option Out := lift fun k => W k a
noncomputable def sig : Sig := { ps := ps, rs := rs, F := sem }
noncomputable def p (a1 : Arg) : Option Out := (laws_toRow.sem (a1.1.2.2.1, ())).bind fun r2 => some ((a1.1.1, a1.1.2.1, r2.1, a1.1.2.2.2.1, ()), ())
noncomputable def raw (k : Nat) (a1 : Arg) : Option Out := p a1
theorem raw_eq (k : Nat) (a1 : Arg) : W k a1 = raw k a1 := by kernel_rfl
theorem ok : Ok prog 25 sig := fn_ok func25 (tl := tl) (gl := gl) (es := []) (fr := []) rfl rfl (by kernel_rfl) (fc laws_toRow.ok (fn_nil _)) (fun _ => rfl)
end laws_toOp
namespace impl_onRow
/-! loop example g00408 impl onRow -/
abbrev Arg : Type := Int × Unit
abbrev Out : Type := Bool × Unit
noncomputable def ps : PQ := [(.ro, i64)]
noncomputable def rs : RQ := [(.bool, (roMd .bool))]
noncomputable def tl : TL := []
noncomputable def gl : GL := []
noncomputable def E : Env := { TI := lookN tl, G := lookN gl }
noncomputable def W (k : Nat) (a : Arg) : Option Out := bodyK E k f119 ps rs [] [] a
noncomputable def sem (a : Arg) : Option Out := lift fun k => W k a
noncomputable def sig : Sig := { ps := ps, rs := rs, F := sem }
noncomputable def p (a1 : Arg) : Option Out := bif decide (a1.1 = (2 : Int)) then (some (true, ())) else bif decide (a1.1 = (3 : Int)) then (some (true, ())) else some (decide (a1.1 = (4 : Int)), ())
noncomputable def raw (k : Nat) (a1 : Arg) : Option Out := p a1
theorem raw_eq (k : Nat) (a1 : Arg) : W k a1 = raw k a1 := by kernel_rfl
theorem ok : Ok prog 119 sig := fn_ok func119 (tl := tl) (gl := gl) (es := []) (fr := []) rfl rfl (by kernel_rfl) (fn_nil _) (fun _ => rfl)
end impl_onRow
namespace impl_OpFault
/-! loop example g00408 impl OpFault -/
abbrev Arg : Type := Op × Unit
abbrev Out : Type := Int × Unit
noncomputable def ps : PQ := [(.ro, tOp)]
noncomputable def rs : RQ := [(i64, (roMd i64))]
noncomputable def tl : TL := [(2, i64), (9, .str), (48, tRow), (57, tOp)]
noncomputable def gl : GL := [(47, impl_in.sig), (90, impl_RowFault.sig), (92, impl_isTx.sig), (119, impl_onRow.sig)]
noncomputable def E : Env := { TI := lookN tl, G := lookN gl }
noncomputable def W (k : Nat) (a : Arg) : Option Out := bodyK E k f63 ps rs [] [] a
noncomputable def sem (a : Arg) : Option Out := lift fun k => W k a
noncomputable def sig : Sig := { ps := ps, rs := rs, F := sem }
noncomputable def p (a1 : Arg) : Option Out := let j29 := fun (p28 : Bool) => (let j47 : Option Out := let j55 : Option Out := bif !p28 then ((impl_isTx.sem (a1.1.2.1, ())).bind fun r56 => bif !r56.1 then (some ((3 : Int), ())) else (impl_in.sem (a1.1.2.2.2.1, (0 : Int), (7 : Int), ())).bind fun r57 => bif !r57.1 then (some ((3 : Int), ())) else (impl_onRow.sem (a1.1.1, ())).bind fun r61 => bif r61.1 then ((impl_RowFault.sem (a1.1.2.2.1, ())).bind fun r62 => some (r62.1, ())) else some ((0 : Int), ())) else (impl_in.sem (a1.1.2.2.2.1, (0 : Int), (7 : Int), ())).bind fun r58 => bif !r58.1 then (some ((3 : Int), ())) else (impl_onRow.sem (a1.1.1, ())).bind fun r63 => bif r63.1 then ((impl_RowFault.sem (a1.1.2.2.1, ())).bind fun r64 => some (r64.1, ())) else some ((0 : Int), ()); bif decide (a1.1.1 = (4 : Int)) then (bif !decide (a1.1.2.2.1.2.2.1 = (0 : Int)) then (some ((1 : Int), ())) else bif !decide (a1.1.2.2.1.2.2.2.1 = ([] : List UInt8)) then (some ((1 : Int), ())) else j55) else j55; (impl_in.sem (a1.1.1, (1 : Int), (9 : Int), ())).bind fun r30 => bif !r30.1 then (some ((1 : Int), ())) else bif p28 then (bif !decide (a1.1.2.1 = (0 : Int)) then (some ((1 : Int), ())) else (impl_onRow.sem (a1.1.1, ())).bind fun r31 => bif !r31.1 then (bif !(Ty.eq tRow a1.1.2.2.1 ((0 : Int), (0 : Int), (0 : Int), ([] : List UInt8), ())) then (some ((1 : Int), ())) else bif !decide (a1.1.1 = (6 : Int)) then (bif !decide (a1.1.2.2.2.1 = (0 : Int)) then (some ((1 : Int), ())) else j47) else j47) else bif !decide (a1.1.1 = (6 : Int)) then (bif !decide (a1.1.2.2.2.1 = (0 : Int)) then (some ((1 : Int), ())) else j47) else j47) else (impl_onRow.sem (a1.1.1, ())).bind fun r32 => bif !r32.1 then (bif !(Ty.eq tRow a1.1.2.2.1 ((0 : Int), (0 : Int), (0 : Int), ([] : List UInt8), ())) then (some ((1 : Int), ())) else bif !decide (a1.1.1 = (6 : Int)) then (bif !decide (a1.1.2.2.2.1 = (0 : Int)) then (some ((1 : Int), ())) else j47) else j47) else bif !decide (a1.1.1 = (6 : Int)) then (bif !decide (a1.1.2.2.2.1 = (0 : Int)) then (some ((1 : Int), ())) else j47) else j47 : Option Out); bif decide (a1.1.1 = (1 : Int)) then (j29 true) else j29 (decide (a1.1.1 = (9 : Int)))
noncomputable def raw (k : Nat) (a1 : Arg) : Option Out := p a1
theorem raw_eq (k : Nat) (a1 : Arg) : W k a1 = raw k a1 := by kernel_rfl
theorem ok : Ok prog 63 sig := fn_ok func63 (tl := tl) (gl := gl) (es := []) (fr := []) rfl rfl (by kernel_rfl) (fc impl_in.ok (fc impl_RowFault.ok (fc impl_isTx.ok (fc impl_onRow.ok (fn_nil _))))) (fun _ => rfl)
end impl_OpFault
namespace impl_txAt_1
/-! loop example g00408 impl txAt 1 -/
abbrev Arg : Type := Tx × Int × Unit
abbrev Out : Type := Bool × Unit
noncomputable def ps : PQ := [(.ro, tTx), (.ro, (.ptr i64))]
noncomputable def rs : RQ := [(.bool, (roMd .bool))]
noncomputable def tl : TL := [(2, i64), (99, tTx)]
noncomputable def gl : GL := []
noncomputable def E : Env := { TI := lookN tl, G := lookN gl }
noncomputable def W (k : Nat) (a : Arg) : Option Out := bodyK E k f121 ps rs [] [] a
noncomputable def sem (a : Arg) : Option Out := lift fun k => W k a
noncomputable def sig : Sig := { cap := true, ps := ps, rs := rs, F := sem }
noncomputable def p (a1 : Arg) : Option Out := some (decide (a1.1.1 = a1.2.1), ())
noncomputable def raw (k : Nat) (a1 : Arg) : Option Out := p a1
theorem raw_eq (k : Nat) (a1 : Arg) : W k a1 = raw k a1 := by kernel_rfl
theorem ok : Ok prog 121 sig := fn_ok func121 (tl := tl) (gl := gl) (es := []) (fr := []) rfl rfl (by kernel_rfl) (fn_nil _) (fun _ => rfl)
end impl_txAt_1
namespace slices_IndexFunc_Tx
/-! slices IndexFunc   loop example g00408 impl Tx loop example g00408 impl Tx  -/
abbrev Arg : Type := (List Tx) × (Nat × Int) × Unit
abbrev Out : Type := Int × Unit
noncomputable def ps : PQ := [(.ro, (.slc tTx)), (.fix 121, .fn)]
noncomputable def rs : RQ := [(i64, (roMd i64))]
noncomputable def tl : TL := [(29, (.slc tTx)), (99, tTx)]
noncomputable def gl : GL := [(121, impl_txAt_1.sig)]
noncomputable def E : Env := { TI := lookN tl, G := lookN gl, lv := [(2, [0, 1, 7, 8])], lx := [(0, [])] }
noncomputable def W (k : Nat) (a : Arg) : Option Out := bodyK E k f120 ps rs [] [] a
noncomputable def sem (a : Arg) : Option Out := lift fun k => W k a
noncomputable def sig : Sig := { ps := ps, rs := rs, F := sem }
noncomputable def C : Code := bodyOf f120
noncomputable def fin : St → Option Out := outK ps rs [] (Func.results f120).toList (mvs [])
noncomputable def K0 : Ex → St → Option Out := endK fin
noncomputable def T0 (a1 : Arg) (v402 : Int) : St := { n := 19, sl := [(0, .val (.slc tTx) a1.1), (1, .val .fn ((121, a1.2.1.2) : Nat × Int)), (7, .val i64 (a1.1.length : Int)), (8, .val i64 v402)], vr := [], lent := [] }
noncomputable def N0 (k : Nat) : St → (Ex → St → Option Out) → Option Out := codeK E k fin (sub [1, 0, 1, 0, 0] C)
noncomputable def M0 : St → St := keepF [0, 1, 7, 8] []
noncomputable def S0 (rec : RT Out) (a1 : Arg) : (Int) → Option Out := fun v402 => rec (T0 a1 v402)
noncomputable def X0_0 (K : KT Out) (a1 : Arg) : (Unit) → Option Out := fun z => K (.exit 0) ({ n := 19, sl := [], vr := [], lent := [] })
noncomputable def b0 (self : Int → Option Out) (e0 : (Unit) → Option Out) (a1 : Arg) (v402 : Int) : Option Out := bif decide (v402 < (a1.1.length : Int)) then (if 0 ≤ v402 then ((a1.1[v402.toNat]?).bind fun x603 => (impl_txAt_1.sem (x603, a1.2.1.2, ())).bind fun r604 => bif r604.1 then (some (v402, ())) else self (w64 (v402 + (1 : Int)))) else none) else e0 ()
noncomputable def B0 (k : Nat) (self : Int → Option Out) (e0 : (Unit) → Option Out) (a1 : Arg) (v402 : Int) : Option Out := b0 self e0 a1 v402
theorem B0_eq (k : Nat) (rec : RT Out) (K : KT Out) (a1 : Arg) (v402 : Int) : N0 k (T0 a1 v402) (loopC rec M0 K) = B0 k (S0 rec a1) (X0_0 K a1) a1 v402 := by kernel_rfl
noncomputable def l0 (k : Nat) (a1 : Arg) (e0 : (Unit) → Option Out) (v : Int) : Option Out := rawIter (fun self v => B0 k self e0 a1 v) k v
theorem l0_eq (k : Nat) (K : KT Out) (a1 : Arg) (v402 : Int) : iterK (N0 k) M0 K k (T0 a1 v402) = l0 k a1 (X0_0 K a1) v402 :=
  iter_raw _ _ K (fun v402 => (T0 a1 v402)) (fun self v => B0 k self (X0_0 K a1) a1 v) (fun rec v => B0_eq k rec K a1 v) k v402
noncomputable def q0 (a1 : Arg) (z605 : (Unit)) : Option Out := some ((-1 : Int), ())
noncomputable def Q0 (k : Nat) (a1 : Arg) (z605 : (Unit)) : Option Out := q0 a1 z605
theorem Q0_eq (k : Nat) (a1 : Arg) (z605 : (Unit)) : X0_0 (blockC 0 (seqC (codeK E k fin (sub [1, 1] C)) K0)) a1 z605 = Q0 k a1 z605 := by kernel_rfl
noncomputable def s0 (k : Nat) (a1 : Arg) : (Int) → Option Out := fun v402 => iterK (N0 k) M0 (blockC 0 (seqC (codeK E k fin (sub [1, 1] C)) K0)) k (T0 a1 v402)
noncomputable def r0 (k : Nat) (a1 : Arg) : (Int) → Option Out := fun v402 => l0 k a1 (fun z => Q0 k a1 z) v402
theorem s0_eq (k : Nat) (a1 : Arg) : s0 k a1 = r0 k a1 := by
  funext v402;
  have h0 : X0_0 ((blockC 0 (seqC (codeK E k fin (sub [1, 1] C)) K0))) a1 = fun z => Q0 k a1 z := funext fun z => Q0_eq k a1 z
  refine (l0_eq k ((blockC 0 (seqC (codeK E k fin (sub [1, 1] C)) K0))) a1 v402).trans ?_
  rw [h0]
  rfl
noncomputable def p (l0 : (Int) → Option Out) (a1 : Arg) : Option Out := l0 (0 : Int)
noncomputable def raw (k : Nat) (a1 : Arg) : Option Out := p (r0 k a1) a1
theorem p_eq (k : Nat) (a1 : Arg) : W k a1 = p (s0 k a1) a1 := by kernel_rfl
theorem raw_eq (k : Nat) (a1 : Arg) : W k a1 = raw k a1 := (p_eq k a1).trans (by rw [s0_eq]; rfl)
theorem ok : Ok prog 120 sig := fn_ok func120 (tl := tl) (gl := gl) (es := []) (fr := []) rfl rfl (by kernel_rfl) (fc impl_txAt_1.ok (fn_nil _)) (fun _ => rfl)
end slices_IndexFunc_Tx
namespace impl_txAt
/-! loop example g00408 impl txAt -/
abbrev Arg : Type := (List Tx) × Int × Unit
abbrev Out : Type := Int × Unit
noncomputable def ps : PQ := [(.ro, (.slc tTx)), (.ro, i64)]
noncomputable def rs : RQ := [(i64, (roMd i64))]
noncomputable def tl : TL := [(2, i64)]
noncomputable def gl : GL := [(120, slices_IndexFunc_Tx.sig)]
noncomputable def E : Env := { TI := lookN tl, G := lookN gl }
noncomputable def W (k : Nat) (a : Arg) : Option Out := bodyK E k f64 ps rs [] [] a
noncomputable def sem (a : Arg) : Option Out := lift fun k => W k a
noncomputable def sig : Sig := { ps := ps, rs := rs, F := sem }
noncomputable def p (a1 : Arg) : Option Out := (slices_IndexFunc_Tx.sem (a1.1, ((121, a1.2.1) : Nat × Int), ())).bind fun r2 => some (r2.1, ())
noncomputable def raw (k : Nat) (a1 : Arg) : Option Out := p a1
theorem raw_eq (k : Nat) (a1 : Arg) : W k a1 = raw k a1 := by kernel_rfl
theorem ok : Ok prog 64 sig := fn_ok func64 (tl := tl) (gl := gl) (es := []) (fr := []) rfl rfl (by kernel_rfl) (fc slices_IndexFunc_Tx.ok (fn_nil _)) (fun _ => rfl)
end impl_txAt
namespace impl_tableMayBe
/-! loop example g00408 impl tableMayBe -/
abbrev Arg : Type := (List Row) × Change × Unit
abbrev Out : Type := Int × Unit
noncomputable def ps : PQ := [(.ro, (.slc tRow)), (.ro, tChange)]
noncomputable def rs : RQ := [(i64, (roMd i64))]
noncomputable def tl : TL := [(2, i64), (4, .bool), (9, .str), (28, (.slc tRow)), (48, tRow), (50, tChange)]
noncomputable def gl : GL := [(47, impl_in.sig), (164, impl_Change_key.sig)]
noncomputable def E : Env := { TI := lookN tl, G := lookN gl, lv := [(4, [3, 28, 29, 30])], lx := [(0, [])], od := [(6, [0, 1, 2, 3, 4, 5, 6, 7, 8, 9, 10, 11, 12, 13, 14, 15, 16, 17, 18, 19, 20, 21, 22, 23, 24])], ar := [(6, [1, 2, 8, 13, 17, 21])], bx := [(3, [3]), (6, [6])] }
noncomputable def W (k : Nat) (a : Arg) : Option Out := bodyK E k f165 ps rs [] [] a
noncomputable def sem (a : Arg) : Option Out := lift fun k => W k a
noncomputable def sig : Sig := { ps := ps, rs := rs, F := sem }
noncomputable def C : Code := bodyOf f165
noncomputable def fin : St → Option Out := outK ps rs [] (Func.results f165).toList (mvs [])
noncomputable def K0 : Ex → St → Option Out := endK fin
noncomputable def T0 (a1 : Arg) (v1005 : Int) : St := { n := 60, sl := [(3, .cp tChange a1.2.1), (28, .val (.slc tRow) a1.1), (29, .val i64 (a1.1.length : Int)), (30, .val i64 v1005)], vr := [], lent := [] }
noncomputable def N0 (k : Nat) : St → (Ex → St → Option Out) → Option Out := codeK E k fin (sub [1, 1, 0, 1, 0, 0] C)
noncomputable def M0 : St → St := keepF [3, 28, 29, 30] []
noncomputable def S0 (rec : RT Out) (a1 : Arg) : (Int) → Option Out := fun v1005 => rec (T0 a1 v1005)
noncomputable def X0_0 (K : KT Out) (a1 : Arg) : (Unit) → Option Out := fun z => K (.exit 0) ({ n := 60, sl := [], vr := [], lent := [] })
noncomputable def b0 (self : Int → Option Out) (e0 : (Unit) → Option Out) (a1 : Arg) (v1005 : Int) : Option Out := bif decide (v1005 < (a1.1.length : Int)) then (if 0 ≤ v1005 then ((a1.1[v1005.toNat]?).bind fun x1206 => (impl_Change_key.sem (a1.2.1, ())).bind fun r1207 => bif decide (x1206.1 = r1207.1.2.1) then (bif !decide (x1206.1 = (0 : Int)) then (bif !a1.2.1.2.2.1 then (some ((8 : Int), ())) else bif decide (a1.2.1.2.2.2.1.2.2.1 < (x1206.2.2.2.1.length : Int)) then (some ((8 : Int), ())) else self (w64 (v1005 + (1 : Int)))) else self (w64 (v1005 + (1 : Int)))) else self (w64 (v1005 + (1 : Int)))) else none) else e0 ()
noncomputable def B0 (k : Nat) (self : Int → Option Out) (e0 : (Unit) → Option Out) (a1 : Arg) (v1005 : Int) : Option Out := b0 self e0 a1 v1005
theorem B0_eq (k : Nat) (rec : RT Out) (K : KT Out) (a1 : Arg) (v1005 : Int) : N0 k (T0 a1 v1005) (loopC rec M0 K) = B0 k (S0 rec a1) (X0_0 K a1) a1 v1005 := by kernel_rfl
noncomputable def l0 (k : Nat) (a1 : Arg) (e0 : (Unit) → Option Out) (v : Int) : Option Out := rawIter (fun self v => B0 k self e0 a1 v) k v
theorem l0_eq (k : Nat) (K : KT Out) (a1 : Arg) (v1005 : Int) : iterK (N0 k) M0 K k (T0 a1 v1005) = l0 k a1 (X0_0 K a1) v1005 :=
  iter_raw _ _ K (fun v1005 => (T0 a1 v1005)) (fun self v => B0 k self (X0_0 K a1) a1 v) (fun rec v => B0_eq k rec K a1 v) k v1005
noncomputable def q0 (a1 : Arg) (z1208 : (Unit)) : Option Out := some ((0 : Int), ())
noncomputable def Q0 (k : Nat) (a1 : Arg) (z1208 : (Unit)) : Option Out := q0 a1 z1208
theorem Q0_eq (k : Nat) (a1 : Arg) (z1208 : (Unit)) : X0_0 (blockC 0 (seqC (codeK E k fin (sub [1, 1, 1] C)) K0)) a1 z1208 = Q0 k a1 z1208 := by kernel_rfl
noncomputable def s0 (k : Nat) (a1 : Arg) : (Int) → Option Out := fun v1005 => iterK (N0 k) M0 (blockC 0 (seqC (codeK E k fin (sub [1, 1, 1] C)) K0)) k (T0 a1 v1005)
noncomputable def r0 (k : Nat) (a1 : Arg) : (Int) → Option Out := fun v1005 => l0 k a1 (fun z => Q0 k a1 z) v1005
theorem s0_eq (k : Nat) (a1 : Arg) : s0 k a1 = r0 k a1 := by
  funext v1005;
  have h0 : X0_0 ((blockC 0 (seqC (codeK E k fin (sub [1, 1, 1] C)) K0))) a1 = fun z => Q0 k a1 z := funext fun z => Q0_eq k a1 z
  refine (l0_eq k ((blockC 0 (seqC (codeK E k fin (sub [1, 1, 1] C)) K0))) a1 v1005).trans ?_
  rw [h0]
  rfl
noncomputable def p (l0 : (Int) → Option Out) (a1 : Arg) : Option Out := let j604 : Option Out := l0 (0 : Int); bif a1.2.1.2.2.1 then ((impl_in.sem (a1.2.1.2.2.2.1.2.1, (1 : Int), (3 : Int), ())).bind fun r2 => bif !r2.1 then (some ((10 : Int), ())) else bif decide ((8 : Int) < a1.2.1.2.2.2.1.2.2.1) then (some ((10 : Int), ())) else bif !decide (a1.2.1.2.2.2.1.2.2.2.1 = ([] : List UInt8)) then (some ((10 : Int), ())) else j604) else j604
noncomputable def raw (k : Nat) (a1 : Arg) : Option Out := p (r0 k a1) a1
theorem p_eq (k : Nat) (a1 : Arg) : W k a1 = p (s0 k a1) a1 := by kernel_rfl
theorem raw_eq (k : Nat) (a1 : Arg) : W k a1 = raw k a1 := (p_eq k a1).trans (by rw [s0_eq]; rfl)
theorem ok : Ok prog 165 sig := fn_ok func165 (tl := tl) (gl := gl) (es := []) (fr := []) rfl rfl (by kernel_rfl) (fc impl_in.ok (fc impl_Change_key.ok (fn_nil _))) (fun _ => rfl)
end impl_tableMayBe
namespace impl_longest
/-! loop example g00408 impl longest -/
abbrev Arg : Type := (List Row) × Int × Unit
abbrev Out : Type := Int × Bool × Unit
noncomputable def ps : PQ := [(.ro, (.slc tRow)), (.ro, i64)]
noncomputable def rs : RQ := [(i64, (roMd i64)), (.bool, (roMd .bool))]
noncomputable def tl : TL := [(2, i64), (28, (.slc tRow)), (48, tRow)]
noncomputable def gl : GL := []
noncomputable def E : Env := { TI := lookN tl, G := lookN gl, lv := [(2, [1, 8, 9, 10])], lx := [(0, [])] }
noncomputable def W (k : Nat) (a : Arg) : Option Out := bodyK E k f166 ps rs [] [] a
noncomputable def sem (a : Arg) : Option Out := lift fun k => W k a
noncomputable def sig : Sig := { ps := ps, rs := rs, F := sem }
noncomputable def C : Code := bodyOf f166
noncomputable def fin : St → Option Out := outK ps rs [] (Func.results f166).toList (mvs [])
noncomputable def K0 : Ex → St → Option Out := endK fin
noncomputable def T0 (a1 : Arg) (v402 : Int) : St := { n := 26, sl := [(1, .val i64 a1.2.1), (8, .val (.slc tRow) a1.1), (9, .val i64 (a1.1.length : Int)), (10, .val i64 v402)], vr := [], lent := [] }
noncomputable def N0 (k : Nat) : St → (Ex → St → Option Out) → Option Out := codeK E k fin (sub [1, 0, 1, 0, 0] C)
noncomputable def M0 : St → St := keepF [1, 8, 9, 10] []
noncomputable def S0 (rec : RT Out) (a1 : Arg) : (Int) → Option Out := fun v402 => rec (T0 a1 v402)
noncomputable def X0_0 (K : KT Out) (a1 : Arg) : (Unit) → Option Out := fun z => K (.exit 0) ({ n := 26, sl := [], vr := [], lent := [] })
noncomputable def b0 (self : Int → Option Out) (e0 : (Unit) → Option Out) (a1 : Arg) (v402 : Int) : Option Out := bif decide (v402 < (a1.1.length : Int)) then (if 0 ≤ v402 then ((a1.1[v402.toNat]?).bind fun x603 => bif decide (x603.1 = (0 : Int)) then (bif decide (x603.2.1 = a1.2.1) then (some (x603.2.2.1, true, ())) else self (w64 (v402 + (1 : Int)))) else self (w64 (v402 + (1 : Int)))) else none) else e0 ()
noncomputable def B0 (k : Nat) (self : Int → Option Out) (e0 : (Unit) → Option Out) (a1 : Arg) (v402 : Int) : Option Out := b0 self e0 a1 v402
theorem B0_eq (k : Nat) (rec : RT Out) (K : KT Out) (a1 : Arg) (v402 : Int) : N0 k (T0 a1 v402) (loopC rec M0 K) = B0 k (S0 rec a1) (X0_0 K a1) a1 v402 := by kernel_rfl
noncomputable def l0 (k : Nat) (a1 : Arg) (e0 : (Unit) → Option Out) (v : Int) : Option Out := rawIter (fun self v => B0 k self e0 a1 v) k v
theorem l0_eq (k : Nat) (K : KT Out) (a1 : Arg) (v402 : Int) : iterK (N0 k) M0 K k (T0 a1 v402) = l0 k a1 (X0_0 K a1) v402 :=
  iter_raw _ _ K (fun v402 => (T0 a1 v402)) (fun self v => B0 k self (X0_0 K a1) a1 v) (fun rec v => B0_eq k rec K a1 v) k v402
noncomputable def q0 (a1 : Arg) (z604 : (Unit)) : Option Out := some ((0 : Int), false, ())
noncomputable def Q0 (k : Nat) (a1 : Arg) (z604 : (Unit)) : Option Out := q0 a1 z604
theorem Q0_eq (k : Nat) (a1 : Arg) (z604 : (Unit)) : X0_0 (blockC 0 (seqC (codeK E k fin (sub [1, 1] C)) K0)) a1 z604 = Q0 k a1 z604 := by kernel_rfl
noncomputable def s0 (k : Nat) (a1 : Arg) : (Int) → Option Out := fun v402 => iterK (N0 k) M0 (blockC 0 (seqC (codeK E k fin (sub [1, 1] C)) K0)) k (T0 a1 v402)
noncomputable def r0 (k : Nat) (a1 : Arg) : (Int) → Option Out := fun v402 => l0 k a1 (fun z => Q0 k a1 z) v402
theorem s0_eq (k : Nat) (a1 : Arg) : s0 k a1 = r0 k a1 := by
  funext v402;
  have h0 : X0_0 ((blockC 0 (seqC (codeK E k fin (sub [1, 1] C)) K0))) a1 = fun z => Q0 k a1 z := funext fun z => Q0_eq k a1 z
  refine (l0_eq k ((blockC 0 (seqC (codeK E k fin (sub [1, 1] C)) K0))) a1 v402).trans ?_
  rw [h0]
  rfl
noncomputable def p (l0 : (Int) → Option Out) (a1 : Arg) : Option Out := l0 (0 : Int)
noncomputable def raw (k : Nat) (a1 : Arg) : Option Out := p (r0 k a1) a1
theorem p_eq (k : Nat) (a1 : Arg) : W k a1 = p (s0 k a1) a1 := by kernel_rfl
theorem raw_eq (k : Nat) (a1 : Arg) : W k a1 = raw k a1 := (p_eq k a1).trans (by rw [s0_eq]; rfl)
theorem ok : Ok prog 166 sig := fn_ok func166 (tl := tl) (gl := gl) (es := []) (fr := []) rfl rfl (by kernel_rfl) (fn_nil _) (fun _ => rfl)
end impl_longest
namespace impl_mayBe
/-! loop example g00408 impl mayBe -/
abbrev Arg : Type := (List Row) × Change × Unit
abbrev Out : Type := Int × Unit
noncomputable def ps : PQ := [(.ro, (.slc tRow)), (.ro, tChange)]
noncomputable def rs : RQ := [(i64, (roMd i64))]
noncomputable def tl : TL := [(2, i64), (4, .bool), (9, .str), (48, tRow), (50, tChange)]
noncomputable def gl : GL := [(164, impl_Change_key.sig), (165, impl_tableMayBe.sig), (166, impl_longest.sig)]
noncomputable def E : Env := { TI := lookN tl, G := lookN gl }
noncomputable def W (k : Nat) (a : Arg) : Option Out := bodyK E k f124 ps rs [] [] a
noncomputable def sem (a : Arg) : Option Out := lift fun k => W k a
noncomputable def sig : Sig := { ps := ps, rs := rs, F := sem }
noncomputable def p (a1 : Arg) : Option Out := (impl_Change_key.sem (a1.2.1, ())).bind fun r2 => bif decide (r2.1.1 = (0 : Int)) then ((impl_tableMayBe.sem (a1.1, a1.2.1, ())).bind fun r3 => some (r3.1, ())) else bif !a1.2.1.2.2.1 then (some ((0 : Int), ())) else (impl_longest.sem (a1.1, a1.2.1.2.2.2.1.1, ())).bind fun r4 => bif !r4.2.1 then (some ((4 : Int), ())) else bif decide (r4.1 < (a1.2.1.2.2.2.1.2.2.2.1.length : Int)) then (some ((10 : Int), ())) else some ((0 : Int), ())
noncomputable def raw (k : Nat) (a1 : Arg) : Option Out := p a1
theorem raw_eq (k : Nat) (a1 : Arg) : W k a1 = raw k a1 := by kernel_rfl
theorem ok : Ok prog 124 sig := fn_ok func124 (tl := tl) (gl := gl) (es := []) (fr := []) rfl rfl (by kernel_rfl) (fc impl_Change_key.ok (fc impl_tableMayBe.ok (fc impl_longest.ok (fn_nil _)))) (fun _ => rfl)
end impl_mayBe
namespace impl_checkChange
/-! loop example g00408 impl checkChange -/
abbrev Arg : Type := (List Row) × (List Tx) × Op × Unit
abbrev Out : Type := ChangeResult × Unit
noncomputable def ps : PQ := [(.ro, (.slc tRow)), (.ro, (.slc tTx)), (.ro, tOp)]
noncomputable def rs : RQ := [(tChangeResult, (roMd tChangeResult))]
noncomputable def tl : TL := [(2, i64), (4, .bool), (28, (.slc tRow)), (29, (.slc tTx)), (48, tRow), (50, tChange), (52, tChangeResult), (57, tOp), (97, (.slc tKey)), (99, tTx), (100, (.map tKey .bool)), (146, tKey)]
noncomputable def gl : GL := [(48, impl_keysOf.sig), (94, impl_undone.sig), (122, slices_BinarySearchFunc_Row.sig), (124, impl_mayBe.sig)]
noncomputable def E : Env := { TI := lookN tl, G := lookN gl, lv := [(3, [0, 1, 5, 6, 7, 24, 25, 26]), (7, [0, 1, 5, 6, 7, 24, 25, 26, 36, 37, 38])], lx := [(0, [0, 1, 5, 6, 7]), (1, [0, 1, 5, 6, 7, 24, 25, 26]), (2, [0, 1, 5, 6, 7, 24, 25, 26])], od := [(20, [0, 1, 2, 3, 4, 5, 6, 7]), (22, [0, 1, 2, 3, 4, 5])], ar := [(20, [3]), (22, [1])], bx := [(22, [5])] }
noncomputable def W (k : Nat) (a : Arg) : Option Out := bodyK E k f65 ps rs [] [] a
noncomputable def sem (a : Arg) : Option Out := lift fun k => W k a
noncomputable def sig : Sig := { ps := ps, rs := rs, F := sem }
noncomputable def C : Code := bodyOf f65
noncomputable def fin : St → Option Out := outK ps rs [] (Func.results f65).toList (mvs [])
noncomputable def K0 : Ex → St → Option Out := endK fin
noncomputable def T0 (a1 : Arg) (v402 : (List Row) × (List Tx) × Op × ChangeResult × Key × (List Tx) × Int × Int) : St := { n := 145, sl := [(0, .val (.slc tRow) v402.1), (1, .val (.slc tTx) v402.2.1), (5, .box tOp (roMd tOp) [] v402.2.2.1), (6, .box tChangeResult (roMd tChangeResult) [] v402.2.2.2.1), (7, .box tKey (roMd tKey) [] v402.2.2.2.2.1), (24, .val (.slc tTx) v402.2.2.2.2.2.1), (25, .val i64 v402.2.2.2.2.2.2.1), (26, .val i64 v402.2.2.2.2.2.2.2)], vr := [], lent := [] }
noncomputable def N0 (k : Nat) : St → (Ex → St → Option Out) → Option Out := codeK E k fin (sub [1, 1, 0, 1, 0, 0] C)
noncomputable def M0 : St → St := keepF [0, 1, 5, 6, 7, 24, 25, 26] []
noncomputable def S0 (rec : RT Out) (a1 : Arg) : ((List Row) × (List Tx) × Op × ChangeResult × Key × (List Tx) × Int × Int) → Option Out := fun v402 => rec (T0 a1 v402)
noncomputable def X0_0 (K : KT Out) (a1 : Arg) : ((List Row) × (List Tx) × Op × ChangeResult × Key) → Option Out := fun z => K (.exit 0) ({ n := 145, sl := [(0, .val (.slc tRow) z.1), (1, .val (.slc tTx) z.2.1), (5, .box tOp (roMd tOp) [] z.2.2.1), (6, .box tChangeResult (roMd tChangeResult) [] z.2.2.2.1), (7, .box tKey (roMd tKey) [] z.2.2.2.2)], vr := [], lent := [] })
noncomputable def T1 (a1 : Arg) (c1005 : List Row) (c1006 : List Tx) (c1007 : Op) (c1008 : ChangeResult) (c1009 : Key) (c1010 : List Tx) (c1011 : Int) (c1012 : Int) (c1013 : List Key) (c1014 : Int) (v1004 : Int) : St := { n := 145, sl := [(0, .val (.slc tRow) c1005), (1, .val (.slc tTx) c1006), (5, .box tOp (roMd tOp) [] c1007), (6, .box tChangeResult (roMd tChangeResult) [] c1008), (7, .box tKey (roMd tKey) [] c1009), (24, .val (.slc tTx) c1010), (25, .val i64 c1011), (26, .val i64 c1012), (36, .val (.slc tKey) c1013), (37, .val i64 c1014), (38, .val i64 v1004)], vr := [], lent := [] }
noncomputable def N1 (k : Nat) : St → (Ex → St → Option Out) → Option Out := codeK E k fin (sub [1, 1, 0, 1, 0, 0, 1, 1, 0, 0, 1, 1, 1, 0, 0] C)
noncomputable def M1 : St → St := keepF [0, 1, 5, 6, 7, 24, 25, 26, 36, 37, 38] []
noncomputable def S1 (rec : RT Out) (a1 : Arg) (c1005 : List Row) (c1006 : List Tx) (c1007 : Op) (c1008 : ChangeResult) (c1009 : Key) (c1010 : List Tx) (c1011 : Int) (c1012 : Int) (c1013 : List Key) (c1014 : Int) : (Int) → Option Out := fun v1004 => rec (T1 a1 c1005 c1006 c1007 c1008 c1009 c1010 c1011 c1012 c1013 c1014 v1004)
noncomputable def X1_2 (K : KT Out) (a1 : Arg) (c1005 : List Row) (c1006 : List Tx) (c1007 : Op) (c1008 : ChangeResult) (c1009 : Key) (c1010 : List Tx) (c1011 : Int) (c1012 : Int) (c1013 : List Key) (c1014 : Int) : (Unit) → Option Out := fun z => K (.exit 2) ({ n := 145, sl := [(0, .val (.slc tRow) c1005), (1, .val (.slc tTx) c1006), (5, .box tOp (roMd tOp) [] c1007), (6, .box tChangeResult (roMd tChangeResult) [] c1008), (7, .box tKey (roMd tKey) [] c1009), (24, .val (.slc tTx) c1010), (25, .val i64 c1011), (26, .val i64 c1012)], vr := [], lent := [] })
noncomputable def b1 (self : Int → Option Out) (e2 : (Unit) → Option Out) (a1 : Arg) (c1005 : List Row) (c1006 : List Tx) (c1007 : Op) (c1008 : ChangeResult) (c1009 : Key) (c1010 : List Tx) (c1011 : Int) (c1012 : Int) (c1013 : List Key) (c1014 : Int) (v1004 : Int) : Option Out := bif decide (v1004 < c1014) then (if 0 ≤ v1004 then ((c1013[v1004.toNat]?).bind fun x1215 => bif (Ty.eq tKey x1215 c1009) then (some (((7 : Int), false, (false, ((0 : Int), (0 : Int), (0 : Int), ([] : List UInt8), ()), false, ((0 : Int), (0 : Int), (0 : Int), ([] : List UInt8), ()), ()), ()), ())) else bif !decide (c1009.1 = (0 : Int)) then (bif (Ty.eq tKey x1215 ((0 : Int), c1009.1, ())) then (some (((7 : Int), false, (false, ((0 : Int), (0 : Int), (0 : Int), ([] : List UInt8), ()), false, ((0 : Int), (0 : Int), (0 : Int), ([] : List UInt8), ()), ()), ()), ())) else bif decide (c1009.1 = (0 : Int)) then (bif decide (x1215.1 = c1009.2.1) then (some (((7 : Int), false, (false, ((0 : Int), (0 : Int), (0 : Int), ([] : List UInt8), ()), false, ((0 : Int), (0 : Int), (0 : Int), ([] : List UInt8), ()), ()), ()), ())) else self (w64 (v1004 + (1 : Int)))) else self (w64 (v1004 + (1 : Int)))) else bif decide (c1009.1 = (0 : Int)) then (bif decide (x1215.1 = c1009.2.1) then (some (((7 : Int), false, (false, ((0 : Int), (0 : Int), (0 : Int), ([] : List UInt8), ()), false, ((0 : Int), (0 : Int), (0 : Int), ([] : List UInt8), ()), ()), ()), ())) else self (w64 (v1004 + (1 : Int)))) else self (w64 (v1004 + (1 : Int)))) else none) else e2 ()
noncomputable def B1 (k : Nat) (self : Int → Option Out) (e2 : (Unit) → Option Out) (a1 : Arg) (c1005 : List Row) (c1006 : List Tx) (c1007 : Op) (c1008 : ChangeResult) (c1009 : Key) (c1010 : List Tx) (c1011 : Int) (c1012 : Int) (c1013 : List Key) (c1014 : Int) (v1004 : Int) : Option Out := b1 self e2 a1 c1005 c1006 c1007 c1008 c1009 c1010 c1011 c1012 c1013 c1014 v1004
theorem B1_eq (k : Nat) (rec : RT Out) (K : KT Out) (a1 : Arg) (c1005 : List Row) (c1006 : List Tx) (c1007 : Op) (c1008 : ChangeResult) (c1009 : Key) (c1010 : List Tx) (c1011 : Int) (c1012 : Int) (c1013 : List Key) (c1014 : Int) (v1004 : Int) : N1 k (T1 a1 c1005 c1006 c1007 c1008 c1009 c1010 c1011 c1012 c1013 c1014 v1004) (loopC rec M1 K) = B1 k (S1 rec a1 c1005 c1006 c1007 c1008 c1009 c1010 c1011 c1012 c1013 c1014) (X1_2 K a1 c1005 c1006 c1007 c1008 c1009 c1010 c1011 c1012 c1013 c1014) a1 c1005 c1006 c1007 c1008 c1009 c1010 c1011 c1012 c1013 c1014 v1004 := by kernel_rfl
noncomputable def l1 (k : Nat) (a1 : Arg) (c1005 : List Row) (c1006 : List Tx) (c1007 : Op) (c1008 : ChangeResult) (c1009 : Key) (c1010 : List Tx) (c1011 : Int) (c1012 : Int) (c1013 : List Key) (c1014 : Int) (e2 : (Unit) → Option Out) (v : Int) : Option Out := rawIter (fun self v => B1 k self e2 a1 c1005 c1006 c1007 c1008 c1009 c1010 c1011 c1012 c1013 c1014 v) k v
theorem l1_eq (k : Nat) (K : KT Out) (a1 : Arg) (c1005 : List Row) (c1006 : List Tx) (c1007 : Op) (c1008 : ChangeResult) (c1009 : Key) (c1010 : List Tx) (c1011 : Int) (c1012 : Int) (c1013 : List Key) (c1014 : Int) (v1004 : Int) : iterK (N1 k) M1 K k (T1 a1 c1005 c1006 c1007 c1008 c1009 c1010 c1011 c1012 c1013 c1014 v1004) = l1 k a1 c1005 c1006 c1007 c1008 c1009 c1010 c1011 c1012 c1013 c1014 (X1_2 K a1 c1005 c1006 c1007 c1008 c1009 c1010 c1011 c1012 c1013 c1014) v1004 :=
  iter_raw _ _ K (fun v1004 => (T1 a1 c1005 c1006 c1007 c1008 c1009 c1010 c1011 c1012 c1013 c1014 v1004)) (fun self v => B1 k self (X1_2 K a1 c1005 c1006 c1007 c1008 c1009 c1010 c1011 c1012 c1013 c1014) a1 c1005 c1006 c1007 c1008 c1009 c1010 c1011 c1012 c1013 c1014 v) (fun rec v => B1_eq k rec K a1 c1005 c1006 c1007 c1008 c1009 c1010 c1011 c1012 c1013 c1014 v) k v1004
noncomputable def q0 (self : ((List Row) × (List Tx) × Op × ChangeResult × Key × (List Tx) × Int × Int) → Option Out) (e0 : ((List Row) × (List Tx) × Op × ChangeResult × Key) → Option Out) (a1 : Arg) (c1005 : List Row) (c1006 : List Tx) (c1007 : Op) (c1008 : ChangeResult) (c1009 : Key) (c1010 : List Tx) (c1011 : Int) (c1012 : Int) (c1013 : List Key) (c1014 : Int) (z1216 : (Unit)) : Option Out := self (c1005, c1006, c1007, c1008, c1009, c1010, c1011, w64 (c1012 + (1 : Int)))
noncomputable def Q0 (k : Nat) (self : ((List Row) × (List Tx) × Op × ChangeResult × Key × (List Tx) × Int × Int) → Option Out) (e0 : ((List Row) × (List Tx) × Op × ChangeResult × Key) → Option Out) (a1 : Arg) (c1005 : List Row) (c1006 : List Tx) (c1007 : Op) (c1008 : ChangeResult) (c1009 : Key) (c1010 : List Tx) (c1011 : Int) (c1012 : Int) (c1013 : List Key) (c1014 : Int) (z1216 : (Unit)) : Option Out := q0 self e0 a1 c1005 c1006 c1007 c1008 c1009 c1010 c1011 c1012 c1013 c1014 z1216
theorem Q0_eq (k : Nat) (rec : RT Out) (K : KT Out) (a1 : Arg) (c1005 : List Row) (c1006 : List Tx) (c1007 : Op) (c1008 : ChangeResult) (c1009 : Key) (c1010 : List Tx) (c1011 : Int) (c1012 : Int) (c1013 : List Key) (c1014 : Int) (z1216 : (Unit)) : X1_2 (blockC 2 (blockC 1 (seqC (codeK E k fin (sub [1, 1, 0, 1, 0, 0, 1, 1, 1] C)) (loopC rec (keepF [0, 1, 5, 6, 7, 24, 25, 26] []) K)))) a1 c1005 c1006 c1007 c1008 c1009 c1010 c1011 c1012 c1013 c1014 z1216 = Q0 k (S0 rec a1) (X0_0 K a1) a1 c1005 c1006 c1007 c1008 c1009 c1010 c1011 c1012 c1013 c1014 z1216 := by kernel_rfl
noncomputable def s1 (k : Nat) (rec : RT Out) (K : KT Out) (a1 : Arg) : (List Row) → (List Tx) → Op → ChangeResult → Key → (List Tx) → Int → Int → (List Key) → Int → (Int) → Option Out := fun c1005 c1006 c1007 c1008 c1009 c1010 c1011 c1012 c1013 c1014 v1004 => iterK (N1 k) M1 (blockC 2 (blockC 1 (seqC (codeK E k fin (sub [1, 1, 0, 1, 0, 0, 1, 1, 1] C)) (loopC rec (keepF [0, 1, 5, 6, 7, 24, 25, 26] []) K)))) k (T1 a1 c1005 c1006 c1007 c1008 c1009 c1010 c1011 c1012 c1013 c1014 v1004)
noncomputable def r1 (k : Nat) (self : ((List Row) × (List Tx) × Op × ChangeResult × Key × (List Tx) × Int × Int) → Option Out) (e0 : ((List Row) × (List Tx) × Op × ChangeResult × Key) → Option Out) (a1 : Arg) : (List Row) → (List Tx) → Op → ChangeResult → Key → (List Tx) → Int → Int → (List Key) → Int → (Int) → Option Out := fun c1005 c1006 c1007 c1008 c1009 c1010 c1011 c1012 c1013 c1014 v1004 => l1 k a1 c1005 c1006 c1007 c1008 c1009 c1010 c1011 c1012 c1013 c1014 (fun z => Q0 k self e0 a1 c1005 c1006 c1007 c1008 c1009 c1010 c1011 c1012 c1013 c1014 z) v1004
theorem s1_eq (k : Nat) (rec : RT Out) (K : KT Out) (a1 : Arg) : s1 k rec K a1 = r1 k (S0 rec a1) (X0_0 K a1) a1 := by
  funext c1005; funext c1006; funext c1007; funext c1008; funext c1009; funext c1010; funext c1011; funext c1012; funext c1013; funext c1014; funext v1004;
  have h2 : X1_2 ((blockC 2 (blockC 1 (seqC (codeK E k fin (sub [1, 1, 0, 1, 0, 0, 1, 1, 1] C)) (loopC rec (keepF [0, 1, 5, 6, 7, 24, 25, 26] []) K))))) a1 c1005 c1006 c1007 c1008 c1009 c1010 c1011 c1012 c1013 c1014 = fun z => Q0 k (S0 rec a1) (X0_0 K a1) a1 c1005 c1006 c1007 c1008 c1009 c1010 c1011 c1012 c1013 c1014 z := funext fun z => Q0_eq k rec K a1 c1005 c1006 c1007 c1008 c1009 c1010 c1011 c1012 c1013 c1014 z
  refine (l1_eq k ((blockC 2 (blockC 1 (seqC (codeK E k fin (sub [1, 1, 0, 1, 0, 0, 1, 1, 1] C)) (loopC rec (keepF [0, 1, 5, 6, 7, 24, 25, 26] []) K))))) a1 c1005 c1006 c1007 c1008 c1009 c1010 c1011 c1012 c1013 c1014 v1004).trans ?_
  rw [h2]
  rfl
noncomputable def b0 (self : ((List Row) × (List Tx) × Op × ChangeResult × Key × (List Tx) × Int × Int) → Option Out) (e0 : ((List Row) × (List Tx) × Op × ChangeResult × Key) → Option Out) (l1 : (List Row) → (List Tx) → Op → ChangeResult → Key → (List Tx) → Int → Int → (List Key) → Int → (Int) → Option Out) (a1 : Arg) (v402 : (List Row) × (List Tx) × Op × ChangeResult × Key × (List Tx) × Int × Int) : Option Out := bif decide (v402.2.2.2.2.2.2.2 < v402.2.2.2.2.2.2.1) then (if 0 ≤ v402.2.2.2.2.2.2.2 then ((v402.2.2.2.2.2.1[v402.2.2.2.2.2.2.2.toNat]?).bind fun x603 => bif decide (x603.1 = v402.2.2.1.2.1) then (self (v402.1, v402.2.1, v402.2.2.1, v402.2.2.2.1, v402.2.2.2.2.1, v402.2.2.2.2.2.1, v402.2.2.2.2.2.2.1, w64 (v402.2.2.2.2.2.2.2 + (1 : Int)))) else l1 v402.1 v402.2.1 v402.2.2.1 v402.2.2.2.1 v402.2.2.2.2.1 v402.2.2.2.2.2.1 v402.2.2.2.2.2.2.1 v402.2.2.2.2.2.2.2 x603.2.2.2.1 (x603.2.2.2.1.length : Int) (0 : Int)) else none) else e0 (v402.1, v402.2.1, v402.2.2.1, v402.2.2.2.1, v402.2.2.2.2.1)
noncomputable def B0 (k : Nat) (self : ((List Row) × (List Tx) × Op × ChangeResult × Key × (List Tx) × Int × Int) → Option Out) (e0 : ((List Row) × (List Tx) × Op × ChangeResult × Key) → Option Out) (a1 : Arg) (v402 : (List Row) × (List Tx) × Op × ChangeResult × Key × (List Tx) × Int × Int) : Option Out := b0 self e0 (r1 k self e0 a1) a1 v402
theorem b0_eq (k : Nat) (rec : RT Out) (K : KT Out) (a1 : Arg) (v402 : (List Row) × (List Tx) × Op × ChangeResult × Key × (List Tx) × Int × Int) : N0 k (T0 a1 v402) (loopC rec M0 K) = b0 (S0 rec a1) (X0_0 K a1) (s1 k rec K a1) a1 v402 := by kernel_rfl
theorem B0_eq (k : Nat) (rec : RT Out) (K : KT Out) (a1 : Arg) (v402 : (List Row) × (List Tx) × Op × ChangeResult × Key × (List Tx) × Int × Int) : N0 k (T0 a1 v402) (loopC rec M0 K) = B0 k (S0 rec a1) (X0_0 K a1) a1 v402 := (b0_eq k rec K a1 v402).trans (by rw [s1_eq]; rfl)
noncomputable def l0 (k : Nat) (a1 : Arg) (e0 : ((List Row) × (List Tx) × Op × ChangeResult × Key) → Option Out) (v : (List Row) × (List Tx) × Op × ChangeResult × Key × (List Tx) × Int × Int) : Option Out := rawIter (fun self v => B0 k self e0 a1 v) k v
theorem l0_eq (k : Nat) (K : KT Out) (a1 : Arg) (v402 : (List Row) × (List Tx) × Op × ChangeResult × Key × (List Tx) × Int × Int) : iterK (N0 k) M0 K k (T0 a1 v402) = l0 k a1 (X0_0 K a1) v402 :=
  iter_raw _ _ K (fun v402 => (T0 a1 v402)) (fun self v => B0 k self (X0_0 K a1) a1 v) (fun rec v => B0_eq k rec K a1 v) k v402
noncomputable def q1 (a1 : Arg) (z1217 : ((List Row) × (List Tx) × Op × ChangeResult × Key)) : Option Out := (slices_BinarySearchFunc_Row.sem (z1217.1, z1217.2.2.1.2.2.1, ((123, 0) : Nat × Int), ())).bind fun r1218 => let j1245 : Option Out := let j1259 : Option Out := let j1268 := fun (p1267 : Change) => (let j1273 := fun (p1272 : Change) => ((impl_mayBe.sem (z1217.1, p1272, ())).bind fun r1274 => bif !decide (r1274.1 = (0 : Int)) then (some ((r1274.1, false, (false, ((0 : Int), (0 : Int), (0 : Int), ([] : List UInt8), ()), false, ((0 : Int), (0 : Int), (0 : Int), ([] : List UInt8), ()), ()), ()), ())) else (impl_keysOf.sem (z1217.1, z1217.2.1, ())).bind fun r1275 => bif decide ((12 : Int) < ((mapPut tKey r1275.1 z1217.2.2.2.2 true).length : Int)) then (some (((9 : Int), false, (false, ((0 : Int), (0 : Int), (0 : Int), ([] : List UInt8), ()), false, ((0 : Int), (0 : Int), (0 : Int), ([] : List UInt8), ()), ()), ()), ())) else (impl_undone.sem (z1217.2.1, ())).bind fun r1276 => bif decide ((12 : Int) ≤ r1276.1) then (some (((9 : Int), false, (false, ((0 : Int), (0 : Int), (0 : Int), ([] : List UInt8), ()), false, ((0 : Int), (0 : Int), (0 : Int), ([] : List UInt8), ()), ()), ()), ())) else bif p1272.1 then (bif p1272.2.2.1 then (bif (Ty.eq tRow p1272.2.1 p1272.2.2.2.1) then (some (((0 : Int), false, (false, ((0 : Int), (0 : Int), (0 : Int), ([] : List UInt8), ()), false, ((0 : Int), (0 : Int), (0 : Int), ([] : List UInt8), ()), ()), ()), ())) else some (((0 : Int), true, p1272, ()), ())) else some (((0 : Int), true, p1272, ()), ())) else some (((0 : Int), true, p1272, ()), ()) : Option Out); bif !decide (z1217.2.2.1.1 = (4 : Int)) then (j1273 (p1267.1, p1267.2.1, true, z1217.2.2.1.2.2.1, p1267.2.2.2.2)) else j1273 p1267 : Option Out); bif r1218.2.1 then (if 0 ≤ r1218.1 then ((z1217.1[r1218.1.toNat]?).bind fun x1260 => j1268 (true, x1260, false, ((0 : Int), (0 : Int), (0 : Int), ([] : List UInt8), ()), ())) else none) else j1268 (false, ((0 : Int), (0 : Int), (0 : Int), ([] : List UInt8), ()), false, ((0 : Int), (0 : Int), (0 : Int), ([] : List UInt8), ()), ()); bif !decide (z1217.2.2.1.1 = (2 : Int)) then (bif !r1218.2.1 then (some (((4 : Int), false, (false, ((0 : Int), (0 : Int), (0 : Int), ([] : List UInt8), ()), false, ((0 : Int), (0 : Int), (0 : Int), ([] : List UInt8), ()), ()), ()), ())) else j1259) else j1259; bif decide (z1217.2.2.1.1 = (2 : Int)) then (bif r1218.2.1 then (some (((6 : Int), false, (false, ((0 : Int), (0 : Int), (0 : Int), ([] : List UInt8), ()), false, ((0 : Int), (0 : Int), (0 : Int), ([] : List UInt8), ()), ()), ()), ())) else j1245) else j1245
noncomputable def Q1 (k : Nat) (a1 : Arg) (z1217 : ((List Row) × (List Tx) × Op × ChangeResult × Key)) : Option Out := q1 a1 z1217
theorem Q1_eq (k : Nat) (a1 : Arg) (z1217 : ((List Row) × (List Tx) × Op × ChangeResult × Key)) : X0_0 (blockC 0 (seqC (codeK E k fin (sub [1, 1, 1] C)) K0)) a1 z1217 = Q1 k a1 z1217 := by kernel_rfl
noncomputable def s0 (k : Nat) (a1 : Arg) : ((List Row) × (List Tx) × Op × ChangeResult × Key × (List Tx) × Int × Int) → Option Out := fun v402 => iterK (N0 k) M0 (blockC 0 (seqC (codeK E k fin (sub [1, 1, 1] C)) K0)) k (T0 a1 v402)
noncomputable def r0 (k : Nat) (a1 : Arg) : ((List Row) × (List Tx) × Op × ChangeResult × Key × (List Tx) × Int × Int) → Option Out := fun v402 => l0 k a1 (fun z => Q1 k a1 z) v402
theorem s0_eq (k : Nat) (a1 : Arg) : s0 k a1 = r0 k a1 := by
  funext v402;
  have h0 : X0_0 ((blockC 0 (seqC (codeK E k fin (sub [1, 1, 1] C)) K0))) a1 = fun z => Q1 k a1 z := funext fun z => Q1_eq k a1 z
  refine (l0_eq k ((blockC 0 (seqC (codeK E k fin (sub [1, 1, 1] C)) K0))) a1 v402).trans ?_
  rw [h0]
  rfl
noncomputable def p (l0 : ((List Row) × (List Tx) × Op × ChangeResult × Key × (List Tx) × Int × Int) → Option Out) (a1 : Arg) : Option Out := l0 (a1.1, a1.2.1, a1.2.2.1, ((0 : Int), false, (false, ((0 : Int), (0 : Int), (0 : Int), ([] : List UInt8), ()), false, ((0 : Int), (0 : Int), (0 : Int), ([] : List UInt8), ()), ()), ()), (a1.2.2.1.2.2.1.1, a1.2.2.1.2.2.1.2.1, ()), a1.2.1, (a1.2.1.length : Int), (0 : Int))
noncomputable def raw (k : Nat) (a1 : Arg) : Option Out := p (r0 k a1) a1
theorem p_eq (k : Nat) (a1 : Arg) : W k a1 = p (s0 k a1) a1 := by kernel_rfl
theorem raw_eq (k : Nat) (a1 : Arg) : W k a1 = raw k a1 := (p_eq k a1).trans (by rw [s0_eq]; rfl)
theorem ok : Ok prog 65 sig := fn_ok func65 (tl := tl) (gl := gl) (es := []) (fr := []) rfl rfl (by kernel_rfl) (fc impl_keysOf.ok (fc impl_undone.ok (fc slices_BinarySearchFunc_Row.ok (fc impl_mayBe.ok (fn_nil _))))) (fun _ => rfl)
end impl_checkChange
namespace impl_CheckOp
/-! loop example g00408 impl CheckOp -/
abbrev Arg : Type := (List Row) × (List Tx) × Op × Unit
abbrev Out : Type := ChangeResult × Unit
noncomputable def ps : PQ := [(.ro, (.slc tRow)), (.ro, (.slc tTx)), (.ro, tOp)]
noncomputable def rs : RQ := [(tChangeResult, (roMd tChangeResult))]
noncomputable def tl : TL := [(2, i64), (29, (.slc tTx)), (52, tChangeResult), (57, tOp), (96, (.slc i64)), (99, tTx)]
noncomputable def gl : GL := [(45, impl_RowsFault.sig), (46, impl_TxsFault.sig), (63, impl_OpFault.sig), (64, impl_txAt.sig), (65, impl_checkChange.sig)]
noncomputable def E : Env := { TI := lookN tl, G := lookN gl, lv := [(2, [0, 1, 5, 6, 16, 17, 18])], lx := [(0, [0, 1, 5, 6])], od := [(1, [0, 2, 4, 8, 1, 3, 5, 6, 7]), (22, [0, 1, 2, 3, 4, 5, 6, 7, 8])] }
noncomputable def W (k : Nat) (a : Arg) : Option Out := bodyK E k f26 ps rs [] [] a
noncomputable def sem (a : Arg) : Option Out := lift fun k => W k a
noncomputable def sig : Sig := { ps := ps, rs := rs, F := sem }
noncomputable def C : Code := bodyOf f26
noncomputable def fin : St → Option Out := outK ps rs [] (Func.results f26).toList (mvs [])
noncomputable def K0 : Ex → St → Option Out := endK fin
noncomputable def T0 (a1 : Arg) (c406 : List Int) (c407 : Int) (v405 : Int) : St := { n := 79, sl := [(0, .val (.slc tRow) a1.1), (1, .val (.slc tTx) a1.2.1), (5, .box tOp (roMd tOp) [] a1.2.2.1), (6, .box tChangeResult (roMd tChangeResult) [] ((0 : Int), false, (false, ((0 : Int), (0 : Int), (0 : Int), ([] : List UInt8), ()), false, ((0 : Int), (0 : Int), (0 : Int), ([] : List UInt8), ()), ()), ())), (16, .own (.slc i64) (ownMd (.slc i64)) [] c406), (17, .val i64 c407), (18, .val i64 v405)], vr := [], lent := [] }
noncomputable def N0 (k : Nat) : St → (Ex → St → Option Out) → Option Out := codeK E k fin (sub [1, 0, 1, 0, 0] C)
noncomputable def M0 : St → St := keepF [0, 1, 5, 6, 16, 17, 18] []
noncomputable def S0 (rec : RT Out) (a1 : Arg) (c406 : List Int) (c407 : Int) : (Int) → Option Out := fun v405 => rec (T0 a1 c406 c407 v405)
noncomputable def X0_0 (K : KT Out) (a1 : Arg) (c406 : List Int) (c407 : Int) : (Unit) → Option Out := fun z => K (.exit 0) ({ n := 79, sl := [(0, .val (.slc tRow) a1.1), (1, .val (.slc tTx) a1.2.1), (5, .box tOp (roMd tOp) [] a1.2.2.1), (6, .box tChangeResult (roMd tChangeResult) [] ((0 : Int), false, (false, ((0 : Int), (0 : Int), (0 : Int), ([] : List UInt8), ()), false, ((0 : Int), (0 : Int), (0 : Int), ([] : List UInt8), ()), ()), ()))], vr := [], lent := [] })
noncomputable def b0 (self : Int → Option Out) (e0 : (Unit) → Option Out) (a1 : Arg) (c406 : List Int) (c407 : Int) (v405 : Int) : Option Out := bif decide (v405 < c407) then (if 0 ≤ v405 ∧ v405 < (c406.length : Int) then ((c406[v405.toNat]?).bind fun x608 => bif !decide (x608 = (0 : Int)) then (some ((x608, false, (false, ((0 : Int), (0 : Int), (0 : Int), ([] : List UInt8), ()), false, ((0 : Int), (0 : Int), (0 : Int), ([] : List UInt8), ()), ()), ()), ())) else self (w64 (v405 + (1 : Int)))) else none) else e0 ()
noncomputable def B0 (k : Nat) (self : Int → Option Out) (e0 : (Unit) → Option Out) (a1 : Arg) (c406 : List Int) (c407 : Int) (v405 : Int) : Option Out := b0 self e0 a1 c406 c407 v405
theorem B0_eq (k : Nat) (rec : RT Out) (K : KT Out) (a1 : Arg) (c406 : List Int) (c407 : Int) (v405 : Int) : N0 k (T0 a1 c406 c407 v405) (loopC rec M0 K) = B0 k (S0 rec a1 c406 c407) (X0_0 K a1 c406 c407) a1 c406 c407 v405 := by kernel_rfl
noncomputable def l0 (k : Nat) (a1 : Arg) (c406 : List Int) (c407 : Int) (e0 : (Unit) → Option Out) (v : Int) : Option Out := rawIter (fun self v => B0 k self e0 a1 c406 c407 v) k v
theorem l0_eq (k : Nat) (K : KT Out) (a1 : Arg) (c406 : List Int) (c407 : Int) (v405 : Int) : iterK (N0 k) M0 K k (T0 a1 c406 c407 v405) = l0 k a1 c406 c407 (X0_0 K a1 c406 c407) v405 :=
  iter_raw _ _ K (fun v405 => (T0 a1 c406 c407 v405)) (fun self v => B0 k self (X0_0 K a1 c406 c407) a1 c406 c407 v) (fun rec v => B0_eq k rec K a1 c406 c407 v) k v405
noncomputable def q0 (a1 : Arg) (c406 : List Int) (c407 : Int) (z609 : (Unit)) : Option Out := bif decide (a1.2.2.1.1 = (1 : Int)) then (bif decide ((4 : Int) ≤ (a1.2.1.length : Int)) then (some (((2 : Int), false, (false, ((0 : Int), (0 : Int), (0 : Int), ([] : List UInt8), ()), false, ((0 : Int), (0 : Int), (0 : Int), ([] : List UInt8), ()), ()), ()), ())) else some (((0 : Int), false, (false, ((0 : Int), (0 : Int), (0 : Int), ([] : List UInt8), ()), false, ((0 : Int), (0 : Int), (0 : Int), ([] : List UInt8), ()), ()), ()), ())) else bif decide (a1.2.2.1.1 = (9 : Int)) then (some (((0 : Int), false, (false, ((0 : Int), (0 : Int), (0 : Int), ([] : List UInt8), ()), false, ((0 : Int), (0 : Int), (0 : Int), ([] : List UInt8), ()), ()), ()), ())) else (impl_txAt.sem (a1.2.1, a1.2.2.1.2.1, ())).bind fun r610 => bif decide (r610.1 < (0 : Int)) then (some (((4 : Int), false, (false, ((0 : Int), (0 : Int), (0 : Int), ([] : List UInt8), ()), false, ((0 : Int), (0 : Int), (0 : Int), ([] : List UInt8), ()), ()), ()), ())) else let j616 : Option Out := some (((0 : Int), false, (false, ((0 : Int), (0 : Int), (0 : Int), ([] : List UInt8), ()), false, ((0 : Int), (0 : Int), (0 : Int), ([] : List UInt8), ()), ()), ()), ()); bif decide (a1.2.2.1.1 = (5 : Int)) then (if 0 ≤ r610.1 then ((a1.2.1[r610.1.toNat]?).bind fun x611 => bif decide ((8 : Int) ≤ (x611.2.2.1.length : Int)) then (some (((2 : Int), false, (false, ((0 : Int), (0 : Int), (0 : Int), ([] : List UInt8), ()), false, ((0 : Int), (0 : Int), (0 : Int), ([] : List UInt8), ()), ()), ()), ())) else j616) else none) else bif decide (a1.2.2.1.1 = (6 : Int)) then (if 0 ≤ r610.1 then ((a1.2.1[r610.1.toNat]?).bind fun x612 => bif decide ((x612.2.2.1.length : Int) ≤ a1.2.2.1.2.2.2.1) then (some (((3 : Int), false, (false, ((0 : Int), (0 : Int), (0 : Int), ([] : List UInt8), ()), false, ((0 : Int), (0 : Int), (0 : Int), ([] : List UInt8), ()), ()), ()), ())) else j616) else none) else bif decide (a1.2.2.1.1 = (2 : Int)) then (bif decide (a1.2.2.1.1 = (2 : Int)) then ((impl_checkChange.sem (a1.1, a1.2.1, a1.2.2.1, ())).bind fun r613 => some (r613.1, ())) else j616) else bif decide (a1.2.2.1.1 = (3 : Int)) then (bif decide (a1.2.2.1.1 = (3 : Int)) then ((impl_checkChange.sem (a1.1, a1.2.1, a1.2.2.1, ())).bind fun r614 => some (r614.1, ())) else j616) else bif decide (a1.2.2.1.1 = (4 : Int)) then ((impl_checkChange.sem (a1.1, a1.2.1, a1.2.2.1, ())).bind fun r615 => some (r615.1, ())) else j616
noncomputable def Q0 (k : Nat) (a1 : Arg) (c406 : List Int) (c407 : Int) (z609 : (Unit)) : Option Out := q0 a1 c406 c407 z609
theorem Q0_eq (k : Nat) (a1 : Arg) (c406 : List Int) (c407 : Int) (z609 : (Unit)) : X0_0 (blockC 0 (seqC (codeK E k fin (sub [1, 1] C)) K0)) a1 c406 c407 z609 = Q0 k a1 c406 c407 z609 := by kernel_rfl
noncomputable def s0 (k : Nat) (a1 : Arg) : (List Int) → Int → (Int) → Option Out := fun c406 c407 v405 => iterK (N0 k) M0 (blockC 0 (seqC (codeK E k fin (sub [1, 1] C)) K0)) k (T0 a1 c406 c407 v405)
noncomputable def r0 (k : Nat) (a1 : Arg) : (List Int) → Int → (Int) → Option Out := fun c406 c407 v405 => l0 k a1 c406 c407 (fun z => Q0 k a1 c406 c407 z) v405
theorem s0_eq (k : Nat) (a1 : Arg) : s0 k a1 = r0 k a1 := by
  funext c406; funext c407; funext v405;
  have h0 : X0_0 ((blockC 0 (seqC (codeK E k fin (sub [1, 1] C)) K0))) a1 c406 c407 = fun z => Q0 k a1 c406 c407 z := funext fun z => Q0_eq k a1 c406 c407 z
  refine (l0_eq k ((blockC 0 (seqC (codeK E k fin (sub [1, 1] C)) K0))) a1 c406 c407 v405).trans ?_
  rw [h0]
  rfl
noncomputable def p (l0 : (List Int) → Int → (Int) → Option Out) (a1 : Arg) : Option Out := (impl_RowsFault.sem (a1.1, ())).bind fun r2 => (impl_TxsFault.sem (a1.2.1, ())).bind fun r3 => (impl_OpFault.sem (a1.2.2.1, ())).bind fun r4 => l0 [r2.1, r3.1, r4.1] ([r2.1, r3.1, r4.1].length : Int) (0 : Int)
noncomputable def raw (k : Nat) (a1 : Arg) : Option Out := p (r0 k a1) a1
theorem p_eq (k : Nat) (a1 : Arg) : W k a1 = p (s0 k a1) a1 := by kernel_rfl
theorem raw_eq (k : Nat) (a1 : Arg) : W k a1 = raw k a1 := (p_eq k a1).trans (by rw [s0_eq]; rfl)
theorem ok : Ok prog 26 sig := fn_ok func26 (tl := tl) (gl := gl) (es := []) (fr := []) rfl rfl (by kernel_rfl) (fc impl_RowsFault.ok (fc impl_TxsFault.ok (fc impl_OpFault.ok (fc impl_txAt.ok (fc impl_checkChange.ok (fn_nil _)))))) (fun _ => rfl)
end impl_CheckOp
namespace laws_eqChangeResult
/-! loop example g00408 laws eqChangeResult -/
abbrev Arg : Type := ChangeResult × ChangeResult × Unit
abbrev Out : Type := Bool × Unit
noncomputable def ps : PQ := [(.ro, tChangeResult), (.ro, tChangeResult)]
noncomputable def rs : RQ := [(.bool, (roMd .bool))]
noncomputable def tl : TL := [(2, i64), (4, .bool), (50, tChange), (52, tChangeResult)]
noncomputable def gl : GL := [(66, laws_eqChange.sig)]
noncomputable def E : Env := { TI := lookN tl, G := lookN gl }
noncomputable def W (k : Nat) (a : Arg) : Option Out := bodyK E k f27 ps rs [] [] a
noncomputable def sem (a : Arg) : Option Out := lift fun k => W k a
noncomputable def sig : Sig := { ps := ps, rs := rs, F := sem }
noncomputable def p (a1 : Arg) : Option Out := bif !decide (a1.1.1 = a1.2.1.1) then (some (false, ())) else bif !(a1.1.2.1 == a1.2.1.2.1) then (some (false, ())) else (laws_eqChange.sem (a1.1.2.2.1, a1.2.1.2.2.1, ())).bind fun r2 => bif !r2.1 then (some (false, ())) else some (true, ())
noncomputable def raw (k : Nat) (a1 : Arg) : Option Out := p a1
theorem raw_eq (k : Nat) (a1 : Arg) : W k a1 = raw k a1 := by kernel_rfl
theorem ok : Ok prog 27 sig := fn_ok func27 (tl := tl) (gl := gl) (es := []) (fr := []) rfl rfl (by kernel_rfl) (fc laws_eqChange.ok (fn_nil _)) (fun _ => rfl)
end laws_eqChangeResult
namespace laws_FnExactCheckOp
/-! loop example g00408 laws FnExactCheckOp -/
abbrev Arg : Type := (List Row) × (List Tx) × Op × Unit
abbrev Out : Type := Bool × Unit
noncomputable def ps : PQ := [(.ro, (.slc tRow)), (.ro, (.slc tTx)), (.ro, tOp)]
noncomputable def rs : RQ := [(.bool, (roMd .bool))]
noncomputable def tl : TL := [(44, tOp), (52, tChangeResult)]
noncomputable def gl : GL := [(19, laws_szRowS.sig), (20, laws_szTxS.sig), (21, laws_szOp.sig), (22, spec_CheckOp.sig), (23, laws_toRowS.sig), (24, laws_toTxS.sig), (25, laws_toOp.sig), (26, impl_CheckOp.sig), (27, laws_eqChangeResult.sig), (28, laws_eqRowS.sig), (29, laws_eqTxS.sig)]
noncomputable def E : Env := { TI := lookN tl, G := lookN gl, od := [(11, [0, 2, 4, 1, 3, 5, 6, 7, 8])], ar := [(11, [4])], bx := [(11, [5])], pd := [(11, [7])] }
noncomputable def W (k : Nat) (a : Arg) : Option Out := bodyK E k f5 ps rs [] [] a
noncomputable def sem (a : Arg) : Option Out := lift fun k => W k a
noncomputable def sig : Sig := { ps := ps, rs := rs, F := sem }
noncomputable def p (a1 : Arg) : Option Out := (laws_szRowS.sem (a1.1, (1048576 : Int), ())).bind fun r2 => bif decide (r2.1 < (0 : Int)) then (some (true, ())) else (laws_szTxS.sem (a1.2.1, r2.1, ())).bind fun r3 => bif decide (r3.1 < (0 : Int)) then (some (true, ())) else (laws_szOp.sem (a1.2.2.1, r3.1, ())).bind fun r4 => bif decide (r4.1 < (0 : Int)) then (some (true, ())) else (laws_toRowS.sem (a1.1, ())).bind fun r5 => (laws_toTxS.sem (a1.2.1, ())).bind fun r6 => (laws_toOp.sem (a1.2.2.1, ())).bind fun r7 => (spec_CheckOp.sem (r5.1, r6.1, r7.1, ())).bind fun r8 => (laws_toRowS.sem (a1.1, ())).bind fun r9 => (laws_toTxS.sem (a1.2.1, ())).bind fun r10 => (laws_toOp.sem (a1.2.2.1, ())).bind fun r11 => (impl_CheckOp.sem (r9.1, r10.1, r11.1, ())).bind fun r12 => (laws_eqChangeResult.sem (r12.1, r8.1, ())).bind fun r13 => bif !r13.1 then (some (false, ())) else (laws_toRowS.sem (a1.1, ())).bind fun r14 => (laws_eqRowS.sem (r9.1, r14.1, ())).bind fun r15 => bif !r15.1 then (some (false, ())) else (laws_toTxS.sem (a1.2.1, ())).bind fun r16 => (laws_eqTxS.sem (r10.1, r16.1, ())).bind fun r17 => bif !r17.1 then (some (false, ())) else some (true, ())
noncomputable def raw (k : Nat) (a1 : Arg) : Option Out := p a1
theorem raw_eq (k : Nat) (a1 : Arg) : W k a1 = raw k a1 := by kernel_rfl
theorem ok : Ok prog 5 sig := fn_ok func5 (tl := tl) (gl := gl) (es := []) (fr := []) rfl rfl (by kernel_rfl) (fc laws_szRowS.ok (fc laws_szTxS.ok (fc laws_szOp.ok (fc spec_CheckOp.ok (fc laws_toRowS.ok (fc laws_toTxS.ok (fc laws_toOp.ok (fc impl_CheckOp.ok (fc laws_eqChangeResult.ok (fc laws_eqRowS.ok (fc laws_eqTxS.ok (fn_nil _)))))))))))) (fun _ => rfl)
end laws_FnExactCheckOp
end OT

set_option linter.unusedVariables false
set_option linter.unusedSimpArgs false
namespace OT
open Go
theorem szRow_eq (x : Row) (n : Int) (hx : okD tRow x) (h0 : 0 ≤ n) (h1 : n ≤ 1048576) : laws_szRow.sem (x, n, ()) = some (lft n (zz tRow x), ()) := by
  have hz : zz tRow x = (0 + (0 + (0 + (List.length x.2.2.2.1 + 0)))) := rfl
  refine lift_eq (k := 0) fun k _ => (laws_szRow.raw_eq k _).trans ?_
  show laws_szRow.p _ = _
  unfold laws_szRow.p
  have hw : w64 (n - (List.length x.2.2.2.1 : Int)) = n - (List.length x.2.2.2.1 : Int) := w64_in (by have h9 := hx.2.2.2.1; simp only [okD] at h9; rw [maxLen_val] at h9; omega)
  simp only [hw]
  by_cases hc : ((List.length x.2.2.2.1 : Nat) : Int) ≤ n
  rotate_left
  · have n1 : n - ((List.length x.2.2.2.1 : Nat) : Int) < 0 := by omega
    have e2 : lft n (zz tRow x) = -1 := if_neg (by omega)
    rw [e2]; simp only [n1, decide_true, cond_true]
  have n1 : ¬ (n - ((List.length x.2.2.2.1 : Nat) : Int) < 0) := by omega
  simp only [n1, decide_false, cond_false]
  clear n1 hw
  have e2 : lft n (zz tRow x) = (n - ((List.length x.2.2.2.1 : Nat) : Int)) := by unfold lft; rw [if_pos (by omega)]; omega
  rw [e2]
theorem szRowS_eq (x : List Row) (n : Int) (hx : okD (.slc tRow) x) (h0 : 0 ≤ n) (h1 : n ≤ 1048576) : laws_szRowS.sem (x, n, ()) = some (lft n (zz (.slc tRow) x), ()) := by
  obtain ⟨hl, hel⟩ := hx
  have hl' := hl
  rw [maxLen_val] at hl'
  have hl' : List.length x ≤ 9223372036854775807 := hl'
  have hw : w64 (n - (List.length x : Int)) = n - (List.length x : Int) := w64_in (by omega)
  have hz : zz (.slc tRow) x = List.length x + sumW (zz tRow) x := rfl
  by_cases hc : n - (List.length x : Int) < 0
  · have e1 : lft n (zz (.slc tRow) x) = -1 := if_neg (by omega)
    rw [e1]
    refine lift_eq (k := 0) fun k _ => (laws_szRowS.raw_eq k _).trans ?_
    unfold laws_szRowS.raw laws_szRowS.p
    simp only [hw, hc, decide_true, cond_true]
    try rfl
  · have e1 : lft n (zz (.slc tRow) x) = lft (n - (List.length x : Int)) (sumW (zz tRow) x) := by rw [hz, lft_add (by omega)]
    rw [e1]
    refine lift_eq (k := List.length x + 1) fun k hk => (laws_szRowS.raw_eq k _).trans ?_
    unfold laws_szRowS.raw laws_szRowS.p
    simp only [hw, hc, decide_false, cond_false]
    exact sz_loop (B := fun self v => laws_szRowS.B0 0 self (fun z => laws_szRowS.Q0 0 (x, n, ()) z) (x, n, ()) v) (xs := x) hl (zz tRow) (fun i hi m self hm0 hm1 => by
        show laws_szRowS.b0 _ _ _ _ = _
        unfold laws_szRowS.b0
        have hlt : (i : Int) < (List.length x : Int) := by omega
        simp only [hlt, decide_true, cond_true, Int.natCast_nonneg, if_true, Int.toNat_natCast, List.getElem?_eq_getElem hi, Option.bind_some, szRow_eq x[i] m (hel _ (List.getElem_mem hi)) hm0 hm1]
        by_cases hs : lft m (zz tRow x[i]) < 0 <;> simp [hs]) (fun m self => by
        show laws_szRowS.b0 _ _ _ _ = _
        unfold laws_szRowS.b0
        simp [laws_szRowS.Q0, laws_szRowS.q0]) _ (by omega) (by omega) k (by omega)
theorem szChange_eq (x : Change) (n : Int) (hx : okD tChange x) (h0 : 0 ≤ n) (h1 : n ≤ 1048576) : laws_szChange.sem (x, n, ()) = some (lft n (zz tChange x), ()) := by
  have hz : zz tChange x = (0 + ((0 + (0 + (0 + (List.length x.2.1.2.2.2.1 + 0)))) + (0 + ((0 + (0 + (0 + (List.length x.2.2.2.1.2.2.2.1 + 0)))) + 0)))) := rfl
  refine lift_eq (k := 0) fun k _ => (laws_szChange.raw_eq k _).trans ?_
  show laws_szChange.p _ = _
  unfold laws_szChange.p
  have hz1 : zz tRow x.2.1 = (0 + (0 + (0 + (List.length x.2.1.2.2.2.1 + 0)))) := rfl
  simp only [szRow_eq x.2.1 (n) hx.2.1 (by omega) (by omega), Option.bind_some]
  by_cases hc : ((zz tRow x.2.1 : Nat) : Int) ≤ n
  rotate_left
  · have e1 : lft (n) (zz tRow x.2.1) = -1 := if_neg hc
    have e2 : lft n (zz tChange x) = -1 := if_neg (by omega)
    rw [e1, e2]; rfl
  have e1 : lft (n) (zz tRow x.2.1) = n - ((zz tRow x.2.1 : Nat) : Int) := if_pos hc
  have n1 : ¬ (n - ((zz tRow x.2.1 : Nat) : Int) < 0) := by omega
  simp only [e1, n1, decide_false, cond_false]
  clear e1 n1
  have hz3 : zz tRow x.2.2.2.1 = (0 + (0 + (0 + (List.length x.2.2.2.1.2.2.2.1 + 0)))) := rfl
  simp only [szRow_eq x.2.2.2.1 ((n - ((zz tRow x.2.1 : Nat) : Int))) hx.2.2.2.1 (by omega) (by omega), Option.bind_some]
  by_cases hc : ((zz tRow x.2.2.2.1 : Nat) : Int) ≤ (n - ((zz tRow x.2.1 : Nat) : Int))
  rotate_left
  · have e1 : lft ((n - ((zz tRow x.2.1 : Nat) : Int))) (zz tRow x.2.2.2.1) = -1 := if_neg hc
    have e2 : lft n (zz tChange x) = -1 := if_neg (by omega)
    rw [e1, e2]; rfl
  have e1 : lft ((n - ((zz tRow x.2.1 : Nat) : Int))) (zz tRow x.2.2.2.1) = (n - ((zz tRow x.2.1 : Nat) : Int)) - ((zz tRow x.2.2.2.1 : Nat) : Int) := if_pos hc
  have n1 : ¬ ((n - ((zz tRow x.2.1 : Nat) : Int)) - ((zz tRow x.2.2.2.1 : Nat) : Int) < 0) := by omega
  simp only [e1, n1, decide_false, cond_false]
  clear e1 n1
  have e2 : lft n (zz tChange x) = ((n - ((zz tRow x.2.1 : Nat) : Int)) - ((zz tRow x.2.2.2.1 : Nat) : Int)) := by unfold lft; rw [if_pos (by omega)]; omega
  rw [e2]
theorem szChangeS_eq (x : List Change) (n : Int) (hx : okD (.slc tChange) x) (h0 : 0 ≤ n) (h1 : n ≤ 1048576) : laws_szChangeS.sem (x, n, ()) = some (lft n (zz (.slc tChange) x), ()) := by
  obtain ⟨hl, hel⟩ := hx
  have hl' := hl
  rw [maxLen_val] at hl'
  have hl' : List.length x ≤ 9223372036854775807 := hl'
  have hw : w64 (n - (List.length x : Int)) = n - (List.length x : Int) := w64_in (by omega)
  have hz : zz (.slc tChange) x = List.length x + sumW (zz tChange) x := rfl
  by_cases hc : n - (List.length x : Int) < 0
  · have e1 : lft n (zz (.slc tChange) x) = -1 := if_neg (by omega)
    rw [e1]
    refine lift_eq (k := 0) fun k _ => (laws_szChangeS.raw_eq k _).trans ?_
    unfold laws_szChangeS.raw laws_szChangeS.p
    simp only [hw, hc, decide_true, cond_true]
    try rfl
  · have e1 : lft n (zz (.slc tChange) x) = lft (n - (List.length x : Int)) (sumW (zz tChange) x) := by rw [hz, lft_add (by omega)]
    rw [e1]
    refine lift_eq (k := List.length x + 1) fun k hk => (laws_szChangeS.raw_eq k _).trans ?_
    unfold laws_szChangeS.raw laws_szChangeS.p
    simp only [hw, hc, decide_false, cond_false]
    exact sz_loop (B := fun self v => laws_szChangeS.B0 0 self (fun z => laws_szChangeS.Q0 0 (x, n, ()) z) (x, n, ()) v) (xs := x) hl (zz tChange) (fun i hi m self hm0 hm1 => by
        show laws_szChangeS.b0 _ _ _ _ = _
        unfold laws_szChangeS.b0
        have hlt : (i : Int) < (List.length x : Int) := by omega
        simp only [hlt, decide_true, cond_true, Int.natCast_nonneg, if_true, Int.toNat_natCast, List.getElem?_eq_getElem hi, Option.bind_some, szChange_eq x[i] m (hel _ (List.getElem_mem hi)) hm0 hm1]
        by_cases hs : lft m (zz tChange x[i]) < 0 <;> simp [hs]) (fun m self => by
        show laws_szChangeS.b0 _ _ _ _ = _
        unfold laws_szChangeS.b0
        simp [laws_szChangeS.Q0, laws_szChangeS.q0]) _ (by omega) (by omega) k (by omega)
theorem szInt64S_eq (x : List Int) (n : Int) (hx : okD (.slc i64) x) (h0 : 0 ≤ n) (h1 : n ≤ 1048576) : laws_szInt64S.sem (x, n, ()) = some (lft n (zz (.slc i64) x), ()) := by
  obtain ⟨hl, hel⟩ := hx
  have hl' := hl
  rw [maxLen_val] at hl'
  have hl' : List.length x ≤ 9223372036854775807 := hl'
  have hw : w64 (n - (List.length x : Int)) = n - (List.length x : Int) := w64_in (by omega)
  have hz : zz (.slc i64) x = List.length x + 0 := by show List.length x + sumW _ _ = _; exact congrArg (List.length x + ·) (sumW_zero _ (fun _ => rfl) x)
  refine lift_eq (k := 0) fun k _ => (laws_szInt64S.raw_eq k _).trans ?_
  show laws_szInt64S.p _ = _
  unfold laws_szInt64S.p
  simp only [hw, hz, Nat.add_zero]
  by_cases hc : (List.length x : Int) ≤ n
  · have e1 : lft n (List.length x) = n - (List.length x : Int) := if_pos hc
    have n1 : ¬ (n - (List.length x : Int) < 0) := by omega
    simp [e1, n1]
  · have e1 : lft n (List.length x) = -1 := if_neg hc
    have n1 : n - (List.length x : Int) < 0 := by omega
    simp [e1, n1]
theorem szKeyS_eq (x : List Key) (n : Int) (hx : okD (.slc tKey) x) (h0 : 0 ≤ n) (h1 : n ≤ 1048576) : laws_szKeyS.sem (x, n, ()) = some (lft n (zz (.slc tKey) x), ()) := by
  obtain ⟨hl, hel⟩ := hx
  have hl' := hl
  rw [maxLen_val] at hl'
  have hl' : List.length x ≤ 9223372036854775807 := hl'
  have hw : w64 (n - (List.length x : Int)) = n - (List.length x : Int) := w64_in (by omega)
  have hz : zz (.slc tKey) x = List.length x + 0 := by show List.length x + sumW _ _ = _; exact congrArg (List.length x + ·) (sumW_zero _ (fun _ => rfl) x)
  refine lift_eq (k := 0) fun k _ => (laws_szKeyS.raw_eq k _).trans ?_
  show laws_szKeyS.p _ = _
  unfold laws_szKeyS.p
  simp only [hw, hz, Nat.add_zero]
  by_cases hc : (List.length x : Int) ≤ n
  · have e1 : lft n (List.length x) = n - (List.length x : Int) := if_pos hc
    have n1 : ¬ (n - (List.length x : Int) < 0) := by omega
    simp [e1, n1]
  · have e1 : lft n (List.length x) = -1 := if_neg hc
    have n1 : n - (List.length x : Int) < 0 := by omega
    simp [e1, n1]
theorem szTx_eq (x : Tx) (n : Int) (hx : okD tTx x) (h0 : 0 ≤ n) (h1 : n ≤ 1048576) : laws_szTx.sem (x, n, ()) = some (lft n (zz tTx x), ()) := by
  have hz : zz tTx x = (0 + (zz (.slc tChange) x.2.1 + (zz (.slc i64) x.2.2.1 + (zz (.slc tKey) x.2.2.2.1 + 0)))) := rfl
  refine lift_eq (k := 0) fun k _ => (laws_szTx.raw_eq k _).trans ?_
  show laws_szTx.p _ = _
  unfold laws_szTx.p
  simp only [szChangeS_eq x.2.1 (n) hx.2.1 (by omega) (by omega), Option.bind_some]
  by_cases hc : ((zz (.slc tChange) x.2.1 : Nat) : Int) ≤ n
  rotate_left
  · have e1 : lft (n) (zz (.slc tChange) x.2.1) = -1 := if_neg hc
    have e2 : lft n (zz tTx x) = -1 := if_neg (by omega)
    rw [e1, e2]; rfl
  have e1 : lft (n) (zz (.slc tChange) x.2.1) = n - ((zz (.slc tChange) x.2.1 : Nat) : Int) := if_pos hc
  have n1 : ¬ (n - ((zz (.slc tChange) x.2.1 : Nat) : Int) < 0) := by omega
  simp only [e1, n1, decide_false, cond_false]
  clear e1 n1
  simp only [szInt64S_eq x.2.2.1 ((n - ((zz (.slc tChange) x.2.1 : Nat) : Int))) hx.2.2.1 (by omega) (by omega), Option.bind_some]
  by_cases hc : ((zz (.slc i64) x.2.2.1 : Nat) : Int) ≤ (n - ((zz (.slc tChange) x.2.1 : Nat) : Int))
  rotate_left
  · have e1 : lft ((n - ((zz (.slc tChange) x.2.1 : Nat) : Int))) (zz (.slc i64) x.2.2.1) = -1 := if_neg hc
    have e2 : lft n (zz tTx x) = -1 := if_neg (by omega)
    rw [e1, e2]; rfl
  have e1 : lft ((n - ((zz (.slc tChange) x.2.1 : Nat) : Int))) (zz (.slc i64) x.2.2.1) = (n - ((zz (.slc tChange) x.2.1 : Nat) : Int)) - ((zz (.slc i64) x.2.2.1 : Nat) : Int) := if_pos hc
  have n1 : ¬ ((n - ((zz (.slc tChange) x.2.1 : Nat) : Int)) - ((zz (.slc i64) x.2.2.1 : Nat) : Int) < 0) := by omega
  simp only [e1, n1, decide_false, cond_false]
  clear e1 n1
  simp only [szKeyS_eq x.2.2.2.1 (((n - ((zz (.slc tChange) x.2.1 : Nat) : Int)) - ((zz (.slc i64) x.2.2.1 : Nat) : Int))) hx.2.2.2.1 (by omega) (by omega), Option.bind_some]
  by_cases hc : ((zz (.slc tKey) x.2.2.2.1 : Nat) : Int) ≤ ((n - ((zz (.slc tChange) x.2.1 : Nat) : Int)) - ((zz (.slc i64) x.2.2.1 : Nat) : Int))
  rotate_left
  · have e1 : lft (((n - ((zz (.slc tChange) x.2.1 : Nat) : Int)) - ((zz (.slc i64) x.2.2.1 : Nat) : Int))) (zz (.slc tKey) x.2.2.2.1) = -1 := if_neg hc
    have e2 : lft n (zz tTx x) = -1 := if_neg (by omega)
    rw [e1, e2]; rfl
  have e1 : lft (((n - ((zz (.slc tChange) x.2.1 : Nat) : Int)) - ((zz (.slc i64) x.2.2.1 : Nat) : Int))) (zz (.slc tKey) x.2.2.2.1) = ((n - ((zz (.slc tChange) x.2.1 : Nat) : Int)) - ((zz (.slc i64) x.2.2.1 : Nat) : Int)) - ((zz (.slc tKey) x.2.2.2.1 : Nat) : Int) := if_pos hc
  have n1 : ¬ (((n - ((zz (.slc tChange) x.2.1 : Nat) : Int)) - ((zz (.slc i64) x.2.2.1 : Nat) : Int)) - ((zz (.slc tKey) x.2.2.2.1 : Nat) : Int) < 0) := by omega
  simp only [e1, n1, decide_false, cond_false]
  clear e1 n1
  have e2 : lft n (zz tTx x) = (((n - ((zz (.slc tChange) x.2.1 : Nat) : Int)) - ((zz (.slc i64) x.2.2.1 : Nat) : Int)) - ((zz (.slc tKey) x.2.2.2.1 : Nat) : Int)) := by unfold lft; rw [if_pos (by omega)]; omega
  rw [e2]
theorem szTxS_eq (x : List Tx) (n : Int) (hx : okD (.slc tTx) x) (h0 : 0 ≤ n) (h1 : n ≤ 1048576) : laws_szTxS.sem (x, n, ()) = some (lft n (zz (.slc tTx) x), ()) := by
  obtain ⟨hl, hel⟩ := hx
  have hl' := hl
  rw [maxLen_val] at hl'
  have hl' : List.length x ≤ 9223372036854775807 := hl'
  have hw : w64 (n - (List.length x : Int)) = n - (List.length x : Int) := w64_in (by omega)
  have hz : zz (.slc tTx) x = List.length x + sumW (zz tTx) x := rfl
  by_cases hc : n - (List.length x : Int) < 0
  · have e1 : lft n (zz (.slc tTx) x) = -1 := if_neg (by omega)
    rw [e1]
    refine lift_eq (k := 0) fun k _ => (laws_szTxS.raw_eq k _).trans ?_
    unfold laws_szTxS.raw laws_szTxS.p
    simp only [hw, hc, decide_true, cond_true]
    try rfl
  · have e1 : lft n (zz (.slc tTx) x) = lft (n - (List.length x : Int)) (sumW (zz tTx) x) := by rw [hz, lft_add (by omega)]
    rw [e1]
    refine lift_eq (k := List.length x + 1) fun k hk => (laws_szTxS.raw_eq k _).trans ?_
    unfold laws_szTxS.raw laws_szTxS.p
    simp only [hw, hc, decide_false, cond_false]
    exact sz_loop (B := fun self v => laws_szTxS.B0 0 self (fun z => laws_szTxS.Q0 0 (x, n, ()) z) (x, n, ()) v) (xs := x) hl (zz tTx) (fun i hi m self hm0 hm1 => by
        show laws_szTxS.b0 _ _ _ _ = _
        unfold laws_szTxS.b0
        have hlt : (i : Int) < (List.length x : Int) := by omega
        simp only [hlt, decide_true, cond_true, Int.natCast_nonneg, if_true, Int.toNat_natCast, List.getElem?_eq_getElem hi, Option.bind_some, szTx_eq x[i] m (hel _ (List.getElem_mem hi)) hm0 hm1]
        by_cases hs : lft m (zz tTx x[i]) < 0 <;> simp [hs]) (fun m self => by
        show laws_szTxS.b0 _ _ _ _ = _
        unfold laws_szTxS.b0
        simp [laws_szTxS.Q0, laws_szTxS.q0]) _ (by omega) (by omega) k (by omega)
theorem toRow_eq (x : Row) (h : zz tRow x ≤ 1048576) : laws_toRow.sem (x, ()) = some (x, ()) := by
  have hz : zz tRow x = (0 + (0 + (0 + (List.length x.2.2.2.1 + 0)))) := rfl
  refine lift_eq (k := 0) fun k _ => (laws_toRow.raw_eq k _).trans ?_
  show laws_toRow.p _ = _
  unfold laws_toRow.p
  rfl
theorem toRowS_eq (x : List Row) (h : zz (.slc tRow) x ≤ 1048576) : laws_toRowS.sem (x, ()) = some (x, ()) := by
  have hl : x.length ≤ 1048576 := Nat.le_trans (zz_len (e := tRow) x) h
  refine lift_eq (k := x.length + 1) fun k hk => (laws_toRowS.raw_eq k _).trans ?_
  unfold laws_toRowS.raw laws_toRowS.p
  have hc : 0 ≤ (x.length : Int) ∧ (x.length : Int) ≤ (x.length : Int) ∧ (x.length : Int) ≤ (CAP : Int) := by simp only [CAP]; omega
  simp only [hc, and_self, if_true, Int.toNat_natCast]
  exact copy_loop (B := fun self v => laws_toRowS.B0 k self (fun z => laws_toRowS.Q0 k (x, ()) z) (x, ()) v) (xs := x) (by rw [maxLen_val]; omega) (fun i hi acc self ha => by
    show laws_toRowS.b0 _ _ _ _ = _
    unfold laws_toRowS.b0
    have hlt : (i : Int) < (x.length : Int) := by omega
    have hlt2 : (i : Int) < (acc.length : Int) := by omega
    simp only [hlt, hlt2, decide_true, cond_true, Int.natCast_nonneg, and_self, if_true, Int.toNat_natCast, List.getElem?_eq_getElem hi, List.getElem?_eq_getElem (show i < acc.length by omega), Option.bind_some, toRow_eq x[i] (by have := zz_mem (e := tRow) (List.getElem_mem hi); omega)]) (fun acc self => by
    show laws_toRowS.b0 _ _ _ _ = _
    unfold laws_toRowS.b0
    simp [laws_toRowS.Q0, laws_toRowS.q0]) _ k (by omega)
theorem toChange_eq (x : Change) (h : zz tChange x ≤ 1048576) : laws_toChange.sem (x, ()) = some (x, ()) := by
  have hz : zz tChange x = (0 + ((0 + (0 + (0 + (List.length x.2.1.2.2.2.1 + 0)))) + (0 + ((0 + (0 + (0 + (List.length x.2.2.2.1.2.2.2.1 + 0)))) + 0)))) := rfl
  have hz1 : zz tRow x.2.1 = (0 + (0 + (0 + (List.length x.2.1.2.2.2.1 + 0)))) := rfl
  have hz3 : zz tRow x.2.2.2.1 = (0 + (0 + (0 + (List.length x.2.2.2.1.2.2.2.1 + 0)))) := rfl
  refine lift_eq (k := 0) fun k _ => (laws_toChange.raw_eq k _).trans ?_
  show laws_toChange.p _ = _
  unfold laws_toChange.p
  simp only [toRow_eq x.2.1 (by omega), toRow_eq x.2.2.2.1 (by omega), Option.bind_some]
theorem toChangeS_eq (x : List Change) (h : zz (.slc tChange) x ≤ 1048576) : laws_toChangeS.sem (x, ()) = some (x, ()) := by
  have hl : x.length ≤ 1048576 := Nat.le_trans (zz_len (e := tChange) x) h
  refine lift_eq (k := x.length + 1) fun k hk => (laws_toChangeS.raw_eq k _).trans ?_
  unfold laws_toChangeS.raw laws_toChangeS.p
  have hc : 0 ≤ (x.length : Int) ∧ (x.length : Int) ≤ (x.length : Int) ∧ (x.length : Int) ≤ (CAP : Int) := by simp only [CAP]; omega
  simp only [hc, and_self, if_true, Int.toNat_natCast]
  exact copy_loop (B := fun self v => laws_toChangeS.B0 k self (fun z => laws_toChangeS.Q0 k (x, ()) z) (x, ()) v) (xs := x) (by rw [maxLen_val]; omega) (fun i hi acc self ha => by
    show laws_toChangeS.b0 _ _ _ _ = _
    unfold laws_toChangeS.b0
    have hlt : (i : Int) < (x.length : Int) := by omega
    have hlt2 : (i : Int) < (acc.length : Int) := by omega
    simp only [hlt, hlt2, decide_true, cond_true, Int.natCast_nonneg, and_self, if_true, Int.toNat_natCast, List.getElem?_eq_getElem hi, List.getElem?_eq_getElem (show i < acc.length by omega), Option.bind_some, toChange_eq x[i] (by have := zz_mem (e := tChange) (List.getElem_mem hi); omega)]) (fun acc self => by
    show laws_toChangeS.b0 _ _ _ _ = _
    unfold laws_toChangeS.b0
    simp [laws_toChangeS.Q0, laws_toChangeS.q0]) _ k (by omega)
theorem toInt64S_eq (x : List Int) (h : zz (.slc i64) x ≤ 1048576) : laws_toInt64S.sem (x, ()) = some (x, ()) := by
  have hl : x.length ≤ 1048576 := Nat.le_trans (zz_len (e := i64) x) h
  refine lift_eq (k := x.length + 1) fun k hk => (laws_toInt64S.raw_eq k _).trans ?_
  unfold laws_toInt64S.raw laws_toInt64S.p
  have hc : 0 ≤ (x.length : Int) ∧ (x.length : Int) ≤ (x.length : Int) ∧ (x.length : Int) ≤ (CAP : Int) := by simp only [CAP]; omega
  simp only [hc, and_self, if_true, Int.toNat_natCast]
  exact copy_loop (B := fun self v => laws_toInt64S.B0 k self (fun z => laws_toInt64S.Q0 k (x, ()) z) (x, ()) v) (xs := x) (by rw [maxLen_val]; omega) (fun i hi acc self ha => by
    show laws_toInt64S.b0 _ _ _ _ = _
    unfold laws_toInt64S.b0
    have hlt : (i : Int) < (x.length : Int) := by omega
    have hlt2 : (i : Int) < (acc.length : Int) := by omega
    simp only [hlt, hlt2, decide_true, cond_true, Int.natCast_nonneg, and_self, if_true, Int.toNat_natCast, List.getElem?_eq_getElem hi, List.getElem?_eq_getElem (show i < acc.length by omega), Option.bind_some]) (fun acc self => by
    show laws_toInt64S.b0 _ _ _ _ = _
    unfold laws_toInt64S.b0
    simp [laws_toInt64S.Q0, laws_toInt64S.q0]) _ k (by omega)
theorem toKey_eq (x : Key) (h : zz tKey x ≤ 1048576) : laws_toKey.sem (x, ()) = some (x, ()) := by
  have hz : zz tKey x = (0 + (0 + 0)) := rfl
  refine lift_eq (k := 0) fun k _ => (laws_toKey.raw_eq k _).trans ?_
  show laws_toKey.p _ = _
  unfold laws_toKey.p
  rfl
theorem toKeyS_eq (x : List Key) (h : zz (.slc tKey) x ≤ 1048576) : laws_toKeyS.sem (x, ()) = some (x, ()) := by
  have hl : x.length ≤ 1048576 := Nat.le_trans (zz_len (e := tKey) x) h
  refine lift_eq (k := x.length + 1) fun k hk => (laws_toKeyS.raw_eq k _).trans ?_
  unfold laws_toKeyS.raw laws_toKeyS.p
  have hc : 0 ≤ (x.length : Int) ∧ (x.length : Int) ≤ (x.length : Int) ∧ (x.length : Int) ≤ (CAP : Int) := by simp only [CAP]; omega
  simp only [hc, and_self, if_true, Int.toNat_natCast]
  exact copy_loop (B := fun self v => laws_toKeyS.B0 k self (fun z => laws_toKeyS.Q0 k (x, ()) z) (x, ()) v) (xs := x) (by rw [maxLen_val]; omega) (fun i hi acc self ha => by
    show laws_toKeyS.b0 _ _ _ _ = _
    unfold laws_toKeyS.b0
    have hlt : (i : Int) < (x.length : Int) := by omega
    have hlt2 : (i : Int) < (acc.length : Int) := by omega
    simp only [hlt, hlt2, decide_true, cond_true, Int.natCast_nonneg, and_self, if_true, Int.toNat_natCast, List.getElem?_eq_getElem hi, List.getElem?_eq_getElem (show i < acc.length by omega), Option.bind_some, toKey_eq x[i] (by have := zz_mem (e := tKey) (List.getElem_mem hi); omega)]) (fun acc self => by
    show laws_toKeyS.b0 _ _ _ _ = _
    unfold laws_toKeyS.b0
    simp [laws_toKeyS.Q0, laws_toKeyS.q0]) _ k (by omega)
theorem toTx_eq (x : Tx) (h : zz tTx x ≤ 1048576) : laws_toTx.sem (x, ()) = some (x, ()) := by
  have hz : zz tTx x = (0 + (zz (.slc tChange) x.2.1 + (zz (.slc i64) x.2.2.1 + (zz (.slc tKey) x.2.2.2.1 + 0)))) := rfl
  refine lift_eq (k := 0) fun k _ => (laws_toTx.raw_eq k _).trans ?_
  show laws_toTx.p _ = _
  unfold laws_toTx.p
  simp only [toChangeS_eq x.2.1 (by omega), toInt64S_eq x.2.2.1 (by omega), toKeyS_eq x.2.2.2.1 (by omega), Option.bind_some]
theorem toTxS_eq (x : List Tx) (h : zz (.slc tTx) x ≤ 1048576) : laws_toTxS.sem (x, ()) = some (x, ()) := by
  have hl : x.length ≤ 1048576 := Nat.le_trans (zz_len (e := tTx) x) h
  refine lift_eq (k := x.length + 1) fun k hk => (laws_toTxS.raw_eq k _).trans ?_
  unfold laws_toTxS.raw laws_toTxS.p
  have hc : 0 ≤ (x.length : Int) ∧ (x.length : Int) ≤ (x.length : Int) ∧ (x.length : Int) ≤ (CAP : Int) := by simp only [CAP]; omega
  simp only [hc, and_self, if_true, Int.toNat_natCast]
  exact copy_loop (B := fun self v => laws_toTxS.B0 k self (fun z => laws_toTxS.Q0 k (x, ()) z) (x, ()) v) (xs := x) (by rw [maxLen_val]; omega) (fun i hi acc self ha => by
    show laws_toTxS.b0 _ _ _ _ = _
    unfold laws_toTxS.b0
    have hlt : (i : Int) < (x.length : Int) := by omega
    have hlt2 : (i : Int) < (acc.length : Int) := by omega
    simp only [hlt, hlt2, decide_true, cond_true, Int.natCast_nonneg, and_self, if_true, Int.toNat_natCast, List.getElem?_eq_getElem hi, List.getElem?_eq_getElem (show i < acc.length by omega), Option.bind_some, toTx_eq x[i] (by have := zz_mem (e := tTx) (List.getElem_mem hi); omega)]) (fun acc self => by
    show laws_toTxS.b0 _ _ _ _ = _
    unfold laws_toTxS.b0
    simp [laws_toTxS.Q0, laws_toTxS.q0]) _ k (by omega)
theorem eqRow_self (x : Row) (h : zz tRow x ≤ 4611686018427387904) : laws_eqRow.sem (x, x, ()) = some (true, ()) := by
  have hz : zz tRow x = (0 + (0 + (0 + (List.length x.2.2.2.1 + 0)))) := rfl
  refine lift_eq (k := 0) fun k _ => (laws_eqRow.raw_eq k _).trans ?_
  show laws_eqRow.p _ = _
  unfold laws_eqRow.p
  simp []
theorem eqRowS_self (x : List Row) (h : zz (.slc tRow) x ≤ 4611686018427387904) : laws_eqRowS.sem (x, x, ()) = some (true, ()) := by
  have hl : x.length ≤ 4611686018427387904 := Nat.le_trans (zz_len (e := tRow) x) h
  refine lift_eq (k := x.length + 1) fun k hk => (laws_eqRowS.raw_eq k _).trans ?_
  unfold laws_eqRowS.raw laws_eqRowS.p
  simp only [decide_true, Bool.not_true, cond_false]
  have := all_loop (B := fun self v => laws_eqRowS.B0 k self (fun z => laws_eqRowS.Q0 k (x, x, ()) z) (x, x, ()) v) (xs := x) (ys := x) (fun _ _ => true) rfl (by rw [maxLen_val]; omega) (fun i hi hj self => by
      show laws_eqRowS.b0 _ _ _ _ = _
      unfold laws_eqRowS.b0
      have hlt : (i : Int) < (x.length : Int) := by omega
      simp only [hlt, decide_true, cond_true, Int.natCast_nonneg, if_true, Int.toNat_natCast, List.getElem?_eq_getElem hi, Option.bind_some, Bool.not_true, cond_false, eqRow_self x[i] (by have := zz_mem (e := tRow) (List.getElem_mem hi); omega)]) (fun self => by
      show laws_eqRowS.b0 _ _ _ _ = _
      unfold laws_eqRowS.b0
      simp [laws_eqRowS.Q0, laws_eqRowS.q0]) k (by omega)
  rw [show allB (fun _ _ => true) x x = true by simp [allB]] at this
  exact this
theorem eqChange_self (x : Change) (h : zz tChange x ≤ 4611686018427387904) : laws_eqChange.sem (x, x, ()) = some (true, ()) := by
  have hz : zz tChange x = (0 + ((0 + (0 + (0 + (List.length x.2.1.2.2.2.1 + 0)))) + (0 + ((0 + (0 + (0 + (List.length x.2.2.2.1.2.2.2.1 + 0)))) + 0)))) := rfl
  have hz1 : zz tRow x.2.1 = (0 + (0 + (0 + (List.length x.2.1.2.2.2.1 + 0)))) := rfl
  have hz3 : zz tRow x.2.2.2.1 = (0 + (0 + (0 + (List.length x.2.2.2.1.2.2.2.1 + 0)))) := rfl
  refine lift_eq (k := 0) fun k _ => (laws_eqChange.raw_eq k _).trans ?_
  show laws_eqChange.p _ = _
  unfold laws_eqChange.p
  have q0 := eqRow_self x.2.1 (by omega)
  have q1 := eqRow_self x.2.2.2.1 (by omega)
  simp [q0, q1]
theorem eqChangeS_self (x : List Change) (h : zz (.slc tChange) x ≤ 4611686018427387904) : laws_eqChangeS.sem (x, x, ()) = some (true, ()) := by
  have hl : x.length ≤ 4611686018427387904 := Nat.le_trans (zz_len (e := tChange) x) h
  refine lift_eq (k := x.length + 1) fun k hk => (laws_eqChangeS.raw_eq k _).trans ?_
  unfold laws_eqChangeS.raw laws_eqChangeS.p
  simp only [decide_true, Bool.not_true, cond_false]
  have := all_loop (B := fun self v => laws_eqChangeS.B0 k self (fun z => laws_eqChangeS.Q0 k (x, x, ()) z) (x, x, ()) v) (xs := x) (ys := x) (fun _ _ => true) rfl (by rw [maxLen_val]; omega) (fun i hi hj self => by
      show laws_eqChangeS.b0 _ _ _ _ = _
      unfold laws_eqChangeS.b0
      have hlt : (i : Int) < (x.length : Int) := by omega
      simp only [hlt, decide_true, cond_true, Int.natCast_nonneg, if_true, Int.toNat_natCast, List.getElem?_eq_getElem hi, Option.bind_some, Bool.not_true, cond_false, eqChange_self x[i] (by have := zz_mem (e := tChange) (List.getElem_mem hi); omega)]) (fun self => by
      show laws_eqChangeS.b0 _ _ _ _ = _
      unfold laws_eqChangeS.b0
      simp [laws_eqChangeS.Q0, laws_eqChangeS.q0]) k (by omega)
  rw [show allB (fun _ _ => true) x x = true by simp [allB]] at this
  exact this
theorem eqInt64S_self (x : List Int) (h : zz (.slc i64) x ≤ 4611686018427387904) : laws_eqInt64S.sem (x, x, ()) = some (true, ()) := by
  have hl : x.length ≤ 4611686018427387904 := Nat.le_trans (zz_len (e := i64) x) h
  refine lift_eq (k := x.length + 1) fun k hk => (laws_eqInt64S.raw_eq k _).trans ?_
  unfold laws_eqInt64S.raw laws_eqInt64S.p
  simp only [decide_true, Bool.not_true, cond_false]
  have := all_loop (B := fun self v => laws_eqInt64S.B0 k self (fun z => laws_eqInt64S.Q0 k (x, x, ()) z) (x, x, ()) v) (xs := x) (ys := x) (fun _ _ => true) rfl (by rw [maxLen_val]; omega) (fun i hi hj self => by
      show laws_eqInt64S.b0 _ _ _ _ = _
      unfold laws_eqInt64S.b0
      have hlt : (i : Int) < (x.length : Int) := by omega
      simp only [hlt, decide_true, cond_true, Int.natCast_nonneg, if_true, Int.toNat_natCast, List.getElem?_eq_getElem hi, Option.bind_some, Bool.not_true, cond_false]) (fun self => by
      show laws_eqInt64S.b0 _ _ _ _ = _
      unfold laws_eqInt64S.b0
      simp [laws_eqInt64S.Q0, laws_eqInt64S.q0]) k (by omega)
  rw [show allB (fun _ _ => true) x x = true by simp [allB]] at this
  exact this
theorem eqKey_self (x : Key) (h : zz tKey x ≤ 4611686018427387904) : laws_eqKey.sem (x, x, ()) = some (true, ()) := by
  have hz : zz tKey x = (0 + (0 + 0)) := rfl
  refine lift_eq (k := 0) fun k _ => (laws_eqKey.raw_eq k _).trans ?_
  show laws_eqKey.p _ = _
  unfold laws_eqKey.p
  simp []
theorem eqKeyS_self (x : List Key) (h : zz (.slc tKey) x ≤ 4611686018427387904) : laws_eqKeyS.sem (x, x, ()) = some (true, ()) := by
  have hl : x.length ≤ 4611686018427387904 := Nat.le_trans (zz_len (e := tKey) x) h
  refine lift_eq (k := x.length + 1) fun k hk => (laws_eqKeyS.raw_eq k _).trans ?_
  unfold laws_eqKeyS.raw laws_eqKeyS.p
  simp only [decide_true, Bool.not_true, cond_false]
  have := all_loop (B := fun self v => laws_eqKeyS.B0 k self (fun z => laws_eqKeyS.Q0 k (x, x, ()) z) (x, x, ()) v) (xs := x) (ys := x) (fun _ _ => true) rfl (by rw [maxLen_val]; omega) (fun i hi hj self => by
      show laws_eqKeyS.b0 _ _ _ _ = _
      unfold laws_eqKeyS.b0
      have hlt : (i : Int) < (x.length : Int) := by omega
      simp only [hlt, decide_true, cond_true, Int.natCast_nonneg, if_true, Int.toNat_natCast, List.getElem?_eq_getElem hi, Option.bind_some, Bool.not_true, cond_false, eqKey_self x[i] (by have := zz_mem (e := tKey) (List.getElem_mem hi); omega)]) (fun self => by
      show laws_eqKeyS.b0 _ _ _ _ = _
      unfold laws_eqKeyS.b0
      simp [laws_eqKeyS.Q0, laws_eqKeyS.q0]) k (by omega)
  rw [show allB (fun _ _ => true) x x = true by simp [allB]] at this
  exact this
theorem eqTx_self (x : Tx) (h : zz tTx x ≤ 4611686018427387904) : laws_eqTx.sem (x, x, ()) = some (true, ()) := by
  have hz : zz tTx x = (0 + (zz (.slc tChange) x.2.1 + (zz (.slc i64) x.2.2.1 + (zz (.slc tKey) x.2.2.2.1 + 0)))) := rfl
  refine lift_eq (k := 0) fun k _ => (laws_eqTx.raw_eq k _).trans ?_
  show laws_eqTx.p _ = _
  unfold laws_eqTx.p
  have q0 := eqChangeS_self x.2.1 (by omega)
  have q1 := eqInt64S_self x.2.2.1 (by omega)
  have q2 := eqKeyS_self x.2.2.2.1 (by omega)
  simp [q0, q1, q2]
theorem eqTxS_self (x : List Tx) (h : zz (.slc tTx) x ≤ 4611686018427387904) : laws_eqTxS.sem (x, x, ()) = some (true, ()) := by
  have hl : x.length ≤ 4611686018427387904 := Nat.le_trans (zz_len (e := tTx) x) h
  refine lift_eq (k := x.length + 1) fun k hk => (laws_eqTxS.raw_eq k _).trans ?_
  unfold laws_eqTxS.raw laws_eqTxS.p
  simp only [decide_true, Bool.not_true, cond_false]
  have := all_loop (B := fun self v => laws_eqTxS.B0 k self (fun z => laws_eqTxS.Q0 k (x, x, ()) z) (x, x, ()) v) (xs := x) (ys := x) (fun _ _ => true) rfl (by rw [maxLen_val]; omega) (fun i hi hj self => by
      show laws_eqTxS.b0 _ _ _ _ = _
      unfold laws_eqTxS.b0
      have hlt : (i : Int) < (x.length : Int) := by omega
      simp only [hlt, decide_true, cond_true, Int.natCast_nonneg, if_true, Int.toNat_natCast, List.getElem?_eq_getElem hi, Option.bind_some, Bool.not_true, cond_false, eqTx_self x[i] (by have := zz_mem (e := tTx) (List.getElem_mem hi); omega)]) (fun self => by
      show laws_eqTxS.b0 _ _ _ _ = _
      unfold laws_eqTxS.b0
      simp [laws_eqTxS.Q0, laws_eqTxS.q0]) k (by omega)
  rw [show allB (fun _ _ => true) x x = true by simp [allB]] at this
  exact this
theorem szOp_eq (x : Op) (n : Int) (hx : okD tOp x) (h0 : 0 ≤ n) (h1 : n ≤ 1048576) : laws_szOp.sem (x, n, ()) = some (lft n (zz tOp x), ()) := by
  have hz : zz tOp x = (0 + (0 + ((0 + (0 + (0 + (List.length x.2.2.1.2.2.2.1 + 0)))) + (0 + 0)))) := rfl
  refine lift_eq (k := 0) fun k _ => (laws_szOp.raw_eq k _).trans ?_
  show laws_szOp.p _ = _
  unfold laws_szOp.p
  have hz2 : zz tRow x.2.2.1 = (0 + (0 + (0 + (List.length x.2.2.1.2.2.2.1 + 0)))) := rfl
  simp only [szRow_eq x.2.2.1 (n) hx.2.2.1 (by omega) (by omega), Option.bind_some]
  by_cases hc : ((zz tRow x.2.2.1 : Nat) : Int) ≤ n
  rotate_left
  · have e1 : lft (n) (zz tRow x.2.2.1) = -1 := if_neg hc
    have e2 : lft n (zz tOp x) = -1 := if_neg (by omega)
    rw [e1, e2]; rfl
  have e1 : lft (n) (zz tRow x.2.2.1) = n - ((zz tRow x.2.2.1 : Nat) : Int) := if_pos hc
  have n1 : ¬ (n - ((zz tRow x.2.2.1 : Nat) : Int) < 0) := by omega
  simp only [e1, n1, decide_false, cond_false]
  clear e1 n1
  have e2 : lft n (zz tOp x) = (n - ((zz tRow x.2.2.1 : Nat) : Int)) := by unfold lft; rw [if_pos (by omega)]; omega
  rw [e2]
theorem toOp_eq (x : Op) (h : zz tOp x ≤ 1048576) : laws_toOp.sem (x, ()) = some (x, ()) := by
  have hz : zz tOp x = (0 + (0 + ((0 + (0 + (0 + (List.length x.2.2.1.2.2.2.1 + 0)))) + (0 + 0)))) := rfl
  have hz2 : zz tRow x.2.2.1 = (0 + (0 + (0 + (List.length x.2.2.1.2.2.2.1 + 0)))) := rfl
  refine lift_eq (k := 0) fun k _ => (laws_toOp.raw_eq k _).trans ?_
  show laws_toOp.p _ = _
  unfold laws_toOp.p
  simp only [toRow_eq x.2.2.1 (by omega), Option.bind_some]
theorem eqChangeResult_self (x : ChangeResult) (h : zz tChangeResult x ≤ 4611686018427387904) : laws_eqChangeResult.sem (x, x, ()) = some (true, ()) := by
  have hz : zz tChangeResult x = (0 + (0 + ((0 + ((0 + (0 + (0 + (List.length x.2.2.1.2.1.2.2.2.1 + 0)))) + (0 + ((0 + (0 + (0 + (List.length x.2.2.1.2.2.2.1.2.2.2.1 + 0)))) + 0)))) + 0))) := rfl
  have hz2 : zz tChange x.2.2.1 = (0 + ((0 + (0 + (0 + (List.length x.2.2.1.2.1.2.2.2.1 + 0)))) + (0 + ((0 + (0 + (0 + (List.length x.2.2.1.2.2.2.1.2.2.2.1 + 0)))) + 0)))) := rfl
  refine lift_eq (k := 0) fun k _ => (laws_eqChangeResult.raw_eq k _).trans ?_
  show laws_eqChangeResult.p _ = _
  unfold laws_eqChangeResult.p
  have q0 := eqChange_self x.2.2.1 (by omega)
  simp [q0]
end OT

set_option linter.unusedVariables false
set_option linter.unusedSimpArgs false
namespace OT
open Go

theorem specIn_eq (a b c : Int) : spec_l1In.sem (a, b, c, ()) = some (decide (b ≤ a) && decide (a ≤ c), ()) := by
  refine lift_eq (k := 0) fun k _ => (spec_l1In.raw_eq k _).trans ?_
  show spec_l1In.p _ = _
  unfold spec_l1In.p
  by_cases h : b ≤ a <;> simp [h]
theorem implIn_eq (a b c : Int) : impl_in.sem (a, b, c, ()) = some (decide (b ≤ a) && decide (a ≤ c), ()) := by
  refine lift_eq (k := 0) fun k _ => (impl_in.raw_eq k _).trans ?_
  show impl_in.p _ = _
  unfold impl_in.p
  by_cases h : b ≤ a <;> simp [h]
theorem isTx_eq (a : Int) : impl_isTx.sem (a, ()) = some (decide (1 ≤ a) && decide (a ≤ 99), ()) := by
  refine lift_eq (k := 0) fun k _ => (impl_isTx.raw_eq k _).trans ?_
  show impl_isTx.p _ = _
  unfold impl_isTx.p
  simp [implIn_eq]

/-! Rows. -/
def inB (a b c : Int) : Bool := decide (b ≤ a) && decide (a ≤ c)
def letter (c : UInt8) : Bool := !decide ((c.toNat : Int) < 97) && !decide ((122 : Int) < (c.toNat : Int))
def textB (s : List UInt8) : Bool := s.all letter && decide (s.length ≤ 8)
def rowF (x : Row) : Int := if inB x.1 0 3 && (inB x.2.1 1 99 && inB x.2.2.1 0 999) then (if textB x.2.2.2.1 then 0 else 5) else 3

theorem len8 (s : List UInt8) : decide ((s.length : Int) ≤ 8) = decide (s.length ≤ 8) := by
  by_cases h : s.length ≤ 8
  · have : (s.length : Int) ≤ 8 := by omega
    simp [h, this]
  · have : ¬ (s.length : Int) ≤ 8 := by omega
    simp [h, this]

theorem specText_eq (s : List UInt8) (h : s.length ≤ maxLen) : spec_l1Text.sem (s, ()) = some (textB s, ()) := by
  refine lift_eq (k := s.length + 1) fun k hk => (spec_l1Text.raw_eq k _).trans ?_
  have := for_loop (B := fun self v => spec_l1Text.B0 0 self (fun z => spec_l1Text.Q0 0 (s, ()) z) (s, ()) v) s (fun (_ : Unit) (i : Int) => i) (fun _ _ x => if letter x then .inr () else .inl (false, ())) (fun _ => (decide (s.length ≤ 8), ())) (fun _ _ => True) h
    (fun i hi _ self _ => by
      show spec_l1Text.b0 _ _ _ _ = _
      unfold spec_l1Text.b0
      have hlt : (i : Int) < (s.length : Int) := by omega
      simp only [hlt, decide_true, cond_true, Int.natCast_nonneg, if_true, Int.toNat_natCast, List.getElem?_eq_getElem hi, Option.bind_some]
      unfold letter
      by_cases h1 : ((s[i].toNat : Int) < 97) <;> by_cases h2 : ((122 : Int) < (s[i].toNat : Int)) <;> simp [h1, h2]) (fun _ _ _ _ _ _ => trivial) (fun _ self _ => by
      show spec_l1Text.b0 _ _ _ _ = _
      unfold spec_l1Text.b0
      simp [spec_l1Text.Q0, spec_l1Text.q0, len8]) () trivial k (by omega)
  refine this.trans ?_
  rw [forI_check letter (false, ()) (fun _ => (decide (s.length ≤ 8), ()))]
  unfold textB
  cases s.all letter <;> rfl

theorem specRow_eq (x : Row) (h : List.length x.2.2.2.1 ≤ maxLen) : spec_l1Fault.sem (x, ()) = some (rowF x, ()) := by
  refine lift_eq (k := 0) fun k _ => (spec_l1Fault.raw_eq k _).trans ?_
  show spec_l1Fault.p _ = _
  unfold spec_l1Fault.p rowF inB
  simp only [specIn_eq, specText_eq _ h, Option.bind_some]
  cases decide ((0 : Int) ≤ x.1) <;> cases decide (x.1 ≤ 3) <;> cases decide ((1 : Int) ≤ x.2.1) <;> cases decide (x.2.1 ≤ 99) <;> cases decide ((0 : Int) ≤ x.2.2.1) <;> cases decide (x.2.2.1 ≤ 999) <;> cases textB x.2.2.2.1 <;> rfl

theorem implRow_eq (x : Row) (h : List.length x.2.2.2.1 ≤ maxLen) : impl_RowFault.sem (x, ()) = some (rowF x, ()) := by
  refine lift_eq (k := List.length x.2.2.2.1 + 1) fun k hk => (impl_RowFault.raw_eq k _).trans ?_
  have := for_loop (B := fun self v => impl_RowFault.B0 0 self (fun z => impl_RowFault.Q0 0 (x, ()) z) (x, ()) v) x.2.2.2.1 (fun (_ : Unit) (i : Int) => i) (fun _ _ c => if letter c then .inr () else .inl (5, ())) (fun _ => (0, ())) (fun _ _ => True) h
    (fun i hi _ self _ => by
      show impl_RowFault.b0 _ _ _ _ = _
      unfold impl_RowFault.b0
      have hlt : (i : Int) < (List.length x.2.2.2.1 : Int) := by omega
      simp only [hlt, decide_true, cond_true, Int.natCast_nonneg, if_true, Int.toNat_natCast, List.getElem?_eq_getElem hi, Option.bind_some]
      unfold letter
      by_cases h1 : (((x.2.2.2.1)[i].toNat : Int) < 97) <;> by_cases h2 : ((122 : Int) < ((x.2.2.2.1)[i].toNat : Int)) <;> simp [h1, h2]) (fun _ _ _ _ _ _ => trivial) (fun _ self _ => by
      show impl_RowFault.b0 _ _ _ _ = _
      unfold impl_RowFault.b0
      simp [impl_RowFault.Q0, impl_RowFault.q0]) () trivial k (by omega)
  rw [forI_check letter (5, ()) (fun _ => (0, ()))] at this
  have this : impl_RowFault.r0 k (x, ()) 0 = _ := this
  unfold impl_RowFault.raw impl_RowFault.p rowF inB textB
  simp only [implIn_eq, this, Option.bind_some]
  have h8 : decide ((8 : Int) < (List.length x.2.2.2.1 : Int)) = !decide (List.length x.2.2.2.1 ≤ 8) := by
    by_cases hc : List.length x.2.2.2.1 ≤ 8
    · have : ¬ (8 : Int) < (List.length x.2.2.2.1 : Int) := by omega
      simp [hc, this]
    · have : (8 : Int) < (List.length x.2.2.2.1 : Int) := by omega
      simp [hc, this]
  rw [h8]
  cases decide ((0 : Int) ≤ x.1) <;> cases decide (x.1 ≤ 3) <;> cases decide ((1 : Int) ≤ x.2.1) <;> cases decide (x.2.1 ≤ 99) <;> cases decide ((0 : Int) ≤ x.2.2.1) <;> cases decide (x.2.2.1 ≤ 999) <;> cases decide (List.length x.2.2.2.1 ≤ 8) <;> cases (x.2.2.2.1).all letter <;> rfl

/-! Changes. -/
def rl (x : Row) : Prop := List.length x.2.2.2.1 ≤ maxLen
def cl (c : Change) : Prop := rl c.2.1 ∧ rl c.2.2.2.1
def sameKey (a b : Row) : Bool := decide (a.1 = b.1) && decide (a.2.1 = b.2.1)
def befB (a b : Int × Int) : Bool := decide (a.1 < b.1) || (decide (a.1 = b.1) && decide (a.2 < b.2))
def chF (c : Change) : Int := if (!c.1 && !c.2.2.1) || (c.1 && c.2.2.1 && !sameKey c.2.1 c.2.2.2.1) then 1 else if c.1 && !decide (rowF c.2.1 = 0) then rowF c.2.1 else if c.2.2.1 then rowF c.2.2.2.1 else 0
def chS (c : Change) : Int := if chF c = 0 then (if c.1 && c.2.2.1 && Ty.eq tRow c.2.1 c.2.2.2.1 then 1 else 0) else chF c
def ck (c : Change) : Int × Int := if c.2.2.1 then (c.2.2.2.1.1, c.2.2.2.1.2.1) else (c.2.1.1, c.2.1.2.1)

theorem specChange_eq (c : Change) (h : cl c) : spec_l6Change.sem (c, ()) = some (chF c, ()) := by
  refine lift_eq (k := 0) fun k _ => (spec_l6Change.raw_eq k _).trans ?_
  show spec_l6Change.p _ = _
  unfold spec_l6Change.p chF sameKey
  simp only [specRow_eq _ h.1, specRow_eq _ h.2, Option.bind_some]
  cases c.1 <;> cases c.2.2.1 <;> by_cases h1 : c.2.1.1 = c.2.2.2.1.1 <;> by_cases h2 : c.2.1.2.1 = c.2.2.2.1.2.1 <;> by_cases h3 : rowF c.2.1 = 0 <;> simp [h1, h2, h3]

theorem isBefore_eq (a b : Row) : impl_IsBefore.sem (a, b, ()) = some (befB (a.1, a.2.1) (b.1, b.2.1), ()) := by
  refine lift_eq (k := 0) fun k _ => (impl_IsBefore.raw_eq k _).trans ?_
  show impl_IsBefore.p _ = _
  unfold impl_IsBefore.p befB
  by_cases h1 : a.1 < b.1 <;> by_cases h2 : a.1 = b.1 <;> simp [h1, h2]
theorem order_eq (a b : Row) : impl_order.sem (a, b, ()) = some (if befB (a.1, a.2.1) (b.1, b.2.1) then -1 else if befB (b.1, b.2.1) (a.1, a.2.1) then 1 else 0, ()) := by
  refine lift_eq (k := 0) fun k _ => (impl_order.raw_eq k _).trans ?_
  show impl_order.p _ = _
  unfold impl_order.p
  simp only [isBefore_eq, Option.bind_some]
  cases befB (a.1, a.2.1) (b.1, b.2.1) <;> cases befB (b.1, b.2.1) (a.1, a.2.1) <;> rfl
theorem order_zero (a b : Row) : decide ((if befB (a.1, a.2.1) (b.1, b.2.1) then (-1 : Int) else if befB (b.1, b.2.1) (a.1, a.2.1) then 1 else 0) = 0) = sameKey a b := by
  unfold befB sameKey
  by_cases h1 : a.1 < b.1
  · have : ¬ a.1 = b.1 := by omega
    simp [h1, this]
  · by_cases h2 : a.1 = b.1
    · by_cases h3 : a.2.1 < b.2.1
      · have : ¬ a.2.1 = b.2.1 := by omega
        simp [h2, h3, this]
      · by_cases h4 : b.2.1 < a.2.1
        · have : ¬ a.2.1 = b.2.1 := by omega
          simp [h2, h3, h4, this]
        · have : a.2.1 = b.2.1 := by omega
          simp [h2, this]
    · have : b.1 < a.1 := by omega
      simp [h1, h2, this]
theorem implChange_eq (c : Change) (h : cl c) : impl_changeFault.sem (c, ()) = some (chF c, ()) := by
  refine lift_eq (k := 0) fun k _ => (impl_changeFault.raw_eq k _).trans ?_
  show impl_changeFault.p _ = _
  unfold impl_changeFault.p chF
  simp only [implRow_eq _ h.1, implRow_eq _ h.2, order_eq, Option.bind_some, order_zero]
  cases c.1 <;> cases c.2.2.1 <;> cases sameKey c.2.1 c.2.2.2.1 <;> by_cases h3 : rowF c.2.1 = 0 <;> simp [h3]

theorem specChangeS_eq (c : Change) (h : cl c) : spec_l9Change.sem (c, ()) = some (chS c, ()) := by
  refine lift_eq (k := 0) fun k _ => (spec_l9Change.raw_eq k _).trans ?_
  show spec_l9Change.p _ = _
  unfold spec_l9Change.p chS
  simp only [specChange_eq c h, Option.bind_some]
  by_cases h1 : chF c = 0
  · simp only [h1, decide_true, Bool.not_true, cond_false, if_true]
    cases c.1 <;> cases c.2.2.1 <;> cases Ty.eq tRow c.2.1 c.2.2.2.1 <;> rfl
  · simp [h1]
theorem single_eq (c : Change) (h : cl c) : impl_singleFault.sem (c, ()) = some (chS c, ()) := by
  refine lift_eq (k := 0) fun k _ => (impl_singleFault.raw_eq k _).trans ?_
  show impl_singleFault.p _ = _
  unfold impl_singleFault.p chS
  simp only [implChange_eq c h, Option.bind_some]
  by_cases h1 : chF c = 0
  · simp only [h1, decide_true, Bool.not_true, cond_false, if_true]
    cases c.1 <;> cases c.2.2.1 <;> cases Ty.eq tRow c.2.1 c.2.2.2.1 <;> rfl
  · simp [h1]
theorem specKey_eq (c : Change) : spec_l6Key.sem (c, ()) = some ((ck c).1, (ck c).2, ()) := by
  refine lift_eq (k := 0) fun k _ => (spec_l6Key.raw_eq k _).trans ?_
  show spec_l6Key.p _ = _
  unfold spec_l6Key.p ck
  cases c.2.2.1 <;> rfl
def keyRow (c : Change) : Row := if c.2.2.1 then c.2.2.2.1 else c.2.1
theorem keyRow_ck (c : Change) : ((keyRow c).1, (keyRow c).2.1) = ck c := by unfold keyRow ck; cases c.2.2.1 <;> rfl
theorem implKey_eq (c : Change) : impl_Change_key.sem (c, ()) = some (keyRow c, ()) := by
  refine lift_eq (k := 0) fun k _ => (impl_Change_key.raw_eq k _).trans ?_
  show impl_Change_key.p _ = _
  unfold impl_Change_key.p keyRow
  cases c.2.2.1 <;> rfl
theorem len60 (n : Nat) (m : Nat) : decide ((m : Int) < (n : Int)) = decide (m < n) := by
  by_cases h : m < n
  · have : (m : Int) < (n : Int) := by omega
    simp [h, this]
  · have : ¬ (m : Int) < (n : Int) := by omega
    simp [h, this]

theorem wprev {i : Nat} (hi : 0 < i) (h : i ≤ maxLen) : w64 ((i : Int) - 1) = ((i - 1 : Nat) : Int) := by
  rw [maxLen_val] at h
  rw [w64_in (by omega)]; omega

theorem rl_ok {x : Row} (h : okD tRow x) : rl x := h.2.2.2.1
theorem cl_ok {c : Change} (h : okD tChange c) : cl c := ⟨rl_ok h.2.1, rl_ok h.2.2.2.1⟩
end OT

set_option linter.unusedVariables false
set_option linter.unusedSimpArgs false
namespace OT
open Go

/-! Loops that go on elsewhere. -/
theorem for_loopE {V S O α : Type} {B : (V → Option O) → V → Option O} (xs : List α) (enc : S → Int → V) (f : Nat → S → α → Sum (Option O) S) (fin : S → Option O) (I : Nat → S → Prop) (hmax : xs.length ≤ maxLen)
    (hin : ∀ (i : Nat) (hi : i < xs.length) (s : S) self, I i s → B self (enc s (i : Int)) = match f i s xs[i] with | .inl o => o | .inr s' => self (enc s' (w64 ((i : Int) + 1))))
    (hI : ∀ (i : Nat) (hi : i < xs.length) (s s' : S), I i s → f i s xs[i] = .inr s' → I (i + 1) s')
    (hout : ∀ (s : S) self, I xs.length s → B self (enc s (xs.length : Int)) = fin s) (s : S) (h0 : I 0 s) : ∀ k, xs.length < k → rawIter B k (enc s 0) = forI f fin 0 xs s := by
  have main : ∀ (m i : Nat) (s : S), xs.length - i = m → i ≤ xs.length → I i s → ∀ k, m < k → rawIter B k (enc s (i : Int)) = forI f fin i (xs.drop i) s := by
    intro m
    induction m with
    | zero =>
      intro i s hm hi hs k hk
      have hi' : i = xs.length := by omega
      subst hi'
      cases k with
      | zero => omega
      | succ k =>
        show B (rawIter B k) _ = _
        rw [hout s _ hs]
        simp [forI]
    | succ m ih =>
      intro i s hm hi hs k hk
      have hlt : i < xs.length := by omega
      cases k with
      | zero => omega
      | succ k =>
        show B (rawIter B k) _ = _
        rw [hin i hlt s _ hs, List.drop_eq_getElem_cons hlt]
        simp only [forI]
        cases hf : f i s xs[i] with
        | inl o => rfl
        | inr s' =>
          have hw : w64 ((i : Int) + 1) = ((i + 1 : Nat) : Int) := by rw [w64_in (by rw [maxLen_val] at hmax; omega)]; omega
          simp only [hw]
          exact ih (i + 1) s' (by omega) (by omega) (hI i hlt s s' hs hf) k (by omega)
  intro k hk
  simpa using main xs.length 0 s (by omega) (by omega) h0 k hk

theorem forI_any {O α : Type} (p : α → Bool) (a : O) (fin : Unit → O) : ∀ (xs : List α) (i : Nat), forI (fun _ _ x => if p x then .inl a else .inr ()) fin i xs () = if xs.any p then a else fin ()
  | [], _ => rfl
  | x :: xs, i => by
    simp only [forI, List.any_cons]
    by_cases h : p x = true
    · simp [h]
    · simp [h, forI_any p a fin xs (i + 1)]
/-- Where the first such is. -/
def whereF {α : Type} (p : α → Bool) : Nat → List α → Int
  | _, [] => -1
  | i, x :: xs => if p x then (i : Int) else whereF p (i + 1) xs
theorem forI_where {α : Type} (p : α → Bool) : ∀ (xs : List α) (i : Nat), forI (fun i _ x => if p x then .inl ((i : Int), ()) else .inr ()) (fun _ => ((-1 : Int), ())) i xs () = (whereF p i xs, ())
  | [], _ => rfl
  | x :: xs, i => by
    simp only [forI, whereF]
    by_cases h : p x = true
    · simp [h]
    · simp [h, forI_where p xs (i + 1)]
theorem where_any {α : Type} (p : α → Bool) : ∀ (xs : List α) (i : Nat), decide (0 ≤ whereF p i xs) = xs.any p
  | [], _ => rfl
  | x :: xs, i => by
    simp only [whereF, List.any_cons]
    by_cases h : p x = true
    · simp [h]
    · simp [h, where_any p xs (i + 1)]
theorem where_spec {α : Type} (p : α → Bool) : ∀ (xs : List α) (i : Nat), 0 ≤ whereF p i xs → ∃ (j : Nat) (hj : j < xs.length), whereF p i xs = ((i + j : Nat) : Int) ∧ p xs[j] = true
  | [], _, h => by simp [whereF] at h
  | x :: xs, i, h => by
    simp only [whereF] at h ⊢
    by_cases hp : p x = true
    · exact ⟨0, by simp, by simp [hp], hp⟩
    · rw [if_neg hp] at h ⊢
      obtain ⟨j, hj, h1, h2⟩ := where_spec p xs (i + 1) h
      exact ⟨j + 1, by simp; omega, by rw [h1]; omega, by simpa using h2⟩

/-! Keys. -/
theorem kq_eq (a b : Key) : Ty.eq tKey a b = decide (a = b) := by
  obtain ⟨a1, a2, ⟨⟩⟩ := a
  obtain ⟨b1, b2, ⟨⟩⟩ := b
  show (decide (a1 = b1) && (decide (a2 = b2) && true)) = decide ((a1, a2, ()) = (b1, b2, ()))
  by_cases h1 : a1 = b1 <;> by_cases h2 : a2 = b2 <;> simp [h1, h2]
def keyOfC (c : Change) : Key := ((ck c).1, (ck c).2, ())
def hasK (ks : List Key) (k : Key) : Bool := ks.any fun x => decide (x = k)
theorem hasK_iff {ks : List Key} {k : Key} : hasK ks k = true ↔ k ∈ ks := by simp [hasK]
def keyB2 (k : Key) : Bool := inB k.1 0 3 && inB k.2.1 1 99

theorem specKeyOf_eq (c : Change) : spec_l10KeyOf.sem (c, ()) = some (keyOfC c, ()) := by
  refine lift_eq (k := 0) fun k _ => (spec_l10KeyOf.raw_eq k _).trans ?_
  show spec_l10KeyOf.p _ = _
  unfold spec_l10KeyOf.p
  simp only [specKey_eq, Option.bind_some]
  rfl
theorem lock_eq (c : Change) : impl_Change_lock.sem (c, ()) = some (keyOfC c, ()) := by
  refine lift_eq (k := 0) fun k _ => (impl_Change_lock.raw_eq k _).trans ?_
  show impl_Change_lock.p _ = _
  unfold impl_Change_lock.p keyOfC
  simp only [implKey_eq, Option.bind_some, ← keyRow_ck]
theorem specKeyB_eq (x : Key) : spec_l10Key.sem (x, ()) = some (keyB2 x, ()) := by
  refine lift_eq (k := 0) fun k _ => (spec_l10Key.raw_eq k _).trans ?_
  show spec_l10Key.p _ = _
  unfold spec_l10Key.p keyB2 inB
  simp only [specIn_eq, Option.bind_some]
  cases decide ((0 : Int) ≤ x.1) <;> cases decide (x.1 ≤ 3) <;> rfl
theorem isKey_eq (x : Key) : impl_isKey.sem (x.1, x.2.1, ()) = some (keyB2 x, ()) := by
  refine lift_eq (k := 0) fun k _ => (impl_isKey.raw_eq k _).trans ?_
  show impl_isKey.p _ = _
  unfold impl_isKey.p keyB2 inB
  simp only [implIn_eq, Option.bind_some]
  cases decide ((0 : Int) ≤ x.1) <;> cases decide (x.1 ≤ 3) <;> rfl

theorem locks_eq (x : Tx) (k0 : Key) (h : List.length x.2.2.2.1 ≤ maxLen) : spec_l10Locks.sem (x, k0, ()) = some (hasK x.2.2.2.1 k0, ()) := by
  refine lift_eq (k := List.length x.2.2.2.1 + 1) fun k hk => (spec_l10Locks.raw_eq k _).trans ?_
  have := for_loop (B := fun self v => spec_l10Locks.B0 0 self (fun z => spec_l10Locks.Q0 0 (x, k0, ()) z) (x, k0, ()) v) x.2.2.2.1 (fun (_ : Unit) (i : Int) => i) (fun _ _ y => if decide (y = k0) then .inl (true, ()) else .inr ()) (fun _ => (false, ())) (fun _ _ => True) h
    (fun i hi s self _ => by
      show spec_l10Locks.b0 _ _ _ _ = _
      unfold spec_l10Locks.b0
      have hlt : (i : Int) < (List.length x.2.2.2.1 : Int) := by omega
      simp only [hlt, decide_true, cond_true, Int.natCast_nonneg, if_true, Int.toNat_natCast, List.getElem?_eq_getElem hi, Option.bind_some, kq_eq]
      by_cases hh : (x.2.2.2.1)[i] = k0
      · simp only [hh, decide_true, cond_true, if_true]
      · simp only [hh, decide_false, cond_false, Bool.false_eq_true, if_false])
    (fun _ _ _ _ _ _ => trivial) (fun s self _ => by
      show spec_l10Locks.b0 _ _ _ _ = _
      unfold spec_l10Locks.b0
      simp only [Int.lt_irrefl, decide_false, cond_false]
      rfl) () trivial k (by omega)
  rw [forI_any] at this
  refine Eq.trans this ?_
  unfold hasK
  cases x.2.2.2.1.any (fun y => decide (y = k0)) <;> rfl

theorem contains_eq (ks : List Key) (k0 : Key) (h : ks.length ≤ maxLen) : slices_Contains_Key.sem (ks, k0, ()) = some (hasK ks k0, ()) := by
  have hix : slices_Index_Key.sem (ks, k0, ()) = some (whereF (fun y => decide (k0 = y)) 0 ks, ()) := by
    refine lift_eq (k := ks.length + 1) fun k hk => (slices_Index_Key.raw_eq k _).trans ?_
    have := for_loop (B := fun self v => slices_Index_Key.B0 0 self (fun z => slices_Index_Key.Q0 0 (ks, k0, ()) z) (ks, k0, ()) v) ks (fun (_ : Unit) (i : Int) => i) (fun i _ y => if decide (k0 = y) then .inl ((i : Int), ()) else .inr ()) (fun _ => ((-1 : Int), ())) (fun _ _ => True) h
      (fun i hi s self _ => by
        show slices_Index_Key.b0 _ _ _ _ = _
        unfold slices_Index_Key.b0
        have hlt : (i : Int) < (ks.length : Int) := by omega
        simp only [hlt, decide_true, cond_true, Int.natCast_nonneg, if_true, Int.toNat_natCast, List.getElem?_eq_getElem hi, Option.bind_some, kq_eq]
        by_cases hh : k0 = ks[i]
        · simp only [← hh, decide_true, cond_true, if_true]
        · simp only [hh, decide_false, cond_false, Bool.false_eq_true, if_false])
      (fun _ _ _ _ _ _ => trivial) (fun s self _ => by
        show slices_Index_Key.b0 _ _ _ _ = _
        unfold slices_Index_Key.b0
        simp only [Int.lt_irrefl, decide_false, cond_false]
        rfl) () trivial k (by omega)
    rw [forI_where] at this
    exact this
  refine lift_eq (k := 0) fun k _ => (slices_Contains_Key.raw_eq k _).trans ?_
  show slices_Contains_Key.p _ = _
  unfold slices_Contains_Key.p
  rw [hix]
  simp only [Option.bind_some, where_any]
  congr 2
  unfold hasK
  congr 1
  funext y
  by_cases hh : k0 = y
  · simp [hh]
  · have : ¬ y = k0 := fun e => hh e.symm
    simp [hh, this]

/-! One transaction. -/
def tl (x : Tx) : Prop := List.length x.2.1 ≤ 1048576 ∧ List.length x.2.2.1 ≤ 1048576 ∧ List.length x.2.2.2.1 ≤ 1048576 ∧ ∀ c ∈ x.2.1, cl c
def undoC (ks : List Key) (c : Change) : Int := if chS c = 0 then (if hasK ks (keyOfC c) then 0 else 8) else chS c
def marksL (n last : Int) (ms : List Int) : Bool := forI (fun _ last m => if inB m last n then .inr m else .inl false) (fun _ => true) 0 ms last
def lockC (ks : List Key) (i : Nat) (k : Key) : Int := if keyB2 k then (if hasK (ks.take i) k then 6 else 0) else 3
def locksL (ks : List Key) : Int := forI (fun i (_ : Unit) k => if lockC ks i k = 0 then .inr () else .inl (lockC ks i k)) (fun _ => (0 : Int)) 0 ks ()
def marksF (x : Tx) : Int := if decide (8 < List.length x.2.2.1) || decide (12 < List.length x.2.2.2.1) then 2 else if marksL (List.length x.2.1 : Int) 0 x.2.2.1 then locksL x.2.2.2.1 else 3
def undoF (x : Tx) : Int := firstF (undoC x.2.2.2.1) x.2.1

theorem marksE (n : Int) (E : Option (Int × Unit)) : ∀ (ms : List Int) (i : Nat) (last : Int), forI (fun _ last m => if inB m last n then .inr m else .inl (some ((3 : Int), ()))) (fun _ => E) i ms last = if forI (fun _ last m => if inB m last n then .inr m else .inl false) (fun _ => true) i ms last then E else some ((3 : Int), ())
  | [], _, _ => rfl
  | m :: ms, i, last => by
    simp only [forI]
    by_cases hb : inB m last n = true
    · simp only [hb, if_true]; exact marksE n E ms _ _
    · simp [hb]

theorem specUndo_eq (x : Tx) (h : tl x) : spec_l10Undo.sem (x, ()) = some (undoF x, ()) := by
  obtain ⟨h1, h2, h3, h4⟩ := h
  refine lift_eq (k := List.length x.2.1 + 1) fun k hk => (spec_l10Undo.raw_eq k _).trans ?_
  have := for_loop (B := fun self v => spec_l10Undo.B0 0 self (fun z => spec_l10Undo.Q0 0 (x, ()) z) (x, ()) v) x.2.1 (fun (_ : Unit) (i : Int) => i) (fun _ _ c => if undoC x.2.2.2.1 c = 0 then .inr () else .inl (undoC x.2.2.2.1 c, ())) (fun _ => (0, ())) (fun _ _ => True) (by rw [maxLen_val]; omega)
    (fun i hi s self _ => by
      show spec_l10Undo.b0 _ _ _ _ = _
      unfold spec_l10Undo.b0
      have hlt : (i : Int) < (List.length x.2.1 : Int) := by omega
      simp only [hlt, decide_true, cond_true, Int.natCast_nonneg, if_true, Int.toNat_natCast, List.getElem?_eq_getElem hi, Option.bind_some, specChangeS_eq _ (h4 _ (List.getElem_mem hi)), specKeyOf_eq]
      rw [locks_eq x _ (by rw [maxLen_val]; omega)]
      unfold undoC
      by_cases hc : chS (x.2.1)[i] = 0
      · simp only [hc, decide_true, Bool.not_true, cond_false, if_true, Option.bind_some]
        cases hasK x.2.2.2.1 (keyOfC (x.2.1)[i]) <;> rfl
      · simp only [hc, decide_false, Bool.not_false, cond_true, if_false])
    (fun _ _ _ _ _ _ => trivial) (fun s self _ => by
      show spec_l10Undo.b0 _ _ _ _ = _
      unfold spec_l10Undo.b0
      simp only [Int.lt_irrefl, decide_false, cond_false]
      rfl) () trivial k (by omega)
  rw [forI_first (undoC x.2.2.2.1) (fun c => (c, ())) (fun _ => ((0 : Int), ()))] at this
  refine Eq.trans this ?_
  unfold undoF
  split
  · rename_i h0; rw [h0]
  · rfl

/-- What is asked of marks, with the one ahead in mind. -/
theorem inB_last {m last n : Int} (h : 0 ≤ last) : (inB m 0 n && decide (last ≤ m)) = inB m last n := by
  unfold inB
  by_cases h1 : last ≤ m
  · have : (0 : Int) ≤ m := by omega
    simp [h1, this]
  · simp [h1]

theorem specMarks_eq (x : Tx) (h : tl x) : spec_l10Marks.sem (x, ()) = some (marksF x, ()) := by
  obtain ⟨h1, h2, h3, h4⟩ := h
  refine lift_eq (k := 20) fun k hk => (spec_l10Marks.raw_eq k _).trans ?_
  unfold spec_l10Marks.raw spec_l10Marks.p marksF
  by_cases hm : 8 < List.length x.2.2.1
  · have : (8 : Int) < (List.length x.2.2.1 : Int) := by omega
    simp only [this, hm, decide_true, cond_true, Bool.true_or, if_true]
    (try rfl)
  have hm' : ¬ (8 : Int) < (List.length x.2.2.1 : Int) := by omega
  by_cases hk2 : 12 < List.length x.2.2.2.1
  · have : (12 : Int) < (List.length x.2.2.2.1 : Int) := by omega
    simp only [this, hm, hm', hk2, decide_true, decide_false, cond_true, cond_false, Bool.false_or, if_true]
    (try rfl)
  have hk' : ¬ (12 : Int) < (List.length x.2.2.2.1 : Int) := by omega
  simp only [hm, hm', hk', hk2, decide_false, cond_false, Bool.or_self, Bool.false_eq_true, if_false]
  -- the locks
  have second : spec_l10Marks.r1 k (x, ()) (x, (0 : Int)) = some (locksL x.2.2.2.1, ()) := by
    have inner : ∀ (self : (Tx × Int) → Option spec_l10Marks.Out) (e2 : Unit → Option spec_l10Marks.Out) (i : Nat) (hi : i < List.length x.2.2.2.1), spec_l10Marks.r2 k self e2 (x, ()) x (i : Int) (0 : Int) = if hasK (x.2.2.2.1.take i) (x.2.2.2.1)[i] then some ((6 : Int), ()) else self (x, w64 ((i : Int) + 1)) := fun self e2 i hi => by
      have hti : (x.2.2.2.1.take i).length = i := by simp; omega
      have := for_loopE (B := fun self' v => spec_l10Marks.B2 k self' (fun z => spec_l10Marks.Q1 k self e2 (x, ()) x (i : Int) z) (x, ()) x (i : Int) v) (x.2.2.2.1.take i) (fun (_ : Unit) (j : Int) => j) (fun _ _ y => if decide (y = (x.2.2.2.1)[i]) then .inl (some ((6 : Int), ())) else .inr ()) (fun _ => self (x, w64 ((i : Int) + 1))) (fun _ _ => True) (by rw [maxLen_val]; omega)
        (fun j hj s self' _ => by
          show spec_l10Marks.b2 _ _ _ _ _ _ = _
          unfold spec_l10Marks.b2
          rw [hti] at hj
          have hlt : (j : Int) < (i : Int) := by omega
          have hjl : j < List.length x.2.2.2.1 := by omega
          simp only [hlt, decide_true, cond_true, Int.natCast_nonneg, if_true, Int.toNat_natCast, List.getElem?_eq_getElem hjl, List.getElem?_eq_getElem hi, Option.bind_some, kq_eq, List.getElem_take]
          by_cases hh : (x.2.2.2.1)[j] = (x.2.2.2.1)[i]
          · simp only [hh, decide_true, cond_true, if_true]
          · simp only [hh, decide_false, cond_false, Bool.false_eq_true, if_false])
        (fun _ _ _ _ _ _ => trivial) (fun s self' _ => by
          show spec_l10Marks.b2 _ _ _ _ _ _ = _
          unfold spec_l10Marks.b2
          simp only [hti, Int.lt_irrefl, decide_false, cond_false]
          rfl) () trivial k (by omega)
      rw [forI_any] at this
      exact this
    have := for_loop (B := fun self v => spec_l10Marks.B1 k self (fun z => spec_l10Marks.Q2 k (x, ()) z) (x, ()) v) x.2.2.2.1 (fun (_ : Unit) (i : Int) => (x, i)) (fun i _ y => if lockC x.2.2.2.1 i y = 0 then .inr () else .inl (lockC x.2.2.2.1 i y, ())) (fun _ => (0, ())) (fun _ _ => True) (by rw [maxLen_val]; omega)
      (fun i hi s self _ => by
        show spec_l10Marks.b1 _ _ _ _ _ = _
        unfold spec_l10Marks.b1 lockC
        have hlt : (i : Int) < (List.length x.2.2.2.1 : Int) := by omega
        simp only [hlt, decide_true, cond_true, Int.natCast_nonneg, if_true, Int.toNat_natCast, List.getElem?_eq_getElem hi, Option.bind_some, specKeyB_eq]
        rw [inner self _ i hi]
        cases keyB2 (x.2.2.2.1)[i] <;> cases hasK (x.2.2.2.1.take i) (x.2.2.2.1)[i] <;> rfl)
      (fun _ _ _ _ _ _ => trivial) (fun s self _ => by
        show spec_l10Marks.b1 _ _ _ _ _ = _
        unfold spec_l10Marks.b1
        simp only [Int.lt_irrefl, decide_false, cond_false]
        rfl) () trivial k (by omega)
    refine Eq.trans this ?_
    unfold locksL
    generalize hks : x.2.2.2.1 = ks
    have gen : ∀ (f : Nat → Key → Int) (ys : List Key) (i : Nat), forI (fun i (_ : Unit) y => if f i y = 0 then .inr () else .inl (f i y, ())) (fun _ => ((0 : Int), ())) i ys () = (forI (fun i (_ : Unit) y => if f i y = 0 then .inr () else .inl (f i y)) (fun _ => (0 : Int)) i ys (), ()) := by
      intro f ys
      induction ys with
      | nil => intro i; rfl
      | cons y ys ih => intro i; simp only [forI]; by_cases h0 : f i y = 0 <;> simp [h0, ih]
    rw [gen (lockC ks)]
  have := for_loopE (B := fun self v => spec_l10Marks.B0 k self (fun z => spec_l10Marks.Q0 k (x, ()) z) (x, ()) v) x.2.2.1 (fun (_ : Int) (i : Int) => i) (fun i last m => if inB m last (List.length x.2.1 : Int) then .inr m else .inl (some ((3 : Int), ()))) (fun _ => some (locksL x.2.2.2.1, ()))
    (fun i last => 0 ≤ last ∧ (i = 0 → last = 0) ∧ ∀ y, 0 < i → x.2.2.1[i - 1]? = some y → last = y) (by rw [maxLen_val]; omega)
    (fun i hi last self hI => by
      obtain ⟨i1, i2, i3⟩ := hI
      show spec_l10Marks.b0 _ _ _ _ = _
      unfold spec_l10Marks.b0
      have hlt : (i : Int) < (List.length x.2.2.1 : Int) := by omega
      simp only [hlt, decide_true, cond_true, Int.natCast_nonneg, if_true, Int.toNat_natCast, List.getElem?_eq_getElem hi, Option.bind_some, specIn_eq]
      generalize hmm : (x.2.2.1)[i] = m
      rw [← inB_last i1]
      show (bif !inB m 0 (List.length x.2.1 : Int) then _ else _) = _
      cases hb0 : inB m 0 (List.length x.2.1 : Int) with
      | false => rfl
      | true =>
        have hm0 : 0 ≤ m := by
          simp only [inB, Bool.and_eq_true, decide_eq_true_eq] at hb0
          exact hb0.1
        simp only [Bool.not_true, cond_false, Bool.true_and]
        by_cases h0 : i = 0
        · subst h0
          have := i2 rfl
          subst this
          have hz : ¬ (0 : Int) < ((0 : Nat) : Int) := by omega
          simp only [hz, hm0, decide_true, decide_false, cond_false, if_true]
        · have hi1 : i - 1 < List.length x.2.2.1 := by omega
          have hl := i3 (x.2.2.1)[i - 1] (by omega) (List.getElem?_eq_getElem hi1)
          have hp : (0 : Int) < (i : Int) := by omega
          simp only [hp, decide_true, cond_true, wprev (show 0 < i by omega) (by rw [maxLen_val]; omega), Int.natCast_nonneg, if_true, Int.toNat_natCast, List.getElem?_eq_getElem hi1, Option.bind_some]
          rw [← hl]
          by_cases hc : last ≤ m
          · have : ¬ m < last := by omega
            simp only [hc, this, decide_true, decide_false, cond_false, if_true]
          · have : m < last := by omega
            simp only [hc, this, decide_true, decide_false, cond_true, Bool.false_eq_true, if_false])
    (fun i hi last last' hI hs => by
      split at hs
      · rename_i hb
        injection hs with hs
        subst hs
        simp only [inB, Bool.and_eq_true, decide_eq_true_eq] at hb
        refine ⟨by omega, fun e => by omega, fun y _ hy => ?_⟩
        rw [Nat.add_sub_cancel, List.getElem?_eq_getElem hi] at hy
        injection hy
      · cases hs)
    (fun last self hI => by
      show spec_l10Marks.b0 _ _ _ _ = _
      unfold spec_l10Marks.b0
      simp only [Int.lt_irrefl, decide_false, cond_false]
      exact second) 0 ⟨Int.le_refl _, fun _ => rfl, fun _ h => by omega⟩ k (by omega)
  refine Eq.trans this ?_
  unfold marksL
  rw [marksE]
  cases forI (fun _ last m => if inB m last (List.length x.2.1 : Int) then .inr m else .inl false) (fun _ => true) 0 x.2.2.1 0 <;> rfl
end OT

set_option linter.unusedVariables false
set_option linter.unusedSimpArgs false
namespace OT
open Go

def txF (x : Tx) : Int := if undoF x = 0 then marksF x else undoF x

theorem forI_pack {α : Type} (c : Nat → α → Int) : ∀ (xs : List α) (i : Nat), forI (fun i (_ : Unit) y => if c i y = 0 then .inr () else .inl (c i y, ())) (fun _ => ((0 : Int), ())) i xs () = (forI (fun i (_ : Unit) y => if c i y = 0 then .inr () else .inl (c i y)) (fun _ => (0 : Int)) i xs (), ())
  | [], _ => rfl
  | y :: ys, i => by simp only [forI]; by_cases h0 : c i y = 0 <;> simp [h0, forI_pack c ys (i + 1)]
theorem forI_codeE {α : Type} (c : Nat → α → Int) (E : Option (Int × Unit)) : ∀ (xs : List α) (i : Nat), forI (fun i (_ : Unit) y => if c i y = 0 then .inr () else .inl (some (c i y, ()))) (fun _ => E) i xs () =
    if forI (fun i (_ : Unit) y => if c i y = 0 then .inr () else .inl (c i y)) (fun _ => (0 : Int)) i xs () = 0 then E else some (forI (fun i (_ : Unit) y => if c i y = 0 then .inr () else .inl (c i y)) (fun _ => (0 : Int)) i xs (), ())
  | [], _ => rfl
  | y :: ys, i => by simp only [forI]; by_cases h0 : c i y = 0 <;> simp [h0, forI_codeE c E ys (i + 1)]
theorem forI_firstF {α : Type} (c : α → Int) : ∀ (xs : List α) (i : Nat), forI (fun _ (_ : Unit) y => if c y = 0 then .inr () else .inl (c y)) (fun _ => (0 : Int)) i xs () = firstF c xs
  | [], _ => rfl
  | y :: ys, i => by simp only [forI, firstF]; by_cases h0 : c y = 0 <;> simp [h0, forI_firstF c ys (i + 1)]

theorem txFault_eq (x : Tx) (h : tl x) : impl_txFault.sem (x, ()) = some (txF x, ()) := by
  obtain ⟨h1, h2, h3, h4⟩ := h
  refine lift_eq (k := 1048577) fun k hk => (impl_txFault.raw_eq k _).trans ?_
  -- the locks
  have third : List.length x.2.2.2.1 ≤ 12 → impl_txFault.r2 k (x, ()) (0 : Int) = some (locksL x.2.2.2.1, ()) := fun hl => by
    have := for_loop (B := fun self v => impl_txFault.B2 k self (fun z => impl_txFault.Q2 k (x, ()) z) (x, ()) v) x.2.2.2.1 (fun (_ : Unit) (i : Int) => i) (fun i _ y => if lockC x.2.2.2.1 i y = 0 then .inr () else .inl (lockC x.2.2.2.1 i y, ())) (fun _ => (0, ())) (fun _ _ => True) (by rw [maxLen_val]; omega)
      (fun i hi s self _ => by
        show impl_txFault.b2 _ _ _ _ = _
        unfold impl_txFault.b2 lockC
        have hlt : (i : Int) < (List.length x.2.2.2.1 : Int) := by omega
        have hin : (0 : Int) ≤ (i : Int) ∧ (i : Int) ≤ (List.length x.2.2.2.1 : Int) := by omega
        simp only [hlt, hin, and_self, decide_true, cond_true, Int.natCast_nonneg, if_true, Int.toNat_natCast, List.getElem?_eq_getElem hi, Option.bind_some, isKey_eq, List.drop_zero]
        rw [contains_eq _ _ (by rw [maxLen_val]; simp; omega)]
        cases keyB2 (x.2.2.2.1)[i] <;> cases hasK (x.2.2.2.1.take i) (x.2.2.2.1)[i] <;> rfl)
      (fun _ _ _ _ _ _ => trivial) (fun s self _ => by
        show impl_txFault.b2 _ _ _ _ = _
        unfold impl_txFault.b2
        simp only [Int.lt_irrefl, decide_false, cond_false]
        rfl) () trivial k (by omega)
    rw [forI_pack (lockC x.2.2.2.1)] at this
    exact this
  have second : List.length x.2.2.1 ≤ 8 → List.length x.2.2.2.1 ≤ 12 → impl_txFault.r1 k (x, ()) ((0 : Int), (0 : Int)) = some (if marksL (List.length x.2.1 : Int) 0 x.2.2.1 then locksL x.2.2.2.1 else 3, ()) := fun hm hl => by
    have := for_loopE (B := fun self v => impl_txFault.B1 k self (fun z => impl_txFault.Q1 k (x, ()) z) (x, ()) v) x.2.2.1 (fun (last : Int) (i : Int) => (last, i)) (fun _ last m => if inB m last (List.length x.2.1 : Int) then .inr m else .inl (some ((3 : Int), ()))) (fun _ => some (locksL x.2.2.2.1, ())) (fun _ _ => True) (by rw [maxLen_val]; omega)
      (fun i hi last self _ => by
        show impl_txFault.b1 _ _ _ _ = _
        unfold impl_txFault.b1
        have hlt : (i : Int) < (List.length x.2.2.1 : Int) := by omega
        simp only [hlt, decide_true, cond_true, Int.natCast_nonneg, if_true, Int.toNat_natCast, List.getElem?_eq_getElem hi, Option.bind_some, implIn_eq]
        show (bif !inB (x.2.2.1)[i] last (List.length x.2.1 : Int) then _ else _) = _
        cases inB (x.2.2.1)[i] last (List.length x.2.1 : Int) <;> rfl)
      (fun _ _ _ _ _ _ => trivial) (fun last self _ => by
        show impl_txFault.b1 _ _ _ _ = _
        unfold impl_txFault.b1
        simp only [Int.lt_irrefl, decide_false, cond_false]
        exact third hl) 0 trivial k (by omega)
    rw [marksE] at this
    refine Eq.trans this ?_
    unfold marksL
    cases forI (fun _ last m => if inB m last (List.length x.2.1 : Int) then .inr m else .inl false) (fun _ => true) 0 x.2.2.1 0 <;> rfl
  have after : impl_txFault.Q0 k (x, ()) () = some (marksF x, ()) := by
    show impl_txFault.q0 _ _ _ = _
    unfold impl_txFault.q0 marksF
    by_cases hm : 8 < List.length x.2.2.1
    · have : (8 : Int) < (List.length x.2.2.1 : Int) := by omega
      simp only [this, hm, decide_true, cond_true, Bool.true_or, if_true]
      try rfl
    have hm' : ¬ (8 : Int) < (List.length x.2.2.1 : Int) := by omega
    by_cases hk2 : 12 < List.length x.2.2.2.1
    · have : (12 : Int) < (List.length x.2.2.2.1 : Int) := by omega
      simp only [this, hm, hm', hk2, decide_true, decide_false, cond_true, cond_false, Bool.false_or, if_true]
      try rfl
    have hk' : ¬ (12 : Int) < (List.length x.2.2.2.1 : Int) := by omega
    simp only [hm, hm', hk', hk2, decide_false, cond_false, Bool.or_self, Bool.false_eq_true, if_false]
    exact second (by omega) (by omega)
  have := for_loopE (B := fun self v => impl_txFault.B0 k self (fun z => impl_txFault.Q0 k (x, ()) z) (x, ()) v) x.2.1 (fun (_ : Unit) (i : Int) => i) (fun _ _ c => if undoC x.2.2.2.1 c = 0 then .inr () else .inl (some (undoC x.2.2.2.1 c, ()))) (fun _ => some (marksF x, ())) (fun _ _ => True) (by rw [maxLen_val]; omega)
    (fun i hi s self _ => by
      show impl_txFault.b0 _ _ _ _ = _
      unfold impl_txFault.b0
      have hlt : (i : Int) < (List.length x.2.1 : Int) := by omega
      simp only [hlt, decide_true, cond_true, Int.natCast_nonneg, if_true, Int.toNat_natCast, List.getElem?_eq_getElem hi, Option.bind_some, single_eq _ (h4 _ (List.getElem_mem hi)), lock_eq]
      rw [contains_eq _ _ (by rw [maxLen_val]; omega)]
      unfold undoC
      by_cases hc : chS (x.2.1)[i] = 0
      · simp only [hc, decide_true, Bool.not_true, cond_false, if_true, Option.bind_some]
        cases hasK x.2.2.2.1 (keyOfC (x.2.1)[i]) <;> rfl
      · simp only [hc, decide_false, Bool.not_false, cond_true, if_false])
    (fun _ _ _ _ _ _ => trivial) (fun s self _ => by
      show impl_txFault.b0 _ _ _ _ = _
      unfold impl_txFault.b0
      simp only [Int.lt_irrefl, decide_false, cond_false]
      exact after) () trivial k (by omega)
  rw [forI_codeE (fun _ => undoC x.2.2.2.1), forI_firstF] at this
  refine Eq.trans this ?_
  unfold txF undoF
  split <;> rfl

/-! Who locks what. -/
def lockF (xs : List Tx) (k : Key) : Int := match xs with
  | [] => 0
  | x :: xs => if hasK x.2.2.2.1 k then x.1 else lockF xs k
def tls (xs : List Tx) : Prop := xs.length ≤ 1048576 ∧ ∀ x ∈ xs, tl x
theorem forI_lock (k : Key) : ∀ (xs : List Tx) (i : Nat), forI (fun _ (_ : Unit) x => if hasK x.2.2.2.1 k then .inl (x.1, ()) else .inr ()) (fun _ => ((0 : Int), ())) i xs () = (lockF xs k, ())
  | [], _ => rfl
  | x :: xs, i => by simp only [forI, lockF]; cases hasK x.2.2.2.1 k <;> simp [forI_lock k xs (i + 1)]
theorem tl_locks {x : Tx} (h : tl x) : List.length x.2.2.2.1 ≤ maxLen := by rw [maxLen_val]; have := h.2.2.1; omega

theorem specLock_eq (xs : List Tx) (k0 : Key) (h : tls xs) : spec_l10Lock.sem (xs, k0, ()) = some (lockF xs k0, ()) := by
  obtain ⟨h1, h2⟩ := h
  refine lift_eq (k := xs.length + 1) fun k hk => (spec_l10Lock.raw_eq k _).trans ?_
  have := for_loop (B := fun self v => spec_l10Lock.B0 0 self (fun z => spec_l10Lock.Q0 0 (xs, k0, ()) z) (xs, k0, ()) v) xs (fun (_ : Unit) (i : Int) => i) (fun _ _ x => if hasK x.2.2.2.1 k0 then .inl (x.1, ()) else .inr ()) (fun _ => (0, ())) (fun _ _ => True) (by rw [maxLen_val]; omega)
    (fun i hi s self _ => by
      show spec_l10Lock.b0 _ _ _ _ = _
      unfold spec_l10Lock.b0
      have hlt : (i : Int) < (xs.length : Int) := by omega
      simp only [hlt, decide_true, cond_true, Int.natCast_nonneg, if_true, Int.toNat_natCast, List.getElem?_eq_getElem hi, Option.bind_some, locks_eq _ _ (tl_locks (h2 _ (List.getElem_mem hi)))]
      cases hasK (xs[i]).2.2.2.1 k0 <;> rfl)
    (fun _ _ _ _ _ _ => trivial) (fun s self _ => by
      show spec_l10Lock.b0 _ _ _ _ = _
      unfold spec_l10Lock.b0
      simp only [Int.lt_irrefl, decide_false, cond_false]
      rfl) () trivial k (by omega)
  rw [forI_lock] at this
  exact this
/-! How many changes there are. -/
def cntF (xs : List Tx) : Int := xs.foldl (fun n x => n + (List.length x.2.1 : Int)) 0
theorem forI_fold {S O α : Type} {g : S → α → S} {fin : S → O} : ∀ (xs : List α) (i : Nat) (s : S), forI (fun _ s x => .inr (g s x)) fin i xs s = fin (xs.foldl g s)
  | [], _, _ => rfl
  | x :: xs, i, s => by simp only [forI, List.foldl_cons]; exact forI_fold xs _ _
theorem specCount_eq (xs : List Tx) (h : tls xs) : spec_l10Count.sem (xs, ()) = some (cntF xs, ()) := by
  obtain ⟨h1, h2⟩ := h
  refine lift_eq (k := xs.length + 1) fun k hk => (spec_l10Count.raw_eq k _).trans ?_
  have := for_loop (B := fun self v => spec_l10Count.B0 0 self (fun z => spec_l10Count.Q0 0 (xs, ()) z) (xs, ()) v) xs (fun (n : Int) (i : Int) => (n, i)) (fun _ n x => .inr (n + (List.length x.2.1 : Int))) (fun n => (n, ())) (fun i n => 0 ≤ n ∧ n ≤ 1048576 * (i : Int)) (by rw [maxLen_val]; omega)
    (fun i hi n self hI => by
      show spec_l10Count.b0 _ _ _ _ = _
      unfold spec_l10Count.b0
      have hlt : (i : Int) < (xs.length : Int) := by omega
      have hx := (h2 _ (List.getElem_mem hi)).1
      simp only [hlt, decide_true, cond_true, Int.natCast_nonneg, if_true, Int.toNat_natCast, List.getElem?_eq_getElem hi, Option.bind_some]
      rw [w64_in (n := n + _) (by omega)])
    (fun i hi n n' hI hs => by
      injection hs with hs
      have hx := (h2 _ (List.getElem_mem hi)).1
      omega) (fun s self _ => by
      show spec_l10Count.b0 _ _ _ _ = _
      unfold spec_l10Count.b0
      simp only [Int.lt_irrefl, decide_false, cond_false]
      rfl) 0 (by omega) k (by omega)
  rw [forI_fold] at this
  exact this
theorem implCount_eq (xs : List Tx) (h : tls xs) : impl_undone.sem (xs, ()) = some (cntF xs, ()) := by
  obtain ⟨h1, h2⟩ := h
  refine lift_eq (k := xs.length + 1) fun k hk => (impl_undone.raw_eq k _).trans ?_
  have := for_loop (B := fun self v => impl_undone.B0 0 self (fun z => impl_undone.Q0 0 (xs, ()) z) (xs, ()) v) xs (fun (n : Int) (i : Int) => (n, i)) (fun _ n x => .inr (n + (List.length x.2.1 : Int))) (fun n => (n, ())) (fun i n => 0 ≤ n ∧ n ≤ 1048576 * (i : Int)) (by rw [maxLen_val]; omega)
    (fun i hi n self hI => by
      show impl_undone.b0 _ _ _ _ = _
      unfold impl_undone.b0
      have hlt : (i : Int) < (xs.length : Int) := by omega
      have hx := (h2 _ (List.getElem_mem hi)).1
      simp only [hlt, decide_true, cond_true, Int.natCast_nonneg, if_true, Int.toNat_natCast, List.getElem?_eq_getElem hi, Option.bind_some]
      rw [w64_in (n := n + _) (by omega)])
    (fun i hi n n' hI hs => by
      injection hs with hs
      have hx := (h2 _ (List.getElem_mem hi)).1
      omega) (fun s self _ => by
      show impl_undone.b0 _ _ _ _ = _
      unfold impl_undone.b0
      simp only [Int.lt_irrefl, decide_false, cond_false]
      rfl) 0 (by omega) k (by omega)
  rw [forI_fold] at this
  exact this

/-! Each by itself. -/
def oneC (xs : List Tx) (i : Nat) (x : Tx) : Int := if inB x.1 1 99 then (if 0 < i then (match xs[i - 1]? with
    | some y => if x.1 ≤ y.1 then 1 else txF x
    | none => 1) else txF x) else 3
def eachF (xs : List Tx) : Int := forI (fun i (_ : Unit) x => if oneC xs i x = 0 then .inr () else .inl (oneC xs i x)) (fun _ => (0 : Int)) 0 xs ()
def flatK (xs : List Tx) : List Key := xs.flatMap fun x => x.2.2.2.1
def apartB (xs : List Tx) : Bool := decide (flatK xs).Nodup
def txsF (xs : List Tx) : Int := if 4 < xs.length then 2 else if eachF xs = 0 then (if apartB xs then (if 12 < cntF xs then 2 else 0) else 7) else eachF xs

/-- What the faultless are: each is, and they rise. -/
theorem each_good (xs : List Tx) (h : eachF xs = 0) : ∀ i (hi : i < xs.length), oneC xs i xs[i] = 0 := by
  have main : ∀ (ys : List Tx) (j : Nat), (forI (fun i (_ : Unit) x => if oneC xs i x = 0 then .inr () else .inl (oneC xs i x)) (fun _ => (0 : Int)) j ys ()) = 0 → ∀ i (hi : i < ys.length), oneC xs (j + i) ys[i] = 0 := by
    intro ys
    induction ys with
    | nil => intro j _ i hi; simp at hi
    | cons y ys ih =>
      intro j hf i hi
      simp only [forI] at hf
      by_cases h0 : oneC xs j y = 0
      · rw [if_pos h0] at hf
        cases i with
        | zero => simpa using h0
        | succ i =>
          have := ih (j + 1) hf i (by simpa using hi)
          rw [show j + (i + 1) = j + 1 + i by omega]
          simpa using this
      · rw [if_neg h0] at hf
        exact absurd hf h0
  intro i hi
  have := main xs 0 h i hi
  rwa [Nat.zero_add] at this
theorem one_good {xs : List Tx} {i : Nat} {x : Tx} (h : oneC xs i x = 0) : 1 ≤ x.1 ∧ txF x = 0 ∧ ∀ y, 0 < i → xs[i - 1]? = some y → y.1 < x.1 := by
  unfold oneC at h
  split at h
  · rename_i hb
    simp only [inB, Bool.and_eq_true, decide_eq_true_eq] at hb
    split at h
    · rename_i h0
      split at h
      · rename_i y hy
        split at h
        · cases h
        · exact ⟨hb.1, h, fun z _ hz => by rw [hy] at hz; injection hz with hz; subst hz; omega⟩
      · cases h
    · exact ⟨hb.1, h, fun y h0 => by omega⟩
  · cases h
theorem each_rise {xs : List Tx} (h : eachF xs = 0) : xs.Pairwise fun x y => x.1 < y.1 := by
  rw [List.pairwise_iff_getElem]
  intro i j hi hj hij
  have key : ∀ d (hd : i + d + 1 < xs.length), (xs[i]).1 < (xs[i + d + 1]).1 := by
    intro d
    induction d with
    | zero =>
      intro hd
      exact (one_good (each_good xs h (i + 1) hd)).2.2 xs[i] (by omega) (by simp [hi])
    | succ d ih =>
      intro hd
      have h1 := ih (by omega)
      have h2 := (one_good (each_good xs h (i + d + 1 + 1) hd)).2.2 xs[i + d + 1] (by omega) (by rw [Nat.add_sub_cancel]; exact List.getElem?_eq_getElem (by omega))
      exact Int.lt_trans h1 h2
  have := key (j - i - 1) (by omega)
  have e : i + (j - i - 1) + 1 = j := by omega
  simpa only [e] using this
theorem locks_nodup {ks : List Key} (h : locksL ks = 0) : ks.Nodup := by
  have main : ∀ (ys : List Key) (j : Nat), (forI (fun i (_ : Unit) k => if lockC ks i k = 0 then .inr () else .inl (lockC ks i k)) (fun _ => (0 : Int)) j ys ()) = 0 → ∀ i (hi : i < ys.length), lockC ks (j + i) ys[i] = 0 := by
    intro ys
    induction ys with
    | nil => intro j _ i hi; simp at hi
    | cons y ys ih =>
      intro j hf i hi
      simp only [forI] at hf
      by_cases h0 : lockC ks j y = 0
      · rw [if_pos h0] at hf
        cases i with
        | zero => simpa using h0
        | succ i =>
          have := ih (j + 1) hf i (by simpa using hi)
          rw [show j + (i + 1) = j + 1 + i by omega]
          simpa using this
      · rw [if_neg h0] at hf
        exact absurd hf h0
  rw [List.nodup_iff_pairwise_ne, List.pairwise_iff_getElem]
  intro i j hi hj hij e
  have h1 := main ks 0 h j hj
  rw [Nat.zero_add] at h1
  unfold lockC at h1
  split at h1
  · split at h1
    · cases h1
    · rename_i hn
      refine hn (hasK_iff.2 ?_)
      rw [← e]
      exact List.mem_take_iff_getElem.2 ⟨i, by omega, rfl⟩
  · cases h1
theorem tx_nodup {x : Tx} (h : txF x = 0) : (x.2.2.2.1 : List Key).Nodup := by
  unfold txF at h
  split at h
  · unfold marksF at h
    split at h
    · cases h
    · split at h
      · exact locks_nodup h
      · cases h
  · rename_i hn; exact absurd h hn
end OT

set_option linter.unusedVariables false
set_option linter.unusedSimpArgs false
namespace OT
open Go

/-! Locks apart. -/
def apartS (xs : List Tx) : Bool := xs.all fun x => x.2.2.2.1.all fun k => decide (lockF xs k = x.1)

theorem apart_eq {xs : List Tx} (hr : xs.Pairwise fun x y => x.1 < y.1) (hn : ∀ x ∈ xs, (x.2.2.2.1 : List Key).Nodup) : apartS xs = apartB xs := by
  -- by what follows
  have main : ∀ (xs : List Tx), (xs.Pairwise fun x y => x.1 < y.1) → (∀ x ∈ xs, (x.2.2.2.1 : List Key).Nodup) → ((∀ x ∈ xs, ∀ k ∈ (x.2.2.2.1 : List Key), lockF xs k = x.1) ↔ (flatK xs).Nodup) := by
    intro xs
    induction xs with
    | nil => intro _ _; simp [flatK]
    | cons x xs ih =>
      intro hr hn
      obtain ⟨h1, h2⟩ := List.pairwise_cons.1 hr
      have ih := ih h2 (fun y hy => hn y (by simp [hy]))
      have hfl : flatK (x :: xs) = x.2.2.2.1 ++ flatK xs := by simp [flatK]
      rw [hfl, List.nodup_append]
      constructor
      · intro hall
        have hd : ∀ y ∈ xs, ∀ k ∈ (y.2.2.2.1 : List Key), k ∉ (x.2.2.2.1 : List Key) := fun y hy k hk hx => by
          have e1 := hall y (by simp [hy]) k hk
          simp only [lockF, hasK_iff.2 hx, if_true] at e1
          have := h1 y hy
          omega
        refine ⟨hn x (by simp), ih.1 fun y hy k hk => ?_, fun a ha b hb e => ?_⟩
        · have e1 := hall y (by simp [hy]) k hk
          have : hasK x.2.2.2.1 k = false := by
            cases hh : hasK x.2.2.2.1 k with
            | false => rfl
            | true => exact absurd (hasK_iff.1 hh) (hd y hy k hk)
          simp only [lockF, this, Bool.false_eq_true, if_false] at e1
          exact e1
        · subst e
          obtain ⟨y, hy, hk⟩ := List.mem_flatMap.1 hb
          exact hd y hy a hk ha
      · rintro ⟨g1, g2, g3⟩ y hy k hk
        rcases List.mem_cons.1 hy with e | e
        · subst e
          simp only [lockF, hasK_iff.2 hk, if_true]
        · have hkf : k ∈ flatK xs := List.mem_flatMap.2 ⟨y, e, hk⟩
          have : hasK x.2.2.2.1 k = false := by
            cases hh : hasK x.2.2.2.1 k with
            | false => rfl
            | true => exact absurd rfl (g3 k (hasK_iff.1 hh) k hkf)
          simp only [lockF, this, Bool.false_eq_true, if_false]
          exact ih.2 g2 y e k hk
  have hm := main xs hr hn
  unfold apartS apartB
  rw [Bool.eq_iff_iff]
  simp only [List.all_eq_true, decide_eq_true_eq]
  exact hm

theorem specApart_eq (xs : List Tx) (h : tls xs) : spec_l10Apart.sem (xs, ()) = some (apartS xs, ()) := by
  have ht := h
  obtain ⟨h1, h2⟩ := h
  refine lift_eq (k := 1048577) fun k hk => (spec_l10Apart.raw_eq k _).trans ?_
  have inner : ∀ (self : ((List Tx) × Int) → Option spec_l10Apart.Out) (e0 : Unit → Option spec_l10Apart.Out) (i : Nat) (hi : i < xs.length), spec_l10Apart.r1 k self e0 (xs, ()) xs (i : Int) (0 : Int) = if (xs[i]).2.2.2.1.any (fun y => !decide (lockF xs y = (xs[i]).1)) then some (false, ()) else self (xs, w64 ((i : Int) + 1)) := fun self e0 i hi => by
    have htx := h2 _ (List.getElem_mem hi)
    have hlk := htx.2.2.1
    have := for_loopE (B := fun self' v => spec_l10Apart.B1 k self' (fun z => spec_l10Apart.Q0 k self e0 (xs, ()) xs (i : Int) z) (xs, ()) xs (i : Int) v) (xs[i]).2.2.2.1 (fun (_ : Unit) (j : Int) => j) (fun _ _ y => if !decide (lockF xs y = (xs[i]).1) then .inl (some (false, ())) else .inr ()) (fun _ => self (xs, w64 ((i : Int) + 1))) (fun _ _ => True) (by rw [maxLen_val]; omega)
      (fun j hj s self' _ => by
        show spec_l10Apart.b1 _ _ _ _ _ _ = _
        unfold spec_l10Apart.b1
        have hlt : (j : Int) < (List.length (xs[i]).2.2.2.1 : Int) := by omega
        simp only [Int.natCast_nonneg, if_true, Int.toNat_natCast, List.getElem?_eq_getElem hi, Option.bind_some, hlt, decide_true, cond_true, List.getElem?_eq_getElem hj, specLock_eq xs _ ht]
        cases decide (lockF xs ((xs[i]).2.2.2.1)[j] = (xs[i]).1) <;> rfl)
      (fun _ _ _ _ _ _ => trivial) (fun s self' _ => by
        show spec_l10Apart.b1 _ _ _ _ _ _ = _
        unfold spec_l10Apart.b1
        simp only [Int.natCast_nonneg, if_true, Int.toNat_natCast, List.getElem?_eq_getElem hi, Option.bind_some, Int.lt_irrefl, decide_false, cond_false]
        rfl) () trivial k (by omega)
    rw [forI_any] at this
    exact this
  have := for_loop (B := fun self v => spec_l10Apart.B0 k self (fun z => spec_l10Apart.Q1 k (xs, ()) z) (xs, ()) v) xs (fun (_ : Unit) (i : Int) => (xs, i)) (fun _ _ x => if x.2.2.2.1.all (fun y => decide (lockF xs y = x.1)) then .inr () else .inl (false, ())) (fun _ => (true, ())) (fun _ _ => True) (by rw [maxLen_val]; omega)
    (fun i hi s self _ => by
      show spec_l10Apart.b0 _ _ _ _ _ = _
      unfold spec_l10Apart.b0
      have hlt : (i : Int) < (xs.length : Int) := by omega
      simp only [hlt, decide_true, cond_true]
      rw [inner self _ i hi]
      have : (xs[i]).2.2.2.1.any (fun y => !decide (lockF xs y = (xs[i]).1)) = !(xs[i]).2.2.2.1.all (fun y => decide (lockF xs y = (xs[i]).1)) := by rw [List.not_all_eq_any_not]
      rw [this]
      cases (xs[i]).2.2.2.1.all (fun y => decide (lockF xs y = (xs[i]).1)) <;> rfl)
    (fun _ _ _ _ _ _ => trivial) (fun s self _ => by
      show spec_l10Apart.b0 _ _ _ _ _ = _
      unfold spec_l10Apart.b0
      simp only [Int.lt_irrefl, decide_false, cond_false]
      rfl) () trivial k (by omega)
  rw [forI_check (fun (x : Tx) => x.2.2.2.1.all (fun y => decide (lockF xs y = x.1))) (false, ()) (fun _ => (true, ()))] at this
  refine Eq.trans this ?_
  unfold apartS
  cases xs.all fun x => x.2.2.2.1.all (fun y => decide (lockF xs y = x.1)) <;> rfl

/-! The map of what was seen. -/
def seenM (S : List Key) : List (Key × Bool) := S.map fun k => (k, true)
theorem mapGet_cons {α : Type} (k : Ty) (e : k.den × α) (m : List (k.den × α)) (x : k.den) : mapGet k (e :: m) x = if k.eq x e.1 then some e.2 else mapGet k m x := by
  unfold mapGet
  rw [List.find?_cons]
  cases k.eq x e.1 <;> rfl
theorem mapPut_new {α : Type} (k : Ty) (m : List (k.den × α)) (x : k.den) (y : α) (h : ∀ e ∈ m, k.eq x e.1 = false) : mapPut k m x y = m ++ [(x, y)] := by
  have : m.findIdx? (fun e => k.eq x e.1) = none := by
    rw [List.findIdx?_eq_none_iff]
    intro e he
    exact h e he
  unfold mapPut
  rw [this]
theorem mapGet_seen (S : List Key) (k : Key) : mapGet tKey (seenM S) k = if hasK S k then some true else none := by
  induction S with
  | nil => rfl
  | cons s S ih =>
    refine (mapGet_cons tKey (s, true) (seenM S) k).trans ?_
    have hk : tKey.eq k (s, true).1 = decide (k = s) := kq_eq k s
    rw [hk]
    have hc : hasK (s :: S) k = (decide (s = k) || hasK S k) := rfl
    rw [hc]
    by_cases h : k = s
    · have h2 : s = k := h.symm
      simp [h2]
    · have h2 : ¬ s = k := fun e => h e.symm
      simp only [h, h2, decide_false, Bool.false_or, Bool.false_eq_true, if_false]
      exact ih
theorem get_seen (S : List Key) (k : Key) : orZ (mapGet tKey (seenM S) k) false = hasK S k := by
  refine Eq.trans (congrArg (fun o => orZ o false) (mapGet_seen S k)) ?_
  cases hasK S k <;> rfl
theorem put_seen {S : List Key} {k : Key} (h : hasK S k = false) : mapPut tKey (seenM S) k true = seenM (S ++ [k]) := by
  refine (mapPut_new tKey (seenM S) k true fun e he => ?_).trans ?_
  · obtain ⟨s, hs, rfl⟩ := List.mem_map.1 he
    have hk : tKey.eq k (s, true).1 = decide (k = s) := kq_eq k s
    rw [hk]
    simp only [hasK, List.any_eq_false, decide_eq_true_eq] at h
    have := h s hs
    simp only [decide_eq_false_iff_not]
    exact fun e => this e.symm
  · simp only [seenM, List.map_append, List.map_cons, List.map_nil]
    rfl
def getM (m : List (Key × Bool)) (k : Key) : Bool := orZ (mapGet tKey m k) false
def putM (m : List (Key × Bool)) (k : Key) : List (Key × Bool) := mapPut tKey m k true
def walkM : List (Key × Bool) → List Key → Option (List (Key × Bool))
  | m, [] => some m
  | m, k :: ks => if getM m k then none else walkM (putM m k) ks
theorem walk_append : ∀ (m : List (Key × Bool)) (a b : List Key), walkM m (a ++ b) = (walkM m a).bind fun m' => walkM m' b
  | m, [], b => rfl
  | m, k :: a, b => by
    simp only [List.cons_append, walkM]
    split
    · rfl
    · exact walk_append _ a b
theorem walk_seen : ∀ (ks S : List Key), S.Nodup → walkM (seenM S) ks = if (S ++ ks).Nodup then some (seenM (S ++ ks)) else none
  | [], S, h => by simp [walkM, h]
  | k :: ks, S, h => by
    have hg : getM (seenM S) k = hasK S k := get_seen S k
    simp only [walkM, hg]
    cases hh : hasK S k with
    | true =>
      have : ¬ (S ++ k :: ks).Nodup := fun hn => by
        rw [List.nodup_append] at hn
        exact hn.2.2 k (hasK_iff.1 hh) k (by simp) rfl
      simp [this]
    | false =>
      have hk : k ∉ S := fun hm => by rw [hasK_iff.2 hm] at hh; cases hh
      simp only [Bool.false_eq_true, if_false]
      have hp : putM (seenM S) k = seenM (S ++ [k]) := put_seen hh
      rw [hp, walk_seen ks (S ++ [k]) (by rw [List.nodup_append]; exact ⟨h, by simp, fun a ha b hb e => by simp at hb; subst hb; subst e; exact hk ha⟩)]
      simp only [List.append_assoc, List.cons_append, List.nil_append]
theorem forI_walk {O : Type} (bad : Option O) (E : List (Key × Bool) → Option O) : ∀ (ks : List Key) (i : Nat) (m : List (Key × Bool)), forI (fun _ m k => if getM m k then .inl bad else .inr (putM m k)) E i ks m = match walkM m ks with | none => bad | some m' => E m'
  | [], _, _ => rfl
  | k :: ks, i, m => by
    simp only [forI, walkM]
    by_cases h : getM m k = true
    · simp [h]
    · simp only [h, if_false]
      exact forI_walk bad E ks _ _
theorem forI_walks {O : Type} (bad : Option O) (E : Option O) : ∀ (xs : List Tx) (i : Nat) (m : List (Key × Bool)), forI (fun _ m x => match walkM m x.2.2.2.1 with | none => .inl bad | some m' => .inr m') (fun _ => E) i xs m = match walkM m (flatK xs) with | none => bad | some _ => E
  | [], _, _ => rfl
  | x :: xs, i, m => by
    have hfl : flatK (x :: xs) = x.2.2.2.1 ++ flatK xs := by simp [flatK]
    rw [hfl, walk_append]
    simp only [forI]
    cases h : walkM m x.2.2.2.1 with
    | none => rfl
    | some m' =>
      simp only [Option.bind_some]
      exact forI_walks bad E xs _ _

theorem implTxs_eq (xs : List Tx) (h : tls xs) : impl_TxsFault.sem (xs, ()) = some (txsF xs, ()) := by
  have ht := h
  obtain ⟨h1, h2⟩ := h
  refine lift_eq (k := 1048577) fun k hk => (impl_TxsFault.raw_eq k _).trans ?_
  unfold impl_TxsFault.raw impl_TxsFault.p txsF
  by_cases h4 : 4 < xs.length
  · have : (4 : Int) < (xs.length : Int) := by omega
    simp only [this, h4, decide_true, cond_true, if_true]
    (try rfl)
  have h4' : ¬ (4 : Int) < (xs.length : Int) := by omega
  simp only [h4, h4', decide_false, cond_false, if_false]
  have last : impl_TxsFault.Q2 k (xs, ()) xs = some (if 12 < cntF xs then 2 else 0, ()) := by
    show impl_TxsFault.q2 _ _ = _
    unfold impl_TxsFault.q2
    simp only [implCount_eq xs ht, Option.bind_some]
    by_cases hc : 12 < cntF xs <;> simp [hc]
  have inner : ∀ (self : ((List Tx) × (List (Key × Bool)) × (List Tx) × Int × Int) → Option impl_TxsFault.Out) (e2 : List Tx → Option impl_TxsFault.Out) (i : Nat) (hi : i < xs.length) (m : List (Key × Bool)), impl_TxsFault.r2 k self e2 (xs, ()) xs xs (xs.length : Int) (i : Int) (xs[i]).2.2.2.1 (List.length (xs[i]).2.2.2.1 : Int) (m, (0 : Int)) = match walkM m (xs[i]).2.2.2.1 with | none => some ((7 : Int), ()) | some m' => self (xs, m', xs, (xs.length : Int), w64 ((i : Int) + 1)) := fun self e2 i hi m => by
    have hlk := (h2 _ (List.getElem_mem hi)).2.2.1
    have := for_loopE (B := fun self' v => impl_TxsFault.B2 k self' (fun z => impl_TxsFault.Q1 k self e2 (xs, ()) xs xs (xs.length : Int) (i : Int) (xs[i]).2.2.2.1 (List.length (xs[i]).2.2.2.1 : Int) z) (xs, ()) xs xs (xs.length : Int) (i : Int) (xs[i]).2.2.2.1 (List.length (xs[i]).2.2.2.1 : Int) v) (xs[i]).2.2.2.1 (fun (m : List (Key × Bool)) (j : Int) => (m, j)) (fun _ m y => if getM m y then .inl (some ((7 : Int), ())) else .inr (putM m y)) (fun m => self (xs, m, xs, (xs.length : Int), w64 ((i : Int) + 1))) (fun _ _ => True) (by rw [maxLen_val]; omega)
      (fun j hj s self' _ => by
        show impl_TxsFault.b2 _ _ _ _ _ _ _ _ _ _ = _
        unfold impl_TxsFault.b2
        have hlt : (j : Int) < (List.length (xs[i]).2.2.2.1 : Int) := by omega
        simp only [hlt, decide_true, cond_true, Int.natCast_nonneg, if_true, Int.toNat_natCast, List.getElem?_eq_getElem hj, Option.bind_some]
        show (bif getM s ((xs[i]).2.2.2.1)[j] then some ((7 : Int), ()) else self' (putM s ((xs[i]).2.2.2.1)[j], w64 ((j : Int) + 1))) = _
        cases getM s ((xs[i]).2.2.2.1)[j] <;> rfl)
      (fun _ _ _ _ _ _ => trivial) (fun s self' _ => by
        show impl_TxsFault.b2 _ _ _ _ _ _ _ _ _ _ = _
        unfold impl_TxsFault.b2
        simp only [Int.lt_irrefl, decide_false, cond_false]
        rfl) m trivial k (by omega)
    rw [forI_walk] at this
    exact this
  have apart : impl_TxsFault.Q0 k (xs, ()) () = some (if apartB xs then (if 12 < cntF xs then 2 else 0) else 7, ()) := by
    have := for_loopE (B := fun self v => impl_TxsFault.B1 k self (fun z => impl_TxsFault.Q2 k (xs, ()) z) (xs, ()) v) xs (fun (m : List (Key × Bool)) (i : Int) => (xs, m, xs, (xs.length : Int), i)) (fun _ m x => match walkM m x.2.2.2.1 with | none => .inl (some ((7 : Int), ())) | some m' => .inr m') (fun _ => some (if 12 < cntF xs then 2 else 0, ())) (fun _ _ => True) (by rw [maxLen_val]; omega)
      (fun i hi m self _ => by
        show impl_TxsFault.b1 _ _ _ _ _ = _
        unfold impl_TxsFault.b1
        have hlt : (i : Int) < (xs.length : Int) := by omega
        simp only [hlt, decide_true, cond_true, Int.natCast_nonneg, if_true, Int.toNat_natCast, List.getElem?_eq_getElem hi, Option.bind_some]
        rw [inner self _ i hi m]
        cases walkM m (xs[i]).2.2.2.1 <;> rfl)
      (fun _ _ _ _ _ _ => trivial) (fun s self _ => by
        show impl_TxsFault.b1 _ _ _ _ _ = _
        unfold impl_TxsFault.b1
        simp only [Int.lt_irrefl, decide_false, cond_false]
        exact last) (seenM []) trivial k (by omega)
    rw [forI_walks, walk_seen _ _ List.nodup_nil] at this
    refine Eq.trans this ?_
    unfold apartB
    simp only [List.nil_append]
    by_cases hn : (flatK xs).Nodup <;> simp [hn]
  have := for_loopE (B := fun self v => impl_TxsFault.B0 k self (fun z => impl_TxsFault.Q0 k (xs, ()) z) (xs, ()) v) xs (fun (_ : Unit) (i : Int) => i) (fun i _ x => if oneC xs i x = 0 then .inr () else .inl (some (oneC xs i x, ()))) (fun _ => some (if apartB xs then (if 12 < cntF xs then 2 else 0) else 7, ())) (fun _ _ => True) (by rw [maxLen_val]; omega)
    (fun i hi s self _ => by
      show impl_TxsFault.b0 _ _ _ _ = _
      unfold impl_TxsFault.b0 oneC
      have hlt : (i : Int) < (xs.length : Int) := by omega
      simp only [hlt, decide_true, cond_true, Int.natCast_nonneg, if_true, Int.toNat_natCast, List.getElem?_eq_getElem hi, Option.bind_some, isTx_eq, txFault_eq _ (h2 _ (List.getElem_mem hi))]
      show (bif !inB (xs[i]).1 1 99 then _ else _) = _
      cases inB (xs[i]).1 1 99 with
      | false => rfl
      | true =>
        simp only [Bool.not_true, cond_false, if_true]
        by_cases h0 : i = 0
        · subst h0
          have hz : ¬ (0 : Int) < ((0 : Nat) : Int) := by omega
          simp only [hz, decide_false, cond_false, Nat.lt_irrefl, if_false]
          by_cases hc : txF xs[0] = 0
          · simp only [hc, decide_true, Bool.not_true, cond_false, if_true]
          · simp only [hc, decide_false, Bool.not_false, cond_true, if_false]
        · have hi1 : i - 1 < xs.length := by omega
          have hp : (0 : Int) < (i : Int) := by omega
          have hp2 : 0 < i := by omega
          simp only [hp, hp2, decide_true, cond_true, wprev (show 0 < i by omega) (by rw [maxLen_val]; omega), Int.natCast_nonneg, if_true, Int.toNat_natCast, List.getElem?_eq_getElem hi1, Option.bind_some]
          by_cases hle : (xs[i]).1 ≤ (xs[i - 1]).1
          · simp only [hle, decide_true, cond_true, if_true]
            rfl
          · simp only [hle, decide_false, cond_false, if_false]
            by_cases hc : txF xs[i] = 0
            · simp only [hc, decide_true, Bool.not_true, cond_false, if_true]
            · simp only [hc, decide_false, Bool.not_false, cond_true, if_false])
    (fun _ _ _ _ _ _ => trivial) (fun s self _ => by
      show impl_TxsFault.b0 _ _ _ _ = _
      unfold impl_TxsFault.b0
      simp only [Int.lt_irrefl, decide_false, cond_false]
      exact apart) () trivial k (by omega)
  rw [forI_codeE (oneC xs)] at this
  refine Eq.trans this ?_
  unfold eachF
  split <;> rfl

theorem specTxs_eq (xs : List Tx) (h : tls xs) : spec_l10Fault.sem (xs, ()) = some (txsF xs, ()) := by
  have ht := h
  obtain ⟨h1, h2⟩ := h
  refine lift_eq (k := 1048577) fun k hk => (spec_l10Fault.raw_eq k _).trans ?_
  unfold spec_l10Fault.raw spec_l10Fault.p txsF
  by_cases h4 : 4 < xs.length
  · have : (4 : Int) < (xs.length : Int) := by omega
    simp only [this, h4, decide_true, cond_true, if_true]
    (try rfl)
  have h4' : ¬ (4 : Int) < (xs.length : Int) := by omega
  simp only [h4, h4', decide_false, cond_false, if_false]
  have last : spec_l10Fault.Q0 k (xs, ()) () = some (if apartS xs then (if 12 < cntF xs then 2 else 0) else 7, ()) := by
    show spec_l10Fault.q0 _ _ = _
    unfold spec_l10Fault.q0
    simp only [specApart_eq xs ht, specCount_eq xs ht, Option.bind_some]
    cases apartS xs with
    | false => rfl
    | true => by_cases hc : 12 < cntF xs <;> simp [hc]
  have := for_loopE (B := fun self v => spec_l10Fault.B0 k self (fun z => spec_l10Fault.Q0 k (xs, ()) z) (xs, ()) v) xs (fun (_ : Unit) (i : Int) => i) (fun i _ x => if oneC xs i x = 0 then .inr () else .inl (some (oneC xs i x, ()))) (fun _ => some (if apartS xs then (if 12 < cntF xs then 2 else 0) else 7, ())) (fun _ _ => True) (by rw [maxLen_val]; omega)
    (fun i hi s self _ => by
      show spec_l10Fault.b0 _ _ _ _ = _
      unfold spec_l10Fault.b0 oneC
      have hlt : (i : Int) < (xs.length : Int) := by omega
      simp only [hlt, decide_true, cond_true, Int.natCast_nonneg, if_true, Int.toNat_natCast, List.getElem?_eq_getElem hi, Option.bind_some, specIn_eq, specUndo_eq _ (h2 _ (List.getElem_mem hi)), specMarks_eq _ (h2 _ (List.getElem_mem hi))]
      have hj : (bif !decide (undoF xs[i] = 0) then some (undoF xs[i], ()) else bif !decide (marksF xs[i] = 0) then some (marksF xs[i], ()) else self (w64 ((i : Int) + 1))) = match (generalizing := false) (if txF xs[i] = 0 then .inr () else .inl (some (txF xs[i], ())) : Sum (Option (Int × Unit)) Unit) with | .inl o => o | .inr _ => self (w64 ((i : Int) + 1)) := by
        unfold txF
        by_cases hu : undoF xs[i] = 0
        · simp only [hu, decide_true, Bool.not_true, cond_false, if_true]
          by_cases hm : marksF xs[i] = 0
          · simp only [hm, decide_true, Bool.not_true, cond_false, if_true]
          · simp only [hm, decide_false, Bool.not_false, cond_true, if_false]
        · simp only [hu, decide_false, Bool.not_false, cond_true, if_false]
      show (bif !inB (xs[i]).1 1 99 then _ else _) = _
      cases inB (xs[i]).1 1 99 with
      | false => rfl
      | true =>
        simp only [Bool.not_true, cond_false, if_true]
        by_cases h0 : i = 0
        · subst h0
          have hz : ¬ (0 : Int) < ((0 : Nat) : Int) := by omega
          simp only [hz, decide_false, cond_false, Nat.lt_irrefl, if_false]
          refine hj.trans ?_
          by_cases hc : txF xs[0] = 0 <;> simp only [hc, if_true, if_false]
        · have hi1 : i - 1 < xs.length := by omega
          have hp : (0 : Int) < (i : Int) := by omega
          have hp2 : 0 < i := by omega
          simp only [hp, hp2, decide_true, cond_true, wprev (show 0 < i by omega) (by rw [maxLen_val]; omega), Int.natCast_nonneg, if_true, Int.toNat_natCast, List.getElem?_eq_getElem hi1, Option.bind_some]
          by_cases hle : (xs[i]).1 ≤ (xs[i - 1]).1
          · simp only [hle, decide_true, cond_true, if_true]
            rfl
          · simp only [hle, decide_false, cond_false, if_false]
            refine hj.trans ?_
            by_cases hc : txF xs[i] = 0 <;> simp only [hc, if_true, if_false])
    (fun _ _ _ _ _ _ => trivial) (fun s self _ => by
      show spec_l10Fault.b0 _ _ _ _ = _
      unfold spec_l10Fault.b0
      simp only [Int.lt_irrefl, decide_false, cond_false]
      exact last) () trivial k (by omega)
  rw [forI_codeE (oneC xs)] at this
  refine Eq.trans this ?_
  show (if eachF xs = 0 then _ else some (eachF xs, ())) = _
  by_cases he : eachF xs = 0
  · rw [if_pos he, if_pos he, apart_eq (each_rise he) (fun x hx => by
      obtain ⟨i, hi, rfl⟩ := List.mem_iff_getElem.1 hx
      exact tx_nodup (one_good (each_good xs he i hi)).2.1)]
  · rw [if_neg he, if_neg he]
end OT
