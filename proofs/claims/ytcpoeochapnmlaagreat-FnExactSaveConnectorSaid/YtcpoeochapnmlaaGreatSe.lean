/- The proof's parts, merged: Printed by gen.py, a program of this claim  what each Go function computes.. No conditions but those that each states. -/
import Derived.Test.YtcpoeochapnmlaaGreatSd
set_option maxRecDepth 100000
set_option linter.unusedVariables false
namespace OT
open Go Go.Proofs.Tryz
namespace impl_view
/-! loop example g00408 impl view -/
abbrev Arg : Type := (List (List UInt8)) × Unit
abbrev Out : Type := (List Seen) × Int × Unit
noncomputable def ps : PQ := [(.ro, (.slc (.slc u8)))]
noncomputable def rs : RQ := [((.slc tSeen), (ownMd (.slc tSeen))), (i64, (roMd i64))]
noncomputable def tl : TL := [(22, (.slc (.slc u8))), (46, (.slc u8)), (102, tCellResult), (109, (.slc tSeen))]
noncomputable def gl : GL := [(129, impl_PageFault.sig), (130, impl_slots.sig), (131, impl_hasSlot.sig), (132, impl_UnpackCell.sig), (133, impl_cellAt.sig), (134, impl_look.sig)]
noncomputable def E : Env := { TI := lookN tl, G := lookN gl, lv := [(4, [0, 11, 12, 13]), (10, [0, 5, 11, 12, 13, 23, 24])], lx := [(0, [0]), (2, [0, 11, 12, 13])] }
noncomputable def W (k : Nat) (a : Arg) : Option Out := bodyK E k f59 ps rs [] [] a
noncomputable def sem (a : Arg) : Option Out := lift fun k => W k a
noncomputable def sig : Sig := { ps := ps, rs := rs, F := sem }
noncomputable def C : Code := bodyOf f59
noncomputable def fin : St → Option Out := outK ps rs [] (Func.results f59).toList (mvs [])
noncomputable def K0 : Ex → St → Option Out := endK fin
noncomputable def T0 (a1 : Arg) (v402 : (List (List UInt8)) × (List (List UInt8)) × Int × Int) : St := { n := 44, sl := [(0, .val (.slc (.slc u8)) v402.1), (11, .val (.slc (.slc u8)) v402.2.1), (12, .val i64 v402.2.2.1), (13, .val i64 v402.2.2.2)], vr := [], lent := [] }
noncomputable def N0 (k : Nat) : St → (Ex → St → Option Out) → Option Out := codeK E k fin (sub [1, 1, 0, 1, 0, 0] C)
noncomputable def M0 : St → St := keepF [0, 11, 12, 13] []
noncomputable def S0 (rec : RT Out) (a1 : Arg) : ((List (List UInt8)) × (List (List UInt8)) × Int × Int) → Option Out := fun v402 => rec (T0 a1 v402)
noncomputable def X0_0 (K : KT Out) (a1 : Arg) : (List (List UInt8)) → Option Out := fun z => K (.exit 0) ({ n := 44, sl := [(0, .val (.slc (.slc u8)) z)], vr := [], lent := [] })
noncomputable def T1 (a1 : Arg) (c1007 : List (List UInt8)) (c1008 : List UInt8) (c1009 : List (List UInt8)) (c1010 : Int) (c1011 : Int) (c1012 : Int) (v1006 : Int) : St := { n := 44, sl := [(0, .val (.slc (.slc u8)) c1007), (5, .val (.slc u8) c1008), (11, .val (.slc (.slc u8)) c1009), (12, .val i64 c1010), (13, .val i64 c1011), (23, .val i64 c1012), (24, .val i64 v1006)], vr := [], lent := [] }
noncomputable def N1 (k : Nat) : St → (Ex → St → Option Out) → Option Out := codeK E k fin (sub [1, 1, 0, 1, 0, 0, 1, 1, 0, 0, 1, 1, 1, 0, 0] C)
noncomputable def M1 : St → St := keepF [0, 5, 11, 12, 13, 23, 24] []
noncomputable def S1 (rec : RT Out) (a1 : Arg) (c1007 : List (List UInt8)) (c1008 : List UInt8) (c1009 : List (List UInt8)) (c1010 : Int) (c1011 : Int) (c1012 : Int) : (Int) → Option Out := fun v1006 => rec (T1 a1 c1007 c1008 c1009 c1010 c1011 c1012 v1006)
noncomputable def X1_2 (K : KT Out) (a1 : Arg) (c1007 : List (List UInt8)) (c1008 : List UInt8) (c1009 : List (List UInt8)) (c1010 : Int) (c1011 : Int) (c1012 : Int) : (Unit) → Option Out := fun z => K (.exit 2) ({ n := 44, sl := [(0, .val (.slc (.slc u8)) c1007), (11, .val (.slc (.slc u8)) c1009), (12, .val i64 c1010), (13, .val i64 c1011)], vr := [], lent := [] })
noncomputable def b1 (self : Int → Option Out) (e2 : (Unit) → Option Out) (a1 : Arg) (c1007 : List (List UInt8)) (c1008 : List UInt8) (c1009 : List (List UInt8)) (c1010 : Int) (c1011 : Int) (c1012 : Int) (v1006 : Int) : Option Out := bif decide (v1006 < c1012) then ((impl_hasSlot.sem (c1008, v1006, ())).bind fun r1213 => bif r1213.1 then ((impl_cellAt.sem (c1008, v1006, ())).bind fun r1214 => (impl_UnpackCell.sem (r1214.1, ())).bind fun r1215 => bif !decide (r1215.1.1 = (0 : Int)) then (some (([] : List Seen), (5 : Int), ())) else self (w64 (v1006 + (1 : Int)))) else self (w64 (v1006 + (1 : Int)))) else e2 ()
noncomputable def B1 (k : Nat) (self : Int → Option Out) (e2 : (Unit) → Option Out) (a1 : Arg) (c1007 : List (List UInt8)) (c1008 : List UInt8) (c1009 : List (List UInt8)) (c1010 : Int) (c1011 : Int) (c1012 : Int) (v1006 : Int) : Option Out := b1 self e2 a1 c1007 c1008 c1009 c1010 c1011 c1012 v1006
theorem B1_eq (k : Nat) (rec : RT Out) (K : KT Out) (a1 : Arg) (c1007 : List (List UInt8)) (c1008 : List UInt8) (c1009 : List (List UInt8)) (c1010 : Int) (c1011 : Int) (c1012 : Int) (v1006 : Int) : N1 k (T1 a1 c1007 c1008 c1009 c1010 c1011 c1012 v1006) (loopC rec M1 K) = B1 k (S1 rec a1 c1007 c1008 c1009 c1010 c1011 c1012) (X1_2 K a1 c1007 c1008 c1009 c1010 c1011 c1012) a1 c1007 c1008 c1009 c1010 c1011 c1012 v1006 := by kernel_rfl
noncomputable def l1 (k : Nat) (a1 : Arg) (c1007 : List (List UInt8)) (c1008 : List UInt8) (c1009 : List (List UInt8)) (c1010 : Int) (c1011 : Int) (c1012 : Int) (e2 : (Unit) → Option Out) (v : Int) : Option Out := rawIter (fun self v => B1 k self e2 a1 c1007 c1008 c1009 c1010 c1011 c1012 v) k v
theorem l1_eq (k : Nat) (K : KT Out) (a1 : Arg) (c1007 : List (List UInt8)) (c1008 : List UInt8) (c1009 : List (List UInt8)) (c1010 : Int) (c1011 : Int) (c1012 : Int) (v1006 : Int) : iterK (N1 k) M1 K k (T1 a1 c1007 c1008 c1009 c1010 c1011 c1012 v1006) = l1 k a1 c1007 c1008 c1009 c1010 c1011 c1012 (X1_2 K a1 c1007 c1008 c1009 c1010 c1011 c1012) v1006 :=
  iter_raw _ _ K (fun v1006 => (T1 a1 c1007 c1008 c1009 c1010 c1011 c1012 v1006)) (fun self v => B1 k self (X1_2 K a1 c1007 c1008 c1009 c1010 c1011 c1012) a1 c1007 c1008 c1009 c1010 c1011 c1012 v) (fun rec v => B1_eq k rec K a1 c1007 c1008 c1009 c1010 c1011 c1012 v) k v1006
noncomputable def q0 (self : ((List (List UInt8)) × (List (List UInt8)) × Int × Int) → Option Out) (e0 : (List (List UInt8)) → Option Out) (a1 : Arg) (c1007 : List (List UInt8)) (c1008 : List UInt8) (c1009 : List (List UInt8)) (c1010 : Int) (c1011 : Int) (c1012 : Int) (z1216 : (Unit)) : Option Out := self (c1007, c1009, c1010, w64 (c1011 + (1 : Int)))
noncomputable def Q0 (k : Nat) (self : ((List (List UInt8)) × (List (List UInt8)) × Int × Int) → Option Out) (e0 : (List (List UInt8)) → Option Out) (a1 : Arg) (c1007 : List (List UInt8)) (c1008 : List UInt8) (c1009 : List (List UInt8)) (c1010 : Int) (c1011 : Int) (c1012 : Int) (z1216 : (Unit)) : Option Out := q0 self e0 a1 c1007 c1008 c1009 c1010 c1011 c1012 z1216
theorem Q0_eq (k : Nat) (rec : RT Out) (K : KT Out) (a1 : Arg) (c1007 : List (List UInt8)) (c1008 : List UInt8) (c1009 : List (List UInt8)) (c1010 : Int) (c1011 : Int) (c1012 : Int) (z1216 : (Unit)) : X1_2 (blockC 2 (blockC 1 (seqC (codeK E k fin (sub [1, 1, 0, 1, 0, 0, 1, 1, 1] C)) (loopC rec (keepF [0, 11, 12, 13] []) K)))) a1 c1007 c1008 c1009 c1010 c1011 c1012 z1216 = Q0 k (S0 rec a1) (X0_0 K a1) a1 c1007 c1008 c1009 c1010 c1011 c1012 z1216 := by kernel_rfl
noncomputable def s1 (k : Nat) (rec : RT Out) (K : KT Out) (a1 : Arg) : (List (List UInt8)) → (List UInt8) → (List (List UInt8)) → Int → Int → Int → (Int) → Option Out := fun c1007 c1008 c1009 c1010 c1011 c1012 v1006 => iterK (N1 k) M1 (blockC 2 (blockC 1 (seqC (codeK E k fin (sub [1, 1, 0, 1, 0, 0, 1, 1, 1] C)) (loopC rec (keepF [0, 11, 12, 13] []) K)))) k (T1 a1 c1007 c1008 c1009 c1010 c1011 c1012 v1006)
noncomputable def r1 (k : Nat) (self : ((List (List UInt8)) × (List (List UInt8)) × Int × Int) → Option Out) (e0 : (List (List UInt8)) → Option Out) (a1 : Arg) : (List (List UInt8)) → (List UInt8) → (List (List UInt8)) → Int → Int → Int → (Int) → Option Out := fun c1007 c1008 c1009 c1010 c1011 c1012 v1006 => l1 k a1 c1007 c1008 c1009 c1010 c1011 c1012 (fun z => Q0 k self e0 a1 c1007 c1008 c1009 c1010 c1011 c1012 z) v1006
theorem s1_eq (k : Nat) (rec : RT Out) (K : KT Out) (a1 : Arg) : s1 k rec K a1 = r1 k (S0 rec a1) (X0_0 K a1) a1 := by
  funext c1007; funext c1008; funext c1009; funext c1010; funext c1011; funext c1012; funext v1006;
  have h2 : X1_2 ((blockC 2 (blockC 1 (seqC (codeK E k fin (sub [1, 1, 0, 1, 0, 0, 1, 1, 1] C)) (loopC rec (keepF [0, 11, 12, 13] []) K))))) a1 c1007 c1008 c1009 c1010 c1011 c1012 = fun z => Q0 k (S0 rec a1) (X0_0 K a1) a1 c1007 c1008 c1009 c1010 c1011 c1012 z := funext fun z => Q0_eq k rec K a1 c1007 c1008 c1009 c1010 c1011 c1012 z
  refine (l1_eq k ((blockC 2 (blockC 1 (seqC (codeK E k fin (sub [1, 1, 0, 1, 0, 0, 1, 1, 1] C)) (loopC rec (keepF [0, 11, 12, 13] []) K))))) a1 c1007 c1008 c1009 c1010 c1011 c1012 v1006).trans ?_
  rw [h2]
  rfl
noncomputable def b0 (self : ((List (List UInt8)) × (List (List UInt8)) × Int × Int) → Option Out) (e0 : (List (List UInt8)) → Option Out) (l1 : (List (List UInt8)) → (List UInt8) → (List (List UInt8)) → Int → Int → Int → (Int) → Option Out) (a1 : Arg) (v402 : (List (List UInt8)) × (List (List UInt8)) × Int × Int) : Option Out := bif decide (v402.2.2.2 < v402.2.2.1) then (if 0 ≤ v402.2.2.2 then ((v402.2.1[v402.2.2.2.toNat]?).bind fun x603 => (impl_PageFault.sem (x603, ())).bind fun r604 => bif !decide (r604.1 = (0 : Int)) then (some (([] : List Seen), r604.1, ())) else (impl_slots.sem (x603, ())).bind fun r605 => l1 v402.1 x603 v402.2.1 v402.2.2.1 v402.2.2.2 r605.1 (0 : Int)) else none) else e0 v402.1
noncomputable def B0 (k : Nat) (self : ((List (List UInt8)) × (List (List UInt8)) × Int × Int) → Option Out) (e0 : (List (List UInt8)) → Option Out) (a1 : Arg) (v402 : (List (List UInt8)) × (List (List UInt8)) × Int × Int) : Option Out := b0 self e0 (r1 k self e0 a1) a1 v402
theorem b0_eq (k : Nat) (rec : RT Out) (K : KT Out) (a1 : Arg) (v402 : (List (List UInt8)) × (List (List UInt8)) × Int × Int) : N0 k (T0 a1 v402) (loopC rec M0 K) = b0 (S0 rec a1) (X0_0 K a1) (s1 k rec K a1) a1 v402 := by kernel_rfl
theorem B0_eq (k : Nat) (rec : RT Out) (K : KT Out) (a1 : Arg) (v402 : (List (List UInt8)) × (List (List UInt8)) × Int × Int) : N0 k (T0 a1 v402) (loopC rec M0 K) = B0 k (S0 rec a1) (X0_0 K a1) a1 v402 := (b0_eq k rec K a1 v402).trans (by rw [s1_eq]; rfl)
noncomputable def l0 (k : Nat) (a1 : Arg) (e0 : (List (List UInt8)) → Option Out) (v : (List (List UInt8)) × (List (List UInt8)) × Int × Int) : Option Out := rawIter (fun self v => B0 k self e0 a1 v) k v
theorem l0_eq (k : Nat) (K : KT Out) (a1 : Arg) (v402 : (List (List UInt8)) × (List (List UInt8)) × Int × Int) : iterK (N0 k) M0 K k (T0 a1 v402) = l0 k a1 (X0_0 K a1) v402 :=
  iter_raw _ _ K (fun v402 => (T0 a1 v402)) (fun self v => B0 k self (X0_0 K a1) a1 v) (fun rec v => B0_eq k rec K a1 v) k v402
noncomputable def q1 (a1 : Arg) (z1217 : (List (List UInt8))) : Option Out := (impl_look.sem (z1217, ())).bind fun r1218 => some (r1218.1, r1218.2.1, ())
noncomputable def Q1 (k : Nat) (a1 : Arg) (z1217 : (List (List UInt8))) : Option Out := q1 a1 z1217
theorem Q1_eq (k : Nat) (a1 : Arg) (z1217 : (List (List UInt8))) : X0_0 (blockC 0 (seqC (codeK E k fin (sub [1, 1, 1] C)) K0)) a1 z1217 = Q1 k a1 z1217 := by kernel_rfl
noncomputable def s0 (k : Nat) (a1 : Arg) : ((List (List UInt8)) × (List (List UInt8)) × Int × Int) → Option Out := fun v402 => iterK (N0 k) M0 (blockC 0 (seqC (codeK E k fin (sub [1, 1, 1] C)) K0)) k (T0 a1 v402)
noncomputable def r0 (k : Nat) (a1 : Arg) : ((List (List UInt8)) × (List (List UInt8)) × Int × Int) → Option Out := fun v402 => l0 k a1 (fun z => Q1 k a1 z) v402
theorem s0_eq (k : Nat) (a1 : Arg) : s0 k a1 = r0 k a1 := by
  funext v402;
  have h0 : X0_0 ((blockC 0 (seqC (codeK E k fin (sub [1, 1, 1] C)) K0))) a1 = fun z => Q1 k a1 z := funext fun z => Q1_eq k a1 z
  refine (l0_eq k ((blockC 0 (seqC (codeK E k fin (sub [1, 1, 1] C)) K0))) a1 v402).trans ?_
  rw [h0]
  rfl
noncomputable def p (l0 : ((List (List UInt8)) × (List (List UInt8)) × Int × Int) → Option Out) (a1 : Arg) : Option Out := bif decide ((12 : Int) < (a1.1.length : Int)) then (some (([] : List Seen), (2 : Int), ())) else l0 (a1.1, a1.1, (a1.1.length : Int), (0 : Int))
noncomputable def raw (k : Nat) (a1 : Arg) : Option Out := p (r0 k a1) a1
theorem p_eq (k : Nat) (a1 : Arg) : W k a1 = p (s0 k a1) a1 := by kernel_rfl
theorem raw_eq (k : Nat) (a1 : Arg) : W k a1 = raw k a1 := (p_eq k a1).trans (by rw [s0_eq]; rfl)
theorem ok : Ok prog 59 sig := fn_ok func59 (tl := tl) (gl := gl) (es := []) (fr := []) rfl rfl (by kernel_rfl) (fc impl_PageFault.ok (fc impl_slots.ok (fc impl_hasSlot.ok (fc impl_UnpackCell.ok (fc impl_cellAt.ok (fc impl_look.ok (fn_nil _))))))) (fun _ => rfl)
end impl_view
namespace impl_copied
/-! loop example g00408 impl copied -/
abbrev Arg : Type := (List UInt8) × Unit
abbrev Out : Type := (List UInt8) × Unit
noncomputable def ps : PQ := [(.ro, (.slc u8))]
noncomputable def rs : RQ := [((.slc u8), (ownMd (.slc u8)))]
noncomputable def tl : TL := [(46, (.slc u8))]
noncomputable def gl : GL := []
noncomputable def E : Env := { TI := lookN tl, G := lookN gl }
noncomputable def W (k : Nat) (a : Arg) : Option Out := bodyK E k f189 ps rs [] [] a
noncomputable def sem (a : Arg) : Option Out := lift fun k => W k a
noncomputable def sig : Sig := { ps := ps, rs := rs, F := sem }
noncomputable def p (a1 : Arg) : Option Out := if ([] : List UInt8).length + a1.1.length ≤ CAP then (some (([] : List UInt8) ++ a1.1, ())) else none
noncomputable def raw (k : Nat) (a1 : Arg) : Option Out := p a1
theorem raw_eq (k : Nat) (a1 : Arg) : W k a1 = raw k a1 := by kernel_rfl
theorem ok : Ok prog 189 sig := fn_ok func189 (tl := tl) (gl := gl) (es := []) (fr := []) rfl rfl (by kernel_rfl) (fn_nil _) (fun _ => rfl)
end impl_copied
namespace impl_copies
/-! loop example g00408 impl copies -/
abbrev Arg : Type := (List (List UInt8)) × Unit
abbrev Out : Type := (List (List UInt8)) × Unit
noncomputable def ps : PQ := [(.ro, (.slc (.slc u8)))]
noncomputable def rs : RQ := [((.slc (.slc u8)), (ownMd (.slc (.slc u8))))]
noncomputable def tl : TL := [(22, (.slc (.slc u8))), (46, (.slc u8))]
noncomputable def gl : GL := [(189, impl_copied.sig)]
noncomputable def E : Env := { TI := lookN tl, G := lookN gl, lv := [(3, [3, 6, 7, 8])], lx := [(0, [3])] }
noncomputable def W (k : Nat) (a : Arg) : Option Out := bodyK E k f135 ps rs [] [] a
noncomputable def sem (a : Arg) : Option Out := lift fun k => W k a
noncomputable def sig : Sig := { ps := ps, rs := rs, F := sem }
noncomputable def C : Code := bodyOf f135
noncomputable def fin : St → Option Out := outK ps rs [] (Func.results f135).toList (mvs [])
noncomputable def K0 : Ex → St → Option Out := endK fin
noncomputable def T0 (a1 : Arg) (v402 : (List (List UInt8)) × Int) : St := { n := 19, sl := [(3, .own (.slc (.slc u8)) (ownMd (.slc (.slc u8))) [] v402.1), (6, .val (.slc (.slc u8)) a1.1), (7, .val i64 (a1.1.length : Int)), (8, .val i64 v402.2)], vr := [], lent := [] }
noncomputable def N0 (k : Nat) : St → (Ex → St → Option Out) → Option Out := codeK E k fin (sub [1, 1, 0, 1, 0, 0] C)
noncomputable def M0 : St → St := keepF [3, 6, 7, 8] []
noncomputable def S0 (rec : RT Out) (a1 : Arg) : ((List (List UInt8)) × Int) → Option Out := fun v402 => rec (T0 a1 v402)
noncomputable def X0_0 (K : KT Out) (a1 : Arg) : (List (List UInt8)) → Option Out := fun z => K (.exit 0) ({ n := 19, sl := [(3, .own (.slc (.slc u8)) (ownMd (.slc (.slc u8))) [] z)], vr := [], lent := [] })
noncomputable def b0 (self : ((List (List UInt8)) × Int) → Option Out) (e0 : (List (List UInt8)) → Option Out) (a1 : Arg) (v402 : (List (List UInt8)) × Int) : Option Out := bif decide (v402.2 < (a1.1.length : Int)) then (if 0 ≤ v402.2 then ((a1.1[v402.2.toNat]?).bind fun x603 => (impl_copied.sem (x603, ())).bind fun r604 => if v402.1.length + [r604.1].length ≤ CAP then (self (v402.1 ++ [r604.1], w64 (v402.2 + (1 : Int)))) else none) else none) else e0 v402.1
noncomputable def B0 (k : Nat) (self : ((List (List UInt8)) × Int) → Option Out) (e0 : (List (List UInt8)) → Option Out) (a1 : Arg) (v402 : (List (List UInt8)) × Int) : Option Out := b0 self e0 a1 v402
theorem B0_eq (k : Nat) (rec : RT Out) (K : KT Out) (a1 : Arg) (v402 : (List (List UInt8)) × Int) : N0 k (T0 a1 v402) (loopC rec M0 K) = B0 k (S0 rec a1) (X0_0 K a1) a1 v402 := by kernel_rfl
noncomputable def l0 (k : Nat) (a1 : Arg) (e0 : (List (List UInt8)) → Option Out) (v : (List (List UInt8)) × Int) : Option Out := rawIter (fun self v => B0 k self e0 a1 v) k v
theorem l0_eq (k : Nat) (K : KT Out) (a1 : Arg) (v402 : (List (List UInt8)) × Int) : iterK (N0 k) M0 K k (T0 a1 v402) = l0 k a1 (X0_0 K a1) v402 :=
  iter_raw _ _ K (fun v402 => (T0 a1 v402)) (fun self v => B0 k self (X0_0 K a1) a1 v) (fun rec v => B0_eq k rec K a1 v) k v402
noncomputable def q0 (a1 : Arg) (z605 : (List (List UInt8))) : Option Out := some (z605, ())
noncomputable def Q0 (k : Nat) (a1 : Arg) (z605 : (List (List UInt8))) : Option Out := q0 a1 z605
theorem Q0_eq (k : Nat) (a1 : Arg) (z605 : (List (List UInt8))) : X0_0 (blockC 0 (seqC (codeK E k fin (sub [1, 1, 1] C)) K0)) a1 z605 = Q0 k a1 z605 := by kernel_rfl
noncomputable def s0 (k : Nat) (a1 : Arg) : ((List (List UInt8)) × Int) → Option Out := fun v402 => iterK (N0 k) M0 (blockC 0 (seqC (codeK E k fin (sub [1, 1, 1] C)) K0)) k (T0 a1 v402)
noncomputable def r0 (k : Nat) (a1 : Arg) : ((List (List UInt8)) × Int) → Option Out := fun v402 => l0 k a1 (fun z => Q0 k a1 z) v402
theorem s0_eq (k : Nat) (a1 : Arg) : s0 k a1 = r0 k a1 := by
  funext v402;
  have h0 : X0_0 ((blockC 0 (seqC (codeK E k fin (sub [1, 1, 1] C)) K0))) a1 = fun z => Q0 k a1 z := funext fun z => Q0_eq k a1 z
  refine (l0_eq k ((blockC 0 (seqC (codeK E k fin (sub [1, 1, 1] C)) K0))) a1 v402).trans ?_
  rw [h0]
  rfl
noncomputable def p (l0 : ((List (List UInt8)) × Int) → Option Out) (a1 : Arg) : Option Out := l0 (([] : List (List UInt8)), (0 : Int))
noncomputable def raw (k : Nat) (a1 : Arg) : Option Out := p (r0 k a1) a1
theorem p_eq (k : Nat) (a1 : Arg) : W k a1 = p (s0 k a1) a1 := by kernel_rfl
theorem raw_eq (k : Nat) (a1 : Arg) : W k a1 = raw k a1 := (p_eq k a1).trans (by rw [s0_eq]; rfl)
theorem ok : Ok prog 135 sig := fn_ok func135 (tl := tl) (gl := gl) (es := []) (fr := []) rfl rfl (by kernel_rfl) (fc impl_copied.ok (fn_nil _)) (fun _ => rfl)
end impl_copies
namespace laws_eqByteS
/-! loop example g00408 laws eqByteS -/
abbrev Arg : Type := (List UInt8) × (List UInt8) × Unit
abbrev Out : Type := Bool × Unit
noncomputable def ps : PQ := [(.ro, (.slc u8)), (.ro, (.slc u8))]
noncomputable def rs : RQ := [(.bool, (roMd .bool))]
noncomputable def tl : TL := [(5, u8), (46, (.slc u8))]
noncomputable def gl : GL := []
noncomputable def E : Env := { TI := lookN tl, G := lookN gl, lv := [(4, [0, 1, 5])], lx := [(0, [])], od := [(6, [0, 1, 2, 3, 4, 5, 6, 7, 8])] }
noncomputable def W (k : Nat) (a : Arg) : Option Out := bodyK E k f66 ps rs [] [] a
noncomputable def sem (a : Arg) : Option Out := lift fun k => W k a
noncomputable def sig : Sig := { ps := ps, rs := rs, F := sem }
noncomputable def C : Code := bodyOf f66
noncomputable def fin : St → Option Out := outK ps rs [] (Func.results f66).toList (mvs [])
noncomputable def K0 : Ex → St → Option Out := endK fin
noncomputable def T0 (a1 : Arg) (v402 : Int) : St := { n := 26, sl := [(0, .val (.slc u8) a1.1), (1, .val (.slc u8) a1.2.1), (5, .val i64 v402)], vr := [], lent := [] }
noncomputable def N0 (k : Nat) : St → (Ex → St → Option Out) → Option Out := codeK E k fin (sub [1, 1, 0, 1, 0, 0] C)
noncomputable def M0 : St → St := keepF [0, 1, 5] []
noncomputable def S0 (rec : RT Out) (a1 : Arg) : (Int) → Option Out := fun v402 => rec (T0 a1 v402)
noncomputable def X0_0 (K : KT Out) (a1 : Arg) : (Unit) → Option Out := fun z => K (.exit 0) ({ n := 26, sl := [], vr := [], lent := [] })
noncomputable def b0 (self : Int → Option Out) (e0 : (Unit) → Option Out) (a1 : Arg) (v402 : Int) : Option Out := bif decide (v402 < (a1.1.length : Int)) then (if 0 ≤ v402 then ((a1.1[v402.toNat]?).bind fun x603 => if 0 ≤ v402 then ((a1.2.1[v402.toNat]?).bind fun x604 => bif !decide ((x603.toNat : Int) = (x604.toNat : Int)) then (some (false, ())) else self (w64 (v402 + (1 : Int)))) else none) else none) else e0 ()
noncomputable def B0 (k : Nat) (self : Int → Option Out) (e0 : (Unit) → Option Out) (a1 : Arg) (v402 : Int) : Option Out := b0 self e0 a1 v402
theorem B0_eq (k : Nat) (rec : RT Out) (K : KT Out) (a1 : Arg) (v402 : Int) : N0 k (T0 a1 v402) (loopC rec M0 K) = B0 k (S0 rec a1) (X0_0 K a1) a1 v402 := by kernel_rfl
noncomputable def l0 (k : Nat) (a1 : Arg) (e0 : (Unit) → Option Out) (v : Int) : Option Out := rawIter (fun self v => B0 k self e0 a1 v) k v
theorem l0_eq (k : Nat) (K : KT Out) (a1 : Arg) (v402 : Int) : iterK (N0 k) M0 K k (T0 a1 v402) = l0 k a1 (X0_0 K a1) v402 :=
  iter_raw _ _ K (fun v402 => (T0 a1 v402)) (fun self v => B0 k self (X0_0 K a1) a1 v) (fun rec v => B0_eq k rec K a1 v) k v402
noncomputable def q0 (a1 : Arg) (z605 : (Unit)) : Option Out := some (true, ())
noncomputable def Q0 (k : Nat) (a1 : Arg) (z605 : (Unit)) : Option Out := q0 a1 z605
theorem Q0_eq (k : Nat) (a1 : Arg) (z605 : (Unit)) : X0_0 (blockC 0 (seqC (codeK E k fin (sub [1, 1, 1] C)) K0)) a1 z605 = Q0 k a1 z605 := by kernel_rfl
noncomputable def s0 (k : Nat) (a1 : Arg) : (Int) → Option Out := fun v402 => iterK (N0 k) M0 (blockC 0 (seqC (codeK E k fin (sub [1, 1, 1] C)) K0)) k (T0 a1 v402)
noncomputable def r0 (k : Nat) (a1 : Arg) : (Int) → Option Out := fun v402 => l0 k a1 (fun z => Q0 k a1 z) v402
theorem s0_eq (k : Nat) (a1 : Arg) : s0 k a1 = r0 k a1 := by
  funext v402;
  have h0 : X0_0 ((blockC 0 (seqC (codeK E k fin (sub [1, 1, 1] C)) K0))) a1 = fun z => Q0 k a1 z := funext fun z => Q0_eq k a1 z
  refine (l0_eq k ((blockC 0 (seqC (codeK E k fin (sub [1, 1, 1] C)) K0))) a1 v402).trans ?_
  rw [h0]
  rfl
noncomputable def p (l0 : (Int) → Option Out) (a1 : Arg) : Option Out := bif !decide ((a1.1.length : Int) = (a1.2.1.length : Int)) then (some (false, ())) else l0 (0 : Int)
noncomputable def raw (k : Nat) (a1 : Arg) : Option Out := p (r0 k a1) a1
theorem p_eq (k : Nat) (a1 : Arg) : W k a1 = p (s0 k a1) a1 := by kernel_rfl
theorem raw_eq (k : Nat) (a1 : Arg) : W k a1 = raw k a1 := (p_eq k a1).trans (by rw [s0_eq]; rfl)
theorem ok : Ok prog 66 sig := fn_ok func66 (tl := tl) (gl := gl) (es := []) (fr := []) rfl rfl (by kernel_rfl) (fn_nil _) (fun _ => rfl)
end laws_eqByteS
namespace laws_eqByteSS
/-! loop example g00408 laws eqByteSS -/
abbrev Arg : Type := (List (List UInt8)) × (List (List UInt8)) × Unit
abbrev Out : Type := Bool × Unit
noncomputable def ps : PQ := [(.ro, (.slc (.slc u8))), (.ro, (.slc (.slc u8)))]
noncomputable def rs : RQ := [(.bool, (roMd .bool))]
noncomputable def tl : TL := [(22, (.slc (.slc u8))), (46, (.slc u8))]
noncomputable def gl : GL := [(66, laws_eqByteS.sig)]
noncomputable def E : Env := { TI := lookN tl, G := lookN gl, lv := [(4, [0, 1, 5])], lx := [(0, [])], od := [(6, [0, 1, 2, 3, 4, 5, 6, 7, 8, 9])] }
noncomputable def W (k : Nat) (a : Arg) : Option Out := bodyK E k f18 ps rs [] [] a
noncomputable def sem (a : Arg) : Option Out := lift fun k => W k a
noncomputable def sig : Sig := { ps := ps, rs := rs, F := sem }
noncomputable def C : Code := bodyOf f18
noncomputable def fin : St → Option Out := outK ps rs [] (Func.results f18).toList (mvs [])
noncomputable def K0 : Ex → St → Option Out := endK fin
noncomputable def T0 (a1 : Arg) (v402 : Int) : St := { n := 27, sl := [(0, .val (.slc (.slc u8)) a1.1), (1, .val (.slc (.slc u8)) a1.2.1), (5, .val i64 v402)], vr := [], lent := [] }
noncomputable def N0 (k : Nat) : St → (Ex → St → Option Out) → Option Out := codeK E k fin (sub [1, 1, 0, 1, 0, 0] C)
noncomputable def M0 : St → St := keepF [0, 1, 5] []
noncomputable def S0 (rec : RT Out) (a1 : Arg) : (Int) → Option Out := fun v402 => rec (T0 a1 v402)
noncomputable def X0_0 (K : KT Out) (a1 : Arg) : (Unit) → Option Out := fun z => K (.exit 0) ({ n := 27, sl := [], vr := [], lent := [] })
noncomputable def b0 (self : Int → Option Out) (e0 : (Unit) → Option Out) (a1 : Arg) (v402 : Int) : Option Out := bif decide (v402 < (a1.1.length : Int)) then (if 0 ≤ v402 then ((a1.1[v402.toNat]?).bind fun x603 => if 0 ≤ v402 then ((a1.2.1[v402.toNat]?).bind fun x604 => (laws_eqByteS.sem (x603, x604, ())).bind fun r605 => bif !r605.1 then (some (false, ())) else self (w64 (v402 + (1 : Int)))) else none) else none) else e0 ()
noncomputable def B0 (k : Nat) (self : Int → Option Out) (e0 : (Unit) → Option Out) (a1 : Arg) (v402 : Int) : Option Out := b0 self e0 a1 v402
theorem B0_eq (k : Nat) (rec : RT Out) (K : KT Out) (a1 : Arg) (v402 : Int) : N0 k (T0 a1 v402) (loopC rec M0 K) = B0 k (S0 rec a1) (X0_0 K a1) a1 v402 := by kernel_rfl
noncomputable def l0 (k : Nat) (a1 : Arg) (e0 : (Unit) → Option Out) (v : Int) : Option Out := rawIter (fun self v => B0 k self e0 a1 v) k v
theorem l0_eq (k : Nat) (K : KT Out) (a1 : Arg) (v402 : Int) : iterK (N0 k) M0 K k (T0 a1 v402) = l0 k a1 (X0_0 K a1) v402 :=
  iter_raw _ _ K (fun v402 => (T0 a1 v402)) (fun self v => B0 k self (X0_0 K a1) a1 v) (fun rec v => B0_eq k rec K a1 v) k v402
noncomputable def q0 (a1 : Arg) (z606 : (Unit)) : Option Out := some (true, ())
noncomputable def Q0 (k : Nat) (a1 : Arg) (z606 : (Unit)) : Option Out := q0 a1 z606
theorem Q0_eq (k : Nat) (a1 : Arg) (z606 : (Unit)) : X0_0 (blockC 0 (seqC (codeK E k fin (sub [1, 1, 1] C)) K0)) a1 z606 = Q0 k a1 z606 := by kernel_rfl
noncomputable def s0 (k : Nat) (a1 : Arg) : (Int) → Option Out := fun v402 => iterK (N0 k) M0 (blockC 0 (seqC (codeK E k fin (sub [1, 1, 1] C)) K0)) k (T0 a1 v402)
noncomputable def r0 (k : Nat) (a1 : Arg) : (Int) → Option Out := fun v402 => l0 k a1 (fun z => Q0 k a1 z) v402
theorem s0_eq (k : Nat) (a1 : Arg) : s0 k a1 = r0 k a1 := by
  funext v402;
  have h0 : X0_0 ((blockC 0 (seqC (codeK E k fin (sub [1, 1, 1] C)) K0))) a1 = fun z => Q0 k a1 z := funext fun z => Q0_eq k a1 z
  refine (l0_eq k ((blockC 0 (seqC (codeK E k fin (sub [1, 1, 1] C)) K0))) a1 v402).trans ?_
  rw [h0]
  rfl
noncomputable def p (l0 : (Int) → Option Out) (a1 : Arg) : Option Out := bif !decide ((a1.1.length : Int) = (a1.2.1.length : Int)) then (some (false, ())) else l0 (0 : Int)
noncomputable def raw (k : Nat) (a1 : Arg) : Option Out := p (r0 k a1) a1
theorem p_eq (k : Nat) (a1 : Arg) : W k a1 = p (s0 k a1) a1 := by kernel_rfl
theorem raw_eq (k : Nat) (a1 : Arg) : W k a1 = raw k a1 := (p_eq k a1).trans (by rw [s0_eq]; rfl)
theorem ok : Ok prog 18 sig := fn_ok func18 (tl := tl) (gl := gl) (es := []) (fr := []) rfl rfl (by kernel_rfl) (fc laws_eqByteS.ok (fn_nil _)) (fun _ => rfl)
end laws_eqByteSS
namespace laws_markByteS
/-! loop example g00408 laws markByteS -/
abbrev Arg : Type := (List UInt8) × Int × Unit
abbrev Out : Type := Int × (List UInt8) × Unit
noncomputable def ps : PQ := [(.muts (ownMd (.slc u8)), (.slc u8)), (.ro, i64)]
noncomputable def rs : RQ := [(i64, (roMd i64))]
noncomputable def tl : TL := [(3, i64), (5, u8), (46, (.slc u8))]
noncomputable def gl : GL := []
noncomputable def E : Env := { TI := lookN tl, G := lookN gl, lv := [(2, [0, 1, 5])], lx := [(0, [0, 1])] }
noncomputable def W (k : Nat) (a : Arg) : Option Out := bodyK E k f67 ps rs [0] [] a
noncomputable def sem (a : Arg) : Option Out := lift fun k => W k a
noncomputable def sig : Sig := { ps := ps, rs := rs, F := sem }
noncomputable def C : Code := bodyOf f67
noncomputable def fin : St → Option Out := outK ps rs [0] (Func.results f67).toList (mvs [])
noncomputable def K0 : Ex → St → Option Out := endK fin
noncomputable def T0 (a1 : Arg) (v402 : (List UInt8) × Int × Int) : St := { n := 20, sl := [(0, .own (.slc u8) (ownMd (.slc u8)) [] v402.1), (1, .val i64 v402.2.1), (5, .val i64 v402.2.2)], vr := [], lent := [(0, 0, true)] }
noncomputable def N0 (k : Nat) : St → (Ex → St → Option Out) → Option Out := codeK E k fin (sub [1, 0, 1, 0, 0] C)
noncomputable def M0 : St → St := keepF [0, 1, 5] []
noncomputable def S0 (rec : RT Out) (a1 : Arg) : ((List UInt8) × Int × Int) → Option Out := fun v402 => rec (T0 a1 v402)
noncomputable def X0_0 (K : KT Out) (a1 : Arg) : ((List UInt8) × Int) → Option Out := fun z => K (.exit 0) ({ n := 20, sl := [(0, .own (.slc u8) (ownMd (.slc u8)) [] z.1), (1, .val i64 z.2)], vr := [], lent := [(0, 0, true)] })
noncomputable def b0 (self : ((List UInt8) × Int × Int) → Option Out) (e0 : ((List UInt8) × Int) → Option Out) (a1 : Arg) (v402 : (List UInt8) × Int × Int) : Option Out := bif decide (v402.2.2 < (v402.1.length : Int)) then (if 0 ≤ v402.2.2 ∧ v402.2.2 < (v402.1.length : Int) then ((v402.1[v402.2.2.toNat]?).bind fun x603 => let y604 := v402.1.set v402.2.2.toNat (UInt8.ofInt v402.2.1); self (y604, w64 (v402.2.1 + (1 : Int)), w64 (v402.2.2 + (1 : Int)))) else none) else e0 (v402.1, v402.2.1)
noncomputable def B0 (k : Nat) (self : ((List UInt8) × Int × Int) → Option Out) (e0 : ((List UInt8) × Int) → Option Out) (a1 : Arg) (v402 : (List UInt8) × Int × Int) : Option Out := b0 self e0 a1 v402
theorem B0_eq (k : Nat) (rec : RT Out) (K : KT Out) (a1 : Arg) (v402 : (List UInt8) × Int × Int) : N0 k (T0 a1 v402) (loopC rec M0 K) = B0 k (S0 rec a1) (X0_0 K a1) a1 v402 := by kernel_rfl
noncomputable def l0 (k : Nat) (a1 : Arg) (e0 : ((List UInt8) × Int) → Option Out) (v : (List UInt8) × Int × Int) : Option Out := rawIter (fun self v => B0 k self e0 a1 v) k v
theorem l0_eq (k : Nat) (K : KT Out) (a1 : Arg) (v402 : (List UInt8) × Int × Int) : iterK (N0 k) M0 K k (T0 a1 v402) = l0 k a1 (X0_0 K a1) v402 :=
  iter_raw _ _ K (fun v402 => (T0 a1 v402)) (fun self v => B0 k self (X0_0 K a1) a1 v) (fun rec v => B0_eq k rec K a1 v) k v402
noncomputable def q0 (a1 : Arg) (z605 : ((List UInt8) × Int)) : Option Out := some (z605.2, z605.1, ())
noncomputable def Q0 (k : Nat) (a1 : Arg) (z605 : ((List UInt8) × Int)) : Option Out := q0 a1 z605
theorem Q0_eq (k : Nat) (a1 : Arg) (z605 : ((List UInt8) × Int)) : X0_0 (blockC 0 (seqC (codeK E k fin (sub [1, 1] C)) K0)) a1 z605 = Q0 k a1 z605 := by kernel_rfl
noncomputable def s0 (k : Nat) (a1 : Arg) : ((List UInt8) × Int × Int) → Option Out := fun v402 => iterK (N0 k) M0 (blockC 0 (seqC (codeK E k fin (sub [1, 1] C)) K0)) k (T0 a1 v402)
noncomputable def r0 (k : Nat) (a1 : Arg) : ((List UInt8) × Int × Int) → Option Out := fun v402 => l0 k a1 (fun z => Q0 k a1 z) v402
theorem s0_eq (k : Nat) (a1 : Arg) : s0 k a1 = r0 k a1 := by
  funext v402;
  have h0 : X0_0 ((blockC 0 (seqC (codeK E k fin (sub [1, 1] C)) K0))) a1 = fun z => Q0 k a1 z := funext fun z => Q0_eq k a1 z
  refine (l0_eq k ((blockC 0 (seqC (codeK E k fin (sub [1, 1] C)) K0))) a1 v402).trans ?_
  rw [h0]
  rfl
noncomputable def p (l0 : ((List UInt8) × Int × Int) → Option Out) (a1 : Arg) : Option Out := l0 (a1.1, a1.2.1, (0 : Int))
noncomputable def raw (k : Nat) (a1 : Arg) : Option Out := p (r0 k a1) a1
theorem p_eq (k : Nat) (a1 : Arg) : W k a1 = p (s0 k a1) a1 := by kernel_rfl
theorem raw_eq (k : Nat) (a1 : Arg) : W k a1 = raw k a1 := (p_eq k a1).trans (by rw [s0_eq]; rfl)
theorem ok : Ok prog 67 sig := fn_ok func67 (tl := tl) (gl := gl) (es := [0]) (fr := []) rfl rfl (by kernel_rfl) (fn_nil _) (fun _ => rfl)
end laws_markByteS
namespace laws_markByteSS
/-! loop example g00408 laws markByteSS -/
abbrev Arg : Type := (List (List UInt8)) × Int × Unit
abbrev Out : Type := Int × (List (List UInt8)) × Unit
noncomputable def ps : PQ := [(.muts (ownMd (.slc (.slc u8))), (.slc (.slc u8))), (.ro, i64)]
noncomputable def rs : RQ := [(i64, (roMd i64))]
noncomputable def tl : TL := [(22, (.slc (.slc u8))), (46, (.slc u8))]
noncomputable def gl : GL := [(67, laws_markByteS.sig)]
noncomputable def E : Env := { TI := lookN tl, G := lookN gl, lv := [(2, [0, 1, 5])], lx := [(0, [0, 1])] }
noncomputable def W (k : Nat) (a : Arg) : Option Out := bodyK E k f19 ps rs [0] [] a
noncomputable def sem (a : Arg) : Option Out := lift fun k => W k a
noncomputable def sig : Sig := { ps := ps, rs := rs, F := sem }
noncomputable def C : Code := bodyOf f19
noncomputable def fin : St → Option Out := outK ps rs [0] (Func.results f19).toList (mvs [])
noncomputable def K0 : Ex → St → Option Out := endK fin
noncomputable def T0 (a1 : Arg) (v402 : (List (List UInt8)) × Int × Int) : St := { n := 19, sl := [(0, .own (.slc (.slc u8)) (ownMd (.slc (.slc u8))) [] v402.1), (1, .val i64 v402.2.1), (5, .val i64 v402.2.2)], vr := [], lent := [(0, 0, true)] }
noncomputable def N0 (k : Nat) : St → (Ex → St → Option Out) → Option Out := codeK E k fin (sub [1, 0, 1, 0, 0] C)
noncomputable def M0 : St → St := keepF [0, 1, 5] []
noncomputable def S0 (rec : RT Out) (a1 : Arg) : ((List (List UInt8)) × Int × Int) → Option Out := fun v402 => rec (T0 a1 v402)
noncomputable def X0_0 (K : KT Out) (a1 : Arg) : ((List (List UInt8)) × Int) → Option Out := fun z => K (.exit 0) ({ n := 19, sl := [(0, .own (.slc (.slc u8)) (ownMd (.slc (.slc u8))) [] z.1), (1, .val i64 z.2)], vr := [], lent := [(0, 0, true)] })
noncomputable def b0 (self : ((List (List UInt8)) × Int × Int) → Option Out) (e0 : ((List (List UInt8)) × Int) → Option Out) (a1 : Arg) (v402 : (List (List UInt8)) × Int × Int) : Option Out := bif decide (v402.2.2 < (v402.1.length : Int)) then (if 0 ≤ v402.2.2 ∧ v402.2.2 < (v402.1.length : Int) then ((v402.1[v402.2.2.toNat]?).bind fun x603 => (v402.1[v402.2.2.toNat]?).bind fun x604 => (v402.1[v402.2.2.toNat]?).bind fun x605 => (laws_markByteS.sem (x605, v402.2.1, ())).bind fun r606 => (v402.1[v402.2.2.toNat]?).bind fun x607 => self (v402.1.set v402.2.2.toNat r606.2.1, r606.1, w64 (v402.2.2 + (1 : Int)))) else none) else e0 (v402.1, v402.2.1)
noncomputable def B0 (k : Nat) (self : ((List (List UInt8)) × Int × Int) → Option Out) (e0 : ((List (List UInt8)) × Int) → Option Out) (a1 : Arg) (v402 : (List (List UInt8)) × Int × Int) : Option Out := b0 self e0 a1 v402
theorem B0_eq (k : Nat) (rec : RT Out) (K : KT Out) (a1 : Arg) (v402 : (List (List UInt8)) × Int × Int) : N0 k (T0 a1 v402) (loopC rec M0 K) = B0 k (S0 rec a1) (X0_0 K a1) a1 v402 := by kernel_rfl
noncomputable def l0 (k : Nat) (a1 : Arg) (e0 : ((List (List UInt8)) × Int) → Option Out) (v : (List (List UInt8)) × Int × Int) : Option Out := rawIter (fun self v => B0 k self e0 a1 v) k v
theorem l0_eq (k : Nat) (K : KT Out) (a1 : Arg) (v402 : (List (List UInt8)) × Int × Int) : iterK (N0 k) M0 K k (T0 a1 v402) = l0 k a1 (X0_0 K a1) v402 :=
  iter_raw _ _ K (fun v402 => (T0 a1 v402)) (fun self v => B0 k self (X0_0 K a1) a1 v) (fun rec v => B0_eq k rec K a1 v) k v402
noncomputable def q0 (a1 : Arg) (z608 : ((List (List UInt8)) × Int)) : Option Out := some (z608.2, z608.1, ())
noncomputable def Q0 (k : Nat) (a1 : Arg) (z608 : ((List (List UInt8)) × Int)) : Option Out := q0 a1 z608
theorem Q0_eq (k : Nat) (a1 : Arg) (z608 : ((List (List UInt8)) × Int)) : X0_0 (blockC 0 (seqC (codeK E k fin (sub [1, 1] C)) K0)) a1 z608 = Q0 k a1 z608 := by kernel_rfl
noncomputable def s0 (k : Nat) (a1 : Arg) : ((List (List UInt8)) × Int × Int) → Option Out := fun v402 => iterK (N0 k) M0 (blockC 0 (seqC (codeK E k fin (sub [1, 1] C)) K0)) k (T0 a1 v402)
noncomputable def r0 (k : Nat) (a1 : Arg) : ((List (List UInt8)) × Int × Int) → Option Out := fun v402 => l0 k a1 (fun z => Q0 k a1 z) v402
theorem s0_eq (k : Nat) (a1 : Arg) : s0 k a1 = r0 k a1 := by
  funext v402;
  have h0 : X0_0 ((blockC 0 (seqC (codeK E k fin (sub [1, 1] C)) K0))) a1 = fun z => Q0 k a1 z := funext fun z => Q0_eq k a1 z
  refine (l0_eq k ((blockC 0 (seqC (codeK E k fin (sub [1, 1] C)) K0))) a1 v402).trans ?_
  rw [h0]
  rfl
noncomputable def p (l0 : ((List (List UInt8)) × Int × Int) → Option Out) (a1 : Arg) : Option Out := l0 (a1.1, a1.2.1, (0 : Int))
noncomputable def raw (k : Nat) (a1 : Arg) : Option Out := p (r0 k a1) a1
theorem p_eq (k : Nat) (a1 : Arg) : W k a1 = p (s0 k a1) a1 := by kernel_rfl
theorem raw_eq (k : Nat) (a1 : Arg) : W k a1 = raw k a1 := (p_eq k a1).trans (by rw [s0_eq]; rfl)
theorem ok : Ok prog 19 sig := fn_ok func19 (tl := tl) (gl := gl) (es := [0]) (fr := []) rfl rfl (by kernel_rfl) (fc laws_markByteS.ok (fn_nil _)) (fun _ => rfl)
end laws_markByteSS
namespace laws_heldByteS
/-! loop example g00408 laws heldByteS -/
abbrev Arg : Type := (List UInt8) × Int × Unit
abbrev Out : Type := Int × Unit
noncomputable def ps : PQ := [(.ro, (.slc u8)), (.ro, i64)]
noncomputable def rs : RQ := [(i64, (roMd i64))]
noncomputable def tl : TL := [(3, i64), (5, u8), (46, (.slc u8))]
noncomputable def gl : GL := []
noncomputable def E : Env := { TI := lookN tl, G := lookN gl, lv := [(2, [0, 1, 5])], lx := [(0, [1])] }
noncomputable def W (k : Nat) (a : Arg) : Option Out := bodyK E k f139 ps rs [] [] a
noncomputable def sem (a : Arg) : Option Out := lift fun k => W k a
noncomputable def sig : Sig := { ps := ps, rs := rs, F := sem }
noncomputable def C : Code := bodyOf f139
noncomputable def fin : St → Option Out := outK ps rs [] (Func.results f139).toList (mvs [])
noncomputable def K0 : Ex → St → Option Out := endK fin
noncomputable def T0 (a1 : Arg) (v402 : Int × Int) : St := { n := 22, sl := [(0, .val (.slc u8) a1.1), (1, .val i64 v402.1), (5, .val i64 v402.2)], vr := [], lent := [] }
noncomputable def N0 (k : Nat) : St → (Ex → St → Option Out) → Option Out := codeK E k fin (sub [1, 0, 1, 0, 0] C)
noncomputable def M0 : St → St := keepF [0, 1, 5] []
noncomputable def S0 (rec : RT Out) (a1 : Arg) : (Int × Int) → Option Out := fun v402 => rec (T0 a1 v402)
noncomputable def X0_0 (K : KT Out) (a1 : Arg) : Int → Option Out := fun z => K (.exit 0) ({ n := 22, sl := [(1, .val i64 z)], vr := [], lent := [] })
noncomputable def b0 (self : (Int × Int) → Option Out) (e0 : Int → Option Out) (a1 : Arg) (v402 : Int × Int) : Option Out := bif decide (v402.2 < (a1.1.length : Int)) then (if 0 ≤ v402.2 then ((a1.1[v402.2.toNat]?).bind fun x603 => bif !decide ((x603.toNat : Int) = ((UInt8.ofInt v402.1).toNat : Int)) then (some ((-1 : Int), ())) else self (w64 (v402.1 + (1 : Int)), w64 (v402.2 + (1 : Int)))) else none) else e0 v402.1
noncomputable def B0 (k : Nat) (self : (Int × Int) → Option Out) (e0 : Int → Option Out) (a1 : Arg) (v402 : Int × Int) : Option Out := b0 self e0 a1 v402
theorem B0_eq (k : Nat) (rec : RT Out) (K : KT Out) (a1 : Arg) (v402 : Int × Int) : N0 k (T0 a1 v402) (loopC rec M0 K) = B0 k (S0 rec a1) (X0_0 K a1) a1 v402 := by kernel_rfl
noncomputable def l0 (k : Nat) (a1 : Arg) (e0 : Int → Option Out) (v : Int × Int) : Option Out := rawIter (fun self v => B0 k self e0 a1 v) k v
theorem l0_eq (k : Nat) (K : KT Out) (a1 : Arg) (v402 : Int × Int) : iterK (N0 k) M0 K k (T0 a1 v402) = l0 k a1 (X0_0 K a1) v402 :=
  iter_raw _ _ K (fun v402 => (T0 a1 v402)) (fun self v => B0 k self (X0_0 K a1) a1 v) (fun rec v => B0_eq k rec K a1 v) k v402
noncomputable def q0 (a1 : Arg) (z604 : Int) : Option Out := some (z604, ())
noncomputable def Q0 (k : Nat) (a1 : Arg) (z604 : Int) : Option Out := q0 a1 z604
theorem Q0_eq (k : Nat) (a1 : Arg) (z604 : Int) : X0_0 (blockC 0 (seqC (codeK E k fin (sub [1, 1] C)) K0)) a1 z604 = Q0 k a1 z604 := by kernel_rfl
noncomputable def s0 (k : Nat) (a1 : Arg) : (Int × Int) → Option Out := fun v402 => iterK (N0 k) M0 (blockC 0 (seqC (codeK E k fin (sub [1, 1] C)) K0)) k (T0 a1 v402)
noncomputable def r0 (k : Nat) (a1 : Arg) : (Int × Int) → Option Out := fun v402 => l0 k a1 (fun z => Q0 k a1 z) v402
theorem s0_eq (k : Nat) (a1 : Arg) : s0 k a1 = r0 k a1 := by
  funext v402;
  have h0 : X0_0 ((blockC 0 (seqC (codeK E k fin (sub [1, 1] C)) K0))) a1 = fun z => Q0 k a1 z := funext fun z => Q0_eq k a1 z
  refine (l0_eq k ((blockC 0 (seqC (codeK E k fin (sub [1, 1] C)) K0))) a1 v402).trans ?_
  rw [h0]
  rfl
noncomputable def p (l0 : (Int × Int) → Option Out) (a1 : Arg) : Option Out := l0 (a1.2.1, (0 : Int))
noncomputable def raw (k : Nat) (a1 : Arg) : Option Out := p (r0 k a1) a1
theorem p_eq (k : Nat) (a1 : Arg) : W k a1 = p (s0 k a1) a1 := by kernel_rfl
theorem raw_eq (k : Nat) (a1 : Arg) : W k a1 = raw k a1 := (p_eq k a1).trans (by rw [s0_eq]; rfl)
theorem ok : Ok prog 139 sig := fn_ok func139 (tl := tl) (gl := gl) (es := []) (fr := []) rfl rfl (by kernel_rfl) (fn_nil _) (fun _ => rfl)
end laws_heldByteS
namespace laws_heldByteSS
/-! loop example g00408 laws heldByteSS -/
abbrev Arg : Type := (List (List UInt8)) × Int × Unit
abbrev Out : Type := Int × Unit
noncomputable def ps : PQ := [(.ro, (.slc (.slc u8))), (.ro, i64)]
noncomputable def rs : RQ := [(i64, (roMd i64))]
noncomputable def tl : TL := [(22, (.slc (.slc u8))), (46, (.slc u8))]
noncomputable def gl : GL := [(139, laws_heldByteS.sig)]
noncomputable def E : Env := { TI := lookN tl, G := lookN gl, lv := [(2, [0, 1, 5])], lx := [(0, [1])] }
noncomputable def W (k : Nat) (a : Arg) : Option Out := bodyK E k f70 ps rs [] [] a
noncomputable def sem (a : Arg) : Option Out := lift fun k => W k a
noncomputable def sig : Sig := { ps := ps, rs := rs, F := sem }
noncomputable def C : Code := bodyOf f70
noncomputable def fin : St → Option Out := outK ps rs [] (Func.results f70).toList (mvs [])
noncomputable def K0 : Ex → St → Option Out := endK fin
noncomputable def T0 (a1 : Arg) (v402 : Int × Int) : St := { n := 21, sl := [(0, .val (.slc (.slc u8)) a1.1), (1, .val i64 v402.1), (5, .val i64 v402.2)], vr := [], lent := [] }
noncomputable def N0 (k : Nat) : St → (Ex → St → Option Out) → Option Out := codeK E k fin (sub [1, 0, 1, 0, 0] C)
noncomputable def M0 : St → St := keepF [0, 1, 5] []
noncomputable def S0 (rec : RT Out) (a1 : Arg) : (Int × Int) → Option Out := fun v402 => rec (T0 a1 v402)
noncomputable def X0_0 (K : KT Out) (a1 : Arg) : Int → Option Out := fun z => K (.exit 0) ({ n := 21, sl := [(1, .val i64 z)], vr := [], lent := [] })
noncomputable def b0 (self : (Int × Int) → Option Out) (e0 : Int → Option Out) (a1 : Arg) (v402 : Int × Int) : Option Out := bif decide (v402.2 < (a1.1.length : Int)) then (if 0 ≤ v402.2 then ((a1.1[v402.2.toNat]?).bind fun x603 => (laws_heldByteS.sem (x603, v402.1, ())).bind fun r604 => bif decide (r604.1 < (0 : Int)) then (some ((-1 : Int), ())) else self (r604.1, w64 (v402.2 + (1 : Int)))) else none) else e0 v402.1
noncomputable def B0 (k : Nat) (self : (Int × Int) → Option Out) (e0 : Int → Option Out) (a1 : Arg) (v402 : Int × Int) : Option Out := b0 self e0 a1 v402
theorem B0_eq (k : Nat) (rec : RT Out) (K : KT Out) (a1 : Arg) (v402 : Int × Int) : N0 k (T0 a1 v402) (loopC rec M0 K) = B0 k (S0 rec a1) (X0_0 K a1) a1 v402 := by kernel_rfl
noncomputable def l0 (k : Nat) (a1 : Arg) (e0 : Int → Option Out) (v : Int × Int) : Option Out := rawIter (fun self v => B0 k self e0 a1 v) k v
theorem l0_eq (k : Nat) (K : KT Out) (a1 : Arg) (v402 : Int × Int) : iterK (N0 k) M0 K k (T0 a1 v402) = l0 k a1 (X0_0 K a1) v402 :=
  iter_raw _ _ K (fun v402 => (T0 a1 v402)) (fun self v => B0 k self (X0_0 K a1) a1 v) (fun rec v => B0_eq k rec K a1 v) k v402
noncomputable def q0 (a1 : Arg) (z605 : Int) : Option Out := some (z605, ())
noncomputable def Q0 (k : Nat) (a1 : Arg) (z605 : Int) : Option Out := q0 a1 z605
theorem Q0_eq (k : Nat) (a1 : Arg) (z605 : Int) : X0_0 (blockC 0 (seqC (codeK E k fin (sub [1, 1] C)) K0)) a1 z605 = Q0 k a1 z605 := by kernel_rfl
noncomputable def s0 (k : Nat) (a1 : Arg) : (Int × Int) → Option Out := fun v402 => iterK (N0 k) M0 (blockC 0 (seqC (codeK E k fin (sub [1, 1] C)) K0)) k (T0 a1 v402)
noncomputable def r0 (k : Nat) (a1 : Arg) : (Int × Int) → Option Out := fun v402 => l0 k a1 (fun z => Q0 k a1 z) v402
theorem s0_eq (k : Nat) (a1 : Arg) : s0 k a1 = r0 k a1 := by
  funext v402;
  have h0 : X0_0 ((blockC 0 (seqC (codeK E k fin (sub [1, 1] C)) K0))) a1 = fun z => Q0 k a1 z := funext fun z => Q0_eq k a1 z
  refine (l0_eq k ((blockC 0 (seqC (codeK E k fin (sub [1, 1] C)) K0))) a1 v402).trans ?_
  rw [h0]
  rfl
noncomputable def p (l0 : (Int × Int) → Option Out) (a1 : Arg) : Option Out := l0 (a1.2.1, (0 : Int))
noncomputable def raw (k : Nat) (a1 : Arg) : Option Out := p (r0 k a1) a1
theorem p_eq (k : Nat) (a1 : Arg) : W k a1 = p (s0 k a1) a1 := by kernel_rfl
theorem raw_eq (k : Nat) (a1 : Arg) : W k a1 = raw k a1 := (p_eq k a1).trans (by rw [s0_eq]; rfl)
theorem ok : Ok prog 70 sig := fn_ok func70 (tl := tl) (gl := gl) (es := []) (fr := []) rfl rfl (by kernel_rfl) (fc laws_heldByteS.ok (fn_nil _)) (fun _ => rfl)
end laws_heldByteSS
namespace laws_szChange
/-! loop example g00408 laws szChange -/
abbrev Arg : Type := Change × Int × Unit
abbrev Out : Type := Int × Unit
noncomputable def ps : PQ := [(.ro, tChange), (.ro, i64)]
noncomputable def rs : RQ := [(i64, (roMd i64))]
noncomputable def tl : TL := [(24, tRow), (39, tChange)]
noncomputable def gl : GL := [(12, laws_szRow.sig)]
noncomputable def E : Env := { TI := lookN tl, G := lookN gl }
noncomputable def W (k : Nat) (a : Arg) : Option Out := bodyK E k f24 ps rs [] [] a
noncomputable def sem (a : Arg) : Option Out := lift fun k => W k a
noncomputable def sig : Sig := { ps := ps, rs := rs, F := sem }
noncomputable def p (a1 : Arg) : Option Out := (laws_szRow.sem (a1.1.2.1, a1.2.1, ())).bind fun r2 => bif decide (r2.1 < (0 : Int)) then (some ((-1 : Int), ())) else (laws_szRow.sem (a1.1.2.2.2.1, r2.1, ())).bind fun r3 => bif decide (r3.1 < (0 : Int)) then (some ((-1 : Int), ())) else some (r3.1, ())
noncomputable def raw (k : Nat) (a1 : Arg) : Option Out := p a1
theorem raw_eq (k : Nat) (a1 : Arg) : W k a1 = raw k a1 := by kernel_rfl
theorem ok : Ok prog 24 sig := fn_ok func24 (tl := tl) (gl := gl) (es := []) (fr := []) rfl rfl (by kernel_rfl) (fc laws_szRow.ok (fn_nil _)) (fun _ => rfl)
end laws_szChange
namespace spec_l6Change
/-! loop example g00408 spec l6Change -/
abbrev Arg : Type := Change × Unit
abbrev Out : Type := Int × Unit
noncomputable def ps : PQ := [(.ro, (.ptr tChange))]
noncomputable def rs : RQ := [(i64, (roMd i64))]
noncomputable def tl : TL := [(2, i64), (4, .bool), (32, tRow), (43, tChange)]
noncomputable def gl : GL := [(55, spec_l1Fault.sig)]
noncomputable def E : Env := { TI := lookN tl, G := lookN gl, od := [(1, [0, 1, 2, 3, 4, 5, 6, 7, 8, 9, 10, 11, 12, 13, 14, 15, 16, 17, 18, 19, 20, 21, 22, 23, 24, 25, 26, 27, 28, 29, 30, 31, 32, 33, 34, 35, 36, 37, 38, 39, 40, 41, 42, 43, 44, 45, 46, 47, 48, 49])] }
noncomputable def W (k : Nat) (a : Arg) : Option Out := bodyK E k f73 ps rs [] [] a
noncomputable def sem (a : Arg) : Option Out := lift fun k => W k a
noncomputable def sig : Sig := { ps := ps, rs := rs, F := sem }
noncomputable def p (a1 : Arg) : Option Out := let j5 : Option Out := bif a1.1.1 then ((spec_l1Fault.sem (a1.1.2.1, ())).bind fun r6 => bif !decide (r6.1 = (0 : Int)) then (some (r6.1, ())) else bif a1.1.2.2.1 then ((spec_l1Fault.sem (a1.1.2.2.2.1, ())).bind fun r8 => some (r8.1, ())) else some ((0 : Int), ())) else bif a1.1.2.2.1 then ((spec_l1Fault.sem (a1.1.2.2.2.1, ())).bind fun r9 => some (r9.1, ())) else some ((0 : Int), ()); bif !a1.1.1 then (bif !a1.1.2.2.1 then (some ((1 : Int), ())) else bif a1.1.1 then (bif a1.1.2.2.1 then (bif !decide (a1.1.2.1.1 = a1.1.2.2.2.1.1) then (some ((1 : Int), ())) else bif !decide (a1.1.2.1.2.1 = a1.1.2.2.2.1.2.1) then (some ((1 : Int), ())) else j5) else j5) else j5) else bif a1.1.1 then (bif a1.1.2.2.1 then (bif !decide (a1.1.2.1.1 = a1.1.2.2.2.1.1) then (some ((1 : Int), ())) else bif !decide (a1.1.2.1.2.1 = a1.1.2.2.2.1.2.1) then (some ((1 : Int), ())) else j5) else j5) else j5
noncomputable def raw (k : Nat) (a1 : Arg) : Option Out := p a1
theorem raw_eq (k : Nat) (a1 : Arg) : W k a1 = raw k a1 := by kernel_rfl
theorem ok : Ok prog 73 sig := fn_ok func73 (tl := tl) (gl := gl) (es := []) (fr := []) rfl rfl (by kernel_rfl) (fc spec_l1Fault.ok (fn_nil _)) (fun _ => rfl)
end spec_l6Change
namespace spec_l6Key
/-! loop example g00408 spec l6Key -/
abbrev Arg : Type := Change × Unit
abbrev Out : Type := Int × Int × Unit
noncomputable def ps : PQ := [(.ro, (.ptr tChange))]
noncomputable def rs : RQ := [(i64, (roMd i64)), (i64, (roMd i64))]
noncomputable def tl : TL := [(2, i64), (4, .bool), (32, tRow), (43, tChange)]
noncomputable def gl : GL := []
noncomputable def E : Env := { TI := lookN tl, G := lookN gl, od := [(2, [0, 1, 2, 3, 4, 5, 6, 7, 8, 9, 10, 11]), (3, [0, 1, 2, 3, 4, 5, 6, 7, 8, 9, 10, 11])] }
noncomputable def W (k : Nat) (a : Arg) : Option Out := bodyK E k f146 ps rs [] [] a
noncomputable def sem (a : Arg) : Option Out := lift fun k => W k a
noncomputable def sig : Sig := { ps := ps, rs := rs, F := sem }
noncomputable def p (a1 : Arg) : Option Out := bif a1.1.2.2.1 then (some (a1.1.2.2.2.1.1, a1.1.2.2.2.1.2.1, ())) else some (a1.1.2.1.1, a1.1.2.1.2.1, ())
noncomputable def raw (k : Nat) (a1 : Arg) : Option Out := p a1
theorem raw_eq (k : Nat) (a1 : Arg) : W k a1 = raw k a1 := by kernel_rfl
theorem ok : Ok prog 146 sig := fn_ok func146 (tl := tl) (gl := gl) (es := []) (fr := []) rfl rfl (by kernel_rfl) (fn_nil _) (fun _ => rfl)
end spec_l6Key
namespace laws_toChange
/-! loop example g00408 laws toChange -/
abbrev Arg : Type := Change × Unit
abbrev Out : Type := Change × Unit
noncomputable def ps : PQ := [(.ro, tChange)]
noncomputable def rs : RQ := [(tChange, (roMd tChange))]
noncomputable def tl : TL := [(4, .bool), (24, tRow), (32, tRow), (39, tChange), (43, tChange)]
noncomputable def gl : GL := [(15, laws_toRow.sig)]
noncomputable def E : Env := { TI := lookN tl, G := lookN gl }
noncomputable def W (k : Nat) (a : Arg) : Option Out := bodyK E k f26 ps rs [] [] a
noncomputable def sem (a : Arg) : Option Out := lift fun k => W k a
noncomputable def sig : Sig := { ps := ps, rs := rs, F := sem }
noncomputable def p (a1 : Arg) : Option Out := (laws_toRow.sem (a1.1.2.1, ())).bind fun r2 => (laws_toRow.sem (a1.1.2.2.2.1, ())).bind fun r3 => some ((a1.1.1, r2.1, a1.1.2.2.1, r3.1, ()), ())
noncomputable def raw (k : Nat) (a1 : Arg) : Option Out := p a1
theorem raw_eq (k : Nat) (a1 : Arg) : W k a1 = raw k a1 := by kernel_rfl
theorem ok : Ok prog 26 sig := fn_ok func26 (tl := tl) (gl := gl) (es := []) (fr := []) rfl rfl (by kernel_rfl) (fc laws_toRow.ok (fn_nil _)) (fun _ => rfl)
end laws_toChange
namespace impl_changeFault
/-! loop example g00408 impl changeFault -/
abbrev Arg : Type := Change × Unit
abbrev Out : Type := Int × Unit
noncomputable def ps : PQ := [(.ro, tChange)]
noncomputable def rs : RQ := [(i64, (roMd i64))]
noncomputable def tl : TL := [(4, .bool), (32, tRow), (43, tChange)]
noncomputable def gl : GL := [(60, impl_RowFault.sig), (148, impl_order.sig)]
noncomputable def E : Env := { TI := lookN tl, G := lookN gl }
noncomputable def W (k : Nat) (a : Arg) : Option Out := bodyK E k f75 ps rs [] [] a
noncomputable def sem (a : Arg) : Option Out := lift fun k => W k a
noncomputable def sig : Sig := { ps := ps, rs := rs, F := sem }
noncomputable def p (a1 : Arg) : Option Out := let j7 : Option Out := bif a1.1.1 then ((impl_RowFault.sem (a1.1.2.1, ())).bind fun r8 => bif !decide (r8.1 = (0 : Int)) then (some (r8.1, ())) else bif a1.1.2.2.1 then ((impl_RowFault.sem (a1.1.2.2.2.1, ())).bind fun r10 => some (r10.1, ())) else some ((0 : Int), ())) else bif a1.1.2.2.1 then ((impl_RowFault.sem (a1.1.2.2.2.1, ())).bind fun r11 => some (r11.1, ())) else some ((0 : Int), ()); bif !a1.1.1 then (bif !a1.1.2.2.1 then (some ((1 : Int), ())) else bif a1.1.1 then (bif a1.1.2.2.1 then ((impl_order.sem (a1.1.2.1, a1.1.2.2.2.1, ())).bind fun r2 => bif !decide (r2.1 = (0 : Int)) then (some ((1 : Int), ())) else j7) else j7) else j7) else bif a1.1.1 then (bif a1.1.2.2.1 then ((impl_order.sem (a1.1.2.1, a1.1.2.2.2.1, ())).bind fun r3 => bif !decide (r3.1 = (0 : Int)) then (some ((1 : Int), ())) else j7) else j7) else j7
noncomputable def raw (k : Nat) (a1 : Arg) : Option Out := p a1
theorem raw_eq (k : Nat) (a1 : Arg) : W k a1 = raw k a1 := by kernel_rfl
theorem ok : Ok prog 75 sig := fn_ok func75 (tl := tl) (gl := gl) (es := []) (fr := []) rfl rfl (by kernel_rfl) (fc impl_RowFault.ok (fc impl_order.ok (fn_nil _))) (fun _ => rfl)
end impl_changeFault
namespace impl_Change_key
/-!  loop example g00408 impl Change  key -/
abbrev Arg : Type := Change × Unit
abbrev Out : Type := Row × Unit
noncomputable def ps : PQ := [(.ro, tChange)]
noncomputable def rs : RQ := [(tRow, (roMd tRow))]
noncomputable def tl : TL := [(4, .bool), (32, tRow), (43, tChange)]
noncomputable def gl : GL := []
noncomputable def E : Env := { TI := lookN tl, G := lookN gl }
noncomputable def W (k : Nat) (a : Arg) : Option Out := bodyK E k f78 ps rs [] [] a
noncomputable def sem (a : Arg) : Option Out := lift fun k => W k a
noncomputable def sig : Sig := { ps := ps, rs := rs, F := sem }
noncomputable def p (a1 : Arg) : Option Out := bif a1.1.2.2.1 then (some (a1.1.2.2.2.1, ())) else some (a1.1.2.1, ())
noncomputable def raw (k : Nat) (a1 : Arg) : Option Out := p a1
theorem raw_eq (k : Nat) (a1 : Arg) : W k a1 = raw k a1 := by kernel_rfl
theorem ok : Ok prog 78 sig := fn_ok func78 (tl := tl) (gl := gl) (es := []) (fr := []) rfl rfl (by kernel_rfl) (fn_nil _) (fun _ => rfl)
end impl_Change_key
namespace spec_l9Change
/-! loop example g00408 spec l9Change -/
abbrev Arg : Type := Change × Unit
abbrev Out : Type := Int × Unit
noncomputable def ps : PQ := [(.ro, (.ptr tChange))]
noncomputable def rs : RQ := [(i64, (roMd i64))]
noncomputable def tl : TL := [(4, .bool), (32, tRow), (43, tChange)]
noncomputable def gl : GL := [(73, spec_l6Change.sig)]
noncomputable def E : Env := { TI := lookN tl, G := lookN gl, od := [(4, [0, 1, 2, 3, 4, 5, 6, 7, 8, 9, 10, 11, 12, 13, 14, 15, 16, 17, 18, 19, 20])] }
noncomputable def W (k : Nat) (a : Arg) : Option Out := bodyK E k f286 ps rs [] [] a
noncomputable def sem (a : Arg) : Option Out := lift fun k => W k a
noncomputable def sig : Sig := { ps := ps, rs := rs, F := sem }
noncomputable def p (a1 : Arg) : Option Out := (spec_l6Change.sem (a1.1, ())).bind fun r2 => bif !decide (r2.1 = (0 : Int)) then (some (r2.1, ())) else bif a1.1.1 then (bif a1.1.2.2.1 then (bif (Ty.eq tRow a1.1.2.1 a1.1.2.2.2.1) then (some ((1 : Int), ())) else some ((0 : Int), ())) else some ((0 : Int), ())) else some ((0 : Int), ())
noncomputable def raw (k : Nat) (a1 : Arg) : Option Out := p a1
theorem raw_eq (k : Nat) (a1 : Arg) : W k a1 = raw k a1 := by kernel_rfl
theorem ok : Ok prog 286 sig := fn_ok func286 (tl := tl) (gl := gl) (es := []) (fr := []) rfl rfl (by kernel_rfl) (fc spec_l6Change.ok (fn_nil _)) (fun _ => rfl)
end spec_l9Change
namespace impl_isTx
/-! loop example g00408 impl isTx -/
abbrev Arg : Type := Int × Unit
abbrev Out : Type := Bool × Unit
noncomputable def ps : PQ := [(.ro, i64)]
noncomputable def rs : RQ := [(.bool, (roMd .bool))]
noncomputable def tl : TL := []
noncomputable def gl : GL := [(99, impl_in.sig)]
noncomputable def E : Env := { TI := lookN tl, G := lookN gl }
noncomputable def W (k : Nat) (a : Arg) : Option Out := bodyK E k f185 ps rs [] [] a
noncomputable def sem (a : Arg) : Option Out := lift fun k => W k a
noncomputable def sig : Sig := { ps := ps, rs := rs, F := sem }
noncomputable def p (a1 : Arg) : Option Out := (impl_in.sem (a1.1, (1 : Int), (99 : Int), ())).bind fun r2 => some (r2.1, ())
noncomputable def raw (k : Nat) (a1 : Arg) : Option Out := p a1
theorem raw_eq (k : Nat) (a1 : Arg) : W k a1 = raw k a1 := by kernel_rfl
theorem ok : Ok prog 185 sig := fn_ok func185 (tl := tl) (gl := gl) (es := []) (fr := []) rfl rfl (by kernel_rfl) (fc impl_in.ok (fn_nil _)) (fun _ => rfl)
end impl_isTx
namespace impl_singleFault
/-! loop example g00408 impl singleFault -/
abbrev Arg : Type := Change × Unit
abbrev Out : Type := Int × Unit
noncomputable def ps : PQ := [(.ro, tChange)]
noncomputable def rs : RQ := [(i64, (roMd i64))]
noncomputable def tl : TL := [(4, .bool), (32, tRow), (43, tChange)]
noncomputable def gl : GL := [(75, impl_changeFault.sig)]
noncomputable def E : Env := { TI := lookN tl, G := lookN gl }
noncomputable def W (k : Nat) (a : Arg) : Option Out := bodyK E k f163 ps rs [] [] a
noncomputable def sem (a : Arg) : Option Out := lift fun k => W k a
noncomputable def sig : Sig := { ps := ps, rs := rs, F := sem }
noncomputable def p (a1 : Arg) : Option Out := (impl_changeFault.sem (a1.1, ())).bind fun r2 => bif !decide (r2.1 = (0 : Int)) then (some (r2.1, ())) else bif a1.1.1 then (bif a1.1.2.2.1 then (bif (Ty.eq tRow a1.1.2.1 a1.1.2.2.2.1) then (some ((1 : Int), ())) else some ((0 : Int), ())) else some ((0 : Int), ())) else some ((0 : Int), ())
noncomputable def raw (k : Nat) (a1 : Arg) : Option Out := p a1
theorem raw_eq (k : Nat) (a1 : Arg) : W k a1 = raw k a1 := by kernel_rfl
theorem ok : Ok prog 163 sig := fn_ok func163 (tl := tl) (gl := gl) (es := []) (fr := []) rfl rfl (by kernel_rfl) (fc impl_changeFault.ok (fn_nil _)) (fun _ => rfl)
end impl_singleFault
namespace slices_Clone_Change
/-! slices Clone   loop example g00408 impl Change loop example g00408 impl Change  -/
abbrev Arg : Type := (List Change) × Unit
abbrev Out : Type := (List Change) × Unit
noncomputable def ps : PQ := [(.ro, (.slc tChange))]
noncomputable def rs : RQ := [((.slc tChange), (ownMd (.slc tChange)))]
noncomputable def tl : TL := [(79, (.slc tChange))]
noncomputable def gl : GL := []
noncomputable def E : Env := { TI := lookN tl, G := lookN gl }
noncomputable def W (k : Nat) (a : Arg) : Option Out := bodyK E k f233 ps rs [] [] a
noncomputable def sem (a : Arg) : Option Out := lift fun k => W k a
noncomputable def sig : Sig := { ps := ps, rs := rs, F := sem }
noncomputable def p (a1 : Arg) : Option Out := nilB a1.1 (some (([] : List Change), ())) (if ([] : List Change).length + a1.1.length ≤ CAP then (some (([] : List Change) ++ a1.1, ())) else none)
noncomputable def raw (k : Nat) (a1 : Arg) : Option Out := p a1
theorem raw_eq (k : Nat) (a1 : Arg) : W k a1 = raw k a1 := by kernel_rfl
theorem ok : Ok prog 233 sig := fn_ok func233 (tl := tl) (gl := gl) (es := []) (fr := []) rfl rfl (by kernel_rfl) (fn_nil _) (fun _ => rfl)
end slices_Clone_Change
namespace laws_szChangeS
/-! loop example g00408 laws szChangeS -/
abbrev Arg : Type := (List Change) × Int × Unit
abbrev Out : Type := Int × Unit
noncomputable def ps : PQ := [(.ro, (.slc tChange)), (.ro, i64)]
noncomputable def rs : RQ := [(i64, (roMd i64))]
noncomputable def tl : TL := [(39, tChange), (325, (.slc tChange))]
noncomputable def gl : GL := [(24, laws_szChange.sig)]
noncomputable def E : Env := { TI := lookN tl, G := lookN gl, lv := [(5, [0, 1, 5])], lx := [(0, [1])] }
noncomputable def W (k : Nat) (a : Arg) : Option Out := bodyK E k f294 ps rs [] [] a
noncomputable def sem (a : Arg) : Option Out := lift fun k => W k a
noncomputable def sig : Sig := { ps := ps, rs := rs, F := sem }
noncomputable def C : Code := bodyOf f294
noncomputable def fin : St → Option Out := outK ps rs [] (Func.results f294).toList (mvs [])
noncomputable def K0 : Ex → St → Option Out := endK fin
noncomputable def T0 (a1 : Arg) (v402 : Int × Int) : St := { n := 27, sl := [(0, .val (.slc tChange) a1.1), (1, .val i64 v402.1), (5, .val i64 v402.2)], vr := [], lent := [] }
noncomputable def N0 (k : Nat) : St → (Ex → St → Option Out) → Option Out := codeK E k fin (sub [1, 1, 1, 0, 1, 0, 0] C)
noncomputable def M0 : St → St := keepF [0, 1, 5] []
noncomputable def S0 (rec : RT Out) (a1 : Arg) : (Int × Int) → Option Out := fun v402 => rec (T0 a1 v402)
noncomputable def X0_0 (K : KT Out) (a1 : Arg) : Int → Option Out := fun z => K (.exit 0) ({ n := 27, sl := [(1, .val i64 z)], vr := [], lent := [] })
noncomputable def b0 (self : (Int × Int) → Option Out) (e0 : Int → Option Out) (a1 : Arg) (v402 : Int × Int) : Option Out := bif decide (v402.2 < (a1.1.length : Int)) then (if 0 ≤ v402.2 then ((a1.1[v402.2.toNat]?).bind fun x603 => (laws_szChange.sem (x603, v402.1, ())).bind fun r604 => bif decide (r604.1 < (0 : Int)) then (some ((-1 : Int), ())) else self (r604.1, w64 (v402.2 + (1 : Int)))) else none) else e0 v402.1
noncomputable def B0 (k : Nat) (self : (Int × Int) → Option Out) (e0 : Int → Option Out) (a1 : Arg) (v402 : Int × Int) : Option Out := b0 self e0 a1 v402
theorem B0_eq (k : Nat) (rec : RT Out) (K : KT Out) (a1 : Arg) (v402 : Int × Int) : N0 k (T0 a1 v402) (loopC rec M0 K) = B0 k (S0 rec a1) (X0_0 K a1) a1 v402 := by kernel_rfl
noncomputable def l0 (k : Nat) (a1 : Arg) (e0 : Int → Option Out) (v : Int × Int) : Option Out := rawIter (fun self v => B0 k self e0 a1 v) k v
theorem l0_eq (k : Nat) (K : KT Out) (a1 : Arg) (v402 : Int × Int) : iterK (N0 k) M0 K k (T0 a1 v402) = l0 k a1 (X0_0 K a1) v402 :=
  iter_raw _ _ K (fun v402 => (T0 a1 v402)) (fun self v => B0 k self (X0_0 K a1) a1 v) (fun rec v => B0_eq k rec K a1 v) k v402
noncomputable def q0 (a1 : Arg) (z605 : Int) : Option Out := some (z605, ())
noncomputable def Q0 (k : Nat) (a1 : Arg) (z605 : Int) : Option Out := q0 a1 z605
theorem Q0_eq (k : Nat) (a1 : Arg) (z605 : Int) : X0_0 (blockC 0 (seqC (codeK E k fin (sub [1, 1, 1, 1] C)) K0)) a1 z605 = Q0 k a1 z605 := by kernel_rfl
noncomputable def s0 (k : Nat) (a1 : Arg) : (Int × Int) → Option Out := fun v402 => iterK (N0 k) M0 (blockC 0 (seqC (codeK E k fin (sub [1, 1, 1, 1] C)) K0)) k (T0 a1 v402)
noncomputable def r0 (k : Nat) (a1 : Arg) : (Int × Int) → Option Out := fun v402 => l0 k a1 (fun z => Q0 k a1 z) v402
theorem s0_eq (k : Nat) (a1 : Arg) : s0 k a1 = r0 k a1 := by
  funext v402;
  have h0 : X0_0 ((blockC 0 (seqC (codeK E k fin (sub [1, 1, 1, 1] C)) K0))) a1 = fun z => Q0 k a1 z := funext fun z => Q0_eq k a1 z
  refine (l0_eq k ((blockC 0 (seqC (codeK E k fin (sub [1, 1, 1, 1] C)) K0))) a1 v402).trans ?_
  rw [h0]
  rfl
noncomputable def p (l0 : (Int × Int) → Option Out) (a1 : Arg) : Option Out := bif decide (w64 (a1.2.1 - (a1.1.length : Int)) < (0 : Int)) then (some ((-1 : Int), ())) else l0 (w64 (a1.2.1 - (a1.1.length : Int)), (0 : Int))
noncomputable def raw (k : Nat) (a1 : Arg) : Option Out := p (r0 k a1) a1
theorem p_eq (k : Nat) (a1 : Arg) : W k a1 = p (s0 k a1) a1 := by kernel_rfl
theorem raw_eq (k : Nat) (a1 : Arg) : W k a1 = raw k a1 := (p_eq k a1).trans (by rw [s0_eq]; rfl)
theorem ok : Ok prog 294 sig := fn_ok func294 (tl := tl) (gl := gl) (es := []) (fr := []) rfl rfl (by kernel_rfl) (fc laws_szChange.ok (fn_nil _)) (fun _ => rfl)
end laws_szChangeS
namespace laws_szBuffer
/-! loop example g00408 laws szBuffer -/
abbrev Arg : Type := Buffer × Int × Unit
abbrev Out : Type := Int × Unit
noncomputable def ps : PQ := [(.ro, tBuffer), (.ro, i64)]
noncomputable def rs : RQ := [(i64, (roMd i64))]
noncomputable def tl : TL := [(325, (.slc tChange)), (327, tBuffer)]
noncomputable def gl : GL := [(294, laws_szChangeS.sig)]
noncomputable def E : Env := { TI := lookN tl, G := lookN gl }
noncomputable def W (k : Nat) (a : Arg) : Option Out := bodyK E k f254 ps rs [] [] a
noncomputable def sem (a : Arg) : Option Out := lift fun k => W k a
noncomputable def sig : Sig := { ps := ps, rs := rs, F := sem }
noncomputable def p (a1 : Arg) : Option Out := (laws_szChangeS.sem (a1.1.2.1, a1.2.1, ())).bind fun r2 => bif decide (r2.1 < (0 : Int)) then (some ((-1 : Int), ())) else some (r2.1, ())
noncomputable def raw (k : Nat) (a1 : Arg) : Option Out := p a1
theorem raw_eq (k : Nat) (a1 : Arg) : W k a1 = raw k a1 := by kernel_rfl
theorem ok : Ok prog 254 sig := fn_ok func254 (tl := tl) (gl := gl) (es := []) (fr := []) rfl rfl (by kernel_rfl) (fc laws_szChangeS.ok (fn_nil _)) (fun _ => rfl)
end laws_szBuffer
namespace laws_szBufferS
/-! loop example g00408 laws szBufferS -/
abbrev Arg : Type := (List Buffer) × Int × Unit
abbrev Out : Type := Int × Unit
noncomputable def ps : PQ := [(.ro, (.slc tBuffer)), (.ro, i64)]
noncomputable def rs : RQ := [(i64, (roMd i64))]
noncomputable def tl : TL := [(73, (.slc tBuffer)), (327, tBuffer)]
noncomputable def gl : GL := [(254, laws_szBuffer.sig)]
noncomputable def E : Env := { TI := lookN tl, G := lookN gl, lv := [(5, [0, 1, 5])], lx := [(0, [1])] }
noncomputable def W (k : Nat) (a : Arg) : Option Out := bodyK E k f192 ps rs [] [] a
noncomputable def sem (a : Arg) : Option Out := lift fun k => W k a
noncomputable def sig : Sig := { ps := ps, rs := rs, F := sem }
noncomputable def C : Code := bodyOf f192
noncomputable def fin : St → Option Out := outK ps rs [] (Func.results f192).toList (mvs [])
noncomputable def K0 : Ex → St → Option Out := endK fin
noncomputable def T0 (a1 : Arg) (v402 : Int × Int) : St := { n := 27, sl := [(0, .val (.slc tBuffer) a1.1), (1, .val i64 v402.1), (5, .val i64 v402.2)], vr := [], lent := [] }
noncomputable def N0 (k : Nat) : St → (Ex → St → Option Out) → Option Out := codeK E k fin (sub [1, 1, 1, 0, 1, 0, 0] C)
noncomputable def M0 : St → St := keepF [0, 1, 5] []
noncomputable def S0 (rec : RT Out) (a1 : Arg) : (Int × Int) → Option Out := fun v402 => rec (T0 a1 v402)
noncomputable def X0_0 (K : KT Out) (a1 : Arg) : Int → Option Out := fun z => K (.exit 0) ({ n := 27, sl := [(1, .val i64 z)], vr := [], lent := [] })
noncomputable def b0 (self : (Int × Int) → Option Out) (e0 : Int → Option Out) (a1 : Arg) (v402 : Int × Int) : Option Out := bif decide (v402.2 < (a1.1.length : Int)) then (if 0 ≤ v402.2 then ((a1.1[v402.2.toNat]?).bind fun x603 => (laws_szBuffer.sem (x603, v402.1, ())).bind fun r604 => bif decide (r604.1 < (0 : Int)) then (some ((-1 : Int), ())) else self (r604.1, w64 (v402.2 + (1 : Int)))) else none) else e0 v402.1
noncomputable def B0 (k : Nat) (self : (Int × Int) → Option Out) (e0 : Int → Option Out) (a1 : Arg) (v402 : Int × Int) : Option Out := b0 self e0 a1 v402
theorem B0_eq (k : Nat) (rec : RT Out) (K : KT Out) (a1 : Arg) (v402 : Int × Int) : N0 k (T0 a1 v402) (loopC rec M0 K) = B0 k (S0 rec a1) (X0_0 K a1) a1 v402 := by kernel_rfl
noncomputable def l0 (k : Nat) (a1 : Arg) (e0 : Int → Option Out) (v : Int × Int) : Option Out := rawIter (fun self v => B0 k self e0 a1 v) k v
theorem l0_eq (k : Nat) (K : KT Out) (a1 : Arg) (v402 : Int × Int) : iterK (N0 k) M0 K k (T0 a1 v402) = l0 k a1 (X0_0 K a1) v402 :=
  iter_raw _ _ K (fun v402 => (T0 a1 v402)) (fun self v => B0 k self (X0_0 K a1) a1 v) (fun rec v => B0_eq k rec K a1 v) k v402
noncomputable def q0 (a1 : Arg) (z605 : Int) : Option Out := some (z605, ())
noncomputable def Q0 (k : Nat) (a1 : Arg) (z605 : Int) : Option Out := q0 a1 z605
theorem Q0_eq (k : Nat) (a1 : Arg) (z605 : Int) : X0_0 (blockC 0 (seqC (codeK E k fin (sub [1, 1, 1, 1] C)) K0)) a1 z605 = Q0 k a1 z605 := by kernel_rfl
noncomputable def s0 (k : Nat) (a1 : Arg) : (Int × Int) → Option Out := fun v402 => iterK (N0 k) M0 (blockC 0 (seqC (codeK E k fin (sub [1, 1, 1, 1] C)) K0)) k (T0 a1 v402)
noncomputable def r0 (k : Nat) (a1 : Arg) : (Int × Int) → Option Out := fun v402 => l0 k a1 (fun z => Q0 k a1 z) v402
theorem s0_eq (k : Nat) (a1 : Arg) : s0 k a1 = r0 k a1 := by
  funext v402;
  have h0 : X0_0 ((blockC 0 (seqC (codeK E k fin (sub [1, 1, 1, 1] C)) K0))) a1 = fun z => Q0 k a1 z := funext fun z => Q0_eq k a1 z
  refine (l0_eq k ((blockC 0 (seqC (codeK E k fin (sub [1, 1, 1, 1] C)) K0))) a1 v402).trans ?_
  rw [h0]
  rfl
noncomputable def p (l0 : (Int × Int) → Option Out) (a1 : Arg) : Option Out := bif decide (w64 (a1.2.1 - (a1.1.length : Int)) < (0 : Int)) then (some ((-1 : Int), ())) else l0 (w64 (a1.2.1 - (a1.1.length : Int)), (0 : Int))
noncomputable def raw (k : Nat) (a1 : Arg) : Option Out := p (r0 k a1) a1
theorem p_eq (k : Nat) (a1 : Arg) : W k a1 = p (s0 k a1) a1 := by kernel_rfl
theorem raw_eq (k : Nat) (a1 : Arg) : W k a1 = raw k a1 := (p_eq k a1).trans (by rw [s0_eq]; rfl)
theorem ok : Ok prog 192 sig := fn_ok func192 (tl := tl) (gl := gl) (es := []) (fr := []) rfl rfl (by kernel_rfl) (fc laws_szBuffer.ok (fn_nil _)) (fun _ => rfl)
end laws_szBufferS
namespace laws_szMiner
/-! loop example g00408 laws szMiner -/
abbrev Arg : Type := Miner × Int × Unit
abbrev Out : Type := Int × Unit
noncomputable def ps : PQ := [(.ro, tMiner), (.ro, i64)]
noncomputable def rs : RQ := [(i64, (roMd i64))]
noncomputable def tl : TL := [(22, (.slc (.slc u8))), (73, (.slc tBuffer)), (75, tMiner)]
noncomputable def gl : GL := [(11, laws_szByteSS.sig), (192, laws_szBufferS.sig)]
noncomputable def E : Env := { TI := lookN tl, G := lookN gl }
noncomputable def W (k : Nat) (a : Arg) : Option Out := bodyK E k f106 ps rs [] [] a
noncomputable def sem (a : Arg) : Option Out := lift fun k => W k a
noncomputable def sig : Sig := { ps := ps, rs := rs, F := sem }
noncomputable def p (a1 : Arg) : Option Out := (laws_szByteSS.sem (a1.1.1, a1.2.1, ())).bind fun r2 => bif decide (r2.1 < (0 : Int)) then (some ((-1 : Int), ())) else (laws_szBufferS.sem (a1.1.2.1, r2.1, ())).bind fun r3 => bif decide (r3.1 < (0 : Int)) then (some ((-1 : Int), ())) else some (r3.1, ())
noncomputable def raw (k : Nat) (a1 : Arg) : Option Out := p a1
theorem raw_eq (k : Nat) (a1 : Arg) : W k a1 = raw k a1 := by kernel_rfl
theorem ok : Ok prog 106 sig := fn_ok func106 (tl := tl) (gl := gl) (es := []) (fr := []) rfl rfl (by kernel_rfl) (fc laws_szByteSS.ok (fc laws_szBufferS.ok (fn_nil _))) (fun _ => rfl)
end laws_szMiner
namespace laws_szConnector
/-! loop example g00408 laws szConnector -/
abbrev Arg : Type := Connector × Int × Unit
abbrev Out : Type := Int × Unit
noncomputable def ps : PQ := [(.ro, tConnector), (.ro, i64)]
noncomputable def rs : RQ := [(i64, (roMd i64))]
noncomputable def tl : TL := [(75, tMiner), (77, tConnector)]
noncomputable def gl : GL := [(106, laws_szMiner.sig)]
noncomputable def E : Env := { TI := lookN tl, G := lookN gl }
noncomputable def W (k : Nat) (a : Arg) : Option Out := bodyK E k f41 ps rs [] [] a
noncomputable def sem (a : Arg) : Option Out := lift fun k => W k a
noncomputable def sig : Sig := { ps := ps, rs := rs, F := sem }
noncomputable def p (a1 : Arg) : Option Out := (laws_szMiner.sem (a1.1.1, a1.2.1, ())).bind fun r2 => bif decide (r2.1 < (0 : Int)) then (some ((-1 : Int), ())) else (laws_szMiner.sem (a1.1.2.2.1, r2.1, ())).bind fun r3 => bif decide (r3.1 < (0 : Int)) then (some ((-1 : Int), ())) else some (r3.1, ())
noncomputable def raw (k : Nat) (a1 : Arg) : Option Out := p a1
theorem raw_eq (k : Nat) (a1 : Arg) : W k a1 = raw k a1 := by kernel_rfl
theorem ok : Ok prog 41 sig := fn_ok func41 (tl := tl) (gl := gl) (es := []) (fr := []) rfl rfl (by kernel_rfl) (fc laws_szMiner.ok (fn_nil _)) (fun _ => rfl)
end laws_szConnector
namespace spec_l9Ahead
/-! loop example g00408 spec l9Ahead -/
abbrev Arg : Type := Change × Change × Unit
abbrev Out : Type := Bool × Unit
noncomputable def ps : PQ := [(.ro, (.ptr tChange)), (.ro, (.ptr tChange))]
noncomputable def rs : RQ := [(.bool, (roMd .bool))]
noncomputable def tl : TL := []
noncomputable def gl : GL := [(146, spec_l6Key.sig)]
noncomputable def E : Env := { TI := lookN tl, G := lookN gl }
noncomputable def W (k : Nat) (a : Arg) : Option Out := bodyK E k f295 ps rs [] [] a
noncomputable def sem (a : Arg) : Option Out := lift fun k => W k a
noncomputable def sig : Sig := { ps := ps, rs := rs, F := sem }
noncomputable def p (a1 : Arg) : Option Out := (spec_l6Key.sem (a1.1, ())).bind fun r2 => (spec_l6Key.sem (a1.2.1, ())).bind fun r3 => bif decide (r2.1 < r3.1) then (some (true, ())) else bif decide (r2.1 = r3.1) then (some (decide (r2.2.1 < r3.2.1), ())) else some (false, ())
noncomputable def raw (k : Nat) (a1 : Arg) : Option Out := p a1
theorem raw_eq (k : Nat) (a1 : Arg) : W k a1 = raw k a1 := by kernel_rfl
theorem ok : Ok prog 295 sig := fn_ok func295 (tl := tl) (gl := gl) (es := []) (fr := []) rfl rfl (by kernel_rfl) (fc spec_l6Key.ok (fn_nil _)) (fun _ => rfl)
end spec_l9Ahead
namespace spec_l9List
/-! loop example g00408 spec l9List -/
abbrev Arg : Type := (List Change) × Unit
abbrev Out : Type := Int × Unit
noncomputable def ps : PQ := [(.ro, (.slc tChange))]
noncomputable def rs : RQ := [(i64, (roMd i64))]
noncomputable def tl : TL := [(79, (.slc tChange))]
noncomputable def gl : GL := [(286, spec_l9Change.sig), (295, spec_l9Ahead.sig)]
noncomputable def E : Env := { TI := lookN tl, G := lookN gl, lv := [(4, [0, 3])], lx := [(0, [])], od := [(9, [0, 1, 2, 3, 4, 5, 6, 7, 8, 9, 10, 11, 12])] }
noncomputable def W (k : Nat) (a : Arg) : Option Out := bodyK E k f255 ps rs [] [] a
noncomputable def sem (a : Arg) : Option Out := lift fun k => W k a
noncomputable def sig : Sig := { ps := ps, rs := rs, F := sem }
noncomputable def C : Code := bodyOf f255
noncomputable def fin : St → Option Out := outK ps rs [] (Func.results f255).toList (mvs [])
noncomputable def K0 : Ex → St → Option Out := endK fin
noncomputable def T0 (a1 : Arg) (v402 : Int) : St := { n := 34, sl := [(0, .val (.slc tChange) a1.1), (3, .val i64 v402)], vr := [], lent := [] }
noncomputable def N0 (k : Nat) : St → (Ex → St → Option Out) → Option Out := codeK E k fin (sub [1, 1, 0, 1, 0, 0] C)
noncomputable def M0 : St → St := keepF [0, 3] []
noncomputable def S0 (rec : RT Out) (a1 : Arg) : (Int) → Option Out := fun v402 => rec (T0 a1 v402)
noncomputable def X0_0 (K : KT Out) (a1 : Arg) : (Unit) → Option Out := fun z => K (.exit 0) ({ n := 34, sl := [], vr := [], lent := [] })
noncomputable def b0 (self : Int → Option Out) (e0 : (Unit) → Option Out) (a1 : Arg) (v402 : Int) : Option Out := bif decide (v402 < (a1.1.length : Int)) then (if 0 ≤ v402 then ((a1.1[v402.toNat]?).bind fun x603 => (spec_l9Change.sem (x603, ())).bind fun r604 => bif !decide (r604.1 = (0 : Int)) then (some (r604.1, ())) else bif decide ((0 : Int) < v402) then (if 0 ≤ w64 (v402 - (1 : Int)) then ((a1.1[(w64 (v402 - (1 : Int))).toNat]?).bind fun x605 => if 0 ≤ v402 then ((a1.1[v402.toNat]?).bind fun x606 => (spec_l9Ahead.sem (x605, x606, ())).bind fun r607 => bif !r607.1 then (some ((1 : Int), ())) else self (w64 (v402 + (1 : Int)))) else none) else none) else self (w64 (v402 + (1 : Int)))) else none) else e0 ()
noncomputable def B0 (k : Nat) (self : Int → Option Out) (e0 : (Unit) → Option Out) (a1 : Arg) (v402 : Int) : Option Out := b0 self e0 a1 v402
theorem B0_eq (k : Nat) (rec : RT Out) (K : KT Out) (a1 : Arg) (v402 : Int) : N0 k (T0 a1 v402) (loopC rec M0 K) = B0 k (S0 rec a1) (X0_0 K a1) a1 v402 := by kernel_rfl
noncomputable def l0 (k : Nat) (a1 : Arg) (e0 : (Unit) → Option Out) (v : Int) : Option Out := rawIter (fun self v => B0 k self e0 a1 v) k v
theorem l0_eq (k : Nat) (K : KT Out) (a1 : Arg) (v402 : Int) : iterK (N0 k) M0 K k (T0 a1 v402) = l0 k a1 (X0_0 K a1) v402 :=
  iter_raw _ _ K (fun v402 => (T0 a1 v402)) (fun self v => B0 k self (X0_0 K a1) a1 v) (fun rec v => B0_eq k rec K a1 v) k v402
noncomputable def q0 (a1 : Arg) (z608 : (Unit)) : Option Out := some ((0 : Int), ())
noncomputable def Q0 (k : Nat) (a1 : Arg) (z608 : (Unit)) : Option Out := q0 a1 z608
theorem Q0_eq (k : Nat) (a1 : Arg) (z608 : (Unit)) : X0_0 (blockC 0 (seqC (codeK E k fin (sub [1, 1, 1] C)) K0)) a1 z608 = Q0 k a1 z608 := by kernel_rfl
noncomputable def s0 (k : Nat) (a1 : Arg) : (Int) → Option Out := fun v402 => iterK (N0 k) M0 (blockC 0 (seqC (codeK E k fin (sub [1, 1, 1] C)) K0)) k (T0 a1 v402)
noncomputable def r0 (k : Nat) (a1 : Arg) : (Int) → Option Out := fun v402 => l0 k a1 (fun z => Q0 k a1 z) v402
theorem s0_eq (k : Nat) (a1 : Arg) : s0 k a1 = r0 k a1 := by
  funext v402;
  have h0 : X0_0 ((blockC 0 (seqC (codeK E k fin (sub [1, 1, 1] C)) K0))) a1 = fun z => Q0 k a1 z := funext fun z => Q0_eq k a1 z
  refine (l0_eq k ((blockC 0 (seqC (codeK E k fin (sub [1, 1, 1] C)) K0))) a1 v402).trans ?_
  rw [h0]
  rfl
noncomputable def p (l0 : (Int) → Option Out) (a1 : Arg) : Option Out := bif decide ((60 : Int) < (a1.1.length : Int)) then (some ((2 : Int), ())) else l0 (0 : Int)
noncomputable def raw (k : Nat) (a1 : Arg) : Option Out := p (r0 k a1) a1
theorem p_eq (k : Nat) (a1 : Arg) : W k a1 = p (s0 k a1) a1 := by kernel_rfl
theorem raw_eq (k : Nat) (a1 : Arg) : W k a1 = raw k a1 := (p_eq k a1).trans (by rw [s0_eq]; rfl)
theorem ok : Ok prog 255 sig := fn_ok func255 (tl := tl) (gl := gl) (es := []) (fr := []) rfl rfl (by kernel_rfl) (fc spec_l9Change.ok (fc spec_l9Ahead.ok (fn_nil _))) (fun _ => rfl)
end spec_l9List
namespace spec_l9At
/-! loop example g00408 spec l9At -/
abbrev Arg : Type := Miner × Int × Unit
abbrev Out : Type := Int × Unit
noncomputable def ps : PQ := [(.ro, (.ptr tMiner)), (.ro, i64)]
noncomputable def rs : RQ := [(i64, (roMd i64))]
noncomputable def tl : TL := [(2, i64), (82, (.slc tBuffer)), (84, tMiner), (270, tBuffer)]
noncomputable def gl : GL := []
noncomputable def E : Env := { TI := lookN tl, G := lookN gl, lv := [(2, [0, 1, 5])], lx := [(0, [])] }
noncomputable def W (k : Nat) (a : Arg) : Option Out := bodyK E k f256 ps rs [] [] a
noncomputable def sem (a : Arg) : Option Out := lift fun k => W k a
noncomputable def sig : Sig := { ps := ps, rs := rs, F := sem }
noncomputable def C : Code := bodyOf f256
noncomputable def fin : St → Option Out := outK ps rs [] (Func.results f256).toList (mvs [])
noncomputable def K0 : Ex → St → Option Out := endK fin
noncomputable def T0 (a1 : Arg) (v402 : Int) : St := { n := 26, sl := [(0, .cp tMiner a1.1), (1, .val i64 a1.2.1), (5, .val i64 v402)], vr := [], lent := [] }
noncomputable def N0 (k : Nat) : St → (Ex → St → Option Out) → Option Out := codeK E k fin (sub [1, 0, 1, 0, 0] C)
noncomputable def M0 : St → St := keepF [0, 1, 5] []
noncomputable def S0 (rec : RT Out) (a1 : Arg) : (Int) → Option Out := fun v402 => rec (T0 a1 v402)
noncomputable def X0_0 (K : KT Out) (a1 : Arg) : (Unit) → Option Out := fun z => K (.exit 0) ({ n := 26, sl := [], vr := [], lent := [] })
noncomputable def b0 (self : Int → Option Out) (e0 : (Unit) → Option Out) (a1 : Arg) (v402 : Int) : Option Out := bif decide (v402 < (a1.1.2.1.length : Int)) then (if 0 ≤ v402 then ((a1.1.2.1[v402.toNat]?).bind fun x603 => bif decide (x603.1 = a1.2.1) then (some (v402, ())) else self (w64 (v402 + (1 : Int)))) else none) else e0 ()
noncomputable def B0 (k : Nat) (self : Int → Option Out) (e0 : (Unit) → Option Out) (a1 : Arg) (v402 : Int) : Option Out := b0 self e0 a1 v402
theorem B0_eq (k : Nat) (rec : RT Out) (K : KT Out) (a1 : Arg) (v402 : Int) : N0 k (T0 a1 v402) (loopC rec M0 K) = B0 k (S0 rec a1) (X0_0 K a1) a1 v402 := by kernel_rfl
noncomputable def l0 (k : Nat) (a1 : Arg) (e0 : (Unit) → Option Out) (v : Int) : Option Out := rawIter (fun self v => B0 k self e0 a1 v) k v
theorem l0_eq (k : Nat) (K : KT Out) (a1 : Arg) (v402 : Int) : iterK (N0 k) M0 K k (T0 a1 v402) = l0 k a1 (X0_0 K a1) v402 :=
  iter_raw _ _ K (fun v402 => (T0 a1 v402)) (fun self v => B0 k self (X0_0 K a1) a1 v) (fun rec v => B0_eq k rec K a1 v) k v402
noncomputable def q0 (a1 : Arg) (z604 : (Unit)) : Option Out := some ((-1 : Int), ())
noncomputable def Q0 (k : Nat) (a1 : Arg) (z604 : (Unit)) : Option Out := q0 a1 z604
theorem Q0_eq (k : Nat) (a1 : Arg) (z604 : (Unit)) : X0_0 (blockC 0 (seqC (codeK E k fin (sub [1, 1] C)) K0)) a1 z604 = Q0 k a1 z604 := by kernel_rfl
noncomputable def s0 (k : Nat) (a1 : Arg) : (Int) → Option Out := fun v402 => iterK (N0 k) M0 (blockC 0 (seqC (codeK E k fin (sub [1, 1] C)) K0)) k (T0 a1 v402)
noncomputable def r0 (k : Nat) (a1 : Arg) : (Int) → Option Out := fun v402 => l0 k a1 (fun z => Q0 k a1 z) v402
theorem s0_eq (k : Nat) (a1 : Arg) : s0 k a1 = r0 k a1 := by
  funext v402;
  have h0 : X0_0 ((blockC 0 (seqC (codeK E k fin (sub [1, 1] C)) K0))) a1 = fun z => Q0 k a1 z := funext fun z => Q0_eq k a1 z
  refine (l0_eq k ((blockC 0 (seqC (codeK E k fin (sub [1, 1] C)) K0))) a1 v402).trans ?_
  rw [h0]
  rfl
noncomputable def p (l0 : (Int) → Option Out) (a1 : Arg) : Option Out := l0 (0 : Int)
noncomputable def raw (k : Nat) (a1 : Arg) : Option Out := p (r0 k a1) a1
theorem p_eq (k : Nat) (a1 : Arg) : W k a1 = p (s0 k a1) a1 := by kernel_rfl
theorem raw_eq (k : Nat) (a1 : Arg) : W k a1 = raw k a1 := (p_eq k a1).trans (by rw [s0_eq]; rfl)
theorem ok : Ok prog 256 sig := fn_ok func256 (tl := tl) (gl := gl) (es := []) (fr := []) rfl rfl (by kernel_rfl) (fn_nil _) (fun _ => rfl)
end spec_l9At
namespace spec_l9Fault
/-! loop example g00408 spec l9Fault -/
abbrev Arg : Type := Miner × Unit
abbrev Out : Type := Int × Unit
noncomputable def ps : PQ := [(.ro, (.ptr tMiner))]
noncomputable def rs : RQ := [(i64, (roMd i64))]
noncomputable def tl : TL := [(2, i64), (22, (.slc (.slc u8))), (79, (.slc tChange)), (82, (.slc tBuffer)), (84, tMiner), (270, tBuffer)]
noncomputable def gl : GL := [(53, spec_l6Fault.sig), (123, spec_l1In.sig), (255, spec_l9List.sig), (256, spec_l9At.sig)]
noncomputable def E : Env := { TI := lookN tl, G := lookN gl, lv := [(7, [0, 4])], lx := [(0, [])] }
noncomputable def W (k : Nat) (a : Arg) : Option Out := bodyK E k f193 ps rs [] [] a
noncomputable def sem (a : Arg) : Option Out := lift fun k => W k a
noncomputable def sig : Sig := { ps := ps, rs := rs, F := sem }
noncomputable def C : Code := bodyOf f193
noncomputable def fin : St → Option Out := outK ps rs [] (Func.results f193).toList (mvs [])
noncomputable def K0 : Ex → St → Option Out := endK fin
noncomputable def T0 (a1 : Arg) (v403 : Int) : St := { n := 63, sl := [(0, .cp tMiner a1.1), (4, .val i64 v403)], vr := [], lent := [] }
noncomputable def N0 (k : Nat) : St → (Ex → St → Option Out) → Option Out := codeK E k fin (sub [1, 1, 1, 0, 1, 0, 0] C)
noncomputable def M0 : St → St := keepF [0, 4] []
noncomputable def S0 (rec : RT Out) (a1 : Arg) : (Int) → Option Out := fun v403 => rec (T0 a1 v403)
noncomputable def X0_0 (K : KT Out) (a1 : Arg) : (Unit) → Option Out := fun z => K (.exit 0) ({ n := 63, sl := [], vr := [], lent := [] })
noncomputable def b0 (self : Int → Option Out) (e0 : (Unit) → Option Out) (a1 : Arg) (v403 : Int) : Option Out := bif decide (v403 < (a1.1.2.1.length : Int)) then (if 0 ≤ v403 then ((a1.1.2.1[v403.toNat]?).bind fun x604 => (spec_l1In.sem (x604.1, (1 : Int), (99 : Int), ())).bind fun r605 => bif !r605.1 then (some ((3 : Int), ())) else if 0 ≤ v403 then ((a1.1.2.1[v403.toNat]?).bind fun x606 => (spec_l9List.sem (x606.2.1, ())).bind fun r607 => bif !decide (r607.1 = (0 : Int)) then (some (r607.1, ())) else if 0 ≤ v403 then ((a1.1.2.1[v403.toNat]?).bind fun x608 => (spec_l9At.sem (a1.1, x608.1, ())).bind fun r609 => bif !decide (r609.1 = v403) then (some ((6 : Int), ())) else self (w64 (v403 + (1 : Int)))) else none) else none) else none) else e0 ()
noncomputable def B0 (k : Nat) (self : Int → Option Out) (e0 : (Unit) → Option Out) (a1 : Arg) (v403 : Int) : Option Out := b0 self e0 a1 v403
theorem B0_eq (k : Nat) (rec : RT Out) (K : KT Out) (a1 : Arg) (v403 : Int) : N0 k (T0 a1 v403) (loopC rec M0 K) = B0 k (S0 rec a1) (X0_0 K a1) a1 v403 := by kernel_rfl
noncomputable def l0 (k : Nat) (a1 : Arg) (e0 : (Unit) → Option Out) (v : Int) : Option Out := rawIter (fun self v => B0 k self e0 a1 v) k v
theorem l0_eq (k : Nat) (K : KT Out) (a1 : Arg) (v403 : Int) : iterK (N0 k) M0 K k (T0 a1 v403) = l0 k a1 (X0_0 K a1) v403 :=
  iter_raw _ _ K (fun v403 => (T0 a1 v403)) (fun self v => B0 k self (X0_0 K a1) a1 v) (fun rec v => B0_eq k rec K a1 v) k v403
noncomputable def q0 (a1 : Arg) (z610 : (Unit)) : Option Out := some ((0 : Int), ())
noncomputable def Q0 (k : Nat) (a1 : Arg) (z610 : (Unit)) : Option Out := q0 a1 z610
theorem Q0_eq (k : Nat) (a1 : Arg) (z610 : (Unit)) : X0_0 (blockC 0 (seqC (codeK E k fin (sub [1, 1, 1, 1] C)) K0)) a1 z610 = Q0 k a1 z610 := by kernel_rfl
noncomputable def s0 (k : Nat) (a1 : Arg) : (Int) → Option Out := fun v403 => iterK (N0 k) M0 (blockC 0 (seqC (codeK E k fin (sub [1, 1, 1, 1] C)) K0)) k (T0 a1 v403)
noncomputable def r0 (k : Nat) (a1 : Arg) : (Int) → Option Out := fun v403 => l0 k a1 (fun z => Q0 k a1 z) v403
theorem s0_eq (k : Nat) (a1 : Arg) : s0 k a1 = r0 k a1 := by
  funext v403;
  have h0 : X0_0 ((blockC 0 (seqC (codeK E k fin (sub [1, 1, 1, 1] C)) K0))) a1 = fun z => Q0 k a1 z := funext fun z => Q0_eq k a1 z
  refine (l0_eq k ((blockC 0 (seqC (codeK E k fin (sub [1, 1, 1, 1] C)) K0))) a1 v403).trans ?_
  rw [h0]
  rfl
noncomputable def p (l0 : (Int) → Option Out) (a1 : Arg) : Option Out := (spec_l6Fault.sem (a1.1.1, ())).bind fun r2 => bif !decide (r2.1 = (0 : Int)) then (some (r2.1, ())) else bif decide ((8 : Int) < (a1.1.2.1.length : Int)) then (some ((2 : Int), ())) else l0 (0 : Int)
noncomputable def raw (k : Nat) (a1 : Arg) : Option Out := p (r0 k a1) a1
theorem p_eq (k : Nat) (a1 : Arg) : W k a1 = p (s0 k a1) a1 := by kernel_rfl
theorem raw_eq (k : Nat) (a1 : Arg) : W k a1 = raw k a1 := (p_eq k a1).trans (by rw [s0_eq]; rfl)
theorem ok : Ok prog 193 sig := fn_ok func193 (tl := tl) (gl := gl) (es := []) (fr := []) rfl rfl (by kernel_rfl) (fc spec_l6Fault.ok (fc spec_l1In.ok (fc spec_l9List.ok (fc spec_l9At.ok (fn_nil _))))) (fun _ => rfl)
end spec_l9Fault
namespace spec_l14Fault
/-! loop example g00408 spec l14Fault -/
abbrev Arg : Type := Connector × Unit
abbrev Out : Type := Int × Unit
noncomputable def ps : PQ := [(.ro, (.ptr tConnector))]
noncomputable def rs : RQ := [(i64, (roMd i64))]
noncomputable def tl : TL := [(2, i64), (86, tConnector)]
noncomputable def gl : GL := [(123, spec_l1In.sig), (193, spec_l9Fault.sig)]
noncomputable def E : Env := { TI := lookN tl, G := lookN gl, od := [(7, [0, 1, 2, 3, 4, 5, 6, 7, 8, 9, 10, 11, 12, 13, 14, 15, 16, 17])], ar := [(7, [3, 10, 14])] }
noncomputable def W (k : Nat) (a : Arg) : Option Out := bodyK E k f107 ps rs [] [] a
noncomputable def sem (a : Arg) : Option Out := lift fun k => W k a
noncomputable def sig : Sig := { ps := ps, rs := rs, F := sem }
noncomputable def p (a1 : Arg) : Option Out := (spec_l9Fault.sem (a1.1.1, ())).bind fun r2 => bif !decide (r2.1 = (0 : Int)) then (some (r2.1, ())) else (spec_l9Fault.sem (a1.1.2.2.1, ())).bind fun r3 => bif !decide (r3.1 = (0 : Int)) then (some (r3.1, ())) else (spec_l1In.sem (a1.1.2.1, (0 : Int), (16000 : Int), ())).bind fun r4 => bif !r4.1 then (some ((3 : Int), ())) else (spec_l1In.sem (a1.1.2.2.2.1, (0 : Int), a1.1.2.1, ())).bind fun r5 => bif !r5.1 then (some ((3 : Int), ())) else some ((0 : Int), ())
noncomputable def raw (k : Nat) (a1 : Arg) : Option Out := p a1
theorem raw_eq (k : Nat) (a1 : Arg) : W k a1 = raw k a1 := by kernel_rfl
theorem ok : Ok prog 107 sig := fn_ok func107 (tl := tl) (gl := gl) (es := []) (fr := []) rfl rfl (by kernel_rfl) (fc spec_l1In.ok (fc spec_l9Fault.ok (fn_nil _))) (fun _ => rfl)
end spec_l14Fault
namespace spec_l14Bad
/-! loop example g00408 spec l14Bad -/
abbrev Arg : Type := Int × Unit
abbrev Out : Type := ConnectorResult × Unit
noncomputable def ps : PQ := [(.ro, i64)]
noncomputable def rs : RQ := [(tConnectorResult, (ownMd tConnectorResult))]
noncomputable def tl : TL := [(88, tConnectorResult)]
noncomputable def gl : GL := []
noncomputable def E : Env := { TI := lookN tl, G := lookN gl }
noncomputable def W (k : Nat) (a : Arg) : Option Out := bodyK E k f108 ps rs [] [] a
noncomputable def sem (a : Arg) : Option Out := lift fun k => W k a
noncomputable def sig : Sig := { ps := ps, rs := rs, F := sem }
noncomputable def p (a1 : Arg) : Option Out := some ((a1.1, false, ((0 : Int), (0 : Int), ([] : List Change), ()), ((([] : List (List UInt8)), ([] : List Buffer), ()), (0 : Int), (([] : List (List UInt8)), ([] : List Buffer), ()), (0 : Int), ()), ()), ())
noncomputable def raw (k : Nat) (a1 : Arg) : Option Out := p a1
theorem raw_eq (k : Nat) (a1 : Arg) : W k a1 = raw k a1 := by kernel_rfl
theorem ok : Ok prog 108 sig := fn_ok func108 (tl := tl) (gl := gl) (es := []) (fr := []) rfl rfl (by kernel_rfl) (fn_nil _) (fun _ => rfl)
end spec_l14Bad
namespace spec_l9Buffers
/-! loop example g00408 spec l9Buffers -/
abbrev Arg : Type := (List Buffer) × Unit
abbrev Out : Type := (List Buffer) × Unit
noncomputable def ps : PQ := [(.ro, (.slc tBuffer))]
noncomputable def rs : RQ := [((.slc tBuffer), (ownMd (.slc tBuffer)))]
noncomputable def tl : TL := [(2, i64), (79, (.slc tChange)), (82, (.slc tBuffer)), (270, tBuffer)]
noncomputable def gl : GL := []
noncomputable def E : Env := { TI := lookN tl, G := lookN gl, lv := [(3, [0, 3, 4])], lx := [(0, [3])], od := [(5, [0, 1, 2, 3, 4, 5, 7, 8, 9, 10, 11, 6, 12, 13, 14, 15, 16])], ar := [(5, [5, 11])] }
noncomputable def W (k : Nat) (a : Arg) : Option Out := bodyK E k f195 ps rs [] [] a
noncomputable def sem (a : Arg) : Option Out := lift fun k => W k a
noncomputable def sig : Sig := { ps := ps, rs := rs, F := sem }
noncomputable def C : Code := bodyOf f195
noncomputable def fin : St → Option Out := outK ps rs [] (Func.results f195).toList (mvs [])
noncomputable def K0 : Ex → St → Option Out := endK fin
noncomputable def T0 (a1 : Arg) (v402 : (List Buffer) × Int) : St := { n := 29, sl := [(0, .val (.slc tBuffer) a1.1), (3, .own (.slc tBuffer) (ownMd (.slc tBuffer)) [] v402.1), (4, .val i64 v402.2)], vr := [], lent := [] }
noncomputable def N0 (k : Nat) : St → (Ex → St → Option Out) → Option Out := codeK E k fin (sub [1, 1, 0, 1, 0, 0] C)
noncomputable def M0 : St → St := keepF [0, 3, 4] []
noncomputable def S0 (rec : RT Out) (a1 : Arg) : ((List Buffer) × Int) → Option Out := fun v402 => rec (T0 a1 v402)
noncomputable def X0_0 (K : KT Out) (a1 : Arg) : (List Buffer) → Option Out := fun z => K (.exit 0) ({ n := 29, sl := [(3, .own (.slc tBuffer) (ownMd (.slc tBuffer)) [] z)], vr := [], lent := [] })
noncomputable def b0 (self : ((List Buffer) × Int) → Option Out) (e0 : (List Buffer) → Option Out) (a1 : Arg) (v402 : (List Buffer) × Int) : Option Out := bif decide (v402.2 < (a1.1.length : Int)) then (if 0 ≤ v402.2 then ((a1.1[v402.2.toNat]?).bind fun x603 => if 0 ≤ v402.2 then ((a1.1[v402.2.toNat]?).bind fun x604 => if ([] : List Change).length + x604.2.1.length ≤ CAP then (if v402.1.length + [(x603.1, ([] : List Change) ++ x604.2.1, ())].length ≤ CAP then (let y605 := v402.1 ++ [(x603.1, ([] : List Change) ++ x604.2.1, ())]; self (y605, w64 (v402.2 + (1 : Int)))) else none) else none) else none) else none) else e0 v402.1
noncomputable def B0 (k : Nat) (self : ((List Buffer) × Int) → Option Out) (e0 : (List Buffer) → Option Out) (a1 : Arg) (v402 : (List Buffer) × Int) : Option Out := b0 self e0 a1 v402
theorem B0_eq (k : Nat) (rec : RT Out) (K : KT Out) (a1 : Arg) (v402 : (List Buffer) × Int) : N0 k (T0 a1 v402) (loopC rec M0 K) = B0 k (S0 rec a1) (X0_0 K a1) a1 v402 := by kernel_rfl
noncomputable def l0 (k : Nat) (a1 : Arg) (e0 : (List Buffer) → Option Out) (v : (List Buffer) × Int) : Option Out := rawIter (fun self v => B0 k self e0 a1 v) k v
theorem l0_eq (k : Nat) (K : KT Out) (a1 : Arg) (v402 : (List Buffer) × Int) : iterK (N0 k) M0 K k (T0 a1 v402) = l0 k a1 (X0_0 K a1) v402 :=
  iter_raw _ _ K (fun v402 => (T0 a1 v402)) (fun self v => B0 k self (X0_0 K a1) a1 v) (fun rec v => B0_eq k rec K a1 v) k v402
noncomputable def q0 (a1 : Arg) (z606 : (List Buffer)) : Option Out := some (z606, ())
noncomputable def Q0 (k : Nat) (a1 : Arg) (z606 : (List Buffer)) : Option Out := q0 a1 z606
theorem Q0_eq (k : Nat) (a1 : Arg) (z606 : (List Buffer)) : X0_0 (blockC 0 (seqC (codeK E k fin (sub [1, 1, 1] C)) K0)) a1 z606 = Q0 k a1 z606 := by kernel_rfl
noncomputable def s0 (k : Nat) (a1 : Arg) : ((List Buffer) × Int) → Option Out := fun v402 => iterK (N0 k) M0 (blockC 0 (seqC (codeK E k fin (sub [1, 1, 1] C)) K0)) k (T0 a1 v402)
noncomputable def r0 (k : Nat) (a1 : Arg) : ((List Buffer) × Int) → Option Out := fun v402 => l0 k a1 (fun z => Q0 k a1 z) v402
theorem s0_eq (k : Nat) (a1 : Arg) : s0 k a1 = r0 k a1 := by
  funext v402;
  have h0 : X0_0 ((blockC 0 (seqC (codeK E k fin (sub [1, 1, 1] C)) K0))) a1 = fun z => Q0 k a1 z := funext fun z => Q0_eq k a1 z
  refine (l0_eq k ((blockC 0 (seqC (codeK E k fin (sub [1, 1, 1] C)) K0))) a1 v402).trans ?_
  rw [h0]
  rfl
noncomputable def p (l0 : ((List Buffer) × Int) → Option Out) (a1 : Arg) : Option Out := l0 (([] : List Buffer), (0 : Int))
noncomputable def raw (k : Nat) (a1 : Arg) : Option Out := p (r0 k a1) a1
theorem p_eq (k : Nat) (a1 : Arg) : W k a1 = p (s0 k a1) a1 := by kernel_rfl
theorem raw_eq (k : Nat) (a1 : Arg) : W k a1 = raw k a1 := (p_eq k a1).trans (by rw [s0_eq]; rfl)
theorem ok : Ok prog 195 sig := fn_ok func195 (tl := tl) (gl := gl) (es := []) (fr := []) rfl rfl (by kernel_rfl) (fn_nil _) (fun _ => rfl)
end spec_l9Buffers
namespace spec_l9Copy
/-! loop example g00408 spec l9Copy -/
abbrev Arg : Type := Miner × Unit
abbrev Out : Type := Miner × Unit
noncomputable def ps : PQ := [(.ro, tMiner)]
noncomputable def rs : RQ := [(tMiner, (ownMd tMiner))]
noncomputable def tl : TL := [(22, (.slc (.slc u8))), (82, (.slc tBuffer)), (84, tMiner)]
noncomputable def gl : GL := [(194, spec_l7Copy.sig), (195, spec_l9Buffers.sig)]
noncomputable def E : Env := { TI := lookN tl, G := lookN gl, od := [(1, [0, 1, 3, 4, 2, 5, 6, 7])] }
noncomputable def W (k : Nat) (a : Arg) : Option Out := bodyK E k f109 ps rs [] [] a
noncomputable def sem (a : Arg) : Option Out := lift fun k => W k a
noncomputable def sig : Sig := { ps := ps, rs := rs, F := sem }
noncomputable def p (a1 : Arg) : Option Out := (spec_l7Copy.sem (a1.1.1, ())).bind fun r2 => (spec_l9Buffers.sem (a1.1.2.1, ())).bind fun r3 => some ((r2.1, r3.1, ()), ())
noncomputable def raw (k : Nat) (a1 : Arg) : Option Out := p a1
theorem raw_eq (k : Nat) (a1 : Arg) : W k a1 = raw k a1 := by kernel_rfl
theorem ok : Ok prog 109 sig := fn_ok func109 (tl := tl) (gl := gl) (es := []) (fr := []) rfl rfl (by kernel_rfl) (fc spec_l7Copy.ok (fc spec_l9Buffers.ok (fn_nil _))) (fun _ => rfl)
end spec_l9Copy
namespace laws_toChangeS
/-! loop example g00408 laws toChangeS -/
abbrev Arg : Type := (List Change) × Unit
abbrev Out : Type := (List Change) × Unit
noncomputable def ps : PQ := [(.ro, (.slc tChange))]
noncomputable def rs : RQ := [((.slc tChange), (ownMd (.slc tChange)))]
noncomputable def tl : TL := [(39, tChange), (43, tChange), (79, (.slc tChange)), (325, (.slc tChange))]
noncomputable def gl : GL := [(26, laws_toChange.sig)]
noncomputable def E : Env := { TI := lookN tl, G := lookN gl, lv := [(3, [0, 3, 4])], lx := [(0, [3])] }
noncomputable def W (k : Nat) (a : Arg) : Option Out := bodyK E k f296 ps rs [] [] a
noncomputable def sem (a : Arg) : Option Out := lift fun k => W k a
noncomputable def sig : Sig := { ps := ps, rs := rs, F := sem }
noncomputable def C : Code := bodyOf f296
noncomputable def fin : St → Option Out := outK ps rs [] (Func.results f296).toList (mvs [])
noncomputable def K0 : Ex → St → Option Out := endK fin
noncomputable def T0 (a1 : Arg) (v402 : (List Change) × Int) : St := { n := 23, sl := [(0, .val (.slc tChange) a1.1), (3, .own (.slc tChange) (ownMd (.slc tChange)) [] v402.1), (4, .val i64 v402.2)], vr := [], lent := [] }
noncomputable def N0 (k : Nat) : St → (Ex → St → Option Out) → Option Out := codeK E k fin (sub [1, 1, 0, 1, 0, 0] C)
noncomputable def M0 : St → St := keepF [0, 3, 4] []
noncomputable def S0 (rec : RT Out) (a1 : Arg) : ((List Change) × Int) → Option Out := fun v402 => rec (T0 a1 v402)
noncomputable def X0_0 (K : KT Out) (a1 : Arg) : (List Change) → Option Out := fun z => K (.exit 0) ({ n := 23, sl := [(3, .own (.slc tChange) (ownMd (.slc tChange)) [] z)], vr := [], lent := [] })
noncomputable def b0 (self : ((List Change) × Int) → Option Out) (e0 : (List Change) → Option Out) (a1 : Arg) (v402 : (List Change) × Int) : Option Out := bif decide (v402.2 < (a1.1.length : Int)) then (if 0 ≤ v402.2 then ((a1.1[v402.2.toNat]?).bind fun x603 => (laws_toChange.sem (x603, ())).bind fun r604 => if 0 ≤ v402.2 ∧ v402.2 < (v402.1.length : Int) then ((v402.1[v402.2.toNat]?).bind fun x605 => self (v402.1.set v402.2.toNat r604.1, w64 (v402.2 + (1 : Int)))) else none) else none) else e0 v402.1
noncomputable def B0 (k : Nat) (self : ((List Change) × Int) → Option Out) (e0 : (List Change) → Option Out) (a1 : Arg) (v402 : (List Change) × Int) : Option Out := b0 self e0 a1 v402
theorem B0_eq (k : Nat) (rec : RT Out) (K : KT Out) (a1 : Arg) (v402 : (List Change) × Int) : N0 k (T0 a1 v402) (loopC rec M0 K) = B0 k (S0 rec a1) (X0_0 K a1) a1 v402 := by kernel_rfl
noncomputable def l0 (k : Nat) (a1 : Arg) (e0 : (List Change) → Option Out) (v : (List Change) × Int) : Option Out := rawIter (fun self v => B0 k self e0 a1 v) k v
theorem l0_eq (k : Nat) (K : KT Out) (a1 : Arg) (v402 : (List Change) × Int) : iterK (N0 k) M0 K k (T0 a1 v402) = l0 k a1 (X0_0 K a1) v402 :=
  iter_raw _ _ K (fun v402 => (T0 a1 v402)) (fun self v => B0 k self (X0_0 K a1) a1 v) (fun rec v => B0_eq k rec K a1 v) k v402
noncomputable def q0 (a1 : Arg) (z606 : (List Change)) : Option Out := some (z606, ())
noncomputable def Q0 (k : Nat) (a1 : Arg) (z606 : (List Change)) : Option Out := q0 a1 z606
theorem Q0_eq (k : Nat) (a1 : Arg) (z606 : (List Change)) : X0_0 (blockC 0 (seqC (codeK E k fin (sub [1, 1, 1] C)) K0)) a1 z606 = Q0 k a1 z606 := by kernel_rfl
noncomputable def s0 (k : Nat) (a1 : Arg) : ((List Change) × Int) → Option Out := fun v402 => iterK (N0 k) M0 (blockC 0 (seqC (codeK E k fin (sub [1, 1, 1] C)) K0)) k (T0 a1 v402)
noncomputable def r0 (k : Nat) (a1 : Arg) : ((List Change) × Int) → Option Out := fun v402 => l0 k a1 (fun z => Q0 k a1 z) v402
theorem s0_eq (k : Nat) (a1 : Arg) : s0 k a1 = r0 k a1 := by
  funext v402;
  have h0 : X0_0 ((blockC 0 (seqC (codeK E k fin (sub [1, 1, 1] C)) K0))) a1 = fun z => Q0 k a1 z := funext fun z => Q0_eq k a1 z
  refine (l0_eq k ((blockC 0 (seqC (codeK E k fin (sub [1, 1, 1] C)) K0))) a1 v402).trans ?_
  rw [h0]
  rfl
noncomputable def p (l0 : ((List Change) × Int) → Option Out) (a1 : Arg) : Option Out := if 0 ≤ (a1.1.length : Int) ∧ (a1.1.length : Int) ≤ (a1.1.length : Int) ∧ (a1.1.length : Int) ≤ (CAP : Int) then (l0 (List.replicate (a1.1.length : Int).toNat (false, ((0 : Int), (0 : Int), (0 : Int), ([] : List UInt8), ()), false, ((0 : Int), (0 : Int), (0 : Int), ([] : List UInt8), ()), ()), (0 : Int))) else none
noncomputable def raw (k : Nat) (a1 : Arg) : Option Out := p (r0 k a1) a1
theorem p_eq (k : Nat) (a1 : Arg) : W k a1 = p (s0 k a1) a1 := by kernel_rfl
theorem raw_eq (k : Nat) (a1 : Arg) : W k a1 = raw k a1 := (p_eq k a1).trans (by rw [s0_eq]; rfl)
theorem ok : Ok prog 296 sig := fn_ok func296 (tl := tl) (gl := gl) (es := []) (fr := []) rfl rfl (by kernel_rfl) (fc laws_toChange.ok (fn_nil _)) (fun _ => rfl)
end laws_toChangeS
namespace laws_toBuffer
/-! loop example g00408 laws toBuffer -/
abbrev Arg : Type := Buffer × Unit
abbrev Out : Type := Buffer × Unit
noncomputable def ps : PQ := [(.ro, tBuffer)]
noncomputable def rs : RQ := [(tBuffer, (ownMd tBuffer))]
noncomputable def tl : TL := [(2, i64), (79, (.slc tChange)), (270, tBuffer), (325, (.slc tChange)), (327, tBuffer)]
noncomputable def gl : GL := [(296, laws_toChangeS.sig)]
noncomputable def E : Env := { TI := lookN tl, G := lookN gl }
noncomputable def W (k : Nat) (a : Arg) : Option Out := bodyK E k f258 ps rs [] [] a
noncomputable def sem (a : Arg) : Option Out := lift fun k => W k a
noncomputable def sig : Sig := { ps := ps, rs := rs, F := sem }
noncomputable def p (a1 : Arg) : Option Out := (laws_toChangeS.sem (a1.1.2.1, ())).bind fun r2 => some ((a1.1.1, r2.1, ()), ())
noncomputable def raw (k : Nat) (a1 : Arg) : Option Out := p a1
theorem raw_eq (k : Nat) (a1 : Arg) : W k a1 = raw k a1 := by kernel_rfl
theorem ok : Ok prog 258 sig := fn_ok func258 (tl := tl) (gl := gl) (es := []) (fr := []) rfl rfl (by kernel_rfl) (fc laws_toChangeS.ok (fn_nil _)) (fun _ => rfl)
end laws_toBuffer
namespace laws_toBufferS
/-! loop example g00408 laws toBufferS -/
abbrev Arg : Type := (List Buffer) × Unit
abbrev Out : Type := (List Buffer) × Unit
noncomputable def ps : PQ := [(.ro, (.slc tBuffer))]
noncomputable def rs : RQ := [((.slc tBuffer), (ownMd (.slc tBuffer)))]
noncomputable def tl : TL := [(73, (.slc tBuffer)), (82, (.slc tBuffer)), (270, tBuffer), (327, tBuffer)]
noncomputable def gl : GL := [(258, laws_toBuffer.sig)]
noncomputable def E : Env := { TI := lookN tl, G := lookN gl, lv := [(3, [0, 3, 4])], lx := [(0, [3])] }
noncomputable def W (k : Nat) (a : Arg) : Option Out := bodyK E k f196 ps rs [] [] a
noncomputable def sem (a : Arg) : Option Out := lift fun k => W k a
noncomputable def sig : Sig := { ps := ps, rs := rs, F := sem }
noncomputable def C : Code := bodyOf f196
noncomputable def fin : St → Option Out := outK ps rs [] (Func.results f196).toList (mvs [])
noncomputable def K0 : Ex → St → Option Out := endK fin
noncomputable def T0 (a1 : Arg) (v402 : (List Buffer) × Int) : St := { n := 23, sl := [(0, .val (.slc tBuffer) a1.1), (3, .own (.slc tBuffer) (ownMd (.slc tBuffer)) [] v402.1), (4, .val i64 v402.2)], vr := [], lent := [] }
noncomputable def N0 (k : Nat) : St → (Ex → St → Option Out) → Option Out := codeK E k fin (sub [1, 1, 0, 1, 0, 0] C)
noncomputable def M0 : St → St := keepF [0, 3, 4] []
noncomputable def S0 (rec : RT Out) (a1 : Arg) : ((List Buffer) × Int) → Option Out := fun v402 => rec (T0 a1 v402)
noncomputable def X0_0 (K : KT Out) (a1 : Arg) : (List Buffer) → Option Out := fun z => K (.exit 0) ({ n := 23, sl := [(3, .own (.slc tBuffer) (ownMd (.slc tBuffer)) [] z)], vr := [], lent := [] })
noncomputable def b0 (self : ((List Buffer) × Int) → Option Out) (e0 : (List Buffer) → Option Out) (a1 : Arg) (v402 : (List Buffer) × Int) : Option Out := bif decide (v402.2 < (a1.1.length : Int)) then (if 0 ≤ v402.2 then ((a1.1[v402.2.toNat]?).bind fun x603 => (laws_toBuffer.sem (x603, ())).bind fun r604 => if 0 ≤ v402.2 ∧ v402.2 < (v402.1.length : Int) then ((v402.1[v402.2.toNat]?).bind fun x605 => self (v402.1.set v402.2.toNat r604.1, w64 (v402.2 + (1 : Int)))) else none) else none) else e0 v402.1
noncomputable def B0 (k : Nat) (self : ((List Buffer) × Int) → Option Out) (e0 : (List Buffer) → Option Out) (a1 : Arg) (v402 : (List Buffer) × Int) : Option Out := b0 self e0 a1 v402
theorem B0_eq (k : Nat) (rec : RT Out) (K : KT Out) (a1 : Arg) (v402 : (List Buffer) × Int) : N0 k (T0 a1 v402) (loopC rec M0 K) = B0 k (S0 rec a1) (X0_0 K a1) a1 v402 := by kernel_rfl
noncomputable def l0 (k : Nat) (a1 : Arg) (e0 : (List Buffer) → Option Out) (v : (List Buffer) × Int) : Option Out := rawIter (fun self v => B0 k self e0 a1 v) k v
theorem l0_eq (k : Nat) (K : KT Out) (a1 : Arg) (v402 : (List Buffer) × Int) : iterK (N0 k) M0 K k (T0 a1 v402) = l0 k a1 (X0_0 K a1) v402 :=
  iter_raw _ _ K (fun v402 => (T0 a1 v402)) (fun self v => B0 k self (X0_0 K a1) a1 v) (fun rec v => B0_eq k rec K a1 v) k v402
noncomputable def q0 (a1 : Arg) (z606 : (List Buffer)) : Option Out := some (z606, ())
noncomputable def Q0 (k : Nat) (a1 : Arg) (z606 : (List Buffer)) : Option Out := q0 a1 z606
theorem Q0_eq (k : Nat) (a1 : Arg) (z606 : (List Buffer)) : X0_0 (blockC 0 (seqC (codeK E k fin (sub [1, 1, 1] C)) K0)) a1 z606 = Q0 k a1 z606 := by kernel_rfl
noncomputable def s0 (k : Nat) (a1 : Arg) : ((List Buffer) × Int) → Option Out := fun v402 => iterK (N0 k) M0 (blockC 0 (seqC (codeK E k fin (sub [1, 1, 1] C)) K0)) k (T0 a1 v402)
noncomputable def r0 (k : Nat) (a1 : Arg) : ((List Buffer) × Int) → Option Out := fun v402 => l0 k a1 (fun z => Q0 k a1 z) v402
theorem s0_eq (k : Nat) (a1 : Arg) : s0 k a1 = r0 k a1 := by
  funext v402;
  have h0 : X0_0 ((blockC 0 (seqC (codeK E k fin (sub [1, 1, 1] C)) K0))) a1 = fun z => Q0 k a1 z := funext fun z => Q0_eq k a1 z
  refine (l0_eq k ((blockC 0 (seqC (codeK E k fin (sub [1, 1, 1] C)) K0))) a1 v402).trans ?_
  rw [h0]
  rfl
noncomputable def p (l0 : ((List Buffer) × Int) → Option Out) (a1 : Arg) : Option Out := if 0 ≤ (a1.1.length : Int) ∧ (a1.1.length : Int) ≤ (a1.1.length : Int) ∧ (a1.1.length : Int) ≤ (CAP : Int) then (l0 (List.replicate (a1.1.length : Int).toNat ((0 : Int), ([] : List Change), ()), (0 : Int))) else none
noncomputable def raw (k : Nat) (a1 : Arg) : Option Out := p (r0 k a1) a1
theorem p_eq (k : Nat) (a1 : Arg) : W k a1 = p (s0 k a1) a1 := by kernel_rfl
theorem raw_eq (k : Nat) (a1 : Arg) : W k a1 = raw k a1 := (p_eq k a1).trans (by rw [s0_eq]; rfl)
theorem ok : Ok prog 196 sig := fn_ok func196 (tl := tl) (gl := gl) (es := []) (fr := []) rfl rfl (by kernel_rfl) (fc laws_toBuffer.ok (fn_nil _)) (fun _ => rfl)
end laws_toBufferS
namespace laws_toMiner
/-! loop example g00408 laws toMiner -/
abbrev Arg : Type := Miner × Unit
abbrev Out : Type := Miner × Unit
noncomputable def ps : PQ := [(.ro, tMiner)]
noncomputable def rs : RQ := [(tMiner, (ownMd tMiner))]
noncomputable def tl : TL := [(22, (.slc (.slc u8))), (73, (.slc tBuffer)), (75, tMiner), (82, (.slc tBuffer)), (84, tMiner)]
noncomputable def gl : GL := [(14, laws_toByteSS.sig), (196, laws_toBufferS.sig)]
noncomputable def E : Env := { TI := lookN tl, G := lookN gl }
noncomputable def W (k : Nat) (a : Arg) : Option Out := bodyK E k f110 ps rs [] [] a
noncomputable def sem (a : Arg) : Option Out := lift fun k => W k a
noncomputable def sig : Sig := { ps := ps, rs := rs, F := sem }
noncomputable def p (a1 : Arg) : Option Out := (laws_toByteSS.sem (a1.1.1, ())).bind fun r2 => (laws_toBufferS.sem (a1.1.2.1, ())).bind fun r3 => some ((r2.1, r3.1, ()), ())
noncomputable def raw (k : Nat) (a1 : Arg) : Option Out := p a1
theorem raw_eq (k : Nat) (a1 : Arg) : W k a1 = raw k a1 := by kernel_rfl
theorem ok : Ok prog 110 sig := fn_ok func110 (tl := tl) (gl := gl) (es := []) (fr := []) rfl rfl (by kernel_rfl) (fc laws_toByteSS.ok (fc laws_toBufferS.ok (fn_nil _))) (fun _ => rfl)
end laws_toMiner
namespace laws_toConnector
/-! loop example g00408 laws toConnector -/
abbrev Arg : Type := Connector × Unit
abbrev Out : Type := Connector × Unit
noncomputable def ps : PQ := [(.ro, tConnector)]
noncomputable def rs : RQ := [(tConnector, (ownMd tConnector))]
noncomputable def tl : TL := [(2, i64), (75, tMiner), (77, tConnector), (84, tMiner), (86, tConnector)]
noncomputable def gl : GL := [(110, laws_toMiner.sig)]
noncomputable def E : Env := { TI := lookN tl, G := lookN gl }
noncomputable def W (k : Nat) (a : Arg) : Option Out := bodyK E k f43 ps rs [] [] a
noncomputable def sem (a : Arg) : Option Out := lift fun k => W k a
noncomputable def sig : Sig := { ps := ps, rs := rs, F := sem }
noncomputable def p (a1 : Arg) : Option Out := (laws_toMiner.sem (a1.1.1, ())).bind fun r2 => (laws_toMiner.sem (a1.1.2.2.1, ())).bind fun r3 => some ((r2.1, a1.1.2.1, r3.1, a1.1.2.2.2.1, ()), ())
noncomputable def raw (k : Nat) (a1 : Arg) : Option Out := p a1
theorem raw_eq (k : Nat) (a1 : Arg) : W k a1 = raw k a1 := by kernel_rfl
theorem ok : Ok prog 43 sig := fn_ok func43 (tl := tl) (gl := gl) (es := []) (fr := []) rfl rfl (by kernel_rfl) (fc laws_toMiner.ok (fn_nil _)) (fun _ => rfl)
end laws_toConnector
namespace impl_PagesFault
/-! loop example g00408 impl PagesFault -/
abbrev Arg : Type := (List (List UInt8)) × Unit
abbrev Out : Type := Int × Unit
noncomputable def ps : PQ := [(.ro, (.slc (.slc u8)))]
noncomputable def rs : RQ := [(i64, (roMd i64))]
noncomputable def tl : TL := []
noncomputable def gl : GL := [(59, impl_view.sig)]
noncomputable def E : Env := { TI := lookN tl, G := lookN gl }
noncomputable def W (k : Nat) (a : Arg) : Option Out := bodyK E k f259 ps rs [] [] a
noncomputable def sem (a : Arg) : Option Out := lift fun k => W k a
noncomputable def sig : Sig := { ps := ps, rs := rs, F := sem }
noncomputable def p (a1 : Arg) : Option Out := (impl_view.sem (a1.1, ())).bind fun r2 => some (r2.2.1, ())
noncomputable def raw (k : Nat) (a1 : Arg) : Option Out := p a1
theorem raw_eq (k : Nat) (a1 : Arg) : W k a1 = raw k a1 := by kernel_rfl
theorem ok : Ok prog 259 sig := fn_ok func259 (tl := tl) (gl := gl) (es := []) (fr := []) rfl rfl (by kernel_rfl) (fc impl_view.ok (fn_nil _)) (fun _ => rfl)
end impl_PagesFault
namespace impl_foldedFault
/-! loop example g00408 impl foldedFault -/
abbrev Arg : Type := (List Change) × Unit
abbrev Out : Type := Int × Unit
noncomputable def ps : PQ := [(.ro, (.slc tChange))]
noncomputable def rs : RQ := [(i64, (roMd i64))]
noncomputable def tl : TL := [(43, tChange), (79, (.slc tChange))]
noncomputable def gl : GL := [(78, impl_Change_key.sig), (163, impl_singleFault.sig), (184, impl_IsBefore.sig)]
noncomputable def E : Env := { TI := lookN tl, G := lookN gl, lv := [(4, [0, 9, 10, 11])], lx := [(0, [])], od := [(9, [0, 1, 2, 3, 4, 5, 6, 7, 9, 8, 10, 11, 12, 13])] }
noncomputable def W (k : Nat) (a : Arg) : Option Out := bodyK E k f260 ps rs [] [] a
noncomputable def sem (a : Arg) : Option Out := lift fun k => W k a
noncomputable def sig : Sig := { ps := ps, rs := rs, F := sem }
noncomputable def C : Code := bodyOf f260
noncomputable def fin : St → Option Out := outK ps rs [] (Func.results f260).toList (mvs [])
noncomputable def K0 : Ex → St → Option Out := endK fin
noncomputable def T0 (a1 : Arg) (v402 : Int) : St := { n := 36, sl := [(0, .val (.slc tChange) a1.1), (9, .val (.slc tChange) a1.1), (10, .val i64 (a1.1.length : Int)), (11, .val i64 v402)], vr := [], lent := [] }
noncomputable def N0 (k : Nat) : St → (Ex → St → Option Out) → Option Out := codeK E k fin (sub [1, 1, 0, 1, 0, 0] C)
noncomputable def M0 : St → St := keepF [0, 9, 10, 11] []
noncomputable def S0 (rec : RT Out) (a1 : Arg) : (Int) → Option Out := fun v402 => rec (T0 a1 v402)
noncomputable def X0_0 (K : KT Out) (a1 : Arg) : (Unit) → Option Out := fun z => K (.exit 0) ({ n := 36, sl := [], vr := [], lent := [] })
noncomputable def b0 (self : Int → Option Out) (e0 : (Unit) → Option Out) (a1 : Arg) (v402 : Int) : Option Out := bif decide (v402 < (a1.1.length : Int)) then (if 0 ≤ v402 then ((a1.1[v402.toNat]?).bind fun x603 => (impl_singleFault.sem (x603, ())).bind fun r604 => bif !decide (r604.1 = (0 : Int)) then (some (r604.1, ())) else bif decide ((0 : Int) < v402) then (if 0 ≤ w64 (v402 - (1 : Int)) then ((a1.1[(w64 (v402 - (1 : Int))).toNat]?).bind fun x605 => (impl_Change_key.sem (x605, ())).bind fun r606 => (impl_Change_key.sem (x603, ())).bind fun r607 => (impl_IsBefore.sem (r606.1, r607.1, ())).bind fun r608 => bif !r608.1 then (some ((1 : Int), ())) else self (w64 (v402 + (1 : Int)))) else none) else self (w64 (v402 + (1 : Int)))) else none) else e0 ()
noncomputable def B0 (k : Nat) (self : Int → Option Out) (e0 : (Unit) → Option Out) (a1 : Arg) (v402 : Int) : Option Out := b0 self e0 a1 v402
theorem B0_eq (k : Nat) (rec : RT Out) (K : KT Out) (a1 : Arg) (v402 : Int) : N0 k (T0 a1 v402) (loopC rec M0 K) = B0 k (S0 rec a1) (X0_0 K a1) a1 v402 := by kernel_rfl
noncomputable def l0 (k : Nat) (a1 : Arg) (e0 : (Unit) → Option Out) (v : Int) : Option Out := rawIter (fun self v => B0 k self e0 a1 v) k v
theorem l0_eq (k : Nat) (K : KT Out) (a1 : Arg) (v402 : Int) : iterK (N0 k) M0 K k (T0 a1 v402) = l0 k a1 (X0_0 K a1) v402 :=
  iter_raw _ _ K (fun v402 => (T0 a1 v402)) (fun self v => B0 k self (X0_0 K a1) a1 v) (fun rec v => B0_eq k rec K a1 v) k v402
noncomputable def q0 (a1 : Arg) (z609 : (Unit)) : Option Out := some ((0 : Int), ())
noncomputable def Q0 (k : Nat) (a1 : Arg) (z609 : (Unit)) : Option Out := q0 a1 z609
theorem Q0_eq (k : Nat) (a1 : Arg) (z609 : (Unit)) : X0_0 (blockC 0 (seqC (codeK E k fin (sub [1, 1, 1] C)) K0)) a1 z609 = Q0 k a1 z609 := by kernel_rfl
noncomputable def s0 (k : Nat) (a1 : Arg) : (Int) → Option Out := fun v402 => iterK (N0 k) M0 (blockC 0 (seqC (codeK E k fin (sub [1, 1, 1] C)) K0)) k (T0 a1 v402)
noncomputable def r0 (k : Nat) (a1 : Arg) : (Int) → Option Out := fun v402 => l0 k a1 (fun z => Q0 k a1 z) v402
theorem s0_eq (k : Nat) (a1 : Arg) : s0 k a1 = r0 k a1 := by
  funext v402;
  have h0 : X0_0 ((blockC 0 (seqC (codeK E k fin (sub [1, 1, 1] C)) K0))) a1 = fun z => Q0 k a1 z := funext fun z => Q0_eq k a1 z
  refine (l0_eq k ((blockC 0 (seqC (codeK E k fin (sub [1, 1, 1] C)) K0))) a1 v402).trans ?_
  rw [h0]
  rfl
noncomputable def p (l0 : (Int) → Option Out) (a1 : Arg) : Option Out := bif decide ((60 : Int) < (a1.1.length : Int)) then (some ((2 : Int), ())) else l0 (0 : Int)
noncomputable def raw (k : Nat) (a1 : Arg) : Option Out := p (r0 k a1) a1
theorem p_eq (k : Nat) (a1 : Arg) : W k a1 = p (s0 k a1) a1 := by kernel_rfl
theorem raw_eq (k : Nat) (a1 : Arg) : W k a1 = raw k a1 := (p_eq k a1).trans (by rw [s0_eq]; rfl)
theorem ok : Ok prog 260 sig := fn_ok func260 (tl := tl) (gl := gl) (es := []) (fr := []) rfl rfl (by kernel_rfl) (fc impl_Change_key.ok (fc impl_singleFault.ok (fc impl_IsBefore.ok (fn_nil _)))) (fun _ => rfl)
end impl_foldedFault
namespace impl_Miner_open_1
/-!  loop example g00408 impl Miner  open 1 -/
abbrev Arg : Type := Buffer × Int × Unit
abbrev Out : Type := Bool × Unit
noncomputable def ps : PQ := [(.ro, tBuffer), (.ro, (.ptr i64))]
noncomputable def rs : RQ := [(.bool, (roMd .bool))]
noncomputable def tl : TL := [(2, i64), (270, tBuffer)]
noncomputable def gl : GL := []
noncomputable def E : Env := { TI := lookN tl, G := lookN gl }
noncomputable def W (k : Nat) (a : Arg) : Option Out := bodyK E k f298 ps rs [] [] a
noncomputable def sem (a : Arg) : Option Out := lift fun k => W k a
noncomputable def sig : Sig := { cap := true, ps := ps, rs := rs, F := sem }
noncomputable def p (a1 : Arg) : Option Out := some (decide (a1.1.1 = a1.2.1), ())
noncomputable def raw (k : Nat) (a1 : Arg) : Option Out := p a1
theorem raw_eq (k : Nat) (a1 : Arg) : W k a1 = raw k a1 := by kernel_rfl
theorem ok : Ok prog 298 sig := fn_ok func298 (tl := tl) (gl := gl) (es := []) (fr := []) rfl rfl (by kernel_rfl) (fn_nil _) (fun _ => rfl)
end impl_Miner_open_1
namespace slices_IndexFunc_Buffer
/-! slices IndexFunc   loop example g00408 impl Buffer loop example g00408 impl Buffer  -/
abbrev Arg : Type := (List Buffer) × (Nat × Int) × Unit
abbrev Out : Type := Int × Unit
noncomputable def ps : PQ := [(.ro, (.slc tBuffer)), (.fix 298, .fn)]
noncomputable def rs : RQ := [(i64, (roMd i64))]
noncomputable def tl : TL := [(82, (.slc tBuffer)), (270, tBuffer)]
noncomputable def gl : GL := [(298, impl_Miner_open_1.sig)]
noncomputable def E : Env := { TI := lookN tl, G := lookN gl, lv := [(2, [0, 1, 7, 8])], lx := [(0, [])] }
noncomputable def W (k : Nat) (a : Arg) : Option Out := bodyK E k f297 ps rs [] [] a
noncomputable def sem (a : Arg) : Option Out := lift fun k => W k a
noncomputable def sig : Sig := { ps := ps, rs := rs, F := sem }
noncomputable def C : Code := bodyOf f297
noncomputable def fin : St → Option Out := outK ps rs [] (Func.results f297).toList (mvs [])
noncomputable def K0 : Ex → St → Option Out := endK fin
noncomputable def T0 (a1 : Arg) (v402 : Int) : St := { n := 19, sl := [(0, .val (.slc tBuffer) a1.1), (1, .val .fn ((298, a1.2.1.2) : Nat × Int)), (7, .val i64 (a1.1.length : Int)), (8, .val i64 v402)], vr := [], lent := [] }
noncomputable def N0 (k : Nat) : St → (Ex → St → Option Out) → Option Out := codeK E k fin (sub [1, 0, 1, 0, 0] C)
noncomputable def M0 : St → St := keepF [0, 1, 7, 8] []
noncomputable def S0 (rec : RT Out) (a1 : Arg) : (Int) → Option Out := fun v402 => rec (T0 a1 v402)
noncomputable def X0_0 (K : KT Out) (a1 : Arg) : (Unit) → Option Out := fun z => K (.exit 0) ({ n := 19, sl := [], vr := [], lent := [] })
noncomputable def b0 (self : Int → Option Out) (e0 : (Unit) → Option Out) (a1 : Arg) (v402 : Int) : Option Out := bif decide (v402 < (a1.1.length : Int)) then (if 0 ≤ v402 then ((a1.1[v402.toNat]?).bind fun x603 => (impl_Miner_open_1.sem (x603, a1.2.1.2, ())).bind fun r604 => bif r604.1 then (some (v402, ())) else self (w64 (v402 + (1 : Int)))) else none) else e0 ()
noncomputable def B0 (k : Nat) (self : Int → Option Out) (e0 : (Unit) → Option Out) (a1 : Arg) (v402 : Int) : Option Out := b0 self e0 a1 v402
theorem B0_eq (k : Nat) (rec : RT Out) (K : KT Out) (a1 : Arg) (v402 : Int) : N0 k (T0 a1 v402) (loopC rec M0 K) = B0 k (S0 rec a1) (X0_0 K a1) a1 v402 := by kernel_rfl
noncomputable def l0 (k : Nat) (a1 : Arg) (e0 : (Unit) → Option Out) (v : Int) : Option Out := rawIter (fun self v => B0 k self e0 a1 v) k v
theorem l0_eq (k : Nat) (K : KT Out) (a1 : Arg) (v402 : Int) : iterK (N0 k) M0 K k (T0 a1 v402) = l0 k a1 (X0_0 K a1) v402 :=
  iter_raw _ _ K (fun v402 => (T0 a1 v402)) (fun self v => B0 k self (X0_0 K a1) a1 v) (fun rec v => B0_eq k rec K a1 v) k v402
noncomputable def q0 (a1 : Arg) (z605 : (Unit)) : Option Out := some ((-1 : Int), ())
noncomputable def Q0 (k : Nat) (a1 : Arg) (z605 : (Unit)) : Option Out := q0 a1 z605
theorem Q0_eq (k : Nat) (a1 : Arg) (z605 : (Unit)) : X0_0 (blockC 0 (seqC (codeK E k fin (sub [1, 1] C)) K0)) a1 z605 = Q0 k a1 z605 := by kernel_rfl
noncomputable def s0 (k : Nat) (a1 : Arg) : (Int) → Option Out := fun v402 => iterK (N0 k) M0 (blockC 0 (seqC (codeK E k fin (sub [1, 1] C)) K0)) k (T0 a1 v402)
noncomputable def r0 (k : Nat) (a1 : Arg) : (Int) → Option Out := fun v402 => l0 k a1 (fun z => Q0 k a1 z) v402
theorem s0_eq (k : Nat) (a1 : Arg) : s0 k a1 = r0 k a1 := by
  funext v402;
  have h0 : X0_0 ((blockC 0 (seqC (codeK E k fin (sub [1, 1] C)) K0))) a1 = fun z => Q0 k a1 z := funext fun z => Q0_eq k a1 z
  refine (l0_eq k ((blockC 0 (seqC (codeK E k fin (sub [1, 1] C)) K0))) a1 v402).trans ?_
  rw [h0]
  rfl
noncomputable def p (l0 : (Int) → Option Out) (a1 : Arg) : Option Out := l0 (0 : Int)
noncomputable def raw (k : Nat) (a1 : Arg) : Option Out := p (r0 k a1) a1
theorem p_eq (k : Nat) (a1 : Arg) : W k a1 = p (s0 k a1) a1 := by kernel_rfl
theorem raw_eq (k : Nat) (a1 : Arg) : W k a1 = raw k a1 := (p_eq k a1).trans (by rw [s0_eq]; rfl)
theorem ok : Ok prog 297 sig := fn_ok func297 (tl := tl) (gl := gl) (es := []) (fr := []) rfl rfl (by kernel_rfl) (fc impl_Miner_open_1.ok (fn_nil _)) (fun _ => rfl)
end slices_IndexFunc_Buffer
namespace impl_Miner_open
/-!  loop example g00408 impl Miner  open -/
abbrev Arg : Type := Miner × Int × Unit
abbrev Out : Type := Int × Unit
noncomputable def ps : PQ := [(.ro, tMiner), (.ro, i64)]
noncomputable def rs : RQ := [(i64, (roMd i64))]
noncomputable def tl : TL := [(2, i64), (82, (.slc tBuffer)), (84, tMiner)]
noncomputable def gl : GL := [(297, slices_IndexFunc_Buffer.sig)]
noncomputable def E : Env := { TI := lookN tl, G := lookN gl }
noncomputable def W (k : Nat) (a : Arg) : Option Out := bodyK E k f261 ps rs [] [] a
noncomputable def sem (a : Arg) : Option Out := lift fun k => W k a
noncomputable def sig : Sig := { ps := ps, rs := rs, F := sem }
noncomputable def p (a1 : Arg) : Option Out := (slices_IndexFunc_Buffer.sem (a1.1.2.1, ((298, a1.2.1) : Nat × Int), ())).bind fun r2 => some (r2.1, ())
noncomputable def raw (k : Nat) (a1 : Arg) : Option Out := p a1
theorem raw_eq (k : Nat) (a1 : Arg) : W k a1 = raw k a1 := by kernel_rfl
theorem ok : Ok prog 261 sig := fn_ok func261 (tl := tl) (gl := gl) (es := []) (fr := []) rfl rfl (by kernel_rfl) (fc slices_IndexFunc_Buffer.ok (fn_nil _)) (fun _ => rfl)
end impl_Miner_open
namespace impl_MinerFault
/-! loop example g00408 impl MinerFault -/
abbrev Arg : Type := Miner × Unit
abbrev Out : Type := Int × Unit
noncomputable def ps : PQ := [(.ro, tMiner)]
noncomputable def rs : RQ := [(i64, (roMd i64))]
noncomputable def tl : TL := [(2, i64), (22, (.slc (.slc u8))), (79, (.slc tChange)), (82, (.slc tBuffer)), (84, tMiner), (270, tBuffer)]
noncomputable def gl : GL := [(185, impl_isTx.sig), (259, impl_PagesFault.sig), (260, impl_foldedFault.sig), (261, impl_Miner_open.sig)]
noncomputable def E : Env := { TI := lookN tl, G := lookN gl, lv := [(7, [1, 18, 19, 20])], lx := [(0, [])] }
noncomputable def W (k : Nat) (a : Arg) : Option Out := bodyK E k f197 ps rs [] [] a
noncomputable def sem (a : Arg) : Option Out := lift fun k => W k a
noncomputable def sig : Sig := { ps := ps, rs := rs, F := sem }
noncomputable def C : Code := bodyOf f197
noncomputable def fin : St → Option Out := outK ps rs [] (Func.results f197).toList (mvs [])
noncomputable def K0 : Ex → St → Option Out := endK fin
noncomputable def T0 (a1 : Arg) (v403 : Int) : St := { n := 42, sl := [(1, .box tMiner (roMd tMiner) [] a1.1), (18, .val (.slc tBuffer) a1.1.2.1), (19, .val i64 (a1.1.2.1.length : Int)), (20, .val i64 v403)], vr := [], lent := [] }
noncomputable def N0 (k : Nat) : St → (Ex → St → Option Out) → Option Out := codeK E k fin (sub [1, 1, 1, 0, 1, 0, 0] C)
noncomputable def M0 : St → St := keepF [1, 18, 19, 20] []
noncomputable def S0 (rec : RT Out) (a1 : Arg) : (Int) → Option Out := fun v403 => rec (T0 a1 v403)
noncomputable def X0_0 (K : KT Out) (a1 : Arg) : (Unit) → Option Out := fun z => K (.exit 0) ({ n := 42, sl := [], vr := [], lent := [] })
noncomputable def b0 (self : Int → Option Out) (e0 : (Unit) → Option Out) (a1 : Arg) (v403 : Int) : Option Out := bif decide (v403 < (a1.1.2.1.length : Int)) then (if 0 ≤ v403 then ((a1.1.2.1[v403.toNat]?).bind fun x604 => (impl_isTx.sem (x604.1, ())).bind fun r605 => bif !r605.1 then (some ((3 : Int), ())) else (impl_foldedFault.sem (x604.2.1, ())).bind fun r606 => bif !decide (r606.1 = (0 : Int)) then (some (r606.1, ())) else (impl_Miner_open.sem (a1.1, x604.1, ())).bind fun r607 => bif decide (r607.1 < v403) then (some ((6 : Int), ())) else self (w64 (v403 + (1 : Int)))) else none) else e0 ()
noncomputable def B0 (k : Nat) (self : Int → Option Out) (e0 : (Unit) → Option Out) (a1 : Arg) (v403 : Int) : Option Out := b0 self e0 a1 v403
theorem B0_eq (k : Nat) (rec : RT Out) (K : KT Out) (a1 : Arg) (v403 : Int) : N0 k (T0 a1 v403) (loopC rec M0 K) = B0 k (S0 rec a1) (X0_0 K a1) a1 v403 := by kernel_rfl
noncomputable def l0 (k : Nat) (a1 : Arg) (e0 : (Unit) → Option Out) (v : Int) : Option Out := rawIter (fun self v => B0 k self e0 a1 v) k v
theorem l0_eq (k : Nat) (K : KT Out) (a1 : Arg) (v403 : Int) : iterK (N0 k) M0 K k (T0 a1 v403) = l0 k a1 (X0_0 K a1) v403 :=
  iter_raw _ _ K (fun v403 => (T0 a1 v403)) (fun self v => B0 k self (X0_0 K a1) a1 v) (fun rec v => B0_eq k rec K a1 v) k v403
noncomputable def q0 (a1 : Arg) (z608 : (Unit)) : Option Out := some ((0 : Int), ())
noncomputable def Q0 (k : Nat) (a1 : Arg) (z608 : (Unit)) : Option Out := q0 a1 z608
theorem Q0_eq (k : Nat) (a1 : Arg) (z608 : (Unit)) : X0_0 (blockC 0 (seqC (codeK E k fin (sub [1, 1, 1, 1] C)) K0)) a1 z608 = Q0 k a1 z608 := by kernel_rfl
noncomputable def s0 (k : Nat) (a1 : Arg) : (Int) → Option Out := fun v403 => iterK (N0 k) M0 (blockC 0 (seqC (codeK E k fin (sub [1, 1, 1, 1] C)) K0)) k (T0 a1 v403)
noncomputable def r0 (k : Nat) (a1 : Arg) : (Int) → Option Out := fun v403 => l0 k a1 (fun z => Q0 k a1 z) v403
theorem s0_eq (k : Nat) (a1 : Arg) : s0 k a1 = r0 k a1 := by
  funext v403;
  have h0 : X0_0 ((blockC 0 (seqC (codeK E k fin (sub [1, 1, 1, 1] C)) K0))) a1 = fun z => Q0 k a1 z := funext fun z => Q0_eq k a1 z
  refine (l0_eq k ((blockC 0 (seqC (codeK E k fin (sub [1, 1, 1, 1] C)) K0))) a1 v403).trans ?_
  rw [h0]
  rfl
noncomputable def p (l0 : (Int) → Option Out) (a1 : Arg) : Option Out := (impl_PagesFault.sem (a1.1.1, ())).bind fun r2 => bif !decide (r2.1 = (0 : Int)) then (some (r2.1, ())) else bif decide ((8 : Int) < (a1.1.2.1.length : Int)) then (some ((2 : Int), ())) else l0 (0 : Int)
noncomputable def raw (k : Nat) (a1 : Arg) : Option Out := p (r0 k a1) a1
theorem p_eq (k : Nat) (a1 : Arg) : W k a1 = p (s0 k a1) a1 := by kernel_rfl
theorem raw_eq (k : Nat) (a1 : Arg) : W k a1 = raw k a1 := (p_eq k a1).trans (by rw [s0_eq]; rfl)
theorem ok : Ok prog 197 sig := fn_ok func197 (tl := tl) (gl := gl) (es := []) (fr := []) rfl rfl (by kernel_rfl) (fc impl_isTx.ok (fc impl_PagesFault.ok (fc impl_foldedFault.ok (fc impl_Miner_open.ok (fn_nil _))))) (fun _ => rfl)
end impl_MinerFault
namespace impl_ConnectorFault
/-! loop example g00408 impl ConnectorFault -/
abbrev Arg : Type := Connector × Unit
abbrev Out : Type := Int × Unit
noncomputable def ps : PQ := [(.ro, tConnector)]
noncomputable def rs : RQ := [(i64, (roMd i64))]
noncomputable def tl : TL := [(2, i64), (84, tMiner), (86, tConnector)]
noncomputable def gl : GL := [(99, impl_in.sig), (197, impl_MinerFault.sig)]
noncomputable def E : Env := { TI := lookN tl, G := lookN gl }
noncomputable def W (k : Nat) (a : Arg) : Option Out := bodyK E k f111 ps rs [] [] a
noncomputable def sem (a : Arg) : Option Out := lift fun k => W k a
noncomputable def sig : Sig := { ps := ps, rs := rs, F := sem }
noncomputable def p (a1 : Arg) : Option Out := (impl_MinerFault.sem (a1.1.1, ())).bind fun r2 => bif !decide (r2.1 = (0 : Int)) then (some (r2.1, ())) else (impl_MinerFault.sem (a1.1.2.2.1, ())).bind fun r3 => bif !decide (r3.1 = (0 : Int)) then (some (r3.1, ())) else (impl_in.sem (a1.1.2.1, (0 : Int), (16000 : Int), ())).bind fun r4 => bif !r4.1 then (some ((3 : Int), ())) else (impl_in.sem (a1.1.2.2.2.1, (0 : Int), a1.1.2.1, ())).bind fun r5 => bif !r5.1 then (some ((3 : Int), ())) else some ((0 : Int), ())
noncomputable def raw (k : Nat) (a1 : Arg) : Option Out := p a1
theorem raw_eq (k : Nat) (a1 : Arg) : W k a1 = raw k a1 := by kernel_rfl
theorem ok : Ok prog 111 sig := fn_ok func111 (tl := tl) (gl := gl) (es := []) (fr := []) rfl rfl (by kernel_rfl) (fc impl_in.ok (fc impl_MinerFault.ok (fn_nil _))) (fun _ => rfl)
end impl_ConnectorFault
namespace impl_ownBuffer
/-! loop example g00408 impl ownBuffer -/
abbrev Arg : Type := Buffer × Unit
abbrev Out : Type := Buffer × Unit
noncomputable def ps : PQ := [(.ro, tBuffer)]
noncomputable def rs : RQ := [(tBuffer, (ownMd tBuffer))]
noncomputable def tl : TL := [(2, i64), (79, (.slc tChange)), (270, tBuffer)]
noncomputable def gl : GL := [(233, slices_Clone_Change.sig)]
noncomputable def E : Env := { TI := lookN tl, G := lookN gl, od := [(1, [0, 1, 2, 3, 4, 5, 6])] }
noncomputable def W (k : Nat) (a : Arg) : Option Out := bodyK E k f198 ps rs [] [] a
noncomputable def sem (a : Arg) : Option Out := lift fun k => W k a
noncomputable def sig : Sig := { ps := ps, rs := rs, F := sem }
noncomputable def p (a1 : Arg) : Option Out := (slices_Clone_Change.sem (a1.1.2.1, ())).bind fun r2 => some ((a1.1.1, r2.1, ()), ())
noncomputable def raw (k : Nat) (a1 : Arg) : Option Out := p a1
theorem raw_eq (k : Nat) (a1 : Arg) : W k a1 = raw k a1 := by kernel_rfl
theorem ok : Ok prog 198 sig := fn_ok func198 (tl := tl) (gl := gl) (es := []) (fr := []) rfl rfl (by kernel_rfl) (fc slices_Clone_Change.ok (fn_nil _)) (fun _ => rfl)
end impl_ownBuffer
namespace impl_Miner_own
/-!  loop example g00408 impl Miner  own -/
abbrev Arg : Type := Miner × Unit
abbrev Out : Type := Miner × Unit
noncomputable def ps : PQ := [(.ro, tMiner)]
noncomputable def rs : RQ := [(tMiner, (ownMd tMiner))]
noncomputable def tl : TL := [(22, (.slc (.slc u8))), (82, (.slc tBuffer)), (84, tMiner), (270, tBuffer)]
noncomputable def gl : GL := [(135, impl_copies.sig), (198, impl_ownBuffer.sig)]
noncomputable def E : Env := { TI := lookN tl, G := lookN gl, lv := [(3, [2, 3, 11, 12, 13])], lx := [(0, [2, 3])], od := [(5, [0, 1, 2, 3, 4, 5, 6, 7])] }
noncomputable def W (k : Nat) (a : Arg) : Option Out := bodyK E k f112 ps rs [] [] a
noncomputable def sem (a : Arg) : Option Out := lift fun k => W k a
noncomputable def sig : Sig := { ps := ps, rs := rs, F := sem }
noncomputable def C : Code := bodyOf f112
noncomputable def fin : St → Option Out := outK ps rs [] (Func.results f112).toList (mvs [])
noncomputable def K0 : Ex → St → Option Out := endK fin
noncomputable def T0 (a1 : Arg) (v403 : Miner × Int) : St := { n := 26, sl := [(2, .box tMiner (ownMd tMiner) [] (([] : List (List UInt8)), ([] : List Buffer), ())), (3, .box tMiner (ownMd tMiner) [] v403.1), (11, .val (.slc tBuffer) a1.1.2.1), (12, .val i64 (a1.1.2.1.length : Int)), (13, .val i64 v403.2)], vr := [], lent := [] }
noncomputable def N0 (k : Nat) : St → (Ex → St → Option Out) → Option Out := codeK E k fin (sub [1, 1, 0, 1, 0, 0] C)
noncomputable def M0 : St → St := keepF [2, 3, 11, 12, 13] []
noncomputable def S0 (rec : RT Out) (a1 : Arg) : (Miner × Int) → Option Out := fun v403 => rec (T0 a1 v403)
noncomputable def X0_0 (K : KT Out) (a1 : Arg) : Miner → Option Out := fun z => K (.exit 0) ({ n := 26, sl := [(2, .box tMiner (ownMd tMiner) [] (([] : List (List UInt8)), ([] : List Buffer), ())), (3, .box tMiner (ownMd tMiner) [] z)], vr := [], lent := [] })
noncomputable def b0 (self : (Miner × Int) → Option Out) (e0 : Miner → Option Out) (a1 : Arg) (v403 : Miner × Int) : Option Out := bif decide (v403.2 < (a1.1.2.1.length : Int)) then (if 0 ≤ v403.2 then ((a1.1.2.1[v403.2.toNat]?).bind fun x604 => (impl_ownBuffer.sem (x604, ())).bind fun r605 => if v403.1.2.1.length + [r605.1].length ≤ CAP then (self ((v403.1.1, v403.1.2.1 ++ [r605.1], v403.1.2.2), w64 (v403.2 + (1 : Int)))) else none) else none) else e0 v403.1
noncomputable def B0 (k : Nat) (self : (Miner × Int) → Option Out) (e0 : Miner → Option Out) (a1 : Arg) (v403 : Miner × Int) : Option Out := b0 self e0 a1 v403
theorem B0_eq (k : Nat) (rec : RT Out) (K : KT Out) (a1 : Arg) (v403 : Miner × Int) : N0 k (T0 a1 v403) (loopC rec M0 K) = B0 k (S0 rec a1) (X0_0 K a1) a1 v403 := by kernel_rfl
noncomputable def l0 (k : Nat) (a1 : Arg) (e0 : Miner → Option Out) (v : Miner × Int) : Option Out := rawIter (fun self v => B0 k self e0 a1 v) k v
theorem l0_eq (k : Nat) (K : KT Out) (a1 : Arg) (v403 : Miner × Int) : iterK (N0 k) M0 K k (T0 a1 v403) = l0 k a1 (X0_0 K a1) v403 :=
  iter_raw _ _ K (fun v403 => (T0 a1 v403)) (fun self v => B0 k self (X0_0 K a1) a1 v) (fun rec v => B0_eq k rec K a1 v) k v403
noncomputable def q0 (a1 : Arg) (z606 : Miner) : Option Out := some (z606, ())
noncomputable def Q0 (k : Nat) (a1 : Arg) (z606 : Miner) : Option Out := q0 a1 z606
theorem Q0_eq (k : Nat) (a1 : Arg) (z606 : Miner) : X0_0 (blockC 0 (seqC (codeK E k fin (sub [1, 1, 1] C)) K0)) a1 z606 = Q0 k a1 z606 := by kernel_rfl
noncomputable def s0 (k : Nat) (a1 : Arg) : (Miner × Int) → Option Out := fun v403 => iterK (N0 k) M0 (blockC 0 (seqC (codeK E k fin (sub [1, 1, 1] C)) K0)) k (T0 a1 v403)
noncomputable def r0 (k : Nat) (a1 : Arg) : (Miner × Int) → Option Out := fun v403 => l0 k a1 (fun z => Q0 k a1 z) v403
theorem s0_eq (k : Nat) (a1 : Arg) : s0 k a1 = r0 k a1 := by
  funext v403;
  have h0 : X0_0 ((blockC 0 (seqC (codeK E k fin (sub [1, 1, 1] C)) K0))) a1 = fun z => Q0 k a1 z := funext fun z => Q0_eq k a1 z
  refine (l0_eq k ((blockC 0 (seqC (codeK E k fin (sub [1, 1, 1] C)) K0))) a1 v403).trans ?_
  rw [h0]
  rfl
noncomputable def p (l0 : (Miner × Int) → Option Out) (a1 : Arg) : Option Out := (impl_copies.sem (a1.1.1, ())).bind fun r2 => l0 ((r2.1, ([] : List Buffer), ()), (0 : Int))
noncomputable def raw (k : Nat) (a1 : Arg) : Option Out := p (r0 k a1) a1
theorem p_eq (k : Nat) (a1 : Arg) : W k a1 = p (s0 k a1) a1 := by kernel_rfl
theorem raw_eq (k : Nat) (a1 : Arg) : W k a1 = raw k a1 := (p_eq k a1).trans (by rw [s0_eq]; rfl)
theorem ok : Ok prog 112 sig := fn_ok func112 (tl := tl) (gl := gl) (es := []) (fr := []) rfl rfl (by kernel_rfl) (fc impl_copies.ok (fc impl_ownBuffer.ok (fn_nil _))) (fun _ => rfl)
end impl_Miner_own
namespace laws_eqRow
/-! loop example g00408 laws eqRow -/
abbrev Arg : Type := Row × Row × Unit
abbrev Out : Type := Bool × Unit
noncomputable def ps : PQ := [(.ro, tRow), (.ro, tRow)]
noncomputable def rs : RQ := [(.bool, (roMd .bool))]
noncomputable def tl : TL := [(2, i64), (9, .str), (32, tRow)]
noncomputable def gl : GL := []
noncomputable def E : Env := { TI := lookN tl, G := lookN gl }
noncomputable def W (k : Nat) (a : Arg) : Option Out := bodyK E k f299 ps rs [] [] a
noncomputable def sem (a : Arg) : Option Out := lift fun k => W k a
noncomputable def sig : Sig := { ps := ps, rs := rs, F := sem }
noncomputable def p (a1 : Arg) : Option Out := bif !decide (a1.1.1 = a1.2.1.1) then (some (false, ())) else bif !decide (a1.1.2.1 = a1.2.1.2.1) then (some (false, ())) else bif !decide (a1.1.2.2.1 = a1.2.1.2.2.1) then (some (false, ())) else bif !decide (a1.1.2.2.2.1 = a1.2.1.2.2.2.1) then (some (false, ())) else some (true, ())
noncomputable def raw (k : Nat) (a1 : Arg) : Option Out := p a1
theorem raw_eq (k : Nat) (a1 : Arg) : W k a1 = raw k a1 := by kernel_rfl
theorem ok : Ok prog 299 sig := fn_ok func299 (tl := tl) (gl := gl) (es := []) (fr := []) rfl rfl (by kernel_rfl) (fn_nil _) (fun _ => rfl)
end laws_eqRow
namespace laws_eqChange
/-! loop example g00408 laws eqChange -/
abbrev Arg : Type := Change × Change × Unit
abbrev Out : Type := Bool × Unit
noncomputable def ps : PQ := [(.ro, tChange), (.ro, tChange)]
noncomputable def rs : RQ := [(.bool, (roMd .bool))]
noncomputable def tl : TL := [(4, .bool), (32, tRow), (43, tChange)]
noncomputable def gl : GL := [(299, laws_eqRow.sig)]
noncomputable def E : Env := { TI := lookN tl, G := lookN gl }
noncomputable def W (k : Nat) (a : Arg) : Option Out := bodyK E k f262 ps rs [] [] a
noncomputable def sem (a : Arg) : Option Out := lift fun k => W k a
noncomputable def sig : Sig := { ps := ps, rs := rs, F := sem }
noncomputable def p (a1 : Arg) : Option Out := bif !(a1.1.1 == a1.2.1.1) then (some (false, ())) else (laws_eqRow.sem (a1.1.2.1, a1.2.1.2.1, ())).bind fun r2 => bif !r2.1 then (some (false, ())) else bif !(a1.1.2.2.1 == a1.2.1.2.2.1) then (some (false, ())) else (laws_eqRow.sem (a1.1.2.2.2.1, a1.2.1.2.2.2.1, ())).bind fun r3 => bif !r3.1 then (some (false, ())) else some (true, ())
noncomputable def raw (k : Nat) (a1 : Arg) : Option Out := p a1
theorem raw_eq (k : Nat) (a1 : Arg) : W k a1 = raw k a1 := by kernel_rfl
theorem ok : Ok prog 262 sig := fn_ok func262 (tl := tl) (gl := gl) (es := []) (fr := []) rfl rfl (by kernel_rfl) (fc laws_eqRow.ok (fn_nil _)) (fun _ => rfl)
end laws_eqChange
namespace laws_eqChangeS
/-! loop example g00408 laws eqChangeS -/
abbrev Arg : Type := (List Change) × (List Change) × Unit
abbrev Out : Type := Bool × Unit
noncomputable def ps : PQ := [(.ro, (.slc tChange)), (.ro, (.slc tChange))]
noncomputable def rs : RQ := [(.bool, (roMd .bool))]
noncomputable def tl : TL := [(43, tChange), (79, (.slc tChange))]
noncomputable def gl : GL := [(262, laws_eqChange.sig)]
noncomputable def E : Env := { TI := lookN tl, G := lookN gl, lv := [(4, [0, 1, 5])], lx := [(0, [])], od := [(6, [0, 1, 2, 3, 4, 5, 6, 7, 8, 9])] }
noncomputable def W (k : Nat) (a : Arg) : Option Out := bodyK E k f199 ps rs [] [] a
noncomputable def sem (a : Arg) : Option Out := lift fun k => W k a
noncomputable def sig : Sig := { ps := ps, rs := rs, F := sem }
noncomputable def C : Code := bodyOf f199
noncomputable def fin : St → Option Out := outK ps rs [] (Func.results f199).toList (mvs [])
noncomputable def K0 : Ex → St → Option Out := endK fin
noncomputable def T0 (a1 : Arg) (v402 : Int) : St := { n := 27, sl := [(0, .val (.slc tChange) a1.1), (1, .val (.slc tChange) a1.2.1), (5, .val i64 v402)], vr := [], lent := [] }
noncomputable def N0 (k : Nat) : St → (Ex → St → Option Out) → Option Out := codeK E k fin (sub [1, 1, 0, 1, 0, 0] C)
noncomputable def M0 : St → St := keepF [0, 1, 5] []
noncomputable def S0 (rec : RT Out) (a1 : Arg) : (Int) → Option Out := fun v402 => rec (T0 a1 v402)
noncomputable def X0_0 (K : KT Out) (a1 : Arg) : (Unit) → Option Out := fun z => K (.exit 0) ({ n := 27, sl := [], vr := [], lent := [] })
noncomputable def b0 (self : Int → Option Out) (e0 : (Unit) → Option Out) (a1 : Arg) (v402 : Int) : Option Out := bif decide (v402 < (a1.1.length : Int)) then (if 0 ≤ v402 then ((a1.1[v402.toNat]?).bind fun x603 => if 0 ≤ v402 then ((a1.2.1[v402.toNat]?).bind fun x604 => (laws_eqChange.sem (x603, x604, ())).bind fun r605 => bif !r605.1 then (some (false, ())) else self (w64 (v402 + (1 : Int)))) else none) else none) else e0 ()
noncomputable def B0 (k : Nat) (self : Int → Option Out) (e0 : (Unit) → Option Out) (a1 : Arg) (v402 : Int) : Option Out := b0 self e0 a1 v402
theorem B0_eq (k : Nat) (rec : RT Out) (K : KT Out) (a1 : Arg) (v402 : Int) : N0 k (T0 a1 v402) (loopC rec M0 K) = B0 k (S0 rec a1) (X0_0 K a1) a1 v402 := by kernel_rfl
noncomputable def l0 (k : Nat) (a1 : Arg) (e0 : (Unit) → Option Out) (v : Int) : Option Out := rawIter (fun self v => B0 k self e0 a1 v) k v
theorem l0_eq (k : Nat) (K : KT Out) (a1 : Arg) (v402 : Int) : iterK (N0 k) M0 K k (T0 a1 v402) = l0 k a1 (X0_0 K a1) v402 :=
  iter_raw _ _ K (fun v402 => (T0 a1 v402)) (fun self v => B0 k self (X0_0 K a1) a1 v) (fun rec v => B0_eq k rec K a1 v) k v402
noncomputable def q0 (a1 : Arg) (z606 : (Unit)) : Option Out := some (true, ())
noncomputable def Q0 (k : Nat) (a1 : Arg) (z606 : (Unit)) : Option Out := q0 a1 z606
theorem Q0_eq (k : Nat) (a1 : Arg) (z606 : (Unit)) : X0_0 (blockC 0 (seqC (codeK E k fin (sub [1, 1, 1] C)) K0)) a1 z606 = Q0 k a1 z606 := by kernel_rfl
noncomputable def s0 (k : Nat) (a1 : Arg) : (Int) → Option Out := fun v402 => iterK (N0 k) M0 (blockC 0 (seqC (codeK E k fin (sub [1, 1, 1] C)) K0)) k (T0 a1 v402)
noncomputable def r0 (k : Nat) (a1 : Arg) : (Int) → Option Out := fun v402 => l0 k a1 (fun z => Q0 k a1 z) v402
theorem s0_eq (k : Nat) (a1 : Arg) : s0 k a1 = r0 k a1 := by
  funext v402;
  have h0 : X0_0 ((blockC 0 (seqC (codeK E k fin (sub [1, 1, 1] C)) K0))) a1 = fun z => Q0 k a1 z := funext fun z => Q0_eq k a1 z
  refine (l0_eq k ((blockC 0 (seqC (codeK E k fin (sub [1, 1, 1] C)) K0))) a1 v402).trans ?_
  rw [h0]
  rfl
noncomputable def p (l0 : (Int) → Option Out) (a1 : Arg) : Option Out := bif !decide ((a1.1.length : Int) = (a1.2.1.length : Int)) then (some (false, ())) else l0 (0 : Int)
noncomputable def raw (k : Nat) (a1 : Arg) : Option Out := p (r0 k a1) a1
theorem p_eq (k : Nat) (a1 : Arg) : W k a1 = p (s0 k a1) a1 := by kernel_rfl
theorem raw_eq (k : Nat) (a1 : Arg) : W k a1 = raw k a1 := (p_eq k a1).trans (by rw [s0_eq]; rfl)
theorem ok : Ok prog 199 sig := fn_ok func199 (tl := tl) (gl := gl) (es := []) (fr := []) rfl rfl (by kernel_rfl) (fc laws_eqChange.ok (fn_nil _)) (fun _ => rfl)
end laws_eqChangeS
namespace laws_eqBuffer
/-! loop example g00408 laws eqBuffer -/
abbrev Arg : Type := Buffer × Buffer × Unit
abbrev Out : Type := Bool × Unit
noncomputable def ps : PQ := [(.ro, tBuffer), (.ro, tBuffer)]
noncomputable def rs : RQ := [(.bool, (roMd .bool))]
noncomputable def tl : TL := [(2, i64), (79, (.slc tChange)), (270, tBuffer)]
noncomputable def gl : GL := [(199, laws_eqChangeS.sig)]
noncomputable def E : Env := { TI := lookN tl, G := lookN gl }
noncomputable def W (k : Nat) (a : Arg) : Option Out := bodyK E k f263 ps rs [] [] a
noncomputable def sem (a : Arg) : Option Out := lift fun k => W k a
noncomputable def sig : Sig := { ps := ps, rs := rs, F := sem }
noncomputable def p (a1 : Arg) : Option Out := bif !decide (a1.1.1 = a1.2.1.1) then (some (false, ())) else (laws_eqChangeS.sem (a1.1.2.1, a1.2.1.2.1, ())).bind fun r2 => bif !r2.1 then (some (false, ())) else some (true, ())
noncomputable def raw (k : Nat) (a1 : Arg) : Option Out := p a1
theorem raw_eq (k : Nat) (a1 : Arg) : W k a1 = raw k a1 := by kernel_rfl
theorem ok : Ok prog 263 sig := fn_ok func263 (tl := tl) (gl := gl) (es := []) (fr := []) rfl rfl (by kernel_rfl) (fc laws_eqChangeS.ok (fn_nil _)) (fun _ => rfl)
end laws_eqBuffer
namespace laws_eqBufferS
/-! loop example g00408 laws eqBufferS -/
abbrev Arg : Type := (List Buffer) × (List Buffer) × Unit
abbrev Out : Type := Bool × Unit
noncomputable def ps : PQ := [(.ro, (.slc tBuffer)), (.ro, (.slc tBuffer))]
noncomputable def rs : RQ := [(.bool, (roMd .bool))]
noncomputable def tl : TL := [(82, (.slc tBuffer)), (270, tBuffer)]
noncomputable def gl : GL := [(263, laws_eqBuffer.sig)]
noncomputable def E : Env := { TI := lookN tl, G := lookN gl, lv := [(4, [0, 1, 5])], lx := [(0, [])], od := [(6, [0, 1, 2, 3, 4, 5, 6, 7, 8, 9])] }
noncomputable def W (k : Nat) (a : Arg) : Option Out := bodyK E k f200 ps rs [] [] a
noncomputable def sem (a : Arg) : Option Out := lift fun k => W k a
noncomputable def sig : Sig := { ps := ps, rs := rs, F := sem }
noncomputable def C : Code := bodyOf f200
noncomputable def fin : St → Option Out := outK ps rs [] (Func.results f200).toList (mvs [])
noncomputable def K0 : Ex → St → Option Out := endK fin
noncomputable def T0 (a1 : Arg) (v402 : Int) : St := { n := 27, sl := [(0, .val (.slc tBuffer) a1.1), (1, .val (.slc tBuffer) a1.2.1), (5, .val i64 v402)], vr := [], lent := [] }
noncomputable def N0 (k : Nat) : St → (Ex → St → Option Out) → Option Out := codeK E k fin (sub [1, 1, 0, 1, 0, 0] C)
noncomputable def M0 : St → St := keepF [0, 1, 5] []
noncomputable def S0 (rec : RT Out) (a1 : Arg) : (Int) → Option Out := fun v402 => rec (T0 a1 v402)
noncomputable def X0_0 (K : KT Out) (a1 : Arg) : (Unit) → Option Out := fun z => K (.exit 0) ({ n := 27, sl := [], vr := [], lent := [] })
noncomputable def b0 (self : Int → Option Out) (e0 : (Unit) → Option Out) (a1 : Arg) (v402 : Int) : Option Out := bif decide (v402 < (a1.1.length : Int)) then (if 0 ≤ v402 then ((a1.1[v402.toNat]?).bind fun x603 => if 0 ≤ v402 then ((a1.2.1[v402.toNat]?).bind fun x604 => (laws_eqBuffer.sem (x603, x604, ())).bind fun r605 => bif !r605.1 then (some (false, ())) else self (w64 (v402 + (1 : Int)))) else none) else none) else e0 ()
noncomputable def B0 (k : Nat) (self : Int → Option Out) (e0 : (Unit) → Option Out) (a1 : Arg) (v402 : Int) : Option Out := b0 self e0 a1 v402
theorem B0_eq (k : Nat) (rec : RT Out) (K : KT Out) (a1 : Arg) (v402 : Int) : N0 k (T0 a1 v402) (loopC rec M0 K) = B0 k (S0 rec a1) (X0_0 K a1) a1 v402 := by kernel_rfl
noncomputable def l0 (k : Nat) (a1 : Arg) (e0 : (Unit) → Option Out) (v : Int) : Option Out := rawIter (fun self v => B0 k self e0 a1 v) k v
theorem l0_eq (k : Nat) (K : KT Out) (a1 : Arg) (v402 : Int) : iterK (N0 k) M0 K k (T0 a1 v402) = l0 k a1 (X0_0 K a1) v402 :=
  iter_raw _ _ K (fun v402 => (T0 a1 v402)) (fun self v => B0 k self (X0_0 K a1) a1 v) (fun rec v => B0_eq k rec K a1 v) k v402
noncomputable def q0 (a1 : Arg) (z606 : (Unit)) : Option Out := some (true, ())
noncomputable def Q0 (k : Nat) (a1 : Arg) (z606 : (Unit)) : Option Out := q0 a1 z606
theorem Q0_eq (k : Nat) (a1 : Arg) (z606 : (Unit)) : X0_0 (blockC 0 (seqC (codeK E k fin (sub [1, 1, 1] C)) K0)) a1 z606 = Q0 k a1 z606 := by kernel_rfl
noncomputable def s0 (k : Nat) (a1 : Arg) : (Int) → Option Out := fun v402 => iterK (N0 k) M0 (blockC 0 (seqC (codeK E k fin (sub [1, 1, 1] C)) K0)) k (T0 a1 v402)
noncomputable def r0 (k : Nat) (a1 : Arg) : (Int) → Option Out := fun v402 => l0 k a1 (fun z => Q0 k a1 z) v402
theorem s0_eq (k : Nat) (a1 : Arg) : s0 k a1 = r0 k a1 := by
  funext v402;
  have h0 : X0_0 ((blockC 0 (seqC (codeK E k fin (sub [1, 1, 1] C)) K0))) a1 = fun z => Q0 k a1 z := funext fun z => Q0_eq k a1 z
  refine (l0_eq k ((blockC 0 (seqC (codeK E k fin (sub [1, 1, 1] C)) K0))) a1 v402).trans ?_
  rw [h0]
  rfl
noncomputable def p (l0 : (Int) → Option Out) (a1 : Arg) : Option Out := bif !decide ((a1.1.length : Int) = (a1.2.1.length : Int)) then (some (false, ())) else l0 (0 : Int)
noncomputable def raw (k : Nat) (a1 : Arg) : Option Out := p (r0 k a1) a1
theorem p_eq (k : Nat) (a1 : Arg) : W k a1 = p (s0 k a1) a1 := by kernel_rfl
theorem raw_eq (k : Nat) (a1 : Arg) : W k a1 = raw k a1 := (p_eq k a1).trans (by rw [s0_eq]; rfl)
theorem ok : Ok prog 200 sig := fn_ok func200 (tl := tl) (gl := gl) (es := []) (fr := []) rfl rfl (by kernel_rfl) (fc laws_eqBuffer.ok (fn_nil _)) (fun _ => rfl)
end laws_eqBufferS
namespace laws_eqMiner
/-! loop example g00408 laws eqMiner -/
abbrev Arg : Type := Miner × Miner × Unit
abbrev Out : Type := Bool × Unit
noncomputable def ps : PQ := [(.ro, tMiner), (.ro, tMiner)]
noncomputable def rs : RQ := [(.bool, (roMd .bool))]
noncomputable def tl : TL := [(22, (.slc (.slc u8))), (82, (.slc tBuffer)), (84, tMiner)]
noncomputable def gl : GL := [(18, laws_eqByteSS.sig), (200, laws_eqBufferS.sig)]
noncomputable def E : Env := { TI := lookN tl, G := lookN gl }
noncomputable def W (k : Nat) (a : Arg) : Option Out := bodyK E k f114 ps rs [] [] a
noncomputable def sem (a : Arg) : Option Out := lift fun k => W k a
noncomputable def sig : Sig := { ps := ps, rs := rs, F := sem }
noncomputable def p (a1 : Arg) : Option Out := (laws_eqByteSS.sem (a1.1.1, a1.2.1.1, ())).bind fun r2 => bif !r2.1 then (some (false, ())) else (laws_eqBufferS.sem (a1.1.2.1, a1.2.1.2.1, ())).bind fun r3 => bif !r3.1 then (some (false, ())) else some (true, ())
noncomputable def raw (k : Nat) (a1 : Arg) : Option Out := p a1
theorem raw_eq (k : Nat) (a1 : Arg) : W k a1 = raw k a1 := by kernel_rfl
theorem ok : Ok prog 114 sig := fn_ok func114 (tl := tl) (gl := gl) (es := []) (fr := []) rfl rfl (by kernel_rfl) (fc laws_eqByteSS.ok (fc laws_eqBufferS.ok (fn_nil _))) (fun _ => rfl)
end laws_eqMiner
namespace laws_eqConnector
/-! loop example g00408 laws eqConnector -/
abbrev Arg : Type := Connector × Connector × Unit
abbrev Out : Type := Bool × Unit
noncomputable def ps : PQ := [(.ro, tConnector), (.ro, tConnector)]
noncomputable def rs : RQ := [(.bool, (roMd .bool))]
noncomputable def tl : TL := [(2, i64), (84, tMiner), (86, tConnector)]
noncomputable def gl : GL := [(114, laws_eqMiner.sig)]
noncomputable def E : Env := { TI := lookN tl, G := lookN gl }
noncomputable def W (k : Nat) (a : Arg) : Option Out := bodyK E k f46 ps rs [] [] a
noncomputable def sem (a : Arg) : Option Out := lift fun k => W k a
noncomputable def sig : Sig := { ps := ps, rs := rs, F := sem }
noncomputable def p (a1 : Arg) : Option Out := (laws_eqMiner.sem (a1.1.1, a1.2.1.1, ())).bind fun r2 => bif !r2.1 then (some (false, ())) else bif !decide (a1.1.2.1 = a1.2.1.2.1) then (some (false, ())) else (laws_eqMiner.sem (a1.1.2.2.1, a1.2.1.2.2.1, ())).bind fun r3 => bif !r3.1 then (some (false, ())) else bif !decide (a1.1.2.2.2.1 = a1.2.1.2.2.2.1) then (some (false, ())) else some (true, ())
noncomputable def raw (k : Nat) (a1 : Arg) : Option Out := p a1
theorem raw_eq (k : Nat) (a1 : Arg) : W k a1 = raw k a1 := by kernel_rfl
theorem ok : Ok prog 46 sig := fn_ok func46 (tl := tl) (gl := gl) (es := []) (fr := []) rfl rfl (by kernel_rfl) (fc laws_eqMiner.ok (fn_nil _)) (fun _ => rfl)
end laws_eqConnector
namespace laws_eqSent
/-! loop example g00408 laws eqSent -/
abbrev Arg : Type := Sent × Sent × Unit
abbrev Out : Type := Bool × Unit
noncomputable def ps : PQ := [(.ro, tSent), (.ro, tSent)]
noncomputable def rs : RQ := [(.bool, (roMd .bool))]
noncomputable def tl : TL := [(2, i64), (79, (.slc tChange)), (81, tSent)]
noncomputable def gl : GL := [(199, laws_eqChangeS.sig)]
noncomputable def E : Env := { TI := lookN tl, G := lookN gl }
noncomputable def W (k : Nat) (a : Arg) : Option Out := bodyK E k f113 ps rs [] [] a
noncomputable def sem (a : Arg) : Option Out := lift fun k => W k a
noncomputable def sig : Sig := { ps := ps, rs := rs, F := sem }
noncomputable def p (a1 : Arg) : Option Out := bif !decide (a1.1.1 = a1.2.1.1) then (some (false, ())) else bif !decide (a1.1.2.1 = a1.2.1.2.1) then (some (false, ())) else (laws_eqChangeS.sem (a1.1.2.2.1, a1.2.1.2.2.1, ())).bind fun r2 => bif !r2.1 then (some (false, ())) else some (true, ())
noncomputable def raw (k : Nat) (a1 : Arg) : Option Out := p a1
theorem raw_eq (k : Nat) (a1 : Arg) : W k a1 = raw k a1 := by kernel_rfl
theorem ok : Ok prog 113 sig := fn_ok func113 (tl := tl) (gl := gl) (es := []) (fr := []) rfl rfl (by kernel_rfl) (fc laws_eqChangeS.ok (fn_nil _)) (fun _ => rfl)
end laws_eqSent
namespace laws_eqConnectorResult
/-! loop example g00408 laws eqConnectorResult -/
abbrev Arg : Type := ConnectorResult × ConnectorResult × Unit
abbrev Out : Type := Bool × Unit
noncomputable def ps : PQ := [(.ro, tConnectorResult), (.ro, tConnectorResult)]
noncomputable def rs : RQ := [(.bool, (roMd .bool))]
noncomputable def tl : TL := [(2, i64), (4, .bool), (81, tSent), (86, tConnector), (88, tConnectorResult)]
noncomputable def gl : GL := [(46, laws_eqConnector.sig), (113, laws_eqSent.sig)]
noncomputable def E : Env := { TI := lookN tl, G := lookN gl }
noncomputable def W (k : Nat) (a : Arg) : Option Out := bodyK E k f45 ps rs [] [] a
noncomputable def sem (a : Arg) : Option Out := lift fun k => W k a
noncomputable def sig : Sig := { ps := ps, rs := rs, F := sem }
noncomputable def p (a1 : Arg) : Option Out := bif !decide (a1.1.1 = a1.2.1.1) then (some (false, ())) else bif !(a1.1.2.1 == a1.2.1.2.1) then (some (false, ())) else (laws_eqSent.sem (a1.1.2.2.1, a1.2.1.2.2.1, ())).bind fun r2 => bif !r2.1 then (some (false, ())) else (laws_eqConnector.sem (a1.1.2.2.2.1, a1.2.1.2.2.2.1, ())).bind fun r3 => bif !r3.1 then (some (false, ())) else some (true, ())
noncomputable def raw (k : Nat) (a1 : Arg) : Option Out := p a1
theorem raw_eq (k : Nat) (a1 : Arg) : W k a1 = raw k a1 := by kernel_rfl
theorem ok : Ok prog 45 sig := fn_ok func45 (tl := tl) (gl := gl) (es := []) (fr := []) rfl rfl (by kernel_rfl) (fc laws_eqConnector.ok (fc laws_eqSent.ok (fn_nil _))) (fun _ => rfl)
end laws_eqConnectorResult
namespace laws_markText
/-! loop example g00408 laws markText -/
abbrev Arg : Type := Int × Unit
abbrev Out : Type := (List UInt8) × Unit
noncomputable def ps : PQ := [(.ro, i64)]
noncomputable def rs : RQ := [(.str, (roMd .str))]
noncomputable def tl : TL := [(3, i64), (5, u8), (9, .str), (46, (.slc u8))]
noncomputable def gl : GL := []
noncomputable def E : Env := { TI := lookN tl, G := lookN gl, lv := [(4, [0, 3])], lx := [(0, [3])] }
noncomputable def W (k : Nat) (a : Arg) : Option Out := bodyK E k f264 ps rs [] [] a
noncomputable def sem (a : Arg) : Option Out := lift fun k => W k a
noncomputable def sig : Sig := { ps := ps, rs := rs, F := sem }
noncomputable def C : Code := bodyOf f264
noncomputable def fin : St → Option Out := outK ps rs [] (Func.results f264).toList (mvs [])
noncomputable def K0 : Ex → St → Option Out := endK fin
noncomputable def T0 (a1 : Arg) (v402 : Int × (List UInt8)) : St := { n := 20, sl := [(0, .val i64 v402.1), (3, .val .str v402.2)], vr := [], lent := [] }
noncomputable def N0 (k : Nat) : St → (Ex → St → Option Out) → Option Out := codeK E k fin (sub [1, 1, 1, 0, 0, 0] C)
noncomputable def M0 : St → St := keepF [0, 3] []
noncomputable def S0 (rec : RT Out) (a1 : Arg) : (Int × (List UInt8)) → Option Out := fun v402 => rec (T0 a1 v402)
noncomputable def X0_0 (K : KT Out) (a1 : Arg) : (List UInt8) → Option Out := fun z => K (.exit 0) ({ n := 20, sl := [(3, .val .str z)], vr := [], lent := [] })
noncomputable def b0 (self : (Int × (List UInt8)) → Option Out) (e0 : (List UInt8) → Option Out) (a1 : Arg) (v402 : Int × (List UInt8)) : Option Out := bif decide ((0 : Int) < v402.1) then (if [UInt8.ofInt (w64 ((48 : Int) + (v402.1.tmod (10 : Int))))].length + v402.2.length ≤ CAP then (self (w64 (v402.1.tdiv (10 : Int)), [UInt8.ofInt (w64 ((48 : Int) + (v402.1.tmod (10 : Int))))] ++ v402.2)) else none) else e0 v402.2
noncomputable def B0 (k : Nat) (self : (Int × (List UInt8)) → Option Out) (e0 : (List UInt8) → Option Out) (a1 : Arg) (v402 : Int × (List UInt8)) : Option Out := b0 self e0 a1 v402
theorem B0_eq (k : Nat) (rec : RT Out) (K : KT Out) (a1 : Arg) (v402 : Int × (List UInt8)) : N0 k (T0 a1 v402) (loopC rec M0 K) = B0 k (S0 rec a1) (X0_0 K a1) a1 v402 := by kernel_rfl
noncomputable def l0 (k : Nat) (a1 : Arg) (e0 : (List UInt8) → Option Out) (v : Int × (List UInt8)) : Option Out := rawIter (fun self v => B0 k self e0 a1 v) k v
theorem l0_eq (k : Nat) (K : KT Out) (a1 : Arg) (v402 : Int × (List UInt8)) : iterK (N0 k) M0 K k (T0 a1 v402) = l0 k a1 (X0_0 K a1) v402 :=
  iter_raw _ _ K (fun v402 => (T0 a1 v402)) (fun self v => B0 k self (X0_0 K a1) a1 v) (fun rec v => B0_eq k rec K a1 v) k v402
noncomputable def q0 (a1 : Arg) (z603 : (List UInt8)) : Option Out := if ([109] : List UInt8).length + z603.length ≤ CAP then (some (([109] : List UInt8) ++ z603, ())) else none
noncomputable def Q0 (k : Nat) (a1 : Arg) (z603 : (List UInt8)) : Option Out := q0 a1 z603
theorem Q0_eq (k : Nat) (a1 : Arg) (z603 : (List UInt8)) : X0_0 (blockC 0 (seqC (codeK E k fin (sub [1, 1, 1, 1] C)) K0)) a1 z603 = Q0 k a1 z603 := by kernel_rfl
noncomputable def s0 (k : Nat) (a1 : Arg) : (Int × (List UInt8)) → Option Out := fun v402 => iterK (N0 k) M0 (blockC 0 (seqC (codeK E k fin (sub [1, 1, 1, 1] C)) K0)) k (T0 a1 v402)
noncomputable def r0 (k : Nat) (a1 : Arg) : (Int × (List UInt8)) → Option Out := fun v402 => l0 k a1 (fun z => Q0 k a1 z) v402
theorem s0_eq (k : Nat) (a1 : Arg) : s0 k a1 = r0 k a1 := by
  funext v402;
  have h0 : X0_0 ((blockC 0 (seqC (codeK E k fin (sub [1, 1, 1, 1] C)) K0))) a1 = fun z => Q0 k a1 z := funext fun z => Q0_eq k a1 z
  refine (l0_eq k ((blockC 0 (seqC (codeK E k fin (sub [1, 1, 1, 1] C)) K0))) a1 v402).trans ?_
  rw [h0]
  rfl
noncomputable def p (l0 : (Int × (List UInt8)) → Option Out) (a1 : Arg) : Option Out := bif decide (a1.1 ≤ (0 : Int)) then (some (([109, 48] : List UInt8), ())) else l0 (a1.1, ([] : List UInt8))
noncomputable def raw (k : Nat) (a1 : Arg) : Option Out := p (r0 k a1) a1
theorem p_eq (k : Nat) (a1 : Arg) : W k a1 = p (s0 k a1) a1 := by kernel_rfl
theorem raw_eq (k : Nat) (a1 : Arg) : W k a1 = raw k a1 := (p_eq k a1).trans (by rw [s0_eq]; rfl)
theorem ok : Ok prog 264 sig := fn_ok func264 (tl := tl) (gl := gl) (es := []) (fr := []) rfl rfl (by kernel_rfl) (fn_nil _) (fun _ => rfl)
end laws_markText
namespace laws_markChangeS
/-! loop example g00408 laws markChangeS -/
abbrev Arg : Type := (List Change) × Int × Unit
abbrev Out : Type := Int × (List Change) × Unit
noncomputable def ps : PQ := [(.muts (ownMd (.slc tChange)), (.slc tChange)), (.ro, i64)]
noncomputable def rs : RQ := [(i64, (roMd i64))]
noncomputable def tl : TL := [(2, i64), (4, .bool), (9, .str), (32, tRow), (43, tChange), (79, (.slc tChange))]
noncomputable def gl : GL := [(264, laws_markText.sig)]
noncomputable def E : Env := { TI := lookN tl, G := lookN gl, lv := [(2, [0, 1, 5])], lx := [(0, [0, 1])] }
noncomputable def W (k : Nat) (a : Arg) : Option Out := bodyK E k f202 ps rs [0] [] a
noncomputable def sem (a : Arg) : Option Out := lift fun k => W k a
noncomputable def sig : Sig := { ps := ps, rs := rs, F := sem }
noncomputable def C : Code := bodyOf f202
noncomputable def fin : St → Option Out := outK ps rs [0] (Func.results f202).toList (mvs [])
noncomputable def K0 : Ex → St → Option Out := endK fin
noncomputable def T0 (a1 : Arg) (v402 : (List Change) × Int × Int) : St := { n := 97, sl := [(0, .own (.slc tChange) (ownMd (.slc tChange)) [] v402.1), (1, .val i64 v402.2.1), (5, .val i64 v402.2.2)], vr := [], lent := [(0, 0, true)] }
noncomputable def N0 (k : Nat) : St → (Ex → St → Option Out) → Option Out := codeK E k fin (sub [1, 0, 1, 0, 0] C)
noncomputable def M0 : St → St := keepF [0, 1, 5] []
noncomputable def S0 (rec : RT Out) (a1 : Arg) : ((List Change) × Int × Int) → Option Out := fun v402 => rec (T0 a1 v402)
noncomputable def X0_0 (K : KT Out) (a1 : Arg) : ((List Change) × Int) → Option Out := fun z => K (.exit 0) ({ n := 97, sl := [(0, .own (.slc tChange) (ownMd (.slc tChange)) [] z.1), (1, .val i64 z.2)], vr := [], lent := [(0, 0, true)] })
noncomputable def b0 (self : ((List Change) × Int × Int) → Option Out) (e0 : ((List Change) × Int) → Option Out) (a1 : Arg) (v402 : (List Change) × Int × Int) : Option Out := bif decide (v402.2.2 < (v402.1.length : Int)) then (if 0 ≤ v402.2.2 ∧ v402.2.2 < (v402.1.length : Int) then ((v402.1[v402.2.2.toNat]?).bind fun x603 => let y604 := v402.1.set v402.2.2.toNat (decide (v402.2.1.tmod (3 : Int) = (0 : Int)), x603.2); if 0 ≤ v402.2.2 ∧ v402.2.2 < (y604.length : Int) then ((y604[v402.2.2.toNat]?).bind fun x605 => let y606 := y604.set v402.2.2.toNat (x605.1, (w64 (v402.2.1 + (1 : Int)), x605.2.1.2), x605.2.2); if 0 ≤ v402.2.2 ∧ v402.2.2 < (y606.length : Int) then ((y606[v402.2.2.toNat]?).bind fun x607 => let y608 := y606.set v402.2.2.toNat (x607.1, (x607.2.1.1, w64 ((w64 (v402.2.1 + (1 : Int))) + (1 : Int)), x607.2.1.2.2), x607.2.2); if 0 ≤ v402.2.2 ∧ v402.2.2 < (y608.length : Int) then ((y608[v402.2.2.toNat]?).bind fun x609 => let y610 := y608.set v402.2.2.toNat (x609.1, (x609.2.1.1, x609.2.1.2.1, w64 ((w64 ((w64 (v402.2.1 + (1 : Int))) + (1 : Int))) + (1 : Int)), x609.2.1.2.2.2), x609.2.2); (laws_markText.sem (w64 ((w64 ((w64 ((w64 (v402.2.1 + (1 : Int))) + (1 : Int))) + (1 : Int))) + (1 : Int)), ())).bind fun r611 => if 0 ≤ v402.2.2 ∧ v402.2.2 < (y610.length : Int) then ((y610[v402.2.2.toNat]?).bind fun x612 => let y613 := y610.set v402.2.2.toNat (x612.1, (x612.2.1.1, x612.2.1.2.1, x612.2.1.2.2.1, r611.1, x612.2.1.2.2.2.2), x612.2.2); if 0 ≤ v402.2.2 ∧ v402.2.2 < (y613.length : Int) then ((y613[v402.2.2.toNat]?).bind fun x614 => let y615 := y613.set v402.2.2.toNat (x614.1, x614.2.1, decide ((w64 ((w64 ((w64 ((w64 ((w64 (v402.2.1 + (1 : Int))) + (1 : Int))) + (1 : Int))) + (1 : Int))) + (1 : Int))).tmod (3 : Int) = (0 : Int)), x614.2.2.2); if 0 ≤ v402.2.2 ∧ v402.2.2 < (y615.length : Int) then ((y615[v402.2.2.toNat]?).bind fun x616 => let y617 := y615.set v402.2.2.toNat (x616.1, x616.2.1, x616.2.2.1, (w64 ((w64 ((w64 ((w64 ((w64 ((w64 (v402.2.1 + (1 : Int))) + (1 : Int))) + (1 : Int))) + (1 : Int))) + (1 : Int))) + (1 : Int)), x616.2.2.2.1.2), x616.2.2.2.2); if 0 ≤ v402.2.2 ∧ v402.2.2 < (y617.length : Int) then ((y617[v402.2.2.toNat]?).bind fun x618 => let y619 := y617.set v402.2.2.toNat (x618.1, x618.2.1, x618.2.2.1, (x618.2.2.2.1.1, w64 ((w64 ((w64 ((w64 ((w64 ((w64 ((w64 (v402.2.1 + (1 : Int))) + (1 : Int))) + (1 : Int))) + (1 : Int))) + (1 : Int))) + (1 : Int))) + (1 : Int)), x618.2.2.2.1.2.2), x618.2.2.2.2); if 0 ≤ v402.2.2 ∧ v402.2.2 < (y619.length : Int) then ((y619[v402.2.2.toNat]?).bind fun x620 => let y621 := y619.set v402.2.2.toNat (x620.1, x620.2.1, x620.2.2.1, (x620.2.2.2.1.1, x620.2.2.2.1.2.1, w64 ((w64 ((w64 ((w64 ((w64 ((w64 ((w64 ((w64 (v402.2.1 + (1 : Int))) + (1 : Int))) + (1 : Int))) + (1 : Int))) + (1 : Int))) + (1 : Int))) + (1 : Int))) + (1 : Int)), x620.2.2.2.1.2.2.2), x620.2.2.2.2); (laws_markText.sem (w64 ((w64 ((w64 ((w64 ((w64 ((w64 ((w64 ((w64 ((w64 (v402.2.1 + (1 : Int))) + (1 : Int))) + (1 : Int))) + (1 : Int))) + (1 : Int))) + (1 : Int))) + (1 : Int))) + (1 : Int))) + (1 : Int)), ())).bind fun r622 => if 0 ≤ v402.2.2 ∧ v402.2.2 < (y621.length : Int) then ((y621[v402.2.2.toNat]?).bind fun x623 => let y624 := y621.set v402.2.2.toNat (x623.1, x623.2.1, x623.2.2.1, (x623.2.2.2.1.1, x623.2.2.2.1.2.1, x623.2.2.2.1.2.2.1, r622.1, x623.2.2.2.1.2.2.2.2), x623.2.2.2.2); self (y624, w64 ((w64 ((w64 ((w64 ((w64 ((w64 ((w64 ((w64 ((w64 ((w64 (v402.2.1 + (1 : Int))) + (1 : Int))) + (1 : Int))) + (1 : Int))) + (1 : Int))) + (1 : Int))) + (1 : Int))) + (1 : Int))) + (1 : Int))) + (1 : Int)), w64 (v402.2.2 + (1 : Int)))) else none) else none) else none) else none) else none) else none) else none) else none) else none) else none) else e0 (v402.1, v402.2.1)
noncomputable def B0 (k : Nat) (self : ((List Change) × Int × Int) → Option Out) (e0 : ((List Change) × Int) → Option Out) (a1 : Arg) (v402 : (List Change) × Int × Int) : Option Out := b0 self e0 a1 v402
theorem B0_eq (k : Nat) (rec : RT Out) (K : KT Out) (a1 : Arg) (v402 : (List Change) × Int × Int) : N0 k (T0 a1 v402) (loopC rec M0 K) = B0 k (S0 rec a1) (X0_0 K a1) a1 v402 := by kernel_rfl
noncomputable def l0 (k : Nat) (a1 : Arg) (e0 : ((List Change) × Int) → Option Out) (v : (List Change) × Int × Int) : Option Out := rawIter (fun self v => B0 k self e0 a1 v) k v
theorem l0_eq (k : Nat) (K : KT Out) (a1 : Arg) (v402 : (List Change) × Int × Int) : iterK (N0 k) M0 K k (T0 a1 v402) = l0 k a1 (X0_0 K a1) v402 :=
  iter_raw _ _ K (fun v402 => (T0 a1 v402)) (fun self v => B0 k self (X0_0 K a1) a1 v) (fun rec v => B0_eq k rec K a1 v) k v402
noncomputable def q0 (a1 : Arg) (z625 : ((List Change) × Int)) : Option Out := some (z625.2, z625.1, ())
noncomputable def Q0 (k : Nat) (a1 : Arg) (z625 : ((List Change) × Int)) : Option Out := q0 a1 z625
theorem Q0_eq (k : Nat) (a1 : Arg) (z625 : ((List Change) × Int)) : X0_0 (blockC 0 (seqC (codeK E k fin (sub [1, 1] C)) K0)) a1 z625 = Q0 k a1 z625 := by kernel_rfl
noncomputable def s0 (k : Nat) (a1 : Arg) : ((List Change) × Int × Int) → Option Out := fun v402 => iterK (N0 k) M0 (blockC 0 (seqC (codeK E k fin (sub [1, 1] C)) K0)) k (T0 a1 v402)
noncomputable def r0 (k : Nat) (a1 : Arg) : ((List Change) × Int × Int) → Option Out := fun v402 => l0 k a1 (fun z => Q0 k a1 z) v402
theorem s0_eq (k : Nat) (a1 : Arg) : s0 k a1 = r0 k a1 := by
  funext v402;
  have h0 : X0_0 ((blockC 0 (seqC (codeK E k fin (sub [1, 1] C)) K0))) a1 = fun z => Q0 k a1 z := funext fun z => Q0_eq k a1 z
  refine (l0_eq k ((blockC 0 (seqC (codeK E k fin (sub [1, 1] C)) K0))) a1 v402).trans ?_
  rw [h0]
  rfl
noncomputable def p (l0 : ((List Change) × Int × Int) → Option Out) (a1 : Arg) : Option Out := l0 (a1.1, a1.2.1, (0 : Int))
noncomputable def raw (k : Nat) (a1 : Arg) : Option Out := p (r0 k a1) a1
theorem p_eq (k : Nat) (a1 : Arg) : W k a1 = p (s0 k a1) a1 := by kernel_rfl
theorem raw_eq (k : Nat) (a1 : Arg) : W k a1 = raw k a1 := (p_eq k a1).trans (by rw [s0_eq]; rfl)
theorem ok : Ok prog 202 sig := fn_ok func202 (tl := tl) (gl := gl) (es := [0]) (fr := []) rfl rfl (by kernel_rfl) (fc laws_markText.ok (fn_nil _)) (fun _ => rfl)
end laws_markChangeS
namespace laws_markBufferS
/-! loop example g00408 laws markBufferS -/
abbrev Arg : Type := (List Buffer) × Int × Unit
abbrev Out : Type := Int × (List Buffer) × Unit
noncomputable def ps : PQ := [(.muts (ownMd (.slc tBuffer)), (.slc tBuffer)), (.ro, i64)]
noncomputable def rs : RQ := [(i64, (roMd i64))]
noncomputable def tl : TL := [(2, i64), (79, (.slc tChange)), (82, (.slc tBuffer)), (270, tBuffer)]
noncomputable def gl : GL := [(202, laws_markChangeS.sig)]
noncomputable def E : Env := { TI := lookN tl, G := lookN gl, lv := [(2, [0, 1, 5])], lx := [(0, [0, 1])] }
noncomputable def W (k : Nat) (a : Arg) : Option Out := bodyK E k f201 ps rs [0] [] a
noncomputable def sem (a : Arg) : Option Out := lift fun k => W k a
noncomputable def sig : Sig := { ps := ps, rs := rs, F := sem }
noncomputable def C : Code := bodyOf f201
noncomputable def fin : St → Option Out := outK ps rs [0] (Func.results f201).toList (mvs [])
noncomputable def K0 : Ex → St → Option Out := endK fin
noncomputable def T0 (a1 : Arg) (v402 : (List Buffer) × Int × Int) : St := { n := 27, sl := [(0, .own (.slc tBuffer) (ownMd (.slc tBuffer)) [] v402.1), (1, .val i64 v402.2.1), (5, .val i64 v402.2.2)], vr := [], lent := [(0, 0, true)] }
noncomputable def N0 (k : Nat) : St → (Ex → St → Option Out) → Option Out := codeK E k fin (sub [1, 0, 1, 0, 0] C)
noncomputable def M0 : St → St := keepF [0, 1, 5] []
noncomputable def S0 (rec : RT Out) (a1 : Arg) : ((List Buffer) × Int × Int) → Option Out := fun v402 => rec (T0 a1 v402)
noncomputable def X0_0 (K : KT Out) (a1 : Arg) : ((List Buffer) × Int) → Option Out := fun z => K (.exit 0) ({ n := 27, sl := [(0, .own (.slc tBuffer) (ownMd (.slc tBuffer)) [] z.1), (1, .val i64 z.2)], vr := [], lent := [(0, 0, true)] })
noncomputable def b0 (self : ((List Buffer) × Int × Int) → Option Out) (e0 : ((List Buffer) × Int) → Option Out) (a1 : Arg) (v402 : (List Buffer) × Int × Int) : Option Out := bif decide (v402.2.2 < (v402.1.length : Int)) then (if 0 ≤ v402.2.2 ∧ v402.2.2 < (v402.1.length : Int) then ((v402.1[v402.2.2.toNat]?).bind fun x603 => let y604 := v402.1.set v402.2.2.toNat (v402.2.1, x603.2); if 0 ≤ v402.2.2 ∧ v402.2.2 < (y604.length : Int) then ((y604[v402.2.2.toNat]?).bind fun x605 => (y604[v402.2.2.toNat]?).bind fun x606 => (y604[v402.2.2.toNat]?).bind fun x607 => (laws_markChangeS.sem (x607.2.1, w64 (v402.2.1 + (1 : Int)), ())).bind fun r608 => (y604[v402.2.2.toNat]?).bind fun x609 => let y610 := y604.set v402.2.2.toNat (x609.1, r608.2.1, x609.2.2); self (y610, r608.1, w64 (v402.2.2 + (1 : Int)))) else none) else none) else e0 (v402.1, v402.2.1)
noncomputable def B0 (k : Nat) (self : ((List Buffer) × Int × Int) → Option Out) (e0 : ((List Buffer) × Int) → Option Out) (a1 : Arg) (v402 : (List Buffer) × Int × Int) : Option Out := b0 self e0 a1 v402
theorem B0_eq (k : Nat) (rec : RT Out) (K : KT Out) (a1 : Arg) (v402 : (List Buffer) × Int × Int) : N0 k (T0 a1 v402) (loopC rec M0 K) = B0 k (S0 rec a1) (X0_0 K a1) a1 v402 := by kernel_rfl
noncomputable def l0 (k : Nat) (a1 : Arg) (e0 : ((List Buffer) × Int) → Option Out) (v : (List Buffer) × Int × Int) : Option Out := rawIter (fun self v => B0 k self e0 a1 v) k v
theorem l0_eq (k : Nat) (K : KT Out) (a1 : Arg) (v402 : (List Buffer) × Int × Int) : iterK (N0 k) M0 K k (T0 a1 v402) = l0 k a1 (X0_0 K a1) v402 :=
  iter_raw _ _ K (fun v402 => (T0 a1 v402)) (fun self v => B0 k self (X0_0 K a1) a1 v) (fun rec v => B0_eq k rec K a1 v) k v402
noncomputable def q0 (a1 : Arg) (z611 : ((List Buffer) × Int)) : Option Out := some (z611.2, z611.1, ())
noncomputable def Q0 (k : Nat) (a1 : Arg) (z611 : ((List Buffer) × Int)) : Option Out := q0 a1 z611
theorem Q0_eq (k : Nat) (a1 : Arg) (z611 : ((List Buffer) × Int)) : X0_0 (blockC 0 (seqC (codeK E k fin (sub [1, 1] C)) K0)) a1 z611 = Q0 k a1 z611 := by kernel_rfl
noncomputable def s0 (k : Nat) (a1 : Arg) : ((List Buffer) × Int × Int) → Option Out := fun v402 => iterK (N0 k) M0 (blockC 0 (seqC (codeK E k fin (sub [1, 1] C)) K0)) k (T0 a1 v402)
noncomputable def r0 (k : Nat) (a1 : Arg) : ((List Buffer) × Int × Int) → Option Out := fun v402 => l0 k a1 (fun z => Q0 k a1 z) v402
theorem s0_eq (k : Nat) (a1 : Arg) : s0 k a1 = r0 k a1 := by
  funext v402;
  have h0 : X0_0 ((blockC 0 (seqC (codeK E k fin (sub [1, 1] C)) K0))) a1 = fun z => Q0 k a1 z := funext fun z => Q0_eq k a1 z
  refine (l0_eq k ((blockC 0 (seqC (codeK E k fin (sub [1, 1] C)) K0))) a1 v402).trans ?_
  rw [h0]
  rfl
noncomputable def p (l0 : ((List Buffer) × Int × Int) → Option Out) (a1 : Arg) : Option Out := l0 (a1.1, a1.2.1, (0 : Int))
noncomputable def raw (k : Nat) (a1 : Arg) : Option Out := p (r0 k a1) a1
theorem p_eq (k : Nat) (a1 : Arg) : W k a1 = p (s0 k a1) a1 := by kernel_rfl
theorem raw_eq (k : Nat) (a1 : Arg) : W k a1 = raw k a1 := (p_eq k a1).trans (by rw [s0_eq]; rfl)
theorem ok : Ok prog 201 sig := fn_ok func201 (tl := tl) (gl := gl) (es := [0]) (fr := []) rfl rfl (by kernel_rfl) (fc laws_markChangeS.ok (fn_nil _)) (fun _ => rfl)
end laws_markBufferS
namespace laws_markMiner
/-! loop example g00408 laws markMiner -/
abbrev Arg : Type := Miner × Int × Unit
abbrev Out : Type := Int × Miner × Unit
noncomputable def ps : PQ := [(.muts (ownMd tMiner), tMiner), (.ro, i64)]
noncomputable def rs : RQ := [(i64, (roMd i64))]
noncomputable def tl : TL := [(22, (.slc (.slc u8))), (82, (.slc tBuffer)), (84, tMiner)]
noncomputable def gl : GL := [(19, laws_markByteSS.sig), (201, laws_markBufferS.sig)]
noncomputable def E : Env := { TI := lookN tl, G := lookN gl }
noncomputable def W (k : Nat) (a : Arg) : Option Out := bodyK E k f115 ps rs [2] [] a
noncomputable def sem (a : Arg) : Option Out := lift fun k => W k a
noncomputable def sig : Sig := { ps := ps, rs := rs, F := sem }
noncomputable def p (a1 : Arg) : Option Out := (laws_markByteSS.sem (a1.1.1, a1.2.1, ())).bind fun r2 => (laws_markBufferS.sem (a1.1.2.1, r2.1, ())).bind fun r3 => some (r3.1, (r2.2.1, r3.2.1, a1.1.2.2), ())
noncomputable def raw (k : Nat) (a1 : Arg) : Option Out := p a1
theorem raw_eq (k : Nat) (a1 : Arg) : W k a1 = raw k a1 := by kernel_rfl
theorem ok : Ok prog 115 sig := fn_ok func115 (tl := tl) (gl := gl) (es := [2]) (fr := []) rfl rfl (by kernel_rfl) (fc laws_markByteSS.ok (fc laws_markBufferS.ok (fn_nil _))) (fun _ => rfl)
end laws_markMiner
namespace laws_markConnector
/-! loop example g00408 laws markConnector -/
abbrev Arg : Type := Connector × Int × Unit
abbrev Out : Type := Int × Connector × Unit
noncomputable def ps : PQ := [(.muts (ownMd tConnector), tConnector), (.ro, i64)]
noncomputable def rs : RQ := [(i64, (roMd i64))]
noncomputable def tl : TL := [(84, tMiner), (86, tConnector)]
noncomputable def gl : GL := [(115, laws_markMiner.sig)]
noncomputable def E : Env := { TI := lookN tl, G := lookN gl }
noncomputable def W (k : Nat) (a : Arg) : Option Out := bodyK E k f47 ps rs [2] [] a
noncomputable def sem (a : Arg) : Option Out := lift fun k => W k a
noncomputable def sig : Sig := { ps := ps, rs := rs, F := sem }
noncomputable def p (a1 : Arg) : Option Out := (laws_markMiner.sem (a1.1.1, a1.2.1, ())).bind fun r2 => (laws_markMiner.sem (a1.1.2.2.1, r2.1, ())).bind fun r3 => some (r3.1, (r2.2.1, a1.1.2.1, r3.2.1, a1.1.2.2.2), ())
noncomputable def raw (k : Nat) (a1 : Arg) : Option Out := p a1
theorem raw_eq (k : Nat) (a1 : Arg) : W k a1 = raw k a1 := by kernel_rfl
theorem ok : Ok prog 47 sig := fn_ok func47 (tl := tl) (gl := gl) (es := [2]) (fr := []) rfl rfl (by kernel_rfl) (fc laws_markMiner.ok (fn_nil _)) (fun _ => rfl)
end laws_markConnector
namespace laws_markSent
/-! loop example g00408 laws markSent -/
abbrev Arg : Type := Sent × Int × Unit
abbrev Out : Type := Int × Sent × Unit
noncomputable def ps : PQ := [(.muts (ownMd tSent), tSent), (.ro, i64)]
noncomputable def rs : RQ := [(i64, (roMd i64))]
noncomputable def tl : TL := [(79, (.slc tChange)), (81, tSent)]
noncomputable def gl : GL := [(202, laws_markChangeS.sig)]
noncomputable def E : Env := { TI := lookN tl, G := lookN gl }
noncomputable def W (k : Nat) (a : Arg) : Option Out := bodyK E k f116 ps rs [2] [] a
noncomputable def sem (a : Arg) : Option Out := lift fun k => W k a
noncomputable def sig : Sig := { ps := ps, rs := rs, F := sem }
noncomputable def p (a1 : Arg) : Option Out := (laws_markChangeS.sem (a1.1.2.2.1, a1.2.1, ())).bind fun r2 => some (r2.1, (a1.1.1, a1.1.2.1, r2.2.1, a1.1.2.2.2), ())
noncomputable def raw (k : Nat) (a1 : Arg) : Option Out := p a1
theorem raw_eq (k : Nat) (a1 : Arg) : W k a1 = raw k a1 := by kernel_rfl
theorem ok : Ok prog 116 sig := fn_ok func116 (tl := tl) (gl := gl) (es := [2]) (fr := []) rfl rfl (by kernel_rfl) (fc laws_markChangeS.ok (fn_nil _)) (fun _ => rfl)
end laws_markSent
namespace laws_markConnectorResult
/-! loop example g00408 laws markConnectorResult -/
abbrev Arg : Type := ConnectorResult × Int × Unit
abbrev Out : Type := Int × ConnectorResult × Unit
noncomputable def ps : PQ := [(.muts (ownMd tConnectorResult), tConnectorResult), (.ro, i64)]
noncomputable def rs : RQ := [(i64, (roMd i64))]
noncomputable def tl : TL := [(81, tSent), (86, tConnector), (88, tConnectorResult)]
noncomputable def gl : GL := [(47, laws_markConnector.sig), (116, laws_markSent.sig)]
noncomputable def E : Env := { TI := lookN tl, G := lookN gl }
noncomputable def W (k : Nat) (a : Arg) : Option Out := bodyK E k f48 ps rs [2] [] a
noncomputable def sem (a : Arg) : Option Out := lift fun k => W k a
noncomputable def sig : Sig := { ps := ps, rs := rs, F := sem }
noncomputable def p (a1 : Arg) : Option Out := (laws_markSent.sem (a1.1.2.2.1, a1.2.1, ())).bind fun r2 => (laws_markConnector.sem (a1.1.2.2.2.1, r2.1, ())).bind fun r3 => some (r3.1, (a1.1.1, a1.1.2.1, r2.2.1, r3.2.1, a1.1.2.2.2.2), ())
noncomputable def raw (k : Nat) (a1 : Arg) : Option Out := p a1
theorem raw_eq (k : Nat) (a1 : Arg) : W k a1 = raw k a1 := by kernel_rfl
theorem ok : Ok prog 48 sig := fn_ok func48 (tl := tl) (gl := gl) (es := [2]) (fr := []) rfl rfl (by kernel_rfl) (fc laws_markConnector.ok (fc laws_markSent.ok (fn_nil _))) (fun _ => rfl)
end laws_markConnectorResult
namespace laws_heldChangeS
/-! loop example g00408 laws heldChangeS -/
abbrev Arg : Type := (List Change) × Int × Unit
abbrev Out : Type := Int × Unit
noncomputable def ps : PQ := [(.ro, (.slc tChange)), (.ro, i64)]
noncomputable def rs : RQ := [(i64, (roMd i64))]
noncomputable def tl : TL := [(2, i64), (4, .bool), (9, .str), (32, tRow), (43, tChange), (79, (.slc tChange))]
noncomputable def gl : GL := [(264, laws_markText.sig)]
noncomputable def E : Env := { TI := lookN tl, G := lookN gl, lv := [(2, [0, 1, 5])], lx := [(0, [1])], od := [(16, [0, 1, 2, 3, 4, 5, 6, 7, 8]), (31, [0, 1, 2, 3, 4, 5, 6, 7, 8])] }
noncomputable def W (k : Nat) (a : Arg) : Option Out := bodyK E k f203 ps rs [] [] a
noncomputable def sem (a : Arg) : Option Out := lift fun k => W k a
noncomputable def sig : Sig := { ps := ps, rs := rs, F := sem }
noncomputable def C : Code := bodyOf f203
noncomputable def fin : St → Option Out := outK ps rs [] (Func.results f203).toList (mvs [])
noncomputable def K0 : Ex → St → Option Out := endK fin
noncomputable def T0 (a1 : Arg) (v402 : Int × Int) : St := { n := 117, sl := [(0, .val (.slc tChange) a1.1), (1, .val i64 v402.1), (5, .val i64 v402.2)], vr := [], lent := [] }
noncomputable def N0 (k : Nat) : St → (Ex → St → Option Out) → Option Out := codeK E k fin (sub [1, 0, 1, 0, 0] C)
noncomputable def M0 : St → St := keepF [0, 1, 5] []
noncomputable def S0 (rec : RT Out) (a1 : Arg) : (Int × Int) → Option Out := fun v402 => rec (T0 a1 v402)
noncomputable def X0_0 (K : KT Out) (a1 : Arg) : Int → Option Out := fun z => K (.exit 0) ({ n := 117, sl := [(1, .val i64 z)], vr := [], lent := [] })
noncomputable def b0 (self : (Int × Int) → Option Out) (e0 : Int → Option Out) (a1 : Arg) (v402 : Int × Int) : Option Out := bif decide (v402.2 < (a1.1.length : Int)) then (if 0 ≤ v402.2 then ((a1.1[v402.2.toNat]?).bind fun x603 => bif !(x603.1 == (decide (v402.1.tmod (3 : Int) = (0 : Int)))) then (some ((-1 : Int), ())) else if 0 ≤ v402.2 then ((a1.1[v402.2.toNat]?).bind fun x604 => bif !decide (x604.2.1.1 = w64 (v402.1 + (1 : Int))) then (some ((-1 : Int), ())) else if 0 ≤ v402.2 then ((a1.1[v402.2.toNat]?).bind fun x605 => bif !decide (x605.2.1.2.1 = w64 ((w64 (v402.1 + (1 : Int))) + (1 : Int))) then (some ((-1 : Int), ())) else if 0 ≤ v402.2 then ((a1.1[v402.2.toNat]?).bind fun x606 => bif !decide (x606.2.1.2.2.1 = w64 ((w64 ((w64 (v402.1 + (1 : Int))) + (1 : Int))) + (1 : Int))) then (some ((-1 : Int), ())) else if 0 ≤ v402.2 then ((a1.1[v402.2.toNat]?).bind fun x607 => (laws_markText.sem (w64 ((w64 ((w64 ((w64 (v402.1 + (1 : Int))) + (1 : Int))) + (1 : Int))) + (1 : Int)), ())).bind fun r608 => bif !decide (x607.2.1.2.2.2.1 = r608.1) then (some ((-1 : Int), ())) else if 0 ≤ v402.2 then ((a1.1[v402.2.toNat]?).bind fun x609 => bif !(x609.2.2.1 == (decide ((w64 ((w64 ((w64 ((w64 ((w64 (v402.1 + (1 : Int))) + (1 : Int))) + (1 : Int))) + (1 : Int))) + (1 : Int))).tmod (3 : Int) = (0 : Int)))) then (some ((-1 : Int), ())) else if 0 ≤ v402.2 then ((a1.1[v402.2.toNat]?).bind fun x610 => bif !decide (x610.2.2.2.1.1 = w64 ((w64 ((w64 ((w64 ((w64 ((w64 (v402.1 + (1 : Int))) + (1 : Int))) + (1 : Int))) + (1 : Int))) + (1 : Int))) + (1 : Int))) then (some ((-1 : Int), ())) else if 0 ≤ v402.2 then ((a1.1[v402.2.toNat]?).bind fun x611 => bif !decide (x611.2.2.2.1.2.1 = w64 ((w64 ((w64 ((w64 ((w64 ((w64 ((w64 (v402.1 + (1 : Int))) + (1 : Int))) + (1 : Int))) + (1 : Int))) + (1 : Int))) + (1 : Int))) + (1 : Int))) then (some ((-1 : Int), ())) else if 0 ≤ v402.2 then ((a1.1[v402.2.toNat]?).bind fun x612 => bif !decide (x612.2.2.2.1.2.2.1 = w64 ((w64 ((w64 ((w64 ((w64 ((w64 ((w64 ((w64 (v402.1 + (1 : Int))) + (1 : Int))) + (1 : Int))) + (1 : Int))) + (1 : Int))) + (1 : Int))) + (1 : Int))) + (1 : Int))) then (some ((-1 : Int), ())) else if 0 ≤ v402.2 then ((a1.1[v402.2.toNat]?).bind fun x613 => (laws_markText.sem (w64 ((w64 ((w64 ((w64 ((w64 ((w64 ((w64 ((w64 ((w64 (v402.1 + (1 : Int))) + (1 : Int))) + (1 : Int))) + (1 : Int))) + (1 : Int))) + (1 : Int))) + (1 : Int))) + (1 : Int))) + (1 : Int)), ())).bind fun r614 => bif !decide (x613.2.2.2.1.2.2.2.1 = r614.1) then (some ((-1 : Int), ())) else self (w64 ((w64 ((w64 ((w64 ((w64 ((w64 ((w64 ((w64 ((w64 ((w64 (v402.1 + (1 : Int))) + (1 : Int))) + (1 : Int))) + (1 : Int))) + (1 : Int))) + (1 : Int))) + (1 : Int))) + (1 : Int))) + (1 : Int))) + (1 : Int)), w64 (v402.2 + (1 : Int)))) else none) else none) else none) else none) else none) else none) else none) else none) else none) else none) else e0 v402.1
noncomputable def B0 (k : Nat) (self : (Int × Int) → Option Out) (e0 : Int → Option Out) (a1 : Arg) (v402 : Int × Int) : Option Out := b0 self e0 a1 v402
theorem B0_eq (k : Nat) (rec : RT Out) (K : KT Out) (a1 : Arg) (v402 : Int × Int) : N0 k (T0 a1 v402) (loopC rec M0 K) = B0 k (S0 rec a1) (X0_0 K a1) a1 v402 := by kernel_rfl
noncomputable def l0 (k : Nat) (a1 : Arg) (e0 : Int → Option Out) (v : Int × Int) : Option Out := rawIter (fun self v => B0 k self e0 a1 v) k v
theorem l0_eq (k : Nat) (K : KT Out) (a1 : Arg) (v402 : Int × Int) : iterK (N0 k) M0 K k (T0 a1 v402) = l0 k a1 (X0_0 K a1) v402 :=
  iter_raw _ _ K (fun v402 => (T0 a1 v402)) (fun self v => B0 k self (X0_0 K a1) a1 v) (fun rec v => B0_eq k rec K a1 v) k v402
noncomputable def q0 (a1 : Arg) (z615 : Int) : Option Out := some (z615, ())
noncomputable def Q0 (k : Nat) (a1 : Arg) (z615 : Int) : Option Out := q0 a1 z615
theorem Q0_eq (k : Nat) (a1 : Arg) (z615 : Int) : X0_0 (blockC 0 (seqC (codeK E k fin (sub [1, 1] C)) K0)) a1 z615 = Q0 k a1 z615 := by kernel_rfl
noncomputable def s0 (k : Nat) (a1 : Arg) : (Int × Int) → Option Out := fun v402 => iterK (N0 k) M0 (blockC 0 (seqC (codeK E k fin (sub [1, 1] C)) K0)) k (T0 a1 v402)
noncomputable def r0 (k : Nat) (a1 : Arg) : (Int × Int) → Option Out := fun v402 => l0 k a1 (fun z => Q0 k a1 z) v402
theorem s0_eq (k : Nat) (a1 : Arg) : s0 k a1 = r0 k a1 := by
  funext v402;
  have h0 : X0_0 ((blockC 0 (seqC (codeK E k fin (sub [1, 1] C)) K0))) a1 = fun z => Q0 k a1 z := funext fun z => Q0_eq k a1 z
  refine (l0_eq k ((blockC 0 (seqC (codeK E k fin (sub [1, 1] C)) K0))) a1 v402).trans ?_
  rw [h0]
  rfl
noncomputable def p (l0 : (Int × Int) → Option Out) (a1 : Arg) : Option Out := l0 (a1.2.1, (0 : Int))
noncomputable def raw (k : Nat) (a1 : Arg) : Option Out := p (r0 k a1) a1
theorem p_eq (k : Nat) (a1 : Arg) : W k a1 = p (s0 k a1) a1 := by kernel_rfl
theorem raw_eq (k : Nat) (a1 : Arg) : W k a1 = raw k a1 := (p_eq k a1).trans (by rw [s0_eq]; rfl)
theorem ok : Ok prog 203 sig := fn_ok func203 (tl := tl) (gl := gl) (es := []) (fr := []) rfl rfl (by kernel_rfl) (fc laws_markText.ok (fn_nil _)) (fun _ => rfl)
end laws_heldChangeS
namespace laws_heldSent
/-! loop example g00408 laws heldSent -/
abbrev Arg : Type := Sent × Int × Unit
abbrev Out : Type := Int × Unit
noncomputable def ps : PQ := [(.ro, tSent), (.ro, i64)]
noncomputable def rs : RQ := [(i64, (roMd i64))]
noncomputable def tl : TL := [(79, (.slc tChange)), (81, tSent)]
noncomputable def gl : GL := [(203, laws_heldChangeS.sig)]
noncomputable def E : Env := { TI := lookN tl, G := lookN gl }
noncomputable def W (k : Nat) (a : Arg) : Option Out := bodyK E k f117 ps rs [] [] a
noncomputable def sem (a : Arg) : Option Out := lift fun k => W k a
noncomputable def sig : Sig := { ps := ps, rs := rs, F := sem }
noncomputable def p (a1 : Arg) : Option Out := (laws_heldChangeS.sem (a1.1.2.2.1, a1.2.1, ())).bind fun r2 => bif decide (r2.1 < (0 : Int)) then (some ((-1 : Int), ())) else some (r2.1, ())
noncomputable def raw (k : Nat) (a1 : Arg) : Option Out := p a1
theorem raw_eq (k : Nat) (a1 : Arg) : W k a1 = raw k a1 := by kernel_rfl
theorem ok : Ok prog 117 sig := fn_ok func117 (tl := tl) (gl := gl) (es := []) (fr := []) rfl rfl (by kernel_rfl) (fc laws_heldChangeS.ok (fn_nil _)) (fun _ => rfl)
end laws_heldSent
namespace laws_heldBufferS
/-! loop example g00408 laws heldBufferS -/
abbrev Arg : Type := (List Buffer) × Int × Unit
abbrev Out : Type := Int × Unit
noncomputable def ps : PQ := [(.ro, (.slc tBuffer)), (.ro, i64)]
noncomputable def rs : RQ := [(i64, (roMd i64))]
noncomputable def tl : TL := [(2, i64), (79, (.slc tChange)), (82, (.slc tBuffer)), (270, tBuffer)]
noncomputable def gl : GL := [(203, laws_heldChangeS.sig)]
noncomputable def E : Env := { TI := lookN tl, G := lookN gl, lv := [(2, [0, 1, 5])], lx := [(0, [1])] }
noncomputable def W (k : Nat) (a : Arg) : Option Out := bodyK E k f265 ps rs [] [] a
noncomputable def sem (a : Arg) : Option Out := lift fun k => W k a
noncomputable def sig : Sig := { ps := ps, rs := rs, F := sem }
noncomputable def C : Code := bodyOf f265
noncomputable def fin : St → Option Out := outK ps rs [] (Func.results f265).toList (mvs [])
noncomputable def K0 : Ex → St → Option Out := endK fin
noncomputable def T0 (a1 : Arg) (v402 : Int × Int) : St := { n := 31, sl := [(0, .val (.slc tBuffer) a1.1), (1, .val i64 v402.1), (5, .val i64 v402.2)], vr := [], lent := [] }
noncomputable def N0 (k : Nat) : St → (Ex → St → Option Out) → Option Out := codeK E k fin (sub [1, 0, 1, 0, 0] C)
noncomputable def M0 : St → St := keepF [0, 1, 5] []
noncomputable def S0 (rec : RT Out) (a1 : Arg) : (Int × Int) → Option Out := fun v402 => rec (T0 a1 v402)
noncomputable def X0_0 (K : KT Out) (a1 : Arg) : Int → Option Out := fun z => K (.exit 0) ({ n := 31, sl := [(1, .val i64 z)], vr := [], lent := [] })
noncomputable def b0 (self : (Int × Int) → Option Out) (e0 : Int → Option Out) (a1 : Arg) (v402 : Int × Int) : Option Out := bif decide (v402.2 < (a1.1.length : Int)) then (if 0 ≤ v402.2 then ((a1.1[v402.2.toNat]?).bind fun x603 => bif !decide (x603.1 = v402.1) then (some ((-1 : Int), ())) else if 0 ≤ v402.2 then ((a1.1[v402.2.toNat]?).bind fun x604 => (laws_heldChangeS.sem (x604.2.1, w64 (v402.1 + (1 : Int)), ())).bind fun r605 => bif decide (r605.1 < (0 : Int)) then (some ((-1 : Int), ())) else self (r605.1, w64 (v402.2 + (1 : Int)))) else none) else none) else e0 v402.1
noncomputable def B0 (k : Nat) (self : (Int × Int) → Option Out) (e0 : Int → Option Out) (a1 : Arg) (v402 : Int × Int) : Option Out := b0 self e0 a1 v402
theorem B0_eq (k : Nat) (rec : RT Out) (K : KT Out) (a1 : Arg) (v402 : Int × Int) : N0 k (T0 a1 v402) (loopC rec M0 K) = B0 k (S0 rec a1) (X0_0 K a1) a1 v402 := by kernel_rfl
noncomputable def l0 (k : Nat) (a1 : Arg) (e0 : Int → Option Out) (v : Int × Int) : Option Out := rawIter (fun self v => B0 k self e0 a1 v) k v
theorem l0_eq (k : Nat) (K : KT Out) (a1 : Arg) (v402 : Int × Int) : iterK (N0 k) M0 K k (T0 a1 v402) = l0 k a1 (X0_0 K a1) v402 :=
  iter_raw _ _ K (fun v402 => (T0 a1 v402)) (fun self v => B0 k self (X0_0 K a1) a1 v) (fun rec v => B0_eq k rec K a1 v) k v402
noncomputable def q0 (a1 : Arg) (z606 : Int) : Option Out := some (z606, ())
noncomputable def Q0 (k : Nat) (a1 : Arg) (z606 : Int) : Option Out := q0 a1 z606
theorem Q0_eq (k : Nat) (a1 : Arg) (z606 : Int) : X0_0 (blockC 0 (seqC (codeK E k fin (sub [1, 1] C)) K0)) a1 z606 = Q0 k a1 z606 := by kernel_rfl
noncomputable def s0 (k : Nat) (a1 : Arg) : (Int × Int) → Option Out := fun v402 => iterK (N0 k) M0 (blockC 0 (seqC (codeK E k fin (sub [1, 1] C)) K0)) k (T0 a1 v402)
noncomputable def r0 (k : Nat) (a1 : Arg) : (Int × Int) → Option Out := fun v402 => l0 k a1 (fun z => Q0 k a1 z) v402
theorem s0_eq (k : Nat) (a1 : Arg) : s0 k a1 = r0 k a1 := by
  funext v402;
  have h0 : X0_0 ((blockC 0 (seqC (codeK E k fin (sub [1, 1] C)) K0))) a1 = fun z => Q0 k a1 z := funext fun z => Q0_eq k a1 z
  refine (l0_eq k ((blockC 0 (seqC (codeK E k fin (sub [1, 1] C)) K0))) a1 v402).trans ?_
  rw [h0]
  rfl
noncomputable def p (l0 : (Int × Int) → Option Out) (a1 : Arg) : Option Out := l0 (a1.2.1, (0 : Int))
noncomputable def raw (k : Nat) (a1 : Arg) : Option Out := p (r0 k a1) a1
theorem p_eq (k : Nat) (a1 : Arg) : W k a1 = p (s0 k a1) a1 := by kernel_rfl
theorem raw_eq (k : Nat) (a1 : Arg) : W k a1 = raw k a1 := (p_eq k a1).trans (by rw [s0_eq]; rfl)
theorem ok : Ok prog 265 sig := fn_ok func265 (tl := tl) (gl := gl) (es := []) (fr := []) rfl rfl (by kernel_rfl) (fc laws_heldChangeS.ok (fn_nil _)) (fun _ => rfl)
end laws_heldBufferS
namespace laws_heldMiner
/-! loop example g00408 laws heldMiner -/
abbrev Arg : Type := Miner × Int × Unit
abbrev Out : Type := Int × Unit
noncomputable def ps : PQ := [(.ro, tMiner), (.ro, i64)]
noncomputable def rs : RQ := [(i64, (roMd i64))]
noncomputable def tl : TL := [(22, (.slc (.slc u8))), (82, (.slc tBuffer)), (84, tMiner)]
noncomputable def gl : GL := [(70, laws_heldByteSS.sig), (265, laws_heldBufferS.sig)]
noncomputable def E : Env := { TI := lookN tl, G := lookN gl }
noncomputable def W (k : Nat) (a : Arg) : Option Out := bodyK E k f204 ps rs [] [] a
noncomputable def sem (a : Arg) : Option Out := lift fun k => W k a
noncomputable def sig : Sig := { ps := ps, rs := rs, F := sem }
noncomputable def p (a1 : Arg) : Option Out := (laws_heldByteSS.sem (a1.1.1, a1.2.1, ())).bind fun r2 => bif decide (r2.1 < (0 : Int)) then (some ((-1 : Int), ())) else (laws_heldBufferS.sem (a1.1.2.1, r2.1, ())).bind fun r3 => bif decide (r3.1 < (0 : Int)) then (some ((-1 : Int), ())) else some (r3.1, ())
noncomputable def raw (k : Nat) (a1 : Arg) : Option Out := p a1
theorem raw_eq (k : Nat) (a1 : Arg) : W k a1 = raw k a1 := by kernel_rfl
theorem ok : Ok prog 204 sig := fn_ok func204 (tl := tl) (gl := gl) (es := []) (fr := []) rfl rfl (by kernel_rfl) (fc laws_heldByteSS.ok (fc laws_heldBufferS.ok (fn_nil _))) (fun _ => rfl)
end laws_heldMiner
namespace laws_heldConnector
/-! loop example g00408 laws heldConnector -/
abbrev Arg : Type := Connector × Int × Unit
abbrev Out : Type := Int × Unit
noncomputable def ps : PQ := [(.ro, tConnector), (.ro, i64)]
noncomputable def rs : RQ := [(i64, (roMd i64))]
noncomputable def tl : TL := [(84, tMiner), (86, tConnector)]
noncomputable def gl : GL := [(204, laws_heldMiner.sig)]
noncomputable def E : Env := { TI := lookN tl, G := lookN gl }
noncomputable def W (k : Nat) (a : Arg) : Option Out := bodyK E k f118 ps rs [] [] a
noncomputable def sem (a : Arg) : Option Out := lift fun k => W k a
noncomputable def sig : Sig := { ps := ps, rs := rs, F := sem }
noncomputable def p (a1 : Arg) : Option Out := (laws_heldMiner.sem (a1.1.1, a1.2.1, ())).bind fun r2 => bif decide (r2.1 < (0 : Int)) then (some ((-1 : Int), ())) else (laws_heldMiner.sem (a1.1.2.2.1, r2.1, ())).bind fun r3 => bif decide (r3.1 < (0 : Int)) then (some ((-1 : Int), ())) else some (r3.1, ())
noncomputable def raw (k : Nat) (a1 : Arg) : Option Out := p a1
theorem raw_eq (k : Nat) (a1 : Arg) : W k a1 = raw k a1 := by kernel_rfl
theorem ok : Ok prog 118 sig := fn_ok func118 (tl := tl) (gl := gl) (es := []) (fr := []) rfl rfl (by kernel_rfl) (fc laws_heldMiner.ok (fn_nil _)) (fun _ => rfl)
end laws_heldConnector
namespace laws_heldConnectorResult
/-! loop example g00408 laws heldConnectorResult -/
abbrev Arg : Type := ConnectorResult × Int × Unit
abbrev Out : Type := Int × Unit
noncomputable def ps : PQ := [(.ro, tConnectorResult), (.ro, i64)]
noncomputable def rs : RQ := [(i64, (roMd i64))]
noncomputable def tl : TL := [(81, tSent), (86, tConnector), (88, tConnectorResult)]
noncomputable def gl : GL := [(117, laws_heldSent.sig), (118, laws_heldConnector.sig)]
noncomputable def E : Env := { TI := lookN tl, G := lookN gl }
noncomputable def W (k : Nat) (a : Arg) : Option Out := bodyK E k f49 ps rs [] [] a
noncomputable def sem (a : Arg) : Option Out := lift fun k => W k a
noncomputable def sig : Sig := { ps := ps, rs := rs, F := sem }
noncomputable def p (a1 : Arg) : Option Out := (laws_heldSent.sem (a1.1.2.2.1, a1.2.1, ())).bind fun r2 => bif decide (r2.1 < (0 : Int)) then (some ((-1 : Int), ())) else (laws_heldConnector.sem (a1.1.2.2.2.1, r2.1, ())).bind fun r3 => bif decide (r3.1 < (0 : Int)) then (some ((-1 : Int), ())) else some (r3.1, ())
noncomputable def raw (k : Nat) (a1 : Arg) : Option Out := p a1
theorem raw_eq (k : Nat) (a1 : Arg) : W k a1 = raw k a1 := by kernel_rfl
theorem ok : Ok prog 49 sig := fn_ok func49 (tl := tl) (gl := gl) (es := []) (fr := []) rfl rfl (by kernel_rfl) (fc laws_heldSent.ok (fc laws_heldConnector.ok (fn_nil _))) (fun _ => rfl)
end laws_heldConnectorResult
namespace spec_SaveConnector
/-! loop example g00408 spec SaveConnector -/
abbrev Arg : Type := Connector × Unit
abbrev Out : Type := ConnectorResult × Unit
noncomputable def ps : PQ := [(.ro, tConnector)]
noncomputable def rs : RQ := [(tConnectorResult, (ownMd tConnectorResult))]
noncomputable def tl : TL := [(2, i64), (84, tMiner), (86, tConnector), (88, tConnectorResult)]
noncomputable def gl : GL := [(107, spec_l14Fault.sig), (108, spec_l14Bad.sig), (109, spec_l9Copy.sig)]
noncomputable def E : Env := { TI := lookN tl, G := lookN gl, od := [(4, [0, 1, 3, 4, 5, 6, 8, 9, 2, 7, 10, 11, 12])] }
noncomputable def W (k : Nat) (a : Arg) : Option Out := bodyK E k f50 ps rs [] [] a
noncomputable def sem (a : Arg) : Option Out := lift fun k => W k a
noncomputable def sig : Sig := { ps := ps, rs := rs, F := sem }
noncomputable def p (a1 : Arg) : Option Out := (spec_l14Fault.sem (a1.1, ())).bind fun r2 => bif !decide (r2.1 = (0 : Int)) then ((spec_l14Bad.sem (r2.1, ())).bind fun r3 => some (r3.1, ())) else (spec_l9Copy.sem (a1.1.1, ())).bind fun r4 => (spec_l9Copy.sem (a1.1.1, ())).bind fun r5 => some (((0 : Int), false, ((0 : Int), (0 : Int), ([] : List Change), ()), (r4.1, a1.1.2.1, r5.1, a1.1.2.1, ()), ()), ())
noncomputable def raw (k : Nat) (a1 : Arg) : Option Out := p a1
theorem raw_eq (k : Nat) (a1 : Arg) : W k a1 = raw k a1 := by kernel_rfl
theorem ok : Ok prog 50 sig := fn_ok func50 (tl := tl) (gl := gl) (es := []) (fr := []) rfl rfl (by kernel_rfl) (fc spec_l14Fault.ok (fc spec_l14Bad.ok (fc spec_l9Copy.ok (fn_nil _)))) (fun _ => rfl)
end spec_SaveConnector
namespace impl_SaveConnector
/-! loop example g00408 impl SaveConnector -/
abbrev Arg : Type := Connector × Unit
abbrev Out : Type := ConnectorResult × Unit
noncomputable def ps : PQ := [(.ro, tConnector)]
noncomputable def rs : RQ := [(tConnectorResult, (ownMd tConnectorResult))]
noncomputable def tl : TL := [(2, i64), (84, tMiner), (86, tConnector), (88, tConnectorResult)]
noncomputable def gl : GL := [(111, impl_ConnectorFault.sig), (112, impl_Miner_own.sig)]
noncomputable def E : Env := { TI := lookN tl, G := lookN gl, od := [(4, [0, 1, 3, 4, 5, 6, 8, 9, 2, 7, 10, 11, 12])] }
noncomputable def W (k : Nat) (a : Arg) : Option Out := bodyK E k f51 ps rs [] [] a
noncomputable def sem (a : Arg) : Option Out := lift fun k => W k a
noncomputable def sig : Sig := { ps := ps, rs := rs, F := sem }
noncomputable def p (a1 : Arg) : Option Out := (impl_ConnectorFault.sem (a1.1, ())).bind fun r2 => bif !decide (r2.1 = (0 : Int)) then (some ((r2.1, false, ((0 : Int), (0 : Int), ([] : List Change), ()), ((([] : List (List UInt8)), ([] : List Buffer), ()), (0 : Int), (([] : List (List UInt8)), ([] : List Buffer), ()), (0 : Int), ()), ()), ())) else (impl_Miner_own.sem (a1.1.1, ())).bind fun r3 => (impl_Miner_own.sem (a1.1.1, ())).bind fun r4 => some (((0 : Int), false, ((0 : Int), (0 : Int), ([] : List Change), ()), (r3.1, a1.1.2.1, r4.1, a1.1.2.1, ()), ()), ())
noncomputable def raw (k : Nat) (a1 : Arg) : Option Out := p a1
theorem raw_eq (k : Nat) (a1 : Arg) : W k a1 = raw k a1 := by kernel_rfl
theorem ok : Ok prog 51 sig := fn_ok func51 (tl := tl) (gl := gl) (es := []) (fr := []) rfl rfl (by kernel_rfl) (fc impl_ConnectorFault.ok (fc impl_Miner_own.ok (fn_nil _))) (fun _ => rfl)
end impl_SaveConnector
namespace laws_FnExactSaveConnector
/-! loop example g00408 laws FnExactSaveConnector -/
abbrev Arg : Type := Connector × Unit
abbrev Out : Type := Bool × Unit
noncomputable def ps : PQ := [(.ro, tConnector)]
noncomputable def rs : RQ := [(.bool, (roMd .bool))]
noncomputable def tl : TL := [(77, tConnector), (86, tConnector), (88, tConnectorResult)]
noncomputable def gl : GL := [(41, laws_szConnector.sig), (43, laws_toConnector.sig), (45, laws_eqConnectorResult.sig), (46, laws_eqConnector.sig), (47, laws_markConnector.sig), (48, laws_markConnectorResult.sig), (49, laws_heldConnectorResult.sig), (50, spec_SaveConnector.sig), (51, impl_SaveConnector.sig)]
noncomputable def E : Env := { TI := lookN tl, G := lookN gl, od := [(10, [0, 1, 2, 3, 4])] }
noncomputable def W (k : Nat) (a : Arg) : Option Out := bodyK E k f10 ps rs [] [] a
noncomputable def sem (a : Arg) : Option Out := lift fun k => W k a
noncomputable def sig : Sig := { ps := ps, rs := rs, F := sem }
noncomputable def p (a1 : Arg) : Option Out := (laws_szConnector.sem (a1.1, (1048576 : Int), ())).bind fun r2 => bif decide (r2.1 < (0 : Int)) then (some (true, ())) else (laws_toConnector.sem (a1.1, ())).bind fun r3 => (spec_SaveConnector.sem (r3.1, ())).bind fun r4 => (laws_toConnector.sem (a1.1, ())).bind fun r5 => (impl_SaveConnector.sem (r5.1, ())).bind fun r6 => (laws_eqConnectorResult.sem (r6.1, r4.1, ())).bind fun r7 => bif !r7.1 then (some (false, ())) else (laws_toConnector.sem (a1.1, ())).bind fun r8 => (laws_eqConnector.sem (r5.1, r8.1, ())).bind fun r9 => bif !r9.1 then (some (false, ())) else (laws_markConnector.sem (r5.1, (1 : Int), ())).bind fun r10 => bif decide (r10.1 < (0 : Int)) then (some (false, ())) else (laws_eqConnectorResult.sem (r6.1, r4.1, ())).bind fun r11 => bif !r11.1 then (some (false, ())) else (laws_markConnectorResult.sem (r6.1, (1 : Int), ())).bind fun r12 => (laws_heldConnectorResult.sem (r12.2.1, (1 : Int), ())).bind fun r13 => bif decide (r13.1 < (0 : Int)) then (some (false, ())) else bif !decide (r13.1 = r12.1) then (some (false, ())) else (laws_toConnector.sem (a1.1, ())).bind fun r14 => (impl_SaveConnector.sem (r14.1, ())).bind fun r15 => (laws_eqConnectorResult.sem (r15.1, r4.1, ())).bind fun r16 => bif !r16.1 then (some (false, ())) else (laws_heldConnectorResult.sem (r12.2.1, (1 : Int), ())).bind fun r17 => bif decide (r17.1 < (0 : Int)) then (some (false, ())) else bif !decide (r17.1 = r12.1) then (some (false, ())) else some (true, ())
noncomputable def raw (k : Nat) (a1 : Arg) : Option Out := p a1
theorem raw_eq (k : Nat) (a1 : Arg) : W k a1 = raw k a1 := by kernel_rfl
theorem ok : Ok prog 10 sig := fn_ok func10 (tl := tl) (gl := gl) (es := []) (fr := []) rfl rfl (by kernel_rfl) (fc laws_szConnector.ok (fc laws_toConnector.ok (fc laws_eqConnectorResult.ok (fc laws_eqConnector.ok (fc laws_markConnector.ok (fc laws_markConnectorResult.ok (fc laws_heldConnectorResult.ok (fc spec_SaveConnector.ok (fc impl_SaveConnector.ok (fn_nil _)))))))))) (fun _ => rfl)
end laws_FnExactSaveConnector
end OT

set_option linter.unusedVariables false
set_option linter.unusedSimpArgs false
namespace OT
open Go
noncomputable def mtext (n : Int) : List UInt8 := ((laws_markText.sem (n, ())).map (·.1)).getD []
theorem markText_eq (n : Int) (h : n ≤ 9223372036854775807) : laws_markText.sem (n, ()) = some (mtext n, ()) := by
  have main : ∃ t, laws_markText.sem (n, ()) = some (t, ()) := by
    by_cases hn : n ≤ 0
    · refine ⟨[109, 48], lift_eq (k := 0) fun k _ => (laws_markText.raw_eq k _).trans ?_⟩
      unfold laws_markText.raw laws_markText.p
      simp only [hn, decide_true, cond_true]
      try rfl
    · have key : ∀ (f : Nat) (m : Int) (out : List UInt8), 0 ≤ m → m ≤ 9223372036854775807 → m < 10 ^ f → out.length + f ≤ 100 → ∃ t, t.length ≤ 100 ∧ ∀ k, f < k → rawIter (fun self v => laws_markText.B0 0 self (fun z => laws_markText.Q0 0 (n, ()) z) (n, ()) v) k (m, out) = some (109 :: t, ()) := by
        intro f
        induction f with
        | zero =>
          intro m out h0 h9 h1 h2
          have hm : m = 0 := by simp at h1; omega
          subst hm
          refine ⟨out, by omega, fun k hk => ?_⟩
          cases k with
          | zero => omega
          | succ k =>
            rw [rawIter_succ]
            show laws_markText.b0 _ _ _ _ = _
            unfold laws_markText.b0 laws_markText.Q0 laws_markText.q0
            have hc : ([109] : List UInt8).length + out.length ≤ CAP := by simp only [CAP, List.length_cons, List.length_nil]; omega
            simp only [show ¬ ((0 : Int) < 0) by omega, decide_false, cond_false, hc, if_true]
            rfl
        | succ f ih =>
          intro m out h0 h9 h1 h2
          by_cases hm : 0 < m
          · have hq0 : 0 ≤ m.tdiv 10 := Int.tdiv_nonneg h0 (by omega)
            have hq : m.tdiv 10 < 10 ^ f := by
              rw [Int.tdiv_eq_ediv_of_nonneg h0]
              have : (10 : Int) ^ (f + 1) = 10 ^ f * 10 := Int.pow_succ 10 f
              omega
            have hd := Int.emod_nonneg m (b := 10) (by omega)
            have hd2 := Int.emod_lt_of_pos m (b := 10) (by omega)
            obtain ⟨t, t1, t2⟩ := ih (m.tdiv 10) ([UInt8.ofInt (w64 (48 + m.tmod 10))] ++ out) hq0 (by rw [Int.tdiv_eq_ediv_of_nonneg h0]; omega) hq (by simp; omega)
            refine ⟨t, t1, fun k hk => ?_⟩
            cases k with
            | zero => omega
            | succ k =>
              rw [rawIter_succ]
              show laws_markText.b0 _ _ _ _ = _
              unfold laws_markText.b0
              have hw : w64 (m.tdiv 10) = m.tdiv 10 := w64_in ⟨by omega, by
                rw [Int.tdiv_eq_ediv_of_nonneg h0]
                omega⟩
              have hc : [UInt8.ofInt (w64 (48 + m.tmod 10))].length + out.length ≤ CAP := by simp only [CAP, List.length_cons, List.length_nil]; omega
              simp only [hm, decide_true, cond_true, hc, if_true, hw]
              exact t2 k (by omega)
          · have hm : m = 0 := by omega
            subst hm
            refine ⟨out, by omega, fun k hk => ?_⟩
            cases k with
            | zero => omega
            | succ k =>
              rw [rawIter_succ]
              show laws_markText.b0 _ _ _ _ = _
              unfold laws_markText.b0 laws_markText.Q0 laws_markText.q0
              have hc : ([109] : List UInt8).length + out.length ≤ CAP := by simp only [CAP, List.length_cons, List.length_nil]; omega
              simp only [show ¬ ((0 : Int) < 0) by omega, decide_false, cond_false, hc, if_true]
              rfl
      obtain ⟨t, t1, t2⟩ := key 19 n [] (by omega) h (by omega) (by simp)
      refine ⟨109 :: t, lift_eq (k := 20) fun k hk => (laws_markText.raw_eq k _).trans ?_⟩
      unfold laws_markText.raw laws_markText.p
      simp only [hn, decide_false, cond_false]
      exact t2 k (by omega)
  obtain ⟨t, ht⟩ := main
  rw [ht]
  simp [mtext, ht]
theorem szByteS_eq (x : List UInt8) (n : Int) (hx : okD (.slc u8) x) (h0 : 0 ≤ n) (h1 : n ≤ 1048576) : laws_szByteS.sem (x, n, ()) = some (lft n (zz (.slc u8) x), ()) := by
  obtain ⟨hl, hel⟩ := hx
  have hl' := hl
  rw [maxLen_val] at hl'
  have hl' : List.length x ≤ 9223372036854775807 := hl'
  have hw : w64 (n - (List.length x : Int)) = n - (List.length x : Int) := w64_in (by omega)
  have hz : zz (.slc u8) x = List.length x + 0 := by show List.length x + sumW _ _ = _; exact congrArg (List.length x + ·) (sumW_zero _ (fun _ => rfl) x)
  refine lift_eq (k := 0) fun k _ => (laws_szByteS.raw_eq k _).trans ?_
  show laws_szByteS.p _ = _
  unfold laws_szByteS.p
  simp only [hw, hz, Nat.add_zero]
  by_cases hc : (List.length x : Int) ≤ n
  · have e1 : lft n (List.length x) = n - (List.length x : Int) := if_pos hc
    have n1 : ¬ (n - (List.length x : Int) < 0) := by omega
    simp [e1, n1]
  · have e1 : lft n (List.length x) = -1 := if_neg hc
    have n1 : n - (List.length x : Int) < 0 := by omega
    simp [e1, n1]
theorem szByteSS_eq (x : List (List UInt8)) (n : Int) (hx : okD (.slc (.slc u8)) x) (h0 : 0 ≤ n) (h1 : n ≤ 1048576) : laws_szByteSS.sem (x, n, ()) = some (lft n (zz (.slc (.slc u8)) x), ()) := by
  obtain ⟨hl, hel⟩ := hx
  have hl' := hl
  rw [maxLen_val] at hl'
  have hl' : List.length x ≤ 9223372036854775807 := hl'
  have hw : w64 (n - (List.length x : Int)) = n - (List.length x : Int) := w64_in (by omega)
  have hz : zz (.slc (.slc u8)) x = List.length x + sumW (zz (.slc u8)) x := rfl
  by_cases hc : n - (List.length x : Int) < 0
  · have e1 : lft n (zz (.slc (.slc u8)) x) = -1 := if_neg (by omega)
    rw [e1]
    refine lift_eq (k := 0) fun k _ => (laws_szByteSS.raw_eq k _).trans ?_
    unfold laws_szByteSS.raw laws_szByteSS.p
    simp only [hw, hc, decide_true, cond_true]
    try rfl
  · have e1 : lft n (zz (.slc (.slc u8)) x) = lft (n - (List.length x : Int)) (sumW (zz (.slc u8)) x) := by rw [hz, lft_add (by omega)]
    rw [e1]
    refine lift_eq (k := List.length x + 1) fun k hk => (laws_szByteSS.raw_eq k _).trans ?_
    unfold laws_szByteSS.raw laws_szByteSS.p
    simp only [hw, hc, decide_false, cond_false]
    exact sz_loop (B := fun self v => laws_szByteSS.B0 0 self (fun z => laws_szByteSS.Q0 0 (x, n, ()) z) (x, n, ()) v) (xs := x) hl (zz (.slc u8)) (fun i hi m self hm0 hm1 => by
        show laws_szByteSS.b0 _ _ _ _ = _
        unfold laws_szByteSS.b0
        have hlt : (i : Int) < (List.length x : Int) := by omega
        simp only [hlt, decide_true, cond_true, Int.natCast_nonneg, if_true, Int.toNat_natCast, List.getElem?_eq_getElem hi, Option.bind_some, szByteS_eq x[i] m (hel _ (List.getElem_mem hi)) hm0 hm1]
        by_cases hs : lft m (zz (.slc u8) x[i]) < 0 <;> simp [hs]) (fun m self => by
        show laws_szByteSS.b0 _ _ _ _ = _
        unfold laws_szByteSS.b0
        simp [laws_szByteSS.Q0, laws_szByteSS.q0]) _ (by omega) (by omega) k (by omega)
theorem szRow_eq (x : Row) (n : Int) (hx : okD tRow x) (h0 : 0 ≤ n) (h1 : n ≤ 1048576) : laws_szRow.sem (x, n, ()) = some (lft n (zz tRow x), ()) := by
  have hz : zz tRow x = (0 + (0 + (0 + (List.length x.2.2.2.1 + 0)))) := rfl
  refine lift_eq (k := 0) fun k _ => (laws_szRow.raw_eq k _).trans ?_
  show laws_szRow.p _ = _
  unfold laws_szRow.p
  have hw : w64 (n - (List.length x.2.2.2.1 : Int)) = n - (List.length x.2.2.2.1 : Int) := w64_in (by have h9 := hx.2.2.2.1; simp only [okD] at h9; rw [maxLen_val] at h9; omega)
  simp only [hw]
  by_cases hc : ((List.length x.2.2.2.1 : Nat) : Int) ≤ n
  rotate_left
  · have n1 : n - ((List.length x.2.2.2.1 : Nat) : Int) < 0 := by omega
    have e2 : lft n (zz tRow x) = -1 := if_neg (by omega)
    rw [e2]; simp only [n1, decide_true, cond_true]
  have n1 : ¬ (n - ((List.length x.2.2.2.1 : Nat) : Int) < 0) := by omega
  simp only [n1, decide_false, cond_false]
  clear n1 hw
  have e2 : lft n (zz tRow x) = (n - ((List.length x.2.2.2.1 : Nat) : Int)) := by unfold lft; rw [if_pos (by omega)]; omega
  rw [e2]
theorem toByteS_eq (x : List UInt8) (h : zz (.slc u8) x ≤ 1048576) : laws_toByteS.sem (x, ()) = some (x, ()) := by
  have hl : x.length ≤ 1048576 := Nat.le_trans (zz_len (e := u8) x) h
  refine lift_eq (k := x.length + 1) fun k hk => (laws_toByteS.raw_eq k _).trans ?_
  unfold laws_toByteS.raw laws_toByteS.p
  have hc : 0 ≤ (x.length : Int) ∧ (x.length : Int) ≤ (x.length : Int) ∧ (x.length : Int) ≤ (CAP : Int) := by simp only [CAP]; omega
  simp only [hc, and_self, if_true, Int.toNat_natCast]
  exact copy_loop (B := fun self v => laws_toByteS.B0 k self (fun z => laws_toByteS.Q0 k (x, ()) z) (x, ()) v) (xs := x) (by rw [maxLen_val]; omega) (fun i hi acc self ha => by
    show laws_toByteS.b0 _ _ _ _ = _
    unfold laws_toByteS.b0
    have hlt : (i : Int) < (x.length : Int) := by omega
    have hlt2 : (i : Int) < (acc.length : Int) := by omega
    simp only [hlt, hlt2, decide_true, cond_true, Int.natCast_nonneg, and_self, if_true, Int.toNat_natCast, List.getElem?_eq_getElem hi, List.getElem?_eq_getElem (show i < acc.length by omega), Option.bind_some]) (fun acc self => by
    show laws_toByteS.b0 _ _ _ _ = _
    unfold laws_toByteS.b0
    simp [laws_toByteS.Q0, laws_toByteS.q0]) _ k (by omega)
theorem toByteSS_eq (x : List (List UInt8)) (h : zz (.slc (.slc u8)) x ≤ 1048576) : laws_toByteSS.sem (x, ()) = some (x, ()) := by
  have hl : x.length ≤ 1048576 := Nat.le_trans (zz_len (e := (.slc u8)) x) h
  refine lift_eq (k := x.length + 1) fun k hk => (laws_toByteSS.raw_eq k _).trans ?_
  unfold laws_toByteSS.raw laws_toByteSS.p
  have hc : 0 ≤ (x.length : Int) ∧ (x.length : Int) ≤ (x.length : Int) ∧ (x.length : Int) ≤ (CAP : Int) := by simp only [CAP]; omega
  simp only [hc, and_self, if_true, Int.toNat_natCast]
  exact copy_loop (B := fun self v => laws_toByteSS.B0 k self (fun z => laws_toByteSS.Q0 k (x, ()) z) (x, ()) v) (xs := x) (by rw [maxLen_val]; omega) (fun i hi acc self ha => by
    show laws_toByteSS.b0 _ _ _ _ = _
    unfold laws_toByteSS.b0
    have hlt : (i : Int) < (x.length : Int) := by omega
    have hlt2 : (i : Int) < (acc.length : Int) := by omega
    simp only [hlt, hlt2, decide_true, cond_true, Int.natCast_nonneg, and_self, if_true, Int.toNat_natCast, List.getElem?_eq_getElem hi, List.getElem?_eq_getElem (show i < acc.length by omega), Option.bind_some, toByteS_eq x[i] (by have := zz_mem (e := (.slc u8)) (List.getElem_mem hi); omega)]) (fun acc self => by
    show laws_toByteSS.b0 _ _ _ _ = _
    unfold laws_toByteSS.b0
    simp [laws_toByteSS.Q0, laws_toByteSS.q0]) _ k (by omega)
theorem toRow_eq (x : Row) (h : zz tRow x ≤ 1048576) : laws_toRow.sem (x, ()) = some (x, ()) := by
  have hz : zz tRow x = (0 + (0 + (0 + (List.length x.2.2.2.1 + 0)))) := rfl
  refine lift_eq (k := 0) fun k _ => (laws_toRow.raw_eq k _).trans ?_
  show laws_toRow.p _ = _
  unfold laws_toRow.p
  rfl
theorem eqByteS_self (x : List UInt8) (h : zz (.slc u8) x ≤ 4611686018427387904) : laws_eqByteS.sem (x, x, ()) = some (true, ()) := by
  have hl : x.length ≤ 4611686018427387904 := Nat.le_trans (zz_len (e := u8) x) h
  refine lift_eq (k := x.length + 1) fun k hk => (laws_eqByteS.raw_eq k _).trans ?_
  unfold laws_eqByteS.raw laws_eqByteS.p
  simp only [decide_true, Bool.not_true, cond_false]
  have := all_loop (B := fun self v => laws_eqByteS.B0 k self (fun z => laws_eqByteS.Q0 k (x, x, ()) z) (x, x, ()) v) (xs := x) (ys := x) (fun _ _ => true) rfl (by rw [maxLen_val]; omega) (fun i hi hj self => by
      show laws_eqByteS.b0 _ _ _ _ = _
      unfold laws_eqByteS.b0
      have hlt : (i : Int) < (x.length : Int) := by omega
      simp only [hlt, decide_true, cond_true, Int.natCast_nonneg, if_true, Int.toNat_natCast, List.getElem?_eq_getElem hi, Option.bind_some, Bool.not_true, cond_false]) (fun self => by
      show laws_eqByteS.b0 _ _ _ _ = _
      unfold laws_eqByteS.b0
      simp [laws_eqByteS.Q0, laws_eqByteS.q0]) k (by omega)
  rw [show allB (fun _ _ => true) x x = true by simp [allB]] at this
  exact this
theorem eqByteSS_self (x : List (List UInt8)) (h : zz (.slc (.slc u8)) x ≤ 4611686018427387904) : laws_eqByteSS.sem (x, x, ()) = some (true, ()) := by
  have hl : x.length ≤ 4611686018427387904 := Nat.le_trans (zz_len (e := (.slc u8)) x) h
  refine lift_eq (k := x.length + 1) fun k hk => (laws_eqByteSS.raw_eq k _).trans ?_
  unfold laws_eqByteSS.raw laws_eqByteSS.p
  simp only [decide_true, Bool.not_true, cond_false]
  have := all_loop (B := fun self v => laws_eqByteSS.B0 k self (fun z => laws_eqByteSS.Q0 k (x, x, ()) z) (x, x, ()) v) (xs := x) (ys := x) (fun _ _ => true) rfl (by rw [maxLen_val]; omega) (fun i hi hj self => by
      show laws_eqByteSS.b0 _ _ _ _ = _
      unfold laws_eqByteSS.b0
      have hlt : (i : Int) < (x.length : Int) := by omega
      simp only [hlt, decide_true, cond_true, Int.natCast_nonneg, if_true, Int.toNat_natCast, List.getElem?_eq_getElem hi, Option.bind_some, Bool.not_true, cond_false, eqByteS_self x[i] (by have := zz_mem (e := (.slc u8)) (List.getElem_mem hi); omega)]) (fun self => by
      show laws_eqByteSS.b0 _ _ _ _ = _
      unfold laws_eqByteSS.b0
      simp [laws_eqByteSS.Q0, laws_eqByteSS.q0]) k (by omega)
  rw [show allB (fun _ _ => true) x x = true by simp [allB]] at this
  exact this
def KByteS (x : UInt8) (k : Int) (y : UInt8) (k' : Int) : Prop := y = (UInt8.ofInt (k)) ∧ k + 1 = k'
theorem mkByteS (x : List UInt8) (k : Int) (h0 : 0 ≤ k) (h1 : k + 32 * ((zz (.slc u8) x : Nat) : Int) ≤ BIG) : ∃ (k' : Int) (y : List UInt8), laws_markByteS.sem (x, k, ()) = some (k', y, ()) ∧ k ≤ k' ∧ k' ≤ k + 32 * ((zz (.slc u8) x : Nat) : Int) := by
  have hB : BIG = 4611686018427387904 := rfl
  have hl : List.length x ≤ zz (.slc u8) x := zz_len (e := u8) x
  have hs : sumW (fun x : UInt8 => 32 * (zz u8 x + 1)) x = 32 * zz (.slc u8) x := sumW_32 (zz u8) x
  obtain ⟨ys, k', g1, g2, g3, g4, g5⟩ := mark_loop (B := fun self v => laws_markByteS.B0 0 self (fun z => laws_markByteS.Q0 0 (x, k, ()) z) (x, k, ()) v) (xs := x) (by rw [maxLen_val]; omega) KByteS (fun x : UInt8 => 32 * (zz u8 x + 1)) (fun x hx k h0 h1 => by
      exact ⟨_, _, by omega, by omega, ⟨rfl, rfl⟩⟩) (fun i acc k self x y k' hi hx h0 h1 h2 h3 hE => by
      obtain ⟨rfl, rfl⟩ := hE
      show laws_markByteS.b0 _ _ _ _ = _
      unfold laws_markByteS.b0
      have hlt : (i : Int) < (acc.length : Int) := by omega
      simp (disch := omega) only [hlt, decide_true, cond_true, Int.natCast_nonneg, and_self, if_true, Int.toNat_natCast, hx, Option.bind_some, List.length_set, get_self_set, List.set_set, w64_in, markText_eq]) (fun acc k self => by
      show laws_markByteS.b0 _ _ _ _ = _
      unfold laws_markByteS.b0
      simp [laws_markByteS.Q0, laws_markByteS.q0]) k h0 (by rw [hs]; omega)
  refine ⟨k', ys, lift_eq (k := x.length + 1) fun f hf => (laws_markByteS.raw_eq f _).trans (g5 f (by omega)), g1, by rw [hs] at g2; omega⟩
def KByteSS (x : List UInt8) (k : Int) (y : List UInt8) (k' : Int) : Prop := ∃ (r1 : Int) (y1 : List UInt8), laws_markByteS.sem (x, k, ()) = some (r1, y1, ()) ∧ k ≤ r1 ∧ r1 ≤ k + 32 * ((zz (.slc u8) x : Nat) : Int) ∧ y = y1 ∧ r1 = k'
theorem mkByteSS (x : List (List UInt8)) (k : Int) (h0 : 0 ≤ k) (h1 : k + 32 * ((zz (.slc (.slc u8)) x : Nat) : Int) ≤ BIG) : ∃ (k' : Int) (y : List (List UInt8)), laws_markByteSS.sem (x, k, ()) = some (k', y, ()) ∧ k ≤ k' ∧ k' ≤ k + 32 * ((zz (.slc (.slc u8)) x : Nat) : Int) := by
  have hB : BIG = 4611686018427387904 := rfl
  have hl : List.length x ≤ zz (.slc (.slc u8)) x := zz_len (e := (.slc u8)) x
  have hs : sumW (fun x : List UInt8 => 32 * (zz (.slc u8) x + 1)) x = 32 * zz (.slc (.slc u8)) x := sumW_32 (zz (.slc u8)) x
  obtain ⟨ys, k', g1, g2, g3, g4, g5⟩ := mark_loop (B := fun self v => laws_markByteSS.B0 0 self (fun z => laws_markByteSS.Q0 0 (x, k, ()) z) (x, k, ()) v) (xs := x) (by rw [maxLen_val]; omega) KByteSS (fun x : List UInt8 => 32 * (zz (.slc u8) x + 1)) (fun x hx k h0 h1 => by
      obtain ⟨r1, y1, e1, g1, i1⟩ := mkByteS x (k) (by omega) (by omega)
      exact ⟨_, _, by omega, by omega, ⟨r1, y1, e1, g1, i1, rfl, rfl⟩⟩) (fun i acc k self x y k' hi hx h0 h1 h2 h3 hE => by
      obtain ⟨r1, y1, e1, g1, i1, rfl, rfl⟩ := hE
      show laws_markByteSS.b0 _ _ _ _ = _
      unfold laws_markByteSS.b0
      have hlt : (i : Int) < (acc.length : Int) := by omega
      simp (disch := omega) only [hlt, decide_true, cond_true, Int.natCast_nonneg, and_self, if_true, Int.toNat_natCast, hx, Option.bind_some, List.length_set, get_self_set, List.set_set, w64_in, markText_eq, e1]) (fun acc k self => by
      show laws_markByteSS.b0 _ _ _ _ = _
      unfold laws_markByteSS.b0
      simp [laws_markByteSS.Q0, laws_markByteSS.q0]) k h0 (by rw [hs]; omega)
  refine ⟨k', ys, lift_eq (k := x.length + 1) fun f hf => (laws_markByteSS.raw_eq f _).trans (g5 f (by omega)), g1, by rw [hs] at g2; omega⟩
def EByteS (x : UInt8) (k : Int) (y : UInt8) (k' : Int) : Prop := y = (UInt8.ofInt (k)) ∧ k + 1 = k'
theorem mhByteS (x : List UInt8) (k : Int) (h0 : 0 ≤ k) (h1 : k + 32 * ((zz (.slc u8) x : Nat) : Int) ≤ BIG) : ∃ (k' : Int) (y : List UInt8), laws_markByteS.sem (x, k, ()) = some (k', y, ()) ∧ laws_heldByteS.sem (y, k, ()) = some (k', ()) ∧ k ≤ k' ∧ k' ≤ k + 32 * ((zz (.slc u8) x : Nat) : Int) := by
  have hB : BIG = 4611686018427387904 := rfl
  have hl : List.length x ≤ zz (.slc u8) x := zz_len (e := u8) x
  have hs : sumW (fun x : UInt8 => 32 * (zz u8 x + 1)) x = 32 * zz (.slc u8) x := sumW_32 (zz u8) x
  obtain ⟨ys, k', g1, g2, g3, g4, g5⟩ := mark_loop (B := fun self v => laws_markByteS.B0 0 self (fun z => laws_markByteS.Q0 0 (x, k, ()) z) (x, k, ()) v) (xs := x) (by rw [maxLen_val]; omega) EByteS (fun x : UInt8 => 32 * (zz u8 x + 1)) (fun x hx k h0 h1 => by
      exact ⟨_, _, by omega, by omega, ⟨rfl, rfl⟩⟩) (fun i acc k self x y k' hi hx h0 h1 h2 h3 hE => by
      obtain ⟨rfl, rfl⟩ := hE
      show laws_markByteS.b0 _ _ _ _ = _
      unfold laws_markByteS.b0
      have hlt : (i : Int) < (acc.length : Int) := by omega
      simp (disch := omega) only [hlt, decide_true, cond_true, Int.natCast_nonneg, and_self, if_true, Int.toNat_natCast, hx, Option.bind_some, List.length_set, get_self_set, List.set_set, w64_in, markText_eq]) (fun acc k self => by
      show laws_markByteS.b0 _ _ _ _ = _
      unfold laws_markByteS.b0
      simp [laws_markByteS.Q0, laws_markByteS.q0]) k h0 (by rw [hs]; omega)
  refine ⟨k', ys, lift_eq (k := x.length + 1) fun f hf => (laws_markByteS.raw_eq f _).trans (g5 f (by omega)), ?_, g1, by rw [hs] at g2; omega⟩
  refine lift_eq (k := ys.length + 1) fun f hf => (laws_heldByteS.raw_eq f _).trans ?_
  exact held_loop (B := fun self v => laws_heldByteS.B0 0 self (fun z => laws_heldByteS.Q0 0 (ys, k, ()) z) (ys, k, ()) v) (by rw [maxLen_val]; omega) g4 (fun i k self x y k' hi hx h0 h1 h2 h3 hE => by
      obtain ⟨rfl, rfl⟩ := hE
      show laws_heldByteS.b0 _ _ _ _ = _
      unfold laws_heldByteS.b0
      have hlt : (i : Int) < (ys.length : Int) := by omega
      simp (disch := omega) only [hlt, decide_true, cond_true, Int.natCast_nonneg, and_self, if_true, Int.toNat_natCast, hx, Option.bind_some, w64_in, markText_eq, beq_self_eq_true, Bool.not_true, cond_false, decide_false]) (fun k self => by
      show laws_heldByteS.b0 _ _ _ _ = _
      unfold laws_heldByteS.b0
      simp [laws_heldByteS.Q0, laws_heldByteS.q0]) f (by omega)
def EByteSS (x : List UInt8) (k : Int) (y : List UInt8) (k' : Int) : Prop := ∃ (r1 : Int) (y1 : List UInt8), laws_markByteS.sem (x, k, ()) = some (r1, y1, ()) ∧ laws_heldByteS.sem (y1, k, ()) = some (r1, ()) ∧ k ≤ r1 ∧ r1 ≤ k + 32 * ((zz (.slc u8) x : Nat) : Int) ∧ y = y1 ∧ r1 = k'
theorem mhByteSS (x : List (List UInt8)) (k : Int) (h0 : 0 ≤ k) (h1 : k + 32 * ((zz (.slc (.slc u8)) x : Nat) : Int) ≤ BIG) : ∃ (k' : Int) (y : List (List UInt8)), laws_markByteSS.sem (x, k, ()) = some (k', y, ()) ∧ laws_heldByteSS.sem (y, k, ()) = some (k', ()) ∧ k ≤ k' ∧ k' ≤ k + 32 * ((zz (.slc (.slc u8)) x : Nat) : Int) := by
  have hB : BIG = 4611686018427387904 := rfl
  have hl : List.length x ≤ zz (.slc (.slc u8)) x := zz_len (e := (.slc u8)) x
  have hs : sumW (fun x : List UInt8 => 32 * (zz (.slc u8) x + 1)) x = 32 * zz (.slc (.slc u8)) x := sumW_32 (zz (.slc u8)) x
  obtain ⟨ys, k', g1, g2, g3, g4, g5⟩ := mark_loop (B := fun self v => laws_markByteSS.B0 0 self (fun z => laws_markByteSS.Q0 0 (x, k, ()) z) (x, k, ()) v) (xs := x) (by rw [maxLen_val]; omega) EByteSS (fun x : List UInt8 => 32 * (zz (.slc u8) x + 1)) (fun x hx k h0 h1 => by
      obtain ⟨r1, y1, e1, f1, g1, i1⟩ := mhByteS x (k) (by omega) (by omega)
      exact ⟨_, _, by omega, by omega, ⟨r1, y1, e1, f1, g1, i1, rfl, rfl⟩⟩) (fun i acc k self x y k' hi hx h0 h1 h2 h3 hE => by
      obtain ⟨r1, y1, e1, f1, g1, i1, rfl, rfl⟩ := hE
      show laws_markByteSS.b0 _ _ _ _ = _
      unfold laws_markByteSS.b0
      have hlt : (i : Int) < (acc.length : Int) := by omega
      simp (disch := omega) only [hlt, decide_true, cond_true, Int.natCast_nonneg, and_self, if_true, Int.toNat_natCast, hx, Option.bind_some, List.length_set, get_self_set, List.set_set, w64_in, markText_eq, e1]) (fun acc k self => by
      show laws_markByteSS.b0 _ _ _ _ = _
      unfold laws_markByteSS.b0
      simp [laws_markByteSS.Q0, laws_markByteSS.q0]) k h0 (by rw [hs]; omega)
  refine ⟨k', ys, lift_eq (k := x.length + 1) fun f hf => (laws_markByteSS.raw_eq f _).trans (g5 f (by omega)), ?_, g1, by rw [hs] at g2; omega⟩
  refine lift_eq (k := ys.length + 1) fun f hf => (laws_heldByteSS.raw_eq f _).trans ?_
  exact held_loop (B := fun self v => laws_heldByteSS.B0 0 self (fun z => laws_heldByteSS.Q0 0 (ys, k, ()) z) (ys, k, ()) v) (by rw [maxLen_val]; omega) g4 (fun i k self x y k' hi hx h0 h1 h2 h3 hE => by
      obtain ⟨r1, y1, e1, f1, g1, i1, rfl, rfl⟩ := hE
      show laws_heldByteSS.b0 _ _ _ _ = _
      unfold laws_heldByteSS.b0
      have hlt : (i : Int) < (ys.length : Int) := by omega
      have n1 : ¬ r1 < 0 := by omega
      simp (disch := omega) only [hlt, decide_true, cond_true, Int.natCast_nonneg, and_self, if_true, Int.toNat_natCast, hx, Option.bind_some, w64_in, markText_eq, beq_self_eq_true, Bool.not_true, cond_false, decide_false, f1, n1]) (fun k self => by
      show laws_heldByteSS.b0 _ _ _ _ = _
      unfold laws_heldByteSS.b0
      simp [laws_heldByteSS.Q0, laws_heldByteSS.q0]) f (by omega)
theorem szChange_eq (x : Change) (n : Int) (hx : okD tChange x) (h0 : 0 ≤ n) (h1 : n ≤ 1048576) : laws_szChange.sem (x, n, ()) = some (lft n (zz tChange x), ()) := by
  have hz : zz tChange x = (0 + ((0 + (0 + (0 + (List.length x.2.1.2.2.2.1 + 0)))) + (0 + ((0 + (0 + (0 + (List.length x.2.2.2.1.2.2.2.1 + 0)))) + 0)))) := rfl
  refine lift_eq (k := 0) fun k _ => (laws_szChange.raw_eq k _).trans ?_
  show laws_szChange.p _ = _
  unfold laws_szChange.p
  have hz1 : zz tRow x.2.1 = (0 + (0 + (0 + (List.length x.2.1.2.2.2.1 + 0)))) := rfl
  simp only [szRow_eq x.2.1 (n) hx.2.1 (by omega) (by omega), Option.bind_some]
  by_cases hc : ((zz tRow x.2.1 : Nat) : Int) ≤ n
  rotate_left
  · have e1 : lft (n) (zz tRow x.2.1) = -1 := if_neg hc
    have e2 : lft n (zz tChange x) = -1 := if_neg (by omega)
    rw [e1, e2]; rfl
  have e1 : lft (n) (zz tRow x.2.1) = n - ((zz tRow x.2.1 : Nat) : Int) := if_pos hc
  have n1 : ¬ (n - ((zz tRow x.2.1 : Nat) : Int) < 0) := by omega
  simp only [e1, n1, decide_false, cond_false]
  clear e1 n1
  have hz3 : zz tRow x.2.2.2.1 = (0 + (0 + (0 + (List.length x.2.2.2.1.2.2.2.1 + 0)))) := rfl
  simp only [szRow_eq x.2.2.2.1 ((n - ((zz tRow x.2.1 : Nat) : Int))) hx.2.2.2.1 (by omega) (by omega), Option.bind_some]
  by_cases hc : ((zz tRow x.2.2.2.1 : Nat) : Int) ≤ (n - ((zz tRow x.2.1 : Nat) : Int))
  rotate_left
  · have e1 : lft ((n - ((zz tRow x.2.1 : Nat) : Int))) (zz tRow x.2.2.2.1) = -1 := if_neg hc
    have e2 : lft n (zz tChange x) = -1 := if_neg (by omega)
    rw [e1, e2]; rfl
  have e1 : lft ((n - ((zz tRow x.2.1 : Nat) : Int))) (zz tRow x.2.2.2.1) = (n - ((zz tRow x.2.1 : Nat) : Int)) - ((zz tRow x.2.2.2.1 : Nat) : Int) := if_pos hc
  have n1 : ¬ ((n - ((zz tRow x.2.1 : Nat) : Int)) - ((zz tRow x.2.2.2.1 : Nat) : Int) < 0) := by omega
  simp only [e1, n1, decide_false, cond_false]
  clear e1 n1
  have e2 : lft n (zz tChange x) = ((n - ((zz tRow x.2.1 : Nat) : Int)) - ((zz tRow x.2.2.2.1 : Nat) : Int)) := by unfold lft; rw [if_pos (by omega)]; omega
  rw [e2]
theorem toChange_eq (x : Change) (h : zz tChange x ≤ 1048576) : laws_toChange.sem (x, ()) = some (x, ()) := by
  have hz : zz tChange x = (0 + ((0 + (0 + (0 + (List.length x.2.1.2.2.2.1 + 0)))) + (0 + ((0 + (0 + (0 + (List.length x.2.2.2.1.2.2.2.1 + 0)))) + 0)))) := rfl
  have hz1 : zz tRow x.2.1 = (0 + (0 + (0 + (List.length x.2.1.2.2.2.1 + 0)))) := rfl
  have hz3 : zz tRow x.2.2.2.1 = (0 + (0 + (0 + (List.length x.2.2.2.1.2.2.2.1 + 0)))) := rfl
  refine lift_eq (k := 0) fun k _ => (laws_toChange.raw_eq k _).trans ?_
  show laws_toChange.p _ = _
  unfold laws_toChange.p
  simp only [toRow_eq x.2.1 (by omega), toRow_eq x.2.2.2.1 (by omega), Option.bind_some]
theorem szChangeS_eq (x : List Change) (n : Int) (hx : okD (.slc tChange) x) (h0 : 0 ≤ n) (h1 : n ≤ 1048576) : laws_szChangeS.sem (x, n, ()) = some (lft n (zz (.slc tChange) x), ()) := by
  obtain ⟨hl, hel⟩ := hx
  have hl' := hl
  rw [maxLen_val] at hl'
  have hl' : List.length x ≤ 9223372036854775807 := hl'
  have hw : w64 (n - (List.length x : Int)) = n - (List.length x : Int) := w64_in (by omega)
  have hz : zz (.slc tChange) x = List.length x + sumW (zz tChange) x := rfl
  by_cases hc : n - (List.length x : Int) < 0
  · have e1 : lft n (zz (.slc tChange) x) = -1 := if_neg (by omega)
    rw [e1]
    refine lift_eq (k := 0) fun k _ => (laws_szChangeS.raw_eq k _).trans ?_
    unfold laws_szChangeS.raw laws_szChangeS.p
    simp only [hw, hc, decide_true, cond_true]
    try rfl
  · have e1 : lft n (zz (.slc tChange) x) = lft (n - (List.length x : Int)) (sumW (zz tChange) x) := by rw [hz, lft_add (by omega)]
    rw [e1]
    refine lift_eq (k := List.length x + 1) fun k hk => (laws_szChangeS.raw_eq k _).trans ?_
    unfold laws_szChangeS.raw laws_szChangeS.p
    simp only [hw, hc, decide_false, cond_false]
    exact sz_loop (B := fun self v => laws_szChangeS.B0 0 self (fun z => laws_szChangeS.Q0 0 (x, n, ()) z) (x, n, ()) v) (xs := x) hl (zz tChange) (fun i hi m self hm0 hm1 => by
        show laws_szChangeS.b0 _ _ _ _ = _
        unfold laws_szChangeS.b0
        have hlt : (i : Int) < (List.length x : Int) := by omega
        simp only [hlt, decide_true, cond_true, Int.natCast_nonneg, if_true, Int.toNat_natCast, List.getElem?_eq_getElem hi, Option.bind_some, szChange_eq x[i] m (hel _ (List.getElem_mem hi)) hm0 hm1]
        by_cases hs : lft m (zz tChange x[i]) < 0 <;> simp [hs]) (fun m self => by
        show laws_szChangeS.b0 _ _ _ _ = _
        unfold laws_szChangeS.b0
        simp [laws_szChangeS.Q0, laws_szChangeS.q0]) _ (by omega) (by omega) k (by omega)
theorem szBuffer_eq (x : Buffer) (n : Int) (hx : okD tBuffer x) (h0 : 0 ≤ n) (h1 : n ≤ 1048576) : laws_szBuffer.sem (x, n, ()) = some (lft n (zz tBuffer x), ()) := by
  have hz : zz tBuffer x = (0 + (zz (.slc tChange) x.2.1 + 0)) := rfl
  refine lift_eq (k := 0) fun k _ => (laws_szBuffer.raw_eq k _).trans ?_
  show laws_szBuffer.p _ = _
  unfold laws_szBuffer.p
  simp only [szChangeS_eq x.2.1 (n) hx.2.1 (by omega) (by omega), Option.bind_some]
  by_cases hc : ((zz (.slc tChange) x.2.1 : Nat) : Int) ≤ n
  rotate_left
  · have e1 : lft (n) (zz (.slc tChange) x.2.1) = -1 := if_neg hc
    have e2 : lft n (zz tBuffer x) = -1 := if_neg (by omega)
    rw [e1, e2]; rfl
  have e1 : lft (n) (zz (.slc tChange) x.2.1) = n - ((zz (.slc tChange) x.2.1 : Nat) : Int) := if_pos hc
  have n1 : ¬ (n - ((zz (.slc tChange) x.2.1 : Nat) : Int) < 0) := by omega
  simp only [e1, n1, decide_false, cond_false]
  clear e1 n1
  have e2 : lft n (zz tBuffer x) = (n - ((zz (.slc tChange) x.2.1 : Nat) : Int)) := by unfold lft; rw [if_pos (by omega)]; omega
  rw [e2]
theorem szBufferS_eq (x : List Buffer) (n : Int) (hx : okD (.slc tBuffer) x) (h0 : 0 ≤ n) (h1 : n ≤ 1048576) : laws_szBufferS.sem (x, n, ()) = some (lft n (zz (.slc tBuffer) x), ()) := by
  obtain ⟨hl, hel⟩ := hx
  have hl' := hl
  rw [maxLen_val] at hl'
  have hl' : List.length x ≤ 9223372036854775807 := hl'
  have hw : w64 (n - (List.length x : Int)) = n - (List.length x : Int) := w64_in (by omega)
  have hz : zz (.slc tBuffer) x = List.length x + sumW (zz tBuffer) x := rfl
  by_cases hc : n - (List.length x : Int) < 0
  · have e1 : lft n (zz (.slc tBuffer) x) = -1 := if_neg (by omega)
    rw [e1]
    refine lift_eq (k := 0) fun k _ => (laws_szBufferS.raw_eq k _).trans ?_
    unfold laws_szBufferS.raw laws_szBufferS.p
    simp only [hw, hc, decide_true, cond_true]
    try rfl
  · have e1 : lft n (zz (.slc tBuffer) x) = lft (n - (List.length x : Int)) (sumW (zz tBuffer) x) := by rw [hz, lft_add (by omega)]
    rw [e1]
    refine lift_eq (k := List.length x + 1) fun k hk => (laws_szBufferS.raw_eq k _).trans ?_
    unfold laws_szBufferS.raw laws_szBufferS.p
    simp only [hw, hc, decide_false, cond_false]
    exact sz_loop (B := fun self v => laws_szBufferS.B0 0 self (fun z => laws_szBufferS.Q0 0 (x, n, ()) z) (x, n, ()) v) (xs := x) hl (zz tBuffer) (fun i hi m self hm0 hm1 => by
        show laws_szBufferS.b0 _ _ _ _ = _
        unfold laws_szBufferS.b0
        have hlt : (i : Int) < (List.length x : Int) := by omega
        simp only [hlt, decide_true, cond_true, Int.natCast_nonneg, if_true, Int.toNat_natCast, List.getElem?_eq_getElem hi, Option.bind_some, szBuffer_eq x[i] m (hel _ (List.getElem_mem hi)) hm0 hm1]
        by_cases hs : lft m (zz tBuffer x[i]) < 0 <;> simp [hs]) (fun m self => by
        show laws_szBufferS.b0 _ _ _ _ = _
        unfold laws_szBufferS.b0
        simp [laws_szBufferS.Q0, laws_szBufferS.q0]) _ (by omega) (by omega) k (by omega)
theorem szMiner_eq (x : Miner) (n : Int) (hx : okD tMiner x) (h0 : 0 ≤ n) (h1 : n ≤ 1048576) : laws_szMiner.sem (x, n, ()) = some (lft n (zz tMiner x), ()) := by
  have hz : zz tMiner x = (zz (.slc (.slc u8)) x.1 + (zz (.slc tBuffer) x.2.1 + 0)) := rfl
  refine lift_eq (k := 0) fun k _ => (laws_szMiner.raw_eq k _).trans ?_
  show laws_szMiner.p _ = _
  unfold laws_szMiner.p
  simp only [szByteSS_eq x.1 (n) hx.1 (by omega) (by omega), Option.bind_some]
  by_cases hc : ((zz (.slc (.slc u8)) x.1 : Nat) : Int) ≤ n
  rotate_left
  · have e1 : lft (n) (zz (.slc (.slc u8)) x.1) = -1 := if_neg hc
    have e2 : lft n (zz tMiner x) = -1 := if_neg (by omega)
    rw [e1, e2]; rfl
  have e1 : lft (n) (zz (.slc (.slc u8)) x.1) = n - ((zz (.slc (.slc u8)) x.1 : Nat) : Int) := if_pos hc
  have n1 : ¬ (n - ((zz (.slc (.slc u8)) x.1 : Nat) : Int) < 0) := by omega
  simp only [e1, n1, decide_false, cond_false]
  clear e1 n1
  simp only [szBufferS_eq x.2.1 ((n - ((zz (.slc (.slc u8)) x.1 : Nat) : Int))) hx.2.1 (by omega) (by omega), Option.bind_some]
  by_cases hc : ((zz (.slc tBuffer) x.2.1 : Nat) : Int) ≤ (n - ((zz (.slc (.slc u8)) x.1 : Nat) : Int))
  rotate_left
  · have e1 : lft ((n - ((zz (.slc (.slc u8)) x.1 : Nat) : Int))) (zz (.slc tBuffer) x.2.1) = -1 := if_neg hc
    have e2 : lft n (zz tMiner x) = -1 := if_neg (by omega)
    rw [e1, e2]; rfl
  have e1 : lft ((n - ((zz (.slc (.slc u8)) x.1 : Nat) : Int))) (zz (.slc tBuffer) x.2.1) = (n - ((zz (.slc (.slc u8)) x.1 : Nat) : Int)) - ((zz (.slc tBuffer) x.2.1 : Nat) : Int) := if_pos hc
  have n1 : ¬ ((n - ((zz (.slc (.slc u8)) x.1 : Nat) : Int)) - ((zz (.slc tBuffer) x.2.1 : Nat) : Int) < 0) := by omega
  simp only [e1, n1, decide_false, cond_false]
  clear e1 n1
  have e2 : lft n (zz tMiner x) = ((n - ((zz (.slc (.slc u8)) x.1 : Nat) : Int)) - ((zz (.slc tBuffer) x.2.1 : Nat) : Int)) := by unfold lft; rw [if_pos (by omega)]; omega
  rw [e2]
theorem szConnector_eq (x : Connector) (n : Int) (hx : okD tConnector x) (h0 : 0 ≤ n) (h1 : n ≤ 1048576) : laws_szConnector.sem (x, n, ()) = some (lft n (zz tConnector x), ()) := by
  have hz : zz tConnector x = ((zz (.slc (.slc u8)) x.1.1 + (zz (.slc tBuffer) x.1.2.1 + 0)) + (0 + ((zz (.slc (.slc u8)) x.2.2.1.1 + (zz (.slc tBuffer) x.2.2.1.2.1 + 0)) + (0 + 0)))) := rfl
  refine lift_eq (k := 0) fun k _ => (laws_szConnector.raw_eq k _).trans ?_
  show laws_szConnector.p _ = _
  unfold laws_szConnector.p
  have hz0 : zz tMiner x.1 = (zz (.slc (.slc u8)) x.1.1 + (zz (.slc tBuffer) x.1.2.1 + 0)) := rfl
  simp only [szMiner_eq x.1 (n) hx.1 (by omega) (by omega), Option.bind_some]
  by_cases hc : ((zz tMiner x.1 : Nat) : Int) ≤ n
  rotate_left
  · have e1 : lft (n) (zz tMiner x.1) = -1 := if_neg hc
    have e2 : lft n (zz tConnector x) = -1 := if_neg (by omega)
    rw [e1, e2]; rfl
  have e1 : lft (n) (zz tMiner x.1) = n - ((zz tMiner x.1 : Nat) : Int) := if_pos hc
  have n1 : ¬ (n - ((zz tMiner x.1 : Nat) : Int) < 0) := by omega
  simp only [e1, n1, decide_false, cond_false]
  clear e1 n1
  have hz2 : zz tMiner x.2.2.1 = (zz (.slc (.slc u8)) x.2.2.1.1 + (zz (.slc tBuffer) x.2.2.1.2.1 + 0)) := rfl
  simp only [szMiner_eq x.2.2.1 ((n - ((zz tMiner x.1 : Nat) : Int))) hx.2.2.1 (by omega) (by omega), Option.bind_some]
  by_cases hc : ((zz tMiner x.2.2.1 : Nat) : Int) ≤ (n - ((zz tMiner x.1 : Nat) : Int))
  rotate_left
  · have e1 : lft ((n - ((zz tMiner x.1 : Nat) : Int))) (zz tMiner x.2.2.1) = -1 := if_neg hc
    have e2 : lft n (zz tConnector x) = -1 := if_neg (by omega)
    rw [e1, e2]; rfl
  have e1 : lft ((n - ((zz tMiner x.1 : Nat) : Int))) (zz tMiner x.2.2.1) = (n - ((zz tMiner x.1 : Nat) : Int)) - ((zz tMiner x.2.2.1 : Nat) : Int) := if_pos hc
  have n1 : ¬ ((n - ((zz tMiner x.1 : Nat) : Int)) - ((zz tMiner x.2.2.1 : Nat) : Int) < 0) := by omega
  simp only [e1, n1, decide_false, cond_false]
  clear e1 n1
  have e2 : lft n (zz tConnector x) = ((n - ((zz tMiner x.1 : Nat) : Int)) - ((zz tMiner x.2.2.1 : Nat) : Int)) := by unfold lft; rw [if_pos (by omega)]; omega
  rw [e2]
theorem toChangeS_eq (x : List Change) (h : zz (.slc tChange) x ≤ 1048576) : laws_toChangeS.sem (x, ()) = some (x, ()) := by
  have hl : x.length ≤ 1048576 := Nat.le_trans (zz_len (e := tChange) x) h
  refine lift_eq (k := x.length + 1) fun k hk => (laws_toChangeS.raw_eq k _).trans ?_
  unfold laws_toChangeS.raw laws_toChangeS.p
  have hc : 0 ≤ (x.length : Int) ∧ (x.length : Int) ≤ (x.length : Int) ∧ (x.length : Int) ≤ (CAP : Int) := by simp only [CAP]; omega
  simp only [hc, and_self, if_true, Int.toNat_natCast]
  exact copy_loop (B := fun self v => laws_toChangeS.B0 k self (fun z => laws_toChangeS.Q0 k (x, ()) z) (x, ()) v) (xs := x) (by rw [maxLen_val]; omega) (fun i hi acc self ha => by
    show laws_toChangeS.b0 _ _ _ _ = _
    unfold laws_toChangeS.b0
    have hlt : (i : Int) < (x.length : Int) := by omega
    have hlt2 : (i : Int) < (acc.length : Int) := by omega
    simp only [hlt, hlt2, decide_true, cond_true, Int.natCast_nonneg, and_self, if_true, Int.toNat_natCast, List.getElem?_eq_getElem hi, List.getElem?_eq_getElem (show i < acc.length by omega), Option.bind_some, toChange_eq x[i] (by have := zz_mem (e := tChange) (List.getElem_mem hi); omega)]) (fun acc self => by
    show laws_toChangeS.b0 _ _ _ _ = _
    unfold laws_toChangeS.b0
    simp [laws_toChangeS.Q0, laws_toChangeS.q0]) _ k (by omega)
theorem toBuffer_eq (x : Buffer) (h : zz tBuffer x ≤ 1048576) : laws_toBuffer.sem (x, ()) = some (x, ()) := by
  have hz : zz tBuffer x = (0 + (zz (.slc tChange) x.2.1 + 0)) := rfl
  refine lift_eq (k := 0) fun k _ => (laws_toBuffer.raw_eq k _).trans ?_
  show laws_toBuffer.p _ = _
  unfold laws_toBuffer.p
  simp only [toChangeS_eq x.2.1 (by omega), Option.bind_some]
theorem toBufferS_eq (x : List Buffer) (h : zz (.slc tBuffer) x ≤ 1048576) : laws_toBufferS.sem (x, ()) = some (x, ()) := by
  have hl : x.length ≤ 1048576 := Nat.le_trans (zz_len (e := tBuffer) x) h
  refine lift_eq (k := x.length + 1) fun k hk => (laws_toBufferS.raw_eq k _).trans ?_
  unfold laws_toBufferS.raw laws_toBufferS.p
  have hc : 0 ≤ (x.length : Int) ∧ (x.length : Int) ≤ (x.length : Int) ∧ (x.length : Int) ≤ (CAP : Int) := by simp only [CAP]; omega
  simp only [hc, and_self, if_true, Int.toNat_natCast]
  exact copy_loop (B := fun self v => laws_toBufferS.B0 k self (fun z => laws_toBufferS.Q0 k (x, ()) z) (x, ()) v) (xs := x) (by rw [maxLen_val]; omega) (fun i hi acc self ha => by
    show laws_toBufferS.b0 _ _ _ _ = _
    unfold laws_toBufferS.b0
    have hlt : (i : Int) < (x.length : Int) := by omega
    have hlt2 : (i : Int) < (acc.length : Int) := by omega
    simp only [hlt, hlt2, decide_true, cond_true, Int.natCast_nonneg, and_self, if_true, Int.toNat_natCast, List.getElem?_eq_getElem hi, List.getElem?_eq_getElem (show i < acc.length by omega), Option.bind_some, toBuffer_eq x[i] (by have := zz_mem (e := tBuffer) (List.getElem_mem hi); omega)]) (fun acc self => by
    show laws_toBufferS.b0 _ _ _ _ = _
    unfold laws_toBufferS.b0
    simp [laws_toBufferS.Q0, laws_toBufferS.q0]) _ k (by omega)
theorem toMiner_eq (x : Miner) (h : zz tMiner x ≤ 1048576) : laws_toMiner.sem (x, ()) = some (x, ()) := by
  have hz : zz tMiner x = (zz (.slc (.slc u8)) x.1 + (zz (.slc tBuffer) x.2.1 + 0)) := rfl
  refine lift_eq (k := 0) fun k _ => (laws_toMiner.raw_eq k _).trans ?_
  show laws_toMiner.p _ = _
  unfold laws_toMiner.p
  simp only [toByteSS_eq x.1 (by omega), toBufferS_eq x.2.1 (by omega), Option.bind_some]
theorem toConnector_eq (x : Connector) (h : zz tConnector x ≤ 1048576) : laws_toConnector.sem (x, ()) = some (x, ()) := by
  have hz : zz tConnector x = ((zz (.slc (.slc u8)) x.1.1 + (zz (.slc tBuffer) x.1.2.1 + 0)) + (0 + ((zz (.slc (.slc u8)) x.2.2.1.1 + (zz (.slc tBuffer) x.2.2.1.2.1 + 0)) + (0 + 0)))) := rfl
  have hz0 : zz tMiner x.1 = (zz (.slc (.slc u8)) x.1.1 + (zz (.slc tBuffer) x.1.2.1 + 0)) := rfl
  have hz2 : zz tMiner x.2.2.1 = (zz (.slc (.slc u8)) x.2.2.1.1 + (zz (.slc tBuffer) x.2.2.1.2.1 + 0)) := rfl
  refine lift_eq (k := 0) fun k _ => (laws_toConnector.raw_eq k _).trans ?_
  show laws_toConnector.p _ = _
  unfold laws_toConnector.p
  simp only [toMiner_eq x.1 (by omega), toMiner_eq x.2.2.1 (by omega), Option.bind_some]
theorem eqRow_self (x : Row) (h : zz tRow x ≤ 4611686018427387904) : laws_eqRow.sem (x, x, ()) = some (true, ()) := by
  have hz : zz tRow x = (0 + (0 + (0 + (List.length x.2.2.2.1 + 0)))) := rfl
  refine lift_eq (k := 0) fun k _ => (laws_eqRow.raw_eq k _).trans ?_
  show laws_eqRow.p _ = _
  unfold laws_eqRow.p
  simp []
theorem eqChange_self (x : Change) (h : zz tChange x ≤ 4611686018427387904) : laws_eqChange.sem (x, x, ()) = some (true, ()) := by
  have hz : zz tChange x = (0 + ((0 + (0 + (0 + (List.length x.2.1.2.2.2.1 + 0)))) + (0 + ((0 + (0 + (0 + (List.length x.2.2.2.1.2.2.2.1 + 0)))) + 0)))) := rfl
  have hz1 : zz tRow x.2.1 = (0 + (0 + (0 + (List.length x.2.1.2.2.2.1 + 0)))) := rfl
  have hz3 : zz tRow x.2.2.2.1 = (0 + (0 + (0 + (List.length x.2.2.2.1.2.2.2.1 + 0)))) := rfl
  refine lift_eq (k := 0) fun k _ => (laws_eqChange.raw_eq k _).trans ?_
  show laws_eqChange.p _ = _
  unfold laws_eqChange.p
  have q0 := eqRow_self x.2.1 (by omega)
  have q1 := eqRow_self x.2.2.2.1 (by omega)
  simp [q0, q1]
theorem eqChangeS_self (x : List Change) (h : zz (.slc tChange) x ≤ 4611686018427387904) : laws_eqChangeS.sem (x, x, ()) = some (true, ()) := by
  have hl : x.length ≤ 4611686018427387904 := Nat.le_trans (zz_len (e := tChange) x) h
  refine lift_eq (k := x.length + 1) fun k hk => (laws_eqChangeS.raw_eq k _).trans ?_
  unfold laws_eqChangeS.raw laws_eqChangeS.p
  simp only [decide_true, Bool.not_true, cond_false]
  have := all_loop (B := fun self v => laws_eqChangeS.B0 k self (fun z => laws_eqChangeS.Q0 k (x, x, ()) z) (x, x, ()) v) (xs := x) (ys := x) (fun _ _ => true) rfl (by rw [maxLen_val]; omega) (fun i hi hj self => by
      show laws_eqChangeS.b0 _ _ _ _ = _
      unfold laws_eqChangeS.b0
      have hlt : (i : Int) < (x.length : Int) := by omega
      simp only [hlt, decide_true, cond_true, Int.natCast_nonneg, if_true, Int.toNat_natCast, List.getElem?_eq_getElem hi, Option.bind_some, Bool.not_true, cond_false, eqChange_self x[i] (by have := zz_mem (e := tChange) (List.getElem_mem hi); omega)]) (fun self => by
      show laws_eqChangeS.b0 _ _ _ _ = _
      unfold laws_eqChangeS.b0
      simp [laws_eqChangeS.Q0, laws_eqChangeS.q0]) k (by omega)
  rw [show allB (fun _ _ => true) x x = true by simp [allB]] at this
  exact this
theorem eqBuffer_self (x : Buffer) (h : zz tBuffer x ≤ 4611686018427387904) : laws_eqBuffer.sem (x, x, ()) = some (true, ()) := by
  have hz : zz tBuffer x = (0 + (zz (.slc tChange) x.2.1 + 0)) := rfl
  refine lift_eq (k := 0) fun k _ => (laws_eqBuffer.raw_eq k _).trans ?_
  show laws_eqBuffer.p _ = _
  unfold laws_eqBuffer.p
  have q0 := eqChangeS_self x.2.1 (by omega)
  simp [q0]
theorem eqBufferS_self (x : List Buffer) (h : zz (.slc tBuffer) x ≤ 4611686018427387904) : laws_eqBufferS.sem (x, x, ()) = some (true, ()) := by
  have hl : x.length ≤ 4611686018427387904 := Nat.le_trans (zz_len (e := tBuffer) x) h
  refine lift_eq (k := x.length + 1) fun k hk => (laws_eqBufferS.raw_eq k _).trans ?_
  unfold laws_eqBufferS.raw laws_eqBufferS.p
  simp only [decide_true, Bool.not_true, cond_false]
  have := all_loop (B := fun self v => laws_eqBufferS.B0 k self (fun z => laws_eqBufferS.Q0 k (x, x, ()) z) (x, x, ()) v) (xs := x) (ys := x) (fun _ _ => true) rfl (by rw [maxLen_val]; omega) (fun i hi hj self => by
      show laws_eqBufferS.b0 _ _ _ _ = _
      unfold laws_eqBufferS.b0
      have hlt : (i : Int) < (x.length : Int) := by omega
      simp only [hlt, decide_true, cond_true, Int.natCast_nonneg, if_true, Int.toNat_natCast, List.getElem?_eq_getElem hi, Option.bind_some, Bool.not_true, cond_false, eqBuffer_self x[i] (by have := zz_mem (e := tBuffer) (List.getElem_mem hi); omega)]) (fun self => by
      show laws_eqBufferS.b0 _ _ _ _ = _
      unfold laws_eqBufferS.b0
      simp [laws_eqBufferS.Q0, laws_eqBufferS.q0]) k (by omega)
  rw [show allB (fun _ _ => true) x x = true by simp [allB]] at this
  exact this
theorem eqMiner_self (x : Miner) (h : zz tMiner x ≤ 4611686018427387904) : laws_eqMiner.sem (x, x, ()) = some (true, ()) := by
  have hz : zz tMiner x = (zz (.slc (.slc u8)) x.1 + (zz (.slc tBuffer) x.2.1 + 0)) := rfl
  refine lift_eq (k := 0) fun k _ => (laws_eqMiner.raw_eq k _).trans ?_
  show laws_eqMiner.p _ = _
  unfold laws_eqMiner.p
  have q0 := eqByteSS_self x.1 (by omega)
  have q1 := eqBufferS_self x.2.1 (by omega)
  simp [q0, q1]
theorem eqConnector_self (x : Connector) (h : zz tConnector x ≤ 4611686018427387904) : laws_eqConnector.sem (x, x, ()) = some (true, ()) := by
  have hz : zz tConnector x = ((zz (.slc (.slc u8)) x.1.1 + (zz (.slc tBuffer) x.1.2.1 + 0)) + (0 + ((zz (.slc (.slc u8)) x.2.2.1.1 + (zz (.slc tBuffer) x.2.2.1.2.1 + 0)) + (0 + 0)))) := rfl
  have hz0 : zz tMiner x.1 = (zz (.slc (.slc u8)) x.1.1 + (zz (.slc tBuffer) x.1.2.1 + 0)) := rfl
  have hz2 : zz tMiner x.2.2.1 = (zz (.slc (.slc u8)) x.2.2.1.1 + (zz (.slc tBuffer) x.2.2.1.2.1 + 0)) := rfl
  refine lift_eq (k := 0) fun k _ => (laws_eqConnector.raw_eq k _).trans ?_
  show laws_eqConnector.p _ = _
  unfold laws_eqConnector.p
  have q0 := eqMiner_self x.1 (by omega)
  have q1 := eqMiner_self x.2.2.1 (by omega)
  simp [q0, q1]
theorem eqSent_self (x : Sent) (h : zz tSent x ≤ 4611686018427387904) : laws_eqSent.sem (x, x, ()) = some (true, ()) := by
  have hz : zz tSent x = (0 + (0 + (zz (.slc tChange) x.2.2.1 + 0))) := rfl
  refine lift_eq (k := 0) fun k _ => (laws_eqSent.raw_eq k _).trans ?_
  show laws_eqSent.p _ = _
  unfold laws_eqSent.p
  have q0 := eqChangeS_self x.2.2.1 (by omega)
  simp [q0]
theorem eqConnectorResult_self (x : ConnectorResult) (h : zz tConnectorResult x ≤ 4611686018427387904) : laws_eqConnectorResult.sem (x, x, ()) = some (true, ()) := by
  have hz : zz tConnectorResult x = (0 + (0 + ((0 + (0 + (zz (.slc tChange) x.2.2.1.2.2.1 + 0))) + (((zz (.slc (.slc u8)) x.2.2.2.1.1.1 + (zz (.slc tBuffer) x.2.2.2.1.1.2.1 + 0)) + (0 + ((zz (.slc (.slc u8)) x.2.2.2.1.2.2.1.1 + (zz (.slc tBuffer) x.2.2.2.1.2.2.1.2.1 + 0)) + (0 + 0)))) + 0)))) := rfl
  have hz2 : zz tSent x.2.2.1 = (0 + (0 + (zz (.slc tChange) x.2.2.1.2.2.1 + 0))) := rfl
  have hz3 : zz tConnector x.2.2.2.1 = ((zz (.slc (.slc u8)) x.2.2.2.1.1.1 + (zz (.slc tBuffer) x.2.2.2.1.1.2.1 + 0)) + (0 + ((zz (.slc (.slc u8)) x.2.2.2.1.2.2.1.1 + (zz (.slc tBuffer) x.2.2.2.1.2.2.1.2.1 + 0)) + (0 + 0)))) := rfl
  refine lift_eq (k := 0) fun k _ => (laws_eqConnectorResult.raw_eq k _).trans ?_
  show laws_eqConnectorResult.p _ = _
  unfold laws_eqConnectorResult.p
  have q0 := eqSent_self x.2.2.1 (by omega)
  have q1 := eqConnector_self x.2.2.2.1 (by omega)
  simp [q0, q1]
def KChangeS (x : Change) (k : Int) (y : Change) (k' : Int) : Prop := y = ((decide ((k).tmod (3 : Int) = (0 : Int))), ((k + 1), (k + 1 + 1), (k + 1 + 1 + 1), (mtext (k + 1 + 1 + 1 + 1)), x.2.1.2.2.2.2), (decide ((k + 1 + 1 + 1 + 1 + 1).tmod (3 : Int) = (0 : Int))), ((k + 1 + 1 + 1 + 1 + 1 + 1), (k + 1 + 1 + 1 + 1 + 1 + 1 + 1), (k + 1 + 1 + 1 + 1 + 1 + 1 + 1 + 1), (mtext (k + 1 + 1 + 1 + 1 + 1 + 1 + 1 + 1 + 1)), x.2.2.2.1.2.2.2.2), x.2.2.2.2) ∧ k + 1 + 1 + 1 + 1 + 1 + 1 + 1 + 1 + 1 + 1 = k'
theorem mkChangeS (x : List Change) (k : Int) (h0 : 0 ≤ k) (h1 : k + 32 * ((zz (.slc tChange) x : Nat) : Int) ≤ BIG) : ∃ (k' : Int) (y : List Change), laws_markChangeS.sem (x, k, ()) = some (k', y, ()) ∧ k ≤ k' ∧ k' ≤ k + 32 * ((zz (.slc tChange) x : Nat) : Int) := by
  have hB : BIG = 4611686018427387904 := rfl
  have hl : List.length x ≤ zz (.slc tChange) x := zz_len (e := tChange) x
  have hs : sumW (fun x : Change => 32 * (zz tChange x + 1)) x = 32 * zz (.slc tChange) x := sumW_32 (zz tChange) x
  obtain ⟨ys, k', g1, g2, g3, g4, g5⟩ := mark_loop (B := fun self v => laws_markChangeS.B0 0 self (fun z => laws_markChangeS.Q0 0 (x, k, ()) z) (x, k, ()) v) (xs := x) (by rw [maxLen_val]; omega) KChangeS (fun x : Change => 32 * (zz tChange x + 1)) (fun x hx k h0 h1 => by
      have hz : zz tChange x = (0 + ((0 + (0 + (0 + (List.length x.2.1.2.2.2.1 + 0)))) + (0 + ((0 + (0 + (0 + (List.length x.2.2.2.1.2.2.2.1 + 0)))) + 0)))) := rfl
      exact ⟨_, _, by omega, by omega, ⟨rfl, rfl⟩⟩) (fun i acc k self x y k' hi hx h0 h1 h2 h3 hE => by
      have hz : zz tChange x = (0 + ((0 + (0 + (0 + (List.length x.2.1.2.2.2.1 + 0)))) + (0 + ((0 + (0 + (0 + (List.length x.2.2.2.1.2.2.2.1 + 0)))) + 0)))) := rfl
      obtain ⟨rfl, rfl⟩ := hE
      show laws_markChangeS.b0 _ _ _ _ = _
      unfold laws_markChangeS.b0
      have hlt : (i : Int) < (acc.length : Int) := by omega
      simp (disch := omega) only [hlt, decide_true, cond_true, Int.natCast_nonneg, and_self, if_true, Int.toNat_natCast, hx, Option.bind_some, List.length_set, get_self_set, List.set_set, w64_in, markText_eq]) (fun acc k self => by
      show laws_markChangeS.b0 _ _ _ _ = _
      unfold laws_markChangeS.b0
      simp [laws_markChangeS.Q0, laws_markChangeS.q0]) k h0 (by rw [hs]; omega)
  refine ⟨k', ys, lift_eq (k := x.length + 1) fun f hf => (laws_markChangeS.raw_eq f _).trans (g5 f (by omega)), g1, by rw [hs] at g2; omega⟩
def KBufferS (x : Buffer) (k : Int) (y : Buffer) (k' : Int) : Prop := ∃ (r1 : Int) (y1 : List Change), laws_markChangeS.sem (x.2.1, k + 1, ()) = some (r1, y1, ()) ∧ k + 1 ≤ r1 ∧ r1 ≤ k + 1 + 32 * ((zz (.slc tChange) x.2.1 : Nat) : Int) ∧ y = ((k), y1, x.2.2) ∧ r1 = k'
theorem mkBufferS (x : List Buffer) (k : Int) (h0 : 0 ≤ k) (h1 : k + 32 * ((zz (.slc tBuffer) x : Nat) : Int) ≤ BIG) : ∃ (k' : Int) (y : List Buffer), laws_markBufferS.sem (x, k, ()) = some (k', y, ()) ∧ k ≤ k' ∧ k' ≤ k + 32 * ((zz (.slc tBuffer) x : Nat) : Int) := by
  have hB : BIG = 4611686018427387904 := rfl
  have hl : List.length x ≤ zz (.slc tBuffer) x := zz_len (e := tBuffer) x
  have hs : sumW (fun x : Buffer => 32 * (zz tBuffer x + 1)) x = 32 * zz (.slc tBuffer) x := sumW_32 (zz tBuffer) x
  obtain ⟨ys, k', g1, g2, g3, g4, g5⟩ := mark_loop (B := fun self v => laws_markBufferS.B0 0 self (fun z => laws_markBufferS.Q0 0 (x, k, ()) z) (x, k, ()) v) (xs := x) (by rw [maxLen_val]; omega) KBufferS (fun x : Buffer => 32 * (zz tBuffer x + 1)) (fun x hx k h0 h1 => by
      have hz : zz tBuffer x = (0 + (zz (.slc tChange) x.2.1 + 0)) := rfl
      obtain ⟨r1, y1, e1, g1, i1⟩ := mkChangeS x.2.1 (k + 1) (by omega) (by omega)
      exact ⟨_, _, by omega, by omega, ⟨r1, y1, e1, g1, i1, rfl, rfl⟩⟩) (fun i acc k self x y k' hi hx h0 h1 h2 h3 hE => by
      have hz : zz tBuffer x = (0 + (zz (.slc tChange) x.2.1 + 0)) := rfl
      obtain ⟨r1, y1, e1, g1, i1, rfl, rfl⟩ := hE
      show laws_markBufferS.b0 _ _ _ _ = _
      unfold laws_markBufferS.b0
      have hlt : (i : Int) < (acc.length : Int) := by omega
      simp (disch := omega) only [hlt, decide_true, cond_true, Int.natCast_nonneg, and_self, if_true, Int.toNat_natCast, hx, Option.bind_some, List.length_set, get_self_set, List.set_set, w64_in, markText_eq, e1]) (fun acc k self => by
      show laws_markBufferS.b0 _ _ _ _ = _
      unfold laws_markBufferS.b0
      simp [laws_markBufferS.Q0, laws_markBufferS.q0]) k h0 (by rw [hs]; omega)
  refine ⟨k', ys, lift_eq (k := x.length + 1) fun f hf => (laws_markBufferS.raw_eq f _).trans (g5 f (by omega)), g1, by rw [hs] at g2; omega⟩
theorem mkMiner (x : Miner) (k : Int) (h0 : 0 ≤ k) (h1 : k + 32 * ((zz tMiner x : Nat) : Int) ≤ BIG) : ∃ (k' : Int) (y : Miner), laws_markMiner.sem (x, k, ()) = some (k', y, ()) ∧ k ≤ k' ∧ k' ≤ k + 32 * ((zz tMiner x : Nat) : Int) := by
  have hB : BIG = 4611686018427387904 := rfl
  have hz : zz tMiner x = (zz (.slc (.slc u8)) x.1 + (zz (.slc tBuffer) x.2.1 + 0)) := rfl
  obtain ⟨k1, y1, e1, g1, i1⟩ := mkByteSS x.1 k (by omega) (by omega)
  have n1 : ¬ k1 < 0 := by omega
  obtain ⟨k2, y2, e2, g2, i2⟩ := mkBufferS x.2.1 k1 (by omega) (by omega)
  have n2 : ¬ k2 < 0 := by omega
  refine ⟨k2, (y1, y2, x.2.2), lift_eq (k := 0) fun f _ => (laws_markMiner.raw_eq f _).trans ?_, by omega, by omega⟩
  · show laws_markMiner.p _ = _
    unfold laws_markMiner.p
    simp only [e1, e2, Option.bind_some]
theorem mkConnector (x : Connector) (k : Int) (h0 : 0 ≤ k) (h1 : k + 32 * ((zz tConnector x : Nat) : Int) ≤ BIG) : ∃ (k' : Int) (y : Connector), laws_markConnector.sem (x, k, ()) = some (k', y, ()) ∧ k ≤ k' ∧ k' ≤ k + 32 * ((zz tConnector x : Nat) : Int) := by
  have hB : BIG = 4611686018427387904 := rfl
  have hz : zz tConnector x = ((zz (.slc (.slc u8)) x.1.1 + (zz (.slc tBuffer) x.1.2.1 + 0)) + (0 + ((zz (.slc (.slc u8)) x.2.2.1.1 + (zz (.slc tBuffer) x.2.2.1.2.1 + 0)) + (0 + 0)))) := rfl
  have hz1 : zz tMiner x.1 = (zz (.slc (.slc u8)) x.1.1 + (zz (.slc tBuffer) x.1.2.1 + 0)) := rfl
  obtain ⟨k1, y1, e1, g1, i1⟩ := mkMiner x.1 k (by omega) (by omega)
  have n1 : ¬ k1 < 0 := by omega
  have hz2 : zz tMiner x.2.2.1 = (zz (.slc (.slc u8)) x.2.2.1.1 + (zz (.slc tBuffer) x.2.2.1.2.1 + 0)) := rfl
  obtain ⟨k2, y2, e2, g2, i2⟩ := mkMiner x.2.2.1 k1 (by omega) (by omega)
  have n2 : ¬ k2 < 0 := by omega
  refine ⟨k2, (y1, x.2.1, y2, x.2.2.2.1, x.2.2.2.2), lift_eq (k := 0) fun f _ => (laws_markConnector.raw_eq f _).trans ?_, by omega, by omega⟩
  · show laws_markConnector.p _ = _
    unfold laws_markConnector.p
    simp only [e1, e2, Option.bind_some]
def EChangeS (x : Change) (k : Int) (y : Change) (k' : Int) : Prop := y = ((decide ((k).tmod (3 : Int) = (0 : Int))), ((k + 1), (k + 1 + 1), (k + 1 + 1 + 1), (mtext (k + 1 + 1 + 1 + 1)), x.2.1.2.2.2.2), (decide ((k + 1 + 1 + 1 + 1 + 1).tmod (3 : Int) = (0 : Int))), ((k + 1 + 1 + 1 + 1 + 1 + 1), (k + 1 + 1 + 1 + 1 + 1 + 1 + 1), (k + 1 + 1 + 1 + 1 + 1 + 1 + 1 + 1), (mtext (k + 1 + 1 + 1 + 1 + 1 + 1 + 1 + 1 + 1)), x.2.2.2.1.2.2.2.2), x.2.2.2.2) ∧ k + 1 + 1 + 1 + 1 + 1 + 1 + 1 + 1 + 1 + 1 = k'
theorem mhChangeS (x : List Change) (k : Int) (h0 : 0 ≤ k) (h1 : k + 32 * ((zz (.slc tChange) x : Nat) : Int) ≤ BIG) : ∃ (k' : Int) (y : List Change), laws_markChangeS.sem (x, k, ()) = some (k', y, ()) ∧ laws_heldChangeS.sem (y, k, ()) = some (k', ()) ∧ k ≤ k' ∧ k' ≤ k + 32 * ((zz (.slc tChange) x : Nat) : Int) := by
  have hB : BIG = 4611686018427387904 := rfl
  have hl : List.length x ≤ zz (.slc tChange) x := zz_len (e := tChange) x
  have hs : sumW (fun x : Change => 32 * (zz tChange x + 1)) x = 32 * zz (.slc tChange) x := sumW_32 (zz tChange) x
  obtain ⟨ys, k', g1, g2, g3, g4, g5⟩ := mark_loop (B := fun self v => laws_markChangeS.B0 0 self (fun z => laws_markChangeS.Q0 0 (x, k, ()) z) (x, k, ()) v) (xs := x) (by rw [maxLen_val]; omega) EChangeS (fun x : Change => 32 * (zz tChange x + 1)) (fun x hx k h0 h1 => by
      have hz : zz tChange x = (0 + ((0 + (0 + (0 + (List.length x.2.1.2.2.2.1 + 0)))) + (0 + ((0 + (0 + (0 + (List.length x.2.2.2.1.2.2.2.1 + 0)))) + 0)))) := rfl
      exact ⟨_, _, by omega, by omega, ⟨rfl, rfl⟩⟩) (fun i acc k self x y k' hi hx h0 h1 h2 h3 hE => by
      have hz : zz tChange x = (0 + ((0 + (0 + (0 + (List.length x.2.1.2.2.2.1 + 0)))) + (0 + ((0 + (0 + (0 + (List.length x.2.2.2.1.2.2.2.1 + 0)))) + 0)))) := rfl
      obtain ⟨rfl, rfl⟩ := hE
      show laws_markChangeS.b0 _ _ _ _ = _
      unfold laws_markChangeS.b0
      have hlt : (i : Int) < (acc.length : Int) := by omega
      simp (disch := omega) only [hlt, decide_true, cond_true, Int.natCast_nonneg, and_self, if_true, Int.toNat_natCast, hx, Option.bind_some, List.length_set, get_self_set, List.set_set, w64_in, markText_eq]) (fun acc k self => by
      show laws_markChangeS.b0 _ _ _ _ = _
      unfold laws_markChangeS.b0
      simp [laws_markChangeS.Q0, laws_markChangeS.q0]) k h0 (by rw [hs]; omega)
  refine ⟨k', ys, lift_eq (k := x.length + 1) fun f hf => (laws_markChangeS.raw_eq f _).trans (g5 f (by omega)), ?_, g1, by rw [hs] at g2; omega⟩
  refine lift_eq (k := ys.length + 1) fun f hf => (laws_heldChangeS.raw_eq f _).trans ?_
  exact held_loop (B := fun self v => laws_heldChangeS.B0 0 self (fun z => laws_heldChangeS.Q0 0 (ys, k, ()) z) (ys, k, ()) v) (by rw [maxLen_val]; omega) g4 (fun i k self x y k' hi hx h0 h1 h2 h3 hE => by
      have hz : zz tChange x = (0 + ((0 + (0 + (0 + (List.length x.2.1.2.2.2.1 + 0)))) + (0 + ((0 + (0 + (0 + (List.length x.2.2.2.1.2.2.2.1 + 0)))) + 0)))) := rfl
      obtain ⟨rfl, rfl⟩ := hE
      show laws_heldChangeS.b0 _ _ _ _ = _
      unfold laws_heldChangeS.b0
      have hlt : (i : Int) < (ys.length : Int) := by omega
      simp (disch := omega) only [hlt, decide_true, cond_true, Int.natCast_nonneg, and_self, if_true, Int.toNat_natCast, hx, Option.bind_some, w64_in, markText_eq, beq_self_eq_true, Bool.not_true, cond_false, decide_false]) (fun k self => by
      show laws_heldChangeS.b0 _ _ _ _ = _
      unfold laws_heldChangeS.b0
      simp [laws_heldChangeS.Q0, laws_heldChangeS.q0]) f (by omega)
theorem mhSent (x : Sent) (k : Int) (h0 : 0 ≤ k) (h1 : k + 32 * ((zz tSent x : Nat) : Int) ≤ BIG) : ∃ (k' : Int) (y : Sent), laws_markSent.sem (x, k, ()) = some (k', y, ()) ∧ laws_heldSent.sem (y, k, ()) = some (k', ()) ∧ k ≤ k' ∧ k' ≤ k + 32 * ((zz tSent x : Nat) : Int) := by
  have hB : BIG = 4611686018427387904 := rfl
  have hz : zz tSent x = (0 + (0 + (zz (.slc tChange) x.2.2.1 + 0))) := rfl
  obtain ⟨k1, y1, e1, f1, g1, i1⟩ := mhChangeS x.2.2.1 k (by omega) (by omega)
  have n1 : ¬ k1 < 0 := by omega
  refine ⟨k1, (x.1, x.2.1, y1, x.2.2.2), lift_eq (k := 0) fun f _ => (laws_markSent.raw_eq f _).trans ?_, lift_eq (k := 0) fun f _ => (laws_heldSent.raw_eq f _).trans ?_, by omega, by omega⟩
  · show laws_markSent.p _ = _
    unfold laws_markSent.p
    simp only [e1, Option.bind_some]
  · show laws_heldSent.p _ = _
    unfold laws_heldSent.p
    simp only [f1, n1, Option.bind_some, decide_false, cond_false]
def EBufferS (x : Buffer) (k : Int) (y : Buffer) (k' : Int) : Prop := ∃ (r1 : Int) (y1 : List Change), laws_markChangeS.sem (x.2.1, k + 1, ()) = some (r1, y1, ()) ∧ laws_heldChangeS.sem (y1, k + 1, ()) = some (r1, ()) ∧ k + 1 ≤ r1 ∧ r1 ≤ k + 1 + 32 * ((zz (.slc tChange) x.2.1 : Nat) : Int) ∧ y = ((k), y1, x.2.2) ∧ r1 = k'
theorem mhBufferS (x : List Buffer) (k : Int) (h0 : 0 ≤ k) (h1 : k + 32 * ((zz (.slc tBuffer) x : Nat) : Int) ≤ BIG) : ∃ (k' : Int) (y : List Buffer), laws_markBufferS.sem (x, k, ()) = some (k', y, ()) ∧ laws_heldBufferS.sem (y, k, ()) = some (k', ()) ∧ k ≤ k' ∧ k' ≤ k + 32 * ((zz (.slc tBuffer) x : Nat) : Int) := by
  have hB : BIG = 4611686018427387904 := rfl
  have hl : List.length x ≤ zz (.slc tBuffer) x := zz_len (e := tBuffer) x
  have hs : sumW (fun x : Buffer => 32 * (zz tBuffer x + 1)) x = 32 * zz (.slc tBuffer) x := sumW_32 (zz tBuffer) x
  obtain ⟨ys, k', g1, g2, g3, g4, g5⟩ := mark_loop (B := fun self v => laws_markBufferS.B0 0 self (fun z => laws_markBufferS.Q0 0 (x, k, ()) z) (x, k, ()) v) (xs := x) (by rw [maxLen_val]; omega) EBufferS (fun x : Buffer => 32 * (zz tBuffer x + 1)) (fun x hx k h0 h1 => by
      have hz : zz tBuffer x = (0 + (zz (.slc tChange) x.2.1 + 0)) := rfl
      obtain ⟨r1, y1, e1, f1, g1, i1⟩ := mhChangeS x.2.1 (k + 1) (by omega) (by omega)
      exact ⟨_, _, by omega, by omega, ⟨r1, y1, e1, f1, g1, i1, rfl, rfl⟩⟩) (fun i acc k self x y k' hi hx h0 h1 h2 h3 hE => by
      have hz : zz tBuffer x = (0 + (zz (.slc tChange) x.2.1 + 0)) := rfl
      obtain ⟨r1, y1, e1, f1, g1, i1, rfl, rfl⟩ := hE
      show laws_markBufferS.b0 _ _ _ _ = _
      unfold laws_markBufferS.b0
      have hlt : (i : Int) < (acc.length : Int) := by omega
      simp (disch := omega) only [hlt, decide_true, cond_true, Int.natCast_nonneg, and_self, if_true, Int.toNat_natCast, hx, Option.bind_some, List.length_set, get_self_set, List.set_set, w64_in, markText_eq, e1]) (fun acc k self => by
      show laws_markBufferS.b0 _ _ _ _ = _
      unfold laws_markBufferS.b0
      simp [laws_markBufferS.Q0, laws_markBufferS.q0]) k h0 (by rw [hs]; omega)
  refine ⟨k', ys, lift_eq (k := x.length + 1) fun f hf => (laws_markBufferS.raw_eq f _).trans (g5 f (by omega)), ?_, g1, by rw [hs] at g2; omega⟩
  refine lift_eq (k := ys.length + 1) fun f hf => (laws_heldBufferS.raw_eq f _).trans ?_
  exact held_loop (B := fun self v => laws_heldBufferS.B0 0 self (fun z => laws_heldBufferS.Q0 0 (ys, k, ()) z) (ys, k, ()) v) (by rw [maxLen_val]; omega) g4 (fun i k self x y k' hi hx h0 h1 h2 h3 hE => by
      have hz : zz tBuffer x = (0 + (zz (.slc tChange) x.2.1 + 0)) := rfl
      obtain ⟨r1, y1, e1, f1, g1, i1, rfl, rfl⟩ := hE
      show laws_heldBufferS.b0 _ _ _ _ = _
      unfold laws_heldBufferS.b0
      have hlt : (i : Int) < (ys.length : Int) := by omega
      have n1 : ¬ r1 < 0 := by omega
      simp (disch := omega) only [hlt, decide_true, cond_true, Int.natCast_nonneg, and_self, if_true, Int.toNat_natCast, hx, Option.bind_some, w64_in, markText_eq, beq_self_eq_true, Bool.not_true, cond_false, decide_false, f1, n1]) (fun k self => by
      show laws_heldBufferS.b0 _ _ _ _ = _
      unfold laws_heldBufferS.b0
      simp [laws_heldBufferS.Q0, laws_heldBufferS.q0]) f (by omega)
theorem mhMiner (x : Miner) (k : Int) (h0 : 0 ≤ k) (h1 : k + 32 * ((zz tMiner x : Nat) : Int) ≤ BIG) : ∃ (k' : Int) (y : Miner), laws_markMiner.sem (x, k, ()) = some (k', y, ()) ∧ laws_heldMiner.sem (y, k, ()) = some (k', ()) ∧ k ≤ k' ∧ k' ≤ k + 32 * ((zz tMiner x : Nat) : Int) := by
  have hB : BIG = 4611686018427387904 := rfl
  have hz : zz tMiner x = (zz (.slc (.slc u8)) x.1 + (zz (.slc tBuffer) x.2.1 + 0)) := rfl
  obtain ⟨k1, y1, e1, f1, g1, i1⟩ := mhByteSS x.1 k (by omega) (by omega)
  have n1 : ¬ k1 < 0 := by omega
  obtain ⟨k2, y2, e2, f2, g2, i2⟩ := mhBufferS x.2.1 k1 (by omega) (by omega)
  have n2 : ¬ k2 < 0 := by omega
  refine ⟨k2, (y1, y2, x.2.2), lift_eq (k := 0) fun f _ => (laws_markMiner.raw_eq f _).trans ?_, lift_eq (k := 0) fun f _ => (laws_heldMiner.raw_eq f _).trans ?_, by omega, by omega⟩
  · show laws_markMiner.p _ = _
    unfold laws_markMiner.p
    simp only [e1, e2, Option.bind_some]
  · show laws_heldMiner.p _ = _
    unfold laws_heldMiner.p
    simp only [f1, f2, n1, n2, Option.bind_some, decide_false, cond_false]
theorem mhConnector (x : Connector) (k : Int) (h0 : 0 ≤ k) (h1 : k + 32 * ((zz tConnector x : Nat) : Int) ≤ BIG) : ∃ (k' : Int) (y : Connector), laws_markConnector.sem (x, k, ()) = some (k', y, ()) ∧ laws_heldConnector.sem (y, k, ()) = some (k', ()) ∧ k ≤ k' ∧ k' ≤ k + 32 * ((zz tConnector x : Nat) : Int) := by
  have hB : BIG = 4611686018427387904 := rfl
  have hz : zz tConnector x = ((zz (.slc (.slc u8)) x.1.1 + (zz (.slc tBuffer) x.1.2.1 + 0)) + (0 + ((zz (.slc (.slc u8)) x.2.2.1.1 + (zz (.slc tBuffer) x.2.2.1.2.1 + 0)) + (0 + 0)))) := rfl
  have hz1 : zz tMiner x.1 = (zz (.slc (.slc u8)) x.1.1 + (zz (.slc tBuffer) x.1.2.1 + 0)) := rfl
  obtain ⟨k1, y1, e1, f1, g1, i1⟩ := mhMiner x.1 k (by omega) (by omega)
  have n1 : ¬ k1 < 0 := by omega
  have hz2 : zz tMiner x.2.2.1 = (zz (.slc (.slc u8)) x.2.2.1.1 + (zz (.slc tBuffer) x.2.2.1.2.1 + 0)) := rfl
  obtain ⟨k2, y2, e2, f2, g2, i2⟩ := mhMiner x.2.2.1 k1 (by omega) (by omega)
  have n2 : ¬ k2 < 0 := by omega
  refine ⟨k2, (y1, x.2.1, y2, x.2.2.2.1, x.2.2.2.2), lift_eq (k := 0) fun f _ => (laws_markConnector.raw_eq f _).trans ?_, lift_eq (k := 0) fun f _ => (laws_heldConnector.raw_eq f _).trans ?_, by omega, by omega⟩
  · show laws_markConnector.p _ = _
    unfold laws_markConnector.p
    simp only [e1, e2, Option.bind_some]
  · show laws_heldConnector.p _ = _
    unfold laws_heldConnector.p
    simp only [f1, f2, n1, n2, Option.bind_some, decide_false, cond_false]
theorem mhConnectorResult (x : ConnectorResult) (k : Int) (h0 : 0 ≤ k) (h1 : k + 32 * ((zz tConnectorResult x : Nat) : Int) ≤ BIG) : ∃ (k' : Int) (y : ConnectorResult), laws_markConnectorResult.sem (x, k, ()) = some (k', y, ()) ∧ laws_heldConnectorResult.sem (y, k, ()) = some (k', ()) ∧ k ≤ k' ∧ k' ≤ k + 32 * ((zz tConnectorResult x : Nat) : Int) := by
  have hB : BIG = 4611686018427387904 := rfl
  have hz : zz tConnectorResult x = (0 + (0 + ((0 + (0 + (zz (.slc tChange) x.2.2.1.2.2.1 + 0))) + (((zz (.slc (.slc u8)) x.2.2.2.1.1.1 + (zz (.slc tBuffer) x.2.2.2.1.1.2.1 + 0)) + (0 + ((zz (.slc (.slc u8)) x.2.2.2.1.2.2.1.1 + (zz (.slc tBuffer) x.2.2.2.1.2.2.1.2.1 + 0)) + (0 + 0)))) + 0)))) := rfl
  have hz1 : zz tSent x.2.2.1 = (0 + (0 + (zz (.slc tChange) x.2.2.1.2.2.1 + 0))) := rfl
  obtain ⟨k1, y1, e1, f1, g1, i1⟩ := mhSent x.2.2.1 k (by omega) (by omega)
  have n1 : ¬ k1 < 0 := by omega
  have hz2 : zz tConnector x.2.2.2.1 = ((zz (.slc (.slc u8)) x.2.2.2.1.1.1 + (zz (.slc tBuffer) x.2.2.2.1.1.2.1 + 0)) + (0 + ((zz (.slc (.slc u8)) x.2.2.2.1.2.2.1.1 + (zz (.slc tBuffer) x.2.2.2.1.2.2.1.2.1 + 0)) + (0 + 0)))) := rfl
  obtain ⟨k2, y2, e2, f2, g2, i2⟩ := mhConnector x.2.2.2.1 k1 (by omega) (by omega)
  have n2 : ¬ k2 < 0 := by omega
  refine ⟨k2, (x.1, x.2.1, y1, y2, x.2.2.2.2), lift_eq (k := 0) fun f _ => (laws_markConnectorResult.raw_eq f _).trans ?_, lift_eq (k := 0) fun f _ => (laws_heldConnectorResult.raw_eq f _).trans ?_, by omega, by omega⟩
  · show laws_markConnectorResult.p _ = _
    unfold laws_markConnectorResult.p
    simp only [e1, e2, Option.bind_some]
  · show laws_heldConnectorResult.p _ = _
    unfold laws_heldConnectorResult.p
    simp only [f1, f2, n1, n2, Option.bind_some, decide_false, cond_false]
end OT

set_option linter.unusedVariables false
set_option linter.unusedSimpArgs false
namespace OT
open Go

theorem specIn_eq (a b c : Int) : spec_l1In.sem (a, b, c, ()) = some (decide (b ≤ a) && decide (a ≤ c), ()) := by
  refine lift_eq (k := 0) fun k _ => (spec_l1In.raw_eq k _).trans ?_
  show spec_l1In.p _ = _
  unfold spec_l1In.p
  by_cases h : b ≤ a <;> simp [h]
theorem implIn_eq (a b c : Int) : impl_in.sem (a, b, c, ()) = some (decide (b ≤ a) && decide (a ≤ c), ()) := by
  refine lift_eq (k := 0) fun k _ => (impl_in.raw_eq k _).trans ?_
  show impl_in.p _ = _
  unfold impl_in.p
  by_cases h : b ≤ a <;> simp [h]
theorem isTx_eq (a : Int) : impl_isTx.sem (a, ()) = some (decide (1 ≤ a) && decide (a ≤ 99), ()) := by
  refine lift_eq (k := 0) fun k _ => (impl_isTx.raw_eq k _).trans ?_
  show impl_isTx.p _ = _
  unfold impl_isTx.p
  simp [implIn_eq]
def inB (a b c : Int) : Bool := decide (b ≤ a) && decide (a ≤ c)
theorem implCopied_eq (s : List UInt8) (h : s.length ≤ 200000000000) : impl_copied.sem (s, ()) = some (s, ()) := by
  refine lift_eq (k := 0) fun k _ => (impl_copied.raw_eq k _).trans ?_
  show impl_copied.p _ = _
  unfold impl_copied.p
  have : ([] : List UInt8).length + s.length ≤ CAP := cap_ok (by simpa using h)
  rw [if_pos this, List.nil_append]
theorem specCopy_eq (s : List UInt8) (h : s.length ≤ 200000000000) : spec_l2Copy.sem (s, ()) = some (s, ()) := by
  refine lift_eq (k := 0) fun k _ => (spec_l2Copy.raw_eq k _).trans ?_
  show spec_l2Copy.p _ = _
  unfold spec_l2Copy.p
  have : ([] : List UInt8).length + s.length ≤ CAP := cap_ok (by simpa using h)
  rw [if_pos this, List.nil_append]
theorem forI_fold {S O α : Type} {g : S → α → S} {fin : S → O} : ∀ (xs : List α) (i : Nat) (s : S), forI (fun _ s x => .inr (g s x)) fin i xs s = fin (xs.foldl g s)
  | [], _, _ => rfl
  | x :: xs, i, s => by simp only [forI, List.foldl_cons]; exact forI_fold xs _ _
theorem fold_self {α : Type} : ∀ (xs s : List α), xs.foldl (fun s x => s ++ [x]) s = s ++ xs
  | [], s => by simp
  | x :: xs, s => by rw [List.foldl_cons, fold_self]; simp
abbrev Pages : Type := List (List UInt8)
def gp (ps : Pages) : Prop := ps.length ≤ 12 ∧ ∀ p ∈ ps, p.length = 64
theorem implCopies_eq (ps : Pages) (h : gp ps) : impl_copies.sem (ps, ()) = some (ps, ()) := by
  obtain ⟨h1, h2⟩ := h
  refine lift_eq (k := 14) fun k hk => (impl_copies.raw_eq k _).trans ?_
  have := for_loop (B := fun self v => impl_copies.B0 0 self (fun z => impl_copies.Q0 0 (ps, ()) z) (ps, ()) v) ps (fun (s : Pages) (i : Int) => (s, i)) (fun _ s x => .inr (s ++ [x])) (fun s => (s, ())) (fun i s => s.length = i) (by rw [maxLen_val]; omega)
    (fun i hi s self hI => by
      show impl_copies.b0 _ _ _ _ = _
      unfold impl_copies.b0
      have hlt : (i : Int) < (ps.length : Int) := by omega
      have hx := h2 ps[i] (List.getElem_mem hi)
      simp only [hlt, decide_true, cond_true, Int.natCast_nonneg, if_true, Int.toNat_natCast, List.getElem?_eq_getElem hi, Option.bind_some]
      rw [implCopied_eq _ (by omega)]
      have hc : s.length + [ps[i]].length ≤ CAP := cap_ok (by simp only [List.length_cons, List.length_nil]; omega)
      simp only [Option.bind_some, hc, if_true])
    (fun i hi s s' hI hs => by injection hs with hs; rw [← hs]; simp [hI]) (fun s self hI => by
      show impl_copies.b0 _ _ _ _ = _
      unfold impl_copies.b0
      simp only [Int.lt_irrefl, decide_false, cond_false]
      rfl) [] rfl k (by omega)
  rw [forI_fold, fold_self] at this
  exact this
theorem specCopies_eq (ps : Pages) (h : gp ps) : spec_l7Copy.sem (ps, ()) = some (ps, ()) := by
  obtain ⟨h1, h2⟩ := h
  refine lift_eq (k := 14) fun k hk => (spec_l7Copy.raw_eq k _).trans ?_
  have := for_loop (B := fun self v => spec_l7Copy.B0 0 self (fun z => spec_l7Copy.Q0 0 (ps, ()) z) (ps, ()) v) ps (fun (s : Pages) (i : Int) => (s, i)) (fun _ s x => .inr (s ++ [x])) (fun s => (s, ())) (fun i s => s.length = i) (by rw [maxLen_val]; omega)
    (fun i hi s self hI => by
      show spec_l7Copy.b0 _ _ _ _ = _
      unfold spec_l7Copy.b0
      have hlt : (i : Int) < (ps.length : Int) := by omega
      have hx := h2 ps[i] (List.getElem_mem hi)
      simp only [hlt, decide_true, cond_true, Int.natCast_nonneg, if_true, Int.toNat_natCast, List.getElem?_eq_getElem hi, Option.bind_some]
      rw [specCopy_eq _ (by omega)]
      have hc : s.length + [ps[i]].length ≤ CAP := cap_ok (by simp only [List.length_cons, List.length_nil]; omega)
      simp only [Option.bind_some, hc, if_true])
    (fun i hi s s' hI hs => by injection hs with hs; rw [← hs]; simp [hI]) (fun s self hI => by
      show spec_l7Copy.b0 _ _ _ _ = _
      unfold spec_l7Copy.b0
      simp only [Int.lt_irrefl, decide_false, cond_false]
      rfl) [] rfl k (by omega)
  rw [forI_fold, fold_self] at this
  exact this
end OT
