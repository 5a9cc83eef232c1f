/- The proof's parts, merged: Printed by gen.py, a program of this claim  what each Go function computes.. No conditions but those that each states. -/
import Derived.Test.YtcpoeochapnmlaaTd
set_option maxRecDepth 100000
set_option linter.unusedVariables false
namespace OT
open Go Go.Proofs.Try
namespace impl_look
/-! loop example g00408 impl look -/
abbrev Arg : Type := (List (List UInt8)) × Unit
abbrev Out : Type := (List Seen) × Int × Unit
noncomputable def ps : PQ := [(.ro, (.slc (.slc u8)))]
noncomputable def rs : RQ := [((.slc tSeen), (ownMd (.slc tSeen))), (i64, (roMd i64))]
noncomputable def tl : TL := [(2, i64), (3, i64), (22, (.slc (.slc u8))), (50, (.slc u8)), (75, tRow), (181, (.slc tSeen)), (238, tCellResult), (287, (.map (.arr 2 i64) tRow)), (289, tSeen), (290, (.arr 2 i64)), (292, (.map (.arr 2 i64) .bool))]
noncomputable def gl : GL := [(154, impl_IsBefore.sig), (180, impl_slots.sig), (181, impl_hasSlot.sig), (182, impl_UnpackCell.sig), (183, impl_cellAt.sig), (225, slices_SortFunc_seen.sig)]
noncomputable def E : Env := { TI := lookN tl, G := lookN gl, lv := [(4, [4, 5, 6, 21, 22, 23]), (7, [4, 5, 6, 7, 8, 21, 22, 23, 29, 30]), (21, [4, 5, 6, 81, 82, 83]), (29, [4, 5, 6, 15, 101, 102, 103]), (40, [4, 19])], lx := [(0, [4, 5, 6]), (2, [4, 5, 6, 21, 22, 23]), (3, [4, 5, 6, 7, 8, 21, 22, 23, 29, 30]), (5, [4, 5, 6]), (7, [4]), (9, [4])], od := [(42, [0, 1, 2, 3, 4, 5, 6, 7, 8, 9, 10, 11, 12])] }
noncomputable def W (k : Nat) (a : Arg) : Option Out := bodyK E k f184 ps rs [] [] a
noncomputable def sem (a : Arg) : Option Out := lift fun k => W k a
noncomputable def sig : Sig := { ps := ps, rs := rs, F := sem }
noncomputable def C : Code := bodyOf f184
noncomputable def fin : St → Option Out := outK ps rs [] (Func.results f184).toList (mvs [])
noncomputable def K0 : Ex → St → Option Out := endK fin
noncomputable def T0 (a1 : Arg) (v402 : (List Seen) × (List Seen) × (List ((List Int) × Row)) × (List (List UInt8)) × Int × Int) : St := { n := 148, sl := [(4, .own (.slc tSeen) (ownMd (.slc tSeen)) [] v402.1), (5, .own (.slc tSeen) (ownMd (.slc tSeen)) [] v402.2.1), (6, .own (.map (.arr 2 i64) tRow) (ownMd (.map (.arr 2 i64) tRow)) [] v402.2.2.1), (21, .val (.slc (.slc u8)) v402.2.2.2.1), (22, .val i64 v402.2.2.2.2.1), (23, .val i64 v402.2.2.2.2.2)], vr := [], lent := [] }
noncomputable def N0 (k : Nat) : St → (Ex → St → Option Out) → Option Out := codeK E k fin (sub [1, 1, 1, 0, 1, 0, 0] C)
noncomputable def M0 : St → St := keepF [4, 5, 6, 21, 22, 23] []
noncomputable def S0 (rec : RT Out) (a1 : Arg) : ((List Seen) × (List Seen) × (List ((List Int) × Row)) × (List (List UInt8)) × Int × Int) → Option Out := fun v402 => rec (T0 a1 v402)
noncomputable def X0_0 (K : KT Out) (a1 : Arg) : ((List Seen) × (List Seen) × (List ((List Int) × Row))) → Option Out := fun z => K (.exit 0) ({ n := 148, sl := [(4, .own (.slc tSeen) (ownMd (.slc tSeen)) [] z.1), (5, .own (.slc tSeen) (ownMd (.slc tSeen)) [] z.2.1), (6, .own (.map (.arr 2 i64) tRow) (ownMd (.map (.arr 2 i64) tRow)) [] z.2.2)], vr := [], lent := [] })
noncomputable def T1 (a1 : Arg) (c1006 : Int) (c1007 : List UInt8) (c1008 : List (List UInt8)) (c1009 : Int) (c1010 : Int) (v1005 : (List Seen) × (List Seen) × (List ((List Int) × Row)) × Int) : St := { n := 148, sl := [(4, .own (.slc tSeen) (ownMd (.slc tSeen)) [] v1005.1), (5, .own (.slc tSeen) (ownMd (.slc tSeen)) [] v1005.2.1), (6, .own (.map (.arr 2 i64) tRow) (ownMd (.map (.arr 2 i64) tRow)) [] v1005.2.2.1), (7, .val i64 c1006), (8, .val (.slc u8) c1007), (21, .val (.slc (.slc u8)) c1008), (22, .val i64 c1009), (23, .val i64 c1006), (29, .val i64 c1010), (30, .val i64 v1005.2.2.2)], vr := [], lent := [] }
noncomputable def N1 (k : Nat) : St → (Ex → St → Option Out) → Option Out := codeK E k fin (sub [1, 1, 1, 0, 1, 0, 0, 1, 1, 0, 0, 1, 1, 0, 0] C)
noncomputable def M1 : St → St := keepF [4, 5, 6, 7, 8, 21, 22, 23, 29, 30] []
noncomputable def S1 (rec : RT Out) (a1 : Arg) (c1006 : Int) (c1007 : List UInt8) (c1008 : List (List UInt8)) (c1009 : Int) (c1010 : Int) : ((List Seen) × (List Seen) × (List ((List Int) × Row)) × Int) → Option Out := fun v1005 => rec (T1 a1 c1006 c1007 c1008 c1009 c1010 v1005)
noncomputable def X1_2 (K : KT Out) (a1 : Arg) (c1006 : Int) (c1007 : List UInt8) (c1008 : List (List UInt8)) (c1009 : Int) (c1010 : Int) : ((List Seen) × (List Seen) × (List ((List Int) × Row))) → Option Out := fun z => K (.exit 2) ({ n := 148, sl := [(4, .own (.slc tSeen) (ownMd (.slc tSeen)) [] z.1), (5, .own (.slc tSeen) (ownMd (.slc tSeen)) [] z.2.1), (6, .own (.map (.arr 2 i64) tRow) (ownMd (.map (.arr 2 i64) tRow)) [] z.2.2), (21, .val (.slc (.slc u8)) c1008), (22, .val i64 c1009), (23, .val i64 c1006)], vr := [], lent := [] })
noncomputable def b1 (self : ((List Seen) × (List Seen) × (List ((List Int) × Row)) × Int) → Option Out) (e2 : ((List Seen) × (List Seen) × (List ((List Int) × Row))) → Option Out) (a1 : Arg) (c1006 : Int) (c1007 : List UInt8) (c1008 : List (List UInt8)) (c1009 : Int) (c1010 : Int) (v1005 : (List Seen) × (List Seen) × (List ((List Int) × Row)) × Int) : Option Out := bif decide (v1005.2.2.2 < c1010) then ((impl_hasSlot.sem (c1007, v1005.2.2.2, ())).bind fun r1211 => bif !r1211.1 then (self (v1005.1, v1005.2.1, v1005.2.2.1, w64 (v1005.2.2.2 + (1 : Int)))) else (impl_cellAt.sem (c1007, v1005.2.2.2, ())).bind fun r1212 => (impl_UnpackCell.sem (r1212.1, ())).bind fun r1213 => bif !decide (r1213.1.1 = (0 : Int)) then (some (([] : List Seen), (5 : Int), ())) else bif decide (r1213.1.2.1 = (0 : Int)) then (if v1005.1.length + [(r1213.1.2.2.2.2.1, c1006, v1005.2.2.2, false, c1006, v1005.2.2.2, ())].length ≤ CAP then (let y1214 := v1005.1 ++ [(r1213.1.2.2.2.2.1, c1006, v1005.2.2.2, false, c1006, v1005.2.2.2, ())]; self (y1214, v1005.2.1, v1005.2.2.1, w64 (v1005.2.2.2 + (1 : Int)))) else none) else bif decide (r1213.1.2.1 = (2 : Int)) then (if 0 < (List.replicate 2 (0 : Int)).length then (if 1 < ((List.replicate 2 (0 : Int)).set 0 c1006).length then (let y1215 := mapPut (.arr 2 i64) v1005.2.2.1 (((List.replicate 2 (0 : Int)).set 0 c1006).set 1 v1005.2.2.2) r1213.1.2.2.2.2.1; self (v1005.1, v1005.2.1, y1215, w64 (v1005.2.2.2 + (1 : Int)))) else none) else none) else if v1005.2.1.length + [(((0 : Int), (0 : Int), (0 : Int), ([] : List UInt8), ()), c1006, v1005.2.2.2, true, r1213.1.2.2.1, r1213.1.2.2.2.1, ())].length ≤ CAP then (let y1216 := v1005.2.1 ++ [(((0 : Int), (0 : Int), (0 : Int), ([] : List UInt8), ()), c1006, v1005.2.2.2, true, r1213.1.2.2.1, r1213.1.2.2.2.1, ())]; self (v1005.1, y1216, v1005.2.2.1, w64 (v1005.2.2.2 + (1 : Int)))) else none) else e2 (v1005.1, v1005.2.1, v1005.2.2.1)
noncomputable def B1 (k : Nat) (self : ((List Seen) × (List Seen) × (List ((List Int) × Row)) × Int) → Option Out) (e2 : ((List Seen) × (List Seen) × (List ((List Int) × Row))) → Option Out) (a1 : Arg) (c1006 : Int) (c1007 : List UInt8) (c1008 : List (List UInt8)) (c1009 : Int) (c1010 : Int) (v1005 : (List Seen) × (List Seen) × (List ((List Int) × Row)) × Int) : Option Out := b1 self e2 a1 c1006 c1007 c1008 c1009 c1010 v1005
theorem B1_eq (k : Nat) (rec : RT Out) (K : KT Out) (a1 : Arg) (c1006 : Int) (c1007 : List UInt8) (c1008 : List (List UInt8)) (c1009 : Int) (c1010 : Int) (v1005 : (List Seen) × (List Seen) × (List ((List Int) × Row)) × Int) : N1 k (T1 a1 c1006 c1007 c1008 c1009 c1010 v1005) (loopC rec M1 K) = B1 k (S1 rec a1 c1006 c1007 c1008 c1009 c1010) (X1_2 K a1 c1006 c1007 c1008 c1009 c1010) a1 c1006 c1007 c1008 c1009 c1010 v1005 := by kernel_rfl
noncomputable def l1 (k : Nat) (a1 : Arg) (c1006 : Int) (c1007 : List UInt8) (c1008 : List (List UInt8)) (c1009 : Int) (c1010 : Int) (e2 : ((List Seen) × (List Seen) × (List ((List Int) × Row))) → Option Out) (v : (List Seen) × (List Seen) × (List ((List Int) × Row)) × Int) : Option Out := rawIter (fun self v => B1 k self e2 a1 c1006 c1007 c1008 c1009 c1010 v) k v
theorem l1_eq (k : Nat) (K : KT Out) (a1 : Arg) (c1006 : Int) (c1007 : List UInt8) (c1008 : List (List UInt8)) (c1009 : Int) (c1010 : Int) (v1005 : (List Seen) × (List Seen) × (List ((List Int) × Row)) × Int) : iterK (N1 k) M1 K k (T1 a1 c1006 c1007 c1008 c1009 c1010 v1005) = l1 k a1 c1006 c1007 c1008 c1009 c1010 (X1_2 K a1 c1006 c1007 c1008 c1009 c1010) v1005 :=
  iter_raw _ _ K (fun v1005 => (T1 a1 c1006 c1007 c1008 c1009 c1010 v1005)) (fun self v => B1 k self (X1_2 K a1 c1006 c1007 c1008 c1009 c1010) a1 c1006 c1007 c1008 c1009 c1010 v) (fun rec v => B1_eq k rec K a1 c1006 c1007 c1008 c1009 c1010 v) k v1005
noncomputable def q0 (self : ((List Seen) × (List Seen) × (List ((List Int) × Row)) × (List (List UInt8)) × Int × Int) → Option Out) (e0 : ((List Seen) × (List Seen) × (List ((List Int) × Row))) → Option Out) (a1 : Arg) (c1006 : Int) (c1007 : List UInt8) (c1008 : List (List UInt8)) (c1009 : Int) (c1010 : Int) (z1217 : ((List Seen) × (List Seen) × (List ((List Int) × Row)))) : Option Out := self (z1217.1, z1217.2.1, z1217.2.2, c1008, c1009, w64 (c1006 + (1 : Int)))
noncomputable def Q0 (k : Nat) (self : ((List Seen) × (List Seen) × (List ((List Int) × Row)) × (List (List UInt8)) × Int × Int) → Option Out) (e0 : ((List Seen) × (List Seen) × (List ((List Int) × Row))) → Option Out) (a1 : Arg) (c1006 : Int) (c1007 : List UInt8) (c1008 : List (List UInt8)) (c1009 : Int) (c1010 : Int) (z1217 : ((List Seen) × (List Seen) × (List ((List Int) × Row)))) : Option Out := q0 self e0 a1 c1006 c1007 c1008 c1009 c1010 z1217
theorem Q0_eq (k : Nat) (rec : RT Out) (K : KT Out) (a1 : Arg) (c1006 : Int) (c1007 : List UInt8) (c1008 : List (List UInt8)) (c1009 : Int) (c1010 : Int) (z1217 : ((List Seen) × (List Seen) × (List ((List Int) × Row)))) : X1_2 (blockC 2 (blockC 1 (seqC (codeK E k fin (sub [1, 1, 1, 0, 1, 0, 0, 1, 1, 1] C)) (loopC rec (keepF [4, 5, 6, 21, 22, 23] []) K)))) a1 c1006 c1007 c1008 c1009 c1010 z1217 = Q0 k (S0 rec a1) (X0_0 K a1) a1 c1006 c1007 c1008 c1009 c1010 z1217 := by kernel_rfl
noncomputable def s1 (k : Nat) (rec : RT Out) (K : KT Out) (a1 : Arg) : Int → (List UInt8) → (List (List UInt8)) → Int → Int → ((List Seen) × (List Seen) × (List ((List Int) × Row)) × Int) → Option Out := fun c1006 c1007 c1008 c1009 c1010 v1005 => iterK (N1 k) M1 (blockC 2 (blockC 1 (seqC (codeK E k fin (sub [1, 1, 1, 0, 1, 0, 0, 1, 1, 1] C)) (loopC rec (keepF [4, 5, 6, 21, 22, 23] []) K)))) k (T1 a1 c1006 c1007 c1008 c1009 c1010 v1005)
noncomputable def r1 (k : Nat) (self : ((List Seen) × (List Seen) × (List ((List Int) × Row)) × (List (List UInt8)) × Int × Int) → Option Out) (e0 : ((List Seen) × (List Seen) × (List ((List Int) × Row))) → Option Out) (a1 : Arg) : Int → (List UInt8) → (List (List UInt8)) → Int → Int → ((List Seen) × (List Seen) × (List ((List Int) × Row)) × Int) → Option Out := fun c1006 c1007 c1008 c1009 c1010 v1005 => l1 k a1 c1006 c1007 c1008 c1009 c1010 (fun z => Q0 k self e0 a1 c1006 c1007 c1008 c1009 c1010 z) v1005
theorem s1_eq (k : Nat) (rec : RT Out) (K : KT Out) (a1 : Arg) : s1 k rec K a1 = r1 k (S0 rec a1) (X0_0 K a1) a1 := by
  funext c1006; funext c1007; funext c1008; funext c1009; funext c1010; funext v1005;
  have h2 : X1_2 ((blockC 2 (blockC 1 (seqC (codeK E k fin (sub [1, 1, 1, 0, 1, 0, 0, 1, 1, 1] C)) (loopC rec (keepF [4, 5, 6, 21, 22, 23] []) K))))) a1 c1006 c1007 c1008 c1009 c1010 = fun z => Q0 k (S0 rec a1) (X0_0 K a1) a1 c1006 c1007 c1008 c1009 c1010 z := funext fun z => Q0_eq k rec K a1 c1006 c1007 c1008 c1009 c1010 z
  refine (l1_eq k ((blockC 2 (blockC 1 (seqC (codeK E k fin (sub [1, 1, 1, 0, 1, 0, 0, 1, 1, 1] C)) (loopC rec (keepF [4, 5, 6, 21, 22, 23] []) K))))) a1 c1006 c1007 c1008 c1009 c1010 v1005).trans ?_
  rw [h2]
  rfl
noncomputable def b0 (self : ((List Seen) × (List Seen) × (List ((List Int) × Row)) × (List (List UInt8)) × Int × Int) → Option Out) (e0 : ((List Seen) × (List Seen) × (List ((List Int) × Row))) → Option Out) (l1 : Int → (List UInt8) → (List (List UInt8)) → Int → Int → ((List Seen) × (List Seen) × (List ((List Int) × Row)) × Int) → Option Out) (a1 : Arg) (v402 : (List Seen) × (List Seen) × (List ((List Int) × Row)) × (List (List UInt8)) × Int × Int) : Option Out := bif decide (v402.2.2.2.2.2 < v402.2.2.2.2.1) then (if 0 ≤ v402.2.2.2.2.2 then ((v402.2.2.2.1[v402.2.2.2.2.2.toNat]?).bind fun x603 => (impl_slots.sem (x603, ())).bind fun r604 => l1 v402.2.2.2.2.2 x603 v402.2.2.2.1 v402.2.2.2.2.1 r604.1 (v402.1, v402.2.1, v402.2.2.1, (0 : Int))) else none) else e0 (v402.1, v402.2.1, v402.2.2.1)
noncomputable def B0 (k : Nat) (self : ((List Seen) × (List Seen) × (List ((List Int) × Row)) × (List (List UInt8)) × Int × Int) → Option Out) (e0 : ((List Seen) × (List Seen) × (List ((List Int) × Row))) → Option Out) (a1 : Arg) (v402 : (List Seen) × (List Seen) × (List ((List Int) × Row)) × (List (List UInt8)) × Int × Int) : Option Out := b0 self e0 (r1 k self e0 a1) a1 v402
theorem b0_eq (k : Nat) (rec : RT Out) (K : KT Out) (a1 : Arg) (v402 : (List Seen) × (List Seen) × (List ((List Int) × Row)) × (List (List UInt8)) × Int × Int) : N0 k (T0 a1 v402) (loopC rec M0 K) = b0 (S0 rec a1) (X0_0 K a1) (s1 k rec K a1) a1 v402 := by kernel_rfl
theorem B0_eq (k : Nat) (rec : RT Out) (K : KT Out) (a1 : Arg) (v402 : (List Seen) × (List Seen) × (List ((List Int) × Row)) × (List (List UInt8)) × Int × Int) : N0 k (T0 a1 v402) (loopC rec M0 K) = B0 k (S0 rec a1) (X0_0 K a1) a1 v402 := (b0_eq k rec K a1 v402).trans (by rw [s1_eq]; rfl)
noncomputable def l0 (k : Nat) (a1 : Arg) (e0 : ((List Seen) × (List Seen) × (List ((List Int) × Row))) → Option Out) (v : (List Seen) × (List Seen) × (List ((List Int) × Row)) × (List (List UInt8)) × Int × Int) : Option Out := rawIter (fun self v => B0 k self e0 a1 v) k v
theorem l0_eq (k : Nat) (K : KT Out) (a1 : Arg) (v402 : (List Seen) × (List Seen) × (List ((List Int) × Row)) × (List (List UInt8)) × Int × Int) : iterK (N0 k) M0 K k (T0 a1 v402) = l0 k a1 (X0_0 K a1) v402 :=
  iter_raw _ _ K (fun v402 => (T0 a1 v402)) (fun self v => B0 k self (X0_0 K a1) a1 v) (fun rec v => B0_eq k rec K a1 v) k v402
noncomputable def T2 (a1 : Arg) (c1620 : List Seen) (c1621 : List Seen) (c1622 : List ((List Int) × Row)) (c1623 : Int) (v1619 : Int) : St := { n := 148, sl := [(4, .own (.slc tSeen) (ownMd (.slc tSeen)) [] c1620), (5, .own (.slc tSeen) (ownMd (.slc tSeen)) [] c1621), (6, .own (.map (.arr 2 i64) tRow) (ownMd (.map (.arr 2 i64) tRow)) [] c1622), (81, .ref 5 [] [0, 0]), (82, .val i64 c1623), (83, .val i64 v1619)], vr := [], lent := [] }
noncomputable def N2 (k : Nat) : St → (Ex → St → Option Out) → Option Out := codeK E k fin (sub [1, 1, 1, 1, 0, 1, 0, 0] C)
noncomputable def M2 : St → St := keepF [4, 5, 6, 81, 82, 83] []
noncomputable def S2 (rec : RT Out) (a1 : Arg) (c1620 : List Seen) (c1621 : List Seen) (c1622 : List ((List Int) × Row)) (c1623 : Int) : (Int) → Option Out := fun v1619 => rec (T2 a1 c1620 c1621 c1622 c1623 v1619)
noncomputable def X2_5 (K : KT Out) (a1 : Arg) (c1620 : List Seen) (c1621 : List Seen) (c1622 : List ((List Int) × Row)) (c1623 : Int) : (Unit) → Option Out := fun z => K (.exit 5) ({ n := 148, sl := [(4, .own (.slc tSeen) (ownMd (.slc tSeen)) [] c1620), (5, .own (.slc tSeen) (ownMd (.slc tSeen)) [] c1621), (6, .own (.map (.arr 2 i64) tRow) (ownMd (.map (.arr 2 i64) tRow)) [] c1622)], vr := [], lent := [] })
noncomputable def b2 (self : Int → Option Out) (e5 : (Unit) → Option Out) (a1 : Arg) (c1620 : List Seen) (c1621 : List Seen) (c1622 : List ((List Int) × Row)) (c1623 : Int) (v1619 : Int) : Option Out := bif decide (v1619 < c1623) then (if 0 ≤ v1619 ∧ v1619 < (c1621.length : Int) then ((c1621[v1619.toNat]?).bind fun x1824 => if 0 < (List.replicate 2 (0 : Int)).length then (if 1 < ((List.replicate 2 (0 : Int)).set 0 x1824.2.2.2.2.1).length then (let y1825 := orZ (mapGet (.arr 2 i64) c1622 (((List.replicate 2 (0 : Int)).set 0 x1824.2.2.2.2.1).set 1 x1824.2.2.2.2.2.1)) ((0 : Int), (0 : Int), (0 : Int), ([] : List UInt8), ()); bif !(mapGet (.arr 2 i64) c1622 (((List.replicate 2 (0 : Int)).set 0 x1824.2.2.2.2.1).set 1 x1824.2.2.2.2.2.1)).isSome then (some (([] : List Seen), (4 : Int), ())) else self (w64 (v1619 + (1 : Int)))) else none) else none) else none) else e5 ()
noncomputable def B2 (k : Nat) (self : Int → Option Out) (e5 : (Unit) → Option Out) (a1 : Arg) (c1620 : List Seen) (c1621 : List Seen) (c1622 : List ((List Int) × Row)) (c1623 : Int) (v1619 : Int) : Option Out := b2 self e5 a1 c1620 c1621 c1622 c1623 v1619
theorem B2_eq (k : Nat) (rec : RT Out) (K : KT Out) (a1 : Arg) (c1620 : List Seen) (c1621 : List Seen) (c1622 : List ((List Int) × Row)) (c1623 : Int) (v1619 : Int) : N2 k (T2 a1 c1620 c1621 c1622 c1623 v1619) (loopC rec M2 K) = B2 k (S2 rec a1 c1620 c1621 c1622 c1623) (X2_5 K a1 c1620 c1621 c1622 c1623) a1 c1620 c1621 c1622 c1623 v1619 := by kernel_rfl
noncomputable def l2 (k : Nat) (a1 : Arg) (c1620 : List Seen) (c1621 : List Seen) (c1622 : List ((List Int) × Row)) (c1623 : Int) (e5 : (Unit) → Option Out) (v : Int) : Option Out := rawIter (fun self v => B2 k self e5 a1 c1620 c1621 c1622 c1623 v) k v
theorem l2_eq (k : Nat) (K : KT Out) (a1 : Arg) (c1620 : List Seen) (c1621 : List Seen) (c1622 : List ((List Int) × Row)) (c1623 : Int) (v1619 : Int) : iterK (N2 k) M2 K k (T2 a1 c1620 c1621 c1622 c1623 v1619) = l2 k a1 c1620 c1621 c1622 c1623 (X2_5 K a1 c1620 c1621 c1622 c1623) v1619 :=
  iter_raw _ _ K (fun v1619 => (T2 a1 c1620 c1621 c1622 c1623 v1619)) (fun self v => B2 k self (X2_5 K a1 c1620 c1621 c1622 c1623) a1 c1620 c1621 c1622 c1623 v) (fun rec v => B2_eq k rec K a1 c1620 c1621 c1622 c1623 v) k v1619
noncomputable def T3 (a1 : Arg) (c2228 : List Seen) (c2229 : List ((List Int) × Row)) (c2230 : Int) (v2227 : (List Seen) × (List ((List Int) × Bool)) × Int) : St := { n := 148, sl := [(4, .own (.slc tSeen) (ownMd (.slc tSeen)) [] v2227.1), (5, .own (.slc tSeen) (ownMd (.slc tSeen)) [] c2228), (6, .own (.map (.arr 2 i64) tRow) (ownMd (.map (.arr 2 i64) tRow)) [] c2229), (15, .own (.map (.arr 2 i64) .bool) (ownMd (.map (.arr 2 i64) .bool)) [] v2227.2.1), (101, .ref 5 [] [0, 0]), (102, .val i64 c2230), (103, .val i64 v2227.2.2)], vr := [], lent := [] }
noncomputable def N3 (k : Nat) : St → (Ex → St → Option Out) → Option Out := codeK E k fin (sub [1, 1, 1, 1, 1, 1, 0, 1, 0, 0] C)
noncomputable def M3 : St → St := keepF [4, 5, 6, 15, 101, 102, 103] []
noncomputable def S3 (rec : RT Out) (a1 : Arg) (c2228 : List Seen) (c2229 : List ((List Int) × Row)) (c2230 : Int) : ((List Seen) × (List ((List Int) × Bool)) × Int) → Option Out := fun v2227 => rec (T3 a1 c2228 c2229 c2230 v2227)
noncomputable def X3_7 (K : KT Out) (a1 : Arg) (c2228 : List Seen) (c2229 : List ((List Int) × Row)) (c2230 : Int) : (List Seen) → Option Out := fun z => K (.exit 7) ({ n := 148, sl := [(4, .own (.slc tSeen) (ownMd (.slc tSeen)) [] z)], vr := [], lent := [] })
noncomputable def b3 (self : ((List Seen) × (List ((List Int) × Bool)) × Int) → Option Out) (e7 : (List Seen) → Option Out) (a1 : Arg) (c2228 : List Seen) (c2229 : List ((List Int) × Row)) (c2230 : Int) (v2227 : (List Seen) × (List ((List Int) × Bool)) × Int) : Option Out := bif decide (v2227.2.2 < c2230) then (if 0 ≤ v2227.2.2 ∧ v2227.2.2 < (c2228.length : Int) then ((c2228[v2227.2.2.toNat]?).bind fun x2431 => if 0 < (List.replicate 2 (0 : Int)).length then (if 1 < ((List.replicate 2 (0 : Int)).set 0 x2431.2.2.2.2.1).length then (let y2432 := ((List.replicate 2 (0 : Int)).set 0 x2431.2.2.2.2.1).set 1 x2431.2.2.2.2.2.1; bif orZ (mapGet (.arr 2 i64) v2227.2.1 y2432) false then (some (([] : List Seen), (6 : Int), ())) else let y2433 := orZ (mapGet (.arr 2 i64) c2229 y2432) ((0 : Int), (0 : Int), (0 : Int), ([] : List UInt8), ()); if v2227.1.length + [(y2433, x2431.2)].length ≤ CAP then (self (v2227.1 ++ [(y2433, x2431.2)], mapPut (.arr 2 i64) v2227.2.1 y2432 true, w64 (v2227.2.2 + (1 : Int)))) else none) else none) else none) else none) else e7 v2227.1
noncomputable def B3 (k : Nat) (self : ((List Seen) × (List ((List Int) × Bool)) × Int) → Option Out) (e7 : (List Seen) → Option Out) (a1 : Arg) (c2228 : List Seen) (c2229 : List ((List Int) × Row)) (c2230 : Int) (v2227 : (List Seen) × (List ((List Int) × Bool)) × Int) : Option Out := b3 self e7 a1 c2228 c2229 c2230 v2227
theorem B3_eq (k : Nat) (rec : RT Out) (K : KT Out) (a1 : Arg) (c2228 : List Seen) (c2229 : List ((List Int) × Row)) (c2230 : Int) (v2227 : (List Seen) × (List ((List Int) × Bool)) × Int) : N3 k (T3 a1 c2228 c2229 c2230 v2227) (loopC rec M3 K) = B3 k (S3 rec a1 c2228 c2229 c2230) (X3_7 K a1 c2228 c2229 c2230) a1 c2228 c2229 c2230 v2227 := by kernel_rfl
noncomputable def l3 (k : Nat) (a1 : Arg) (c2228 : List Seen) (c2229 : List ((List Int) × Row)) (c2230 : Int) (e7 : (List Seen) → Option Out) (v : (List Seen) × (List ((List Int) × Bool)) × Int) : Option Out := rawIter (fun self v => B3 k self e7 a1 c2228 c2229 c2230 v) k v
theorem l3_eq (k : Nat) (K : KT Out) (a1 : Arg) (c2228 : List Seen) (c2229 : List ((List Int) × Row)) (c2230 : Int) (v2227 : (List Seen) × (List ((List Int) × Bool)) × Int) : iterK (N3 k) M3 K k (T3 a1 c2228 c2229 c2230 v2227) = l3 k a1 c2228 c2229 c2230 (X3_7 K a1 c2228 c2229 c2230) v2227 :=
  iter_raw _ _ K (fun v2227 => (T3 a1 c2228 c2229 c2230 v2227)) (fun self v => B3 k self (X3_7 K a1 c2228 c2229 c2230) a1 c2228 c2229 c2230 v) (fun rec v => B3_eq k rec K a1 c2228 c2229 c2230 v) k v2227
noncomputable def T4 (a1 : Arg) (c2837 : List Seen) (v2836 : Int) : St := { n := 148, sl := [(4, .own (.slc tSeen) (ownMd (.slc tSeen)) [] c2837), (19, .val i64 v2836)], vr := [], lent := [] }
noncomputable def N4 (k : Nat) : St → (Ex → St → Option Out) → Option Out := codeK E k fin (sub [1, 1, 1, 1, 1, 1, 1, 1, 0, 1, 0, 0] C)
noncomputable def M4 : St → St := keepF [4, 19] []
noncomputable def S4 (rec : RT Out) (a1 : Arg) (c2837 : List Seen) : (Int) → Option Out := fun v2836 => rec (T4 a1 c2837 v2836)
noncomputable def X4_9 (K : KT Out) (a1 : Arg) (c2837 : List Seen) : (Unit) → Option Out := fun z => K (.exit 9) ({ n := 148, sl := [(4, .own (.slc tSeen) (ownMd (.slc tSeen)) [] c2837)], vr := [], lent := [] })
noncomputable def b4 (self : Int → Option Out) (e9 : (Unit) → Option Out) (a1 : Arg) (c2837 : List Seen) (v2836 : Int) : Option Out := bif decide (v2836 < (c2837.length : Int)) then (if 0 ≤ w64 (v2836 - (1 : Int)) ∧ w64 (v2836 - (1 : Int)) < (c2837.length : Int) then ((c2837[(w64 (v2836 - (1 : Int))).toNat]?).bind fun x3038 => if 0 ≤ v2836 ∧ v2836 < (c2837.length : Int) then ((c2837[v2836.toNat]?).bind fun x3039 => (impl_IsBefore.sem (x3038.1, x3039.1, ())).bind fun r3040 => bif !r3040.1 then (some (([] : List Seen), (8 : Int), ())) else self (w64 (v2836 + (1 : Int)))) else none) else none) else e9 ()
noncomputable def B4 (k : Nat) (self : Int → Option Out) (e9 : (Unit) → Option Out) (a1 : Arg) (c2837 : List Seen) (v2836 : Int) : Option Out := b4 self e9 a1 c2837 v2836
theorem B4_eq (k : Nat) (rec : RT Out) (K : KT Out) (a1 : Arg) (c2837 : List Seen) (v2836 : Int) : N4 k (T4 a1 c2837 v2836) (loopC rec M4 K) = B4 k (S4 rec a1 c2837) (X4_9 K a1 c2837) a1 c2837 v2836 := by kernel_rfl
noncomputable def l4 (k : Nat) (a1 : Arg) (c2837 : List Seen) (e9 : (Unit) → Option Out) (v : Int) : Option Out := rawIter (fun self v => B4 k self e9 a1 c2837 v) k v
theorem l4_eq (k : Nat) (K : KT Out) (a1 : Arg) (c2837 : List Seen) (v2836 : Int) : iterK (N4 k) M4 K k (T4 a1 c2837 v2836) = l4 k a1 c2837 (X4_9 K a1 c2837) v2836 :=
  iter_raw _ _ K (fun v2836 => (T4 a1 c2837 v2836)) (fun self v => B4 k self (X4_9 K a1 c2837) a1 c2837 v) (fun rec v => B4_eq k rec K a1 c2837 v) k v2836
noncomputable def q4 (a1 : Arg) (c2837 : List Seen) (z3041 : (Unit)) : Option Out := some (c2837, (0 : Int), ())
noncomputable def Q4 (k : Nat) (a1 : Arg) (c2837 : List Seen) (z3041 : (Unit)) : Option Out := q4 a1 c2837 z3041
theorem Q4_eq (k : Nat) (a1 : Arg) (c2837 : List Seen) (z3041 : (Unit)) : X4_9 (blockC 9 (seqC (codeK E k fin (sub [1, 1, 1, 1, 1, 1, 1, 1, 1] C)) K0)) a1 c2837 z3041 = Q4 k a1 c2837 z3041 := by kernel_rfl
noncomputable def s4 (k : Nat) (a1 : Arg) (c2228 : List Seen) (c2229 : List ((List Int) × Row)) (c2230 : Int) : (List Seen) → (Int) → Option Out := fun c2837 v2836 => iterK (N4 k) M4 (blockC 9 (seqC (codeK E k fin (sub [1, 1, 1, 1, 1, 1, 1, 1, 1] C)) K0)) k (T4 a1 c2837 v2836)
noncomputable def r4 (k : Nat) (a1 : Arg) (c2228 : List Seen) (c2229 : List ((List Int) × Row)) (c2230 : Int) : (List Seen) → (Int) → Option Out := fun c2837 v2836 => l4 k a1 c2837 (fun z => Q4 k a1 c2837 z) v2836
theorem s4_eq (k : Nat) (a1 : Arg) (c2228 : List Seen) (c2229 : List ((List Int) × Row)) (c2230 : Int) : s4 k a1 c2228 c2229 c2230 = r4 k a1 c2228 c2229 c2230 := by
  funext c2837; funext v2836;
  have h9 : X4_9 ((blockC 9 (seqC (codeK E k fin (sub [1, 1, 1, 1, 1, 1, 1, 1, 1] C)) K0))) a1 c2837 = fun z => Q4 k a1 c2837 z := funext fun z => Q4_eq k a1 c2837 z
  refine (l4_eq k ((blockC 9 (seqC (codeK E k fin (sub [1, 1, 1, 1, 1, 1, 1, 1, 1] C)) K0))) a1 c2837 v2836).trans ?_
  rw [h9]
  rfl
noncomputable def q3 (l4 : (List Seen) → (Int) → Option Out) (a1 : Arg) (c2228 : List Seen) (c2229 : List ((List Int) × Row)) (c2230 : Int) (z2434 : (List Seen)) : Option Out := (slices_SortFunc_seen.sem (z2434, ((226, 0) : Nat × Int), ())).bind fun r2435 => l4 r2435.1 (1 : Int)
noncomputable def Q3 (k : Nat) (a1 : Arg) (c2228 : List Seen) (c2229 : List ((List Int) × Row)) (c2230 : Int) (z2434 : (List Seen)) : Option Out := q3 (r4 k a1 c2228 c2229 c2230) a1 c2228 c2229 c2230 z2434
theorem q3_eq (k : Nat) (a1 : Arg) (c2228 : List Seen) (c2229 : List ((List Int) × Row)) (c2230 : Int) (z2434 : (List Seen)) : X3_7 (blockC 7 (seqC (codeK E k fin (sub [1, 1, 1, 1, 1, 1, 1] C)) K0)) a1 c2228 c2229 c2230 z2434 = q3 (s4 k a1 c2228 c2229 c2230) a1 c2228 c2229 c2230 z2434 := by kernel_rfl
theorem Q3_eq (k : Nat) (a1 : Arg) (c2228 : List Seen) (c2229 : List ((List Int) × Row)) (c2230 : Int) (z2434 : (List Seen)) : X3_7 (blockC 7 (seqC (codeK E k fin (sub [1, 1, 1, 1, 1, 1, 1] C)) K0)) a1 c2228 c2229 c2230 z2434 = Q3 k a1 c2228 c2229 c2230 z2434 := (q3_eq k a1 c2228 c2229 c2230 z2434).trans (by rw [s4_eq]; rfl)
noncomputable def s3 (k : Nat) (a1 : Arg) (c1620 : List Seen) (c1621 : List Seen) (c1622 : List ((List Int) × Row)) (c1623 : Int) : (List Seen) → (List ((List Int) × Row)) → Int → ((List Seen) × (List ((List Int) × Bool)) × Int) → Option Out := fun c2228 c2229 c2230 v2227 => iterK (N3 k) M3 (blockC 7 (seqC (codeK E k fin (sub [1, 1, 1, 1, 1, 1, 1] C)) K0)) k (T3 a1 c2228 c2229 c2230 v2227)
noncomputable def r3 (k : Nat) (a1 : Arg) (c1620 : List Seen) (c1621 : List Seen) (c1622 : List ((List Int) × Row)) (c1623 : Int) : (List Seen) → (List ((List Int) × Row)) → Int → ((List Seen) × (List ((List Int) × Bool)) × Int) → Option Out := fun c2228 c2229 c2230 v2227 => l3 k a1 c2228 c2229 c2230 (fun z => Q3 k a1 c2228 c2229 c2230 z) v2227
theorem s3_eq (k : Nat) (a1 : Arg) (c1620 : List Seen) (c1621 : List Seen) (c1622 : List ((List Int) × Row)) (c1623 : Int) : s3 k a1 c1620 c1621 c1622 c1623 = r3 k a1 c1620 c1621 c1622 c1623 := by
  funext c2228; funext c2229; funext c2230; funext v2227;
  have h7 : X3_7 ((blockC 7 (seqC (codeK E k fin (sub [1, 1, 1, 1, 1, 1, 1] C)) K0))) a1 c2228 c2229 c2230 = fun z => Q3 k a1 c2228 c2229 c2230 z := funext fun z => Q3_eq k a1 c2228 c2229 c2230 z
  refine (l3_eq k ((blockC 7 (seqC (codeK E k fin (sub [1, 1, 1, 1, 1, 1, 1] C)) K0))) a1 c2228 c2229 c2230 v2227).trans ?_
  rw [h7]
  rfl
noncomputable def q2 (l3 : (List Seen) → (List ((List Int) × Row)) → Int → ((List Seen) × (List ((List Int) × Bool)) × Int) → Option Out) (a1 : Arg) (c1620 : List Seen) (c1621 : List Seen) (c1622 : List ((List Int) × Row)) (c1623 : Int) (z1826 : (Unit)) : Option Out := l3 c1621 c1622 (c1621.length : Int) (c1620, ([] : List ((List Int) × Bool)), (0 : Int))
noncomputable def Q2 (k : Nat) (a1 : Arg) (c1620 : List Seen) (c1621 : List Seen) (c1622 : List ((List Int) × Row)) (c1623 : Int) (z1826 : (Unit)) : Option Out := q2 (r3 k a1 c1620 c1621 c1622 c1623) a1 c1620 c1621 c1622 c1623 z1826
theorem q2_eq (k : Nat) (a1 : Arg) (c1620 : List Seen) (c1621 : List Seen) (c1622 : List ((List Int) × Row)) (c1623 : Int) (z1826 : (Unit)) : X2_5 (blockC 5 (seqC (codeK E k fin (sub [1, 1, 1, 1, 1] C)) K0)) a1 c1620 c1621 c1622 c1623 z1826 = q2 (s3 k a1 c1620 c1621 c1622 c1623) a1 c1620 c1621 c1622 c1623 z1826 := by kernel_rfl
theorem Q2_eq (k : Nat) (a1 : Arg) (c1620 : List Seen) (c1621 : List Seen) (c1622 : List ((List Int) × Row)) (c1623 : Int) (z1826 : (Unit)) : X2_5 (blockC 5 (seqC (codeK E k fin (sub [1, 1, 1, 1, 1] C)) K0)) a1 c1620 c1621 c1622 c1623 z1826 = Q2 k a1 c1620 c1621 c1622 c1623 z1826 := (q2_eq k a1 c1620 c1621 c1622 c1623 z1826).trans (by rw [s3_eq]; rfl)
noncomputable def s2 (k : Nat) (a1 : Arg) : (List Seen) → (List Seen) → (List ((List Int) × Row)) → Int → (Int) → Option Out := fun c1620 c1621 c1622 c1623 v1619 => iterK (N2 k) M2 (blockC 5 (seqC (codeK E k fin (sub [1, 1, 1, 1, 1] C)) K0)) k (T2 a1 c1620 c1621 c1622 c1623 v1619)
noncomputable def r2 (k : Nat) (a1 : Arg) : (List Seen) → (List Seen) → (List ((List Int) × Row)) → Int → (Int) → Option Out := fun c1620 c1621 c1622 c1623 v1619 => l2 k a1 c1620 c1621 c1622 c1623 (fun z => Q2 k a1 c1620 c1621 c1622 c1623 z) v1619
theorem s2_eq (k : Nat) (a1 : Arg) : s2 k a1 = r2 k a1 := by
  funext c1620; funext c1621; funext c1622; funext c1623; funext v1619;
  have h5 : X2_5 ((blockC 5 (seqC (codeK E k fin (sub [1, 1, 1, 1, 1] C)) K0))) a1 c1620 c1621 c1622 c1623 = fun z => Q2 k a1 c1620 c1621 c1622 c1623 z := funext fun z => Q2_eq k a1 c1620 c1621 c1622 c1623 z
  refine (l2_eq k ((blockC 5 (seqC (codeK E k fin (sub [1, 1, 1, 1, 1] C)) K0))) a1 c1620 c1621 c1622 c1623 v1619).trans ?_
  rw [h5]
  rfl
noncomputable def q1 (l2 : (List Seen) → (List Seen) → (List ((List Int) × Row)) → Int → (Int) → Option Out) (a1 : Arg) (z1218 : ((List Seen) × (List Seen) × (List ((List Int) × Row)))) : Option Out := l2 z1218.1 z1218.2.1 z1218.2.2 (z1218.2.1.length : Int) (0 : Int)
noncomputable def Q1 (k : Nat) (a1 : Arg) (z1218 : ((List Seen) × (List Seen) × (List ((List Int) × Row)))) : Option Out := q1 (r2 k a1) a1 z1218
theorem q1_eq (k : Nat) (a1 : Arg) (z1218 : ((List Seen) × (List Seen) × (List ((List Int) × Row)))) : X0_0 (blockC 0 (seqC (codeK E k fin (sub [1, 1, 1, 1] C)) K0)) a1 z1218 = q1 (s2 k a1) a1 z1218 := by kernel_rfl
theorem Q1_eq (k : Nat) (a1 : Arg) (z1218 : ((List Seen) × (List Seen) × (List ((List Int) × Row)))) : X0_0 (blockC 0 (seqC (codeK E k fin (sub [1, 1, 1, 1] C)) K0)) a1 z1218 = Q1 k a1 z1218 := (q1_eq k a1 z1218).trans (by rw [s2_eq]; rfl)
noncomputable def s0 (k : Nat) (a1 : Arg) : ((List Seen) × (List Seen) × (List ((List Int) × Row)) × (List (List UInt8)) × Int × Int) → Option Out := fun v402 => iterK (N0 k) M0 (blockC 0 (seqC (codeK E k fin (sub [1, 1, 1, 1] C)) K0)) k (T0 a1 v402)
noncomputable def r0 (k : Nat) (a1 : Arg) : ((List Seen) × (List Seen) × (List ((List Int) × Row)) × (List (List UInt8)) × Int × Int) → Option Out := fun v402 => l0 k a1 (fun z => Q1 k a1 z) v402
theorem s0_eq (k : Nat) (a1 : Arg) : s0 k a1 = r0 k a1 := by
  funext v402;
  have h0 : X0_0 ((blockC 0 (seqC (codeK E k fin (sub [1, 1, 1, 1] C)) K0))) a1 = fun z => Q1 k a1 z := funext fun z => Q1_eq k a1 z
  refine (l0_eq k ((blockC 0 (seqC (codeK E k fin (sub [1, 1, 1, 1] C)) K0))) a1 v402).trans ?_
  rw [h0]
  rfl
noncomputable def p (l0 : ((List Seen) × (List Seen) × (List ((List Int) × Row)) × (List (List UInt8)) × Int × Int) → Option Out) (a1 : Arg) : Option Out := l0 (([] : List Seen), ([] : List Seen), ([] : List ((List Int) × Row)), a1.1, (a1.1.length : Int), (0 : Int))
noncomputable def raw (k : Nat) (a1 : Arg) : Option Out := p (r0 k a1) a1
theorem p_eq (k : Nat) (a1 : Arg) : W k a1 = p (s0 k a1) a1 := by kernel_rfl
theorem raw_eq (k : Nat) (a1 : Arg) : W k a1 = raw k a1 := (p_eq k a1).trans (by rw [s0_eq]; rfl)
theorem ok : Ok prog 184 sig := fn_ok func184 (tl := tl) (gl := gl) (es := []) (fr := []) rfl rfl (by kernel_rfl) (fc impl_IsBefore.ok (fc impl_slots.ok (fc impl_hasSlot.ok (fc impl_UnpackCell.ok (fc impl_cellAt.ok (fc slices_SortFunc_seen.ok (fn_nil _))))))) (fun _ => rfl)
end impl_look
namespace impl_view
/-! loop example g00408 impl view -/
abbrev Arg : Type := (List (List UInt8)) × Unit
abbrev Out : Type := (List Seen) × Int × Unit
noncomputable def ps : PQ := [(.ro, (.slc (.slc u8)))]
noncomputable def rs : RQ := [((.slc tSeen), (ownMd (.slc tSeen))), (i64, (roMd i64))]
noncomputable def tl : TL := [(22, (.slc (.slc u8))), (50, (.slc u8)), (181, (.slc tSeen)), (238, tCellResult)]
noncomputable def gl : GL := [(179, impl_PageFault.sig), (180, impl_slots.sig), (181, impl_hasSlot.sig), (182, impl_UnpackCell.sig), (183, impl_cellAt.sig), (184, impl_look.sig)]
noncomputable def E : Env := { TI := lookN tl, G := lookN gl, lv := [(4, [0, 11, 12, 13]), (10, [0, 5, 11, 12, 13, 23, 24])], lx := [(0, [0]), (2, [0, 11, 12, 13])] }
noncomputable def W (k : Nat) (a : Arg) : Option Out := bodyK E k f119 ps rs [] [] a
noncomputable def sem (a : Arg) : Option Out := lift fun k => W k a
noncomputable def sig : Sig := { ps := ps, rs := rs, F := sem }
noncomputable def C : Code := bodyOf f119
noncomputable def fin : St → Option Out := outK ps rs [] (Func.results f119).toList (mvs [])
noncomputable def K0 : Ex → St → Option Out := endK fin
noncomputable def T0 (a1 : Arg) (v402 : (List (List UInt8)) × (List (List UInt8)) × Int × Int) : St := { n := 44, sl := [(0, .val (.slc (.slc u8)) v402.1), (11, .val (.slc (.slc u8)) v402.2.1), (12, .val i64 v402.2.2.1), (13, .val i64 v402.2.2.2)], vr := [], lent := [] }
noncomputable def N0 (k : Nat) : St → (Ex → St → Option Out) → Option Out := codeK E k fin (sub [1, 1, 0, 1, 0, 0] C)
noncomputable def M0 : St → St := keepF [0, 11, 12, 13] []
noncomputable def S0 (rec : RT Out) (a1 : Arg) : ((List (List UInt8)) × (List (List UInt8)) × Int × Int) → Option Out := fun v402 => rec (T0 a1 v402)
noncomputable def X0_0 (K : KT Out) (a1 : Arg) : (List (List UInt8)) → Option Out := fun z => K (.exit 0) ({ n := 44, sl := [(0, .val (.slc (.slc u8)) z)], vr := [], lent := [] })
noncomputable def T1 (a1 : Arg) (c1007 : List (List UInt8)) (c1008 : List UInt8) (c1009 : List (List UInt8)) (c1010 : Int) (c1011 : Int) (c1012 : Int) (v1006 : Int) : St := { n := 44, sl := [(0, .val (.slc (.slc u8)) c1007), (5, .val (.slc u8) c1008), (11, .val (.slc (.slc u8)) c1009), (12, .val i64 c1010), (13, .val i64 c1011), (23, .val i64 c1012), (24, .val i64 v1006)], vr := [], lent := [] }
noncomputable def N1 (k : Nat) : St → (Ex → St → Option Out) → Option Out := codeK E k fin (sub [1, 1, 0, 1, 0, 0, 1, 1, 0, 0, 1, 1, 1, 0, 0] C)
noncomputable def M1 : St → St := keepF [0, 5, 11, 12, 13, 23, 24] []
noncomputable def S1 (rec : RT Out) (a1 : Arg) (c1007 : List (List UInt8)) (c1008 : List UInt8) (c1009 : List (List UInt8)) (c1010 : Int) (c1011 : Int) (c1012 : Int) : (Int) → Option Out := fun v1006 => rec (T1 a1 c1007 c1008 c1009 c1010 c1011 c1012 v1006)
noncomputable def X1_2 (K : KT Out) (a1 : Arg) (c1007 : List (List UInt8)) (c1008 : List UInt8) (c1009 : List (List UInt8)) (c1010 : Int) (c1011 : Int) (c1012 : Int) : (Unit) → Option Out := fun z => K (.exit 2) ({ n := 44, sl := [(0, .val (.slc (.slc u8)) c1007), (11, .val (.slc (.slc u8)) c1009), (12, .val i64 c1010), (13, .val i64 c1011)], vr := [], lent := [] })
noncomputable def b1 (self : Int → Option Out) (e2 : (Unit) → Option Out) (a1 : Arg) (c1007 : List (List UInt8)) (c1008 : List UInt8) (c1009 : List (List UInt8)) (c1010 : Int) (c1011 : Int) (c1012 : Int) (v1006 : Int) : Option Out := bif decide (v1006 < c1012) then ((impl_hasSlot.sem (c1008, v1006, ())).bind fun r1213 => bif r1213.1 then ((impl_cellAt.sem (c1008, v1006, ())).bind fun r1214 => (impl_UnpackCell.sem (r1214.1, ())).bind fun r1215 => bif !decide (r1215.1.1 = (0 : Int)) then (some (([] : List Seen), (5 : Int), ())) else self (w64 (v1006 + (1 : Int)))) else self (w64 (v1006 + (1 : Int)))) else e2 ()
noncomputable def B1 (k : Nat) (self : Int → Option Out) (e2 : (Unit) → Option Out) (a1 : Arg) (c1007 : List (List UInt8)) (c1008 : List UInt8) (c1009 : List (List UInt8)) (c1010 : Int) (c1011 : Int) (c1012 : Int) (v1006 : Int) : Option Out := b1 self e2 a1 c1007 c1008 c1009 c1010 c1011 c1012 v1006
theorem B1_eq (k : Nat) (rec : RT Out) (K : KT Out) (a1 : Arg) (c1007 : List (List UInt8)) (c1008 : List UInt8) (c1009 : List (List UInt8)) (c1010 : Int) (c1011 : Int) (c1012 : Int) (v1006 : Int) : N1 k (T1 a1 c1007 c1008 c1009 c1010 c1011 c1012 v1006) (loopC rec M1 K) = B1 k (S1 rec a1 c1007 c1008 c1009 c1010 c1011 c1012) (X1_2 K a1 c1007 c1008 c1009 c1010 c1011 c1012) a1 c1007 c1008 c1009 c1010 c1011 c1012 v1006 := by kernel_rfl
noncomputable def l1 (k : Nat) (a1 : Arg) (c1007 : List (List UInt8)) (c1008 : List UInt8) (c1009 : List (List UInt8)) (c1010 : Int) (c1011 : Int) (c1012 : Int) (e2 : (Unit) → Option Out) (v : Int) : Option Out := rawIter (fun self v => B1 k self e2 a1 c1007 c1008 c1009 c1010 c1011 c1012 v) k v
theorem l1_eq (k : Nat) (K : KT Out) (a1 : Arg) (c1007 : List (List UInt8)) (c1008 : List UInt8) (c1009 : List (List UInt8)) (c1010 : Int) (c1011 : Int) (c1012 : Int) (v1006 : Int) : iterK (N1 k) M1 K k (T1 a1 c1007 c1008 c1009 c1010 c1011 c1012 v1006) = l1 k a1 c1007 c1008 c1009 c1010 c1011 c1012 (X1_2 K a1 c1007 c1008 c1009 c1010 c1011 c1012) v1006 :=
  iter_raw _ _ K (fun v1006 => (T1 a1 c1007 c1008 c1009 c1010 c1011 c1012 v1006)) (fun self v => B1 k self (X1_2 K a1 c1007 c1008 c1009 c1010 c1011 c1012) a1 c1007 c1008 c1009 c1010 c1011 c1012 v) (fun rec v => B1_eq k rec K a1 c1007 c1008 c1009 c1010 c1011 c1012 v) k v1006
noncomputable def q0 (self : ((List (List UInt8)) × (List (List UInt8)) × Int × Int) → Option Out) (e0 : (List (List UInt8)) → Option Out) (a1 : Arg) (c1007 : List (List UInt8)) (c1008 : List UInt8) (c1009 : List (List UInt8)) (c1010 : Int) (c1011 : Int) (c1012 : Int) (z1216 : (Unit)) : Option Out := self (c1007, c1009, c1010, w64 (c1011 + (1 : Int)))
noncomputable def Q0 (k : Nat) (self : ((List (List UInt8)) × (List (List UInt8)) × Int × Int) → Option Out) (e0 : (List (List UInt8)) → Option Out) (a1 : Arg) (c1007 : List (List UInt8)) (c1008 : List UInt8) (c1009 : List (List UInt8)) (c1010 : Int) (c1011 : Int) (c1012 : Int) (z1216 : (Unit)) : Option Out := q0 self e0 a1 c1007 c1008 c1009 c1010 c1011 c1012 z1216
theorem Q0_eq (k : Nat) (rec : RT Out) (K : KT Out) (a1 : Arg) (c1007 : List (List UInt8)) (c1008 : List UInt8) (c1009 : List (List UInt8)) (c1010 : Int) (c1011 : Int) (c1012 : Int) (z1216 : (Unit)) : X1_2 (blockC 2 (blockC 1 (seqC (codeK E k fin (sub [1, 1, 0, 1, 0, 0, 1, 1, 1] C)) (loopC rec (keepF [0, 11, 12, 13] []) K)))) a1 c1007 c1008 c1009 c1010 c1011 c1012 z1216 = Q0 k (S0 rec a1) (X0_0 K a1) a1 c1007 c1008 c1009 c1010 c1011 c1012 z1216 := by kernel_rfl
noncomputable def s1 (k : Nat) (rec : RT Out) (K : KT Out) (a1 : Arg) : (List (List UInt8)) → (List UInt8) → (List (List UInt8)) → Int → Int → Int → (Int) → Option Out := fun c1007 c1008 c1009 c1010 c1011 c1012 v1006 => iterK (N1 k) M1 (blockC 2 (blockC 1 (seqC (codeK E k fin (sub [1, 1, 0, 1, 0, 0, 1, 1, 1] C)) (loopC rec (keepF [0, 11, 12, 13] []) K)))) k (T1 a1 c1007 c1008 c1009 c1010 c1011 c1012 v1006)
noncomputable def r1 (k : Nat) (self : ((List (List UInt8)) × (List (List UInt8)) × Int × Int) → Option Out) (e0 : (List (List UInt8)) → Option Out) (a1 : Arg) : (List (List UInt8)) → (List UInt8) → (List (List UInt8)) → Int → Int → Int → (Int) → Option Out := fun c1007 c1008 c1009 c1010 c1011 c1012 v1006 => l1 k a1 c1007 c1008 c1009 c1010 c1011 c1012 (fun z => Q0 k self e0 a1 c1007 c1008 c1009 c1010 c1011 c1012 z) v1006
theorem s1_eq (k : Nat) (rec : RT Out) (K : KT Out) (a1 : Arg) : s1 k rec K a1 = r1 k (S0 rec a1) (X0_0 K a1) a1 := by
  funext c1007; funext c1008; funext c1009; funext c1010; funext c1011; funext c1012; funext v1006;
  have h2 : X1_2 ((blockC 2 (blockC 1 (seqC (codeK E k fin (sub [1, 1, 0, 1, 0, 0, 1, 1, 1] C)) (loopC rec (keepF [0, 11, 12, 13] []) K))))) a1 c1007 c1008 c1009 c1010 c1011 c1012 = fun z => Q0 k (S0 rec a1) (X0_0 K a1) a1 c1007 c1008 c1009 c1010 c1011 c1012 z := funext fun z => Q0_eq k rec K a1 c1007 c1008 c1009 c1010 c1011 c1012 z
  refine (l1_eq k ((blockC 2 (blockC 1 (seqC (codeK E k fin (sub [1, 1, 0, 1, 0, 0, 1, 1, 1] C)) (loopC rec (keepF [0, 11, 12, 13] []) K))))) a1 c1007 c1008 c1009 c1010 c1011 c1012 v1006).trans ?_
  rw [h2]
  rfl
noncomputable def b0 (self : ((List (List UInt8)) × (List (List UInt8)) × Int × Int) → Option Out) (e0 : (List (List UInt8)) → Option Out) (l1 : (List (List UInt8)) → (List UInt8) → (List (List UInt8)) → Int → Int → Int → (Int) → Option Out) (a1 : Arg) (v402 : (List (List UInt8)) × (List (List UInt8)) × Int × Int) : Option Out := bif decide (v402.2.2.2 < v402.2.2.1) then (if 0 ≤ v402.2.2.2 then ((v402.2.1[v402.2.2.2.toNat]?).bind fun x603 => (impl_PageFault.sem (x603, ())).bind fun r604 => bif !decide (r604.1 = (0 : Int)) then (some (([] : List Seen), r604.1, ())) else (impl_slots.sem (x603, ())).bind fun r605 => l1 v402.1 x603 v402.2.1 v402.2.2.1 v402.2.2.2 r605.1 (0 : Int)) else none) else e0 v402.1
noncomputable def B0 (k : Nat) (self : ((List (List UInt8)) × (List (List UInt8)) × Int × Int) → Option Out) (e0 : (List (List UInt8)) → Option Out) (a1 : Arg) (v402 : (List (List UInt8)) × (List (List UInt8)) × Int × Int) : Option Out := b0 self e0 (r1 k self e0 a1) a1 v402
theorem b0_eq (k : Nat) (rec : RT Out) (K : KT Out) (a1 : Arg) (v402 : (List (List UInt8)) × (List (List UInt8)) × Int × Int) : N0 k (T0 a1 v402) (loopC rec M0 K) = b0 (S0 rec a1) (X0_0 K a1) (s1 k rec K a1) a1 v402 := by kernel_rfl
theorem B0_eq (k : Nat) (rec : RT Out) (K : KT Out) (a1 : Arg) (v402 : (List (List UInt8)) × (List (List UInt8)) × Int × Int) : N0 k (T0 a1 v402) (loopC rec M0 K) = B0 k (S0 rec a1) (X0_0 K a1) a1 v402 := (b0_eq k rec K a1 v402).trans (by rw [s1_eq]; rfl)
noncomputable def l0 (k : Nat) (a1 : Arg) (e0 : (List (List UInt8)) → Option Out) (v : (List (List UInt8)) × (List (List UInt8)) × Int × Int) : Option Out := rawIter (fun self v => B0 k self e0 a1 v) k v
theorem l0_eq (k : Nat) (K : KT Out) (a1 : Arg) (v402 : (List (List UInt8)) × (List (List UInt8)) × Int × Int) : iterK (N0 k) M0 K k (T0 a1 v402) = l0 k a1 (X0_0 K a1) v402 :=
  iter_raw _ _ K (fun v402 => (T0 a1 v402)) (fun self v => B0 k self (X0_0 K a1) a1 v) (fun rec v => B0_eq k rec K a1 v) k v402
noncomputable def q1 (a1 : Arg) (z1217 : (List (List UInt8))) : Option Out := (impl_look.sem (z1217, ())).bind fun r1218 => some (r1218.1, r1218.2.1, ())
noncomputable def Q1 (k : Nat) (a1 : Arg) (z1217 : (List (List UInt8))) : Option Out := q1 a1 z1217
theorem Q1_eq (k : Nat) (a1 : Arg) (z1217 : (List (List UInt8))) : X0_0 (blockC 0 (seqC (codeK E k fin (sub [1, 1, 1] C)) K0)) a1 z1217 = Q1 k a1 z1217 := by kernel_rfl
noncomputable def s0 (k : Nat) (a1 : Arg) : ((List (List UInt8)) × (List (List UInt8)) × Int × Int) → Option Out := fun v402 => iterK (N0 k) M0 (blockC 0 (seqC (codeK E k fin (sub [1, 1, 1] C)) K0)) k (T0 a1 v402)
noncomputable def r0 (k : Nat) (a1 : Arg) : ((List (List UInt8)) × (List (List UInt8)) × Int × Int) → Option Out := fun v402 => l0 k a1 (fun z => Q1 k a1 z) v402
theorem s0_eq (k : Nat) (a1 : Arg) : s0 k a1 = r0 k a1 := by
  funext v402;
  have h0 : X0_0 ((blockC 0 (seqC (codeK E k fin (sub [1, 1, 1] C)) K0))) a1 = fun z => Q1 k a1 z := funext fun z => Q1_eq k a1 z
  refine (l0_eq k ((blockC 0 (seqC (codeK E k fin (sub [1, 1, 1] C)) K0))) a1 v402).trans ?_
  rw [h0]
  rfl
noncomputable def p (l0 : ((List (List UInt8)) × (List (List UInt8)) × Int × Int) → Option Out) (a1 : Arg) : Option Out := bif decide ((12 : Int) < (a1.1.length : Int)) then (some (([] : List Seen), (2 : Int), ())) else l0 (a1.1, a1.1, (a1.1.length : Int), (0 : Int))
noncomputable def raw (k : Nat) (a1 : Arg) : Option Out := p (r0 k a1) a1
theorem p_eq (k : Nat) (a1 : Arg) : W k a1 = p (s0 k a1) a1 := by kernel_rfl
theorem raw_eq (k : Nat) (a1 : Arg) : W k a1 = raw k a1 := (p_eq k a1).trans (by rw [s0_eq]; rfl)
theorem ok : Ok prog 119 sig := fn_ok func119 (tl := tl) (gl := gl) (es := []) (fr := []) rfl rfl (by kernel_rfl) (fc impl_PageFault.ok (fc impl_slots.ok (fc impl_hasSlot.ok (fc impl_UnpackCell.ok (fc impl_cellAt.ok (fc impl_look.ok (fn_nil _))))))) (fun _ => rfl)
end impl_view
namespace impl_PagesFault
/-! loop example g00408 impl PagesFault -/
abbrev Arg : Type := (List (List UInt8)) × Unit
abbrev Out : Type := Int × Unit
noncomputable def ps : PQ := [(.ro, (.slc (.slc u8)))]
noncomputable def rs : RQ := [(i64, (roMd i64))]
noncomputable def tl : TL := []
noncomputable def gl : GL := [(119, impl_view.sig)]
noncomputable def E : Env := { TI := lookN tl, G := lookN gl }
noncomputable def W (k : Nat) (a : Arg) : Option Out := bodyK E k f50 ps rs [] [] a
noncomputable def sem (a : Arg) : Option Out := lift fun k => W k a
noncomputable def sig : Sig := { ps := ps, rs := rs, F := sem }
noncomputable def p (a1 : Arg) : Option Out := (impl_view.sem (a1.1, ())).bind fun r2 => some (r2.2.1, ())
noncomputable def raw (k : Nat) (a1 : Arg) : Option Out := p a1
theorem raw_eq (k : Nat) (a1 : Arg) : W k a1 = raw k a1 := by kernel_rfl
theorem ok : Ok prog 50 sig := fn_ok func50 (tl := tl) (gl := gl) (es := []) (fr := []) rfl rfl (by kernel_rfl) (fc impl_view.ok (fn_nil _)) (fun _ => rfl)
end impl_PagesFault
namespace laws_eqByteS
/-! loop example g00408 laws eqByteS -/
abbrev Arg : Type := (List UInt8) × (List UInt8) × Unit
abbrev Out : Type := Bool × Unit
noncomputable def ps : PQ := [(.ro, (.slc u8)), (.ro, (.slc u8))]
noncomputable def rs : RQ := [(.bool, (roMd .bool))]
noncomputable def tl : TL := [(5, u8), (50, (.slc u8))]
noncomputable def gl : GL := []
noncomputable def E : Env := { TI := lookN tl, G := lookN gl, lv := [(4, [0, 1, 5])], lx := [(0, [])], od := [(6, [0, 1, 2, 3, 4, 5, 6, 7, 8])] }
noncomputable def W (k : Nat) (a : Arg) : Option Out := bodyK E k f53 ps rs [] [] a
noncomputable def sem (a : Arg) : Option Out := lift fun k => W k a
noncomputable def sig : Sig := { ps := ps, rs := rs, F := sem }
noncomputable def C : Code := bodyOf f53
noncomputable def fin : St → Option Out := outK ps rs [] (Func.results f53).toList (mvs [])
noncomputable def K0 : Ex → St → Option Out := endK fin
noncomputable def T0 (a1 : Arg) (v402 : Int) : St := { n := 26, sl := [(0, .val (.slc u8) a1.1), (1, .val (.slc u8) a1.2.1), (5, .val i64 v402)], vr := [], lent := [] }
noncomputable def N0 (k : Nat) : St → (Ex → St → Option Out) → Option Out := codeK E k fin (sub [1, 1, 0, 1, 0, 0] C)
noncomputable def M0 : St → St := keepF [0, 1, 5] []
noncomputable def S0 (rec : RT Out) (a1 : Arg) : (Int) → Option Out := fun v402 => rec (T0 a1 v402)
noncomputable def X0_0 (K : KT Out) (a1 : Arg) : (Unit) → Option Out := fun z => K (.exit 0) ({ n := 26, sl := [], vr := [], lent := [] })
noncomputable def b0 (self : Int → Option Out) (e0 : (Unit) → Option Out) (a1 : Arg) (v402 : Int) : Option Out := bif decide (v402 < (a1.1.length : Int)) then (if 0 ≤ v402 then ((a1.1[v402.toNat]?).bind fun x603 => if 0 ≤ v402 then ((a1.2.1[v402.toNat]?).bind fun x604 => bif !decide ((x603.toNat : Int) = (x604.toNat : Int)) then (some (false, ())) else self (w64 (v402 + (1 : Int)))) else none) else none) else e0 ()
noncomputable def B0 (k : Nat) (self : Int → Option Out) (e0 : (Unit) → Option Out) (a1 : Arg) (v402 : Int) : Option Out := b0 self e0 a1 v402
theorem B0_eq (k : Nat) (rec : RT Out) (K : KT Out) (a1 : Arg) (v402 : Int) : N0 k (T0 a1 v402) (loopC rec M0 K) = B0 k (S0 rec a1) (X0_0 K a1) a1 v402 := by kernel_rfl
noncomputable def l0 (k : Nat) (a1 : Arg) (e0 : (Unit) → Option Out) (v : Int) : Option Out := rawIter (fun self v => B0 k self e0 a1 v) k v
theorem l0_eq (k : Nat) (K : KT Out) (a1 : Arg) (v402 : Int) : iterK (N0 k) M0 K k (T0 a1 v402) = l0 k a1 (X0_0 K a1) v402 :=
  iter_raw _ _ K (fun v402 => (T0 a1 v402)) (fun self v => B0 k self (X0_0 K a1) a1 v) (fun rec v => B0_eq k rec K a1 v) k v402
noncomputable def q0 (a1 : Arg) (z605 : (Unit)) : Option Out := some (true, ())
noncomputable def Q0 (k : Nat) (a1 : Arg) (z605 : (Unit)) : Option Out := q0 a1 z605
theorem Q0_eq (k : Nat) (a1 : Arg) (z605 : (Unit)) : X0_0 (blockC 0 (seqC (codeK E k fin (sub [1, 1, 1] C)) K0)) a1 z605 = Q0 k a1 z605 := by kernel_rfl
noncomputable def s0 (k : Nat) (a1 : Arg) : (Int) → Option Out := fun v402 => iterK (N0 k) M0 (blockC 0 (seqC (codeK E k fin (sub [1, 1, 1] C)) K0)) k (T0 a1 v402)
noncomputable def r0 (k : Nat) (a1 : Arg) : (Int) → Option Out := fun v402 => l0 k a1 (fun z => Q0 k a1 z) v402
theorem s0_eq (k : Nat) (a1 : Arg) : s0 k a1 = r0 k a1 := by
  funext v402;
  have h0 : X0_0 ((blockC 0 (seqC (codeK E k fin (sub [1, 1, 1] C)) K0))) a1 = fun z => Q0 k a1 z := funext fun z => Q0_eq k a1 z
  refine (l0_eq k ((blockC 0 (seqC (codeK E k fin (sub [1, 1, 1] C)) K0))) a1 v402).trans ?_
  rw [h0]
  rfl
noncomputable def p (l0 : (Int) → Option Out) (a1 : Arg) : Option Out := bif !decide ((a1.1.length : Int) = (a1.2.1.length : Int)) then (some (false, ())) else l0 (0 : Int)
noncomputable def raw (k : Nat) (a1 : Arg) : Option Out := p (r0 k a1) a1
theorem p_eq (k : Nat) (a1 : Arg) : W k a1 = p (s0 k a1) a1 := by kernel_rfl
theorem raw_eq (k : Nat) (a1 : Arg) : W k a1 = raw k a1 := (p_eq k a1).trans (by rw [s0_eq]; rfl)
theorem ok : Ok prog 53 sig := fn_ok func53 (tl := tl) (gl := gl) (es := []) (fr := []) rfl rfl (by kernel_rfl) (fn_nil _) (fun _ => rfl)
end laws_eqByteS
namespace laws_eqByteSS
/-! loop example g00408 laws eqByteSS -/
abbrev Arg : Type := (List (List UInt8)) × (List (List UInt8)) × Unit
abbrev Out : Type := Bool × Unit
noncomputable def ps : PQ := [(.ro, (.slc (.slc u8))), (.ro, (.slc (.slc u8)))]
noncomputable def rs : RQ := [(.bool, (roMd .bool))]
noncomputable def tl : TL := [(22, (.slc (.slc u8))), (50, (.slc u8))]
noncomputable def gl : GL := [(53, laws_eqByteS.sig)]
noncomputable def E : Env := { TI := lookN tl, G := lookN gl, lv := [(4, [0, 1, 5])], lx := [(0, [])], od := [(6, [0, 1, 2, 3, 4, 5, 6, 7, 8, 9])] }
noncomputable def W (k : Nat) (a : Arg) : Option Out := bodyK E k f12 ps rs [] [] a
noncomputable def sem (a : Arg) : Option Out := lift fun k => W k a
noncomputable def sig : Sig := { ps := ps, rs := rs, F := sem }
noncomputable def C : Code := bodyOf f12
noncomputable def fin : St → Option Out := outK ps rs [] (Func.results f12).toList (mvs [])
noncomputable def K0 : Ex → St → Option Out := endK fin
noncomputable def T0 (a1 : Arg) (v402 : Int) : St := { n := 27, sl := [(0, .val (.slc (.slc u8)) a1.1), (1, .val (.slc (.slc u8)) a1.2.1), (5, .val i64 v402)], vr := [], lent := [] }
noncomputable def N0 (k : Nat) : St → (Ex → St → Option Out) → Option Out := codeK E k fin (sub [1, 1, 0, 1, 0, 0] C)
noncomputable def M0 : St → St := keepF [0, 1, 5] []
noncomputable def S0 (rec : RT Out) (a1 : Arg) : (Int) → Option Out := fun v402 => rec (T0 a1 v402)
noncomputable def X0_0 (K : KT Out) (a1 : Arg) : (Unit) → Option Out := fun z => K (.exit 0) ({ n := 27, sl := [], vr := [], lent := [] })
noncomputable def b0 (self : Int → Option Out) (e0 : (Unit) → Option Out) (a1 : Arg) (v402 : Int) : Option Out := bif decide (v402 < (a1.1.length : Int)) then (if 0 ≤ v402 then ((a1.1[v402.toNat]?).bind fun x603 => if 0 ≤ v402 then ((a1.2.1[v402.toNat]?).bind fun x604 => (laws_eqByteS.sem (x603, x604, ())).bind fun r605 => bif !r605.1 then (some (false, ())) else self (w64 (v402 + (1 : Int)))) else none) else none) else e0 ()
noncomputable def B0 (k : Nat) (self : Int → Option Out) (e0 : (Unit) → Option Out) (a1 : Arg) (v402 : Int) : Option Out := b0 self e0 a1 v402
theorem B0_eq (k : Nat) (rec : RT Out) (K : KT Out) (a1 : Arg) (v402 : Int) : N0 k (T0 a1 v402) (loopC rec M0 K) = B0 k (S0 rec a1) (X0_0 K a1) a1 v402 := by kernel_rfl
noncomputable def l0 (k : Nat) (a1 : Arg) (e0 : (Unit) → Option Out) (v : Int) : Option Out := rawIter (fun self v => B0 k self e0 a1 v) k v
theorem l0_eq (k : Nat) (K : KT Out) (a1 : Arg) (v402 : Int) : iterK (N0 k) M0 K k (T0 a1 v402) = l0 k a1 (X0_0 K a1) v402 :=
  iter_raw _ _ K (fun v402 => (T0 a1 v402)) (fun self v => B0 k self (X0_0 K a1) a1 v) (fun rec v => B0_eq k rec K a1 v) k v402
noncomputable def q0 (a1 : Arg) (z606 : (Unit)) : Option Out := some (true, ())
noncomputable def Q0 (k : Nat) (a1 : Arg) (z606 : (Unit)) : Option Out := q0 a1 z606
theorem Q0_eq (k : Nat) (a1 : Arg) (z606 : (Unit)) : X0_0 (blockC 0 (seqC (codeK E k fin (sub [1, 1, 1] C)) K0)) a1 z606 = Q0 k a1 z606 := by kernel_rfl
noncomputable def s0 (k : Nat) (a1 : Arg) : (Int) → Option Out := fun v402 => iterK (N0 k) M0 (blockC 0 (seqC (codeK E k fin (sub [1, 1, 1] C)) K0)) k (T0 a1 v402)
noncomputable def r0 (k : Nat) (a1 : Arg) : (Int) → Option Out := fun v402 => l0 k a1 (fun z => Q0 k a1 z) v402
theorem s0_eq (k : Nat) (a1 : Arg) : s0 k a1 = r0 k a1 := by
  funext v402;
  have h0 : X0_0 ((blockC 0 (seqC (codeK E k fin (sub [1, 1, 1] C)) K0))) a1 = fun z => Q0 k a1 z := funext fun z => Q0_eq k a1 z
  refine (l0_eq k ((blockC 0 (seqC (codeK E k fin (sub [1, 1, 1] C)) K0))) a1 v402).trans ?_
  rw [h0]
  rfl
noncomputable def p (l0 : (Int) → Option Out) (a1 : Arg) : Option Out := bif !decide ((a1.1.length : Int) = (a1.2.1.length : Int)) then (some (false, ())) else l0 (0 : Int)
noncomputable def raw (k : Nat) (a1 : Arg) : Option Out := p (r0 k a1) a1
theorem p_eq (k : Nat) (a1 : Arg) : W k a1 = p (s0 k a1) a1 := by kernel_rfl
theorem raw_eq (k : Nat) (a1 : Arg) : W k a1 = raw k a1 := (p_eq k a1).trans (by rw [s0_eq]; rfl)
theorem ok : Ok prog 12 sig := fn_ok func12 (tl := tl) (gl := gl) (es := []) (fr := []) rfl rfl (by kernel_rfl) (fc laws_eqByteS.ok (fn_nil _)) (fun _ => rfl)
end laws_eqByteSS
namespace laws_eqRow
/-! loop example g00408 laws eqRow -/
abbrev Arg : Type := Row × Row × Unit
abbrev Out : Type := Bool × Unit
noncomputable def ps : PQ := [(.ro, tRow), (.ro, tRow)]
noncomputable def rs : RQ := [(.bool, (roMd .bool))]
noncomputable def tl : TL := [(2, i64), (9, .str), (75, tRow)]
noncomputable def gl : GL := []
noncomputable def E : Env := { TI := lookN tl, G := lookN gl }
noncomputable def W (k : Nat) (a : Arg) : Option Out := bodyK E k f227 ps rs [] [] a
noncomputable def sem (a : Arg) : Option Out := lift fun k => W k a
noncomputable def sig : Sig := { ps := ps, rs := rs, F := sem }
noncomputable def p (a1 : Arg) : Option Out := bif !decide (a1.1.1 = a1.2.1.1) then (some (false, ())) else bif !decide (a1.1.2.1 = a1.2.1.2.1) then (some (false, ())) else bif !decide (a1.1.2.2.1 = a1.2.1.2.2.1) then (some (false, ())) else bif !decide (a1.1.2.2.2.1 = a1.2.1.2.2.2.1) then (some (false, ())) else some (true, ())
noncomputable def raw (k : Nat) (a1 : Arg) : Option Out := p a1
theorem raw_eq (k : Nat) (a1 : Arg) : W k a1 = raw k a1 := by kernel_rfl
theorem ok : Ok prog 227 sig := fn_ok func227 (tl := tl) (gl := gl) (es := []) (fr := []) rfl rfl (by kernel_rfl) (fn_nil _) (fun _ => rfl)
end laws_eqRow
namespace laws_eqChange
/-! loop example g00408 laws eqChange -/
abbrev Arg : Type := Change × Change × Unit
abbrev Out : Type := Bool × Unit
noncomputable def ps : PQ := [(.ro, tChange), (.ro, tChange)]
noncomputable def rs : RQ := [(.bool, (roMd .bool))]
noncomputable def tl : TL := [(4, .bool), (75, tRow), (81, tChange)]
noncomputable def gl : GL := [(227, laws_eqRow.sig)]
noncomputable def E : Env := { TI := lookN tl, G := lookN gl }
noncomputable def W (k : Nat) (a : Arg) : Option Out := bodyK E k f185 ps rs [] [] a
noncomputable def sem (a : Arg) : Option Out := lift fun k => W k a
noncomputable def sig : Sig := { ps := ps, rs := rs, F := sem }
noncomputable def p (a1 : Arg) : Option Out := bif !(a1.1.1 == a1.2.1.1) then (some (false, ())) else (laws_eqRow.sem (a1.1.2.1, a1.2.1.2.1, ())).bind fun r2 => bif !r2.1 then (some (false, ())) else bif !(a1.1.2.2.1 == a1.2.1.2.2.1) then (some (false, ())) else (laws_eqRow.sem (a1.1.2.2.2.1, a1.2.1.2.2.2.1, ())).bind fun r3 => bif !r3.1 then (some (false, ())) else some (true, ())
noncomputable def raw (k : Nat) (a1 : Arg) : Option Out := p a1
theorem raw_eq (k : Nat) (a1 : Arg) : W k a1 = raw k a1 := by kernel_rfl
theorem ok : Ok prog 185 sig := fn_ok func185 (tl := tl) (gl := gl) (es := []) (fr := []) rfl rfl (by kernel_rfl) (fc laws_eqRow.ok (fn_nil _)) (fun _ => rfl)
end laws_eqChange
namespace laws_eqChangeS
/-! loop example g00408 laws eqChangeS -/
abbrev Arg : Type := (List Change) × (List Change) × Unit
abbrev Out : Type := Bool × Unit
noncomputable def ps : PQ := [(.ro, (.slc tChange)), (.ro, (.slc tChange))]
noncomputable def rs : RQ := [(.bool, (roMd .bool))]
noncomputable def tl : TL := [(24, (.slc tChange)), (81, tChange)]
noncomputable def gl : GL := [(185, laws_eqChange.sig)]
noncomputable def E : Env := { TI := lookN tl, G := lookN gl, lv := [(4, [0, 1, 5])], lx := [(0, [])], od := [(6, [0, 1, 2, 3, 4, 5, 6, 7, 8, 9])] }
noncomputable def W (k : Nat) (a : Arg) : Option Out := bodyK E k f121 ps rs [] [] a
noncomputable def sem (a : Arg) : Option Out := lift fun k => W k a
noncomputable def sig : Sig := { ps := ps, rs := rs, F := sem }
noncomputable def C : Code := bodyOf f121
noncomputable def fin : St → Option Out := outK ps rs [] (Func.results f121).toList (mvs [])
noncomputable def K0 : Ex → St → Option Out := endK fin
noncomputable def T0 (a1 : Arg) (v402 : Int) : St := { n := 27, sl := [(0, .val (.slc tChange) a1.1), (1, .val (.slc tChange) a1.2.1), (5, .val i64 v402)], vr := [], lent := [] }
noncomputable def N0 (k : Nat) : St → (Ex → St → Option Out) → Option Out := codeK E k fin (sub [1, 1, 0, 1, 0, 0] C)
noncomputable def M0 : St → St := keepF [0, 1, 5] []
noncomputable def S0 (rec : RT Out) (a1 : Arg) : (Int) → Option Out := fun v402 => rec (T0 a1 v402)
noncomputable def X0_0 (K : KT Out) (a1 : Arg) : (Unit) → Option Out := fun z => K (.exit 0) ({ n := 27, sl := [], vr := [], lent := [] })
noncomputable def b0 (self : Int → Option Out) (e0 : (Unit) → Option Out) (a1 : Arg) (v402 : Int) : Option Out := bif decide (v402 < (a1.1.length : Int)) then (if 0 ≤ v402 then ((a1.1[v402.toNat]?).bind fun x603 => if 0 ≤ v402 then ((a1.2.1[v402.toNat]?).bind fun x604 => (laws_eqChange.sem (x603, x604, ())).bind fun r605 => bif !r605.1 then (some (false, ())) else self (w64 (v402 + (1 : Int)))) else none) else none) else e0 ()
noncomputable def B0 (k : Nat) (self : Int → Option Out) (e0 : (Unit) → Option Out) (a1 : Arg) (v402 : Int) : Option Out := b0 self e0 a1 v402
theorem B0_eq (k : Nat) (rec : RT Out) (K : KT Out) (a1 : Arg) (v402 : Int) : N0 k (T0 a1 v402) (loopC rec M0 K) = B0 k (S0 rec a1) (X0_0 K a1) a1 v402 := by kernel_rfl
noncomputable def l0 (k : Nat) (a1 : Arg) (e0 : (Unit) → Option Out) (v : Int) : Option Out := rawIter (fun self v => B0 k self e0 a1 v) k v
theorem l0_eq (k : Nat) (K : KT Out) (a1 : Arg) (v402 : Int) : iterK (N0 k) M0 K k (T0 a1 v402) = l0 k a1 (X0_0 K a1) v402 :=
  iter_raw _ _ K (fun v402 => (T0 a1 v402)) (fun self v => B0 k self (X0_0 K a1) a1 v) (fun rec v => B0_eq k rec K a1 v) k v402
noncomputable def q0 (a1 : Arg) (z606 : (Unit)) : Option Out := some (true, ())
noncomputable def Q0 (k : Nat) (a1 : Arg) (z606 : (Unit)) : Option Out := q0 a1 z606
theorem Q0_eq (k : Nat) (a1 : Arg) (z606 : (Unit)) : X0_0 (blockC 0 (seqC (codeK E k fin (sub [1, 1, 1] C)) K0)) a1 z606 = Q0 k a1 z606 := by kernel_rfl
noncomputable def s0 (k : Nat) (a1 : Arg) : (Int) → Option Out := fun v402 => iterK (N0 k) M0 (blockC 0 (seqC (codeK E k fin (sub [1, 1, 1] C)) K0)) k (T0 a1 v402)
noncomputable def r0 (k : Nat) (a1 : Arg) : (Int) → Option Out := fun v402 => l0 k a1 (fun z => Q0 k a1 z) v402
theorem s0_eq (k : Nat) (a1 : Arg) : s0 k a1 = r0 k a1 := by
  funext v402;
  have h0 : X0_0 ((blockC 0 (seqC (codeK E k fin (sub [1, 1, 1] C)) K0))) a1 = fun z => Q0 k a1 z := funext fun z => Q0_eq k a1 z
  refine (l0_eq k ((blockC 0 (seqC (codeK E k fin (sub [1, 1, 1] C)) K0))) a1 v402).trans ?_
  rw [h0]
  rfl
noncomputable def p (l0 : (Int) → Option Out) (a1 : Arg) : Option Out := bif !decide ((a1.1.length : Int) = (a1.2.1.length : Int)) then (some (false, ())) else l0 (0 : Int)
noncomputable def raw (k : Nat) (a1 : Arg) : Option Out := p (r0 k a1) a1
theorem p_eq (k : Nat) (a1 : Arg) : W k a1 = p (s0 k a1) a1 := by kernel_rfl
theorem raw_eq (k : Nat) (a1 : Arg) : W k a1 = raw k a1 := (p_eq k a1).trans (by rw [s0_eq]; rfl)
theorem ok : Ok prog 121 sig := fn_ok func121 (tl := tl) (gl := gl) (es := []) (fr := []) rfl rfl (by kernel_rfl) (fc laws_eqChange.ok (fn_nil _)) (fun _ => rfl)
end laws_eqChangeS
namespace laws_eqBuffer
/-! loop example g00408 laws eqBuffer -/
abbrev Arg : Type := Buffer × Buffer × Unit
abbrev Out : Type := Bool × Unit
noncomputable def ps : PQ := [(.ro, tBuffer), (.ro, tBuffer)]
noncomputable def rs : RQ := [(.bool, (roMd .bool))]
noncomputable def tl : TL := [(2, i64), (24, (.slc tChange)), (192, tBuffer)]
noncomputable def gl : GL := [(121, laws_eqChangeS.sig)]
noncomputable def E : Env := { TI := lookN tl, G := lookN gl }
noncomputable def W (k : Nat) (a : Arg) : Option Out := bodyK E k f196 ps rs [] [] a
noncomputable def sem (a : Arg) : Option Out := lift fun k => W k a
noncomputable def sig : Sig := { ps := ps, rs := rs, F := sem }
noncomputable def p (a1 : Arg) : Option Out := bif !decide (a1.1.1 = a1.2.1.1) then (some (false, ())) else (laws_eqChangeS.sem (a1.1.2.1, a1.2.1.2.1, ())).bind fun r2 => bif !r2.1 then (some (false, ())) else some (true, ())
noncomputable def raw (k : Nat) (a1 : Arg) : Option Out := p a1
theorem raw_eq (k : Nat) (a1 : Arg) : W k a1 = raw k a1 := by kernel_rfl
theorem ok : Ok prog 196 sig := fn_ok func196 (tl := tl) (gl := gl) (es := []) (fr := []) rfl rfl (by kernel_rfl) (fc laws_eqChangeS.ok (fn_nil _)) (fun _ => rfl)
end laws_eqBuffer
namespace laws_eqBufferS
/-! loop example g00408 laws eqBufferS -/
abbrev Arg : Type := (List Buffer) × (List Buffer) × Unit
abbrev Out : Type := Bool × Unit
noncomputable def ps : PQ := [(.ro, (.slc tBuffer)), (.ro, (.slc tBuffer))]
noncomputable def rs : RQ := [(.bool, (roMd .bool))]
noncomputable def tl : TL := [(27, (.slc tBuffer)), (192, tBuffer)]
noncomputable def gl : GL := [(196, laws_eqBuffer.sig)]
noncomputable def E : Env := { TI := lookN tl, G := lookN gl, lv := [(4, [0, 1, 5])], lx := [(0, [])], od := [(6, [0, 1, 2, 3, 4, 5, 6, 7, 8, 9])] }
noncomputable def W (k : Nat) (a : Arg) : Option Out := bodyK E k f132 ps rs [] [] a
noncomputable def sem (a : Arg) : Option Out := lift fun k => W k a
noncomputable def sig : Sig := { ps := ps, rs := rs, F := sem }
noncomputable def C : Code := bodyOf f132
noncomputable def fin : St → Option Out := outK ps rs [] (Func.results f132).toList (mvs [])
noncomputable def K0 : Ex → St → Option Out := endK fin
noncomputable def T0 (a1 : Arg) (v402 : Int) : St := { n := 27, sl := [(0, .val (.slc tBuffer) a1.1), (1, .val (.slc tBuffer) a1.2.1), (5, .val i64 v402)], vr := [], lent := [] }
noncomputable def N0 (k : Nat) : St → (Ex → St → Option Out) → Option Out := codeK E k fin (sub [1, 1, 0, 1, 0, 0] C)
noncomputable def M0 : St → St := keepF [0, 1, 5] []
noncomputable def S0 (rec : RT Out) (a1 : Arg) : (Int) → Option Out := fun v402 => rec (T0 a1 v402)
noncomputable def X0_0 (K : KT Out) (a1 : Arg) : (Unit) → Option Out := fun z => K (.exit 0) ({ n := 27, sl := [], vr := [], lent := [] })
noncomputable def b0 (self : Int → Option Out) (e0 : (Unit) → Option Out) (a1 : Arg) (v402 : Int) : Option Out := bif decide (v402 < (a1.1.length : Int)) then (if 0 ≤ v402 then ((a1.1[v402.toNat]?).bind fun x603 => if 0 ≤ v402 then ((a1.2.1[v402.toNat]?).bind fun x604 => (laws_eqBuffer.sem (x603, x604, ())).bind fun r605 => bif !r605.1 then (some (false, ())) else self (w64 (v402 + (1 : Int)))) else none) else none) else e0 ()
noncomputable def B0 (k : Nat) (self : Int → Option Out) (e0 : (Unit) → Option Out) (a1 : Arg) (v402 : Int) : Option Out := b0 self e0 a1 v402
theorem B0_eq (k : Nat) (rec : RT Out) (K : KT Out) (a1 : Arg) (v402 : Int) : N0 k (T0 a1 v402) (loopC rec M0 K) = B0 k (S0 rec a1) (X0_0 K a1) a1 v402 := by kernel_rfl
noncomputable def l0 (k : Nat) (a1 : Arg) (e0 : (Unit) → Option Out) (v : Int) : Option Out := rawIter (fun self v => B0 k self e0 a1 v) k v
theorem l0_eq (k : Nat) (K : KT Out) (a1 : Arg) (v402 : Int) : iterK (N0 k) M0 K k (T0 a1 v402) = l0 k a1 (X0_0 K a1) v402 :=
  iter_raw _ _ K (fun v402 => (T0 a1 v402)) (fun self v => B0 k self (X0_0 K a1) a1 v) (fun rec v => B0_eq k rec K a1 v) k v402
noncomputable def q0 (a1 : Arg) (z606 : (Unit)) : Option Out := some (true, ())
noncomputable def Q0 (k : Nat) (a1 : Arg) (z606 : (Unit)) : Option Out := q0 a1 z606
theorem Q0_eq (k : Nat) (a1 : Arg) (z606 : (Unit)) : X0_0 (blockC 0 (seqC (codeK E k fin (sub [1, 1, 1] C)) K0)) a1 z606 = Q0 k a1 z606 := by kernel_rfl
noncomputable def s0 (k : Nat) (a1 : Arg) : (Int) → Option Out := fun v402 => iterK (N0 k) M0 (blockC 0 (seqC (codeK E k fin (sub [1, 1, 1] C)) K0)) k (T0 a1 v402)
noncomputable def r0 (k : Nat) (a1 : Arg) : (Int) → Option Out := fun v402 => l0 k a1 (fun z => Q0 k a1 z) v402
theorem s0_eq (k : Nat) (a1 : Arg) : s0 k a1 = r0 k a1 := by
  funext v402;
  have h0 : X0_0 ((blockC 0 (seqC (codeK E k fin (sub [1, 1, 1] C)) K0))) a1 = fun z => Q0 k a1 z := funext fun z => Q0_eq k a1 z
  refine (l0_eq k ((blockC 0 (seqC (codeK E k fin (sub [1, 1, 1] C)) K0))) a1 v402).trans ?_
  rw [h0]
  rfl
noncomputable def p (l0 : (Int) → Option Out) (a1 : Arg) : Option Out := bif !decide ((a1.1.length : Int) = (a1.2.1.length : Int)) then (some (false, ())) else l0 (0 : Int)
noncomputable def raw (k : Nat) (a1 : Arg) : Option Out := p (r0 k a1) a1
theorem p_eq (k : Nat) (a1 : Arg) : W k a1 = p (s0 k a1) a1 := by kernel_rfl
theorem raw_eq (k : Nat) (a1 : Arg) : W k a1 = raw k a1 := (p_eq k a1).trans (by rw [s0_eq]; rfl)
theorem ok : Ok prog 132 sig := fn_ok func132 (tl := tl) (gl := gl) (es := []) (fr := []) rfl rfl (by kernel_rfl) (fc laws_eqBuffer.ok (fn_nil _)) (fun _ => rfl)
end laws_eqBufferS
namespace laws_eqMiner
/-! loop example g00408 laws eqMiner -/
abbrev Arg : Type := Miner × Miner × Unit
abbrev Out : Type := Bool × Unit
noncomputable def ps : PQ := [(.ro, tMiner), (.ro, tMiner)]
noncomputable def rs : RQ := [(.bool, (roMd .bool))]
noncomputable def tl : TL := [(22, (.slc (.slc u8))), (27, (.slc tBuffer)), (29, tMiner)]
noncomputable def gl : GL := [(12, laws_eqByteSS.sig), (132, laws_eqBufferS.sig)]
noncomputable def E : Env := { TI := lookN tl, G := lookN gl }
noncomputable def W (k : Nat) (a : Arg) : Option Out := bodyK E k f64 ps rs [] [] a
noncomputable def sem (a : Arg) : Option Out := lift fun k => W k a
noncomputable def sig : Sig := { ps := ps, rs := rs, F := sem }
noncomputable def p (a1 : Arg) : Option Out := (laws_eqByteSS.sem (a1.1.1, a1.2.1.1, ())).bind fun r2 => bif !r2.1 then (some (false, ())) else (laws_eqBufferS.sem (a1.1.2.1, a1.2.1.2.1, ())).bind fun r3 => bif !r3.1 then (some (false, ())) else some (true, ())
noncomputable def raw (k : Nat) (a1 : Arg) : Option Out := p a1
theorem raw_eq (k : Nat) (a1 : Arg) : W k a1 = raw k a1 := by kernel_rfl
theorem ok : Ok prog 64 sig := fn_ok func64 (tl := tl) (gl := gl) (es := []) (fr := []) rfl rfl (by kernel_rfl) (fc laws_eqByteSS.ok (fc laws_eqBufferS.ok (fn_nil _))) (fun _ => rfl)
end laws_eqMiner
namespace laws_eqConnector
/-! loop example g00408 laws eqConnector -/
abbrev Arg : Type := Connector × Connector × Unit
abbrev Out : Type := Bool × Unit
noncomputable def ps : PQ := [(.ro, tConnector), (.ro, tConnector)]
noncomputable def rs : RQ := [(.bool, (roMd .bool))]
noncomputable def tl : TL := [(2, i64), (29, tMiner), (31, tConnector)]
noncomputable def gl : GL := [(64, laws_eqMiner.sig)]
noncomputable def E : Env := { TI := lookN tl, G := lookN gl }
noncomputable def W (k : Nat) (a : Arg) : Option Out := bodyK E k f20 ps rs [] [] a
noncomputable def sem (a : Arg) : Option Out := lift fun k => W k a
noncomputable def sig : Sig := { ps := ps, rs := rs, F := sem }
noncomputable def p (a1 : Arg) : Option Out := (laws_eqMiner.sem (a1.1.1, a1.2.1.1, ())).bind fun r2 => bif !r2.1 then (some (false, ())) else bif !decide (a1.1.2.1 = a1.2.1.2.1) then (some (false, ())) else (laws_eqMiner.sem (a1.1.2.2.1, a1.2.1.2.2.1, ())).bind fun r3 => bif !r3.1 then (some (false, ())) else bif !decide (a1.1.2.2.2.1 = a1.2.1.2.2.2.1) then (some (false, ())) else some (true, ())
noncomputable def raw (k : Nat) (a1 : Arg) : Option Out := p a1
theorem raw_eq (k : Nat) (a1 : Arg) : W k a1 = raw k a1 := by kernel_rfl
theorem ok : Ok prog 20 sig := fn_ok func20 (tl := tl) (gl := gl) (es := []) (fr := []) rfl rfl (by kernel_rfl) (fc laws_eqMiner.ok (fn_nil _)) (fun _ => rfl)
end laws_eqConnector
namespace laws_szRow
/-! loop example g00408 laws szRow -/
abbrev Arg : Type := Row × Int × Unit
abbrev Out : Type := Int × Unit
noncomputable def ps : PQ := [(.ro, tRow), (.ro, i64)]
noncomputable def rs : RQ := [(i64, (roMd i64))]
noncomputable def tl : TL := [(9, .str), (314, tRow)]
noncomputable def gl : GL := []
noncomputable def E : Env := { TI := lookN tl, G := lookN gl }
noncomputable def W (k : Nat) (a : Arg) : Option Out := bodyK E k f269 ps rs [] [] a
noncomputable def sem (a : Arg) : Option Out := lift fun k => W k a
noncomputable def sig : Sig := { ps := ps, rs := rs, F := sem }
noncomputable def p (a1 : Arg) : Option Out := bif decide (w64 (a1.2.1 - (a1.1.2.2.2.1.length : Int)) < (0 : Int)) then (some ((-1 : Int), ())) else some (w64 (a1.2.1 - (a1.1.2.2.2.1.length : Int)), ())
noncomputable def raw (k : Nat) (a1 : Arg) : Option Out := p a1
theorem raw_eq (k : Nat) (a1 : Arg) : W k a1 = raw k a1 := by kernel_rfl
theorem ok : Ok prog 269 sig := fn_ok func269 (tl := tl) (gl := gl) (es := []) (fr := []) rfl rfl (by kernel_rfl) (fn_nil _) (fun _ => rfl)
end laws_szRow
namespace laws_szChange
/-! loop example g00408 laws szChange -/
abbrev Arg : Type := Change × Int × Unit
abbrev Out : Type := Int × Unit
noncomputable def ps : PQ := [(.ro, tChange), (.ro, i64)]
noncomputable def rs : RQ := [(i64, (roMd i64))]
noncomputable def tl : TL := [(314, tRow), (316, tChange)]
noncomputable def gl : GL := [(269, laws_szRow.sig)]
noncomputable def E : Env := { TI := lookN tl, G := lookN gl }
noncomputable def W (k : Nat) (a : Arg) : Option Out := bodyK E k f253 ps rs [] [] a
noncomputable def sem (a : Arg) : Option Out := lift fun k => W k a
noncomputable def sig : Sig := { ps := ps, rs := rs, F := sem }
noncomputable def p (a1 : Arg) : Option Out := (laws_szRow.sem (a1.1.2.1, a1.2.1, ())).bind fun r2 => bif decide (r2.1 < (0 : Int)) then (some ((-1 : Int), ())) else (laws_szRow.sem (a1.1.2.2.2.1, r2.1, ())).bind fun r3 => bif decide (r3.1 < (0 : Int)) then (some ((-1 : Int), ())) else some (r3.1, ())
noncomputable def raw (k : Nat) (a1 : Arg) : Option Out := p a1
theorem raw_eq (k : Nat) (a1 : Arg) : W k a1 = raw k a1 := by kernel_rfl
theorem ok : Ok prog 253 sig := fn_ok func253 (tl := tl) (gl := gl) (es := []) (fr := []) rfl rfl (by kernel_rfl) (fc laws_szRow.ok (fn_nil _)) (fun _ => rfl)
end laws_szChange
namespace laws_szChangeS
/-! loop example g00408 laws szChangeS -/
abbrev Arg : Type := (List Change) × Int × Unit
abbrev Out : Type := Int × Unit
noncomputable def ps : PQ := [(.ro, (.slc tChange)), (.ro, i64)]
noncomputable def rs : RQ := [(i64, (roMd i64))]
noncomputable def tl : TL := [(249, (.slc tChange)), (316, tChange)]
noncomputable def gl : GL := [(253, laws_szChange.sig)]
noncomputable def E : Env := { TI := lookN tl, G := lookN gl, lv := [(5, [0, 1, 5])], lx := [(0, [1])] }
noncomputable def W (k : Nat) (a : Arg) : Option Out := bodyK E k f229 ps rs [] [] a
noncomputable def sem (a : Arg) : Option Out := lift fun k => W k a
noncomputable def sig : Sig := { ps := ps, rs := rs, F := sem }
noncomputable def C : Code := bodyOf f229
noncomputable def fin : St → Option Out := outK ps rs [] (Func.results f229).toList (mvs [])
noncomputable def K0 : Ex → St → Option Out := endK fin
noncomputable def T0 (a1 : Arg) (v402 : Int × Int) : St := { n := 27, sl := [(0, .val (.slc tChange) a1.1), (1, .val i64 v402.1), (5, .val i64 v402.2)], vr := [], lent := [] }
noncomputable def N0 (k : Nat) : St → (Ex → St → Option Out) → Option Out := codeK E k fin (sub [1, 1, 1, 0, 1, 0, 0] C)
noncomputable def M0 : St → St := keepF [0, 1, 5] []
noncomputable def S0 (rec : RT Out) (a1 : Arg) : (Int × Int) → Option Out := fun v402 => rec (T0 a1 v402)
noncomputable def X0_0 (K : KT Out) (a1 : Arg) : Int → Option Out := fun z => K (.exit 0) ({ n := 27, sl := [(1, .val i64 z)], vr := [], lent := [] })
noncomputable def b0 (self : (Int × Int) → Option Out) (e0 : Int → Option Out) (a1 : Arg) (v402 : Int × Int) : Option Out := bif decide (v402.2 < (a1.1.length : Int)) then (if 0 ≤ v402.2 then ((a1.1[v402.2.toNat]?).bind fun x603 => (laws_szChange.sem (x603, v402.1, ())).bind fun r604 => bif decide (r604.1 < (0 : Int)) then (some ((-1 : Int), ())) else self (r604.1, w64 (v402.2 + (1 : Int)))) else none) else e0 v402.1
noncomputable def B0 (k : Nat) (self : (Int × Int) → Option Out) (e0 : Int → Option Out) (a1 : Arg) (v402 : Int × Int) : Option Out := b0 self e0 a1 v402
theorem B0_eq (k : Nat) (rec : RT Out) (K : KT Out) (a1 : Arg) (v402 : Int × Int) : N0 k (T0 a1 v402) (loopC rec M0 K) = B0 k (S0 rec a1) (X0_0 K a1) a1 v402 := by kernel_rfl
noncomputable def l0 (k : Nat) (a1 : Arg) (e0 : Int → Option Out) (v : Int × Int) : Option Out := rawIter (fun self v => B0 k self e0 a1 v) k v
theorem l0_eq (k : Nat) (K : KT Out) (a1 : Arg) (v402 : Int × Int) : iterK (N0 k) M0 K k (T0 a1 v402) = l0 k a1 (X0_0 K a1) v402 :=
  iter_raw _ _ K (fun v402 => (T0 a1 v402)) (fun self v => B0 k self (X0_0 K a1) a1 v) (fun rec v => B0_eq k rec K a1 v) k v402
noncomputable def q0 (a1 : Arg) (z605 : Int) : Option Out := some (z605, ())
noncomputable def Q0 (k : Nat) (a1 : Arg) (z605 : Int) : Option Out := q0 a1 z605
theorem Q0_eq (k : Nat) (a1 : Arg) (z605 : Int) : X0_0 (blockC 0 (seqC (codeK E k fin (sub [1, 1, 1, 1] C)) K0)) a1 z605 = Q0 k a1 z605 := by kernel_rfl
noncomputable def s0 (k : Nat) (a1 : Arg) : (Int × Int) → Option Out := fun v402 => iterK (N0 k) M0 (blockC 0 (seqC (codeK E k fin (sub [1, 1, 1, 1] C)) K0)) k (T0 a1 v402)
noncomputable def r0 (k : Nat) (a1 : Arg) : (Int × Int) → Option Out := fun v402 => l0 k a1 (fun z => Q0 k a1 z) v402
theorem s0_eq (k : Nat) (a1 : Arg) : s0 k a1 = r0 k a1 := by
  funext v402;
  have h0 : X0_0 ((blockC 0 (seqC (codeK E k fin (sub [1, 1, 1, 1] C)) K0))) a1 = fun z => Q0 k a1 z := funext fun z => Q0_eq k a1 z
  refine (l0_eq k ((blockC 0 (seqC (codeK E k fin (sub [1, 1, 1, 1] C)) K0))) a1 v402).trans ?_
  rw [h0]
  rfl
noncomputable def p (l0 : (Int × Int) → Option Out) (a1 : Arg) : Option Out := bif decide (w64 (a1.2.1 - (a1.1.length : Int)) < (0 : Int)) then (some ((-1 : Int), ())) else l0 (w64 (a1.2.1 - (a1.1.length : Int)), (0 : Int))
noncomputable def raw (k : Nat) (a1 : Arg) : Option Out := p (r0 k a1) a1
theorem p_eq (k : Nat) (a1 : Arg) : W k a1 = p (s0 k a1) a1 := by kernel_rfl
theorem raw_eq (k : Nat) (a1 : Arg) : W k a1 = raw k a1 := (p_eq k a1).trans (by rw [s0_eq]; rfl)
theorem ok : Ok prog 229 sig := fn_ok func229 (tl := tl) (gl := gl) (es := []) (fr := []) rfl rfl (by kernel_rfl) (fc laws_szChange.ok (fn_nil _)) (fun _ => rfl)
end laws_szChangeS
namespace laws_szBuffer
/-! loop example g00408 laws szBuffer -/
abbrev Arg : Type := Buffer × Int × Unit
abbrev Out : Type := Int × Unit
noncomputable def ps : PQ := [(.ro, tBuffer), (.ro, i64)]
noncomputable def rs : RQ := [(i64, (roMd i64))]
noncomputable def tl : TL := [(249, (.slc tChange)), (251, tBuffer)]
noncomputable def gl : GL := [(229, laws_szChangeS.sig)]
noncomputable def E : Env := { TI := lookN tl, G := lookN gl }
noncomputable def W (k : Nat) (a : Arg) : Option Out := bodyK E k f190 ps rs [] [] a
noncomputable def sem (a : Arg) : Option Out := lift fun k => W k a
noncomputable def sig : Sig := { ps := ps, rs := rs, F := sem }
noncomputable def p (a1 : Arg) : Option Out := (laws_szChangeS.sem (a1.1.2.1, a1.2.1, ())).bind fun r2 => bif decide (r2.1 < (0 : Int)) then (some ((-1 : Int), ())) else some (r2.1, ())
noncomputable def raw (k : Nat) (a1 : Arg) : Option Out := p a1
theorem raw_eq (k : Nat) (a1 : Arg) : W k a1 = raw k a1 := by kernel_rfl
theorem ok : Ok prog 190 sig := fn_ok func190 (tl := tl) (gl := gl) (es := []) (fr := []) rfl rfl (by kernel_rfl) (fc laws_szChangeS.ok (fn_nil _)) (fun _ => rfl)
end laws_szBuffer
namespace laws_szBufferS
/-! loop example g00408 laws szBufferS -/
abbrev Arg : Type := (List Buffer) × Int × Unit
abbrev Out : Type := Int × Unit
noncomputable def ps : PQ := [(.ro, (.slc tBuffer)), (.ro, i64)]
noncomputable def rs : RQ := [(i64, (roMd i64))]
noncomputable def tl : TL := [(40, (.slc tBuffer)), (251, tBuffer)]
noncomputable def gl : GL := [(190, laws_szBuffer.sig)]
noncomputable def E : Env := { TI := lookN tl, G := lookN gl, lv := [(5, [0, 1, 5])], lx := [(0, [1])] }
noncomputable def W (k : Nat) (a : Arg) : Option Out := bodyK E k f126 ps rs [] [] a
noncomputable def sem (a : Arg) : Option Out := lift fun k => W k a
noncomputable def sig : Sig := { ps := ps, rs := rs, F := sem }
noncomputable def C : Code := bodyOf f126
noncomputable def fin : St → Option Out := outK ps rs [] (Func.results f126).toList (mvs [])
noncomputable def K0 : Ex → St → Option Out := endK fin
noncomputable def T0 (a1 : Arg) (v402 : Int × Int) : St := { n := 27, sl := [(0, .val (.slc tBuffer) a1.1), (1, .val i64 v402.1), (5, .val i64 v402.2)], vr := [], lent := [] }
noncomputable def N0 (k : Nat) : St → (Ex → St → Option Out) → Option Out := codeK E k fin (sub [1, 1, 1, 0, 1, 0, 0] C)
noncomputable def M0 : St → St := keepF [0, 1, 5] []
noncomputable def S0 (rec : RT Out) (a1 : Arg) : (Int × Int) → Option Out := fun v402 => rec (T0 a1 v402)
noncomputable def X0_0 (K : KT Out) (a1 : Arg) : Int → Option Out := fun z => K (.exit 0) ({ n := 27, sl := [(1, .val i64 z)], vr := [], lent := [] })
noncomputable def b0 (self : (Int × Int) → Option Out) (e0 : Int → Option Out) (a1 : Arg) (v402 : Int × Int) : Option Out := bif decide (v402.2 < (a1.1.length : Int)) then (if 0 ≤ v402.2 then ((a1.1[v402.2.toNat]?).bind fun x603 => (laws_szBuffer.sem (x603, v402.1, ())).bind fun r604 => bif decide (r604.1 < (0 : Int)) then (some ((-1 : Int), ())) else self (r604.1, w64 (v402.2 + (1 : Int)))) else none) else e0 v402.1
noncomputable def B0 (k : Nat) (self : (Int × Int) → Option Out) (e0 : Int → Option Out) (a1 : Arg) (v402 : Int × Int) : Option Out := b0 self e0 a1 v402
theorem B0_eq (k : Nat) (rec : RT Out) (K : KT Out) (a1 : Arg) (v402 : Int × Int) : N0 k (T0 a1 v402) (loopC rec M0 K) = B0 k (S0 rec a1) (X0_0 K a1) a1 v402 := by kernel_rfl
noncomputable def l0 (k : Nat) (a1 : Arg) (e0 : Int → Option Out) (v : Int × Int) : Option Out := rawIter (fun self v => B0 k self e0 a1 v) k v
theorem l0_eq (k : Nat) (K : KT Out) (a1 : Arg) (v402 : Int × Int) : iterK (N0 k) M0 K k (T0 a1 v402) = l0 k a1 (X0_0 K a1) v402 :=
  iter_raw _ _ K (fun v402 => (T0 a1 v402)) (fun self v => B0 k self (X0_0 K a1) a1 v) (fun rec v => B0_eq k rec K a1 v) k v402
noncomputable def q0 (a1 : Arg) (z605 : Int) : Option Out := some (z605, ())
noncomputable def Q0 (k : Nat) (a1 : Arg) (z605 : Int) : Option Out := q0 a1 z605
theorem Q0_eq (k : Nat) (a1 : Arg) (z605 : Int) : X0_0 (blockC 0 (seqC (codeK E k fin (sub [1, 1, 1, 1] C)) K0)) a1 z605 = Q0 k a1 z605 := by kernel_rfl
noncomputable def s0 (k : Nat) (a1 : Arg) : (Int × Int) → Option Out := fun v402 => iterK (N0 k) M0 (blockC 0 (seqC (codeK E k fin (sub [1, 1, 1, 1] C)) K0)) k (T0 a1 v402)
noncomputable def r0 (k : Nat) (a1 : Arg) : (Int × Int) → Option Out := fun v402 => l0 k a1 (fun z => Q0 k a1 z) v402
theorem s0_eq (k : Nat) (a1 : Arg) : s0 k a1 = r0 k a1 := by
  funext v402;
  have h0 : X0_0 ((blockC 0 (seqC (codeK E k fin (sub [1, 1, 1, 1] C)) K0))) a1 = fun z => Q0 k a1 z := funext fun z => Q0_eq k a1 z
  refine (l0_eq k ((blockC 0 (seqC (codeK E k fin (sub [1, 1, 1, 1] C)) K0))) a1 v402).trans ?_
  rw [h0]
  rfl
noncomputable def p (l0 : (Int × Int) → Option Out) (a1 : Arg) : Option Out := bif decide (w64 (a1.2.1 - (a1.1.length : Int)) < (0 : Int)) then (some ((-1 : Int), ())) else l0 (w64 (a1.2.1 - (a1.1.length : Int)), (0 : Int))
noncomputable def raw (k : Nat) (a1 : Arg) : Option Out := p (r0 k a1) a1
theorem p_eq (k : Nat) (a1 : Arg) : W k a1 = p (s0 k a1) a1 := by kernel_rfl
theorem raw_eq (k : Nat) (a1 : Arg) : W k a1 = raw k a1 := (p_eq k a1).trans (by rw [s0_eq]; rfl)
theorem ok : Ok prog 126 sig := fn_ok func126 (tl := tl) (gl := gl) (es := []) (fr := []) rfl rfl (by kernel_rfl) (fc laws_szBuffer.ok (fn_nil _)) (fun _ => rfl)
end laws_szBufferS
namespace laws_szMiner
/-! loop example g00408 laws szMiner -/
abbrev Arg : Type := Miner × Int × Unit
abbrev Out : Type := Int × Unit
noncomputable def ps : PQ := [(.ro, tMiner), (.ro, i64)]
noncomputable def rs : RQ := [(i64, (roMd i64))]
noncomputable def tl : TL := [(22, (.slc (.slc u8))), (40, (.slc tBuffer)), (42, tMiner)]
noncomputable def gl : GL := [(7, laws_szByteSS.sig), (126, laws_szBufferS.sig)]
noncomputable def E : Env := { TI := lookN tl, G := lookN gl }
noncomputable def W (k : Nat) (a : Arg) : Option Out := bodyK E k f59 ps rs [] [] a
noncomputable def sem (a : Arg) : Option Out := lift fun k => W k a
noncomputable def sig : Sig := { ps := ps, rs := rs, F := sem }
noncomputable def p (a1 : Arg) : Option Out := (laws_szByteSS.sem (a1.1.1, a1.2.1, ())).bind fun r2 => bif decide (r2.1 < (0 : Int)) then (some ((-1 : Int), ())) else (laws_szBufferS.sem (a1.1.2.1, r2.1, ())).bind fun r3 => bif decide (r3.1 < (0 : Int)) then (some ((-1 : Int), ())) else some (r3.1, ())
noncomputable def raw (k : Nat) (a1 : Arg) : Option Out := p a1
theorem raw_eq (k : Nat) (a1 : Arg) : W k a1 = raw k a1 := by kernel_rfl
theorem ok : Ok prog 59 sig := fn_ok func59 (tl := tl) (gl := gl) (es := []) (fr := []) rfl rfl (by kernel_rfl) (fc laws_szByteSS.ok (fc laws_szBufferS.ok (fn_nil _))) (fun _ => rfl)
end laws_szMiner
namespace laws_szConnector
/-! loop example g00408 laws szConnector -/
abbrev Arg : Type := Connector × Int × Unit
abbrev Out : Type := Int × Unit
noncomputable def ps : PQ := [(.ro, tConnector), (.ro, i64)]
noncomputable def rs : RQ := [(i64, (roMd i64))]
noncomputable def tl : TL := [(42, tMiner), (44, tConnector)]
noncomputable def gl : GL := [(59, laws_szMiner.sig)]
noncomputable def E : Env := { TI := lookN tl, G := lookN gl }
noncomputable def W (k : Nat) (a : Arg) : Option Out := bodyK E k f16 ps rs [] [] a
noncomputable def sem (a : Arg) : Option Out := lift fun k => W k a
noncomputable def sig : Sig := { ps := ps, rs := rs, F := sem }
noncomputable def p (a1 : Arg) : Option Out := (laws_szMiner.sem (a1.1.1, a1.2.1, ())).bind fun r2 => bif decide (r2.1 < (0 : Int)) then (some ((-1 : Int), ())) else (laws_szMiner.sem (a1.1.2.2.1, r2.1, ())).bind fun r3 => bif decide (r3.1 < (0 : Int)) then (some ((-1 : Int), ())) else some (r3.1, ())
noncomputable def raw (k : Nat) (a1 : Arg) : Option Out := p a1
theorem raw_eq (k : Nat) (a1 : Arg) : W k a1 = raw k a1 := by kernel_rfl
theorem ok : Ok prog 16 sig := fn_ok func16 (tl := tl) (gl := gl) (es := []) (fr := []) rfl rfl (by kernel_rfl) (fc laws_szMiner.ok (fn_nil _)) (fun _ => rfl)
end laws_szConnector
namespace spec_l6Change
/-! loop example g00408 spec l6Change -/
abbrev Arg : Type := Change × Unit
abbrev Out : Type := Int × Unit
noncomputable def ps : PQ := [(.ro, (.ptr tChange))]
noncomputable def rs : RQ := [(i64, (roMd i64))]
noncomputable def tl : TL := [(2, i64), (4, .bool), (75, tRow), (81, tChange)]
noncomputable def gl : GL := [(160, spec_l1Fault.sig)]
noncomputable def E : Env := { TI := lookN tl, G := lookN gl, od := [(1, [0, 1, 2, 3, 4, 5, 6, 7, 8, 9, 10, 11, 12, 13, 14, 15, 16, 17, 18, 19, 20, 21, 22, 23, 24, 25, 26, 27, 28, 29, 30, 31, 32, 33, 34, 35, 36, 37, 38, 39, 40, 41, 42, 43, 44, 45, 46, 47, 48, 49])] }
noncomputable def W (k : Nat) (a : Arg) : Option Out := bodyK E k f243 ps rs [] [] a
noncomputable def sem (a : Arg) : Option Out := lift fun k => W k a
noncomputable def sig : Sig := { ps := ps, rs := rs, F := sem }
noncomputable def p (a1 : Arg) : Option Out := let j5 : Option Out := bif a1.1.1 then ((spec_l1Fault.sem (a1.1.2.1, ())).bind fun r6 => bif !decide (r6.1 = (0 : Int)) then (some (r6.1, ())) else bif a1.1.2.2.1 then ((spec_l1Fault.sem (a1.1.2.2.2.1, ())).bind fun r8 => some (r8.1, ())) else some ((0 : Int), ())) else bif a1.1.2.2.1 then ((spec_l1Fault.sem (a1.1.2.2.2.1, ())).bind fun r9 => some (r9.1, ())) else some ((0 : Int), ()); bif !a1.1.1 then (bif !a1.1.2.2.1 then (some ((1 : Int), ())) else bif a1.1.1 then (bif a1.1.2.2.1 then (bif !decide (a1.1.2.1.1 = a1.1.2.2.2.1.1) then (some ((1 : Int), ())) else bif !decide (a1.1.2.1.2.1 = a1.1.2.2.2.1.2.1) then (some ((1 : Int), ())) else j5) else j5) else j5) else bif a1.1.1 then (bif a1.1.2.2.1 then (bif !decide (a1.1.2.1.1 = a1.1.2.2.2.1.1) then (some ((1 : Int), ())) else bif !decide (a1.1.2.1.2.1 = a1.1.2.2.2.1.2.1) then (some ((1 : Int), ())) else j5) else j5) else j5
noncomputable def raw (k : Nat) (a1 : Arg) : Option Out := p a1
theorem raw_eq (k : Nat) (a1 : Arg) : W k a1 = raw k a1 := by kernel_rfl
theorem ok : Ok prog 243 sig := fn_ok func243 (tl := tl) (gl := gl) (es := []) (fr := []) rfl rfl (by kernel_rfl) (fc spec_l1Fault.ok (fn_nil _)) (fun _ => rfl)
end spec_l6Change
namespace spec_l9Change
/-! loop example g00408 spec l9Change -/
abbrev Arg : Type := Change × Unit
abbrev Out : Type := Int × Unit
noncomputable def ps : PQ := [(.ro, (.ptr tChange))]
noncomputable def rs : RQ := [(i64, (roMd i64))]
noncomputable def tl : TL := [(4, .bool), (75, tRow), (81, tChange)]
noncomputable def gl : GL := [(243, spec_l6Change.sig)]
noncomputable def E : Env := { TI := lookN tl, G := lookN gl, od := [(4, [0, 1, 2, 3, 4, 5, 6, 7, 8, 9, 10, 11, 12, 13, 14, 15, 16, 17, 18, 19, 20])] }
noncomputable def W (k : Nat) (a : Arg) : Option Out := bodyK E k f208 ps rs [] [] a
noncomputable def sem (a : Arg) : Option Out := lift fun k => W k a
noncomputable def sig : Sig := { ps := ps, rs := rs, F := sem }
noncomputable def p (a1 : Arg) : Option Out := (spec_l6Change.sem (a1.1, ())).bind fun r2 => bif !decide (r2.1 = (0 : Int)) then (some (r2.1, ())) else bif a1.1.1 then (bif a1.1.2.2.1 then (bif (Ty.eq tRow a1.1.2.1 a1.1.2.2.2.1) then (some ((1 : Int), ())) else some ((0 : Int), ())) else some ((0 : Int), ())) else some ((0 : Int), ())
noncomputable def raw (k : Nat) (a1 : Arg) : Option Out := p a1
theorem raw_eq (k : Nat) (a1 : Arg) : W k a1 = raw k a1 := by kernel_rfl
theorem ok : Ok prog 208 sig := fn_ok func208 (tl := tl) (gl := gl) (es := []) (fr := []) rfl rfl (by kernel_rfl) (fc spec_l6Change.ok (fn_nil _)) (fun _ => rfl)
end spec_l9Change
namespace spec_l6Key
/-! loop example g00408 spec l6Key -/
abbrev Arg : Type := Change × Unit
abbrev Out : Type := Int × Int × Unit
noncomputable def ps : PQ := [(.ro, (.ptr tChange))]
noncomputable def rs : RQ := [(i64, (roMd i64)), (i64, (roMd i64))]
noncomputable def tl : TL := [(2, i64), (4, .bool), (75, tRow), (81, tChange)]
noncomputable def gl : GL := []
noncomputable def E : Env := { TI := lookN tl, G := lookN gl, od := [(2, [0, 1, 2, 3, 4, 5, 6, 7, 8, 9, 10, 11]), (3, [0, 1, 2, 3, 4, 5, 6, 7, 8, 9, 10, 11])] }
noncomputable def W (k : Nat) (a : Arg) : Option Out := bodyK E k f241 ps rs [] [] a
noncomputable def sem (a : Arg) : Option Out := lift fun k => W k a
noncomputable def sig : Sig := { ps := ps, rs := rs, F := sem }
noncomputable def p (a1 : Arg) : Option Out := bif a1.1.2.2.1 then (some (a1.1.2.2.2.1.1, a1.1.2.2.2.1.2.1, ())) else some (a1.1.2.1.1, a1.1.2.1.2.1, ())
noncomputable def raw (k : Nat) (a1 : Arg) : Option Out := p a1
theorem raw_eq (k : Nat) (a1 : Arg) : W k a1 = raw k a1 := by kernel_rfl
theorem ok : Ok prog 241 sig := fn_ok func241 (tl := tl) (gl := gl) (es := []) (fr := []) rfl rfl (by kernel_rfl) (fn_nil _) (fun _ => rfl)
end spec_l6Key
namespace spec_l9Ahead
/-! loop example g00408 spec l9Ahead -/
abbrev Arg : Type := Change × Change × Unit
abbrev Out : Type := Bool × Unit
noncomputable def ps : PQ := [(.ro, (.ptr tChange)), (.ro, (.ptr tChange))]
noncomputable def rs : RQ := [(.bool, (roMd .bool))]
noncomputable def tl : TL := []
noncomputable def gl : GL := [(241, spec_l6Key.sig)]
noncomputable def E : Env := { TI := lookN tl, G := lookN gl }
noncomputable def W (k : Nat) (a : Arg) : Option Out := bodyK E k f230 ps rs [] [] a
noncomputable def sem (a : Arg) : Option Out := lift fun k => W k a
noncomputable def sig : Sig := { ps := ps, rs := rs, F := sem }
noncomputable def p (a1 : Arg) : Option Out := (spec_l6Key.sem (a1.1, ())).bind fun r2 => (spec_l6Key.sem (a1.2.1, ())).bind fun r3 => bif decide (r2.1 < r3.1) then (some (true, ())) else bif decide (r2.1 = r3.1) then (some (decide (r2.2.1 < r3.2.1), ())) else some (false, ())
noncomputable def raw (k : Nat) (a1 : Arg) : Option Out := p a1
theorem raw_eq (k : Nat) (a1 : Arg) : W k a1 = raw k a1 := by kernel_rfl
theorem ok : Ok prog 230 sig := fn_ok func230 (tl := tl) (gl := gl) (es := []) (fr := []) rfl rfl (by kernel_rfl) (fc spec_l6Key.ok (fn_nil _)) (fun _ => rfl)
end spec_l9Ahead
namespace spec_l9List
/-! loop example g00408 spec l9List -/
abbrev Arg : Type := (List Change) × Unit
abbrev Out : Type := Int × Unit
noncomputable def ps : PQ := [(.ro, (.slc tChange))]
noncomputable def rs : RQ := [(i64, (roMd i64))]
noncomputable def tl : TL := [(24, (.slc tChange))]
noncomputable def gl : GL := [(208, spec_l9Change.sig), (230, spec_l9Ahead.sig)]
noncomputable def E : Env := { TI := lookN tl, G := lookN gl, lv := [(4, [0, 3])], lx := [(0, [])], od := [(9, [0, 1, 2, 3, 4, 5, 6, 7, 8, 9, 10, 11, 12])] }
noncomputable def W (k : Nat) (a : Arg) : Option Out := bodyK E k f191 ps rs [] [] a
noncomputable def sem (a : Arg) : Option Out := lift fun k => W k a
noncomputable def sig : Sig := { ps := ps, rs := rs, F := sem }
noncomputable def C : Code := bodyOf f191
noncomputable def fin : St → Option Out := outK ps rs [] (Func.results f191).toList (mvs [])
noncomputable def K0 : Ex → St → Option Out := endK fin
noncomputable def T0 (a1 : Arg) (v402 : Int) : St := { n := 34, sl := [(0, .val (.slc tChange) a1.1), (3, .val i64 v402)], vr := [], lent := [] }
noncomputable def N0 (k : Nat) : St → (Ex → St → Option Out) → Option Out := codeK E k fin (sub [1, 1, 0, 1, 0, 0] C)
noncomputable def M0 : St → St := keepF [0, 3] []
noncomputable def S0 (rec : RT Out) (a1 : Arg) : (Int) → Option Out := fun v402 => rec (T0 a1 v402)
noncomputable def X0_0 (K : KT Out) (a1 : Arg) : (Unit) → Option Out := fun z => K (.exit 0) ({ n := 34, sl := [], vr := [], lent := [] })
noncomputable def b0 (self : Int → Option Out) (e0 : (Unit) → Option Out) (a1 : Arg) (v402 : Int) : Option Out := bif decide (v402 < (a1.1.length : Int)) then (if 0 ≤ v402 then ((a1.1[v402.toNat]?).bind fun x603 => (spec_l9Change.sem (x603, ())).bind fun r604 => bif !decide (r604.1 = (0 : Int)) then (some (r604.1, ())) else bif decide ((0 : Int) < v402) then (if 0 ≤ w64 (v402 - (1 : Int)) then ((a1.1[(w64 (v402 - (1 : Int))).toNat]?).bind fun x605 => if 0 ≤ v402 then ((a1.1[v402.toNat]?).bind fun x606 => (spec_l9Ahead.sem (x605, x606, ())).bind fun r607 => bif !r607.1 then (some ((1 : Int), ())) else self (w64 (v402 + (1 : Int)))) else none) else none) else self (w64 (v402 + (1 : Int)))) else none) else e0 ()
noncomputable def B0 (k : Nat) (self : Int → Option Out) (e0 : (Unit) → Option Out) (a1 : Arg) (v402 : Int) : Option Out := b0 self e0 a1 v402
theorem B0_eq (k : Nat) (rec : RT Out) (K : KT Out) (a1 : Arg) (v402 : Int) : N0 k (T0 a1 v402) (loopC rec M0 K) = B0 k (S0 rec a1) (X0_0 K a1) a1 v402 := by kernel_rfl
noncomputable def l0 (k : Nat) (a1 : Arg) (e0 : (Unit) → Option Out) (v : Int) : Option Out := rawIter (fun self v => B0 k self e0 a1 v) k v
theorem l0_eq (k : Nat) (K : KT Out) (a1 : Arg) (v402 : Int) : iterK (N0 k) M0 K k (T0 a1 v402) = l0 k a1 (X0_0 K a1) v402 :=
  iter_raw _ _ K (fun v402 => (T0 a1 v402)) (fun self v => B0 k self (X0_0 K a1) a1 v) (fun rec v => B0_eq k rec K a1 v) k v402
noncomputable def q0 (a1 : Arg) (z608 : (Unit)) : Option Out := some ((0 : Int), ())
noncomputable def Q0 (k : Nat) (a1 : Arg) (z608 : (Unit)) : Option Out := q0 a1 z608
theorem Q0_eq (k : Nat) (a1 : Arg) (z608 : (Unit)) : X0_0 (blockC 0 (seqC (codeK E k fin (sub [1, 1, 1] C)) K0)) a1 z608 = Q0 k a1 z608 := by kernel_rfl
noncomputable def s0 (k : Nat) (a1 : Arg) : (Int) → Option Out := fun v402 => iterK (N0 k) M0 (blockC 0 (seqC (codeK E k fin (sub [1, 1, 1] C)) K0)) k (T0 a1 v402)
noncomputable def r0 (k : Nat) (a1 : Arg) : (Int) → Option Out := fun v402 => l0 k a1 (fun z => Q0 k a1 z) v402
theorem s0_eq (k : Nat) (a1 : Arg) : s0 k a1 = r0 k a1 := by
  funext v402;
  have h0 : X0_0 ((blockC 0 (seqC (codeK E k fin (sub [1, 1, 1] C)) K0))) a1 = fun z => Q0 k a1 z := funext fun z => Q0_eq k a1 z
  refine (l0_eq k ((blockC 0 (seqC (codeK E k fin (sub [1, 1, 1] C)) K0))) a1 v402).trans ?_
  rw [h0]
  rfl
noncomputable def p (l0 : (Int) → Option Out) (a1 : Arg) : Option Out := bif decide ((60 : Int) < (a1.1.length : Int)) then (some ((2 : Int), ())) else l0 (0 : Int)
noncomputable def raw (k : Nat) (a1 : Arg) : Option Out := p (r0 k a1) a1
theorem p_eq (k : Nat) (a1 : Arg) : W k a1 = p (s0 k a1) a1 := by kernel_rfl
theorem raw_eq (k : Nat) (a1 : Arg) : W k a1 = raw k a1 := (p_eq k a1).trans (by rw [s0_eq]; rfl)
theorem ok : Ok prog 191 sig := fn_ok func191 (tl := tl) (gl := gl) (es := []) (fr := []) rfl rfl (by kernel_rfl) (fc spec_l9Change.ok (fc spec_l9Ahead.ok (fn_nil _))) (fun _ => rfl)
end spec_l9List
namespace spec_l9At
/-! loop example g00408 spec l9At -/
abbrev Arg : Type := Miner × Int × Unit
abbrev Out : Type := Int × Unit
noncomputable def ps : PQ := [(.ro, (.ptr tMiner)), (.ro, i64)]
noncomputable def rs : RQ := [(i64, (roMd i64))]
noncomputable def tl : TL := [(2, i64), (27, (.slc tBuffer)), (29, tMiner), (192, tBuffer)]
noncomputable def gl : GL := []
noncomputable def E : Env := { TI := lookN tl, G := lookN gl, lv := [(2, [0, 1, 5])], lx := [(0, [])] }
noncomputable def W (k : Nat) (a : Arg) : Option Out := bodyK E k f192 ps rs [] [] a
noncomputable def sem (a : Arg) : Option Out := lift fun k => W k a
noncomputable def sig : Sig := { ps := ps, rs := rs, F := sem }
noncomputable def C : Code := bodyOf f192
noncomputable def fin : St → Option Out := outK ps rs [] (Func.results f192).toList (mvs [])
noncomputable def K0 : Ex → St → Option Out := endK fin
noncomputable def T0 (a1 : Arg) (v402 : Int) : St := { n := 26, sl := [(0, .cp tMiner a1.1), (1, .val i64 a1.2.1), (5, .val i64 v402)], vr := [], lent := [] }
noncomputable def N0 (k : Nat) : St → (Ex → St → Option Out) → Option Out := codeK E k fin (sub [1, 0, 1, 0, 0] C)
noncomputable def M0 : St → St := keepF [0, 1, 5] []
noncomputable def S0 (rec : RT Out) (a1 : Arg) : (Int) → Option Out := fun v402 => rec (T0 a1 v402)
noncomputable def X0_0 (K : KT Out) (a1 : Arg) : (Unit) → Option Out := fun z => K (.exit 0) ({ n := 26, sl := [], vr := [], lent := [] })
noncomputable def b0 (self : Int → Option Out) (e0 : (Unit) → Option Out) (a1 : Arg) (v402 : Int) : Option Out := bif decide (v402 < (a1.1.2.1.length : Int)) then (if 0 ≤ v402 then ((a1.1.2.1[v402.toNat]?).bind fun x603 => bif decide (x603.1 = a1.2.1) then (some (v402, ())) else self (w64 (v402 + (1 : Int)))) else none) else e0 ()
noncomputable def B0 (k : Nat) (self : Int → Option Out) (e0 : (Unit) → Option Out) (a1 : Arg) (v402 : Int) : Option Out := b0 self e0 a1 v402
theorem B0_eq (k : Nat) (rec : RT Out) (K : KT Out) (a1 : Arg) (v402 : Int) : N0 k (T0 a1 v402) (loopC rec M0 K) = B0 k (S0 rec a1) (X0_0 K a1) a1 v402 := by kernel_rfl
noncomputable def l0 (k : Nat) (a1 : Arg) (e0 : (Unit) → Option Out) (v : Int) : Option Out := rawIter (fun self v => B0 k self e0 a1 v) k v
theorem l0_eq (k : Nat) (K : KT Out) (a1 : Arg) (v402 : Int) : iterK (N0 k) M0 K k (T0 a1 v402) = l0 k a1 (X0_0 K a1) v402 :=
  iter_raw _ _ K (fun v402 => (T0 a1 v402)) (fun self v => B0 k self (X0_0 K a1) a1 v) (fun rec v => B0_eq k rec K a1 v) k v402
noncomputable def q0 (a1 : Arg) (z604 : (Unit)) : Option Out := some ((-1 : Int), ())
noncomputable def Q0 (k : Nat) (a1 : Arg) (z604 : (Unit)) : Option Out := q0 a1 z604
theorem Q0_eq (k : Nat) (a1 : Arg) (z604 : (Unit)) : X0_0 (blockC 0 (seqC (codeK E k fin (sub [1, 1] C)) K0)) a1 z604 = Q0 k a1 z604 := by kernel_rfl
noncomputable def s0 (k : Nat) (a1 : Arg) : (Int) → Option Out := fun v402 => iterK (N0 k) M0 (blockC 0 (seqC (codeK E k fin (sub [1, 1] C)) K0)) k (T0 a1 v402)
noncomputable def r0 (k : Nat) (a1 : Arg) : (Int) → Option Out := fun v402 => l0 k a1 (fun z => Q0 k a1 z) v402
theorem s0_eq (k : Nat) (a1 : Arg) : s0 k a1 = r0 k a1 := by
  funext v402;
  have h0 : X0_0 ((blockC 0 (seqC (codeK E k fin (sub [1, 1] C)) K0))) a1 = fun z => Q0 k a1 z := funext fun z => Q0_eq k a1 z
  refine (l0_eq k ((blockC 0 (seqC (codeK E k fin (sub [1, 1] C)) K0))) a1 v402).trans ?_
  rw [h0]
  rfl
noncomputable def p (l0 : (Int) → Option Out) (a1 : Arg) : Option Out := l0 (0 : Int)
noncomputable def raw (k : Nat) (a1 : Arg) : Option Out := p (r0 k a1) a1
theorem p_eq (k : Nat) (a1 : Arg) : W k a1 = p (s0 k a1) a1 := by kernel_rfl
theorem raw_eq (k : Nat) (a1 : Arg) : W k a1 = raw k a1 := (p_eq k a1).trans (by rw [s0_eq]; rfl)
theorem ok : Ok prog 192 sig := fn_ok func192 (tl := tl) (gl := gl) (es := []) (fr := []) rfl rfl (by kernel_rfl) (fn_nil _) (fun _ => rfl)
end spec_l9At
namespace spec_l9Fault
/-! loop example g00408 spec l9Fault -/
abbrev Arg : Type := Miner × Unit
abbrev Out : Type := Int × Unit
noncomputable def ps : PQ := [(.ro, (.ptr tMiner))]
noncomputable def rs : RQ := [(i64, (roMd i64))]
noncomputable def tl : TL := [(2, i64), (22, (.slc (.slc u8))), (24, (.slc tChange)), (27, (.slc tBuffer)), (29, tMiner), (192, tBuffer)]
noncomputable def gl : GL := [(115, spec_l6Fault.sig), (128, spec_l1In.sig), (191, spec_l9List.sig), (192, spec_l9At.sig)]
noncomputable def E : Env := { TI := lookN tl, G := lookN gl, lv := [(7, [0, 4])], lx := [(0, [])] }
noncomputable def W (k : Nat) (a : Arg) : Option Out := bodyK E k f127 ps rs [] [] a
noncomputable def sem (a : Arg) : Option Out := lift fun k => W k a
noncomputable def sig : Sig := { ps := ps, rs := rs, F := sem }
noncomputable def C : Code := bodyOf f127
noncomputable def fin : St → Option Out := outK ps rs [] (Func.results f127).toList (mvs [])
noncomputable def K0 : Ex → St → Option Out := endK fin
noncomputable def T0 (a1 : Arg) (v403 : Int) : St := { n := 63, sl := [(0, .cp tMiner a1.1), (4, .val i64 v403)], vr := [], lent := [] }
noncomputable def N0 (k : Nat) : St → (Ex → St → Option Out) → Option Out := codeK E k fin (sub [1, 1, 1, 0, 1, 0, 0] C)
noncomputable def M0 : St → St := keepF [0, 4] []
noncomputable def S0 (rec : RT Out) (a1 : Arg) : (Int) → Option Out := fun v403 => rec (T0 a1 v403)
noncomputable def X0_0 (K : KT Out) (a1 : Arg) : (Unit) → Option Out := fun z => K (.exit 0) ({ n := 63, sl := [], vr := [], lent := [] })
noncomputable def b0 (self : Int → Option Out) (e0 : (Unit) → Option Out) (a1 : Arg) (v403 : Int) : Option Out := bif decide (v403 < (a1.1.2.1.length : Int)) then (if 0 ≤ v403 then ((a1.1.2.1[v403.toNat]?).bind fun x604 => (spec_l1In.sem (x604.1, (1 : Int), (99 : Int), ())).bind fun r605 => bif !r605.1 then (some ((3 : Int), ())) else if 0 ≤ v403 then ((a1.1.2.1[v403.toNat]?).bind fun x606 => (spec_l9List.sem (x606.2.1, ())).bind fun r607 => bif !decide (r607.1 = (0 : Int)) then (some (r607.1, ())) else if 0 ≤ v403 then ((a1.1.2.1[v403.toNat]?).bind fun x608 => (spec_l9At.sem (a1.1, x608.1, ())).bind fun r609 => bif !decide (r609.1 = v403) then (some ((6 : Int), ())) else self (w64 (v403 + (1 : Int)))) else none) else none) else none) else e0 ()
noncomputable def B0 (k : Nat) (self : Int → Option Out) (e0 : (Unit) → Option Out) (a1 : Arg) (v403 : Int) : Option Out := b0 self e0 a1 v403
theorem B0_eq (k : Nat) (rec : RT Out) (K : KT Out) (a1 : Arg) (v403 : Int) : N0 k (T0 a1 v403) (loopC rec M0 K) = B0 k (S0 rec a1) (X0_0 K a1) a1 v403 := by kernel_rfl
noncomputable def l0 (k : Nat) (a1 : Arg) (e0 : (Unit) → Option Out) (v : Int) : Option Out := rawIter (fun self v => B0 k self e0 a1 v) k v
theorem l0_eq (k : Nat) (K : KT Out) (a1 : Arg) (v403 : Int) : iterK (N0 k) M0 K k (T0 a1 v403) = l0 k a1 (X0_0 K a1) v403 :=
  iter_raw _ _ K (fun v403 => (T0 a1 v403)) (fun self v => B0 k self (X0_0 K a1) a1 v) (fun rec v => B0_eq k rec K a1 v) k v403
noncomputable def q0 (a1 : Arg) (z610 : (Unit)) : Option Out := some ((0 : Int), ())
noncomputable def Q0 (k : Nat) (a1 : Arg) (z610 : (Unit)) : Option Out := q0 a1 z610
theorem Q0_eq (k : Nat) (a1 : Arg) (z610 : (Unit)) : X0_0 (blockC 0 (seqC (codeK E k fin (sub [1, 1, 1, 1] C)) K0)) a1 z610 = Q0 k a1 z610 := by kernel_rfl
noncomputable def s0 (k : Nat) (a1 : Arg) : (Int) → Option Out := fun v403 => iterK (N0 k) M0 (blockC 0 (seqC (codeK E k fin (sub [1, 1, 1, 1] C)) K0)) k (T0 a1 v403)
noncomputable def r0 (k : Nat) (a1 : Arg) : (Int) → Option Out := fun v403 => l0 k a1 (fun z => Q0 k a1 z) v403
theorem s0_eq (k : Nat) (a1 : Arg) : s0 k a1 = r0 k a1 := by
  funext v403;
  have h0 : X0_0 ((blockC 0 (seqC (codeK E k fin (sub [1, 1, 1, 1] C)) K0))) a1 = fun z => Q0 k a1 z := funext fun z => Q0_eq k a1 z
  refine (l0_eq k ((blockC 0 (seqC (codeK E k fin (sub [1, 1, 1, 1] C)) K0))) a1 v403).trans ?_
  rw [h0]
  rfl
noncomputable def p (l0 : (Int) → Option Out) (a1 : Arg) : Option Out := (spec_l6Fault.sem (a1.1.1, ())).bind fun r2 => bif !decide (r2.1 = (0 : Int)) then (some (r2.1, ())) else bif decide ((8 : Int) < (a1.1.2.1.length : Int)) then (some ((2 : Int), ())) else l0 (0 : Int)
noncomputable def raw (k : Nat) (a1 : Arg) : Option Out := p (r0 k a1) a1
theorem p_eq (k : Nat) (a1 : Arg) : W k a1 = p (s0 k a1) a1 := by kernel_rfl
theorem raw_eq (k : Nat) (a1 : Arg) : W k a1 = raw k a1 := (p_eq k a1).trans (by rw [s0_eq]; rfl)
theorem ok : Ok prog 127 sig := fn_ok func127 (tl := tl) (gl := gl) (es := []) (fr := []) rfl rfl (by kernel_rfl) (fc spec_l6Fault.ok (fc spec_l1In.ok (fc spec_l9List.ok (fc spec_l9At.ok (fn_nil _))))) (fun _ => rfl)
end spec_l9Fault
namespace spec_l14Fault
/-! loop example g00408 spec l14Fault -/
abbrev Arg : Type := Connector × Unit
abbrev Out : Type := Int × Unit
noncomputable def ps : PQ := [(.ro, (.ptr tConnector))]
noncomputable def rs : RQ := [(i64, (roMd i64))]
noncomputable def tl : TL := [(2, i64), (31, tConnector)]
noncomputable def gl : GL := [(127, spec_l9Fault.sig), (128, spec_l1In.sig)]
noncomputable def E : Env := { TI := lookN tl, G := lookN gl, od := [(7, [0, 1, 2, 3, 4, 5, 6, 7, 8, 9, 10, 11, 12, 13, 14, 15, 16, 17])], ar := [(7, [3, 10, 14])] }
noncomputable def W (k : Nat) (a : Arg) : Option Out := bodyK E k f60 ps rs [] [] a
noncomputable def sem (a : Arg) : Option Out := lift fun k => W k a
noncomputable def sig : Sig := { ps := ps, rs := rs, F := sem }
noncomputable def p (a1 : Arg) : Option Out := (spec_l9Fault.sem (a1.1.1, ())).bind fun r2 => bif !decide (r2.1 = (0 : Int)) then (some (r2.1, ())) else (spec_l9Fault.sem (a1.1.2.2.1, ())).bind fun r3 => bif !decide (r3.1 = (0 : Int)) then (some (r3.1, ())) else (spec_l1In.sem (a1.1.2.1, (0 : Int), (16000 : Int), ())).bind fun r4 => bif !r4.1 then (some ((3 : Int), ())) else (spec_l1In.sem (a1.1.2.2.2.1, (0 : Int), a1.1.2.1, ())).bind fun r5 => bif !r5.1 then (some ((3 : Int), ())) else some ((0 : Int), ())
noncomputable def raw (k : Nat) (a1 : Arg) : Option Out := p a1
theorem raw_eq (k : Nat) (a1 : Arg) : W k a1 = raw k a1 := by kernel_rfl
theorem ok : Ok prog 60 sig := fn_ok func60 (tl := tl) (gl := gl) (es := []) (fr := []) rfl rfl (by kernel_rfl) (fc spec_l9Fault.ok (fc spec_l1In.ok (fn_nil _))) (fun _ => rfl)
end spec_l14Fault
namespace spec_ConnectorFault
/-! loop example g00408 spec ConnectorFault -/
abbrev Arg : Type := Connector × Unit
abbrev Out : Type := Int × Unit
noncomputable def ps : PQ := [(.ro, tConnector)]
noncomputable def rs : RQ := [(i64, (roMd i64))]
noncomputable def tl : TL := [(31, tConnector)]
noncomputable def gl : GL := [(60, spec_l14Fault.sig)]
noncomputable def E : Env := { TI := lookN tl, G := lookN gl }
noncomputable def W (k : Nat) (a : Arg) : Option Out := bodyK E k f17 ps rs [] [] a
noncomputable def sem (a : Arg) : Option Out := lift fun k => W k a
noncomputable def sig : Sig := { ps := ps, rs := rs, F := sem }
noncomputable def p (a1 : Arg) : Option Out := (spec_l14Fault.sem (a1.1, ())).bind fun r2 => some (r2.1, ())
noncomputable def raw (k : Nat) (a1 : Arg) : Option Out := p a1
theorem raw_eq (k : Nat) (a1 : Arg) : W k a1 = raw k a1 := by kernel_rfl
theorem ok : Ok prog 17 sig := fn_ok func17 (tl := tl) (gl := gl) (es := []) (fr := []) rfl rfl (by kernel_rfl) (fc spec_l14Fault.ok (fn_nil _)) (fun _ => rfl)
end spec_ConnectorFault
namespace laws_toRow
/-! loop example g00408 laws toRow -/
abbrev Arg : Type := Row × Unit
abbrev Out : Type := Row × Unit
noncomputable def ps : PQ := [(.ro, tRow)]
noncomputable def rs : RQ := [(tRow, (roMd tRow))]
noncomputable def tl : TL := [(2, i64), (9, .str), (75, tRow), (314, tRow)]
noncomputable def gl : GL := []
noncomputable def E : Env := { TI := lookN tl, G := lookN gl }
noncomputable def W (k : Nat) (a : Arg) : Option Out := bodyK E k f270 ps rs [] [] a
noncomputable def sem (a : Arg) : Option Out := lift fun k => W k a
noncomputable def sig : Sig := { ps := ps, rs := rs, F := sem }
noncomputable def p (a1 : Arg) : Option Out := some ((a1.1.1, a1.1.2.1, a1.1.2.2.1, a1.1.2.2.2.1, ()), ())
noncomputable def raw (k : Nat) (a1 : Arg) : Option Out := p a1
theorem raw_eq (k : Nat) (a1 : Arg) : W k a1 = raw k a1 := by kernel_rfl
theorem ok : Ok prog 270 sig := fn_ok func270 (tl := tl) (gl := gl) (es := []) (fr := []) rfl rfl (by kernel_rfl) (fn_nil _) (fun _ => rfl)
end laws_toRow
namespace laws_toChange
/-! loop example g00408 laws toChange -/
abbrev Arg : Type := Change × Unit
abbrev Out : Type := Change × Unit
noncomputable def ps : PQ := [(.ro, tChange)]
noncomputable def rs : RQ := [(tChange, (roMd tChange))]
noncomputable def tl : TL := [(4, .bool), (75, tRow), (81, tChange), (314, tRow), (316, tChange)]
noncomputable def gl : GL := [(270, laws_toRow.sig)]
noncomputable def E : Env := { TI := lookN tl, G := lookN gl }
noncomputable def W (k : Nat) (a : Arg) : Option Out := bodyK E k f254 ps rs [] [] a
noncomputable def sem (a : Arg) : Option Out := lift fun k => W k a
noncomputable def sig : Sig := { ps := ps, rs := rs, F := sem }
noncomputable def p (a1 : Arg) : Option Out := (laws_toRow.sem (a1.1.2.1, ())).bind fun r2 => (laws_toRow.sem (a1.1.2.2.2.1, ())).bind fun r3 => some ((a1.1.1, r2.1, a1.1.2.2.1, r3.1, ()), ())
noncomputable def raw (k : Nat) (a1 : Arg) : Option Out := p a1
theorem raw_eq (k : Nat) (a1 : Arg) : W k a1 = raw k a1 := by kernel_rfl
theorem ok : Ok prog 254 sig := fn_ok func254 (tl := tl) (gl := gl) (es := []) (fr := []) rfl rfl (by kernel_rfl) (fc laws_toRow.ok (fn_nil _)) (fun _ => rfl)
end laws_toChange
namespace laws_toChangeS
/-! loop example g00408 laws toChangeS -/
abbrev Arg : Type := (List Change) × Unit
abbrev Out : Type := (List Change) × Unit
noncomputable def ps : PQ := [(.ro, (.slc tChange))]
noncomputable def rs : RQ := [((.slc tChange), (ownMd (.slc tChange)))]
noncomputable def tl : TL := [(24, (.slc tChange)), (81, tChange), (249, (.slc tChange)), (316, tChange)]
noncomputable def gl : GL := [(254, laws_toChange.sig)]
noncomputable def E : Env := { TI := lookN tl, G := lookN gl, lv := [(3, [0, 3, 4])], lx := [(0, [3])] }
noncomputable def W (k : Nat) (a : Arg) : Option Out := bodyK E k f231 ps rs [] [] a
noncomputable def sem (a : Arg) : Option Out := lift fun k => W k a
noncomputable def sig : Sig := { ps := ps, rs := rs, F := sem }
noncomputable def C : Code := bodyOf f231
noncomputable def fin : St → Option Out := outK ps rs [] (Func.results f231).toList (mvs [])
noncomputable def K0 : Ex → St → Option Out := endK fin
noncomputable def T0 (a1 : Arg) (v402 : (List Change) × Int) : St := { n := 23, sl := [(0, .val (.slc tChange) a1.1), (3, .own (.slc tChange) (ownMd (.slc tChange)) [] v402.1), (4, .val i64 v402.2)], vr := [], lent := [] }
noncomputable def N0 (k : Nat) : St → (Ex → St → Option Out) → Option Out := codeK E k fin (sub [1, 1, 0, 1, 0, 0] C)
noncomputable def M0 : St → St := keepF [0, 3, 4] []
noncomputable def S0 (rec : RT Out) (a1 : Arg) : ((List Change) × Int) → Option Out := fun v402 => rec (T0 a1 v402)
noncomputable def X0_0 (K : KT Out) (a1 : Arg) : (List Change) → Option Out := fun z => K (.exit 0) ({ n := 23, sl := [(3, .own (.slc tChange) (ownMd (.slc tChange)) [] z)], vr := [], lent := [] })
noncomputable def b0 (self : ((List Change) × Int) → Option Out) (e0 : (List Change) → Option Out) (a1 : Arg) (v402 : (List Change) × Int) : Option Out := bif decide (v402.2 < (a1.1.length : Int)) then (if 0 ≤ v402.2 then ((a1.1[v402.2.toNat]?).bind fun x603 => (laws_toChange.sem (x603, ())).bind fun r604 => if 0 ≤ v402.2 ∧ v402.2 < (v402.1.length : Int) then ((v402.1[v402.2.toNat]?).bind fun x605 => self (v402.1.set v402.2.toNat r604.1, w64 (v402.2 + (1 : Int)))) else none) else none) else e0 v402.1
noncomputable def B0 (k : Nat) (self : ((List Change) × Int) → Option Out) (e0 : (List Change) → Option Out) (a1 : Arg) (v402 : (List Change) × Int) : Option Out := b0 self e0 a1 v402
theorem B0_eq (k : Nat) (rec : RT Out) (K : KT Out) (a1 : Arg) (v402 : (List Change) × Int) : N0 k (T0 a1 v402) (loopC rec M0 K) = B0 k (S0 rec a1) (X0_0 K a1) a1 v402 := by kernel_rfl
noncomputable def l0 (k : Nat) (a1 : Arg) (e0 : (List Change) → Option Out) (v : (List Change) × Int) : Option Out := rawIter (fun self v => B0 k self e0 a1 v) k v
theorem l0_eq (k : Nat) (K : KT Out) (a1 : Arg) (v402 : (List Change) × Int) : iterK (N0 k) M0 K k (T0 a1 v402) = l0 k a1 (X0_0 K a1) v402 :=
  iter_raw _ _ K (fun v402 => (T0 a1 v402)) (fun self v => B0 k self (X0_0 K a1) a1 v) (fun rec v => B0_eq k rec K a1 v) k v402
noncomputable def q0 (a1 : Arg) (z606 : (List Change)) : Option Out := some (z606, ())
noncomputable def Q0 (k : Nat) (a1 : Arg) (z606 : (List Change)) : Option Out := q0 a1 z606
theorem Q0_eq (k : Nat) (a1 : Arg) (z606 : (List Change)) : X0_0 (blockC 0 (seqC (codeK E k fin (sub [1, 1, 1] C)) K0)) a1 z606 = Q0 k a1 z606 := by kernel_rfl
noncomputable def s0 (k : Nat) (a1 : Arg) : ((List Change) × Int) → Option Out := fun v402 => iterK (N0 k) M0 (blockC 0 (seqC (codeK E k fin (sub [1, 1, 1] C)) K0)) k (T0 a1 v402)
noncomputable def r0 (k : Nat) (a1 : Arg) : ((List Change) × Int) → Option Out := fun v402 => l0 k a1 (fun z => Q0 k a1 z) v402
theorem s0_eq (k : Nat) (a1 : Arg) : s0 k a1 = r0 k a1 := by
  funext v402;
  have h0 : X0_0 ((blockC 0 (seqC (codeK E k fin (sub [1, 1, 1] C)) K0))) a1 = fun z => Q0 k a1 z := funext fun z => Q0_eq k a1 z
  refine (l0_eq k ((blockC 0 (seqC (codeK E k fin (sub [1, 1, 1] C)) K0))) a1 v402).trans ?_
  rw [h0]
  rfl
noncomputable def p (l0 : ((List Change) × Int) → Option Out) (a1 : Arg) : Option Out := if 0 ≤ (a1.1.length : Int) ∧ (a1.1.length : Int) ≤ (a1.1.length : Int) ∧ (a1.1.length : Int) ≤ (CAP : Int) then (l0 (List.replicate (a1.1.length : Int).toNat (false, ((0 : Int), (0 : Int), (0 : Int), ([] : List UInt8), ()), false, ((0 : Int), (0 : Int), (0 : Int), ([] : List UInt8), ()), ()), (0 : Int))) else none
noncomputable def raw (k : Nat) (a1 : Arg) : Option Out := p (r0 k a1) a1
theorem p_eq (k : Nat) (a1 : Arg) : W k a1 = p (s0 k a1) a1 := by kernel_rfl
theorem raw_eq (k : Nat) (a1 : Arg) : W k a1 = raw k a1 := (p_eq k a1).trans (by rw [s0_eq]; rfl)
theorem ok : Ok prog 231 sig := fn_ok func231 (tl := tl) (gl := gl) (es := []) (fr := []) rfl rfl (by kernel_rfl) (fc laws_toChange.ok (fn_nil _)) (fun _ => rfl)
end laws_toChangeS
namespace laws_toBuffer
/-! loop example g00408 laws toBuffer -/
abbrev Arg : Type := Buffer × Unit
abbrev Out : Type := Buffer × Unit
noncomputable def ps : PQ := [(.ro, tBuffer)]
noncomputable def rs : RQ := [(tBuffer, (ownMd tBuffer))]
noncomputable def tl : TL := [(2, i64), (24, (.slc tChange)), (192, tBuffer), (249, (.slc tChange)), (251, tBuffer)]
noncomputable def gl : GL := [(231, laws_toChangeS.sig)]
noncomputable def E : Env := { TI := lookN tl, G := lookN gl }
noncomputable def W (k : Nat) (a : Arg) : Option Out := bodyK E k f193 ps rs [] [] a
noncomputable def sem (a : Arg) : Option Out := lift fun k => W k a
noncomputable def sig : Sig := { ps := ps, rs := rs, F := sem }
noncomputable def p (a1 : Arg) : Option Out := (laws_toChangeS.sem (a1.1.2.1, ())).bind fun r2 => some ((a1.1.1, r2.1, ()), ())
noncomputable def raw (k : Nat) (a1 : Arg) : Option Out := p a1
theorem raw_eq (k : Nat) (a1 : Arg) : W k a1 = raw k a1 := by kernel_rfl
theorem ok : Ok prog 193 sig := fn_ok func193 (tl := tl) (gl := gl) (es := []) (fr := []) rfl rfl (by kernel_rfl) (fc laws_toChangeS.ok (fn_nil _)) (fun _ => rfl)
end laws_toBuffer
namespace laws_toBufferS
/-! loop example g00408 laws toBufferS -/
abbrev Arg : Type := (List Buffer) × Unit
abbrev Out : Type := (List Buffer) × Unit
noncomputable def ps : PQ := [(.ro, (.slc tBuffer))]
noncomputable def rs : RQ := [((.slc tBuffer), (ownMd (.slc tBuffer)))]
noncomputable def tl : TL := [(27, (.slc tBuffer)), (40, (.slc tBuffer)), (192, tBuffer), (251, tBuffer)]
noncomputable def gl : GL := [(193, laws_toBuffer.sig)]
noncomputable def E : Env := { TI := lookN tl, G := lookN gl, lv := [(3, [0, 3, 4])], lx := [(0, [3])] }
noncomputable def W (k : Nat) (a : Arg) : Option Out := bodyK E k f129 ps rs [] [] a
noncomputable def sem (a : Arg) : Option Out := lift fun k => W k a
noncomputable def sig : Sig := { ps := ps, rs := rs, F := sem }
noncomputable def C : Code := bodyOf f129
noncomputable def fin : St → Option Out := outK ps rs [] (Func.results f129).toList (mvs [])
noncomputable def K0 : Ex → St → Option Out := endK fin
noncomputable def T0 (a1 : Arg) (v402 : (List Buffer) × Int) : St := { n := 23, sl := [(0, .val (.slc tBuffer) a1.1), (3, .own (.slc tBuffer) (ownMd (.slc tBuffer)) [] v402.1), (4, .val i64 v402.2)], vr := [], lent := [] }
noncomputable def N0 (k : Nat) : St → (Ex → St → Option Out) → Option Out := codeK E k fin (sub [1, 1, 0, 1, 0, 0] C)
noncomputable def M0 : St → St := keepF [0, 3, 4] []
noncomputable def S0 (rec : RT Out) (a1 : Arg) : ((List Buffer) × Int) → Option Out := fun v402 => rec (T0 a1 v402)
noncomputable def X0_0 (K : KT Out) (a1 : Arg) : (List Buffer) → Option Out := fun z => K (.exit 0) ({ n := 23, sl := [(3, .own (.slc tBuffer) (ownMd (.slc tBuffer)) [] z)], vr := [], lent := [] })
noncomputable def b0 (self : ((List Buffer) × Int) → Option Out) (e0 : (List Buffer) → Option Out) (a1 : Arg) (v402 : (List Buffer) × Int) : Option Out := bif decide (v402.2 < (a1.1.length : Int)) then (if 0 ≤ v402.2 then ((a1.1[v402.2.toNat]?).bind fun x603 => (laws_toBuffer.sem (x603, ())).bind fun r604 => if 0 ≤ v402.2 ∧ v402.2 < (v402.1.length : Int) then ((v402.1[v402.2.toNat]?).bind fun x605 => self (v402.1.set v402.2.toNat r604.1, w64 (v402.2 + (1 : Int)))) else none) else none) else e0 v402.1
noncomputable def B0 (k : Nat) (self : ((List Buffer) × Int) → Option Out) (e0 : (List Buffer) → Option Out) (a1 : Arg) (v402 : (List Buffer) × Int) : Option Out := b0 self e0 a1 v402
theorem B0_eq (k : Nat) (rec : RT Out) (K : KT Out) (a1 : Arg) (v402 : (List Buffer) × Int) : N0 k (T0 a1 v402) (loopC rec M0 K) = B0 k (S0 rec a1) (X0_0 K a1) a1 v402 := by kernel_rfl
noncomputable def l0 (k : Nat) (a1 : Arg) (e0 : (List Buffer) → Option Out) (v : (List Buffer) × Int) : Option Out := rawIter (fun self v => B0 k self e0 a1 v) k v
theorem l0_eq (k : Nat) (K : KT Out) (a1 : Arg) (v402 : (List Buffer) × Int) : iterK (N0 k) M0 K k (T0 a1 v402) = l0 k a1 (X0_0 K a1) v402 :=
  iter_raw _ _ K (fun v402 => (T0 a1 v402)) (fun self v => B0 k self (X0_0 K a1) a1 v) (fun rec v => B0_eq k rec K a1 v) k v402
noncomputable def q0 (a1 : Arg) (z606 : (List Buffer)) : Option Out := some (z606, ())
noncomputable def Q0 (k : Nat) (a1 : Arg) (z606 : (List Buffer)) : Option Out := q0 a1 z606
theorem Q0_eq (k : Nat) (a1 : Arg) (z606 : (List Buffer)) : X0_0 (blockC 0 (seqC (codeK E k fin (sub [1, 1, 1] C)) K0)) a1 z606 = Q0 k a1 z606 := by kernel_rfl
noncomputable def s0 (k : Nat) (a1 : Arg) : ((List Buffer) × Int) → Option Out := fun v402 => iterK (N0 k) M0 (blockC 0 (seqC (codeK E k fin (sub [1, 1, 1] C)) K0)) k (T0 a1 v402)
noncomputable def r0 (k : Nat) (a1 : Arg) : ((List Buffer) × Int) → Option Out := fun v402 => l0 k a1 (fun z => Q0 k a1 z) v402
theorem s0_eq (k : Nat) (a1 : Arg) : s0 k a1 = r0 k a1 := by
  funext v402;
  have h0 : X0_0 ((blockC 0 (seqC (codeK E k fin (sub [1, 1, 1] C)) K0))) a1 = fun z => Q0 k a1 z := funext fun z => Q0_eq k a1 z
  refine (l0_eq k ((blockC 0 (seqC (codeK E k fin (sub [1, 1, 1] C)) K0))) a1 v402).trans ?_
  rw [h0]
  rfl
noncomputable def p (l0 : ((List Buffer) × Int) → Option Out) (a1 : Arg) : Option Out := if 0 ≤ (a1.1.length : Int) ∧ (a1.1.length : Int) ≤ (a1.1.length : Int) ∧ (a1.1.length : Int) ≤ (CAP : Int) then (l0 (List.replicate (a1.1.length : Int).toNat ((0 : Int), ([] : List Change), ()), (0 : Int))) else none
noncomputable def raw (k : Nat) (a1 : Arg) : Option Out := p (r0 k a1) a1
theorem p_eq (k : Nat) (a1 : Arg) : W k a1 = p (s0 k a1) a1 := by kernel_rfl
theorem raw_eq (k : Nat) (a1 : Arg) : W k a1 = raw k a1 := (p_eq k a1).trans (by rw [s0_eq]; rfl)
theorem ok : Ok prog 129 sig := fn_ok func129 (tl := tl) (gl := gl) (es := []) (fr := []) rfl rfl (by kernel_rfl) (fc laws_toBuffer.ok (fn_nil _)) (fun _ => rfl)
end laws_toBufferS
namespace laws_toMiner
/-! loop example g00408 laws toMiner -/
abbrev Arg : Type := Miner × Unit
abbrev Out : Type := Miner × Unit
noncomputable def ps : PQ := [(.ro, tMiner)]
noncomputable def rs : RQ := [(tMiner, (ownMd tMiner))]
noncomputable def tl : TL := [(22, (.slc (.slc u8))), (27, (.slc tBuffer)), (29, tMiner), (40, (.slc tBuffer)), (42, tMiner)]
noncomputable def gl : GL := [(9, laws_toByteSS.sig), (129, laws_toBufferS.sig)]
noncomputable def E : Env := { TI := lookN tl, G := lookN gl }
noncomputable def W (k : Nat) (a : Arg) : Option Out := bodyK E k f61 ps rs [] [] a
noncomputable def sem (a : Arg) : Option Out := lift fun k => W k a
noncomputable def sig : Sig := { ps := ps, rs := rs, F := sem }
noncomputable def p (a1 : Arg) : Option Out := (laws_toByteSS.sem (a1.1.1, ())).bind fun r2 => (laws_toBufferS.sem (a1.1.2.1, ())).bind fun r3 => some ((r2.1, r3.1, ()), ())
noncomputable def raw (k : Nat) (a1 : Arg) : Option Out := p a1
theorem raw_eq (k : Nat) (a1 : Arg) : W k a1 = raw k a1 := by kernel_rfl
theorem ok : Ok prog 61 sig := fn_ok func61 (tl := tl) (gl := gl) (es := []) (fr := []) rfl rfl (by kernel_rfl) (fc laws_toByteSS.ok (fc laws_toBufferS.ok (fn_nil _))) (fun _ => rfl)
end laws_toMiner
namespace laws_toConnector
/-! loop example g00408 laws toConnector -/
abbrev Arg : Type := Connector × Unit
abbrev Out : Type := Connector × Unit
noncomputable def ps : PQ := [(.ro, tConnector)]
noncomputable def rs : RQ := [(tConnector, (ownMd tConnector))]
noncomputable def tl : TL := [(2, i64), (29, tMiner), (31, tConnector), (42, tMiner), (44, tConnector)]
noncomputable def gl : GL := [(61, laws_toMiner.sig)]
noncomputable def E : Env := { TI := lookN tl, G := lookN gl }
noncomputable def W (k : Nat) (a : Arg) : Option Out := bodyK E k f18 ps rs [] [] a
noncomputable def sem (a : Arg) : Option Out := lift fun k => W k a
noncomputable def sig : Sig := { ps := ps, rs := rs, F := sem }
noncomputable def p (a1 : Arg) : Option Out := (laws_toMiner.sem (a1.1.1, ())).bind fun r2 => (laws_toMiner.sem (a1.1.2.2.1, ())).bind fun r3 => some ((r2.1, a1.1.2.1, r3.1, a1.1.2.2.2.1, ()), ())
noncomputable def raw (k : Nat) (a1 : Arg) : Option Out := p a1
theorem raw_eq (k : Nat) (a1 : Arg) : W k a1 = raw k a1 := by kernel_rfl
theorem ok : Ok prog 18 sig := fn_ok func18 (tl := tl) (gl := gl) (es := []) (fr := []) rfl rfl (by kernel_rfl) (fc laws_toMiner.ok (fn_nil _)) (fun _ => rfl)
end laws_toConnector
namespace impl_isTx
/-! loop example g00408 impl isTx -/
abbrev Arg : Type := Int × Unit
abbrev Out : Type := Bool × Unit
noncomputable def ps : PQ := [(.ro, i64)]
noncomputable def rs : RQ := [(.bool, (roMd .bool))]
noncomputable def tl : TL := []
noncomputable def gl : GL := [(63, impl_in.sig)]
noncomputable def E : Env := { TI := lookN tl, G := lookN gl }
noncomputable def W (k : Nat) (a : Arg) : Option Out := bodyK E k f102 ps rs [] [] a
noncomputable def sem (a : Arg) : Option Out := lift fun k => W k a
noncomputable def sig : Sig := { ps := ps, rs := rs, F := sem }
noncomputable def p (a1 : Arg) : Option Out := (impl_in.sem (a1.1, (1 : Int), (99 : Int), ())).bind fun r2 => some (r2.1, ())
noncomputable def raw (k : Nat) (a1 : Arg) : Option Out := p a1
theorem raw_eq (k : Nat) (a1 : Arg) : W k a1 = raw k a1 := by kernel_rfl
theorem ok : Ok prog 102 sig := fn_ok func102 (tl := tl) (gl := gl) (es := []) (fr := []) rfl rfl (by kernel_rfl) (fc impl_in.ok (fn_nil _)) (fun _ => rfl)
end impl_isTx
namespace impl_changeFault
/-! loop example g00408 impl changeFault -/
abbrev Arg : Type := Change × Unit
abbrev Out : Type := Int × Unit
noncomputable def ps : PQ := [(.ro, tChange)]
noncomputable def rs : RQ := [(i64, (roMd i64))]
noncomputable def tl : TL := [(4, .bool), (75, tRow), (81, tChange)]
noncomputable def gl : GL := [(103, impl_RowFault.sig), (158, impl_order.sig)]
noncomputable def E : Env := { TI := lookN tl, G := lookN gl }
noncomputable def W (k : Nat) (a : Arg) : Option Out := bodyK E k f109 ps rs [] [] a
noncomputable def sem (a : Arg) : Option Out := lift fun k => W k a
noncomputable def sig : Sig := { ps := ps, rs := rs, F := sem }
noncomputable def p (a1 : Arg) : Option Out := let j7 : Option Out := bif a1.1.1 then ((impl_RowFault.sem (a1.1.2.1, ())).bind fun r8 => bif !decide (r8.1 = (0 : Int)) then (some (r8.1, ())) else bif a1.1.2.2.1 then ((impl_RowFault.sem (a1.1.2.2.2.1, ())).bind fun r10 => some (r10.1, ())) else some ((0 : Int), ())) else bif a1.1.2.2.1 then ((impl_RowFault.sem (a1.1.2.2.2.1, ())).bind fun r11 => some (r11.1, ())) else some ((0 : Int), ()); bif !a1.1.1 then (bif !a1.1.2.2.1 then (some ((1 : Int), ())) else bif a1.1.1 then (bif a1.1.2.2.1 then ((impl_order.sem (a1.1.2.1, a1.1.2.2.2.1, ())).bind fun r2 => bif !decide (r2.1 = (0 : Int)) then (some ((1 : Int), ())) else j7) else j7) else j7) else bif a1.1.1 then (bif a1.1.2.2.1 then ((impl_order.sem (a1.1.2.1, a1.1.2.2.2.1, ())).bind fun r3 => bif !decide (r3.1 = (0 : Int)) then (some ((1 : Int), ())) else j7) else j7) else j7
noncomputable def raw (k : Nat) (a1 : Arg) : Option Out := p a1
theorem raw_eq (k : Nat) (a1 : Arg) : W k a1 = raw k a1 := by kernel_rfl
theorem ok : Ok prog 109 sig := fn_ok func109 (tl := tl) (gl := gl) (es := []) (fr := []) rfl rfl (by kernel_rfl) (fc impl_RowFault.ok (fc impl_order.ok (fn_nil _))) (fun _ => rfl)
end impl_changeFault
namespace impl_singleFault
/-! loop example g00408 impl singleFault -/
abbrev Arg : Type := Change × Unit
abbrev Out : Type := Int × Unit
noncomputable def ps : PQ := [(.ro, tChange)]
noncomputable def rs : RQ := [(i64, (roMd i64))]
noncomputable def tl : TL := [(4, .bool), (75, tRow), (81, tChange)]
noncomputable def gl : GL := [(109, impl_changeFault.sig)]
noncomputable def E : Env := { TI := lookN tl, G := lookN gl }
noncomputable def W (k : Nat) (a : Arg) : Option Out := bodyK E k f104 ps rs [] [] a
noncomputable def sem (a : Arg) : Option Out := lift fun k => W k a
noncomputable def sig : Sig := { ps := ps, rs := rs, F := sem }
noncomputable def p (a1 : Arg) : Option Out := (impl_changeFault.sem (a1.1, ())).bind fun r2 => bif !decide (r2.1 = (0 : Int)) then (some (r2.1, ())) else bif a1.1.1 then (bif a1.1.2.2.1 then (bif (Ty.eq tRow a1.1.2.1 a1.1.2.2.2.1) then (some ((1 : Int), ())) else some ((0 : Int), ())) else some ((0 : Int), ())) else some ((0 : Int), ())
noncomputable def raw (k : Nat) (a1 : Arg) : Option Out := p a1
theorem raw_eq (k : Nat) (a1 : Arg) : W k a1 = raw k a1 := by kernel_rfl
theorem ok : Ok prog 104 sig := fn_ok func104 (tl := tl) (gl := gl) (es := []) (fr := []) rfl rfl (by kernel_rfl) (fc impl_changeFault.ok (fn_nil _)) (fun _ => rfl)
end impl_singleFault
namespace impl_Change_key
/-!  loop example g00408 impl Change  key -/
abbrev Arg : Type := Change × Unit
abbrev Out : Type := Row × Unit
noncomputable def ps : PQ := [(.ro, tChange)]
noncomputable def rs : RQ := [(tRow, (roMd tRow))]
noncomputable def tl : TL := [(4, .bool), (75, tRow), (81, tChange)]
noncomputable def gl : GL := []
noncomputable def E : Env := { TI := lookN tl, G := lookN gl }
noncomputable def W (k : Nat) (a : Arg) : Option Out := bodyK E k f172 ps rs [] [] a
noncomputable def sem (a : Arg) : Option Out := lift fun k => W k a
noncomputable def sig : Sig := { ps := ps, rs := rs, F := sem }
noncomputable def p (a1 : Arg) : Option Out := bif a1.1.2.2.1 then (some (a1.1.2.2.2.1, ())) else some (a1.1.2.1, ())
noncomputable def raw (k : Nat) (a1 : Arg) : Option Out := p a1
theorem raw_eq (k : Nat) (a1 : Arg) : W k a1 = raw k a1 := by kernel_rfl
theorem ok : Ok prog 172 sig := fn_ok func172 (tl := tl) (gl := gl) (es := []) (fr := []) rfl rfl (by kernel_rfl) (fn_nil _) (fun _ => rfl)
end impl_Change_key
namespace impl_foldedFault
/-! loop example g00408 impl foldedFault -/
abbrev Arg : Type := (List Change) × Unit
abbrev Out : Type := Int × Unit
noncomputable def ps : PQ := [(.ro, (.slc tChange))]
noncomputable def rs : RQ := [(i64, (roMd i64))]
noncomputable def tl : TL := [(24, (.slc tChange)), (81, tChange)]
noncomputable def gl : GL := [(104, impl_singleFault.sig), (154, impl_IsBefore.sig), (172, impl_Change_key.sig)]
noncomputable def E : Env := { TI := lookN tl, G := lookN gl, lv := [(4, [0, 9, 10, 11])], lx := [(0, [])], od := [(9, [0, 1, 2, 3, 4, 5, 6, 7, 9, 8, 10, 11, 12, 13])] }
noncomputable def W (k : Nat) (a : Arg) : Option Out := bodyK E k f130 ps rs [] [] a
noncomputable def sem (a : Arg) : Option Out := lift fun k => W k a
noncomputable def sig : Sig := { ps := ps, rs := rs, F := sem }
noncomputable def C : Code := bodyOf f130
noncomputable def fin : St → Option Out := outK ps rs [] (Func.results f130).toList (mvs [])
noncomputable def K0 : Ex → St → Option Out := endK fin
noncomputable def T0 (a1 : Arg) (v402 : Int) : St := { n := 36, sl := [(0, .val (.slc tChange) a1.1), (9, .val (.slc tChange) a1.1), (10, .val i64 (a1.1.length : Int)), (11, .val i64 v402)], vr := [], lent := [] }
noncomputable def N0 (k : Nat) : St → (Ex → St → Option Out) → Option Out := codeK E k fin (sub [1, 1, 0, 1, 0, 0] C)
noncomputable def M0 : St → St := keepF [0, 9, 10, 11] []
noncomputable def S0 (rec : RT Out) (a1 : Arg) : (Int) → Option Out := fun v402 => rec (T0 a1 v402)
noncomputable def X0_0 (K : KT Out) (a1 : Arg) : (Unit) → Option Out := fun z => K (.exit 0) ({ n := 36, sl := [], vr := [], lent := [] })
noncomputable def b0 (self : Int → Option Out) (e0 : (Unit) → Option Out) (a1 : Arg) (v402 : Int) : Option Out := bif decide (v402 < (a1.1.length : Int)) then (if 0 ≤ v402 then ((a1.1[v402.toNat]?).bind fun x603 => (impl_singleFault.sem (x603, ())).bind fun r604 => bif !decide (r604.1 = (0 : Int)) then (some (r604.1, ())) else bif decide ((0 : Int) < v402) then (if 0 ≤ w64 (v402 - (1 : Int)) then ((a1.1[(w64 (v402 - (1 : Int))).toNat]?).bind fun x605 => (impl_Change_key.sem (x605, ())).bind fun r606 => (impl_Change_key.sem (x603, ())).bind fun r607 => (impl_IsBefore.sem (r606.1, r607.1, ())).bind fun r608 => bif !r608.1 then (some ((1 : Int), ())) else self (w64 (v402 + (1 : Int)))) else none) else self (w64 (v402 + (1 : Int)))) else none) else e0 ()
noncomputable def B0 (k : Nat) (self : Int → Option Out) (e0 : (Unit) → Option Out) (a1 : Arg) (v402 : Int) : Option Out := b0 self e0 a1 v402
theorem B0_eq (k : Nat) (rec : RT Out) (K : KT Out) (a1 : Arg) (v402 : Int) : N0 k (T0 a1 v402) (loopC rec M0 K) = B0 k (S0 rec a1) (X0_0 K a1) a1 v402 := by kernel_rfl
noncomputable def l0 (k : Nat) (a1 : Arg) (e0 : (Unit) → Option Out) (v : Int) : Option Out := rawIter (fun self v => B0 k self e0 a1 v) k v
theorem l0_eq (k : Nat) (K : KT Out) (a1 : Arg) (v402 : Int) : iterK (N0 k) M0 K k (T0 a1 v402) = l0 k a1 (X0_0 K a1) v402 :=
  iter_raw _ _ K (fun v402 => (T0 a1 v402)) (fun self v => B0 k self (X0_0 K a1) a1 v) (fun rec v => B0_eq k rec K a1 v) k v402
noncomputable def q0 (a1 : Arg) (z609 : (Unit)) : Option Out := some ((0 : Int), ())
noncomputable def Q0 (k : Nat) (a1 : Arg) (z609 : (Unit)) : Option Out := q0 a1 z609
theorem Q0_eq (k : Nat) (a1 : Arg) (z609 : (Unit)) : X0_0 (blockC 0 (seqC (codeK E k fin (sub [1, 1, 1] C)) K0)) a1 z609 = Q0 k a1 z609 := by kernel_rfl
noncomputable def s0 (k : Nat) (a1 : Arg) : (Int) → Option Out := fun v402 => iterK (N0 k) M0 (blockC 0 (seqC (codeK E k fin (sub [1, 1, 1] C)) K0)) k (T0 a1 v402)
noncomputable def r0 (k : Nat) (a1 : Arg) : (Int) → Option Out := fun v402 => l0 k a1 (fun z => Q0 k a1 z) v402
theorem s0_eq (k : Nat) (a1 : Arg) : s0 k a1 = r0 k a1 := by
  funext v402;
  have h0 : X0_0 ((blockC 0 (seqC (codeK E k fin (sub [1, 1, 1] C)) K0))) a1 = fun z => Q0 k a1 z := funext fun z => Q0_eq k a1 z
  refine (l0_eq k ((blockC 0 (seqC (codeK E k fin (sub [1, 1, 1] C)) K0))) a1 v402).trans ?_
  rw [h0]
  rfl
noncomputable def p (l0 : (Int) → Option Out) (a1 : Arg) : Option Out := bif decide ((60 : Int) < (a1.1.length : Int)) then (some ((2 : Int), ())) else l0 (0 : Int)
noncomputable def raw (k : Nat) (a1 : Arg) : Option Out := p (r0 k a1) a1
theorem p_eq (k : Nat) (a1 : Arg) : W k a1 = p (s0 k a1) a1 := by kernel_rfl
theorem raw_eq (k : Nat) (a1 : Arg) : W k a1 = raw k a1 := (p_eq k a1).trans (by rw [s0_eq]; rfl)
theorem ok : Ok prog 130 sig := fn_ok func130 (tl := tl) (gl := gl) (es := []) (fr := []) rfl rfl (by kernel_rfl) (fc impl_singleFault.ok (fc impl_IsBefore.ok (fc impl_Change_key.ok (fn_nil _)))) (fun _ => rfl)
end impl_foldedFault
namespace impl_Miner_open_1
/-!  loop example g00408 impl Miner  open 1 -/
abbrev Arg : Type := Buffer × Int × Unit
abbrev Out : Type := Bool × Unit
noncomputable def ps : PQ := [(.ro, tBuffer), (.ro, (.ptr i64))]
noncomputable def rs : RQ := [(.bool, (roMd .bool))]
noncomputable def tl : TL := [(2, i64), (192, tBuffer)]
noncomputable def gl : GL := []
noncomputable def E : Env := { TI := lookN tl, G := lookN gl }
noncomputable def W (k : Nat) (a : Arg) : Option Out := bodyK E k f195 ps rs [] [] a
noncomputable def sem (a : Arg) : Option Out := lift fun k => W k a
noncomputable def sig : Sig := { cap := true, ps := ps, rs := rs, F := sem }
noncomputable def p (a1 : Arg) : Option Out := some (decide (a1.1.1 = a1.2.1), ())
noncomputable def raw (k : Nat) (a1 : Arg) : Option Out := p a1
theorem raw_eq (k : Nat) (a1 : Arg) : W k a1 = raw k a1 := by kernel_rfl
theorem ok : Ok prog 195 sig := fn_ok func195 (tl := tl) (gl := gl) (es := []) (fr := []) rfl rfl (by kernel_rfl) (fn_nil _) (fun _ => rfl)
end impl_Miner_open_1
namespace slices_IndexFunc_Buffer
/-! slices IndexFunc   loop example g00408 impl Buffer loop example g00408 impl Buffer  -/
abbrev Arg : Type := (List Buffer) × (Nat × Int) × Unit
abbrev Out : Type := Int × Unit
noncomputable def ps : PQ := [(.ro, (.slc tBuffer)), (.fix 195, .fn)]
noncomputable def rs : RQ := [(i64, (roMd i64))]
noncomputable def tl : TL := [(27, (.slc tBuffer)), (192, tBuffer)]
noncomputable def gl : GL := [(195, impl_Miner_open_1.sig)]
noncomputable def E : Env := { TI := lookN tl, G := lookN gl, lv := [(2, [0, 1, 7, 8])], lx := [(0, [])] }
noncomputable def W (k : Nat) (a : Arg) : Option Out := bodyK E k f194 ps rs [] [] a
noncomputable def sem (a : Arg) : Option Out := lift fun k => W k a
noncomputable def sig : Sig := { ps := ps, rs := rs, F := sem }
noncomputable def C : Code := bodyOf f194
noncomputable def fin : St → Option Out := outK ps rs [] (Func.results f194).toList (mvs [])
noncomputable def K0 : Ex → St → Option Out := endK fin
noncomputable def T0 (a1 : Arg) (v402 : Int) : St := { n := 19, sl := [(0, .val (.slc tBuffer) a1.1), (1, .val .fn ((195, a1.2.1.2) : Nat × Int)), (7, .val i64 (a1.1.length : Int)), (8, .val i64 v402)], vr := [], lent := [] }
noncomputable def N0 (k : Nat) : St → (Ex → St → Option Out) → Option Out := codeK E k fin (sub [1, 0, 1, 0, 0] C)
noncomputable def M0 : St → St := keepF [0, 1, 7, 8] []
noncomputable def S0 (rec : RT Out) (a1 : Arg) : (Int) → Option Out := fun v402 => rec (T0 a1 v402)
noncomputable def X0_0 (K : KT Out) (a1 : Arg) : (Unit) → Option Out := fun z => K (.exit 0) ({ n := 19, sl := [], vr := [], lent := [] })
noncomputable def b0 (self : Int → Option Out) (e0 : (Unit) → Option Out) (a1 : Arg) (v402 : Int) : Option Out := bif decide (v402 < (a1.1.length : Int)) then (if 0 ≤ v402 then ((a1.1[v402.toNat]?).bind fun x603 => (impl_Miner_open_1.sem (x603, a1.2.1.2, ())).bind fun r604 => bif r604.1 then (some (v402, ())) else self (w64 (v402 + (1 : Int)))) else none) else e0 ()
noncomputable def B0 (k : Nat) (self : Int → Option Out) (e0 : (Unit) → Option Out) (a1 : Arg) (v402 : Int) : Option Out := b0 self e0 a1 v402
theorem B0_eq (k : Nat) (rec : RT Out) (K : KT Out) (a1 : Arg) (v402 : Int) : N0 k (T0 a1 v402) (loopC rec M0 K) = B0 k (S0 rec a1) (X0_0 K a1) a1 v402 := by kernel_rfl
noncomputable def l0 (k : Nat) (a1 : Arg) (e0 : (Unit) → Option Out) (v : Int) : Option Out := rawIter (fun self v => B0 k self e0 a1 v) k v
theorem l0_eq (k : Nat) (K : KT Out) (a1 : Arg) (v402 : Int) : iterK (N0 k) M0 K k (T0 a1 v402) = l0 k a1 (X0_0 K a1) v402 :=
  iter_raw _ _ K (fun v402 => (T0 a1 v402)) (fun self v => B0 k self (X0_0 K a1) a1 v) (fun rec v => B0_eq k rec K a1 v) k v402
noncomputable def q0 (a1 : Arg) (z605 : (Unit)) : Option Out := some ((-1 : Int), ())
noncomputable def Q0 (k : Nat) (a1 : Arg) (z605 : (Unit)) : Option Out := q0 a1 z605
theorem Q0_eq (k : Nat) (a1 : Arg) (z605 : (Unit)) : X0_0 (blockC 0 (seqC (codeK E k fin (sub [1, 1] C)) K0)) a1 z605 = Q0 k a1 z605 := by kernel_rfl
noncomputable def s0 (k : Nat) (a1 : Arg) : (Int) → Option Out := fun v402 => iterK (N0 k) M0 (blockC 0 (seqC (codeK E k fin (sub [1, 1] C)) K0)) k (T0 a1 v402)
noncomputable def r0 (k : Nat) (a1 : Arg) : (Int) → Option Out := fun v402 => l0 k a1 (fun z => Q0 k a1 z) v402
theorem s0_eq (k : Nat) (a1 : Arg) : s0 k a1 = r0 k a1 := by
  funext v402;
  have h0 : X0_0 ((blockC 0 (seqC (codeK E k fin (sub [1, 1] C)) K0))) a1 = fun z => Q0 k a1 z := funext fun z => Q0_eq k a1 z
  refine (l0_eq k ((blockC 0 (seqC (codeK E k fin (sub [1, 1] C)) K0))) a1 v402).trans ?_
  rw [h0]
  rfl
noncomputable def p (l0 : (Int) → Option Out) (a1 : Arg) : Option Out := l0 (0 : Int)
noncomputable def raw (k : Nat) (a1 : Arg) : Option Out := p (r0 k a1) a1
theorem p_eq (k : Nat) (a1 : Arg) : W k a1 = p (s0 k a1) a1 := by kernel_rfl
theorem raw_eq (k : Nat) (a1 : Arg) : W k a1 = raw k a1 := (p_eq k a1).trans (by rw [s0_eq]; rfl)
theorem ok : Ok prog 194 sig := fn_ok func194 (tl := tl) (gl := gl) (es := []) (fr := []) rfl rfl (by kernel_rfl) (fc impl_Miner_open_1.ok (fn_nil _)) (fun _ => rfl)
end slices_IndexFunc_Buffer
namespace impl_Miner_open
/-!  loop example g00408 impl Miner  open -/
abbrev Arg : Type := Miner × Int × Unit
abbrev Out : Type := Int × Unit
noncomputable def ps : PQ := [(.ro, tMiner), (.ro, i64)]
noncomputable def rs : RQ := [(i64, (roMd i64))]
noncomputable def tl : TL := [(2, i64), (27, (.slc tBuffer)), (29, tMiner)]
noncomputable def gl : GL := [(194, slices_IndexFunc_Buffer.sig)]
noncomputable def E : Env := { TI := lookN tl, G := lookN gl }
noncomputable def W (k : Nat) (a : Arg) : Option Out := bodyK E k f131 ps rs [] [] a
noncomputable def sem (a : Arg) : Option Out := lift fun k => W k a
noncomputable def sig : Sig := { ps := ps, rs := rs, F := sem }
noncomputable def p (a1 : Arg) : Option Out := (slices_IndexFunc_Buffer.sem (a1.1.2.1, ((195, a1.2.1) : Nat × Int), ())).bind fun r2 => some (r2.1, ())
noncomputable def raw (k : Nat) (a1 : Arg) : Option Out := p a1
theorem raw_eq (k : Nat) (a1 : Arg) : W k a1 = raw k a1 := by kernel_rfl
theorem ok : Ok prog 131 sig := fn_ok func131 (tl := tl) (gl := gl) (es := []) (fr := []) rfl rfl (by kernel_rfl) (fc slices_IndexFunc_Buffer.ok (fn_nil _)) (fun _ => rfl)
end impl_Miner_open
namespace impl_MinerFault
/-! loop example g00408 impl MinerFault -/
abbrev Arg : Type := Miner × Unit
abbrev Out : Type := Int × Unit
noncomputable def ps : PQ := [(.ro, tMiner)]
noncomputable def rs : RQ := [(i64, (roMd i64))]
noncomputable def tl : TL := [(2, i64), (22, (.slc (.slc u8))), (24, (.slc tChange)), (27, (.slc tBuffer)), (29, tMiner), (192, tBuffer)]
noncomputable def gl : GL := [(50, impl_PagesFault.sig), (102, impl_isTx.sig), (130, impl_foldedFault.sig), (131, impl_Miner_open.sig)]
noncomputable def E : Env := { TI := lookN tl, G := lookN gl, lv := [(7, [1, 18, 19, 20])], lx := [(0, [])] }
noncomputable def W (k : Nat) (a : Arg) : Option Out := bodyK E k f62 ps rs [] [] a
noncomputable def sem (a : Arg) : Option Out := lift fun k => W k a
noncomputable def sig : Sig := { ps := ps, rs := rs, F := sem }
noncomputable def C : Code := bodyOf f62
noncomputable def fin : St → Option Out := outK ps rs [] (Func.results f62).toList (mvs [])
noncomputable def K0 : Ex → St → Option Out := endK fin
noncomputable def T0 (a1 : Arg) (v403 : Int) : St := { n := 42, sl := [(1, .box tMiner (roMd tMiner) [] a1.1), (18, .val (.slc tBuffer) a1.1.2.1), (19, .val i64 (a1.1.2.1.length : Int)), (20, .val i64 v403)], vr := [], lent := [] }
noncomputable def N0 (k : Nat) : St → (Ex → St → Option Out) → Option Out := codeK E k fin (sub [1, 1, 1, 0, 1, 0, 0] C)
noncomputable def M0 : St → St := keepF [1, 18, 19, 20] []
noncomputable def S0 (rec : RT Out) (a1 : Arg) : (Int) → Option Out := fun v403 => rec (T0 a1 v403)
noncomputable def X0_0 (K : KT Out) (a1 : Arg) : (Unit) → Option Out := fun z => K (.exit 0) ({ n := 42, sl := [], vr := [], lent := [] })
noncomputable def b0 (self : Int → Option Out) (e0 : (Unit) → Option Out) (a1 : Arg) (v403 : Int) : Option Out := bif decide (v403 < (a1.1.2.1.length : Int)) then (if 0 ≤ v403 then ((a1.1.2.1[v403.toNat]?).bind fun x604 => (impl_isTx.sem (x604.1, ())).bind fun r605 => bif !r605.1 then (some ((3 : Int), ())) else (impl_foldedFault.sem (x604.2.1, ())).bind fun r606 => bif !decide (r606.1 = (0 : Int)) then (some (r606.1, ())) else (impl_Miner_open.sem (a1.1, x604.1, ())).bind fun r607 => bif decide (r607.1 < v403) then (some ((6 : Int), ())) else self (w64 (v403 + (1 : Int)))) else none) else e0 ()
noncomputable def B0 (k : Nat) (self : Int → Option Out) (e0 : (Unit) → Option Out) (a1 : Arg) (v403 : Int) : Option Out := b0 self e0 a1 v403
theorem B0_eq (k : Nat) (rec : RT Out) (K : KT Out) (a1 : Arg) (v403 : Int) : N0 k (T0 a1 v403) (loopC rec M0 K) = B0 k (S0 rec a1) (X0_0 K a1) a1 v403 := by kernel_rfl
noncomputable def l0 (k : Nat) (a1 : Arg) (e0 : (Unit) → Option Out) (v : Int) : Option Out := rawIter (fun self v => B0 k self e0 a1 v) k v
theorem l0_eq (k : Nat) (K : KT Out) (a1 : Arg) (v403 : Int) : iterK (N0 k) M0 K k (T0 a1 v403) = l0 k a1 (X0_0 K a1) v403 :=
  iter_raw _ _ K (fun v403 => (T0 a1 v403)) (fun self v => B0 k self (X0_0 K a1) a1 v) (fun rec v => B0_eq k rec K a1 v) k v403
noncomputable def q0 (a1 : Arg) (z608 : (Unit)) : Option Out := some ((0 : Int), ())
noncomputable def Q0 (k : Nat) (a1 : Arg) (z608 : (Unit)) : Option Out := q0 a1 z608
theorem Q0_eq (k : Nat) (a1 : Arg) (z608 : (Unit)) : X0_0 (blockC 0 (seqC (codeK E k fin (sub [1, 1, 1, 1] C)) K0)) a1 z608 = Q0 k a1 z608 := by kernel_rfl
noncomputable def s0 (k : Nat) (a1 : Arg) : (Int) → Option Out := fun v403 => iterK (N0 k) M0 (blockC 0 (seqC (codeK E k fin (sub [1, 1, 1, 1] C)) K0)) k (T0 a1 v403)
noncomputable def r0 (k : Nat) (a1 : Arg) : (Int) → Option Out := fun v403 => l0 k a1 (fun z => Q0 k a1 z) v403
theorem s0_eq (k : Nat) (a1 : Arg) : s0 k a1 = r0 k a1 := by
  funext v403;
  have h0 : X0_0 ((blockC 0 (seqC (codeK E k fin (sub [1, 1, 1, 1] C)) K0))) a1 = fun z => Q0 k a1 z := funext fun z => Q0_eq k a1 z
  refine (l0_eq k ((blockC 0 (seqC (codeK E k fin (sub [1, 1, 1, 1] C)) K0))) a1 v403).trans ?_
  rw [h0]
  rfl
noncomputable def p (l0 : (Int) → Option Out) (a1 : Arg) : Option Out := (impl_PagesFault.sem (a1.1.1, ())).bind fun r2 => bif !decide (r2.1 = (0 : Int)) then (some (r2.1, ())) else bif decide ((8 : Int) < (a1.1.2.1.length : Int)) then (some ((2 : Int), ())) else l0 (0 : Int)
noncomputable def raw (k : Nat) (a1 : Arg) : Option Out := p (r0 k a1) a1
theorem p_eq (k : Nat) (a1 : Arg) : W k a1 = p (s0 k a1) a1 := by kernel_rfl
theorem raw_eq (k : Nat) (a1 : Arg) : W k a1 = raw k a1 := (p_eq k a1).trans (by rw [s0_eq]; rfl)
theorem ok : Ok prog 62 sig := fn_ok func62 (tl := tl) (gl := gl) (es := []) (fr := []) rfl rfl (by kernel_rfl) (fc impl_PagesFault.ok (fc impl_isTx.ok (fc impl_foldedFault.ok (fc impl_Miner_open.ok (fn_nil _))))) (fun _ => rfl)
end impl_MinerFault
namespace impl_ConnectorFault
/-! loop example g00408 impl ConnectorFault -/
abbrev Arg : Type := Connector × Unit
abbrev Out : Type := Int × Unit
noncomputable def ps : PQ := [(.ro, tConnector)]
noncomputable def rs : RQ := [(i64, (roMd i64))]
noncomputable def tl : TL := [(2, i64), (29, tMiner), (31, tConnector)]
noncomputable def gl : GL := [(62, impl_MinerFault.sig), (63, impl_in.sig)]
noncomputable def E : Env := { TI := lookN tl, G := lookN gl }
noncomputable def W (k : Nat) (a : Arg) : Option Out := bodyK E k f19 ps rs [] [] a
noncomputable def sem (a : Arg) : Option Out := lift fun k => W k a
noncomputable def sig : Sig := { ps := ps, rs := rs, F := sem }
noncomputable def p (a1 : Arg) : Option Out := (impl_MinerFault.sem (a1.1.1, ())).bind fun r2 => bif !decide (r2.1 = (0 : Int)) then (some (r2.1, ())) else (impl_MinerFault.sem (a1.1.2.2.1, ())).bind fun r3 => bif !decide (r3.1 = (0 : Int)) then (some (r3.1, ())) else (impl_in.sem (a1.1.2.1, (0 : Int), (16000 : Int), ())).bind fun r4 => bif !r4.1 then (some ((3 : Int), ())) else (impl_in.sem (a1.1.2.2.2.1, (0 : Int), a1.1.2.1, ())).bind fun r5 => bif !r5.1 then (some ((3 : Int), ())) else some ((0 : Int), ())
noncomputable def raw (k : Nat) (a1 : Arg) : Option Out := p a1
theorem raw_eq (k : Nat) (a1 : Arg) : W k a1 = raw k a1 := by kernel_rfl
theorem ok : Ok prog 19 sig := fn_ok func19 (tl := tl) (gl := gl) (es := []) (fr := []) rfl rfl (by kernel_rfl) (fc impl_MinerFault.ok (fc impl_in.ok (fn_nil _))) (fun _ => rfl)
end impl_ConnectorFault
namespace laws_FnExactConnectorFault
/-! loop example g00408 laws FnExactConnectorFault -/
abbrev Arg : Type := Connector × Unit
abbrev Out : Type := Bool × Unit
noncomputable def ps : PQ := [(.ro, tConnector)]
noncomputable def rs : RQ := [(.bool, (roMd .bool))]
noncomputable def tl : TL := [(31, tConnector), (44, tConnector)]
noncomputable def gl : GL := [(16, laws_szConnector.sig), (17, spec_ConnectorFault.sig), (18, laws_toConnector.sig), (19, impl_ConnectorFault.sig), (20, laws_eqConnector.sig)]
noncomputable def E : Env := { TI := lookN tl, G := lookN gl, od := [(10, [0, 1, 2, 3, 4])] }
noncomputable def W (k : Nat) (a : Arg) : Option Out := bodyK E k f4 ps rs [] [] a
noncomputable def sem (a : Arg) : Option Out := lift fun k => W k a
noncomputable def sig : Sig := { ps := ps, rs := rs, F := sem }
noncomputable def p (a1 : Arg) : Option Out := (laws_szConnector.sem (a1.1, (1048576 : Int), ())).bind fun r2 => bif decide (r2.1 < (0 : Int)) then (some (true, ())) else (laws_toConnector.sem (a1.1, ())).bind fun r3 => (spec_ConnectorFault.sem (r3.1, ())).bind fun r4 => (laws_toConnector.sem (a1.1, ())).bind fun r5 => (impl_ConnectorFault.sem (r5.1, ())).bind fun r6 => bif !decide (r6.1 = r4.1) then (some (false, ())) else (laws_toConnector.sem (a1.1, ())).bind fun r7 => (laws_eqConnector.sem (r5.1, r7.1, ())).bind fun r8 => bif !r8.1 then (some (false, ())) else some (true, ())
noncomputable def raw (k : Nat) (a1 : Arg) : Option Out := p a1
theorem raw_eq (k : Nat) (a1 : Arg) : W k a1 = raw k a1 := by kernel_rfl
theorem ok : Ok prog 4 sig := fn_ok func4 (tl := tl) (gl := gl) (es := []) (fr := []) rfl rfl (by kernel_rfl) (fc laws_szConnector.ok (fc spec_ConnectorFault.ok (fc laws_toConnector.ok (fc impl_ConnectorFault.ok (fc laws_eqConnector.ok (fn_nil _)))))) (fun _ => rfl)
end laws_FnExactConnectorFault
end OT

set_option linter.unusedVariables false
set_option linter.unusedSimpArgs false
namespace OT
open Go
theorem szByteS_eq (x : List UInt8) (n : Int) (hx : okD (.slc u8) x) (h0 : 0 ≤ n) (h1 : n ≤ 1048576) : laws_szByteS.sem (x, n, ()) = some (lft n (zz (.slc u8) x), ()) := by
  obtain ⟨hl, hel⟩ := hx
  have hl' := hl
  rw [maxLen_val] at hl'
  have hl' : List.length x ≤ 9223372036854775807 := hl'
  have hw : w64 (n - (List.length x : Int)) = n - (List.length x : Int) := w64_in (by omega)
  have hz : zz (.slc u8) x = List.length x + 0 := by show List.length x + sumW _ _ = _; exact congrArg (List.length x + ·) (sumW_zero _ (fun _ => rfl) x)
  refine lift_eq (k := 0) fun k _ => (laws_szByteS.raw_eq k _).trans ?_
  show laws_szByteS.p _ = _
  unfold laws_szByteS.p
  simp only [hw, hz, Nat.add_zero]
  by_cases hc : (List.length x : Int) ≤ n
  · have e1 : lft n (List.length x) = n - (List.length x : Int) := if_pos hc
    have n1 : ¬ (n - (List.length x : Int) < 0) := by omega
    simp [e1, n1]
  · have e1 : lft n (List.length x) = -1 := if_neg hc
    have n1 : n - (List.length x : Int) < 0 := by omega
    simp [e1, n1]
theorem szByteSS_eq (x : List (List UInt8)) (n : Int) (hx : okD (.slc (.slc u8)) x) (h0 : 0 ≤ n) (h1 : n ≤ 1048576) : laws_szByteSS.sem (x, n, ()) = some (lft n (zz (.slc (.slc u8)) x), ()) := by
  obtain ⟨hl, hel⟩ := hx
  have hl' := hl
  rw [maxLen_val] at hl'
  have hl' : List.length x ≤ 9223372036854775807 := hl'
  have hw : w64 (n - (List.length x : Int)) = n - (List.length x : Int) := w64_in (by omega)
  have hz : zz (.slc (.slc u8)) x = List.length x + sumW (zz (.slc u8)) x := rfl
  by_cases hc : n - (List.length x : Int) < 0
  · have e1 : lft n (zz (.slc (.slc u8)) x) = -1 := if_neg (by omega)
    rw [e1]
    refine lift_eq (k := 0) fun k _ => (laws_szByteSS.raw_eq k _).trans ?_
    unfold laws_szByteSS.raw laws_szByteSS.p
    simp only [hw, hc, decide_true, cond_true]
    try rfl
  · have e1 : lft n (zz (.slc (.slc u8)) x) = lft (n - (List.length x : Int)) (sumW (zz (.slc u8)) x) := by rw [hz, lft_add (by omega)]
    rw [e1]
    refine lift_eq (k := List.length x + 1) fun k hk => (laws_szByteSS.raw_eq k _).trans ?_
    unfold laws_szByteSS.raw laws_szByteSS.p
    simp only [hw, hc, decide_false, cond_false]
    exact sz_loop (B := fun self v => laws_szByteSS.B0 0 self (fun z => laws_szByteSS.Q0 0 (x, n, ()) z) (x, n, ()) v) (xs := x) hl (zz (.slc u8)) (fun i hi m self hm0 hm1 => by
        show laws_szByteSS.b0 _ _ _ _ = _
        unfold laws_szByteSS.b0
        have hlt : (i : Int) < (List.length x : Int) := by omega
        simp only [hlt, decide_true, cond_true, Int.natCast_nonneg, if_true, Int.toNat_natCast, List.getElem?_eq_getElem hi, Option.bind_some, szByteS_eq x[i] m (hel _ (List.getElem_mem hi)) hm0 hm1]
        by_cases hs : lft m (zz (.slc u8) x[i]) < 0 <;> simp [hs]) (fun m self => by
        show laws_szByteSS.b0 _ _ _ _ = _
        unfold laws_szByteSS.b0
        simp [laws_szByteSS.Q0, laws_szByteSS.q0]) _ (by omega) (by omega) k (by omega)
theorem toByteS_eq (x : List UInt8) (h : zz (.slc u8) x ≤ 1048576) : laws_toByteS.sem (x, ()) = some (x, ()) := by
  have hl : x.length ≤ 1048576 := Nat.le_trans (zz_len (e := u8) x) h
  refine lift_eq (k := x.length + 1) fun k hk => (laws_toByteS.raw_eq k _).trans ?_
  unfold laws_toByteS.raw laws_toByteS.p
  have hc : 0 ≤ (x.length : Int) ∧ (x.length : Int) ≤ (x.length : Int) ∧ (x.length : Int) ≤ (CAP : Int) := by simp only [CAP]; omega
  simp only [hc, and_self, if_true, Int.toNat_natCast]
  exact copy_loop (B := fun self v => laws_toByteS.B0 k self (fun z => laws_toByteS.Q0 k (x, ()) z) (x, ()) v) (xs := x) (by rw [maxLen_val]; omega) (fun i hi acc self ha => by
    show laws_toByteS.b0 _ _ _ _ = _
    unfold laws_toByteS.b0
    have hlt : (i : Int) < (x.length : Int) := by omega
    have hlt2 : (i : Int) < (acc.length : Int) := by omega
    simp only [hlt, hlt2, decide_true, cond_true, Int.natCast_nonneg, and_self, if_true, Int.toNat_natCast, List.getElem?_eq_getElem hi, List.getElem?_eq_getElem (show i < acc.length by omega), Option.bind_some]) (fun acc self => by
    show laws_toByteS.b0 _ _ _ _ = _
    unfold laws_toByteS.b0
    simp [laws_toByteS.Q0, laws_toByteS.q0]) _ k (by omega)
theorem toByteSS_eq (x : List (List UInt8)) (h : zz (.slc (.slc u8)) x ≤ 1048576) : laws_toByteSS.sem (x, ()) = some (x, ()) := by
  have hl : x.length ≤ 1048576 := Nat.le_trans (zz_len (e := (.slc u8)) x) h
  refine lift_eq (k := x.length + 1) fun k hk => (laws_toByteSS.raw_eq k _).trans ?_
  unfold laws_toByteSS.raw laws_toByteSS.p
  have hc : 0 ≤ (x.length : Int) ∧ (x.length : Int) ≤ (x.length : Int) ∧ (x.length : Int) ≤ (CAP : Int) := by simp only [CAP]; omega
  simp only [hc, and_self, if_true, Int.toNat_natCast]
  exact copy_loop (B := fun self v => laws_toByteSS.B0 k self (fun z => laws_toByteSS.Q0 k (x, ()) z) (x, ()) v) (xs := x) (by rw [maxLen_val]; omega) (fun i hi acc self ha => by
    show laws_toByteSS.b0 _ _ _ _ = _
    unfold laws_toByteSS.b0
    have hlt : (i : Int) < (x.length : Int) := by omega
    have hlt2 : (i : Int) < (acc.length : Int) := by omega
    simp only [hlt, hlt2, decide_true, cond_true, Int.natCast_nonneg, and_self, if_true, Int.toNat_natCast, List.getElem?_eq_getElem hi, List.getElem?_eq_getElem (show i < acc.length by omega), Option.bind_some, toByteS_eq x[i] (by have := zz_mem (e := (.slc u8)) (List.getElem_mem hi); omega)]) (fun acc self => by
    show laws_toByteSS.b0 _ _ _ _ = _
    unfold laws_toByteSS.b0
    simp [laws_toByteSS.Q0, laws_toByteSS.q0]) _ k (by omega)
theorem eqByteS_self (x : List UInt8) (h : zz (.slc u8) x ≤ 4611686018427387904) : laws_eqByteS.sem (x, x, ()) = some (true, ()) := by
  have hl : x.length ≤ 4611686018427387904 := Nat.le_trans (zz_len (e := u8) x) h
  refine lift_eq (k := x.length + 1) fun k hk => (laws_eqByteS.raw_eq k _).trans ?_
  unfold laws_eqByteS.raw laws_eqByteS.p
  simp only [decide_true, Bool.not_true, cond_false]
  have := all_loop (B := fun self v => laws_eqByteS.B0 k self (fun z => laws_eqByteS.Q0 k (x, x, ()) z) (x, x, ()) v) (xs := x) (ys := x) (fun _ _ => true) rfl (by rw [maxLen_val]; omega) (fun i hi hj self => by
      show laws_eqByteS.b0 _ _ _ _ = _
      unfold laws_eqByteS.b0
      have hlt : (i : Int) < (x.length : Int) := by omega
      simp only [hlt, decide_true, cond_true, Int.natCast_nonneg, if_true, Int.toNat_natCast, List.getElem?_eq_getElem hi, Option.bind_some, Bool.not_true, cond_false]) (fun self => by
      show laws_eqByteS.b0 _ _ _ _ = _
      unfold laws_eqByteS.b0
      simp [laws_eqByteS.Q0, laws_eqByteS.q0]) k (by omega)
  rw [show allB (fun _ _ => true) x x = true by simp [allB]] at this
  exact this
theorem eqByteSS_self (x : List (List UInt8)) (h : zz (.slc (.slc u8)) x ≤ 4611686018427387904) : laws_eqByteSS.sem (x, x, ()) = some (true, ()) := by
  have hl : x.length ≤ 4611686018427387904 := Nat.le_trans (zz_len (e := (.slc u8)) x) h
  refine lift_eq (k := x.length + 1) fun k hk => (laws_eqByteSS.raw_eq k _).trans ?_
  unfold laws_eqByteSS.raw laws_eqByteSS.p
  simp only [decide_true, Bool.not_true, cond_false]
  have := all_loop (B := fun self v => laws_eqByteSS.B0 k self (fun z => laws_eqByteSS.Q0 k (x, x, ()) z) (x, x, ()) v) (xs := x) (ys := x) (fun _ _ => true) rfl (by rw [maxLen_val]; omega) (fun i hi hj self => by
      show laws_eqByteSS.b0 _ _ _ _ = _
      unfold laws_eqByteSS.b0
      have hlt : (i : Int) < (x.length : Int) := by omega
      simp only [hlt, decide_true, cond_true, Int.natCast_nonneg, if_true, Int.toNat_natCast, List.getElem?_eq_getElem hi, Option.bind_some, Bool.not_true, cond_false, eqByteS_self x[i] (by have := zz_mem (e := (.slc u8)) (List.getElem_mem hi); omega)]) (fun self => by
      show laws_eqByteSS.b0 _ _ _ _ = _
      unfold laws_eqByteSS.b0
      simp [laws_eqByteSS.Q0, laws_eqByteSS.q0]) k (by omega)
  rw [show allB (fun _ _ => true) x x = true by simp [allB]] at this
  exact this
theorem eqRow_self (x : Row) (h : zz tRow x ≤ 4611686018427387904) : laws_eqRow.sem (x, x, ()) = some (true, ()) := by
  have hz : zz tRow x = (0 + (0 + (0 + (List.length x.2.2.2.1 + 0)))) := rfl
  refine lift_eq (k := 0) fun k _ => (laws_eqRow.raw_eq k _).trans ?_
  show laws_eqRow.p _ = _
  unfold laws_eqRow.p
  simp []
theorem eqChange_self (x : Change) (h : zz tChange x ≤ 4611686018427387904) : laws_eqChange.sem (x, x, ()) = some (true, ()) := by
  have hz : zz tChange x = (0 + ((0 + (0 + (0 + (List.length x.2.1.2.2.2.1 + 0)))) + (0 + ((0 + (0 + (0 + (List.length x.2.2.2.1.2.2.2.1 + 0)))) + 0)))) := rfl
  have hz1 : zz tRow x.2.1 = (0 + (0 + (0 + (List.length x.2.1.2.2.2.1 + 0)))) := rfl
  have hz3 : zz tRow x.2.2.2.1 = (0 + (0 + (0 + (List.length x.2.2.2.1.2.2.2.1 + 0)))) := rfl
  refine lift_eq (k := 0) fun k _ => (laws_eqChange.raw_eq k _).trans ?_
  show laws_eqChange.p _ = _
  unfold laws_eqChange.p
  have q0 := eqRow_self x.2.1 (by omega)
  have q1 := eqRow_self x.2.2.2.1 (by omega)
  simp [q0, q1]
theorem eqChangeS_self (x : List Change) (h : zz (.slc tChange) x ≤ 4611686018427387904) : laws_eqChangeS.sem (x, x, ()) = some (true, ()) := by
  have hl : x.length ≤ 4611686018427387904 := Nat.le_trans (zz_len (e := tChange) x) h
  refine lift_eq (k := x.length + 1) fun k hk => (laws_eqChangeS.raw_eq k _).trans ?_
  unfold laws_eqChangeS.raw laws_eqChangeS.p
  simp only [decide_true, Bool.not_true, cond_false]
  have := all_loop (B := fun self v => laws_eqChangeS.B0 k self (fun z => laws_eqChangeS.Q0 k (x, x, ()) z) (x, x, ()) v) (xs := x) (ys := x) (fun _ _ => true) rfl (by rw [maxLen_val]; omega) (fun i hi hj self => by
      show laws_eqChangeS.b0 _ _ _ _ = _
      unfold laws_eqChangeS.b0
      have hlt : (i : Int) < (x.length : Int) := by omega
      simp only [hlt, decide_true, cond_true, Int.natCast_nonneg, if_true, Int.toNat_natCast, List.getElem?_eq_getElem hi, Option.bind_some, Bool.not_true, cond_false, eqChange_self x[i] (by have := zz_mem (e := tChange) (List.getElem_mem hi); omega)]) (fun self => by
      show laws_eqChangeS.b0 _ _ _ _ = _
      unfold laws_eqChangeS.b0
      simp [laws_eqChangeS.Q0, laws_eqChangeS.q0]) k (by omega)
  rw [show allB (fun _ _ => true) x x = true by simp [allB]] at this
  exact this
theorem eqBuffer_self (x : Buffer) (h : zz tBuffer x ≤ 4611686018427387904) : laws_eqBuffer.sem (x, x, ()) = some (true, ()) := by
  have hz : zz tBuffer x = (0 + (zz (.slc tChange) x.2.1 + 0)) := rfl
  refine lift_eq (k := 0) fun k _ => (laws_eqBuffer.raw_eq k _).trans ?_
  show laws_eqBuffer.p _ = _
  unfold laws_eqBuffer.p
  have q0 := eqChangeS_self x.2.1 (by omega)
  simp [q0]
theorem eqBufferS_self (x : List Buffer) (h : zz (.slc tBuffer) x ≤ 4611686018427387904) : laws_eqBufferS.sem (x, x, ()) = some (true, ()) := by
  have hl : x.length ≤ 4611686018427387904 := Nat.le_trans (zz_len (e := tBuffer) x) h
  refine lift_eq (k := x.length + 1) fun k hk => (laws_eqBufferS.raw_eq k _).trans ?_
  unfold laws_eqBufferS.raw laws_eqBufferS.p
  simp only [decide_true, Bool.not_true, cond_false]
  have := all_loop (B := fun self v => laws_eqBufferS.B0 k self (fun z => laws_eqBufferS.Q0 k (x, x, ()) z) (x, x, ()) v) (xs := x) (ys := x) (fun _ _ => true) rfl (by rw [maxLen_val]; omega) (fun i hi hj self => by
      show laws_eqBufferS.b0 _ _ _ _ = _
      unfold laws_eqBufferS.b0
      have hlt : (i : Int) < (x.length : Int) := by omega
      simp only [hlt, decide_true, cond_true, Int.natCast_nonneg, if_true, Int.toNat_natCast, List.getElem?_eq_getElem hi, Option.bind_some, Bool.not_true, cond_false, eqBuffer_self x[i] (by have := zz_mem (e := tBuffer) (List.getElem_mem hi); omega)]) (fun self => by
      show laws_eqBufferS.b0 _ _ _ _ = _
      unfold laws_eqBufferS.b0
      simp [laws_eqBufferS.Q0, laws_eqBufferS.q0]) k (by omega)
  rw [show allB (fun _ _ => true) x x = true by simp [allB]] at this
  exact this
theorem eqMiner_self (x : Miner) (h : zz tMiner x ≤ 4611686018427387904) : laws_eqMiner.sem (x, x, ()) = some (true, ()) := by
  have hz : zz tMiner x = (zz (.slc (.slc u8)) x.1 + (zz (.slc tBuffer) x.2.1 + 0)) := rfl
  refine lift_eq (k := 0) fun k _ => (laws_eqMiner.raw_eq k _).trans ?_
  show laws_eqMiner.p _ = _
  unfold laws_eqMiner.p
  have q0 := eqByteSS_self x.1 (by omega)
  have q1 := eqBufferS_self x.2.1 (by omega)
  simp [q0, q1]
theorem eqConnector_self (x : Connector) (h : zz tConnector x ≤ 4611686018427387904) : laws_eqConnector.sem (x, x, ()) = some (true, ()) := by
  have hz : zz tConnector x = ((zz (.slc (.slc u8)) x.1.1 + (zz (.slc tBuffer) x.1.2.1 + 0)) + (0 + ((zz (.slc (.slc u8)) x.2.2.1.1 + (zz (.slc tBuffer) x.2.2.1.2.1 + 0)) + (0 + 0)))) := rfl
  have hz0 : zz tMiner x.1 = (zz (.slc (.slc u8)) x.1.1 + (zz (.slc tBuffer) x.1.2.1 + 0)) := rfl
  have hz2 : zz tMiner x.2.2.1 = (zz (.slc (.slc u8)) x.2.2.1.1 + (zz (.slc tBuffer) x.2.2.1.2.1 + 0)) := rfl
  refine lift_eq (k := 0) fun k _ => (laws_eqConnector.raw_eq k _).trans ?_
  show laws_eqConnector.p _ = _
  unfold laws_eqConnector.p
  have q0 := eqMiner_self x.1 (by omega)
  have q1 := eqMiner_self x.2.2.1 (by omega)
  simp [q0, q1]
theorem szRow_eq (x : Row) (n : Int) (hx : okD tRow x) (h0 : 0 ≤ n) (h1 : n ≤ 1048576) : laws_szRow.sem (x, n, ()) = some (lft n (zz tRow x), ()) := by
  have hz : zz tRow x = (0 + (0 + (0 + (List.length x.2.2.2.1 + 0)))) := rfl
  refine lift_eq (k := 0) fun k _ => (laws_szRow.raw_eq k _).trans ?_
  show laws_szRow.p _ = _
  unfold laws_szRow.p
  have hw : w64 (n - (List.length x.2.2.2.1 : Int)) = n - (List.length x.2.2.2.1 : Int) := w64_in (by have h9 := hx.2.2.2.1; simp only [okD] at h9; rw [maxLen_val] at h9; omega)
  simp only [hw]
  by_cases hc : ((List.length x.2.2.2.1 : Nat) : Int) ≤ n
  rotate_left
  · have n1 : n - ((List.length x.2.2.2.1 : Nat) : Int) < 0 := by omega
    have e2 : lft n (zz tRow x) = -1 := if_neg (by omega)
    rw [e2]; simp only [n1, decide_true, cond_true]
  have n1 : ¬ (n - ((List.length x.2.2.2.1 : Nat) : Int) < 0) := by omega
  simp only [n1, decide_false, cond_false]
  clear n1 hw
  have e2 : lft n (zz tRow x) = (n - ((List.length x.2.2.2.1 : Nat) : Int)) := by unfold lft; rw [if_pos (by omega)]; omega
  rw [e2]
theorem szChange_eq (x : Change) (n : Int) (hx : okD tChange x) (h0 : 0 ≤ n) (h1 : n ≤ 1048576) : laws_szChange.sem (x, n, ()) = some (lft n (zz tChange x), ()) := by
  have hz : zz tChange x = (0 + ((0 + (0 + (0 + (List.length x.2.1.2.2.2.1 + 0)))) + (0 + ((0 + (0 + (0 + (List.length x.2.2.2.1.2.2.2.1 + 0)))) + 0)))) := rfl
  refine lift_eq (k := 0) fun k _ => (laws_szChange.raw_eq k _).trans ?_
  show laws_szChange.p _ = _
  unfold laws_szChange.p
  have hz1 : zz tRow x.2.1 = (0 + (0 + (0 + (List.length x.2.1.2.2.2.1 + 0)))) := rfl
  simp only [szRow_eq x.2.1 (n) hx.2.1 (by omega) (by omega), Option.bind_some]
  by_cases hc : ((zz tRow x.2.1 : Nat) : Int) ≤ n
  rotate_left
  · have e1 : lft (n) (zz tRow x.2.1) = -1 := if_neg hc
    have e2 : lft n (zz tChange x) = -1 := if_neg (by omega)
    rw [e1, e2]; rfl
  have e1 : lft (n) (zz tRow x.2.1) = n - ((zz tRow x.2.1 : Nat) : Int) := if_pos hc
  have n1 : ¬ (n - ((zz tRow x.2.1 : Nat) : Int) < 0) := by omega
  simp only [e1, n1, decide_false, cond_false]
  clear e1 n1
  have hz3 : zz tRow x.2.2.2.1 = (0 + (0 + (0 + (List.length x.2.2.2.1.2.2.2.1 + 0)))) := rfl
  simp only [szRow_eq x.2.2.2.1 ((n - ((zz tRow x.2.1 : Nat) : Int))) hx.2.2.2.1 (by omega) (by omega), Option.bind_some]
  by_cases hc : ((zz tRow x.2.2.2.1 : Nat) : Int) ≤ (n - ((zz tRow x.2.1 : Nat) : Int))
  rotate_left
  · have e1 : lft ((n - ((zz tRow x.2.1 : Nat) : Int))) (zz tRow x.2.2.2.1) = -1 := if_neg hc
    have e2 : lft n (zz tChange x) = -1 := if_neg (by omega)
    rw [e1, e2]; rfl
  have e1 : lft ((n - ((zz tRow x.2.1 : Nat) : Int))) (zz tRow x.2.2.2.1) = (n - ((zz tRow x.2.1 : Nat) : Int)) - ((zz tRow x.2.2.2.1 : Nat) : Int) := if_pos hc
  have n1 : ¬ ((n - ((zz tRow x.2.1 : Nat) : Int)) - ((zz tRow x.2.2.2.1 : Nat) : Int) < 0) := by omega
  simp only [e1, n1, decide_false, cond_false]
  clear e1 n1
  have e2 : lft n (zz tChange x) = ((n - ((zz tRow x.2.1 : Nat) : Int)) - ((zz tRow x.2.2.2.1 : Nat) : Int)) := by unfold lft; rw [if_pos (by omega)]; omega
  rw [e2]
theorem szChangeS_eq (x : List Change) (n : Int) (hx : okD (.slc tChange) x) (h0 : 0 ≤ n) (h1 : n ≤ 1048576) : laws_szChangeS.sem (x, n, ()) = some (lft n (zz (.slc tChange) x), ()) := by
  obtain ⟨hl, hel⟩ := hx
  have hl' := hl
  rw [maxLen_val] at hl'
  have hl' : List.length x ≤ 9223372036854775807 := hl'
  have hw : w64 (n - (List.length x : Int)) = n - (List.length x : Int) := w64_in (by omega)
  have hz : zz (.slc tChange) x = List.length x + sumW (zz tChange) x := rfl
  by_cases hc : n - (List.length x : Int) < 0
  · have e1 : lft n (zz (.slc tChange) x) = -1 := if_neg (by omega)
    rw [e1]
    refine lift_eq (k := 0) fun k _ => (laws_szChangeS.raw_eq k _).trans ?_
    unfold laws_szChangeS.raw laws_szChangeS.p
    simp only [hw, hc, decide_true, cond_true]
    try rfl
  · have e1 : lft n (zz (.slc tChange) x) = lft (n - (List.length x : Int)) (sumW (zz tChange) x) := by rw [hz, lft_add (by omega)]
    rw [e1]
    refine lift_eq (k := List.length x + 1) fun k hk => (laws_szChangeS.raw_eq k _).trans ?_
    unfold laws_szChangeS.raw laws_szChangeS.p
    simp only [hw, hc, decide_false, cond_false]
    exact sz_loop (B := fun self v => laws_szChangeS.B0 0 self (fun z => laws_szChangeS.Q0 0 (x, n, ()) z) (x, n, ()) v) (xs := x) hl (zz tChange) (fun i hi m self hm0 hm1 => by
        show laws_szChangeS.b0 _ _ _ _ = _
        unfold laws_szChangeS.b0
        have hlt : (i : Int) < (List.length x : Int) := by omega
        simp only [hlt, decide_true, cond_true, Int.natCast_nonneg, if_true, Int.toNat_natCast, List.getElem?_eq_getElem hi, Option.bind_some, szChange_eq x[i] m (hel _ (List.getElem_mem hi)) hm0 hm1]
        by_cases hs : lft m (zz tChange x[i]) < 0 <;> simp [hs]) (fun m self => by
        show laws_szChangeS.b0 _ _ _ _ = _
        unfold laws_szChangeS.b0
        simp [laws_szChangeS.Q0, laws_szChangeS.q0]) _ (by omega) (by omega) k (by omega)
theorem szBuffer_eq (x : Buffer) (n : Int) (hx : okD tBuffer x) (h0 : 0 ≤ n) (h1 : n ≤ 1048576) : laws_szBuffer.sem (x, n, ()) = some (lft n (zz tBuffer x), ()) := by
  have hz : zz tBuffer x = (0 + (zz (.slc tChange) x.2.1 + 0)) := rfl
  refine lift_eq (k := 0) fun k _ => (laws_szBuffer.raw_eq k _).trans ?_
  show laws_szBuffer.p _ = _
  unfold laws_szBuffer.p
  simp only [szChangeS_eq x.2.1 (n) hx.2.1 (by omega) (by omega), Option.bind_some]
  by_cases hc : ((zz (.slc tChange) x.2.1 : Nat) : Int) ≤ n
  rotate_left
  · have e1 : lft (n) (zz (.slc tChange) x.2.1) = -1 := if_neg hc
    have e2 : lft n (zz tBuffer x) = -1 := if_neg (by omega)
    rw [e1, e2]; rfl
  have e1 : lft (n) (zz (.slc tChange) x.2.1) = n - ((zz (.slc tChange) x.2.1 : Nat) : Int) := if_pos hc
  have n1 : ¬ (n - ((zz (.slc tChange) x.2.1 : Nat) : Int) < 0) := by omega
  simp only [e1, n1, decide_false, cond_false]
  clear e1 n1
  have e2 : lft n (zz tBuffer x) = (n - ((zz (.slc tChange) x.2.1 : Nat) : Int)) := by unfold lft; rw [if_pos (by omega)]; omega
  rw [e2]
theorem szBufferS_eq (x : List Buffer) (n : Int) (hx : okD (.slc tBuffer) x) (h0 : 0 ≤ n) (h1 : n ≤ 1048576) : laws_szBufferS.sem (x, n, ()) = some (lft n (zz (.slc tBuffer) x), ()) := by
  obtain ⟨hl, hel⟩ := hx
  have hl' := hl
  rw [maxLen_val] at hl'
  have hl' : List.length x ≤ 9223372036854775807 := hl'
  have hw : w64 (n - (List.length x : Int)) = n - (List.length x : Int) := w64_in (by omega)
  have hz : zz (.slc tBuffer) x = List.length x + sumW (zz tBuffer) x := rfl
  by_cases hc : n - (List.length x : Int) < 0
  · have e1 : lft n (zz (.slc tBuffer) x) = -1 := if_neg (by omega)
    rw [e1]
    refine lift_eq (k := 0) fun k _ => (laws_szBufferS.raw_eq k _).trans ?_
    unfold laws_szBufferS.raw laws_szBufferS.p
    simp only [hw, hc, decide_true, cond_true]
    try rfl
  · have e1 : lft n (zz (.slc tBuffer) x) = lft (n - (List.length x : Int)) (sumW (zz tBuffer) x) := by rw [hz, lft_add (by omega)]
    rw [e1]
    refine lift_eq (k := List.length x + 1) fun k hk => (laws_szBufferS.raw_eq k _).trans ?_
    unfold laws_szBufferS.raw laws_szBufferS.p
    simp only [hw, hc, decide_false, cond_false]
    exact sz_loop (B := fun self v => laws_szBufferS.B0 0 self (fun z => laws_szBufferS.Q0 0 (x, n, ()) z) (x, n, ()) v) (xs := x) hl (zz tBuffer) (fun i hi m self hm0 hm1 => by
        show laws_szBufferS.b0 _ _ _ _ = _
        unfold laws_szBufferS.b0
        have hlt : (i : Int) < (List.length x : Int) := by omega
        simp only [hlt, decide_true, cond_true, Int.natCast_nonneg, if_true, Int.toNat_natCast, List.getElem?_eq_getElem hi, Option.bind_some, szBuffer_eq x[i] m (hel _ (List.getElem_mem hi)) hm0 hm1]
        by_cases hs : lft m (zz tBuffer x[i]) < 0 <;> simp [hs]) (fun m self => by
        show laws_szBufferS.b0 _ _ _ _ = _
        unfold laws_szBufferS.b0
        simp [laws_szBufferS.Q0, laws_szBufferS.q0]) _ (by omega) (by omega) k (by omega)
theorem szMiner_eq (x : Miner) (n : Int) (hx : okD tMiner x) (h0 : 0 ≤ n) (h1 : n ≤ 1048576) : laws_szMiner.sem (x, n, ()) = some (lft n (zz tMiner x), ()) := by
  have hz : zz tMiner x = (zz (.slc (.slc u8)) x.1 + (zz (.slc tBuffer) x.2.1 + 0)) := rfl
  refine lift_eq (k := 0) fun k _ => (laws_szMiner.raw_eq k _).trans ?_
  show laws_szMiner.p _ = _
  unfold laws_szMiner.p
  simp only [szByteSS_eq x.1 (n) hx.1 (by omega) (by omega), Option.bind_some]
  by_cases hc : ((zz (.slc (.slc u8)) x.1 : Nat) : Int) ≤ n
  rotate_left
  · have e1 : lft (n) (zz (.slc (.slc u8)) x.1) = -1 := if_neg hc
    have e2 : lft n (zz tMiner x) = -1 := if_neg (by omega)
    rw [e1, e2]; rfl
  have e1 : lft (n) (zz (.slc (.slc u8)) x.1) = n - ((zz (.slc (.slc u8)) x.1 : Nat) : Int) := if_pos hc
  have n1 : ¬ (n - ((zz (.slc (.slc u8)) x.1 : Nat) : Int) < 0) := by omega
  simp only [e1, n1, decide_false, cond_false]
  clear e1 n1
  simp only [szBufferS_eq x.2.1 ((n - ((zz (.slc (.slc u8)) x.1 : Nat) : Int))) hx.2.1 (by omega) (by omega), Option.bind_some]
  by_cases hc : ((zz (.slc tBuffer) x.2.1 : Nat) : Int) ≤ (n - ((zz (.slc (.slc u8)) x.1 : Nat) : Int))
  rotate_left
  · have e1 : lft ((n - ((zz (.slc (.slc u8)) x.1 : Nat) : Int))) (zz (.slc tBuffer) x.2.1) = -1 := if_neg hc
    have e2 : lft n (zz tMiner x) = -1 := if_neg (by omega)
    rw [e1, e2]; rfl
  have e1 : lft ((n - ((zz (.slc (.slc u8)) x.1 : Nat) : Int))) (zz (.slc tBuffer) x.2.1) = (n - ((zz (.slc (.slc u8)) x.1 : Nat) : Int)) - ((zz (.slc tBuffer) x.2.1 : Nat) : Int) := if_pos hc
  have n1 : ¬ ((n - ((zz (.slc (.slc u8)) x.1 : Nat) : Int)) - ((zz (.slc tBuffer) x.2.1 : Nat) : Int) < 0) := by omega
  simp only [e1, n1, decide_false, cond_false]
  clear e1 n1
  have e2 : lft n (zz tMiner x) = ((n - ((zz (.slc (.slc u8)) x.1 : Nat) : Int)) - ((zz (.slc tBuffer) x.2.1 : Nat) : Int)) := by unfold lft; rw [if_pos (by omega)]; omega
  rw [e2]
theorem szConnector_eq (x : Connector) (n : Int) (hx : okD tConnector x) (h0 : 0 ≤ n) (h1 : n ≤ 1048576) : laws_szConnector.sem (x, n, ()) = some (lft n (zz tConnector x), ()) := by
  have hz : zz tConnector x = ((zz (.slc (.slc u8)) x.1.1 + (zz (.slc tBuffer) x.1.2.1 + 0)) + (0 + ((zz (.slc (.slc u8)) x.2.2.1.1 + (zz (.slc tBuffer) x.2.2.1.2.1 + 0)) + (0 + 0)))) := rfl
  refine lift_eq (k := 0) fun k _ => (laws_szConnector.raw_eq k _).trans ?_
  show laws_szConnector.p _ = _
  unfold laws_szConnector.p
  have hz0 : zz tMiner x.1 = (zz (.slc (.slc u8)) x.1.1 + (zz (.slc tBuffer) x.1.2.1 + 0)) := rfl
  simp only [szMiner_eq x.1 (n) hx.1 (by omega) (by omega), Option.bind_some]
  by_cases hc : ((zz tMiner x.1 : Nat) : Int) ≤ n
  rotate_left
  · have e1 : lft (n) (zz tMiner x.1) = -1 := if_neg hc
    have e2 : lft n (zz tConnector x) = -1 := if_neg (by omega)
    rw [e1, e2]; rfl
  have e1 : lft (n) (zz tMiner x.1) = n - ((zz tMiner x.1 : Nat) : Int) := if_pos hc
  have n1 : ¬ (n - ((zz tMiner x.1 : Nat) : Int) < 0) := by omega
  simp only [e1, n1, decide_false, cond_false]
  clear e1 n1
  have hz2 : zz tMiner x.2.2.1 = (zz (.slc (.slc u8)) x.2.2.1.1 + (zz (.slc tBuffer) x.2.2.1.2.1 + 0)) := rfl
  simp only [szMiner_eq x.2.2.1 ((n - ((zz tMiner x.1 : Nat) : Int))) hx.2.2.1 (by omega) (by omega), Option.bind_some]
  by_cases hc : ((zz tMiner x.2.2.1 : Nat) : Int) ≤ (n - ((zz tMiner x.1 : Nat) : Int))
  rotate_left
  · have e1 : lft ((n - ((zz tMiner x.1 : Nat) : Int))) (zz tMiner x.2.2.1) = -1 := if_neg hc
    have e2 : lft n (zz tConnector x) = -1 := if_neg (by omega)
    rw [e1, e2]; rfl
  have e1 : lft ((n - ((zz tMiner x.1 : Nat) : Int))) (zz tMiner x.2.2.1) = (n - ((zz tMiner x.1 : Nat) : Int)) - ((zz tMiner x.2.2.1 : Nat) : Int) := if_pos hc
  have n1 : ¬ ((n - ((zz tMiner x.1 : Nat) : Int)) - ((zz tMiner x.2.2.1 : Nat) : Int) < 0) := by omega
  simp only [e1, n1, decide_false, cond_false]
  clear e1 n1
  have e2 : lft n (zz tConnector x) = ((n - ((zz tMiner x.1 : Nat) : Int)) - ((zz tMiner x.2.2.1 : Nat) : Int)) := by unfold lft; rw [if_pos (by omega)]; omega
  rw [e2]
theorem toRow_eq (x : Row) (h : zz tRow x ≤ 1048576) : laws_toRow.sem (x, ()) = some (x, ()) := by
  have hz : zz tRow x = (0 + (0 + (0 + (List.length x.2.2.2.1 + 0)))) := rfl
  refine lift_eq (k := 0) fun k _ => (laws_toRow.raw_eq k _).trans ?_
  show laws_toRow.p _ = _
  unfold laws_toRow.p
  rfl
theorem toChange_eq (x : Change) (h : zz tChange x ≤ 1048576) : laws_toChange.sem (x, ()) = some (x, ()) := by
  have hz : zz tChange x = (0 + ((0 + (0 + (0 + (List.length x.2.1.2.2.2.1 + 0)))) + (0 + ((0 + (0 + (0 + (List.length x.2.2.2.1.2.2.2.1 + 0)))) + 0)))) := rfl
  have hz1 : zz tRow x.2.1 = (0 + (0 + (0 + (List.length x.2.1.2.2.2.1 + 0)))) := rfl
  have hz3 : zz tRow x.2.2.2.1 = (0 + (0 + (0 + (List.length x.2.2.2.1.2.2.2.1 + 0)))) := rfl
  refine lift_eq (k := 0) fun k _ => (laws_toChange.raw_eq k _).trans ?_
  show laws_toChange.p _ = _
  unfold laws_toChange.p
  simp only [toRow_eq x.2.1 (by omega), toRow_eq x.2.2.2.1 (by omega), Option.bind_some]
theorem toChangeS_eq (x : List Change) (h : zz (.slc tChange) x ≤ 1048576) : laws_toChangeS.sem (x, ()) = some (x, ()) := by
  have hl : x.length ≤ 1048576 := Nat.le_trans (zz_len (e := tChange) x) h
  refine lift_eq (k := x.length + 1) fun k hk => (laws_toChangeS.raw_eq k _).trans ?_
  unfold laws_toChangeS.raw laws_toChangeS.p
  have hc : 0 ≤ (x.length : Int) ∧ (x.length : Int) ≤ (x.length : Int) ∧ (x.length : Int) ≤ (CAP : Int) := by simp only [CAP]; omega
  simp only [hc, and_self, if_true, Int.toNat_natCast]
  exact copy_loop (B := fun self v => laws_toChangeS.B0 k self (fun z => laws_toChangeS.Q0 k (x, ()) z) (x, ()) v) (xs := x) (by rw [maxLen_val]; omega) (fun i hi acc self ha => by
    show laws_toChangeS.b0 _ _ _ _ = _
    unfold laws_toChangeS.b0
    have hlt : (i : Int) < (x.length : Int) := by omega
    have hlt2 : (i : Int) < (acc.length : Int) := by omega
    simp only [hlt, hlt2, decide_true, cond_true, Int.natCast_nonneg, and_self, if_true, Int.toNat_natCast, List.getElem?_eq_getElem hi, List.getElem?_eq_getElem (show i < acc.length by omega), Option.bind_some, toChange_eq x[i] (by have := zz_mem (e := tChange) (List.getElem_mem hi); omega)]) (fun acc self => by
    show laws_toChangeS.b0 _ _ _ _ = _
    unfold laws_toChangeS.b0
    simp [laws_toChangeS.Q0, laws_toChangeS.q0]) _ k (by omega)
theorem toBuffer_eq (x : Buffer) (h : zz tBuffer x ≤ 1048576) : laws_toBuffer.sem (x, ()) = some (x, ()) := by
  have hz : zz tBuffer x = (0 + (zz (.slc tChange) x.2.1 + 0)) := rfl
  refine lift_eq (k := 0) fun k _ => (laws_toBuffer.raw_eq k _).trans ?_
  show laws_toBuffer.p _ = _
  unfold laws_toBuffer.p
  simp only [toChangeS_eq x.2.1 (by omega), Option.bind_some]
theorem toBufferS_eq (x : List Buffer) (h : zz (.slc tBuffer) x ≤ 1048576) : laws_toBufferS.sem (x, ()) = some (x, ()) := by
  have hl : x.length ≤ 1048576 := Nat.le_trans (zz_len (e := tBuffer) x) h
  refine lift_eq (k := x.length + 1) fun k hk => (laws_toBufferS.raw_eq k _).trans ?_
  unfold laws_toBufferS.raw laws_toBufferS.p
  have hc : 0 ≤ (x.length : Int) ∧ (x.length : Int) ≤ (x.length : Int) ∧ (x.length : Int) ≤ (CAP : Int) := by simp only [CAP]; omega
  simp only [hc, and_self, if_true, Int.toNat_natCast]
  exact copy_loop (B := fun self v => laws_toBufferS.B0 k self (fun z => laws_toBufferS.Q0 k (x, ()) z) (x, ()) v) (xs := x) (by rw [maxLen_val]; omega) (fun i hi acc self ha => by
    show laws_toBufferS.b0 _ _ _ _ = _
    unfold laws_toBufferS.b0
    have hlt : (i : Int) < (x.length : Int) := by omega
    have hlt2 : (i : Int) < (acc.length : Int) := by omega
    simp only [hlt, hlt2, decide_true, cond_true, Int.natCast_nonneg, and_self, if_true, Int.toNat_natCast, List.getElem?_eq_getElem hi, List.getElem?_eq_getElem (show i < acc.length by omega), Option.bind_some, toBuffer_eq x[i] (by have := zz_mem (e := tBuffer) (List.getElem_mem hi); omega)]) (fun acc self => by
    show laws_toBufferS.b0 _ _ _ _ = _
    unfold laws_toBufferS.b0
    simp [laws_toBufferS.Q0, laws_toBufferS.q0]) _ k (by omega)
theorem toMiner_eq (x : Miner) (h : zz tMiner x ≤ 1048576) : laws_toMiner.sem (x, ()) = some (x, ()) := by
  have hz : zz tMiner x = (zz (.slc (.slc u8)) x.1 + (zz (.slc tBuffer) x.2.1 + 0)) := rfl
  refine lift_eq (k := 0) fun k _ => (laws_toMiner.raw_eq k _).trans ?_
  show laws_toMiner.p _ = _
  unfold laws_toMiner.p
  simp only [toByteSS_eq x.1 (by omega), toBufferS_eq x.2.1 (by omega), Option.bind_some]
theorem toConnector_eq (x : Connector) (h : zz tConnector x ≤ 1048576) : laws_toConnector.sem (x, ()) = some (x, ()) := by
  have hz : zz tConnector x = ((zz (.slc (.slc u8)) x.1.1 + (zz (.slc tBuffer) x.1.2.1 + 0)) + (0 + ((zz (.slc (.slc u8)) x.2.2.1.1 + (zz (.slc tBuffer) x.2.2.1.2.1 + 0)) + (0 + 0)))) := rfl
  have hz0 : zz tMiner x.1 = (zz (.slc (.slc u8)) x.1.1 + (zz (.slc tBuffer) x.1.2.1 + 0)) := rfl
  have hz2 : zz tMiner x.2.2.1 = (zz (.slc (.slc u8)) x.2.2.1.1 + (zz (.slc tBuffer) x.2.2.1.2.1 + 0)) := rfl
  refine lift_eq (k := 0) fun k _ => (laws_toConnector.raw_eq k _).trans ?_
  show laws_toConnector.p _ = _
  unfold laws_toConnector.p
  simp only [toMiner_eq x.1 (by omega), toMiner_eq x.2.2.1 (by omega), Option.bind_some]
end OT

set_option linter.unusedVariables false
set_option linter.unusedSimpArgs false
namespace OT
open Go

theorem specIn_eq (a b c : Int) : spec_l1In.sem (a, b, c, ()) = some (decide (b ≤ a) && decide (a ≤ c), ()) := by
  refine lift_eq (k := 0) fun k _ => (spec_l1In.raw_eq k _).trans ?_
  show spec_l1In.p _ = _
  unfold spec_l1In.p
  by_cases h : b ≤ a <;> simp [h]
theorem implIn_eq (a b c : Int) : impl_in.sem (a, b, c, ()) = some (decide (b ≤ a) && decide (a ≤ c), ()) := by
  refine lift_eq (k := 0) fun k _ => (impl_in.raw_eq k _).trans ?_
  show impl_in.p _ = _
  unfold impl_in.p
  by_cases h : b ≤ a <;> simp [h]
theorem isTx_eq (a : Int) : impl_isTx.sem (a, ()) = some (decide (1 ≤ a) && decide (a ≤ 99), ()) := by
  refine lift_eq (k := 0) fun k _ => (impl_isTx.raw_eq k _).trans ?_
  show impl_isTx.p _ = _
  unfold impl_isTx.p
  simp [implIn_eq]
def inB (a b c : Int) : Bool := decide (b ≤ a) && decide (a ≤ c)
abbrev Pages : Type := List (List UInt8)
def gp (ps : Pages) : Prop := ps.length ≤ 12 ∧ ∀ p ∈ ps, p.length = 64
end OT

set_option linter.unusedVariables false
set_option linter.unusedSimpArgs false
namespace OT
open Go

/-! Rows. -/
def letter (c : UInt8) : Bool := !decide ((c.toNat : Int) < 97) && !decide ((122 : Int) < (c.toNat : Int))
def textB (s : List UInt8) : Bool := s.all letter && decide (s.length ≤ 8)
def rowF (x : Row) : Int := if inB x.1 0 3 && (inB x.2.1 1 99 && inB x.2.2.1 0 999) then (if textB x.2.2.2.1 then 0 else 5) else 3

theorem len8 (s : List UInt8) : decide ((s.length : Int) ≤ 8) = decide (s.length ≤ 8) := by
  by_cases h : s.length ≤ 8
  · have : (s.length : Int) ≤ 8 := by omega
    simp [h, this]
  · have : ¬ (s.length : Int) ≤ 8 := by omega
    simp [h, this]

theorem specText_eq (s : List UInt8) (h : s.length ≤ maxLen) : spec_l1Text.sem (s, ()) = some (textB s, ()) := by
  refine lift_eq (k := s.length + 1) fun k hk => (spec_l1Text.raw_eq k _).trans ?_
  have := for_loop (B := fun self v => spec_l1Text.B0 0 self (fun z => spec_l1Text.Q0 0 (s, ()) z) (s, ()) v) s (fun (_ : Unit) (i : Int) => i) (fun _ _ x => if letter x then .inr () else .inl (false, ())) (fun _ => (decide (s.length ≤ 8), ())) (fun _ _ => True) h
    (fun i hi _ self _ => by
      show spec_l1Text.b0 _ _ _ _ = _
      unfold spec_l1Text.b0
      have hlt : (i : Int) < (s.length : Int) := by omega
      simp only [hlt, decide_true, cond_true, Int.natCast_nonneg, if_true, Int.toNat_natCast, List.getElem?_eq_getElem hi, Option.bind_some]
      unfold letter
      by_cases h1 : ((s[i].toNat : Int) < 97) <;> by_cases h2 : ((122 : Int) < (s[i].toNat : Int)) <;> simp [h1, h2]) (fun _ _ _ _ _ _ => trivial) (fun _ self _ => by
      show spec_l1Text.b0 _ _ _ _ = _
      unfold spec_l1Text.b0
      simp [spec_l1Text.Q0, spec_l1Text.q0, len8]) () trivial k (by omega)
  refine this.trans ?_
  rw [forI_check letter (false, ()) (fun _ => (decide (s.length ≤ 8), ()))]
  unfold textB
  cases s.all letter <;> rfl

theorem specRow_eq (x : Row) (h : List.length x.2.2.2.1 ≤ maxLen) : spec_l1Fault.sem (x, ()) = some (rowF x, ()) := by
  refine lift_eq (k := 0) fun k _ => (spec_l1Fault.raw_eq k _).trans ?_
  show spec_l1Fault.p _ = _
  unfold spec_l1Fault.p rowF inB
  simp only [specIn_eq, specText_eq _ h, Option.bind_some]
  cases decide ((0 : Int) ≤ x.1) <;> cases decide (x.1 ≤ 3) <;> cases decide ((1 : Int) ≤ x.2.1) <;> cases decide (x.2.1 ≤ 99) <;> cases decide ((0 : Int) ≤ x.2.2.1) <;> cases decide (x.2.2.1 ≤ 999) <;> cases textB x.2.2.2.1 <;> rfl

theorem implRow_eq (x : Row) (h : List.length x.2.2.2.1 ≤ maxLen) : impl_RowFault.sem (x, ()) = some (rowF x, ()) := by
  refine lift_eq (k := List.length x.2.2.2.1 + 1) fun k hk => (impl_RowFault.raw_eq k _).trans ?_
  have := for_loop (B := fun self v => impl_RowFault.B0 0 self (fun z => impl_RowFault.Q0 0 (x, ()) z) (x, ()) v) x.2.2.2.1 (fun (_ : Unit) (i : Int) => i) (fun _ _ c => if letter c then .inr () else .inl (5, ())) (fun _ => (0, ())) (fun _ _ => True) h
    (fun i hi _ self _ => by
      show impl_RowFault.b0 _ _ _ _ = _
      unfold impl_RowFault.b0
      have hlt : (i : Int) < (List.length x.2.2.2.1 : Int) := by omega
      simp only [hlt, decide_true, cond_true, Int.natCast_nonneg, if_true, Int.toNat_natCast, List.getElem?_eq_getElem hi, Option.bind_some]
      unfold letter
      by_cases h1 : (((x.2.2.2.1)[i].toNat : Int) < 97) <;> by_cases h2 : ((122 : Int) < ((x.2.2.2.1)[i].toNat : Int)) <;> simp [h1, h2]) (fun _ _ _ _ _ _ => trivial) (fun _ self _ => by
      show impl_RowFault.b0 _ _ _ _ = _
      unfold impl_RowFault.b0
      simp [impl_RowFault.Q0, impl_RowFault.q0]) () trivial k (by omega)
  rw [forI_check letter (5, ()) (fun _ => (0, ()))] at this
  have this : impl_RowFault.r0 k (x, ()) 0 = _ := this
  unfold impl_RowFault.raw impl_RowFault.p rowF inB textB
  simp only [implIn_eq, this, Option.bind_some]
  have h8 : decide ((8 : Int) < (List.length x.2.2.2.1 : Int)) = !decide (List.length x.2.2.2.1 ≤ 8) := by
    by_cases hc : List.length x.2.2.2.1 ≤ 8
    · have : ¬ (8 : Int) < (List.length x.2.2.2.1 : Int) := by omega
      simp [hc, this]
    · have : (8 : Int) < (List.length x.2.2.2.1 : Int) := by omega
      simp [hc, this]
  rw [h8]
  cases decide ((0 : Int) ≤ x.1) <;> cases decide (x.1 ≤ 3) <;> cases decide ((1 : Int) ≤ x.2.1) <;> cases decide (x.2.1 ≤ 99) <;> cases decide ((0 : Int) ≤ x.2.2.1) <;> cases decide (x.2.2.1 ≤ 999) <;> cases decide (List.length x.2.2.2.1 ≤ 8) <;> cases (x.2.2.2.1).all letter <;> rfl

/-! Changes. -/
def rl (x : Row) : Prop := List.length x.2.2.2.1 ≤ maxLen
def cl (c : Change) : Prop := rl c.2.1 ∧ rl c.2.2.2.1
def sameKey (a b : Row) : Bool := decide (a.1 = b.1) && decide (a.2.1 = b.2.1)
def befB (a b : Int × Int) : Bool := decide (a.1 < b.1) || (decide (a.1 = b.1) && decide (a.2 < b.2))
def chF (c : Change) : Int := if (!c.1 && !c.2.2.1) || (c.1 && c.2.2.1 && !sameKey c.2.1 c.2.2.2.1) then 1 else if c.1 && !decide (rowF c.2.1 = 0) then rowF c.2.1 else if c.2.2.1 then rowF c.2.2.2.1 else 0
def chS (c : Change) : Int := if chF c = 0 then (if c.1 && c.2.2.1 && Ty.eq tRow c.2.1 c.2.2.2.1 then 1 else 0) else chF c
def ck (c : Change) : Int × Int := if c.2.2.1 then (c.2.2.2.1.1, c.2.2.2.1.2.1) else (c.2.1.1, c.2.1.2.1)

theorem specChange_eq (c : Change) (h : cl c) : spec_l6Change.sem (c, ()) = some (chF c, ()) := by
  refine lift_eq (k := 0) fun k _ => (spec_l6Change.raw_eq k _).trans ?_
  show spec_l6Change.p _ = _
  unfold spec_l6Change.p chF sameKey
  simp only [specRow_eq _ h.1, specRow_eq _ h.2, Option.bind_some]
  cases c.1 <;> cases c.2.2.1 <;> by_cases h1 : c.2.1.1 = c.2.2.2.1.1 <;> by_cases h2 : c.2.1.2.1 = c.2.2.2.1.2.1 <;> by_cases h3 : rowF c.2.1 = 0 <;> simp [h1, h2, h3]

theorem isBefore_eq (a b : Row) : impl_IsBefore.sem (a, b, ()) = some (befB (a.1, a.2.1) (b.1, b.2.1), ()) := by
  refine lift_eq (k := 0) fun k _ => (impl_IsBefore.raw_eq k _).trans ?_
  show impl_IsBefore.p _ = _
  unfold impl_IsBefore.p befB
  by_cases h1 : a.1 < b.1 <;> by_cases h2 : a.1 = b.1 <;> simp [h1, h2]
theorem order_eq (a b : Row) : impl_order.sem (a, b, ()) = some (if befB (a.1, a.2.1) (b.1, b.2.1) then -1 else if befB (b.1, b.2.1) (a.1, a.2.1) then 1 else 0, ()) := by
  refine lift_eq (k := 0) fun k _ => (impl_order.raw_eq k _).trans ?_
  show impl_order.p _ = _
  unfold impl_order.p
  simp only [isBefore_eq, Option.bind_some]
  cases befB (a.1, a.2.1) (b.1, b.2.1) <;> cases befB (b.1, b.2.1) (a.1, a.2.1) <;> rfl
theorem order_zero (a b : Row) : decide ((if befB (a.1, a.2.1) (b.1, b.2.1) then (-1 : Int) else if befB (b.1, b.2.1) (a.1, a.2.1) then 1 else 0) = 0) = sameKey a b := by
  unfold befB sameKey
  by_cases h1 : a.1 < b.1
  · have : ¬ a.1 = b.1 := by omega
    simp [h1, this]
  · by_cases h2 : a.1 = b.1
    · by_cases h3 : a.2.1 < b.2.1
      · have : ¬ a.2.1 = b.2.1 := by omega
        simp [h2, h3, this]
      · by_cases h4 : b.2.1 < a.2.1
        · have : ¬ a.2.1 = b.2.1 := by omega
          simp [h2, h3, h4, this]
        · have : a.2.1 = b.2.1 := by omega
          simp [h2, this]
    · have : b.1 < a.1 := by omega
      simp [h1, h2, this]
theorem implChange_eq (c : Change) (h : cl c) : impl_changeFault.sem (c, ()) = some (chF c, ()) := by
  refine lift_eq (k := 0) fun k _ => (impl_changeFault.raw_eq k _).trans ?_
  show impl_changeFault.p _ = _
  unfold impl_changeFault.p chF
  simp only [implRow_eq _ h.1, implRow_eq _ h.2, order_eq, Option.bind_some, order_zero]
  cases c.1 <;> cases c.2.2.1 <;> cases sameKey c.2.1 c.2.2.2.1 <;> by_cases h3 : rowF c.2.1 = 0 <;> simp [h3]

theorem specChangeS_eq (c : Change) (h : cl c) : spec_l9Change.sem (c, ()) = some (chS c, ()) := by
  refine lift_eq (k := 0) fun k _ => (spec_l9Change.raw_eq k _).trans ?_
  show spec_l9Change.p _ = _
  unfold spec_l9Change.p chS
  simp only [specChange_eq c h, Option.bind_some]
  by_cases h1 : chF c = 0
  · simp only [h1, decide_true, Bool.not_true, cond_false, if_true]
    cases c.1 <;> cases c.2.2.1 <;> cases Ty.eq tRow c.2.1 c.2.2.2.1 <;> rfl
  · simp [h1]
theorem single_eq (c : Change) (h : cl c) : impl_singleFault.sem (c, ()) = some (chS c, ()) := by
  refine lift_eq (k := 0) fun k _ => (impl_singleFault.raw_eq k _).trans ?_
  show impl_singleFault.p _ = _
  unfold impl_singleFault.p chS
  simp only [implChange_eq c h, Option.bind_some]
  by_cases h1 : chF c = 0
  · simp only [h1, decide_true, Bool.not_true, cond_false, if_true]
    cases c.1 <;> cases c.2.2.1 <;> cases Ty.eq tRow c.2.1 c.2.2.2.1 <;> rfl
  · simp [h1]
theorem specKey_eq (c : Change) : spec_l6Key.sem (c, ()) = some ((ck c).1, (ck c).2, ()) := by
  refine lift_eq (k := 0) fun k _ => (spec_l6Key.raw_eq k _).trans ?_
  show spec_l6Key.p _ = _
  unfold spec_l6Key.p ck
  cases c.2.2.1 <;> rfl
def keyRow (c : Change) : Row := if c.2.2.1 then c.2.2.2.1 else c.2.1
theorem keyRow_ck (c : Change) : ((keyRow c).1, (keyRow c).2.1) = ck c := by unfold keyRow ck; cases c.2.2.1 <;> rfl
theorem implKey_eq (c : Change) : impl_Change_key.sem (c, ()) = some (keyRow c, ()) := by
  refine lift_eq (k := 0) fun k _ => (impl_Change_key.raw_eq k _).trans ?_
  show impl_Change_key.p _ = _
  unfold impl_Change_key.p keyRow
  cases c.2.2.1 <;> rfl
theorem len60 (n : Nat) (m : Nat) : decide ((m : Int) < (n : Int)) = decide (m < n) := by
  by_cases h : m < n
  · have : (m : Int) < (n : Int) := by omega
    simp [h, this]
  · have : ¬ (m : Int) < (n : Int) := by omega
    simp [h, this]

theorem wprev {i : Nat} (hi : 0 < i) (h : i ≤ maxLen) : w64 ((i : Int) - 1) = ((i - 1 : Nat) : Int) := by
  rw [maxLen_val] at h
  rw [w64_in (by omega)]; omega

theorem rl_ok {x : Row} (h : okD tRow x) : rl x := h.2.2.2.1
theorem cl_ok {c : Change} (h : okD tChange c) : cl c := ⟨rl_ok h.2.1, rl_ok h.2.2.2.1⟩
end OT

set_option linter.unusedVariables false
set_option linter.unusedSimpArgs false
namespace OT
open Go

/-! Loops that go on elsewhere. -/
theorem for_loopE {V S O α : Type} {B : (V → Option O) → V → Option O} (xs : List α) (enc : S → Int → V) (f : Nat → S → α → Sum (Option O) S) (fin : S → Option O) (I : Nat → S → Prop) (hmax : xs.length ≤ maxLen)
    (hin : ∀ (i : Nat) (hi : i < xs.length) (s : S) self, I i s → B self (enc s (i : Int)) = match f i s xs[i] with | .inl o => o | .inr s' => self (enc s' (w64 ((i : Int) + 1))))
    (hI : ∀ (i : Nat) (hi : i < xs.length) (s s' : S), I i s → f i s xs[i] = .inr s' → I (i + 1) s')
    (hout : ∀ (s : S) self, I xs.length s → B self (enc s (xs.length : Int)) = fin s) (s : S) (h0 : I 0 s) : ∀ k, xs.length < k → rawIter B k (enc s 0) = forI f fin 0 xs s := by
  have main : ∀ (m i : Nat) (s : S), xs.length - i = m → i ≤ xs.length → I i s → ∀ k, m < k → rawIter B k (enc s (i : Int)) = forI f fin i (xs.drop i) s := by
    intro m
    induction m with
    | zero =>
      intro i s hm hi hs k hk
      have hi' : i = xs.length := by omega
      subst hi'
      cases k with
      | zero => omega
      | succ k =>
        show B (rawIter B k) _ = _
        rw [hout s _ hs]
        simp [forI]
    | succ m ih =>
      intro i s hm hi hs k hk
      have hlt : i < xs.length := by omega
      cases k with
      | zero => omega
      | succ k =>
        show B (rawIter B k) _ = _
        rw [hin i hlt s _ hs, List.drop_eq_getElem_cons hlt]
        simp only [forI]
        cases hf : f i s xs[i] with
        | inl o => rfl
        | inr s' =>
          have hw : w64 ((i : Int) + 1) = ((i + 1 : Nat) : Int) := by rw [w64_in (by rw [maxLen_val] at hmax; omega)]; omega
          simp only [hw]
          exact ih (i + 1) s' (by omega) (by omega) (hI i hlt s s' hs hf) k (by omega)
  intro k hk
  simpa using main xs.length 0 s (by omega) (by omega) h0 k hk

theorem forI_any {O α : Type} (p : α → Bool) (a : O) (fin : Unit → O) : ∀ (xs : List α) (i : Nat), forI (fun _ _ x => if p x then .inl a else .inr ()) fin i xs () = if xs.any p then a else fin ()
  | [], _ => rfl
  | x :: xs, i => by
    simp only [forI, List.any_cons]
    by_cases h : p x = true
    · simp [h]
    · simp [h, forI_any p a fin xs (i + 1)]
/-- Where the first such is. -/
def whereF {α : Type} (p : α → Bool) : Nat → List α → Int
  | _, [] => -1
  | i, x :: xs => if p x then (i : Int) else whereF p (i + 1) xs
theorem forI_where {α : Type} (p : α → Bool) : ∀ (xs : List α) (i : Nat), forI (fun i _ x => if p x then .inl ((i : Int), ()) else .inr ()) (fun _ => ((-1 : Int), ())) i xs () = (whereF p i xs, ())
  | [], _ => rfl
  | x :: xs, i => by
    simp only [forI, whereF]
    by_cases h : p x = true
    · simp [h]
    · simp [h, forI_where p xs (i + 1)]
/-! Keys. -/
/-! One transaction. -/
def tl (x : Tx) : Prop := List.length x.2.1 ≤ 1048576 ∧ List.length x.2.2.1 ≤ 1048576 ∧ List.length x.2.2.2.1 ≤ 1048576 ∧ ∀ c ∈ x.2.1, cl c
end OT

set_option linter.unusedVariables false
set_option linter.unusedSimpArgs false
namespace OT
open Go

/-! Bytes. -/
def pb (D : List UInt8) (i : Nat) : Nat := (D.getD i 0).toNat
theorem pb_lt (D : List UInt8) (i : Nat) : pb D i < 256 := UInt8.toNat_lt _
theorem pb_get {D : List UInt8} {i : Nat} (h : i < D.length) : D[i]? = some D[i] ∧ (D[i]).toNat = pb D i := ⟨List.getElem?_eq_getElem h, by simp [pb, h]⟩
theorem pb_ext {A B : List UInt8} (h : A.length = B.length) (h2 : ∀ j, j < A.length → pb A j = pb B j) : A = B := by
  refine List.ext_getElem h fun i h1 h3 => ?_
  have := h2 i h1
  rw [← (pb_get h1).2, ← (pb_get h3).2] at this
  exact UInt8.toNat_inj.1 this
theorem pb_piece (D : List UInt8) (a n j : Nat) (h : j < n) : pb ((D.drop a).take n) j = pb D (a + j) := by
  unfold pb
  simp only [List.getD_eq_getElem?_getD, List.getElem?_take, h, if_true, List.getElem?_drop]

/-! The directory. -/
def pn (p : List UInt8) : Nat := pb p 0
def plo (p : List UInt8) : Nat := pb p 1
def pat (p : List UInt8) (i : Nat) : Nat := pb p (2 + 2 * i)
def psz (p : List UInt8) (i : Nat) : Nat := pb p (3 + 2 * i)
def slotB (p : List UInt8) (i : Nat) : Bool := if pat p i = 0 ∨ psz p i = 0 then decide (pat p i = psz p i) else decide (plo p ≤ pat p i) && decide (pat p i + psz p i ≤ 64)
def apartP (p : List UInt8) (i k : Nat) : Bool := (decide (psz p i = 0) || decide (psz p k = 0)) || (decide (pat p i + psz p i ≤ pat p k) || decide (pat p k + psz p k ≤ pat p i))
def pageF (p : List UInt8) : Int :=
  if p.length = 64 then
    if pn p ≤ 16 ∧ 2 + 2 * pn p ≤ plo p ∧ plo p ≤ 64 then
      if (List.range (pn p)).all (slotB p) then
        if (List.range (pn p)).all (fun i => (List.range i).all (apartP p i)) then
          if 0 < pn p ∧ psz p (pn p - 1) = 0 then 8 else 0
        else 8
      else 3
    else 3
  else 1
structure PageOk (p : List UInt8) : Prop where
  len : p.length = 64
  n : pn p ≤ 16
  lo : 2 + 2 * pn p ≤ plo p
  hi : plo p ≤ 64
  slot : ∀ i, i < pn p → psz p i ≠ 0 → plo p ≤ pat p i ∧ pat p i + psz p i ≤ 64
  zero : ∀ i, i < pn p → psz p i = 0 → pat p i = 0
  apart : ∀ i k, i < pn p → k < pn p → i ≠ k → psz p i ≠ 0 → psz p k ≠ 0 → pat p i + psz p i ≤ pat p k ∨ pat p k + psz p k ≤ pat p i
  last : 0 < pn p → psz p (pn p - 1) ≠ 0

theorem slotB_iff {p : List UInt8} {i : Nat} (hlo : 2 ≤ plo p) : slotB p i = true ↔ (psz p i ≠ 0 → plo p ≤ pat p i ∧ pat p i + psz p i ≤ 64) ∧ (psz p i = 0 → pat p i = 0) := by
  unfold slotB
  by_cases h1 : psz p i = 0
  · simp [h1]
  · by_cases h2 : pat p i = 0
    · simp [h1, h2]
      omega
    · simp [h1, h2]
theorem apartP_iff {p : List UInt8} {i k : Nat} : apartP p i k = true ↔ (psz p i ≠ 0 → psz p k ≠ 0 → pat p i + psz p i ≤ pat p k ∨ pat p k + psz p k ≤ pat p i) := by
  unfold apartP
  by_cases h1 : psz p i = 0
  · simp [h1]
  · by_cases h2 : psz p k = 0
    · simp [h2]
    · simp [h1, h2]
theorem pageF_iff {p : List UInt8} : pageF p = 0 ↔ PageOk p := by
  constructor
  · intro h
    unfold pageF at h
    split at h
    · rename_i h1
      split at h
      · rename_i h2
        split at h
        · rename_i h3
          split at h
          · rename_i h4
            split at h
            · cases h
            · rename_i h5
              have hs : ∀ i, i < pn p → (psz p i ≠ 0 → plo p ≤ pat p i ∧ pat p i + psz p i ≤ 64) ∧ (psz p i = 0 → pat p i = 0) := fun i hi => (slotB_iff (by omega)).1 (List.all_eq_true.1 h3 i (List.mem_range.2 hi))
              have ha : ∀ i k, i < pn p → k < i → psz p i ≠ 0 → psz p k ≠ 0 → pat p i + psz p i ≤ pat p k ∨ pat p k + psz p k ≤ pat p i := fun i k hi hk => apartP_iff.1 (List.all_eq_true.1 (List.all_eq_true.1 h4 i (List.mem_range.2 hi)) k (List.mem_range.2 hk))
              refine ⟨h1, h2.1, h2.2.1, h2.2.2, fun i hi => (hs i hi).1, fun i hi => (hs i hi).2, fun i k hi hk hik z1 z2 => ?_, fun hn hz => h5 ⟨hn, hz⟩⟩
              rcases Nat.lt_or_gt_of_ne hik with h6 | h6
              · exact (ha k i hk h6 z2 z1).symm
              · exact ha i k hi h6 z1 z2
          · cases h
        · cases h
      · cases h
    · cases h
  · intro h
    unfold pageF
    rw [if_pos h.len, if_pos ⟨h.n, h.lo, h.hi⟩, if_pos, if_pos, if_neg]
    · intro ⟨h1, h2⟩
      exact h.last h1 h2
    · refine List.all_eq_true.2 fun i hi => List.all_eq_true.2 fun k hk => apartP_iff.2 ?_
      have := List.mem_range.1 hi
      have := List.mem_range.1 hk
      exact h.apart i k (by omega) (by omega) (by omega)
    · exact List.all_eq_true.2 fun i hi => (slotB_iff (by have := h.lo; omega)).2 ⟨h.slot i (List.mem_range.1 hi), h.zero i (List.mem_range.1 hi)⟩

/-! Cells. -/
def cellP (p : List UInt8) (i : Nat) : List UInt8 := (p.drop (pat p i)).take (psz p i)
def cellOf (p : List UInt8) (i : Nat) : List UInt8 := if i < pn p then cellP p i else []
theorem cellP_len {p : List UInt8} (h : PageOk p) {i : Nat} (hi : i < pn p) : (cellP p i).length = psz p i := by
  unfold cellP
  by_cases hz : psz p i = 0
  · simp [hz]
  · have := h.slot i hi hz
    have := h.len
    simp only [List.length_take, List.length_drop]
    omega
theorem cellP_pb (p : List UInt8) (i j : Nat) (h : j < psz p i) : pb (cellP p i) j = pb p (pat p i + j) := pb_piece p _ _ j h
/-- A cell that stands elsewhere with the same bytes. -/
theorem cellP_eq {p q : List UInt8} {i k : Nat} (hp : (cellP p i).length = psz p i) (hq : (cellP q k).length = psz q k) (hs : psz p i = psz q k) (hb : ∀ j, j < psz p i → pb p (pat p i + j) = pb q (pat q k + j)) : cellP p i = cellP q k := by
  refine pb_ext (by omega) fun j hj => ?_
  rw [cellP_pb p i j (by omega), cellP_pb q k j (by omega)]
  exact hb j (by omega)
theorem cellP_is {p c : List UInt8} {i : Nat} (hp : (cellP p i).length = psz p i) (hs : psz p i = c.length) (hb : ∀ j, j < c.length → pb p (pat p i + j) = pb c j) : cellP p i = c := by
  refine pb_ext (by omega) fun j hj => ?_
  rw [cellP_pb p i j (by omega)]
  exact hb j (by omega)

/-! A cell that is laid into a page. -/
def stand (p : List UInt8) (s a : Nat) (c : List UInt8) : List UInt8 := ((over p a c.length c).set (2 + 2 * s) (UInt8.ofNat a)).set (3 + 2 * s) (UInt8.ofNat c.length)
/-- A page in which one slot turned: 'a' and 'm': where its cell stands now and how long it is. -/
structure Turned (p q : List UInt8) (s a m : Nat) : Prop where
  len : q.length = 64
  n : pn q = pn p ∨ (pn q = pn p + 1 ∧ s = pn p)
  s_lt : s < pn q
  n16 : pn q ≤ 16
  lo : 2 + 2 * pn q ≤ plo q
  lo2 : plo q ≤ plo p
  at_ : pat q s = a
  sz : psz q s = m
  pos : 0 < m
  a_lo : plo q ≤ a
  a_hi : a + m ≤ 64
  oth : ∀ i, i < pn q → i ≠ s → pat q i = pat p i ∧ psz q i = psz p i
  free : ∀ i, i < pn p → i ≠ s → psz p i ≠ 0 → a + m ≤ pat p i ∨ pat p i + psz p i ≤ a
  same : ∀ j, plo p ≤ j → j < 64 → (j < a ∨ a + m ≤ j) → pb q j = pb p j
theorem Turned.ok {p q : List UInt8} {s a m : Nat} (t : Turned p q s a m) (h : PageOk p) : PageOk q := by
  have hlt : ∀ i, i < pn q → i ≠ s → i < pn p := fun i hi hs => by rcases t.n with h1 | ⟨h1, h2⟩ <;> omega
  have ha := t.at_
  have hm := t.sz
  have hpos := t.pos
  have hlo := t.a_lo
  have hhi := t.a_hi
  have hlo2 := t.lo2
  have hh := h.hi
  refine ⟨t.len, t.n16, t.lo, by omega, fun i hi hz => ?_, fun i hi hz => ?_, fun i k hi hk hik z1 z2 => ?_, fun hn => ?_⟩
  · by_cases hs : i = s
    · subst hs; omega
    · obtain ⟨h1, h2⟩ := t.oth i hi hs
      have := h.slot i (hlt i hi hs) (by omega)
      omega
  · by_cases hs : i = s
    · subst hs; omega
    · obtain ⟨h1, h2⟩ := t.oth i hi hs
      have := h.zero i (hlt i hi hs) (by omega)
      omega
  · by_cases hs : i = s
    · subst hs
      have hks : k ≠ i := fun e => hik e.symm
      obtain ⟨h1, h2⟩ := t.oth k hk hks
      have := t.free k (hlt k hk hks) hks (by omega)
      omega
    · obtain ⟨h1, h2⟩ := t.oth i hi hs
      by_cases hs2 : k = s
      · subst hs2
        have := t.free i (hlt i hi hs) hs (by omega)
        omega
      · obtain ⟨h3, h4⟩ := t.oth k hk hs2
        have := h.apart i k (hlt i hi hs) (hlt k hk hs2) hik (by omega) (by omega)
        omega
  · by_cases hs : pn q - 1 = s
    · rw [hs]; omega
    · obtain ⟨h1, h2⟩ := t.oth (pn q - 1) (by omega) hs
      have hq : pn q = pn p := by
        rcases t.n with h3 | ⟨h3, h4⟩
        · exact h3
        · omega
      rw [h2, hq]
      exact h.last (by omega)
/-- What the cells are then. -/
theorem Turned.cell_other {p q : List UInt8} {s a m : Nat} (t : Turned p q s a m) (h : PageOk p) {i : Nat} (hi : i < pn q) (hs : i ≠ s) : cellP q i = cellP p i := by
  have hip : i < pn p := by rcases t.n with h1 | ⟨h1, h2⟩ <;> omega
  obtain ⟨h1, h2⟩ := t.oth i hi hs
  refine cellP_eq (cellP_len (t.ok h) hi) (cellP_len h hip) h2 fun j hj => ?_
  have hz : psz p i ≠ 0 := by omega
  have h3 := h.slot i hip hz
  have h4 := t.free i hip hs hz
  rw [h1]
  exact t.same _ (by omega) (by omega) (by omega)
theorem Turned.cell_this {p q : List UInt8} {s a : Nat} {c : List UInt8} (t : Turned p q s a c.length) (h : PageOk p) (hc : ∀ j, j < c.length → pb q (a + j) = pb c j) : cellP q s = c :=
  cellP_is (cellP_len (t.ok h) t.s_lt) t.sz fun j hj => by rw [t.at_]; exact hc j hj
theorem Turned.cells {p q : List UInt8} {s a : Nat} {c : List UInt8} (t : Turned p q s a c.length) (h : PageOk p) (hc : ∀ j, j < c.length → pb q (a + j) = pb c j) (i : Nat) : cellOf q i = if i = s then c else cellOf p i := by
  have hs := t.s_lt
  unfold cellOf
  by_cases his : i = s
  · subst his
    rw [if_pos hs, if_pos rfl, t.cell_this h hc]
  · rw [if_neg his]
    by_cases hi : i < pn q
    · have hip : i < pn p := by rcases t.n with h1 | ⟨h1, h2⟩ <;> omega
      rw [if_pos hi, if_pos hip, t.cell_other h hi his]
    · have hip : ¬ i < pn p := by rcases t.n with h1 | ⟨h1, h2⟩ <;> omega
      rw [if_neg hi, if_neg hip]
end OT

set_option linter.unusedVariables false
set_option linter.unusedSimpArgs false
namespace OT
open Go

/-! Which slot is empty; how much is free. -/
def sumZ (p : List UInt8) : Nat → Nat
  | 0 => 0
  | m + 1 => sumZ p m + psz p m
/-! The cells have room between the directory and the end. -/
def covP (p : List UInt8) : Nat → Nat → Bool
  | 0, _ => false
  | k + 1, j => covP p k j || decide (pat p k ≤ j ∧ j < pat p k + psz p k)
/-! A cell that is put. -/
/-! A cell that is turned. -/
/-! A cell that is dropped. -/
/-! A page that is compacted. -/
/-- How it goes on the way. -/
structure CompI (p : List UInt8) (k : Nat) (o : List UInt8) (a : Nat) : Prop where
  len : o.length = 64
  n : pb o 0 = pn p
  a : a = 64 - sumZ p k
  sz : ∀ i, i < pn p → psz o i = psz p i
  old : ∀ i, i < pn p → (k ≤ i ∨ psz p i = 0) → pat o i = pat p i
  new : ∀ i, i < k → psz p i ≠ 0 → pat o i = 64 - sumZ p (i + 1) ∧ ∀ j, j < psz p i → pb o (64 - sumZ p (i + 1) + j) = pb p (pat p i + j)
end OT

set_option linter.unusedVariables false
set_option linter.unusedSimpArgs false
namespace OT
open Go

theorem ix3 {i : Nat} (h : i < 1000) : w64 ((3 : Int) + w64 ((2 : Int) * (i : Int))) = ((3 + 2 * i : Nat) : Int) := by
  rw [w64_in (n := (2 : Int) * (i : Int)) (by omega), w64_in (by omega)]; omega
theorem ix2 {i : Nat} (h : i < 1000) : w64 ((2 : Int) + w64 ((2 : Int) * (i : Int))) = ((2 + 2 * i : Nat) : Int) := by
  rw [w64_in (n := (2 : Int) * (i : Int)) (by omega), w64_in (by omega)]; omega
theorem wpb (p : List UInt8) (i : Nat) : w64 ((pb p i : Nat) : Int) = ((pb p i : Nat) : Int) := by
  have := pb_lt p i
  exact w64_in (by omega)
/-- A byte that is read. -/
theorem read_pb {R : Type} {p : List UInt8} {i : Nat} (h : i < p.length) (K : UInt8 → Option R) : (p[i]?).bind K = K p[i] := by rw [(pb_get h).1]; rfl

section
variable {p : List UInt8} (hp : p.length = 64)
include hp
theorem pCount_eq : spec_l2Count.sem (p, ()) = some ((pn p : Int), ()) := by
  refine lift_eq (k := 0) fun k _ => (spec_l2Count.raw_eq k _).trans ?_
  show spec_l2Count.p _ = _
  unfold spec_l2Count.p
  simp only [read_pb (show 0 < p.length by omega), (pb_get (show 0 < p.length by omega)).2, wpb]
  rfl
theorem pSlots_eq : impl_slots.sem (p, ()) = some ((pn p : Int), ()) := by
  refine lift_eq (k := 0) fun k _ => (impl_slots.raw_eq k _).trans ?_
  show impl_slots.p _ = _
  unfold impl_slots.p
  simp only [read_pb (show 0 < p.length by omega), (pb_get (show 0 < p.length by omega)).2, wpb]
  rfl
theorem pLow_eq : spec_l2Low.sem (p, ()) = some ((plo p : Int), ()) := by
  refine lift_eq (k := 0) fun k _ => (spec_l2Low.raw_eq k _).trans ?_
  show spec_l2Low.p _ = _
  unfold spec_l2Low.p
  simp only [read_pb (show 1 < p.length by omega), (pb_get (show 1 < p.length by omega)).2, wpb]
  rfl
theorem pSize_eq {i : Nat} (hi : i < 16) : spec_l2Size.sem (p, (i : Int), ()) = some ((psz p i : Int), ()) := by
  refine lift_eq (k := 0) fun k _ => (spec_l2Size.raw_eq k _).trans ?_
  show spec_l2Size.p _ = _
  unfold spec_l2Size.p
  simp only [ix3 (show i < 1000 by omega), Int.natCast_nonneg, if_true, Int.toNat_natCast, read_pb (show 3 + 2 * i < p.length by omega), (pb_get (show 3 + 2 * i < p.length by omega)).2, wpb]
  rfl
theorem pPlace_eq {i : Nat} (hi : i < 16) : spec_l2Place.sem (p, (i : Int), ()) = some ((pat p i : Int), ()) := by
  refine lift_eq (k := 0) fun k _ => (spec_l2Place.raw_eq k _).trans ?_
  show spec_l2Place.p _ = _
  unfold spec_l2Place.p
  simp only [ix2 (show i < 1000 by omega), Int.natCast_nonneg, if_true, Int.toNat_natCast, read_pb (show 2 + 2 * i < p.length by omega), (pb_get (show 2 + 2 * i < p.length by omega)).2, wpb]
  rfl
theorem pSpot_eq {i : Nat} (hi : i < 16) : impl_spot.sem (p, (i : Int), ()) = some ((pat p i : Int), (psz p i : Int), ()) := by
  refine lift_eq (k := 0) fun k _ => (impl_spot.raw_eq k _).trans ?_
  show impl_spot.p _ = _
  unfold impl_spot.p
  simp only [ix2 (show i < 1000 by omega), ix3 (show i < 1000 by omega), Int.natCast_nonneg, if_true, Int.toNat_natCast, read_pb (show 2 + 2 * i < p.length by omega), (pb_get (show 2 + 2 * i < p.length by omega)).2, read_pb (show 3 + 2 * i < p.length by omega), (pb_get (show 3 + 2 * i < p.length by omega)).2, wpb]
  rfl
theorem pSlot_eq {i : Nat} (hi : i < 16) : spec_l2Slot.sem (p, (i : Int), ()) = some (slotB p i, ()) := by
  refine lift_eq (k := 0) fun k _ => (spec_l2Slot.raw_eq k _).trans ?_
  show spec_l2Slot.p _ = _
  unfold spec_l2Slot.p slotB
  have h1 := pb_lt p (2 + 2 * i)
  have h2 := pb_lt p (3 + 2 * i)
  have hw : w64 ((pat p i : Int) + (psz p i : Int)) = ((pat p i + psz p i : Nat) : Int) := by
    have : pat p i < 256 := h1
    have : psz p i < 256 := h2
    rw [w64_in (by omega)]; omega
  simp only [pPlace_eq hp hi, pSize_eq hp hi, pLow_eq hp, Option.bind_some, hw]
  have e1 : decide ((pat p i : Int) = 0) = decide (pat p i = 0) := by rw [decide_eq_decide]; omega
  have e2 : decide ((psz p i : Int) = 0) = decide (psz p i = 0) := by rw [decide_eq_decide]; omega
  have e3 : decide ((pat p i : Int) = (psz p i : Int)) = decide (pat p i = psz p i) := by rw [decide_eq_decide]; omega
  have e4 : decide ((plo p : Int) ≤ (pat p i : Int)) = decide (plo p ≤ pat p i) := by rw [decide_eq_decide]; omega
  have e5 : decide (((pat p i + psz p i : Nat) : Int) ≤ 64) = decide (pat p i + psz p i ≤ 64) := by rw [decide_eq_decide]; omega
  rw [e1, e2, e3, e4, e5]
  by_cases c1 : pat p i = 0
  · simp [c1]
  · by_cases c2 : psz p i = 0
    · simp [c1, c2]
    · simp only [c1, c2, decide_false, cond_false, or_self, if_false]
      cases decide (plo p ≤ pat p i) <;> rfl
theorem pApart_eq {i j : Nat} (hi : i < 16) (hj : j < 16) : spec_l2Apart.sem (p, (i : Int), (j : Int), ()) = some (apartP p i j, ()) := by
  refine lift_eq (k := 0) fun k _ => (spec_l2Apart.raw_eq k _).trans ?_
  show spec_l2Apart.p _ = _
  unfold spec_l2Apart.p apartP
  have h1 : pat p i < 256 := pb_lt p _
  have h2 : psz p i < 256 := pb_lt p _
  have h3 : pat p j < 256 := pb_lt p _
  have h4 : psz p j < 256 := pb_lt p _
  have hw : w64 ((pat p i : Int) + (psz p i : Int)) = ((pat p i + psz p i : Nat) : Int) := by rw [w64_in (by omega)]; omega
  have hw2 : w64 ((pat p j : Int) + (psz p j : Int)) = ((pat p j + psz p j : Nat) : Int) := by rw [w64_in (by omega)]; omega
  simp only [pPlace_eq hp hi, pSize_eq hp hi, pPlace_eq hp hj, pSize_eq hp hj, Option.bind_some, hw, hw2]
  have e1 : decide ((psz p i : Int) = 0) = decide (psz p i = 0) := by rw [decide_eq_decide]; omega
  have e2 : decide ((psz p j : Int) = 0) = decide (psz p j = 0) := by rw [decide_eq_decide]; omega
  have e3 : decide (((pat p i + psz p i : Nat) : Int) ≤ (pat p j : Int)) = decide (pat p i + psz p i ≤ pat p j) := by rw [decide_eq_decide]; omega
  have e4 : decide (((pat p j + psz p j : Nat) : Int) ≤ (pat p i : Int)) = decide (pat p j + psz p j ≤ pat p i) := by rw [decide_eq_decide]; omega
  rw [e1, e2, e3, e4]
  cases decide (psz p i = 0) <;> cases decide (psz p j = 0) <;> cases decide (pat p i + psz p i ≤ pat p j) <;> rfl
end

/-! The reference's check. -/
theorem forI_checkN {O : Type} (q : Nat → Bool) (bad e : O) : ∀ (xs : List Nat) (i : Nat), forI (fun _ (_ : Unit) x => if q x then .inr () else .inl bad) (fun _ => e) i xs () = if xs.all q then e else bad := fun xs i => forI_check q bad (fun _ => e) xs i

theorem specPage_eq (p : List UInt8) (hl : p.length ≤ maxLen) : spec_l2Fault.sem (p, ()) = some (pageF p, ()) := by
  refine lift_eq (k := 100) fun k hk => (spec_l2Fault.raw_eq k _).trans ?_
  unfold spec_l2Fault.raw spec_l2Fault.p pageF
  have e0 : decide ((p.length : Int) = 64) = decide (p.length = 64) := by rw [decide_eq_decide]; omega
  rw [e0]
  by_cases hp : p.length = 64
  rotate_left
  · simp only [hp, decide_false, Bool.not_false, cond_true, if_false]
  have hn : pn p < 256 := pb_lt p 0
  have hlo : plo p < 256 := pb_lt p 1
  have hw : w64 ((2 : Int) + w64 ((2 : Int) * (pn p : Int))) = ((2 + 2 * pn p : Nat) : Int) := ix2 (by omega)
  simp only [hp, decide_true, Bool.not_true, cond_false, pCount_eq hp, pLow_eq hp, Option.bind_some, hw, if_true]
  by_cases c1 : pn p ≤ 16
  rotate_left
  · have : ((16 : Int) < (pn p : Int)) := by omega
    simp only [this, decide_true, cond_true, c1, false_and, if_false]
  have n1 : ¬ ((16 : Int) < (pn p : Int)) := by omega
  simp only [n1, decide_false, cond_false, c1, true_and]
  by_cases c2 : 2 + 2 * pn p ≤ plo p
  rotate_left
  · have : ((plo p : Int) < ((2 + 2 * pn p : Nat) : Int)) := by omega
    simp only [this, decide_true, cond_true, c2, false_and, if_false]
  have n2 : ¬ ((plo p : Int) < ((2 + 2 * pn p : Nat) : Int)) := by omega
  simp only [n2, decide_false, cond_false, c2, true_and]
  by_cases c3 : plo p ≤ 64
  rotate_left
  · have : ((64 : Int) < (plo p : Int)) := by omega
    simp only [this, decide_true, cond_true, c3, if_false]
  have n3 : ¬ ((64 : Int) < (plo p : Int)) := by omega
  simp only [n3, decide_false, cond_false, c3, if_true]
  -- the loops
  have inner : ∀ (self : ((List UInt8) × Int × Int) → Option spec_l2Fault.Out) (e2 : ((List UInt8) × Int) → Option spec_l2Fault.Out) (i : Nat) (hi : i < pn p), spec_l2Fault.r2 k self e2 (p, ()) p (pn p : Int) (i : Int) (0 : Int) = if (List.range i).all (apartP p i) then self (p, (pn p : Int), w64 ((i : Int) + 1)) else some ((8 : Int), ()) := fun self e2 i hi => by
    have := for_loopE (B := fun self' v => spec_l2Fault.B2 k self' (fun z => spec_l2Fault.Q1 k self e2 (p, ()) p (pn p : Int) (i : Int) z) (p, ()) p (pn p : Int) (i : Int) v) (List.range i) (fun (_ : Unit) (j : Int) => j) (fun _ _ x => if apartP p i x then .inr () else .inl (some ((8 : Int), ()))) (fun _ => self (p, (pn p : Int), w64 ((i : Int) + 1))) (fun _ _ => True) (by rw [maxLen_val, List.length_range]; omega)
      (fun j hj s self' _ => by
        rw [List.length_range] at hj
        show spec_l2Fault.b2 _ _ _ _ _ _ _ = _
        unfold spec_l2Fault.b2
        have hlt : (j : Int) < (i : Int) := by omega
        simp only [hlt, decide_true, cond_true, pApart_eq hp (show i < 16 by omega) (show j < 16 by omega), Option.bind_some, List.getElem_range]
        cases apartP p i j <;> rfl)
      (fun _ _ _ _ _ _ => trivial) (fun s self' _ => by
        rw [List.length_range]
        show spec_l2Fault.b2 _ _ _ _ _ _ _ = _
        unfold spec_l2Fault.b2
        simp only [Int.lt_irrefl, decide_false, cond_false]
        rfl) () trivial k (by rw [List.length_range]; omega)
    rw [forI_checkN] at this
    exact this
  have outer : spec_l2Fault.r1 k (p, ()) (pn p : Int) (p, (pn p : Int), (0 : Int)) = if (List.range (pn p)).all (fun i => (List.range i).all (apartP p i)) then spec_l2Fault.Q2 k (p, ()) (p, (pn p : Int)) else some ((8 : Int), ()) := by
    have := for_loopE (B := fun self v => spec_l2Fault.B1 k self (fun z => spec_l2Fault.Q2 k (p, ()) z) (p, ()) v) (List.range (pn p)) (fun (_ : Unit) (i : Int) => (p, (pn p : Int), i)) (fun _ _ x => if (List.range x).all (apartP p x) then .inr () else .inl (some ((8 : Int), ()))) (fun _ => spec_l2Fault.Q2 k (p, ()) (p, (pn p : Int))) (fun _ _ => True) (by rw [maxLen_val, List.length_range]; omega)
      (fun i hi s self _ => by
        rw [List.length_range] at hi
        show spec_l2Fault.b1 _ _ _ _ _ = _
        unfold spec_l2Fault.b1
        have hlt : (i : Int) < (pn p : Int) := by omega
        simp only [hlt, decide_true, cond_true, inner self _ i hi, List.getElem_range]
        cases (List.range i).all (apartP p i) <;> rfl)
      (fun _ _ _ _ _ _ => trivial) (fun s self _ => by
        rw [List.length_range]
        show spec_l2Fault.b1 _ _ _ _ _ = _
        unfold spec_l2Fault.b1
        simp only [Int.lt_irrefl, decide_false, cond_false]) () trivial k (by rw [List.length_range]; omega)
    rw [forI_checkN] at this
    exact this
  have first : spec_l2Fault.r0 k (p, ()) (pn p : Int) (0 : Int) = if (List.range (pn p)).all (slotB p) then spec_l2Fault.r1 k (p, ()) (pn p : Int) (p, (pn p : Int), (0 : Int)) else some ((3 : Int), ()) := by
    have := for_loopE (B := fun self v => spec_l2Fault.B0 k self (fun z => spec_l2Fault.Q0 k (p, ()) (pn p : Int) z) (p, ()) (pn p : Int) v) (List.range (pn p)) (fun (_ : Unit) (i : Int) => i) (fun _ _ x => if slotB p x then .inr () else .inl (some ((3 : Int), ()))) (fun _ => spec_l2Fault.r1 k (p, ()) (pn p : Int) (p, (pn p : Int), (0 : Int))) (fun _ _ => True) (by rw [maxLen_val, List.length_range]; omega)
      (fun i hi s self _ => by
        rw [List.length_range] at hi
        show spec_l2Fault.b0 _ _ _ _ _ = _
        unfold spec_l2Fault.b0
        have hlt : (i : Int) < (pn p : Int) := by omega
        simp only [hlt, decide_true, cond_true, pSlot_eq hp (show i < 16 by omega), Option.bind_some, List.getElem_range]
        cases slotB p i <;> rfl)
      (fun _ _ _ _ _ _ => trivial) (fun s self _ => by
        rw [List.length_range]
        show spec_l2Fault.b0 _ _ _ _ _ = _
        unfold spec_l2Fault.b0
        simp only [Int.lt_irrefl, decide_false, cond_false]
        rfl) () trivial k (by rw [List.length_range]; omega)
    rw [forI_checkN] at this
    exact this
  rw [first]
  split
  · rw [outer]
    split
    · show spec_l2Fault.q2 _ _ = _
      unfold spec_l2Fault.q2
      by_cases h0 : 0 < pn p
      · have hlt : (0 : Int) < (pn p : Int) := by omega
        have hwm : w64 ((pn p : Int) - 1) = ((pn p - 1 : Nat) : Int) := by rw [w64_in (by omega)]; omega
        simp only [hlt, decide_true, cond_true, hwm, pSize_eq hp (show pn p - 1 < 16 by omega), Option.bind_some, h0, true_and]
        by_cases hz : psz p (pn p - 1) = 0
        · simp [hz]
        · have : ¬ ((psz p (pn p - 1) : Int) = 0) := by omega
          simp only [this, decide_false, cond_false, hz, if_false]
      · have hlt : ¬ ((0 : Int) < (pn p : Int)) := by omega
        simp only [hlt, decide_false, cond_false, h0, false_and, if_false]
    · rfl
  · rfl

/-! The program's check. -/
theorem forI_anyS {S O : Type} (q : Nat → Bool) (g : Nat → S) (bad e : O) : ∀ (xs : List Nat) (i : Nat) (s : S), forI (fun _ s x => if q x then .inl bad else .inr (g x)) (fun _ => e) i xs s = if xs.any q then bad else e
  | [], _, _ => rfl
  | x :: xs, i, s => by
    simp only [forI, List.any_cons]
    by_cases h : q x = true
    · simp [h]
    · simp [h, forI_anyS q g bad e xs (i + 1)]
def covS (p : List UInt8) (i t : Nat) : List Bool := (List.range 64).map fun j => covP p i j || decide (pat p i ≤ j ∧ j < pat p i + t)
def overB (p : List UInt8) (i : Nat) : Bool := (List.range (psz p i)).any fun t => covP p i (pat p i + t)
theorem covS_zero (p : List UInt8) (i : Nat) : covS p i 0 = (List.range 64).map (covP p i) := by
  unfold covS
  refine List.map_congr_left fun j _ => ?_
  have : ¬ (pat p i ≤ j ∧ j < pat p i + 0) := by omega
  simp only [this, decide_false, Bool.or_false]
theorem covS_full (p : List UInt8) (i : Nat) : covS p i (psz p i) = (List.range 64).map (covP p (i + 1)) := rfl
theorem covS_get (p : List UInt8) (i t j : Nat) (h : j < 64) : (covS p i t)[j]? = some (covP p i j || decide (pat p i ≤ j ∧ j < pat p i + t)) := by
  unfold covS
  simp [h]
theorem covS_len (p : List UInt8) (i t : Nat) : (covS p i t).length = 64 := by simp [covS]
theorem covS_succ (p : List UInt8) (i t : Nat) (h : pat p i + t < 64) : (covS p i t).set (pat p i + t) true = covS p i (t + 1) := by
  refine List.ext_getElem? fun j => ?_
  rw [List.getElem?_set, covS_len]
  by_cases hj : j < 64
  · rw [covS_get p i t j hj, covS_get p i (t + 1) j hj]
    by_cases e : pat p i + t = j
    · subst e
      have : pat p i ≤ pat p i + t ∧ pat p i + t < pat p i + (t + 1) := by omega
      simp [h, this]
    · rw [if_neg e]
      have : (pat p i ≤ j ∧ j < pat p i + t) ↔ (pat p i ≤ j ∧ j < pat p i + (t + 1)) := by omega
      simp only [this]
  · have h1 : (covS p i t)[j]? = none := List.getElem?_eq_none (by rw [covS_len]; omega)
    have h2 : (covS p i (t + 1))[j]? = none := List.getElem?_eq_none (by rw [covS_len]; omega)
    rw [h1, h2, if_neg (by omega)]
theorem covP_iff {p : List UInt8} : ∀ {k j : Nat}, covP p k j = true ↔ ∃ i, i < k ∧ pat p i ≤ j ∧ j < pat p i + psz p i
  | 0, j => by simp [covP]
  | k + 1, j => by
    simp only [covP, Bool.or_eq_true, decide_eq_true_eq, covP_iff (k := k)]
    constructor
    · rintro (⟨i, h1, h2⟩ | h)
      · exact ⟨i, by omega, h2⟩
      · exact ⟨k, by omega, h⟩
    · rintro ⟨i, h1, h2⟩
      by_cases e : i = k
      · subst e; exact .inr h2
      · exact .inl ⟨i, by omega, h2⟩
theorem over_apart (p : List UInt8) (i : Nat) : overB p i = !(List.range i).all (apartP p i) := by
  rw [Bool.eq_iff_iff]
  simp only [overB, List.any_eq_true, List.mem_range, covP_iff, Bool.not_eq_true', List.all_eq_false, Bool.not_eq_true]
  constructor
  · rintro ⟨t, ht, k, hk, h1, h2⟩
    refine ⟨k, hk, ?_⟩
    cases h : apartP p i k with
    | false => rfl
    | true => have := apartP_iff.1 h (by omega) (by omega); omega
  · rintro ⟨k, hk, h⟩
    have hn : ¬ (psz p i ≠ 0 → psz p k ≠ 0 → pat p i + psz p i ≤ pat p k ∨ pat p k + psz p k ≤ pat p i) := fun h2 => by rw [apartP_iff.2 h2] at h; cases h
    by_cases c1 : psz p i = 0
    · exact absurd (fun h => absurd c1 h) hn
    · by_cases c2 : psz p k = 0
      · exact absurd (fun _ h => absurd c2 h) hn
      · have c3 : ¬ (pat p i + psz p i ≤ pat p k) := fun h3 => hn fun _ _ => .inl h3
        have c4 : ¬ (pat p k + psz p k ≤ pat p i) := fun h3 => hn fun _ _ => .inr h3
        exact ⟨max (pat p i) (pat p k) - pat p i, by omega, k, hk, by omega, by omega⟩
theorem any_over (p : List UInt8) (n : Nat) : (List.range n).any (overB p) = !(List.range n).all (fun i => (List.range i).all (apartP p i)) := by
  rw [List.not_all_eq_any_not]
  congr 1
  funext i
  exact over_apart p i

theorem implPage_eq (p : List UInt8) (hl : p.length ≤ maxLen) : impl_PageFault.sem (p, ()) = some (pageF p, ()) := by
  refine lift_eq (k := 300) fun k hk => (impl_PageFault.raw_eq k _).trans ?_
  unfold impl_PageFault.raw impl_PageFault.p pageF
  have e0 : decide ((p.length : Int) = 64) = decide (p.length = 64) := by rw [decide_eq_decide]; omega
  rw [e0]
  by_cases hp : p.length = 64
  rotate_left
  · simp only [hp, decide_false, Bool.not_false, cond_true, if_false]
  have hn : pn p < 256 := pb_lt p 0
  have hlo : plo p < 256 := pb_lt p 1
  have hw : w64 ((2 : Int) + w64 ((2 : Int) * (pn p : Int))) = ((2 + 2 * pn p : Nat) : Int) := ix2 (by omega)
  have hb1 : ((p[1]'(by omega)).toNat) = plo p := (pb_get (show 1 < p.length by omega)).2
  have hwl : w64 (plo p : Int) = (plo p : Int) := wpb p 1
  simp only [hp, decide_true, Bool.not_true, cond_false, read_pb (show 1 < p.length by omega), hb1, hwl, pSlots_eq hp, Option.bind_some, hw, if_true]
  by_cases c1 : pn p ≤ 16
  rotate_left
  · have : ((16 : Int) < (pn p : Int)) := by omega
    simp only [this, decide_true, cond_true, c1, false_and, if_false]
  have n1 : ¬ ((16 : Int) < (pn p : Int)) := by omega
  simp only [n1, decide_false, cond_false, c1, true_and]
  by_cases c2 : 2 + 2 * pn p ≤ plo p
  rotate_left
  · have : ((plo p : Int) < ((2 + 2 * pn p : Nat) : Int)) := by omega
    simp only [this, decide_true, cond_true, c2, false_and, if_false]
  have n2 : ¬ ((plo p : Int) < ((2 + 2 * pn p : Nat) : Int)) := by omega
  simp only [n2, decide_false, cond_false, c2, true_and]
  by_cases c3 : plo p ≤ 64
  rotate_left
  · have : ((64 : Int) < (plo p : Int)) := by omega
    simp only [this, decide_true, cond_true, c3, if_false]
  have n3 : ¬ ((64 : Int) < (plo p : Int)) := by omega
  simp only [n3, decide_false, cond_false, c3, if_true]
  have first : impl_PageFault.r0 k (p, ()) (pn p : Int) (plo p : Int) (0 : Int) = if (List.range (pn p)).all (slotB p) then impl_PageFault.Q0 k (p, ()) (pn p : Int) (plo p : Int) () else some ((3 : Int), ()) := by
    have := for_loopE (B := fun self v => impl_PageFault.B0 k self (fun z => impl_PageFault.Q0 k (p, ()) (pn p : Int) (plo p : Int) z) (p, ()) (pn p : Int) (plo p : Int) v) (List.range (pn p)) (fun (_ : Unit) (i : Int) => i) (fun _ _ x => if slotB p x then .inr () else .inl (some ((3 : Int), ()))) (fun _ => impl_PageFault.Q0 k (p, ()) (pn p : Int) (plo p : Int) ()) (fun _ _ => True) (by rw [maxLen_val, List.length_range]; omega)
      (fun i hi s self _ => by
        rw [List.length_range] at hi
        show impl_PageFault.b0 _ _ _ _ _ _ = _
        unfold impl_PageFault.b0
        have hlt : (i : Int) < (pn p : Int) := by omega
        have h1 : pat p i < 256 := pb_lt p _
        have h2 : psz p i < 256 := pb_lt p _
        have hw2 : w64 ((pat p i : Int) + (psz p i : Int)) = ((pat p i + psz p i : Nat) : Int) := by rw [w64_in (by omega)]; omega
        simp only [hlt, decide_true, cond_true, pSpot_eq hp (show i < 16 by omega), Option.bind_some, List.getElem_range, hw2]
        have e1 : decide ((pat p i : Int) = 0) = decide (pat p i = 0) := by rw [decide_eq_decide]; omega
        have e2 : decide ((psz p i : Int) = 0) = decide (psz p i = 0) := by rw [decide_eq_decide]; omega
        have e4 : decide ((pat p i : Int) < (plo p : Int)) = decide (pat p i < plo p) := by rw [decide_eq_decide]; omega
        have e5 : decide ((64 : Int) < ((pat p i + psz p i : Nat) : Int)) = decide (64 < pat p i + psz p i) := by rw [decide_eq_decide]; omega
        rw [e1, e2, e4, e5]
        unfold slotB
        by_cases d1 : pat p i = 0
        · by_cases d2 : psz p i = 0
          · simp [d1, d2]
          · have : ¬ (0 = psz p i) := fun e => d2 e.symm
            simp [d1, d2, this]
        · by_cases d2 : psz p i = 0
          · simp [d1, d2]
          · by_cases d3 : pat p i < plo p
            · have d3' : ¬ (plo p ≤ pat p i) := by omega
              simp [d1, d2, d3, d3']
            · by_cases d4 : 64 < pat p i + psz p i
              · have d4' : ¬ (pat p i + psz p i ≤ 64) := by omega
                simp [d1, d2, d3, d4, d4']
              · have d3' : plo p ≤ pat p i := by omega
                have d4' : pat p i + psz p i ≤ 64 := by omega
                simp [d1, d2, d3, d4, d3', d4'])
      (fun _ _ _ _ _ _ => trivial) (fun s self _ => by
        rw [List.length_range]
        show impl_PageFault.b0 _ _ _ _ _ _ = _
        unfold impl_PageFault.b0
        simp only [Int.lt_irrefl, decide_false, cond_false]) () trivial k (by rw [List.length_range]; omega)
    rw [forI_checkN] at this
    exact this
  rw [first]
  by_cases hsl : (List.range (pn p)).all (slotB p) = true
  rotate_left
  · simp only [hsl, Bool.false_eq_true, if_false]
  simp only [hsl, if_true]
  have hs : ∀ i, i < pn p → psz p i ≠ 0 → plo p ≤ pat p i ∧ pat p i + psz p i ≤ 64 := fun i hi => ((slotB_iff (by omega)).1 (List.all_eq_true.1 hsl i (List.mem_range.2 hi))).1
  have inner : ∀ (self : ((List UInt8) × Int × (List Bool) × Int × Int) → Option impl_PageFault.Out) (e2 : ((List UInt8) × Int) → Option impl_PageFault.Out) (i : Nat) (hi : i < pn p), impl_PageFault.r2 k self e2 (p, ()) p (pn p : Int) (pat p i : Int) (psz p i : Int) (pn p : Int) (i : Int) ((List.range 64).map (covP p i), (pat p i : Int)) = if overB p i then some ((8 : Int), ()) else self (p, (pn p : Int), (List.range 64).map (covP p (i + 1)), (pn p : Int), w64 ((i : Int) + 1)) := fun self e2 i hi => by
    have h1 : pat p i < 256 := pb_lt p _
    have h2 : psz p i < 256 := pb_lt p _
    have hw2 : w64 ((pat p i : Int) + (psz p i : Int)) = ((pat p i + psz p i : Nat) : Int) := by rw [w64_in (by omega)]; omega
    have := for_loopE (B := fun self' v => impl_PageFault.B2 k self' (fun z => impl_PageFault.Q1 k self e2 (p, ()) p (pn p : Int) (pat p i : Int) (psz p i : Int) (pn p : Int) (i : Int) z) (p, ()) p (pn p : Int) (pat p i : Int) (psz p i : Int) (pn p : Int) (i : Int) v) (List.range (psz p i)) (fun (s : List Bool) (t : Int) => (s, (pat p i : Int) + t)) (fun _ s t => if covP p i (pat p i + t) then .inl (some ((8 : Int), ())) else .inr (covS p i (t + 1))) (fun _ => self (p, (pn p : Int), (List.range 64).map (covP p (i + 1)), (pn p : Int), w64 ((i : Int) + 1))) (fun t s => s = covS p i t) (by rw [maxLen_val, List.length_range]; omega)
      (fun t ht s self' hI => by
        rw [List.length_range] at ht
        subst hI
        obtain ⟨g1, g2⟩ := hs i hi (by omega)
        show impl_PageFault.b2 _ _ _ _ _ _ _ _ _ _ = _
        unfold impl_PageFault.b2
        have hlt : (pat p i : Int) + (t : Int) < ((pat p i + psz p i : Nat) : Int) := by omega
        have hnn : (0 : Int) ≤ (pat p i : Int) + (t : Int) := by omega
        have hlen : (pat p i : Int) + (t : Int) < ((covS p i t).length : Int) := by rw [covS_len]; omega
        have htn : ((pat p i : Int) + (t : Int)).toNat = pat p i + t := by omega
        have hnot : ¬ (pat p i ≤ pat p i + t ∧ pat p i + t < pat p i + t) := by omega
        have hwt : w64 ((pat p i : Int) + (t : Int) + 1) = (pat p i : Int) + w64 ((t : Int) + 1) := by rw [w64_in (by omega), w64_in (by omega)]; omega
        simp only [hw2, hlt, decide_true, cond_true, hnn, hlen, and_self, if_true, htn, covS_get p i t (pat p i + t) (by omega), hnot, decide_false, Bool.or_false, Option.bind_some, List.getElem_range, covS_succ p i t (by omega), hwt]
        cases covP p i (pat p i + t) <;> rfl)
      (fun t ht s s' hI hf => by
        simp only [List.getElem_range] at hf
        split at hf
        · cases hf
        · injection hf with hf; exact hf.symm) (fun s self' hI => by
        rw [List.length_range] at hI ⊢
        show impl_PageFault.b2 _ _ _ _ _ _ _ _ _ _ = _
        unfold impl_PageFault.b2
        have hlt : ¬ ((pat p i : Int) + (psz p i : Int) < ((pat p i + psz p i : Nat) : Int)) := by omega
        simp only [hw2, hlt, decide_false, cond_false]
        rw [hI, covS_full]
        rfl) (covS p i 0) rfl k (by rw [List.length_range]; omega)
    rw [forI_anyS] at this
    rw [← covS_zero]
    simp only [Int.add_zero] at this
    exact this
  have outer : impl_PageFault.r1 k (p, ()) (pn p : Int) (plo p : Int) (p, (pn p : Int), List.replicate 64 false, (pn p : Int), (0 : Int)) = if (List.range (pn p)).any (overB p) then some ((8 : Int), ()) else impl_PageFault.Q2 k (p, ()) (p, (pn p : Int)) := by
    have := for_loopE (B := fun self v => impl_PageFault.B1 k self (fun z => impl_PageFault.Q2 k (p, ()) z) (p, ()) v) (List.range (pn p)) (fun (s : List Bool) (i : Int) => (p, (pn p : Int), s, (pn p : Int), i)) (fun _ s x => if overB p x then .inl (some ((8 : Int), ())) else .inr ((List.range 64).map (covP p (x + 1)))) (fun _ => impl_PageFault.Q2 k (p, ()) (p, (pn p : Int))) (fun i s => s = (List.range 64).map (covP p i)) (by rw [maxLen_val, List.length_range]; omega)
      (fun i hi s self hI => by
        rw [List.length_range] at hi
        subst hI
        show impl_PageFault.b1 _ _ _ _ _ = _
        unfold impl_PageFault.b1
        have hlt : (i : Int) < (pn p : Int) := by omega
        simp only [hlt, decide_true, cond_true, pSpot_eq hp (show i < 16 by omega), Option.bind_some, inner self _ i hi, List.getElem_range]
        cases overB p i <;> rfl)
      (fun i hi s s' hI hf => by
        simp only [List.getElem_range] at hf
        split at hf
        · cases hf
        · injection hf with hf; exact hf.symm) (fun s self _ => by
        rw [List.length_range]
        show impl_PageFault.b1 _ _ _ _ _ = _
        unfold impl_PageFault.b1
        simp only [Int.lt_irrefl, decide_false, cond_false]) (List.replicate 64 false) (by show _ = (List.range 64).map (fun _ => false); decide) k (by rw [List.length_range]; omega)
    rw [forI_anyS] at this
    exact this
  show impl_PageFault.q0 _ _ _ _ _ = _
  unfold impl_PageFault.q0
  rw [outer, any_over]
  by_cases hap : (List.range (pn p)).all (fun i => (List.range i).all (apartP p i)) = true
  rotate_left
  · simp only [hap, Bool.not_false, if_true, Bool.false_eq_true, if_false]
  simp only [hap, Bool.not_true, Bool.false_eq_true, if_false, if_true]
  show impl_PageFault.q2 _ _ = _
  unfold impl_PageFault.q2
  by_cases h0 : 0 < pn p
  · have hlt : (0 : Int) < (pn p : Int) := by omega
    have hwm : w64 (w64 ((2 : Int) * (pn p : Int)) + 1) = ((2 * pn p + 1 : Nat) : Int) := by rw [w64_in (n := (2 : Int) * (pn p : Int)) (by omega), w64_in (by omega)]; omega
    have hz : ((p[2 * pn p + 1]'(by omega)).toNat) = psz p (pn p - 1) := by
      rw [(pb_get (show 2 * pn p + 1 < p.length by omega)).2]
      show pb p _ = pb p _
      congr 1; omega
    simp only [hlt, decide_true, cond_true, hwm, Int.natCast_nonneg, if_true, Int.toNat_natCast, read_pb (show 2 * pn p + 1 < p.length by omega), hz, h0, true_and]
    by_cases hz : psz p (pn p - 1) = 0
    · simp [hz]
    · have : ¬ ((psz p (pn p - 1) : Int) = 0) := by omega
      simp only [this, decide_false, cond_false, hz, if_false]
  · have hlt : ¬ ((0 : Int) < (pn p : Int)) := by omega
    simp only [hlt, decide_false, cond_false, h0, false_and, if_false]
end OT

set_option linter.unusedVariables false
set_option linter.unusedSimpArgs false
namespace OT
open Go

theorem range_loop {V S O : Type} {B : (V → Option O) → V → Option O} (n : Nat) (enc : S → Int → V) (f : Nat → S → Sum (Option O) S) (fin : S → Option O) (I : Nat → S → Prop) (hn : n ≤ 1048576)
    (hin : ∀ (i : Nat), i < n → ∀ (s : S) self, I i s → B self (enc s (i : Int)) = match f i s with | .inl o => o | .inr s' => self (enc s' (w64 ((i : Int) + 1))))
    (hI : ∀ (i : Nat), i < n → ∀ (s s' : S), I i s → f i s = .inr s' → I (i + 1) s')
    (hout : ∀ (s : S) self, I n s → B self (enc s (n : Int)) = fin s) (s : S) (h0 : I 0 s) (k : Nat) (hk : n < k) : rawIter B k (enc s 0) = forI (fun _ s x => f x s) fin 0 (List.range n) s :=
  for_loopE (List.range n) enc (fun _ s x => f x s) fin I (by rw [maxLen_val, List.length_range]; omega)
    (fun i hi s self h => by rw [List.length_range] at hi; simp only [List.getElem_range]; exact hin i hi s self h)
    (fun i hi s s' h hf => by rw [List.length_range] at hi; simp only [List.getElem_range] at hf; exact hI i hi s s' h hf)
    (fun s self h => by rw [List.length_range] at h ⊢; exact hout s self h) s h0 k (by rw [List.length_range]; exact hk)
theorem forI_app {O α β : Type} (g : α → List β) (fin : List β → O) : ∀ (xs : List α) (i : Nat) (s : List β), forI (fun _ s x => .inr (s ++ g x)) fin i xs s = fin (s ++ xs.flatMap g)
  | [], _, s => by simp [forI]
  | x :: xs, i, s => by simp only [forI]; rw [forI_app g fin xs (i + 1)]; simp [List.append_assoc]

abbrev row0 : Row := ((0 : Int), (0 : Int), (0 : Int), ([] : List UInt8), ())
abbrev cell0 : CellResult := ((0 : Int), (0 : Int), (0 : Int), (0 : Int), row0, ())
abbrev cell5 : CellResult := ((5 : Int), (0 : Int), (0 : Int), (0 : Int), row0, ())
def rowB (d : List UInt8) : Row := ((pb d 1 : Int), (pb d 2 : Int), (pb d 3 : Int) * 256 + (pb d 4 : Int), d.drop 6, ())
def cellF (d : List UInt8) : CellResult × Bool :=
  if d.length = 3 ∧ pb d 0 = 1 then (((0 : Int), (1 : Int), (pb d 1 : Int), (pb d 2 : Int), row0, ()), decide (pb d 1 ≤ 11) && decide (pb d 2 ≤ 15))
  else if d.length < 6 ∨ pb d 0 = 1 ∨ 2 < pb d 0 ∨ d.length ≠ 6 + pb d 5 then (cell0, false)
  else (((0 : Int), (pb d 0 : Int), (0 : Int), (0 : Int), rowB d, ()), decide (rowF (rowB d) = 0))

theorem or_bytes {a b : Nat} (ha : a < 256) (hb : b < 256) : ((BitVec.ofInt 64 (w64 ((a : Int) * 2 ^ 8)) ||| BitVec.ofInt 64 (b : Int)).toNat : Int) = (a : Int) * 256 + (b : Int) := by
  have e1 : w64 ((a : Int) * 2 ^ 8) = ((2 ^ 8 * a : Nat) : Int) := by rw [w64_in (by omega)]; omega
  rw [e1, BitVec.toNat_or]
  have e2 : (BitVec.ofInt 64 ((2 ^ 8 * a : Nat) : Int)).toNat = 2 ^ 8 * a := by
    rw [BitVec.toNat_ofInt]; omega
  have e3 : (BitVec.ofInt 64 (b : Int)).toNat = b := by
    rw [BitVec.toNat_ofInt]; omega
  rw [e2, e3, ← Nat.two_pow_add_eq_or_of_lt (by omega) a]
  omega

theorem specRead1_eq (d : List UInt8) (hd : d.length ≤ 100) : spec_l1Read.sem (d, ()) = some ((cellF d).1, (cellF d).2, ()) := by
  refine lift_eq (k := 0) fun k _ => (spec_l1Read.raw_eq k _).trans ?_
  show spec_l1Read.p _ = _
  unfold spec_l1Read.p cellF
  have b0 := pb_lt d 0
  have b1 := pb_lt d 1
  have b2 := pb_lt d 2
  have b3 := pb_lt d 3
  have b4 := pb_lt d 4
  have b5 := pb_lt d 5
  by_cases h3 : d.length = 3
  · have e3 : decide ((d.length : Int) = 3) = true := decide_eq_true (by omega)
    have e6 : decide ((d.length : Int) < 6) = true := decide_eq_true (by omega)
    have hl6 : d.length < 6 := by omega
    simp only [e3, e6, cond_true, read_pb (show 0 < d.length by omega), (pb_get (show 0 < d.length by omega)).2]
    by_cases h1 : pb d 0 = 1
    · have e1 : decide ((pb d 0 : Int) = 1) = true := decide_eq_true (by omega)
      rw [if_pos ⟨h3, h1⟩]
      simp only [e1, cond_true, read_pb (show 1 < d.length by omega), (pb_get (show 1 < d.length by omega)).2, read_pb (show 2 < d.length by omega), (pb_get (show 2 < d.length by omega)).2, wpb]
      have hpl : spec_l1Place.sem ((pb d 1 : Int), (pb d 2 : Int), ()) = some (decide (pb d 1 ≤ 11) && decide (pb d 2 ≤ 15), ()) := by
        refine lift_eq (k := 0) fun k _ => (spec_l1Place.raw_eq k _).trans ?_
        show spec_l1Place.p _ = _
        unfold spec_l1Place.p
        simp only [specIn_eq, Option.bind_some]
        have g1 : decide ((0 : Int) ≤ (pb d 1 : Int)) = true := decide_eq_true (by omega)
        have g2 : decide ((0 : Int) ≤ (pb d 2 : Int)) = true := decide_eq_true (by omega)
        have g3 : decide ((pb d 1 : Int) ≤ 11) = decide (pb d 1 ≤ 11) := by rw [decide_eq_decide]; omega
        have g4 : decide ((pb d 2 : Int) ≤ 15) = decide (pb d 2 ≤ 15) := by rw [decide_eq_decide]; omega
        rw [g1, g2, g3, g4]
        cases decide (pb d 1 ≤ 11) <;> rfl
      simp only [hpl, Option.bind_some]
    · have e1 : decide ((pb d 0 : Int) = 1) = false := decide_eq_false (by omega)
      rw [if_neg (fun h => h1 h.2), if_pos (Or.inl hl6)]
      simp only [e1, cond_false]
  · have e3 : decide ((d.length : Int) = 3) = false := decide_eq_false (by omega)
    simp only [e3, cond_false, h3, false_and, if_false]
    by_cases h6 : d.length < 6
    · have e6 : decide ((d.length : Int) < 6) = true := decide_eq_true (by omega)
      simp only [e6, cond_true, h6, true_or, if_true]
    · have e6 : decide ((d.length : Int) < 6) = false := decide_eq_false (by omega)
      simp only [e6, cond_false, read_pb (show 0 < d.length by omega), (pb_get (show 0 < d.length by omega)).2, h6, false_or]
      by_cases h1 : pb d 0 = 1
      · have e1 : decide ((pb d 0 : Int) = 1) = true := decide_eq_true (by omega)
        rw [if_pos (Or.inl h1)]
        simp only [e1, cond_true]
      have e1 : decide ((pb d 0 : Int) = 1) = false := decide_eq_false (by omega)
      simp only [e1, cond_false, h1, false_or]
      by_cases h2 : 2 < pb d 0
      · have e2 : decide ((2 : Int) < (pb d 0 : Int)) = true := decide_eq_true (by omega)
        simp only [e2, cond_true, h2, true_or, if_true]
      have e2 : decide ((2 : Int) < (pb d 0 : Int)) = false := decide_eq_false (by omega)
      have w6 : w64 ((6 : Int) + (pb d 5 : Int)) = ((6 + pb d 5 : Nat) : Int) := by rw [w64_in (by omega)]; omega
      simp only [e2, cond_false, h2, false_or, read_pb (show 5 < d.length by omega), (pb_get (show 5 < d.length by omega)).2, wpb, w6]
      by_cases h5 : d.length = 6 + pb d 5
      rotate_left
      · have e5 : decide ((d.length : Int) = ((6 + pb d 5 : Nat) : Int)) = false := decide_eq_false (by omega)
        simp only [e5, Bool.not_false, cond_true, h5, ne_eq, not_false_eq_true, if_true]
      have e5 : decide ((d.length : Int) = ((6 + pb d 5 : Nat) : Int)) = true := decide_eq_true (by omega)
      have h6' : (0 : Int) ≤ 6 ∧ (6 : Int) ≤ (d.length : Int) := by omega
      have w3 : w64 (w64 ((pb d 3 : Int) * 256) + (pb d 4 : Int)) = (pb d 3 : Int) * 256 + (pb d 4 : Int) := by rw [w64_in (n := (pb d 3 : Int) * 256) (by omega), w64_in (by omega)]
      have ht : (d.take d.length).drop 6 = d.drop 6 := by rw [List.take_length]
      have hr : spec_l1Fault.sem (rowB d, ()) = some (rowF (rowB d), ()) := specRow_eq (rowB d) (by rw [maxLen_val]; simp only [rowB, List.length_drop]; omega)
      unfold rowB at hr
      rw [if_neg (fun h => h h5)]
      simp only [e5, Bool.not_true, cond_false, read_pb (show 1 < d.length by omega), (pb_get (show 1 < d.length by omega)).2, read_pb (show 2 < d.length by omega), (pb_get (show 2 < d.length by omega)).2,
        read_pb (show 3 < d.length by omega), (pb_get (show 3 < d.length by omega)).2, read_pb (show 4 < d.length by omega), (pb_get (show 4 < d.length by omega)).2, wpb, w3, ht, hr, Option.bind_some]
      rw [if_pos (by omega)]
      rfl

theorem implUnpack_eq (d : List UInt8) (hd : d.length ≤ 100) : impl_UnpackCell.sem (d, ()) = some (if (cellF d).2 then (cellF d).1 else cell5, ()) := by
  refine lift_eq (k := 0) fun k _ => (impl_UnpackCell.raw_eq k _).trans ?_
  show impl_UnpackCell.p _ = _
  unfold impl_UnpackCell.p
  have b0 := pb_lt d 0
  have b1 := pb_lt d 1
  have b2 := pb_lt d 2
  have b3 := pb_lt d 3
  have b4 := pb_lt d 4
  have b5 := pb_lt d 5
  by_cases h3 : d.length = 3
  · have e3 : decide ((d.length : Int) = 3) = true := decide_eq_true (by omega)
    have e6 : decide ((d.length : Int) < 6) = true := decide_eq_true (by omega)
    have hl6 : d.length < 6 := by omega
    simp only [e3, e6, cond_true, read_pb (show 0 < d.length by omega), (pb_get (show 0 < d.length by omega)).2]
    by_cases h1 : pb d 0 = 1
    · have e1 : decide ((pb d 0 : Int) = 1) = true := decide_eq_true (by omega)
      have hc : cellF d = (((0 : Int), (1 : Int), (pb d 1 : Int), (pb d 2 : Int), row0, ()), decide (pb d 1 ≤ 11) && decide (pb d 2 ≤ 15)) := by unfold cellF; rw [if_pos ⟨h3, h1⟩]
      rw [hc]
      simp only [e1, cond_true, read_pb (show 1 < d.length by omega), (pb_get (show 1 < d.length by omega)).2, read_pb (show 2 < d.length by omega), (pb_get (show 2 < d.length by omega)).2, wpb]
      by_cases c1 : pb d 1 ≤ 11
      · have d1 : decide ((pb d 1 : Int) < 12) = true := decide_eq_true (by omega)
        by_cases c2 : pb d 2 ≤ 15
        · have d2 : decide ((pb d 2 : Int) < 16) = true := decide_eq_true (by omega)
          simp [d1, d2, c1, c2]
        · have d2 : decide ((pb d 2 : Int) < 16) = false := decide_eq_false (by omega)
          simp [d1, d2, c1, c2]
      · have d1 : decide ((pb d 1 : Int) < 12) = false := decide_eq_false (by omega)
        simp [d1, c1]
    · have e1 : decide ((pb d 0 : Int) = 1) = false := decide_eq_false (by omega)
      have hc : cellF d = (cell0, false) := by unfold cellF; rw [if_neg (fun h => h1 h.2), if_pos (Or.inl hl6)]
      rw [hc]
      simp only [e1, cond_false, Bool.false_eq_true, if_false]
  · have e3 : decide ((d.length : Int) = 3) = false := decide_eq_false (by omega)
    simp only [e3, cond_false]
    by_cases h6 : d.length < 6
    · have e6 : decide ((d.length : Int) < 6) = true := decide_eq_true (by omega)
      have hc : cellF d = (cell0, false) := by unfold cellF; rw [if_neg (fun h => h3 h.1), if_pos (Or.inl h6)]
      rw [hc]
      simp only [e6, cond_true, Bool.false_eq_true, if_false]
    · have e6 : decide ((d.length : Int) < 6) = false := decide_eq_false (by omega)
      have hc : cellF d = if pb d 0 = 1 ∨ 2 < pb d 0 ∨ d.length ≠ 6 + pb d 5 then (cell0, false) else (((0 : Int), (pb d 0 : Int), (0 : Int), (0 : Int), rowB d, ()), decide (rowF (rowB d) = 0)) := by
        unfold cellF
        rw [if_neg (fun h => h3 h.1)]
        simp only [h6, false_or]
      have hlen : ∀ i, i < 6 → i < d.length := fun i hi => by omega
      have w6 : w64 ((6 : Int) + (pb d 5 : Int)) = ((6 + pb d 5 : Nat) : Int) := by rw [w64_in (by omega)]; omega
      have h6' : (0 : Int) ≤ 6 ∧ (6 : Int) ≤ (d.length : Int) := by omega
      have w3 : w64 ((BitVec.ofInt 64 (w64 ((pb d 3 : Int) * 2 ^ 8)) ||| BitVec.ofInt 64 (pb d 4 : Int)).toNat : Int) = (pb d 3 : Int) * 256 + (pb d 4 : Int) := by rw [or_bytes b3 b4, w64_in (by omega)]
      have ht : (d.take d.length).drop 6 = d.drop 6 := by rw [List.take_length]
      have hr : impl_RowFault.sem (rowB d, ()) = some (rowF (rowB d), ()) := implRow_eq (rowB d) (by rw [maxLen_val]; simp only [rowB, List.length_drop]; omega)
      unfold rowB at hr
      simp only [e6, cond_false, read_pb (show 0 < d.length by omega), (pb_get (show 0 < d.length by omega)).2, read_pb (show 5 < d.length by omega), (pb_get (show 5 < d.length by omega)).2, read_pb (show 1 < d.length by omega), (pb_get (show 1 < d.length by omega)).2, read_pb (show 2 < d.length by omega), (pb_get (show 2 < d.length by omega)).2,
        read_pb (show 3 < d.length by omega), (pb_get (show 3 < d.length by omega)).2, read_pb (show 4 < d.length by omega), (pb_get (show 4 < d.length by omega)).2, wpb, w6, h6'.2, show (0 : Int) ≤ 6 by omega, and_self, if_true, w3, ht, hr, Option.bind_some]
      have e5 : decide ((d.length : Int) = ((6 + pb d 5 : Nat) : Int)) = decide (d.length = 6 + pb d 5) := by rw [decide_eq_decide]; omega
      have e0 : decide ((pb d 0 : Int) = 0) = decide (pb d 0 = 0) := by rw [decide_eq_decide]; omega
      have e2 : decide ((pb d 0 : Int) = 2) = decide (pb d 0 = 2) := by rw [decide_eq_decide]; omega
      rw [e5, e0, e2]
      have fin : ∀ (c5 : d.length = 6 + pb d 5) (c0 : ¬ (pb d 0 = 1 ∨ 2 < pb d 0 ∨ d.length ≠ 6 + pb d 5)), (bif !decide (rowF ((pb d 1 : Int), (pb d 2 : Int), (pb d 3 : Int) * 256 + (pb d 4 : Int), d.drop 6, ()) = 0) then some (cell5, ()) else some (((0 : Int), (pb d 0 : Int), (0 : Int), (0 : Int), ((pb d 1 : Int), (pb d 2 : Int), (pb d 3 : Int) * 256 + (pb d 4 : Int), d.drop 6, ()), ()), ())) = some (if (cellF d).2 then (cellF d).1 else cell5, ()) := fun c5 c0 => by
        rw [hc, if_neg c0]
        show (bif !decide (rowF (rowB d) = 0) then some (cell5, ()) else some (((0 : Int), (pb d 0 : Int), (0 : Int), (0 : Int), rowB d, ()), ())) = some (if decide (rowF (rowB d) = 0) = true then ((0 : Int), (pb d 0 : Int), (0 : Int), (0 : Int), rowB d, ()) else cell5, ())
        cases decide (rowF (rowB d) = 0) <;> rfl
      have bad : (pb d 0 = 1 ∨ 2 < pb d 0 ∨ d.length ≠ 6 + pb d 5) → (some (cell5, ()) : Option impl_UnpackCell.Out) = some (if (cellF d).2 then (cellF d).1 else cell5, ()) := fun h => by
        rw [hc, if_pos h]; rfl
      by_cases c5 : d.length = 6 + pb d 5
      · rw [decide_eq_true c5]
        by_cases c0 : pb d 0 = 0
        · rw [decide_eq_true c0]
          exact fin c5 (by omega)
        · rw [decide_eq_false c0]
          by_cases c2 : pb d 0 = 2
          · rw [decide_eq_true c2]
            exact fin c5 (by omega)
          · rw [decide_eq_false c2]
            exact bad (by omega)
      · rw [decide_eq_false c5]
        have hb := bad (.inr (.inr c5))
        cases decide (pb d 0 = 0) <;> cases decide (pb d 0 = 2) <;> exact hb

section
variable {p : List UInt8} (hp : PageOk p)
include hp
theorem implHas_eq (s : Nat) : impl_hasSlot.sem (p, (s : Int), ()) = some (decide (s < pn p) && !decide (psz p s = 0), ()) := by
  refine lift_eq (k := 0) fun k _ => (impl_hasSlot.raw_eq k _).trans ?_
  show impl_hasSlot.p _ = _
  unfold impl_hasSlot.p
  have h0 : (0 : Int) ≤ (s : Int) := by omega
  have hn := hp.n
  have hl := hp.len
  simp only [h0, decide_true, cond_true, pSlots_eq hl, Option.bind_some]
  by_cases hs : s < pn p
  · have e1 : (s : Int) < (pn p : Int) := by omega
    have e2 : decide ((psz p s : Int) = 0) = decide (psz p s = 0) := by rw [decide_eq_decide]; omega
    have e3 : (p[3 + 2 * s]'(by omega)).toNat = psz p s := (pb_get (show 3 + 2 * s < p.length by omega)).2
    simp only [e1, hs, decide_true, cond_true, ix3 (show s < 1000 by omega), Int.natCast_nonneg, if_true, Int.toNat_natCast, read_pb (show 3 + 2 * s < p.length by omega), e3, e2, Bool.true_and]
  · have e1 : ¬ ((s : Int) < (pn p : Int)) := by omega
    simp only [e1, hs, decide_false, cond_false, Bool.false_and]
theorem specHas_eq (s : Nat) : spec_l2Has.sem (p, (s : Int), ()) = some (decide (s < pn p) && !decide (psz p s = 0), ()) := by
  refine lift_eq (k := 0) fun k _ => (spec_l2Has.raw_eq k _).trans ?_
  show spec_l2Has.p _ = _
  unfold spec_l2Has.p
  have hn := hp.n
  have hl := hp.len
  have hw : w64 ((pn p : Int) - 1) = (pn p : Int) - 1 := w64_in (by omega)
  have h0 : decide ((0 : Int) ≤ (s : Int)) = true := decide_eq_true (by omega)
  have h1 : decide ((s : Int) ≤ (pn p : Int) - 1) = decide (s < pn p) := by rw [decide_eq_decide]; omega
  simp only [pCount_eq hl, Option.bind_some, hw, specIn_eq, h0, h1, Bool.true_and]
  by_cases hs : s < pn p
  · have e2 : decide ((0 : Int) < (psz p s : Int)) = !decide (psz p s = 0) := by
      by_cases hz : psz p s = 0
      · simp [hz]
      · have : (0 : Int) < (psz p s : Int) := by omega
        rw [decide_eq_true this, decide_eq_false hz]; rfl
    simp only [hs, decide_true, cond_true, pSize_eq hl (show s < 16 by omega), Option.bind_some, e2, Bool.true_and]
  · simp only [hs, decide_false, cond_false, Bool.false_and]
theorem cell_in {s : Nat} (hs : s < pn p) : pat p s + psz p s ≤ 64 := by
  by_cases hz : psz p s = 0
  · have := hp.zero s hs hz; omega
  · exact (hp.slot s hs hz).2
theorem implCellAt_eq {s : Nat} (hs : s < pn p) : impl_cellAt.sem (p, (s : Int), ()) = some (cellP p s, ()) := by
  refine lift_eq (k := 0) fun k _ => (impl_cellAt.raw_eq k _).trans ?_
  show impl_cellAt.p _ = _
  unfold impl_cellAt.p cellP
  have hn := hp.n
  have hl := hp.len
  have hc := cell_in hp hs
  have hw : w64 ((pat p s : Int) + (psz p s : Int)) = ((pat p s + psz p s : Nat) : Int) := by rw [w64_in (by omega)]; omega
  have hb : (0 : Int) ≤ (pat p s : Int) ∧ (pat p s : Int) ≤ ((pat p s + psz p s : Nat) : Int) ∧ ((pat p s + psz p s : Nat) : Int) ≤ (p.length : Int) := by omega
  simp only [pSpot_eq hl (show s < 16 by omega), Option.bind_some, hw]
  rw [if_pos hb]
  simp only [Int.toNat_natCast, List.drop_take]
  rw [show pat p s + psz p s - pat p s = psz p s by omega]
theorem specCellAt_eq {s : Nat} (hs : s < pn p) : spec_l2Cell.sem (p, (s : Int), ()) = some (cellP p s, ()) := by
  refine lift_eq (k := 0) fun k _ => (spec_l2Cell.raw_eq k _).trans ?_
  show spec_l2Cell.p _ = _
  unfold spec_l2Cell.p cellP
  have hn := hp.n
  have hl := hp.len
  have hc := cell_in hp hs
  have hw : w64 ((pat p s : Int) + (psz p s : Int)) = ((pat p s + psz p s : Nat) : Int) := by rw [w64_in (by omega)]; omega
  have hb : (0 : Int) ≤ (pat p s : Int) ∧ (pat p s : Int) ≤ ((pat p s + psz p s : Nat) : Int) ∧ ((pat p s + psz p s : Nat) : Int) ≤ (p.length : Int) := by omega
  simp only [pPlace_eq hl (show s < 16 by omega), pSize_eq hl (show s < 16 by omega), Option.bind_some, hw]
  rw [if_pos hb, if_pos (cap_ok (by simp only [List.length_nil, List.length_drop, List.length_take]; omega))]
  simp only [Int.toNat_natCast, List.drop_take, List.nil_append]
  rw [show pat p s + psz p s - pat p s = psz p s by omega]
end
theorem cellP_small {p : List UInt8} (hp : PageOk p) {s : Nat} (hs : s < pn p) : (cellP p s).length ≤ 64 := by
  have := cellP_len hp hs
  have := cell_in hp hs
  omega
end OT

set_option linter.unusedVariables false
set_option linter.unusedSimpArgs false
namespace OT
open Go

/-! Keys. -/
def rk (x : Row) : Int × Int := (x.1, x.2.1)
theorem befB_iff (a b : Int × Int) : befB a b = true ↔ a.1 < b.1 ∨ (a.1 = b.1 ∧ a.2 < b.2) := by unfold befB; simp
theorem befB_trans {a b c : Int × Int} (h1 : befB a b = true) (h2 : befB b c = true) : befB a c = true := by
  rw [befB_iff] at *; omega
theorem befB_irr (a : Int × Int) : befB a a = false := by
  cases h : befB a a with
  | false => rfl
  | true => rw [befB_iff] at h; omega
theorem befB_asym {a b : Int × Int} (h : befB a b = true) : befB b a = false := by
  cases h2 : befB b a with
  | false => rfl
  | true => rw [befB_iff] at h h2; omega
theorem befB_tri {a b : Int × Int} (h1 : befB a b = false) (h2 : befB b a = false) : a = b := by
  have n1 : ¬ (a.1 < b.1 ∨ (a.1 = b.1 ∧ a.2 < b.2)) := fun h => by rw [(befB_iff a b).2 h] at h1; cases h1
  have n2 : ¬ (b.1 < a.1 ∨ (b.1 = a.1 ∧ b.2 < a.2)) := fun h => by rw [(befB_iff b a).2 h] at h2; cases h2
  have e1 : a.1 = b.1 := by omega
  have e2 : a.2 = b.2 := by omega
  obtain ⟨a1, a2⟩ := a
  obtain ⟨b1, b2⟩ := b
  simp only at e1 e2
  rw [e1, e2]
/-- Rows that rise. -/
def up (xs : List Row) : Prop := xs.Pairwise (fun a b => befB (rk a) (rk b) = true)
theorem up_cons {x : Row} {xs : List Row} : up (x :: xs) ↔ (∀ y ∈ xs, befB (rk x) (rk y) = true) ∧ up xs := List.pairwise_cons

/-- How many are ahead of a key. -/
def pos : List Row → Int × Int → Nat
  | [], _ => 0
  | x :: xs, k => if befB (rk x) k then pos xs k + 1 else 0
theorem pos_le : ∀ (xs : List Row) (k : Int × Int), pos xs k ≤ xs.length
  | [], _ => Nat.le_refl _
  | x :: xs, k => by simp only [pos]; split <;> simp [pos_le xs k]
theorem pos_lt : ∀ (xs : List Row) (k : Int × Int) (i : Nat) (h : i < xs.length), i < pos xs k → befB (rk xs[i]) k = true
  | x :: xs, k, i, h, hp => by
    simp only [pos] at hp
    split at hp
    · rename_i hx
      cases i with
      | zero => exact hx
      | succ i => exact pos_lt xs k i (by simpa using h) (by omega)
    · omega
theorem up_not : ∀ (xs : List Row) (k : Int × Int) (i : Nat) (h : i < xs.length), up xs → pos xs k ≤ i → befB (rk xs[i]) k = false
  | x :: xs, k, i, h, hu, hp => by
    simp only [pos] at hp
    split at hp
    · cases i with
      | zero => omega
      | succ i => exact up_not xs k i (by simpa using h) (up_cons.1 hu).2 (by omega)
    · rename_i hx
      have hx : befB (rk x) k = false := by simpa using hx
      cases i with
      | zero => exact hx
      | succ i =>
        have hi' : i < xs.length := by simpa using h
        have hm : befB (rk x) (rk xs[i]) = true := (up_cons.1 hu).1 _ (List.getElem_mem _)
        show befB (rk xs[i]) k = false
        cases hb : befB (rk xs[i]) k with
        | false => rfl
        | true => rw [befB_trans hm hb] at hx; cases hx

/-! The search of the program. -/
theorem ord_lt (a b : Row) : decide ((if befB (a.1, a.2.1) (b.1, b.2.1) then (-1 : Int) else if befB (b.1, b.2.1) (a.1, a.2.1) then 1 else 0) < 0) = befB (rk a) (rk b) := by
  unfold rk
  cases befB (a.1, a.2.1) (b.1, b.2.1) <;> cases befB (b.1, b.2.1) (a.1, a.2.1) <;> rfl
/-! One change. -/
/-! The reference: one change. -/
def put1 (xs : List Row) (r : Row) : List Row := xs.take (pos xs (rk r)) ++ [r] ++ xs.drop (pos xs (rk r))
theorem take_bef {xs : List Row} {k : Int × Int} {x : Row} (h : x ∈ xs.take (pos xs k)) : befB (rk x) k = true := by
  obtain ⟨i, hi, e⟩ := List.mem_iff_getElem.1 h
  have hp := pos_le xs k
  rw [List.length_take] at hi
  rw [List.getElem_take] at e
  rw [← e]
  exact pos_lt xs k i (by omega) (by omega)
end OT

set_option linter.unusedVariables false
set_option linter.unusedSimpArgs false
namespace OT
open Go

/-! Faults of rows. -/
structure Good (xs : List Row) : Prop where
  up : up xs
  ok : ∀ x ∈ xs, rowF x = 0

/-! All changes. -/
end OT

set_option linter.unusedVariables false
set_option linter.unusedSimpArgs false
namespace OT
open Go

/-- A walk that looks for what was there already, by a key that not all have. -/
theorem forI_dup {α β O : Type} [DecidableEq β] (g : α → Option β) (bad : O) (fin : Unit → O) (p : α → α → Bool) (hp : ∀ x y, p x y = true ↔ ∃ b, g x = some b ∧ g y = some b) (all : List α) : ∀ (xs pre : List α), all = pre ++ xs → (pre.filterMap g).Nodup → forI (fun i _ x => if (all.take i).any (p x) then .inl bad else .inr ()) fin pre.length xs () = if (all.filterMap g).Nodup then fin () else bad
  | [], pre, h, hn => by
    rw [List.append_nil] at h
    subst h
    simp only [forI, hn, if_true]
  | x :: xs, pre, h, hn => by
    have ht : all.take pre.length = pre := by rw [h]; exact List.take_left
    simp only [forI, ht]
    have hall : all.filterMap g = pre.filterMap g ++ ([x].filterMap g ++ xs.filterMap g) := by rw [h, ← List.singleton_append (x := x), List.filterMap_append, List.filterMap_append]
    cases hc : pre.any (p x) with
    | true =>
      simp only [if_true]
      obtain ⟨y, hy, hpy⟩ := List.any_eq_true.1 hc
      obtain ⟨b, h1, h2⟩ := (hp x y).1 hpy
      rw [if_neg]
      intro hnd
      rw [hall, List.nodup_append] at hnd
      exact hnd.2.2 b (List.mem_filterMap.2 ⟨y, hy, h2⟩) b (by simp [h1]) rfl
    | false =>
      simp only [Bool.false_eq_true, if_false]
      have := forI_dup g bad fin p hp all xs (pre ++ [x]) (by rw [h]; simp) (by
        rw [List.filterMap_append, List.nodup_append]
        refine ⟨hn, ?_, fun a ha b hb e => ?_⟩
        · cases hg : g x with
          | none => simp [hg]
          | some b => simp [hg]
        · subst e
          obtain ⟨y, hy, hgy⟩ := List.mem_filterMap.1 ha
          obtain ⟨z, hz, hgz⟩ := List.mem_filterMap.1 hb
          rw [List.mem_singleton] at hz
          subst hz
          have : pre.any (p z) = true := List.any_eq_true.2 ⟨y, hy, (hp z y).2 ⟨a, hgz, hgy⟩⟩
          rw [this] at hc; cases hc)
      rw [List.length_append] at this
      exact this

theorem forI_dup0 {α β O : Type} [DecidableEq β] (g : α → Option β) (bad : O) (fin : Unit → O) (p : α → α → Bool) (hp : ∀ x y, p x y = true ↔ ∃ b, g x = some b ∧ g y = some b) (xs : List α) : forI (fun i _ x => if (xs.take i).any (p x) then .inl bad else .inr ()) fin 0 xs () = if (xs.filterMap g).Nodup then fin () else bad :=
  forI_dup g bad fin p hp xs xs [] rfl List.nodup_nil

/-- There is one order alone. -/
theorem sorted_unique {α : Type} {lt : α → α → Prop} (has : ∀ a b, lt a b → ¬ lt b a) : ∀ (xs ys : List α), xs.Perm ys → xs.Pairwise lt → ys.Pairwise lt → xs = ys
  | [], ys, h, _, _ => (List.nil_perm.1 h).symm
  | x :: xs, [], h, _, _ => by have := h.length_eq; cases this
  | x :: xs, y :: ys, h, h1, h2 => by
    obtain ⟨a1, a2⟩ := List.pairwise_cons.1 h1
    obtain ⟨b1, b2⟩ := List.pairwise_cons.1 h2
    by_cases hxy : x = y
    · subst hxy
      rw [sorted_unique has xs ys ((List.perm_cons x).1 h) a2 b2]
    · have hx : x ∈ ys := by
        have := h.mem_iff.1 (List.mem_cons_self (a := x) (l := xs))
        rcases List.mem_cons.1 this with e | e
        · exact absurd e hxy
        · exact e
      have hy : y ∈ xs := by
        have := h.mem_iff.2 (List.mem_cons_self (a := y) (l := ys))
        rcases List.mem_cons.1 this with e | e
        · exact absurd e.symm hxy
        · exact e
      exact absurd (b1 x hx) (has _ _ (a1 y hy))

theorem put1_perm (xs : List Row) (r : Row) : (put1 xs r).Perm (r :: xs) := by
  unfold put1
  rw [List.append_assoc]
  have := List.perm_middle (a := r) (l₁ := xs.take (pos xs (rk r))) (l₂ := xs.drop (pos xs (rk r)))
  rw [List.take_append_drop] at this
  exact this
theorem pos_bef {xs : List Row} {k : Int × Int} {x : Row} (hu : up xs) (h : x ∈ xs.drop (pos xs k)) : befB (rk x) k = false := by
  obtain ⟨i, hi, e⟩ := List.mem_iff_getElem.1 h
  rw [List.length_drop] at hi
  rw [List.getElem_drop] at e
  rw [← e]
  exact up_not xs k _ _ hu (by omega)
theorem up_put1 {xs : List Row} {r : Row} (hu : up xs) (hn : ∀ x ∈ xs, rk x ≠ rk r) : up (put1 xs r) := by
  unfold put1 up
  rw [List.append_assoc, List.pairwise_append]
  have hd := hu.drop (i := pos xs (rk r))
  refine ⟨hu.take, ?_, fun a ha b hb => ?_⟩
  · rw [List.singleton_append, List.pairwise_cons]
    refine ⟨fun b hb => ?_, hd⟩
    have h1 := pos_bef hu hb
    have h2 := hn b (List.mem_of_mem_drop hb)
    cases h3 : befB (rk r) (rk b) with
    | true => rfl
    | false => exact absurd (befB_tri h1 h3) h2
  · have h1 := take_bef ha
    rw [List.singleton_append] at hb
    rcases List.mem_cons.1 hb with e | e
    · subst e; exact h1
    · have h2 := pos_bef hu e
      have h3 := hn b (List.mem_of_mem_drop e)
      cases h4 : befB (rk a) (rk b) with
      | true => rfl
      | false =>
        cases h5 : befB (rk b) (rk a) with
        | true => rw [befB_trans h5 h1] at h2; cases h2
        | false =>
          have := befB_tri h4 h5
          rw [this] at h1
          rw [h1] at h2; cases h2
/-- Rows put one behind the other. -/
def sortR (l : List Row) : List Row := l.foldl put1 []
theorem foldl_up : ∀ (l acc : List Row), up acc → (l.map rk ++ acc.map rk).Nodup → up (l.foldl put1 acc)
  | [], acc, h, _ => h
  | r :: l, acc, h, hn => by
    simp only [List.map_cons, List.cons_append, List.nodup_cons, List.mem_append, not_or] at hn
    refine foldl_up l (put1 acc r) (up_put1 h fun x hx e => hn.1.2 (List.mem_map.2 ⟨x, hx, e⟩)) ?_
    have : (l.map rk ++ (put1 acc r).map rk).Perm (rk r :: (l.map rk ++ acc.map rk)) := by
      refine ((List.Perm.refl _).append ((put1_perm acc r).map rk)).trans ?_
      rw [List.map_cons]
      exact List.perm_middle
    rw [this.nodup_iff, List.nodup_cons, List.mem_append, not_or]
    exact hn
theorem sortR_up {l : List Row} (h : (l.map rk).Nodup) : up (sortR l) := foldl_up l [] List.Pairwise.nil (by simpa using h)
theorem befB_not {a b : Int × Int} (h : befB a b = true) : ¬ befB b a = true := by rw [befB_asym h]; exact fun h => by cases h
theorem up_nodup {xs : List Row} (h : up xs) : (xs.map rk).Nodup := by
  unfold List.Nodup
  rw [List.pairwise_map]
  refine h.imp fun h1 e => ?_
  rw [e, befB_irr] at h1
  cases h1
end OT
