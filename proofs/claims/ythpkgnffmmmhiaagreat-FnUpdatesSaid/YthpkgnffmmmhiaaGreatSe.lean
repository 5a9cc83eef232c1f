/- The proof's parts, merged: Printed by gen.py, a program of this claim  what each Go function computes.. No conditions but those that each states. -/
import Derived.Test.YthpkgnffmmmhiaaGreatSd
set_option maxRecDepth 100000
set_option linter.unusedVariables false
namespace OT
open Go Go.Proofs.Tryz
namespace impl_look
abbrev Arg:Type:=(List (List UInt8))×Unit
abbrev Out:Type:=(List Seen)×Int×Unit
abbrev ps:PQ:=[(.ro,(.slc (.slc u8)))]
noncomputable def D:FD:={ fn:=f192,tl:=TL0,ps:=ps,rs:=[((.slc tSeen),(ownMd (.slc tSeen))),(i64,(roMd i64))],gl:=[(188,impl_slots.D.sig),(189,impl_hasSlot.D.sig),(190,impl_UnpackCell.D.sig),(191,impl_cellAt.D.sig),(216,impl_IsBefore.D.sig),(287,slices_SortFunc_seen.sig)],lv:=[(4,[4,5,6,21,22,23]),(7,[4,5,6,7,8,21,22,23,29,30]),(21,[4,5,6,81,82,83]),(29,[4,5,6,15,101,102,103]),(40,[4,19])],lx:=[(0,[4,5,6]),(2,[4,5,6,21,22,23]),(3,[4,5,6,7,8,21,22,23,29,30]),(5,[4,5,6]),(7,[4]),(9,[4])],od:=[(42,[0,1,2,3,4,5,6,7,8,9,10,11,12])] }
noncomputable def sem (a:Arg):Option Out:=@lift Out fun k=>D.W k a
noncomputable def T0 (a1:Arg) (v402:(List Seen)×(List Seen)×(List ((List Int)×Row))×(List (List UInt8))×Int×Int):St:={ n:=148,sl:=[(4,.own (.slc tSeen) (ownMd (.slc tSeen)) [] v402.1),(5,.own (.slc tSeen) (ownMd (.slc tSeen)) [] v402.2.1),(6,.own (.map (.arr 2 i64) tRow) (ownMd (.map (.arr 2 i64) tRow)) [] v402.2.2.1),(21,.val (.slc (.slc u8)) v402.2.2.2.1),(22,.val i64 v402.2.2.2.2.1),(23,.val i64 v402.2.2.2.2.2)],vr:=[],lent:=[] }
noncomputable def S0 (rec:RT Out) (a1:Arg):((List Seen)×(List Seen)×(List ((List Int)×Row))×(List (List UInt8))×Int×Int)->Option Out:=fun v402=>rec (T0 a1 v402)
noncomputable def X0_0 (K:KT Out) (a1:Arg):((List Seen)×(List Seen)×(List ((List Int)×Row)))->Option Out:=fun z=>K (.exit 0) ({ n:=148,sl:=[(4,.own (.slc tSeen) (ownMd (.slc tSeen)) [] z.1),(5,.own (.slc tSeen) (ownMd (.slc tSeen)) [] z.2.1),(6,.own (.map (.arr 2 i64) tRow) (ownMd (.map (.arr 2 i64) tRow)) [] z.2.2)],vr:=[],lent:=[] })
noncomputable def T1 (a1:Arg) (c1006:Int) (c1007:List UInt8) (c1008:List (List UInt8)) (c1009:Int) (c1010:Int) (v1005:(List Seen)×(List Seen)×(List ((List Int)×Row))×Int):St:={ n:=148,sl:=[(4,.own (.slc tSeen) (ownMd (.slc tSeen)) [] v1005.1),(5,.own (.slc tSeen) (ownMd (.slc tSeen)) [] v1005.2.1),(6,.own (.map (.arr 2 i64) tRow) (ownMd (.map (.arr 2 i64) tRow)) [] v1005.2.2.1),(7,.val i64 c1006),(8,.val (.slc u8) c1007),(21,.val (.slc (.slc u8)) c1008),(22,.val i64 c1009),(23,.val i64 c1006),(29,.val i64 c1010),(30,.val i64 v1005.2.2.2)],vr:=[],lent:=[] }
noncomputable def b1 (self:((List Seen)×(List Seen)×(List ((List Int)×Row))×Int)->Option Out) (e2:((List Seen)×(List Seen)×(List ((List Int)×Row)))->Option Out) (a1:Arg) (c1006:Int) (c1007:List UInt8) (c1008:List (List UInt8)) (c1009:Int) (c1010:Int) (v1005:(List Seen)×(List Seen)×(List ((List Int)×Row))×Int):Option Out:=bif decide (v1005.2.2.2 < c1010) then ((impl_hasSlot.sem (c1007,v1005.2.2.2,())).bind fun r1211=>bif !r1211.1 then (self (v1005.1,v1005.2.1,v1005.2.2.1,w64 (v1005.2.2.2+(1:Int)))) else (impl_cellAt.sem (c1007,v1005.2.2.2,())).bind fun r1212=>(impl_UnpackCell.sem (r1212.1,())).bind fun r1213=>bif !decide (r1213.1.1=(0:Int)) then (some (([]:List Seen),(5:Int),())) else bif decide (r1213.1.2.1=(0:Int)) then (if v1005.1.length+[(r1213.1.2.2.2.2.1,c1006,v1005.2.2.2,false,c1006,v1005.2.2.2,())].length<=CAP then (let y1214:=v1005.1++[(r1213.1.2.2.2.2.1,c1006,v1005.2.2.2,false,c1006,v1005.2.2.2,())];self (y1214,v1005.2.1,v1005.2.2.1,w64 (v1005.2.2.2+(1:Int)))) else none) else bif decide (r1213.1.2.1=(2:Int)) then (if 0 < (List.replicate 2 (0:Int)).length then (if 1 < ((List.replicate 2 (0:Int)).set 0 c1006).length then (let y1215:=mapPut (.arr 2 i64) v1005.2.2.1 (((List.replicate 2 (0:Int)).set 0 c1006).set 1 v1005.2.2.2) r1213.1.2.2.2.2.1;self (v1005.1,v1005.2.1,y1215,w64 (v1005.2.2.2+(1:Int)))) else none) else none) else if v1005.2.1.length+[(((0:Int),(0:Int),(0:Int),([]:List UInt8),()),c1006,v1005.2.2.2,true,r1213.1.2.2.1,r1213.1.2.2.2.1,())].length<=CAP then (let y1216:=v1005.2.1++[(((0:Int),(0:Int),(0:Int),([]:List UInt8),()),c1006,v1005.2.2.2,true,r1213.1.2.2.1,r1213.1.2.2.2.1,())];self (v1005.1,y1216,v1005.2.2.1,w64 (v1005.2.2.2+(1:Int)))) else none) else e2 (v1005.1,v1005.2.1,v1005.2.2.1)
noncomputable abbrev B1 (_:Nat):=b1
noncomputable def q0 (self:((List Seen)×(List Seen)×(List ((List Int)×Row))×(List (List UInt8))×Int×Int)->Option Out) (e0:((List Seen)×(List Seen)×(List ((List Int)×Row)))->Option Out) (a1:Arg) (c1006:Int) (c1007:List UInt8) (c1008:List (List UInt8)) (c1009:Int) (c1010:Int) (z1217:((List Seen)×(List Seen)×(List ((List Int)×Row)))):Option Out:=self (z1217.1,z1217.2.1,z1217.2.2,c1008,c1009,w64 (c1006+(1:Int)))
noncomputable abbrev Q0 (_:Nat):=q0
noncomputable def s1 (k:Nat) (rec:RT Out) (K:KT Out) (a1:Arg):Int->(List UInt8)->(List (List UInt8))->Int->Int->((List Seen)×(List Seen)×(List ((List Int)×Row))×Int)->Option Out:=fun c1006 c1007 c1008 c1009 c1010=>fun v1005=>D.L k [1,1,1,0,1,0,0,1,1,0,0,1,1,0,0] [4,5,6,7,8,21,22,23,29,30] [] (blockC 2 (blockC 1 (seqC (D.N k [1,1,1,0,1,0,0,1,1,1]) (loopC rec (keepF [4,5,6,21,22,23] []) K)))) (T1 a1 c1006 c1007 c1008 c1009 c1010 v1005)
noncomputable def r1 (k:Nat) (self:((List Seen)×(List Seen)×(List ((List Int)×Row))×(List (List UInt8))×Int×Int)->Option Out) (e0:((List Seen)×(List Seen)×(List ((List Int)×Row)))->Option Out) (a1:Arg):Int->(List UInt8)->(List (List UInt8))->Int->Int->((List Seen)×(List Seen)×(List ((List Int)×Row))×Int)->Option Out:=fun c1006 c1007 c1008 c1009 c1010=>rawIter (fun w v=>B1 k w (Q0 k self e0 a1 c1006 c1007 c1008 c1009 c1010) a1 c1006 c1007 c1008 c1009 c1010 v) k
theorem s1_eq (k:Nat) (rec:RT Out) (K:KT Out) (a1:Arg):s1 k rec K a1=r1 k (S0 rec a1) (X0_0 K a1) a1:=
 funext fun c1006=>funext fun c1007=>funext fun c1008=>funext fun c1009=>funext fun c1010=>funext fun v1005=>iter_raw _ _ _ (T1 a1 c1006 c1007 c1008 c1009 c1010) _ (fun rec v=>by kernel_rfl) k v1005
noncomputable def b0 (self:((List Seen)×(List Seen)×(List ((List Int)×Row))×(List (List UInt8))×Int×Int)->Option Out) (e0:((List Seen)×(List Seen)×(List ((List Int)×Row)))->Option Out) (l1:Int->(List UInt8)->(List (List UInt8))->Int->Int->((List Seen)×(List Seen)×(List ((List Int)×Row))×Int)->Option Out) (a1:Arg) (v402:(List Seen)×(List Seen)×(List ((List Int)×Row))×(List (List UInt8))×Int×Int):Option Out:=bif decide (v402.2.2.2.2.2 < v402.2.2.2.2.1) then (if 0<=v402.2.2.2.2.2 then ((v402.2.2.2.1[v402.2.2.2.2.2.toNat]?).bind fun x603=>(impl_slots.sem (x603,())).bind fun r604=>l1 v402.2.2.2.2.2 x603 v402.2.2.2.1 v402.2.2.2.2.1 r604.1 (v402.1,v402.2.1,v402.2.2.1,(0:Int))) else none) else e0 (v402.1,v402.2.1,v402.2.2.1)
noncomputable def B0 (k:Nat) (self:((List Seen)×(List Seen)×(List ((List Int)×Row))×(List (List UInt8))×Int×Int)->Option Out) (e0:((List Seen)×(List Seen)×(List ((List Int)×Row)))->Option Out) (a1:Arg) (v402:(List Seen)×(List Seen)×(List ((List Int)×Row))×(List (List UInt8))×Int×Int):Option Out:=b0 self e0 (r1 k self e0 a1) a1 v402
theorem B0_eq (k:Nat) (rec:RT Out) (K:KT Out) (a1:Arg) (v402:(List Seen)×(List Seen)×(List ((List Int)×Row))×(List (List UInt8))×Int×Int):D.N k [1,1,1,0,1,0,0] (T0 a1 v402) (loopC rec (keepF [4,5,6,21,22,23] []) K)=B0 k (S0 rec a1) (X0_0 K a1) a1 v402:=
 Eq.trans (b:=b0 (S0 rec a1) (X0_0 K a1) (s1 k rec K a1) a1 v402) (by kernel_rfl) (by rw[s1_eq];rfl)
noncomputable def T2 (a1:Arg) (c1620:List Seen) (c1621:List Seen) (c1622:List ((List Int)×Row)) (c1623:Int) (v1619:Int):St:={ n:=148,sl:=[(4,.own (.slc tSeen) (ownMd (.slc tSeen)) [] c1620),(5,.own (.slc tSeen) (ownMd (.slc tSeen)) [] c1621),(6,.own (.map (.arr 2 i64) tRow) (ownMd (.map (.arr 2 i64) tRow)) [] c1622),(81,.ref 5 [] [0,0]),(82,.val i64 c1623),(83,.val i64 v1619)],vr:=[],lent:=[] }
noncomputable def S2 (rec:RT Out) (a1:Arg) (c1620:List Seen) (c1621:List Seen) (c1622:List ((List Int)×Row)) (c1623:Int):(Int)->Option Out:=fun v1619=>rec (T2 a1 c1620 c1621 c1622 c1623 v1619)
noncomputable def X2_5 (K:KT Out) (a1:Arg) (c1620:List Seen) (c1621:List Seen) (c1622:List ((List Int)×Row)) (c1623:Int):(Unit)->Option Out:=fun z=>K (.exit 5) ({ n:=148,sl:=[(4,.own (.slc tSeen) (ownMd (.slc tSeen)) [] c1620),(5,.own (.slc tSeen) (ownMd (.slc tSeen)) [] c1621),(6,.own (.map (.arr 2 i64) tRow) (ownMd (.map (.arr 2 i64) tRow)) [] c1622)],vr:=[],lent:=[] })
noncomputable def b2 (self:Int->Option Out) (e5:(Unit)->Option Out) (a1:Arg) (c1620:List Seen) (c1621:List Seen) (c1622:List ((List Int)×Row)) (c1623:Int) (v1619:Int):Option Out:=bif decide (v1619 < c1623) then (if 0<=v1619/\v1619 < (c1621.length:Int) then ((c1621[v1619.toNat]?).bind fun x1824=>if 0 < (List.replicate 2 (0:Int)).length then (if 1 < ((List.replicate 2 (0:Int)).set 0 x1824.2.2.2.2.1).length then (let y1825:=orZ (mapGet (.arr 2 i64) c1622 (((List.replicate 2 (0:Int)).set 0 x1824.2.2.2.2.1).set 1 x1824.2.2.2.2.2.1)) ((0:Int),(0:Int),(0:Int),([]:List UInt8),());bif !(mapGet (.arr 2 i64) c1622 (((List.replicate 2 (0:Int)).set 0 x1824.2.2.2.2.1).set 1 x1824.2.2.2.2.2.1)).isSome then (some (([]:List Seen),(4:Int),())) else self (w64 (v1619+(1:Int)))) else none) else none) else none) else e5 ()
noncomputable abbrev B2 (_:Nat):=b2
theorem B2_eq (k:Nat) (rec:RT Out) (K:KT Out) (a1:Arg) (c1620:List Seen) (c1621:List Seen) (c1622:List ((List Int)×Row)) (c1623:Int) (v1619:Int):D.N k [1,1,1,1,0,1,0,0] (T2 a1 c1620 c1621 c1622 c1623 v1619) (loopC rec (keepF [4,5,6,81,82,83] []) K)=b2 (S2 rec a1 c1620 c1621 c1622 c1623) (X2_5 K a1 c1620 c1621 c1622 c1623) a1 c1620 c1621 c1622 c1623 v1619:=by kernel_rfl
noncomputable def T3 (a1:Arg) (c2228:List Seen) (c2229:List ((List Int)×Row)) (c2230:Int) (v2227:(List Seen)×(List ((List Int)×Bool))×Int):St:={ n:=148,sl:=[(4,.own (.slc tSeen) (ownMd (.slc tSeen)) [] v2227.1),(5,.own (.slc tSeen) (ownMd (.slc tSeen)) [] c2228),(6,.own (.map (.arr 2 i64) tRow) (ownMd (.map (.arr 2 i64) tRow)) [] c2229),(15,.own (.map (.arr 2 i64) .bool) (ownMd (.map (.arr 2 i64) .bool)) [] v2227.2.1),(101,.ref 5 [] [0,0]),(102,.val i64 c2230),(103,.val i64 v2227.2.2)],vr:=[],lent:=[] }
noncomputable def S3 (rec:RT Out) (a1:Arg) (c2228:List Seen) (c2229:List ((List Int)×Row)) (c2230:Int):((List Seen)×(List ((List Int)×Bool))×Int)->Option Out:=fun v2227=>rec (T3 a1 c2228 c2229 c2230 v2227)
noncomputable def X3_7 (K:KT Out) (a1:Arg) (c2228:List Seen) (c2229:List ((List Int)×Row)) (c2230:Int):(List Seen)->Option Out:=fun z=>K (.exit 7) ({ n:=148,sl:=[(4,.own (.slc tSeen) (ownMd (.slc tSeen)) [] z)],vr:=[],lent:=[] })
noncomputable def b3 (self:((List Seen)×(List ((List Int)×Bool))×Int)->Option Out) (e7:(List Seen)->Option Out) (a1:Arg) (c2228:List Seen) (c2229:List ((List Int)×Row)) (c2230:Int) (v2227:(List Seen)×(List ((List Int)×Bool))×Int):Option Out:=bif decide (v2227.2.2 < c2230) then (if 0<=v2227.2.2/\v2227.2.2 < (c2228.length:Int) then ((c2228[v2227.2.2.toNat]?).bind fun x2431=>if 0 < (List.replicate 2 (0:Int)).length then (if 1 < ((List.replicate 2 (0:Int)).set 0 x2431.2.2.2.2.1).length then (let y2432:=((List.replicate 2 (0:Int)).set 0 x2431.2.2.2.2.1).set 1 x2431.2.2.2.2.2.1;bif orZ (mapGet (.arr 2 i64) v2227.2.1 y2432) false then (some (([]:List Seen),(6:Int),())) else let y2433:=orZ (mapGet (.arr 2 i64) c2229 y2432) ((0:Int),(0:Int),(0:Int),([]:List UInt8),());if v2227.1.length+[(y2433,x2431.2)].length<=CAP then (self (v2227.1++[(y2433,x2431.2)],mapPut (.arr 2 i64) v2227.2.1 y2432 true,w64 (v2227.2.2+(1:Int)))) else none) else none) else none) else none) else e7 v2227.1
noncomputable abbrev B3 (_:Nat):=b3
theorem B3_eq (k:Nat) (rec:RT Out) (K:KT Out) (a1:Arg) (c2228:List Seen) (c2229:List ((List Int)×Row)) (c2230:Int) (v2227:(List Seen)×(List ((List Int)×Bool))×Int):D.N k [1,1,1,1,1,1,0,1,0,0] (T3 a1 c2228 c2229 c2230 v2227) (loopC rec (keepF [4,5,6,15,101,102,103] []) K)=b3 (S3 rec a1 c2228 c2229 c2230) (X3_7 K a1 c2228 c2229 c2230) a1 c2228 c2229 c2230 v2227:=by kernel_rfl
noncomputable def T4 (a1:Arg) (c2837:List Seen) (v2836:Int):St:={ n:=148,sl:=[(4,.own (.slc tSeen) (ownMd (.slc tSeen)) [] c2837),(19,.val i64 v2836)],vr:=[],lent:=[] }
noncomputable def b4 (self:Int->Option Out) (e9:(Unit)->Option Out) (a1:Arg) (c2837:List Seen) (v2836:Int):Option Out:=bif decide (v2836 < (c2837.length:Int)) then (if 0<=w64 (v2836 - (1:Int))/\w64 (v2836 - (1:Int)) < (c2837.length:Int) then ((c2837[(w64 (v2836 - (1:Int))).toNat]?).bind fun x3038=>if 0<=v2836/\v2836 < (c2837.length:Int) then ((c2837[v2836.toNat]?).bind fun x3039=>(impl_IsBefore.sem (x3038.1,x3039.1,())).bind fun r3040=>bif !r3040.1 then (some (([]:List Seen),(8:Int),())) else self (w64 (v2836+(1:Int)))) else none) else none) else e9 ()
noncomputable abbrev B4 (_:Nat):=b4
noncomputable def q4 (a1:Arg) (c2837:List Seen) (z3041:(Unit)):Option Out:=some (c2837,(0:Int),())
noncomputable abbrev Q4 (_:Nat):=q4
noncomputable def s4 (k:Nat) (a1:Arg) (c2228:List Seen) (c2229:List ((List Int)×Row)) (c2230:Int):(List Seen)->(Int)->Option Out:=fun c2837=>fun v2836=>D.L k [1,1,1,1,1,1,1,1,0,1,0,0] [4,19] [] (blockC 9 (seqC (D.N k [1,1,1,1,1,1,1,1,1]) D.K0)) (T4 a1 c2837 v2836)
noncomputable def r4 (k:Nat) (a1:Arg) (c2228:List Seen) (c2229:List ((List Int)×Row)) (c2230:Int):(List Seen)->(Int)->Option Out:=fun c2837=>rawIter (fun w v=>B4 k w (Q4 k a1 c2837) a1 c2837 v) k
theorem s4_eq (k:Nat) (a1:Arg) (c2228:List Seen) (c2229:List ((List Int)×Row)) (c2230:Int):s4 k a1 c2228 c2229 c2230=r4 k a1 c2228 c2229 c2230:=
 funext fun c2837=>funext fun v2836=>iter_raw _ _ _ (T4 a1 c2837) _ (fun rec v=>by kernel_rfl) k v2836
noncomputable def q3 (l4:(List Seen)->(Int)->Option Out) (a1:Arg) (c2228:List Seen) (c2229:List ((List Int)×Row)) (c2230:Int) (z2434:(List Seen)):Option Out:=(slices_SortFunc_seen.sem (z2434,((288,0):Nat×Int),())).bind fun r2435=>l4 r2435.1 (1:Int)
noncomputable def Q3 (k:Nat) (a1:Arg) (c2228:List Seen) (c2229:List ((List Int)×Row)) (c2230:Int) (z2434:(List Seen)):Option Out:=q3 (r4 k a1 c2228 c2229 c2230) a1 c2228 c2229 c2230 z2434
theorem Q3_eq (k:Nat) (a1:Arg) (c2228:List Seen) (c2229:List ((List Int)×Row)) (c2230:Int) (z2434:(List Seen)):X3_7 (blockC 7 (seqC (D.N k [1,1,1,1,1,1,1]) D.K0)) a1 c2228 c2229 c2230 z2434=Q3 k a1 c2228 c2229 c2230 z2434:=
 Eq.trans (b:=q3 (s4 k a1 c2228 c2229 c2230) a1 c2228 c2229 c2230 z2434) (by kernel_rfl) (by rw[s4_eq];rfl)
noncomputable def s3 (k:Nat) (a1:Arg) (c1620:List Seen) (c1621:List Seen) (c1622:List ((List Int)×Row)) (c1623:Int):(List Seen)->(List ((List Int)×Row))->Int->((List Seen)×(List ((List Int)×Bool))×Int)->Option Out:=fun c2228 c2229 c2230=>fun v2227=>D.L k [1,1,1,1,1,1,0,1,0,0] [4,5,6,15,101,102,103] [] (blockC 7 (seqC (D.N k [1,1,1,1,1,1,1]) D.K0)) (T3 a1 c2228 c2229 c2230 v2227)
noncomputable def r3 (k:Nat) (a1:Arg) (c1620:List Seen) (c1621:List Seen) (c1622:List ((List Int)×Row)) (c1623:Int):(List Seen)->(List ((List Int)×Row))->Int->((List Seen)×(List ((List Int)×Bool))×Int)->Option Out:=fun c2228 c2229 c2230=>rawIter (fun w v=>B3 k w (Q3 k a1 c2228 c2229 c2230) a1 c2228 c2229 c2230 v) k
theorem s3_eq (k:Nat) (a1:Arg) (c1620:List Seen) (c1621:List Seen) (c1622:List ((List Int)×Row)) (c1623:Int):s3 k a1 c1620 c1621 c1622 c1623=r3 k a1 c1620 c1621 c1622 c1623:=by
 funext c2228;funext c2229;funext c2230;funext v2227;
 have h7:X3_7 (blockC 7 (seqC (D.N k [1,1,1,1,1,1,1]) D.K0)) a1 c2228 c2229 c2230=Q3 k a1 c2228 c2229 c2230:=funext fun z=>Q3_eq k a1 c2228 c2229 c2230 z
 refine (iter_raw _ _ _ (T3 a1 c2228 c2229 c2230) (fun self v=>B3 k self (X3_7 (blockC 7 (seqC (D.N k [1,1,1,1,1,1,1]) D.K0)) a1 c2228 c2229 c2230) a1 c2228 c2229 c2230 v) (fun rec v=>B3_eq k rec (blockC 7 (seqC (D.N k [1,1,1,1,1,1,1]) D.K0)) a1 c2228 c2229 c2230 v) k v2227).trans ?_
 rw[h7]
 rfl
noncomputable def q2 (l3:(List Seen)->(List ((List Int)×Row))->Int->((List Seen)×(List ((List Int)×Bool))×Int)->Option Out) (a1:Arg) (c1620:List Seen) (c1621:List Seen) (c1622:List ((List Int)×Row)) (c1623:Int) (z1826:(Unit)):Option Out:=l3 c1621 c1622 (c1621.length:Int) (c1620,([]:List ((List Int)×Bool)),(0:Int))
noncomputable def Q2 (k:Nat) (a1:Arg) (c1620:List Seen) (c1621:List Seen) (c1622:List ((List Int)×Row)) (c1623:Int) (z1826:(Unit)):Option Out:=q2 (r3 k a1 c1620 c1621 c1622 c1623) a1 c1620 c1621 c1622 c1623 z1826
theorem Q2_eq (k:Nat) (a1:Arg) (c1620:List Seen) (c1621:List Seen) (c1622:List ((List Int)×Row)) (c1623:Int) (z1826:(Unit)):X2_5 (blockC 5 (seqC (D.N k [1,1,1,1,1]) D.K0)) a1 c1620 c1621 c1622 c1623 z1826=Q2 k a1 c1620 c1621 c1622 c1623 z1826:=
 Eq.trans (b:=q2 (s3 k a1 c1620 c1621 c1622 c1623) a1 c1620 c1621 c1622 c1623 z1826) (by kernel_rfl) (by rw[s3_eq];rfl)
noncomputable def s2 (k:Nat) (a1:Arg):(List Seen)->(List Seen)->(List ((List Int)×Row))->Int->(Int)->Option Out:=fun c1620 c1621 c1622 c1623=>fun v1619=>D.L k [1,1,1,1,0,1,0,0] [4,5,6,81,82,83] [] (blockC 5 (seqC (D.N k [1,1,1,1,1]) D.K0)) (T2 a1 c1620 c1621 c1622 c1623 v1619)
noncomputable def r2 (k:Nat) (a1:Arg):(List Seen)->(List Seen)->(List ((List Int)×Row))->Int->(Int)->Option Out:=fun c1620 c1621 c1622 c1623=>rawIter (fun w v=>B2 k w (Q2 k a1 c1620 c1621 c1622 c1623) a1 c1620 c1621 c1622 c1623 v) k
theorem s2_eq (k:Nat) (a1:Arg):s2 k a1=r2 k a1:=by
 funext c1620;funext c1621;funext c1622;funext c1623;funext v1619;
 have h5:X2_5 (blockC 5 (seqC (D.N k [1,1,1,1,1]) D.K0)) a1 c1620 c1621 c1622 c1623=Q2 k a1 c1620 c1621 c1622 c1623:=funext fun z=>Q2_eq k a1 c1620 c1621 c1622 c1623 z
 refine (iter_raw _ _ _ (T2 a1 c1620 c1621 c1622 c1623) (fun self v=>B2 k self (X2_5 (blockC 5 (seqC (D.N k [1,1,1,1,1]) D.K0)) a1 c1620 c1621 c1622 c1623) a1 c1620 c1621 c1622 c1623 v) (fun rec v=>B2_eq k rec (blockC 5 (seqC (D.N k [1,1,1,1,1]) D.K0)) a1 c1620 c1621 c1622 c1623 v) k v1619).trans ?_
 rw[h5]
 rfl
noncomputable def q1 (l2:(List Seen)->(List Seen)->(List ((List Int)×Row))->Int->(Int)->Option Out) (a1:Arg) (z1218:((List Seen)×(List Seen)×(List ((List Int)×Row)))):Option Out:=l2 z1218.1 z1218.2.1 z1218.2.2 (z1218.2.1.length:Int) (0:Int)
noncomputable def Q1 (k:Nat) (a1:Arg) (z1218:((List Seen)×(List Seen)×(List ((List Int)×Row)))):Option Out:=q1 (r2 k a1) a1 z1218
theorem Q1_eq (k:Nat) (a1:Arg) (z1218:((List Seen)×(List Seen)×(List ((List Int)×Row)))):X0_0 (blockC 0 (seqC (D.N k [1,1,1,1]) D.K0)) a1 z1218=Q1 k a1 z1218:=
 Eq.trans (b:=q1 (s2 k a1) a1 z1218) (by kernel_rfl) (by rw[s2_eq];rfl)
noncomputable def s0 (k:Nat) (a1:Arg):((List Seen)×(List Seen)×(List ((List Int)×Row))×(List (List UInt8))×Int×Int)->Option Out:=fun v402=>D.L k [1,1,1,0,1,0,0] [4,5,6,21,22,23] [] (blockC 0 (seqC (D.N k [1,1,1,1]) D.K0)) (T0 a1 v402)
noncomputable def r0 (k:Nat) (a1:Arg):((List Seen)×(List Seen)×(List ((List Int)×Row))×(List (List UInt8))×Int×Int)->Option Out:=rawIter (fun w v=>B0 k w (Q1 k a1) a1 v) k
theorem s0_eq (k:Nat) (a1:Arg):s0 k a1=r0 k a1:=by
 funext v402;
 have h0:X0_0 (blockC 0 (seqC (D.N k [1,1,1,1]) D.K0)) a1=Q1 k a1:=funext fun z=>Q1_eq k a1 z
 refine (iter_raw _ _ _ (T0 a1) (fun self v=>B0 k self (X0_0 (blockC 0 (seqC (D.N k [1,1,1,1]) D.K0)) a1) a1 v) (fun rec v=>B0_eq k rec (blockC 0 (seqC (D.N k [1,1,1,1]) D.K0)) a1 v) k v402).trans ?_
 rw[h0]
 rfl
noncomputable def p (l0:((List Seen)×(List Seen)×(List ((List Int)×Row))×(List (List UInt8))×Int×Int)->Option Out) (a1:Arg):Option Out:=l0 (([]:List Seen),([]:List Seen),([]:List ((List Int)×Row)),a1.1,(a1.1.length:Int),(0:Int))
theorem raw_eq (k:Nat) (a1:Arg):@Eq (Option Out) (D.W k a1) (p (r0 k a1) a1):=
 Eq.trans (b:=p (s0 k a1) a1) (by kernel_rfl) (by rw[s0_eq])
theorem ok:Ok prog 192 D.sig:=fd_ok func192 tlOk (by kernel_rfl) (fc impl_slots.ok (fc impl_hasSlot.ok (fc impl_UnpackCell.ok (fc impl_cellAt.ok (fc impl_IsBefore.ok (fc slices_SortFunc_seen.ok (fn_nil _)))))))
end impl_look
namespace impl_view
abbrev Arg:Type:=(List (List UInt8))×Unit
abbrev Out:Type:=(List Seen)×Int×Unit
abbrev ps:PQ:=[(.ro,(.slc (.slc u8)))]
noncomputable def D:FD:={ fn:=f86,tl:=TL0,ps:=ps,rs:=[((.slc tSeen),(ownMd (.slc tSeen))),(i64,(roMd i64))],gl:=[(187,impl_PageFault.D.sig),(188,impl_slots.D.sig),(189,impl_hasSlot.D.sig),(190,impl_UnpackCell.D.sig),(191,impl_cellAt.D.sig),(192,impl_look.D.sig)],lv:=[(4,[0,11,12,13]),(10,[0,5,11,12,13,23,24])],lx:=[(0,[0]),(2,[0,11,12,13])] }
noncomputable def sem (a:Arg):Option Out:=@lift Out fun k=>D.W k a
noncomputable def T0 (a1:Arg) (v402:(List (List UInt8))×(List (List UInt8))×Int×Int):St:={ n:=44,sl:=[(0,.val (.slc (.slc u8)) v402.1),(11,.val (.slc (.slc u8)) v402.2.1),(12,.val i64 v402.2.2.1),(13,.val i64 v402.2.2.2)],vr:=[],lent:=[] }
noncomputable def S0 (rec:RT Out) (a1:Arg):((List (List UInt8))×(List (List UInt8))×Int×Int)->Option Out:=fun v402=>rec (T0 a1 v402)
noncomputable def X0_0 (K:KT Out) (a1:Arg):(List (List UInt8))->Option Out:=fun z=>K (.exit 0) ({ n:=44,sl:=[(0,.val (.slc (.slc u8)) z)],vr:=[],lent:=[] })
noncomputable def T1 (a1:Arg) (c1007:List (List UInt8)) (c1008:List UInt8) (c1009:List (List UInt8)) (c1010:Int) (c1011:Int) (c1012:Int) (v1006:Int):St:={ n:=44,sl:=[(0,.val (.slc (.slc u8)) c1007),(5,.val (.slc u8) c1008),(11,.val (.slc (.slc u8)) c1009),(12,.val i64 c1010),(13,.val i64 c1011),(23,.val i64 c1012),(24,.val i64 v1006)],vr:=[],lent:=[] }
noncomputable def b1 (self:Int->Option Out) (e2:(Unit)->Option Out) (a1:Arg) (c1007:List (List UInt8)) (c1008:List UInt8) (c1009:List (List UInt8)) (c1010:Int) (c1011:Int) (c1012:Int) (v1006:Int):Option Out:=bif decide (v1006 < c1012) then ((impl_hasSlot.sem (c1008,v1006,())).bind fun r1213=>bif r1213.1 then ((impl_cellAt.sem (c1008,v1006,())).bind fun r1214=>(impl_UnpackCell.sem (r1214.1,())).bind fun r1215=>bif !decide (r1215.1.1=(0:Int)) then (some (([]:List Seen),(5:Int),())) else self (w64 (v1006+(1:Int)))) else self (w64 (v1006+(1:Int)))) else e2 ()
noncomputable abbrev B1 (_:Nat):=b1
noncomputable def q0 (self:((List (List UInt8))×(List (List UInt8))×Int×Int)->Option Out) (e0:(List (List UInt8))->Option Out) (a1:Arg) (c1007:List (List UInt8)) (c1008:List UInt8) (c1009:List (List UInt8)) (c1010:Int) (c1011:Int) (c1012:Int) (z1216:(Unit)):Option Out:=self (c1007,c1009,c1010,w64 (c1011+(1:Int)))
noncomputable abbrev Q0 (_:Nat):=q0
noncomputable def s1 (k:Nat) (rec:RT Out) (K:KT Out) (a1:Arg):(List (List UInt8))->(List UInt8)->(List (List UInt8))->Int->Int->Int->(Int)->Option Out:=fun c1007 c1008 c1009 c1010 c1011 c1012=>fun v1006=>D.L k [1,1,0,1,0,0,1,1,0,0,1,1,1,0,0] [0,5,11,12,13,23,24] [] (blockC 2 (blockC 1 (seqC (D.N k [1,1,0,1,0,0,1,1,1]) (loopC rec (keepF [0,11,12,13] []) K)))) (T1 a1 c1007 c1008 c1009 c1010 c1011 c1012 v1006)
noncomputable def r1 (k:Nat) (self:((List (List UInt8))×(List (List UInt8))×Int×Int)->Option Out) (e0:(List (List UInt8))->Option Out) (a1:Arg):(List (List UInt8))->(List UInt8)->(List (List UInt8))->Int->Int->Int->(Int)->Option Out:=fun c1007 c1008 c1009 c1010 c1011 c1012=>rawIter (fun w v=>B1 k w (Q0 k self e0 a1 c1007 c1008 c1009 c1010 c1011 c1012) a1 c1007 c1008 c1009 c1010 c1011 c1012 v) k
theorem s1_eq (k:Nat) (rec:RT Out) (K:KT Out) (a1:Arg):s1 k rec K a1=r1 k (S0 rec a1) (X0_0 K a1) a1:=
 funext fun c1007=>funext fun c1008=>funext fun c1009=>funext fun c1010=>funext fun c1011=>funext fun c1012=>funext fun v1006=>iter_raw _ _ _ (T1 a1 c1007 c1008 c1009 c1010 c1011 c1012) _ (fun rec v=>by kernel_rfl) k v1006
noncomputable def b0 (self:((List (List UInt8))×(List (List UInt8))×Int×Int)->Option Out) (e0:(List (List UInt8))->Option Out) (l1:(List (List UInt8))->(List UInt8)->(List (List UInt8))->Int->Int->Int->(Int)->Option Out) (a1:Arg) (v402:(List (List UInt8))×(List (List UInt8))×Int×Int):Option Out:=bif decide (v402.2.2.2 < v402.2.2.1) then (if 0<=v402.2.2.2 then ((v402.2.1[v402.2.2.2.toNat]?).bind fun x603=>(impl_PageFault.sem (x603,())).bind fun r604=>bif !decide (r604.1=(0:Int)) then (some (([]:List Seen),r604.1,())) else (impl_slots.sem (x603,())).bind fun r605=>l1 v402.1 x603 v402.2.1 v402.2.2.1 v402.2.2.2 r605.1 (0:Int)) else none) else e0 v402.1
noncomputable def B0 (k:Nat) (self:((List (List UInt8))×(List (List UInt8))×Int×Int)->Option Out) (e0:(List (List UInt8))->Option Out) (a1:Arg) (v402:(List (List UInt8))×(List (List UInt8))×Int×Int):Option Out:=b0 self e0 (r1 k self e0 a1) a1 v402
theorem B0_eq (k:Nat) (rec:RT Out) (K:KT Out) (a1:Arg) (v402:(List (List UInt8))×(List (List UInt8))×Int×Int):D.N k [1,1,0,1,0,0] (T0 a1 v402) (loopC rec (keepF [0,11,12,13] []) K)=B0 k (S0 rec a1) (X0_0 K a1) a1 v402:=
 Eq.trans (b:=b0 (S0 rec a1) (X0_0 K a1) (s1 k rec K a1) a1 v402) (by kernel_rfl) (by rw[s1_eq];rfl)
noncomputable def q1 (a1:Arg) (z1217:(List (List UInt8))):Option Out:=(impl_look.sem (z1217,())).bind fun r1218=>some (r1218.1,r1218.2.1,())
noncomputable abbrev Q1 (_:Nat):=q1
theorem Q1_eq (k:Nat) (a1:Arg) (z1217:(List (List UInt8))):X0_0 (blockC 0 (seqC (D.N k [1,1,1]) D.K0)) a1 z1217=q1 a1 z1217:=by kernel_rfl
noncomputable def s0 (k:Nat) (a1:Arg):((List (List UInt8))×(List (List UInt8))×Int×Int)->Option Out:=fun v402=>D.L k [1,1,0,1,0,0] [0,11,12,13] [] (blockC 0 (seqC (D.N k [1,1,1]) D.K0)) (T0 a1 v402)
noncomputable def r0 (k:Nat) (a1:Arg):((List (List UInt8))×(List (List UInt8))×Int×Int)->Option Out:=rawIter (fun w v=>B0 k w (Q1 k a1) a1 v) k
theorem s0_eq (k:Nat) (a1:Arg):s0 k a1=r0 k a1:=by
 funext v402;
 have h0:X0_0 (blockC 0 (seqC (D.N k [1,1,1]) D.K0)) a1=Q1 k a1:=funext fun z=>Q1_eq k a1 z
 refine (iter_raw _ _ _ (T0 a1) (fun self v=>B0 k self (X0_0 (blockC 0 (seqC (D.N k [1,1,1]) D.K0)) a1) a1 v) (fun rec v=>B0_eq k rec (blockC 0 (seqC (D.N k [1,1,1]) D.K0)) a1 v) k v402).trans ?_
 rw[h0]
 rfl
noncomputable def p (l0:((List (List UInt8))×(List (List UInt8))×Int×Int)->Option Out) (a1:Arg):Option Out:=bif decide ((12:Int) < (a1.1.length:Int)) then (some (([]:List Seen),(2:Int),())) else l0 (a1.1,a1.1,(a1.1.length:Int),(0:Int))
theorem raw_eq (k:Nat) (a1:Arg):@Eq (Option Out) (D.W k a1) (p (r0 k a1) a1):=
 Eq.trans (b:=p (s0 k a1) a1) (by kernel_rfl) (by rw[s0_eq])
theorem ok:Ok prog 86 D.sig:=fd_ok func86 tlOk (by kernel_rfl) (fc impl_PageFault.ok (fc impl_slots.ok (fc impl_hasSlot.ok (fc impl_UnpackCell.ok (fc impl_cellAt.ok (fc impl_look.ok (fn_nil _)))))))
end impl_view
namespace impl_find
abbrev Arg:Type:=(List Seen)×Int×Int×Unit
abbrev Out:Type:=Seen×Bool×Unit
abbrev ps:PQ:=[(.ro,(.slc tSeen)),(.ro,i64),(.ro,i64)]
noncomputable def D:FD:={ fn:=f88,tl:=TL0,ps:=ps,rs:=[(tSeen,(roMd tSeen)),(.bool,(roMd .bool))],lv:=[(2,[1,2,6,10,11,12])],lx:=[(0,[6])] }
noncomputable def sem (a:Arg):Option Out:=@lift Out fun k=>D.W k a
noncomputable def T0 (a1:Arg) (v402:Int):St:={ n:=31,sl:=[(1,.val i64 a1.2.1),(2,.val i64 a1.2.2.1),(6,.box tSeen (roMd tSeen) [] (((0:Int),(0:Int),(0:Int),([]:List UInt8),()),(0:Int),(0:Int),false,(0:Int),(0:Int),())),(10,.val (.slc tSeen) a1.1),(11,.val i64 (a1.1.length:Int)),(12,.val i64 v402)],vr:=[],lent:=[] }
noncomputable def b0 (self:Int->Option Out) (e0:(Unit)->Option Out) (a1:Arg) (v402:Int):Option Out:=bif decide (v402 < (a1.1.length:Int)) then (if 0<=v402 then ((a1.1[v402.toNat]?).bind fun x603=>bif decide (x603.1.1=a1.2.1) then (bif decide (x603.1.2.1=a1.2.2.1) then (some (x603,true,())) else self (w64 (v402+(1:Int)))) else self (w64 (v402+(1:Int)))) else none) else e0 ()
noncomputable abbrev B0 (_:Nat):=b0
noncomputable def q0 (a1:Arg) (z604:(Unit)):Option Out:=some ((((0:Int),(0:Int),(0:Int),([]:List UInt8),()),(0:Int),(0:Int),false,(0:Int),(0:Int),()),false,())
noncomputable abbrev Q0 (_:Nat):=q0
noncomputable def s0 (k:Nat) (a1:Arg):(Int)->Option Out:=fun v402=>D.L k [1,0,1,0,0] [1,2,6,10,11,12] [] (blockC 0 (seqC (D.N k [1,1]) D.K0)) (T0 a1 v402)
noncomputable def r0 (k:Nat) (a1:Arg):(Int)->Option Out:=rawIter (fun w v=>B0 k w (Q0 k a1) a1 v) k
theorem s0_eq (k:Nat) (a1:Arg):s0 k a1=r0 k a1:=
 funext fun v402=>iter_raw _ _ _ (T0 a1) _ (fun rec v=>by kernel_rfl) k v402
noncomputable def p (l0:(Int)->Option Out) (a1:Arg):Option Out:=l0 (0:Int)
theorem raw_eq (k:Nat) (a1:Arg):@Eq (Option Out) (D.W k a1) (p (r0 k a1) a1):=
 Eq.trans (b:=p (s0 k a1) a1) (by kernel_rfl) (by rw[s0_eq])
theorem ok:Ok prog 88 D.sig:=fd_ok func88 tlOk (by kernel_rfl) (fn_nil _)
end impl_find
namespace impl_copied
abbrev Arg:Type:=(List UInt8)×Unit
abbrev Out:Type:=(List UInt8)×Unit
abbrev ps:PQ:=[(.ro,(.slc u8))]
noncomputable def D:FD:={ fn:=f120,tl:=TL0,ps:=ps,rs:=[((.slc u8),(ownMd (.slc u8)))] }
noncomputable def sem (a:Arg):Option Out:=@lift Out fun k=>D.W k a
noncomputable def p (a1:Arg):Option Out:=if ([]:List UInt8).length+a1.1.length<=CAP then (some (([]:List UInt8)++a1.1,())) else none
theorem raw_eq (k:Nat) (a1:Arg):@Eq (Option Out) (D.W k a1) (p a1):=by kernel_rfl
theorem ok:Ok prog 120 D.sig:=fd_ok func120 tlOk (by kernel_rfl) (fn_nil _)
end impl_copied
namespace impl_copies
abbrev Arg:Type:=(List (List UInt8))×Unit
abbrev Out:Type:=(List (List UInt8))×Unit
abbrev ps:PQ:=[(.ro,(.slc (.slc u8)))]
noncomputable def D:FD:={ fn:=f118,tl:=TL0,ps:=ps,rs:=[((.slc (.slc u8)),(ownMd (.slc (.slc u8))))],gl:=[(120,impl_copied.D.sig)],lv:=[(3,[3,6,7,8])],lx:=[(0,[3])] }
noncomputable def sem (a:Arg):Option Out:=@lift Out fun k=>D.W k a
noncomputable def T0 (a1:Arg) (v402:(List (List UInt8))×Int):St:={ n:=19,sl:=[(3,.own (.slc (.slc u8)) (ownMd (.slc (.slc u8))) [] v402.1),(6,.val (.slc (.slc u8)) a1.1),(7,.val i64 (a1.1.length:Int)),(8,.val i64 v402.2)],vr:=[],lent:=[] }
noncomputable def b0 (self:((List (List UInt8))×Int)->Option Out) (e0:(List (List UInt8))->Option Out) (a1:Arg) (v402:(List (List UInt8))×Int):Option Out:=bif decide (v402.2 < (a1.1.length:Int)) then (if 0<=v402.2 then ((a1.1[v402.2.toNat]?).bind fun x603=>(impl_copied.sem (x603,())).bind fun r604=>if v402.1.length+[r604.1].length<=CAP then (self (v402.1++[r604.1],w64 (v402.2+(1:Int)))) else none) else none) else e0 v402.1
noncomputable abbrev B0 (_:Nat):=b0
noncomputable def q0 (a1:Arg) (z605:(List (List UInt8))):Option Out:=some (z605,())
noncomputable abbrev Q0 (_:Nat):=q0
noncomputable def s0 (k:Nat) (a1:Arg):((List (List UInt8))×Int)->Option Out:=fun v402=>D.L k [1,1,0,1,0,0] [3,6,7,8] [] (blockC 0 (seqC (D.N k [1,1,1]) D.K0)) (T0 a1 v402)
noncomputable def r0 (k:Nat) (a1:Arg):((List (List UInt8))×Int)->Option Out:=rawIter (fun w v=>B0 k w (Q0 k a1) a1 v) k
theorem s0_eq (k:Nat) (a1:Arg):s0 k a1=r0 k a1:=
 funext fun v402=>iter_raw _ _ _ (T0 a1) _ (fun rec v=>by kernel_rfl) k v402
noncomputable def p (l0:((List (List UInt8))×Int)->Option Out) (a1:Arg):Option Out:=l0 (([]:List (List UInt8)),(0:Int))
theorem raw_eq (k:Nat) (a1:Arg):@Eq (Option Out) (D.W k a1) (p (r0 k a1) a1):=
 Eq.trans (b:=p (s0 k a1) a1) (by kernel_rfl) (by rw[s0_eq])
theorem ok:Ok prog 118 D.sig:=fd_ok func118 tlOk (by kernel_rfl) (fc impl_copied.ok (fn_nil _))
end impl_copies
namespace impl_deskOf
abbrev Arg:Type:=(List (List UInt8))×Unit
abbrev Out:Type:=L7Work×Unit
abbrev ps:PQ:=[(.ro,(.slc (.slc u8)))]
noncomputable def D:FD:={ fn:=f89,tl:=TL0,ps:=ps,rs:=[((.ptr tL7Work),(ownMd (.ptr tL7Work)))],gl:=[(118,impl_copies.D.sig)] }
noncomputable def sem (a:Arg):Option Out:=@lift Out fun k=>D.W k a
noncomputable def p (a1:Arg):Option Out:=(impl_copies.sem (a1.1,())).bind fun r2=>some ((r2.1,([]:List Edit),()),())
theorem raw_eq (k:Nat) (a1:Arg):@Eq (Option Out) (D.W k a1) (p a1):=by kernel_rfl
theorem ok:Ok prog 89 D.sig:=fd_ok func89 tlOk (by kernel_rfl) (fc impl_copies.ok (fn_nil _))
end impl_deskOf
namespace impl_desk_result
abbrev Arg:Type:=L7Work×Unit
abbrev Out:Type:=EditsResult×Unit
abbrev ps:PQ:=[(.eat (ownMd tL7Work),tL7Work)]
noncomputable def D:FD:={ fn:=f111,tl:=TL0,ps:=ps,rs:=[(tEditsResult,(ownMd tEditsResult))],fz:=[(1,3,7),(1,7,7)],od:=[(1,[0,1,2,3,4,5,6,7,8,9])] }
noncomputable def sem (a:Arg):Option Out:=@lift Out fun k=>D.W k a
noncomputable def p (a1:Arg):Option Out:=some (((0:Int),a1.1.2.1,a1.1.1,()),())
theorem raw_eq (k:Nat) (a1:Arg):@Eq (Option Out) (D.W k a1) (p a1):=by kernel_rfl
theorem ok:Ok prog 111 D.sig:=fd_ok func111 tlOk (by kernel_rfl) (fn_nil _)
end impl_desk_result
namespace impl_desk_done
abbrev Arg:Type:=L7Work×Bool×Unit
abbrev Out:Type:=EditsResult×Unit
abbrev ps:PQ:=[(.eat (ownMd tL7Work),tL7Work),(.ro,.bool)]
noncomputable def D:FD:={ fn:=f90,tl:=TL0,ps:=ps,rs:=[(tEditsResult,(ownMd tEditsResult))],gl:=[(111,impl_desk_result.D.sig)] }
noncomputable def sem (a:Arg):Option Out:=@lift Out fun k=>D.W k a
noncomputable def p (a1:Arg):Option Out:=bif !a1.2.1 then (some (((9:Int),([]:List Edit),([]:List (List UInt8)),()),())) else (impl_desk_result.sem (a1.1,())).bind fun r2=>some (r2.1,())
theorem raw_eq (k:Nat) (a1:Arg):@Eq (Option Out) (D.W k a1) (p a1):=by kernel_rfl
theorem ok:Ok prog 90 D.sig:=fd_ok func90 tlOk (by kernel_rfl) (fc impl_desk_result.ok (fn_nil _))
end impl_desk_done
namespace impl_cellFault
abbrev Arg:Type:=(List UInt8)×(List UInt8)×Unit
abbrev Out:Type:=Int×Unit
abbrev ps:PQ:=[(.ro,(.slc u8)),(.ro,(.slc u8))]
noncomputable def D:FD:={ fn:=f359,tl:=TL0,ps:=ps,rs:=[(i64,(roMd i64))],gl:=[(187,impl_PageFault.D.sig)] }
noncomputable def sem (a:Arg):Option Out:=@lift Out fun k=>D.W k a
noncomputable def p (a1:Arg):Option Out:=(impl_PageFault.sem (a1.1,())).bind fun r2=>bif !decide (r2.1=(0:Int)) then (some (r2.1,())) else bif decide ((a1.2.1.length:Int) < (1:Int)) then (some ((1:Int),())) else bif decide ((20:Int) < (a1.2.1.length:Int)) then (some ((1:Int),())) else some ((0:Int),())
theorem raw_eq (k:Nat) (a1:Arg):@Eq (Option Out) (D.W k a1) (p a1):=by kernel_rfl
theorem ok:Ok prog 359 D.sig:=fd_ok func359 tlOk (by kernel_rfl) (fc impl_PageFault.ok (fn_nil _))
end impl_cellFault
namespace impl_freeIn
abbrev Arg:Type:=(List UInt8)×Unit
abbrev Out:Type:=Int×Unit
abbrev ps:PQ:=[(.ro,(.slc u8))]
noncomputable def D:FD:={ fn:=f360,tl:=TL0,ps:=ps,rs:=[(i64,(roMd i64))],gl:=[(188,impl_slots.D.sig),(286,impl_spot.D.sig)],lv:=[(3,[0,3,12,13])],lx:=[(0,[3])] }
noncomputable def sem (a:Arg):Option Out:=@lift Out fun k=>D.W k a
noncomputable def T0 (a1:Arg) (c405:Int) (v404:Int×Int):St:={ n:=27,sl:=[(0,.val (.slc u8) a1.1),(3,.val i64 v404.1),(12,.val i64 c405),(13,.val i64 v404.2)],vr:=[],lent:=[] }
noncomputable def b0 (self:(Int×Int)->Option Out) (e0:Int->Option Out) (a1:Arg) (c405:Int) (v404:Int×Int):Option Out:=bif decide (v404.2 < c405) then ((impl_spot.sem (a1.1,v404.2,())).bind fun r606=>self (w64 (v404.1 - r606.2.1),w64 (v404.2+(1:Int)))) else e0 v404.1
noncomputable abbrev B0 (_:Nat):=b0
noncomputable def q0 (a1:Arg) (c405:Int) (z607:Int):Option Out:=some (z607,())
noncomputable abbrev Q0 (_:Nat):=q0
noncomputable def s0 (k:Nat) (a1:Arg):Int->(Int×Int)->Option Out:=fun c405=>fun v404=>D.L k [1,1,0,1,0,0] [0,3,12,13] [] (blockC 0 (seqC (D.N k [1,1,1]) D.K0)) (T0 a1 c405 v404)
noncomputable def r0 (k:Nat) (a1:Arg):Int->(Int×Int)->Option Out:=fun c405=>rawIter (fun w v=>B0 k w (Q0 k a1 c405) a1 c405 v) k
theorem s0_eq (k:Nat) (a1:Arg):s0 k a1=r0 k a1:=
 funext fun c405=>funext fun v404=>iter_raw _ _ _ (T0 a1 c405) _ (fun rec v=>by kernel_rfl) k v404
noncomputable def p (l0:Int->(Int×Int)->Option Out) (a1:Arg):Option Out:=(impl_slots.sem (a1.1,())).bind fun r2=>(impl_slots.sem (a1.1,())).bind fun r3=>l0 r3.1 (w64 ((62:Int) - (w64 ((2:Int)*r2.1))),(0:Int))
theorem raw_eq (k:Nat) (a1:Arg):@Eq (Option Out) (D.W k a1) (p (r0 k a1) a1):=
 Eq.trans (b:=p (s0 k a1) a1) (by kernel_rfl) (by rw[s0_eq])
theorem ok:Ok prog 360 D.sig:=fd_ok func360 tlOk (by kernel_rfl) (fc impl_slots.ok (fc impl_spot.ok (fn_nil _)))
end impl_freeIn
namespace impl_write
abbrev Arg:Type:=(List UInt8)×Int×Int×(List UInt8)×Unit
abbrev Out:Type:=(List UInt8)×Unit
abbrev ps:PQ:=[(.ro,(.slc u8)),(.ro,i64),(.ro,i64),(.ro,(.slc u8))]
noncomputable def D:FD:={ fn:=f361,tl:=TL0,ps:=ps,rs:=[((.slc u8),(ownMd (.slc u8)))],gl:=[(120,impl_copied.D.sig)] }
noncomputable def sem (a:Arg):Option Out:=@lift Out fun k=>D.W k a
noncomputable def p (a1:Arg):Option Out:=(impl_copied.sem (a1.1,())).bind fun r2=>if 0<=a1.2.2.1/\a1.2.2.1<=(r2.1.length:Int) then (let y3:=over r2.1 a1.2.2.1.toNat (min a1.2.2.2.1.length (r2.1.length - a1.2.2.1.toNat)) a1.2.2.2.1;if 0<=w64 ((2:Int)+(w64 ((2:Int)*a1.2.1)))/\w64 ((2:Int)+(w64 ((2:Int)*a1.2.1))) < (y3.length:Int) then ((y3[(w64 ((2:Int)+(w64 ((2:Int)*a1.2.1)))).toNat]?).bind fun x4=>let y5:=y3.set (w64 ((2:Int)+(w64 ((2:Int)*a1.2.1)))).toNat (UInt8.ofInt a1.2.2.1);if 0<=w64 ((3:Int)+(w64 ((2:Int)*a1.2.1)))/\w64 ((3:Int)+(w64 ((2:Int)*a1.2.1))) < (y5.length:Int) then ((y5[(w64 ((3:Int)+(w64 ((2:Int)*a1.2.1)))).toNat]?).bind fun x6=>let y7:=y5.set (w64 ((3:Int)+(w64 ((2:Int)*a1.2.1)))).toNat (UInt8.ofInt (a1.2.2.2.1.length:Int));some (y7,())) else none) else none) else none
theorem raw_eq (k:Nat) (a1:Arg):@Eq (Option Out) (D.W k a1) (p a1):=by kernel_rfl
theorem ok:Ok prog 361 D.sig:=fd_ok func361 tlOk (by kernel_rfl) (fc impl_copied.ok (fn_nil _))
end impl_write
namespace impl_PutSlot
abbrev Arg:Type:=(List UInt8)×(List UInt8)×Unit
abbrev Out:Type:=PageResult×Unit
abbrev ps:PQ:=[(.ro,(.slc u8)),(.ro,(.slc u8))]
noncomputable def D:FD:={ fn:=f289,tl:=TL0,ps:=ps,rs:=[(tPageResult,(ownMd tPageResult))],gl:=[(188,impl_slots.D.sig),(359,impl_cellFault.D.sig),(360,impl_freeIn.D.sig),(361,impl_write.D.sig)],lv:=[(6,[0,1,4,6,7])],lx:=[(0,[0,1,4,6,7])] }
noncomputable def sem (a:Arg):Option Out:=@lift Out fun k=>D.W k a
noncomputable def T0 (a1:Arg) (c405:Int) (v404:Int):St:={ n:=88,sl:=[(0,.val (.slc u8) a1.1),(1,.val (.slc u8) a1.2.1),(4,.box tPageResult (ownMd tPageResult) [] ((0:Int),(0:Int),([]:List UInt8),())),(6,.val i64 c405),(7,.val i64 v404)],vr:=[],lent:=[] }
noncomputable def b0 (self:Int->Option Out) (e0:Int->Option Out) (a1:Arg) (c405:Int) (v404:Int):Option Out:=bif decide (v404 < c405) then (if 0<=w64 ((3:Int)+(w64 ((2:Int)*v404))) then ((a1.1[(w64 ((3:Int)+(w64 ((2:Int)*v404)))).toNat]?).bind fun x606=>bif !decide ((x606.toNat:Int)=(0:Int)) then (self (w64 (v404+(1:Int)))) else e0 v404) else none) else e0 v404
noncomputable abbrev B0 (_:Nat):=b0
noncomputable def q0 (a1:Arg) (c405:Int) (z607:Int):Option Out:=let j616:=fun (p615:Int)=>((impl_freeIn.sem (a1.1,())).bind fun r617=>bif decide (r617.1 < w64 ((a1.2.1.length:Int)+p615)) then (some (((9:Int),(0:Int),([]:List UInt8),()),())) else (a1.1[1]?).bind fun x618=>bif decide (w64 ((w64 (x618.toNat:Int)) - (w64 ((w64 ((2:Int)+(w64 ((2:Int)*c405))))+p615))) < (a1.2.1.length:Int)) then (some (((8:Int),(0:Int),([]:List UInt8),()),())) else (impl_write.sem (a1.1,z607,w64 ((w64 (x618.toNat:Int)) - (a1.2.1.length:Int)),a1.2.1,())).bind fun r619=>if 0<=(0:Int)/\(0:Int) < (r619.1.length:Int) then ((r619.1[0]?).bind fun x620=>let y621:=r619.1.set 0 (UInt8.ofInt (w64 (c405+(w64 (p615.tdiv (2:Int))))));if 0<=(1:Int)/\(1:Int) < (y621.length:Int) then ((y621[1]?).bind fun x622=>let y623:=y621.set 1 (UInt8.ofInt (w64 ((w64 (x618.toNat:Int)) - (a1.2.1.length:Int))));some (((0:Int),z607,y623,()),())) else none) else none:Option Out);bif decide (z607=c405) then (bif decide (c405=(16:Int)) then (some (((2:Int),(0:Int),([]:List UInt8),()),())) else j616 (2:Int)) else j616 (0:Int)
noncomputable abbrev Q0 (_:Nat):=q0
noncomputable def s0 (k:Nat) (a1:Arg):Int->(Int)->Option Out:=fun c405=>fun v404=>D.L k [1,1,1,1,0,0,0] [0,1,4,6,7] [] (blockC 0 (seqC (D.N k [1,1,1,1,1]) D.K0)) (T0 a1 c405 v404)
noncomputable def r0 (k:Nat) (a1:Arg):Int->(Int)->Option Out:=fun c405=>rawIter (fun w v=>B0 k w (Q0 k a1 c405) a1 c405 v) k
theorem s0_eq (k:Nat) (a1:Arg):s0 k a1=r0 k a1:=
 funext fun c405=>funext fun v404=>iter_raw _ _ _ (T0 a1 c405) _ (fun rec v=>by kernel_rfl) k v404
noncomputable def p (l0:Int->(Int)->Option Out) (a1:Arg):Option Out:=(impl_cellFault.sem (a1.1,a1.2.1,())).bind fun r2=>bif !decide (r2.1=(0:Int)) then (some ((r2.1,(0:Int),([]:List UInt8),()),())) else (impl_slots.sem (a1.1,())).bind fun r3=>l0 r3.1 (0:Int)
theorem raw_eq (k:Nat) (a1:Arg):@Eq (Option Out) (D.W k a1) (p (r0 k a1) a1):=
 Eq.trans (b:=p (s0 k a1) a1) (by kernel_rfl) (by rw[s0_eq])
theorem ok:Ok prog 289 D.sig:=fd_ok func289 tlOk (by kernel_rfl) (fc impl_slots.ok (fc impl_cellFault.ok (fc impl_freeIn.ok (fc impl_write.ok (fn_nil _)))))
end impl_PutSlot
namespace impl_desk_edit
abbrev Arg:Type:=L7Work×Int×(List UInt8)×Unit
abbrev Out:Type:=L7Work×Unit
abbrev ps:PQ:=[(.mutp (ownMd tL7Work),tL7Work),(.ro,i64),(.ro,(.slc u8))]
noncomputable def D:FD:={ fn:=f291,tl:=TL0,ps:=ps,rs:=[],gl:=[(120,impl_copied.D.sig)],es:=[0],od:=[(1,[0,1,2,3,4,5,6,7,8,9,10,11]),(2,[0,1,2,3,4,5,6,7,8,9,10]),(3,[0,1,2,3,4,5,6,7,8]),(4,[0,1,2,3,4,5,6,7,8,9,10,11,12,13])] }
noncomputable def sem (a:Arg):Option Out:=@lift Out fun k=>D.W k a
noncomputable def p (a1:Arg):Option Out:=let j9:=fun (p8:L7Work)=>((impl_copied.sem (a1.2.2.1,())).bind fun r10=>if p8.2.1.length+[(a1.2.1,r10.1,())].length<=CAP then (some ((p8.1,p8.2.1++[(a1.2.1,r10.1,())],p8.2.2),())) else none:Option Out);bif decide (a1.2.1=(a1.1.1.length:Int)) then ((impl_copied.sem (a1.2.2.1,())).bind fun r2=>if a1.1.1.length+[r2.1].length<=CAP then (j9 (a1.1.1++[r2.1],a1.1.2)) else none) else if 0<=a1.2.1/\a1.2.1 < (a1.1.1.length:Int) then ((a1.1.1[a1.2.1.toNat]?).bind fun x3=>(a1.1.1[a1.2.1.toNat]?).bind fun x4=>bif decide (x4=a1.2.2.1) then (some (a1.1,())) else (impl_copied.sem (a1.2.2.1,())).bind fun r5=>if 0<=a1.2.1/\a1.2.1 < (a1.1.1.length:Int) then ((a1.1.1[a1.2.1.toNat]?).bind fun x6=>j9 (a1.1.1.set a1.2.1.toNat r5.1,a1.1.2)) else none) else none
theorem raw_eq (k:Nat) (a1:Arg):@Eq (Option Out) (D.W k a1) (p a1):=by kernel_rfl
theorem ok:Ok prog 291 D.sig:=fd_ok func291 tlOk (by kernel_rfl) (fc impl_copied.ok (fn_nil _))
end impl_desk_edit
namespace impl_CompactPage
abbrev Arg:Type:=(List UInt8)×Unit
abbrev Out:Type:=PageResult×Unit
abbrev ps:PQ:=[(.ro,(.slc u8))]
noncomputable def D:FD:={ fn:=f362,tl:=TL0,ps:=ps,rs:=[(tPageResult,(ownMd tPageResult))],gl:=[(187,impl_PageFault.D.sig),(188,impl_slots.D.sig),(189,impl_hasSlot.D.sig),(191,impl_cellAt.D.sig)],lv:=[(9,[0,2,5,6,25,26])],lx:=[(0,[2,5,6]),(1,[0,2,5,6,25,26])] }
noncomputable def sem (a:Arg):Option Out:=@lift Out fun k=>D.W k a
noncomputable def T0 (a1:Arg) (c406:Int) (v405:(List UInt8)×Int×Int):St:={ n:=59,sl:=[(0,.val (.slc u8) a1.1),(2,.box tPageResult (ownMd tPageResult) [] ((0:Int),(0:Int),([]:List UInt8),())),(5,.own (.slc u8) (ownMd (.slc u8)) [] v405.1),(6,.val i64 v405.2.1),(25,.val i64 c406),(26,.val i64 v405.2.2)],vr:=[],lent:=[] }
noncomputable def b0 (self:((List UInt8)×Int×Int)->Option Out) (e0:((List UInt8)×Int)->Option Out) (a1:Arg) (c406:Int) (v405:(List UInt8)×Int×Int):Option Out:=bif decide (v405.2.2 < c406) then ((impl_hasSlot.sem (a1.1,v405.2.2,())).bind fun r607=>bif !r607.1 then (self (v405.1,v405.2.1,w64 (v405.2.2+(1:Int)))) else (impl_cellAt.sem (a1.1,v405.2.2,())).bind fun r608=>if 0<=w64 (v405.2.1 - (r608.1.length:Int))/\w64 (v405.2.1 - (r608.1.length:Int))<=(v405.1.length:Int) then (let y609:=over v405.1 (w64 (v405.2.1 - (r608.1.length:Int))).toNat (min r608.1.length (v405.1.length - (w64 (v405.2.1 - (r608.1.length:Int))).toNat)) r608.1;if 0<=w64 ((2:Int)+(w64 ((2:Int)*v405.2.2)))/\w64 ((2:Int)+(w64 ((2:Int)*v405.2.2))) < (y609.length:Int) then ((y609[(w64 ((2:Int)+(w64 ((2:Int)*v405.2.2)))).toNat]?).bind fun x610=>let y611:=y609.set (w64 ((2:Int)+(w64 ((2:Int)*v405.2.2)))).toNat (UInt8.ofInt (w64 (v405.2.1 - (r608.1.length:Int))));self (y611,w64 (v405.2.1 - (r608.1.length:Int)),w64 (v405.2.2+(1:Int)))) else none) else none) else e0 (v405.1,v405.2.1)
noncomputable abbrev B0 (_:Nat):=b0
noncomputable def q0 (a1:Arg) (c406:Int) (z612:((List UInt8)×Int)):Option Out:=if 0<=(1:Int)/\(1:Int) < (z612.1.length:Int) then ((z612.1[1]?).bind fun x613=>some (((0:Int),(0:Int),z612.1.set 1 (UInt8.ofInt z612.2),()),())) else none
noncomputable abbrev Q0 (_:Nat):=q0
noncomputable def s0 (k:Nat) (a1:Arg):Int->((List UInt8)×Int×Int)->Option Out:=fun c406=>fun v405=>D.L k [1,1,1,1,1,1,0,1,0,0] [0,2,5,6,25,26] [] (blockC 0 (seqC (D.N k [1,1,1,1,1,1,1]) D.K0)) (T0 a1 c406 v405)
noncomputable def r0 (k:Nat) (a1:Arg):Int->((List UInt8)×Int×Int)->Option Out:=fun c406=>rawIter (fun w v=>B0 k w (Q0 k a1 c406) a1 c406 v) k
theorem s0_eq (k:Nat) (a1:Arg):s0 k a1=r0 k a1:=
 funext fun c406=>funext fun v405=>iter_raw _ _ _ (T0 a1 c406) _ (fun rec v=>by kernel_rfl) k v405
noncomputable def p (l0:Int->((List UInt8)×Int×Int)->Option Out) (a1:Arg):Option Out:=(impl_PageFault.sem (a1.1,())).bind fun r2=>bif !decide (r2.1=(0:Int)) then (some ((r2.1,(0:Int),([]:List UInt8),()),())) else (impl_slots.sem (a1.1,())).bind fun r3=>if 0<=(64:Int)/\(64:Int)<=(64:Int)/\(64:Int)<=(CAP:Int) then (if 0<=w64 ((2:Int)+(w64 ((2:Int)*r3.1)))/\w64 ((2:Int)+(w64 ((2:Int)*r3.1)))<=(a1.1.length:Int) then (let y4:=over (List.replicate 64 (0:UInt8)) 0 (min ((a1.1.take (w64 ((2:Int)+(w64 ((2:Int)*r3.1)))).toNat).drop 0).length (List.replicate 64 (0:UInt8)).length) ((a1.1.take (w64 ((2:Int)+(w64 ((2:Int)*r3.1)))).toNat).drop 0);l0 r3.1 (y4,(64:Int),(0:Int))) else none) else none
theorem raw_eq (k:Nat) (a1:Arg):@Eq (Option Out) (D.W k a1) (p (r0 k a1) a1):=
 Eq.trans (b:=p (s0 k a1) a1) (by kernel_rfl) (by rw[s0_eq])
theorem ok:Ok prog 362 D.sig:=fd_ok func362 tlOk (by kernel_rfl) (fc impl_PageFault.ok (fc impl_slots.ok (fc impl_hasSlot.ok (fc impl_cellAt.ok (fn_nil _)))))
end impl_CompactPage
namespace impl_desk_compact
abbrev Arg:Type:=L7Work×Int×Unit
abbrev Out:Type:=L7Work×Unit
abbrev ps:PQ:=[(.mutp (ownMd tL7Work),tL7Work),(.ro,i64)]
noncomputable def D:FD:={ fn:=f290,tl:=TL0,ps:=ps,rs:=[],gl:=[(291,impl_desk_edit.D.sig),(362,impl_CompactPage.D.sig)],es:=[0] }
noncomputable def sem (a:Arg):Option Out:=@lift Out fun k=>D.W k a
noncomputable def p (a1:Arg):Option Out:=if 0<=a1.2.1/\a1.2.1 < (a1.1.1.length:Int) then ((a1.1.1[a1.2.1.toNat]?).bind fun x2=>(a1.1.1[a1.2.1.toNat]?).bind fun x3=>(impl_CompactPage.sem (x3,())).bind fun r4=>(impl_desk_edit.sem (a1.1,a1.2.1,r4.1.2.2.1,())).bind fun r5=>some (r5.1,())) else none
theorem raw_eq (k:Nat) (a1:Arg):@Eq (Option Out) (D.W k a1) (p a1):=by kernel_rfl
theorem ok:Ok prog 290 D.sig:=fd_ok func290 tlOk (by kernel_rfl) (fc impl_desk_edit.ok (fc impl_CompactPage.ok (fn_nil _)))
end impl_desk_compact
namespace impl_newPage
abbrev Arg:Type:=UInt8×Unit
abbrev Out:Type:=(List UInt8)×Unit
abbrev ps:PQ:=[(.ro,u8)]
noncomputable def D:FD:={ fn:=f292,tl:=TL0,ps:=ps,rs:=[((.slc u8),(ownMd (.slc u8)))],lv:=[(3,[0,3,7,8])],lx:=[(0,[3])] }
noncomputable def sem (a:Arg):Option Out:=@lift Out fun k=>D.W k a
noncomputable def T0 (a1:Arg) (v402:(List UInt8)×Int):St:={ n:=21,sl:=[(0,.val u8 a1.1),(3,.own (.slc u8) (ownMd (.slc u8)) [] v402.1),(7,.val i64 ((List.replicate 64 (0:UInt8)).length:Int)),(8,.val i64 v402.2)],vr:=[],lent:=[] }
noncomputable def b0 (self:((List UInt8)×Int)->Option Out) (e0:(List UInt8)->Option Out) (a1:Arg) (v402:(List UInt8)×Int):Option Out:=bif decide (v402.2 < ((List.replicate 64 (0:UInt8)).length:Int)) then (if 0<=v402.2/\v402.2 < (v402.1.length:Int) then ((v402.1[v402.2.toNat]?).bind fun x603=>self (v402.1.set v402.2.toNat a1.1,w64 (v402.2+(1:Int)))) else none) else e0 v402.1
noncomputable abbrev B0 (_:Nat):=b0
noncomputable def q0 (a1:Arg) (z604:(List UInt8)):Option Out:=if 0<=(0:Int)/\(0:Int) < (z604.length:Int) then ((z604[0]?).bind fun x605=>if 0<=(1:Int)/\(1:Int) < ((z604.set 0 (0:UInt8)).length:Int) then (((z604.set 0 (0:UInt8))[1]?).bind fun x606=>let y607:=(z604.set 0 (0:UInt8)).set 1 (64:UInt8);some (y607,())) else none) else none
noncomputable abbrev Q0 (_:Nat):=q0
noncomputable def s0 (k:Nat) (a1:Arg):((List UInt8)×Int)->Option Out:=fun v402=>D.L k [1,1,0,1,0,0] [0,3,7,8] [] (blockC 0 (seqC (D.N k [1,1,1]) D.K0)) (T0 a1 v402)
noncomputable def r0 (k:Nat) (a1:Arg):((List UInt8)×Int)->Option Out:=rawIter (fun w v=>B0 k w (Q0 k a1) a1 v) k
theorem s0_eq (k:Nat) (a1:Arg):s0 k a1=r0 k a1:=
 funext fun v402=>iter_raw _ _ _ (T0 a1) _ (fun rec v=>by kernel_rfl) k v402
noncomputable def p (l0:((List UInt8)×Int)->Option Out) (a1:Arg):Option Out:=if 0<=(64:Int)/\(64:Int)<=(64:Int)/\(64:Int)<=(CAP:Int) then (l0 (List.replicate 64 (0:UInt8),(0:Int))) else none
theorem raw_eq (k:Nat) (a1:Arg):@Eq (Option Out) (D.W k a1) (p (r0 k a1) a1):=
 Eq.trans (b:=p (s0 k a1) a1) (by kernel_rfl) (by rw[s0_eq])
theorem ok:Ok prog 292 D.sig:=fd_ok func292 tlOk (by kernel_rfl) (fn_nil _)
end impl_newPage
namespace impl_desk_place
abbrev Arg:Type:=L7Work×(List UInt8)×Int×Unit
abbrev Out:Type:=Int×Int×Bool×L7Work×Unit
abbrev ps:PQ:=[(.mutp (ownMd tL7Work),tL7Work),(.ro,(.slc u8)),(.ro,i64)]
noncomputable def D:FD:={ fn:=f193,tl:=TL0,ps:=ps,rs:=[(i64,(roMd i64)),(i64,(roMd i64)),(.bool,(roMd .bool))],gl:=[(289,impl_PutSlot.D.sig),(290,impl_desk_compact.D.sig),(291,impl_desk_edit.D.sig),(292,impl_newPage.D.sig)],es:=[0],lv:=[(2,[0,1,2,16,17])],lx:=[(0,[0,1]),(1,[0,1,2,16,17])],od:=[(11,[0,1,2,3,4,5]),(16,[0,1,2,3,4,5,6,7,8]),(17,[0,1,2,3,4,5,6,7,8,9,10])] }
noncomputable def sem (a:Arg):Option Out:=@lift Out fun k=>D.W k a
noncomputable def T0 (a1:Arg) (v402:L7Work×Int):St:={ n:=85,sl:=[(0,.box tL7Work (ownMd tL7Work) [] v402.1),(1,.val (.slc u8) a1.2.1),(2,.val i64 a1.2.2.1),(16,.val i64 (a1.1.1.length:Int)),(17,.val i64 v402.2)],vr:=[],lent:=[(0,0,false)] }
noncomputable def b0 (self:(L7Work×Int)->Option Out) (e0:L7Work->Option Out) (a1:Arg) (v402:L7Work×Int):Option Out:=bif decide (v402.2 < (a1.1.1.length:Int)) then (bif decide (v402.2=a1.2.2.1) then (self (v402.1,w64 (v402.2+(1:Int)))) else if 0<=v402.2/\v402.2 < (v402.1.1.length:Int) then ((v402.1.1[v402.2.toNat]?).bind fun x603=>(v402.1.1[v402.2.toNat]?).bind fun x604=>(impl_PutSlot.sem (x604,a1.2.1,())).bind fun r605=>let j613:=fun (p611:L7Work) (p612:PageResult)=>(bif decide (p612.1=(0:Int)) then ((impl_desk_edit.sem (p611,v402.2,p612.2.2.1,())).bind fun r614=>some (v402.2,p612.2.1,true,r614.1,())) else self (p611,w64 (v402.2+(1:Int))):Option Out);bif decide (r605.1.1=(8:Int)) then ((impl_desk_compact.sem (v402.1,v402.2,())).bind fun r606=>if 0<=v402.2/\v402.2 < (r606.1.1.length:Int) then ((r606.1.1[v402.2.toNat]?).bind fun x607=>(r606.1.1[v402.2.toNat]?).bind fun x608=>(impl_PutSlot.sem (x608,a1.2.1,())).bind fun r609=>j613 r606.1 r609.1) else none) else j613 v402.1 r605.1) else none) else e0 v402.1
noncomputable abbrev B0 (_:Nat):=b0
noncomputable def q0 (a1:Arg) (z615:L7Work):Option Out:=bif decide ((z615.1.length:Int)=(12:Int)) then (some ((0:Int),(0:Int),false,z615,())) else (impl_newPage.sem ((0:UInt8),())).bind fun r616=>(impl_PutSlot.sem (r616.1,a1.2.1,())).bind fun r617=>(impl_desk_edit.sem (z615,(z615.1.length:Int),r617.1.2.2.1,())).bind fun r618=>some (w64 ((r618.1.1.length:Int) - (1:Int)),r617.1.2.1,true,r618.1,())
noncomputable abbrev Q0 (_:Nat):=q0
noncomputable def s0 (k:Nat) (a1:Arg):(L7Work×Int)->Option Out:=fun v402=>D.L k [1,0,1,0,0] [0,1,2,16,17] [] (blockC 0 (seqC (D.N k [1,1]) D.K0)) (T0 a1 v402)
noncomputable def r0 (k:Nat) (a1:Arg):(L7Work×Int)->Option Out:=rawIter (fun w v=>B0 k w (Q0 k a1) a1 v) k
theorem s0_eq (k:Nat) (a1:Arg):s0 k a1=r0 k a1:=
 funext fun v402=>iter_raw _ _ _ (T0 a1) _ (fun rec v=>by kernel_rfl) k v402
noncomputable def p (l0:(L7Work×Int)->Option Out) (a1:Arg):Option Out:=l0 (a1.1,(0:Int))
theorem raw_eq (k:Nat) (a1:Arg):@Eq (Option Out) (D.W k a1) (p (r0 k a1) a1):=
 Eq.trans (b:=p (s0 k a1) a1) (by kernel_rfl) (by rw[s0_eq])
theorem ok:Ok prog 193 D.sig:=fd_ok func193 tlOk (by kernel_rfl) (fc impl_PutSlot.ok (fc impl_desk_compact.ok (fc impl_desk_edit.ok (fc impl_newPage.ok (fn_nil _)))))
end impl_desk_place
namespace impl_cell
abbrev Arg:Type:=Int×Row×Unit
abbrev Out:Type:=(List UInt8)×Unit
abbrev ps:PQ:=[(.ro,i64),(.ro,tRow)]
noncomputable def D:FD:={ fn:=f194,tl:=TL0,ps:=ps,rs:=[((.slc u8),(ownMd (.slc u8)))] }
noncomputable def sem (a:Arg):Option Out:=@lift Out fun k=>D.W k a
noncomputable def p (a1:Arg):Option Out:=if [UInt8.ofInt a1.1,UInt8.ofInt a1.2.1.1,UInt8.ofInt a1.2.1.2.1,UInt8.ofInt (a1.2.1.2.2.1.fdiv (2 ^ 8)),UInt8.ofInt a1.2.1.2.2.1,UInt8.ofInt (a1.2.1.2.2.2.1.length:Int)].length+a1.2.1.2.2.2.1.length<=CAP then (let y2:=[UInt8.ofInt a1.1,UInt8.ofInt a1.2.1.1,UInt8.ofInt a1.2.1.2.1,UInt8.ofInt (a1.2.1.2.2.1.fdiv (2 ^ 8)),UInt8.ofInt a1.2.1.2.2.1,UInt8.ofInt (a1.2.1.2.2.2.1.length:Int)]++a1.2.1.2.2.2.1;some (y2,())) else none
theorem raw_eq (k:Nat) (a1:Arg):@Eq (Option Out) (D.W k a1) (p a1):=by kernel_rfl
theorem ok:Ok prog 194 D.sig:=fd_ok func194 tlOk (by kernel_rfl) (fn_nil _)
end impl_cell
namespace spec_l2Slot
abbrev Arg:Type:=(List UInt8)×Int×Unit
abbrev Out:Type:=Bool×Unit
abbrev ps:PQ:=[(.ro,(.slc u8)),(.ro,i64)]
noncomputable def D:FD:={ fn:=f363,tl:=TL0,ps:=ps,rs:=[(.bool,(roMd .bool))],gl:=[(295,spec_l2Size.D.sig),(355,spec_l2Low.D.sig),(366,spec_l2Place.D.sig)] }
noncomputable def sem (a:Arg):Option Out:=@lift Out fun k=>D.W k a
noncomputable def p (a1:Arg):Option Out:=(spec_l2Place.sem (a1.1,a1.2.1,())).bind fun r2=>(spec_l2Size.sem (a1.1,a1.2.1,())).bind fun r3=>bif decide (r2.1=(0:Int)) then (some (decide (r2.1=r3.1),())) else bif decide (r3.1=(0:Int)) then (some (decide (r2.1=r3.1),())) else (spec_l2Low.sem (a1.1,())).bind fun r4=>bif decide (r4.1<=r2.1) then (some (decide (w64 (r2.1+r3.1)<=(64:Int)),())) else some (false,())
theorem raw_eq (k:Nat) (a1:Arg):@Eq (Option Out) (D.W k a1) (p a1):=by kernel_rfl
theorem ok:Ok prog 363 D.sig:=fd_ok func363 tlOk (by kernel_rfl) (fc spec_l2Size.ok (fc spec_l2Low.ok (fc spec_l2Place.ok (fn_nil _))))
end spec_l2Slot
namespace spec_l2Apart
abbrev Arg:Type:=(List UInt8)×Int×Int×Unit
abbrev Out:Type:=Bool×Unit
abbrev ps:PQ:=[(.ro,(.slc u8)),(.ro,i64),(.ro,i64)]
noncomputable def D:FD:={ fn:=f364,tl:=TL0,ps:=ps,rs:=[(.bool,(roMd .bool))],gl:=[(295,spec_l2Size.D.sig),(366,spec_l2Place.D.sig)] }
noncomputable def sem (a:Arg):Option Out:=@lift Out fun k=>D.W k a
noncomputable def p (a1:Arg):Option Out:=(spec_l2Size.sem (a1.1,a1.2.1,())).bind fun r2=>bif decide (r2.1=(0:Int)) then (some (true,())) else (spec_l2Size.sem (a1.1,a1.2.2.1,())).bind fun r3=>bif decide (r3.1=(0:Int)) then (some (true,())) else (spec_l2Place.sem (a1.1,a1.2.1,())).bind fun r4=>(spec_l2Size.sem (a1.1,a1.2.1,())).bind fun r5=>(spec_l2Place.sem (a1.1,a1.2.2.1,())).bind fun r6=>bif decide (w64 (r4.1+r5.1)<=r6.1) then (some (true,())) else (spec_l2Place.sem (a1.1,a1.2.2.1,())).bind fun r7=>(spec_l2Size.sem (a1.1,a1.2.2.1,())).bind fun r8=>(spec_l2Place.sem (a1.1,a1.2.1,())).bind fun r9=>some (decide (w64 (r7.1+r8.1)<=r9.1),())
theorem raw_eq (k:Nat) (a1:Arg):@Eq (Option Out) (D.W k a1) (p a1):=by kernel_rfl
theorem ok:Ok prog 364 D.sig:=fd_ok func364 tlOk (by kernel_rfl) (fc spec_l2Size.ok (fc spec_l2Place.ok (fn_nil _)))
end spec_l2Apart
namespace spec_l2Fault
abbrev Arg:Type:=(List UInt8)×Unit
abbrev Out:Type:=Int×Unit
abbrev ps:PQ:=[(.ro,(.slc u8))]
noncomputable def D:FD:={ fn:=f293,tl:=TL0,ps:=ps,rs:=[(i64,(roMd i64))],gl:=[(294,spec_l2Count.D.sig),(295,spec_l2Size.D.sig),(355,spec_l2Low.D.sig),(363,spec_l2Slot.D.sig),(364,spec_l2Apart.D.sig)],lv:=[(7,[0,3,4]),(12,[0,3,5]),(15,[0,3,5,6])],lx:=[(0,[0,3]),(2,[0,3]),(4,[0,3,5])] }
noncomputable def sem (a:Arg):Option Out:=@lift Out fun k=>D.W k a
noncomputable def T0 (a1:Arg) (c406:Int) (v405:Int):St:={ n:=60,sl:=[(0,.val (.slc u8) a1.1),(3,.val i64 c406),(4,.val i64 v405)],vr:=[],lent:=[] }
noncomputable def S0 (rec:RT Out) (a1:Arg) (c406:Int):(Int)->Option Out:=fun v405=>rec (T0 a1 c406 v405)
noncomputable def X0_0 (K:KT Out) (a1:Arg) (c406:Int):(Unit)->Option Out:=fun z=>K (.exit 0) ({ n:=60,sl:=[(0,.val (.slc u8) a1.1),(3,.val i64 c406)],vr:=[],lent:=[] })
noncomputable def b0 (self:Int->Option Out) (e0:(Unit)->Option Out) (a1:Arg) (c406:Int) (v405:Int):Option Out:=bif decide (v405 < c406) then ((spec_l2Slot.sem (a1.1,v405,())).bind fun r607=>bif !r607.1 then (some ((3:Int),())) else self (w64 (v405+(1:Int)))) else e0 ()
noncomputable abbrev B0 (_:Nat):=b0
theorem B0_eq (k:Nat) (rec:RT Out) (K:KT Out) (a1:Arg) (c406:Int) (v405:Int):D.N k [1,1,1,1,0,1,0,0] (T0 a1 c406 v405) (loopC rec (keepF [0,3,4] []) K)=b0 (S0 rec a1 c406) (X0_0 K a1 c406) a1 c406 v405:=by kernel_rfl
noncomputable def T1 (a1:Arg) (v1009:(List UInt8)×Int×Int):St:={ n:=60,sl:=[(0,.val (.slc u8) v1009.1),(3,.val i64 v1009.2.1),(5,.val i64 v1009.2.2)],vr:=[],lent:=[] }
noncomputable def S1 (rec:RT Out) (a1:Arg):((List UInt8)×Int×Int)->Option Out:=fun v1009=>rec (T1 a1 v1009)
noncomputable def X1_2 (K:KT Out) (a1:Arg):((List UInt8)×Int)->Option Out:=fun z=>K (.exit 2) ({ n:=60,sl:=[(0,.val (.slc u8) z.1),(3,.val i64 z.2)],vr:=[],lent:=[] })
noncomputable def T2 (a1:Arg) (c1611:List UInt8) (c1612:Int) (c1613:Int) (v1610:Int):St:={ n:=60,sl:=[(0,.val (.slc u8) c1611),(3,.val i64 c1612),(5,.val i64 c1613),(6,.val i64 v1610)],vr:=[],lent:=[] }
noncomputable def b2 (self:Int->Option Out) (e4:(Unit)->Option Out) (a1:Arg) (c1611:List UInt8) (c1612:Int) (c1613:Int) (v1610:Int):Option Out:=bif decide (v1610 < c1613) then ((spec_l2Apart.sem (c1611,c1613,v1610,())).bind fun r1814=>bif !r1814.1 then (some ((8:Int),())) else self (w64 (v1610+(1:Int)))) else e4 ()
noncomputable abbrev B2 (_:Nat):=b2
noncomputable def q1 (self:((List UInt8)×Int×Int)->Option Out) (e2:((List UInt8)×Int)->Option Out) (a1:Arg) (c1611:List UInt8) (c1612:Int) (c1613:Int) (z1815:(Unit)):Option Out:=self (c1611,c1612,w64 (c1613+(1:Int)))
noncomputable abbrev Q1 (_:Nat):=q1
noncomputable def s2 (k:Nat) (rec:RT Out) (K:KT Out) (a1:Arg):(List UInt8)->Int->Int->(Int)->Option Out:=fun c1611 c1612 c1613=>fun v1610=>D.L k [1,1,1,1,1,0,1,0,0,1,0,0,1,0,0] [0,3,5,6] [] (blockC 4 (blockC 3 (seqC (D.N k [1,1,1,1,1,0,1,0,0,1,1]) (loopC rec (keepF [0,3,5] []) K)))) (T2 a1 c1611 c1612 c1613 v1610)
noncomputable def r2 (k:Nat) (self:((List UInt8)×Int×Int)->Option Out) (e2:((List UInt8)×Int)->Option Out) (a1:Arg):(List UInt8)->Int->Int->(Int)->Option Out:=fun c1611 c1612 c1613=>rawIter (fun w v=>B2 k w (Q1 k self e2 a1 c1611 c1612 c1613) a1 c1611 c1612 c1613 v) k
theorem s2_eq (k:Nat) (rec:RT Out) (K:KT Out) (a1:Arg):s2 k rec K a1=r2 k (S1 rec a1) (X1_2 K a1) a1:=
 funext fun c1611=>funext fun c1612=>funext fun c1613=>funext fun v1610=>iter_raw _ _ _ (T2 a1 c1611 c1612 c1613) _ (fun rec v=>by kernel_rfl) k v1610
noncomputable def b1 (self:((List UInt8)×Int×Int)->Option Out) (e2:((List UInt8)×Int)->Option Out) (l2:(List UInt8)->Int->Int->(Int)->Option Out) (a1:Arg) (v1009:(List UInt8)×Int×Int):Option Out:=bif decide (v1009.2.2 < v1009.2.1) then (l2 v1009.1 v1009.2.1 v1009.2.2 (0:Int)) else e2 (v1009.1,v1009.2.1)
noncomputable def B1 (k:Nat) (self:((List UInt8)×Int×Int)->Option Out) (e2:((List UInt8)×Int)->Option Out) (a1:Arg) (v1009:(List UInt8)×Int×Int):Option Out:=b1 self e2 (r2 k self e2 a1) a1 v1009
theorem B1_eq (k:Nat) (rec:RT Out) (K:KT Out) (a1:Arg) (v1009:(List UInt8)×Int×Int):D.N k [1,1,1,1,1,0,1,0,0] (T1 a1 v1009) (loopC rec (keepF [0,3,5] []) K)=B1 k (S1 rec a1) (X1_2 K a1) a1 v1009:=
 Eq.trans (b:=b1 (S1 rec a1) (X1_2 K a1) (s2 k rec K a1) a1 v1009) (by kernel_rfl) (by rw[s2_eq];rfl)
noncomputable def q2 (a1:Arg) (z1816:((List UInt8)×Int)):Option Out:=bif decide ((0:Int) < z1816.2) then ((spec_l2Size.sem (z1816.1,w64 (z1816.2 - (1:Int)),())).bind fun r1817=>bif decide (r1817.1=(0:Int)) then (some ((8:Int),())) else some ((0:Int),())) else some ((0:Int),())
noncomputable abbrev Q2 (_:Nat):=q2
theorem Q2_eq (k:Nat) (a1:Arg) (z1816:((List UInt8)×Int)):X1_2 (blockC 2 (seqC (D.N k [1,1,1,1,1,1]) D.K0)) a1 z1816=q2 a1 z1816:=by kernel_rfl
noncomputable def s1 (k:Nat) (a1:Arg) (c406:Int):((List UInt8)×Int×Int)->Option Out:=fun v1009=>D.L k [1,1,1,1,1,0,1,0,0] [0,3,5] [] (blockC 2 (seqC (D.N k [1,1,1,1,1,1]) D.K0)) (T1 a1 v1009)
noncomputable def r1 (k:Nat) (a1:Arg) (c406:Int):((List UInt8)×Int×Int)->Option Out:=rawIter (fun w v=>B1 k w (Q2 k a1) a1 v) k
theorem s1_eq (k:Nat) (a1:Arg) (c406:Int):s1 k a1 c406=r1 k a1 c406:=by
 funext v1009;
 have h2:X1_2 (blockC 2 (seqC (D.N k [1,1,1,1,1,1]) D.K0)) a1=Q2 k a1:=funext fun z=>Q2_eq k a1 z
 refine (iter_raw _ _ _ (T1 a1) (fun self v=>B1 k self (X1_2 (blockC 2 (seqC (D.N k [1,1,1,1,1,1]) D.K0)) a1) a1 v) (fun rec v=>B1_eq k rec (blockC 2 (seqC (D.N k [1,1,1,1,1,1]) D.K0)) a1 v) k v1009).trans ?_
 rw[h2]
 rfl
noncomputable def q0 (l1:((List UInt8)×Int×Int)->Option Out) (a1:Arg) (c406:Int) (z608:(Unit)):Option Out:=l1 (a1.1,c406,(0:Int))
noncomputable def Q0 (k:Nat) (a1:Arg) (c406:Int) (z608:(Unit)):Option Out:=q0 (r1 k a1 c406) a1 c406 z608
theorem Q0_eq (k:Nat) (a1:Arg) (c406:Int) (z608:(Unit)):X0_0 (blockC 0 (seqC (D.N k [1,1,1,1,1]) D.K0)) a1 c406 z608=Q0 k a1 c406 z608:=
 Eq.trans (b:=q0 (s1 k a1 c406) a1 c406 z608) (by kernel_rfl) (by rw[s1_eq];rfl)
noncomputable def s0 (k:Nat) (a1:Arg):Int->(Int)->Option Out:=fun c406=>fun v405=>D.L k [1,1,1,1,0,1,0,0] [0,3,4] [] (blockC 0 (seqC (D.N k [1,1,1,1,1]) D.K0)) (T0 a1 c406 v405)
noncomputable def r0 (k:Nat) (a1:Arg):Int->(Int)->Option Out:=fun c406=>rawIter (fun w v=>B0 k w (Q0 k a1 c406) a1 c406 v) k
theorem s0_eq (k:Nat) (a1:Arg):s0 k a1=r0 k a1:=by
 funext c406;funext v405;
 have h0:X0_0 (blockC 0 (seqC (D.N k [1,1,1,1,1]) D.K0)) a1 c406=Q0 k a1 c406:=funext fun z=>Q0_eq k a1 c406 z
 refine (iter_raw _ _ _ (T0 a1 c406) (fun self v=>B0 k self (X0_0 (blockC 0 (seqC (D.N k [1,1,1,1,1]) D.K0)) a1 c406) a1 c406 v) (fun rec v=>B0_eq k rec (blockC 0 (seqC (D.N k [1,1,1,1,1]) D.K0)) a1 c406 v) k v405).trans ?_
 rw[h0]
 rfl
noncomputable def p (l0:Int->(Int)->Option Out) (a1:Arg):Option Out:=bif !decide ((a1.1.length:Int)=(64:Int)) then (some ((1:Int),())) else (spec_l2Count.sem (a1.1,())).bind fun r2=>bif decide ((16:Int) < r2.1) then (some ((3:Int),())) else (spec_l2Low.sem (a1.1,())).bind fun r3=>bif decide (r3.1 < w64 ((2:Int)+(w64 ((2:Int)*r2.1)))) then (some ((3:Int),())) else (spec_l2Low.sem (a1.1,())).bind fun r4=>bif decide ((64:Int) < r4.1) then (some ((3:Int),())) else l0 r2.1 (0:Int)
theorem raw_eq (k:Nat) (a1:Arg):@Eq (Option Out) (D.W k a1) (p (r0 k a1) a1):=
 Eq.trans (b:=p (s0 k a1) a1) (by kernel_rfl) (by rw[s0_eq])
theorem ok:Ok prog 293 D.sig:=fd_ok func293 tlOk (by kernel_rfl) (fc spec_l2Count.ok (fc spec_l2Size.ok (fc spec_l2Low.ok (fc spec_l2Slot.ok (fc spec_l2Apart.ok (fn_nil _))))))
end spec_l2Fault
namespace spec_l6Cells
abbrev Arg:Type:=(List (List UInt8))×Unit
abbrev Out:Type:=Int×Unit
abbrev ps:PQ:=[(.ro,(.slc (.slc u8)))]
noncomputable def D:FD:={ fn:=f195,tl:=TL0,ps:=ps,rs:=[(i64,(roMd i64))],gl:=[(293,spec_l2Fault.D.sig),(294,spec_l2Count.D.sig),(295,spec_l2Size.D.sig),(296,spec_l1Read.D.sig),(297,spec_l2Cell.D.sig)],lv:=[(2,[0,3]),(8,[0,3,5])],lx:=[(0,[]),(2,[0,3])] }
noncomputable def sem (a:Arg):Option Out:=@lift Out fun k=>D.W k a
noncomputable def T0 (a1:Arg) (v402:(List (List UInt8))×Int):St:={ n:=50,sl:=[(0,.val (.slc (.slc u8)) v402.1),(3,.val i64 v402.2)],vr:=[],lent:=[] }
noncomputable def S0 (rec:RT Out) (a1:Arg):((List (List UInt8))×Int)->Option Out:=fun v402=>rec (T0 a1 v402)
noncomputable def X0_0 (K:KT Out) (a1:Arg):(Unit)->Option Out:=fun z=>K (.exit 0) ({ n:=50,sl:=[],vr:=[],lent:=[] })
noncomputable def T1 (a1:Arg) (c1006:List (List UInt8)) (c1007:Int) (v1005:Int):St:={ n:=50,sl:=[(0,.val (.slc (.slc u8)) c1006),(3,.val i64 c1007),(5,.val i64 v1005)],vr:=[],lent:=[] }
noncomputable def b1 (self:Int->Option Out) (e2:(Unit)->Option Out) (a1:Arg) (c1006:List (List UInt8)) (c1007:Int) (v1005:Int):Option Out:=if 0<=c1007 then ((c1006[c1007.toNat]?).bind fun x1208=>(spec_l2Count.sem (x1208,())).bind fun r1209=>bif decide (v1005 < r1209.1) then (if 0<=c1007 then ((c1006[c1007.toNat]?).bind fun x1210=>(spec_l2Size.sem (x1210,v1005,())).bind fun r1211=>bif decide ((0:Int) < r1211.1) then (if 0<=c1007 then ((c1006[c1007.toNat]?).bind fun x1212=>(spec_l2Cell.sem (x1212,v1005,())).bind fun r1213=>(spec_l1Read.sem (r1213.1,())).bind fun r1214=>bif !r1214.2.1 then (some ((5:Int),())) else self (w64 (v1005+(1:Int)))) else none) else self (w64 (v1005+(1:Int)))) else none) else e2 ()) else none
noncomputable abbrev B1 (_:Nat):=b1
noncomputable def q0 (self:((List (List UInt8))×Int)->Option Out) (e0:(Unit)->Option Out) (a1:Arg) (c1006:List (List UInt8)) (c1007:Int) (z1215:(Unit)):Option Out:=self (c1006,w64 (c1007+(1:Int)))
noncomputable abbrev Q0 (_:Nat):=q0
noncomputable def s1 (k:Nat) (rec:RT Out) (K:KT Out) (a1:Arg):(List (List UInt8))->Int->(Int)->Option Out:=fun c1006 c1007=>fun v1005=>D.L k [1,0,1,0,0,1,0,0,1,1,0,0] [0,3,5] [] (blockC 2 (blockC 1 (seqC (D.N k [1,0,1,0,0,1,1]) (loopC rec (keepF [0,3] []) K)))) (T1 a1 c1006 c1007 v1005)
noncomputable def r1 (k:Nat) (self:((List (List UInt8))×Int)->Option Out) (e0:(Unit)->Option Out) (a1:Arg):(List (List UInt8))->Int->(Int)->Option Out:=fun c1006 c1007=>rawIter (fun w v=>B1 k w (Q0 k self e0 a1 c1006 c1007) a1 c1006 c1007 v) k
theorem s1_eq (k:Nat) (rec:RT Out) (K:KT Out) (a1:Arg):s1 k rec K a1=r1 k (S0 rec a1) (X0_0 K a1) a1:=
 funext fun c1006=>funext fun c1007=>funext fun v1005=>iter_raw _ _ _ (T1 a1 c1006 c1007) _ (fun rec v=>by kernel_rfl) k v1005
noncomputable def b0 (self:((List (List UInt8))×Int)->Option Out) (e0:(Unit)->Option Out) (l1:(List (List UInt8))->Int->(Int)->Option Out) (a1:Arg) (v402:(List (List UInt8))×Int):Option Out:=bif decide (v402.2 < (v402.1.length:Int)) then (if 0<=v402.2 then ((v402.1[v402.2.toNat]?).bind fun x603=>(spec_l2Fault.sem (x603,())).bind fun r604=>bif !decide (r604.1=(0:Int)) then (some (r604.1,())) else l1 v402.1 v402.2 (0:Int)) else none) else e0 ()
noncomputable def B0 (k:Nat) (self:((List (List UInt8))×Int)->Option Out) (e0:(Unit)->Option Out) (a1:Arg) (v402:(List (List UInt8))×Int):Option Out:=b0 self e0 (r1 k self e0 a1) a1 v402
theorem B0_eq (k:Nat) (rec:RT Out) (K:KT Out) (a1:Arg) (v402:(List (List UInt8))×Int):D.N k [1,0,1,0,0] (T0 a1 v402) (loopC rec (keepF [0,3] []) K)=B0 k (S0 rec a1) (X0_0 K a1) a1 v402:=
 Eq.trans (b:=b0 (S0 rec a1) (X0_0 K a1) (s1 k rec K a1) a1 v402) (by kernel_rfl) (by rw[s1_eq];rfl)
noncomputable def q1 (a1:Arg) (z1216:(Unit)):Option Out:=some ((0:Int),())
noncomputable abbrev Q1 (_:Nat):=q1
theorem Q1_eq (k:Nat) (a1:Arg) (z1216:(Unit)):X0_0 (blockC 0 (seqC (D.N k [1,1]) D.K0)) a1 z1216=q1 a1 z1216:=by kernel_rfl
noncomputable def s0 (k:Nat) (a1:Arg):((List (List UInt8))×Int)->Option Out:=fun v402=>D.L k [1,0,1,0,0] [0,3] [] (blockC 0 (seqC (D.N k [1,1]) D.K0)) (T0 a1 v402)
noncomputable def r0 (k:Nat) (a1:Arg):((List (List UInt8))×Int)->Option Out:=rawIter (fun w v=>B0 k w (Q1 k a1) a1 v) k
theorem s0_eq (k:Nat) (a1:Arg):s0 k a1=r0 k a1:=by
 funext v402;
 have h0:X0_0 (blockC 0 (seqC (D.N k [1,1]) D.K0)) a1=Q1 k a1:=funext fun z=>Q1_eq k a1 z
 refine (iter_raw _ _ _ (T0 a1) (fun self v=>B0 k self (X0_0 (blockC 0 (seqC (D.N k [1,1]) D.K0)) a1) a1 v) (fun rec v=>B0_eq k rec (blockC 0 (seqC (D.N k [1,1]) D.K0)) a1 v) k v402).trans ?_
 rw[h0]
 rfl
noncomputable def p (l0:((List (List UInt8))×Int)->Option Out) (a1:Arg):Option Out:=l0 (a1.1,(0:Int))
theorem raw_eq (k:Nat) (a1:Arg):@Eq (Option Out) (D.W k a1) (p (r0 k a1) a1):=
 Eq.trans (b:=p (s0 k a1) a1) (by kernel_rfl) (by rw[s0_eq])
theorem ok:Ok prog 195 D.sig:=fd_ok func195 tlOk (by kernel_rfl) (fc spec_l2Fault.ok (fc spec_l2Count.ok (fc spec_l2Size.ok (fc spec_l1Read.ok (fc spec_l2Cell.ok (fn_nil _))))))
end spec_l6Cells
namespace spec_l6Stubs
abbrev Arg:Type:=(List L6Spot)×(List (List UInt8))×Unit
abbrev Out:Type:=Int×Unit
abbrev ps:PQ:=[(.ro,(.slc tL6Spot)),(.ro,(.slc (.slc u8)))]
noncomputable def D:FD:={ fn:=f196,tl:=TL0,ps:=ps,rs:=[(i64,(roMd i64))],gl:=[(298,spec_l6Cell.D.sig)],lv:=[(2,[0,1,5]),(9,[0,8]),(12,[0,8,9])],lx:=[(0,[0]),(1,[0,1,5]),(2,[]),(4,[0,8])],od:=[(5,[0,1,2,3,4,5,6,7,8,9,10,11,12,13,14,15,16,17,18,19]),(16,[0,1,2,3,4,5,6,7,8,9,10,11,12,13,14,15,16,17,18,19,20,21,22,23,24,25,26,27,28,29,30,31,32,33])],ar:=[(5,[6,12])],pd:=[(5,[17])] }
noncomputable def sem (a:Arg):Option Out:=@lift Out fun k=>D.W k a
noncomputable def T0 (a1:Arg) (v402:Int):St:={ n:=102,sl:=[(0,.val (.slc tL6Spot) a1.1),(1,.val (.slc (.slc u8)) a1.2.1),(5,.val i64 v402)],vr:=[],lent:=[] }
noncomputable def S0 (rec:RT Out) (a1:Arg):(Int)->Option Out:=fun v402=>rec (T0 a1 v402)
noncomputable def X0_0 (K:KT Out) (a1:Arg):(Unit)->Option Out:=fun z=>K (.exit 0) ({ n:=102,sl:=[(0,.val (.slc tL6Spot) a1.1)],vr:=[],lent:=[] })
noncomputable def b0 (self:Int->Option Out) (e0:(Unit)->Option Out) (a1:Arg) (v402:Int):Option Out:=bif decide (v402 < (a1.1.length:Int)) then (if 0<=v402 then ((a1.1[v402.toNat]?).bind fun x603=>bif !decide (x603.2.2.1.2.1=(1:Int)) then (self (w64 (v402+(1:Int)))) else if 0<=v402 then ((a1.1[v402.toNat]?).bind fun x604=>if 0<=v402 then ((a1.1[v402.toNat]?).bind fun x605=>(spec_l6Cell.sem (a1.2.1,x604.2.2.1.2.2.1,x605.2.2.1.2.2.2.1,())).bind fun r606=>bif !r606.2.1 then (some ((4:Int),())) else bif !decide (r606.1.2.1=(2:Int)) then (some ((4:Int),())) else self (w64 (v402+(1:Int)))) else none) else none) else none) else e0 ()
noncomputable abbrev B0 (_:Nat):=b0
theorem B0_eq (k:Nat) (rec:RT Out) (K:KT Out) (a1:Arg) (v402:Int):D.N k [1,0,1,0,0] (T0 a1 v402) (loopC rec (keepF [0,1,5] []) K)=b0 (S0 rec a1) (X0_0 K a1) a1 v402:=by kernel_rfl
noncomputable def T1 (a1:Arg) (v1008:(List L6Spot)×Int):St:={ n:=102,sl:=[(0,.val (.slc tL6Spot) v1008.1),(8,.val i64 v1008.2)],vr:=[],lent:=[] }
noncomputable def S1 (rec:RT Out) (a1:Arg):((List L6Spot)×Int)->Option Out:=fun v1008=>rec (T1 a1 v1008)
noncomputable def X1_2 (K:KT Out) (a1:Arg):(Unit)->Option Out:=fun z=>K (.exit 2) ({ n:=102,sl:=[],vr:=[],lent:=[] })
noncomputable def T2 (a1:Arg) (c1610:List L6Spot) (c1611:Int) (v1609:Int):St:={ n:=102,sl:=[(0,.val (.slc tL6Spot) c1610),(8,.val i64 c1611),(9,.val i64 v1609)],vr:=[],lent:=[] }
noncomputable def b2 (self:Int->Option Out) (e4:(Unit)->Option Out) (a1:Arg) (c1610:List L6Spot) (c1611:Int) (v1609:Int):Option Out:=bif decide (v1609 < c1611) then (if 0<=c1611 then ((c1610[c1611.toNat]?).bind fun x1812=>if 0<=v1609 then ((c1610[v1609.toNat]?).bind fun x1813=>bif decide (x1812.2.2.1.2.1=(1:Int)) then (bif decide (x1813.2.2.1.2.1=(1:Int)) then (bif decide (x1812.2.2.1.2.2.1=x1813.2.2.1.2.2.1) then (bif decide (x1812.2.2.1.2.2.2.1=x1813.2.2.1.2.2.2.1) then (some ((6:Int),())) else self (w64 (v1609+(1:Int)))) else self (w64 (v1609+(1:Int)))) else self (w64 (v1609+(1:Int)))) else self (w64 (v1609+(1:Int)))) else none) else none) else e4 ()
noncomputable abbrev B2 (_:Nat):=b2
noncomputable def q1 (self:((List L6Spot)×Int)->Option Out) (e2:(Unit)->Option Out) (a1:Arg) (c1610:List L6Spot) (c1611:Int) (z1814:(Unit)):Option Out:=self (c1610,w64 (c1611+(1:Int)))
noncomputable abbrev Q1 (_:Nat):=q1
noncomputable def s2 (k:Nat) (rec:RT Out) (K:KT Out) (a1:Arg):(List L6Spot)->Int->(Int)->Option Out:=fun c1610 c1611=>fun v1609=>D.L k [1,1,0,1,0,0,1,0,0,1,0,0] [0,8,9] [] (blockC 4 (blockC 3 (seqC (D.N k [1,1,0,1,0,0,1,1]) (loopC rec (keepF [0,8] []) K)))) (T2 a1 c1610 c1611 v1609)
noncomputable def r2 (k:Nat) (self:((List L6Spot)×Int)->Option Out) (e2:(Unit)->Option Out) (a1:Arg):(List L6Spot)->Int->(Int)->Option Out:=fun c1610 c1611=>rawIter (fun w v=>B2 k w (Q1 k self e2 a1 c1610 c1611) a1 c1610 c1611 v) k
theorem s2_eq (k:Nat) (rec:RT Out) (K:KT Out) (a1:Arg):s2 k rec K a1=r2 k (S1 rec a1) (X1_2 K a1) a1:=
 funext fun c1610=>funext fun c1611=>funext fun v1609=>iter_raw _ _ _ (T2 a1 c1610 c1611) _ (fun rec v=>by kernel_rfl) k v1609
noncomputable def b1 (self:((List L6Spot)×Int)->Option Out) (e2:(Unit)->Option Out) (l2:(List L6Spot)->Int->(Int)->Option Out) (a1:Arg) (v1008:(List L6Spot)×Int):Option Out:=bif decide (v1008.2 < (v1008.1.length:Int)) then (l2 v1008.1 v1008.2 (0:Int)) else e2 ()
noncomputable def B1 (k:Nat) (self:((List L6Spot)×Int)->Option Out) (e2:(Unit)->Option Out) (a1:Arg) (v1008:(List L6Spot)×Int):Option Out:=b1 self e2 (r2 k self e2 a1) a1 v1008
theorem B1_eq (k:Nat) (rec:RT Out) (K:KT Out) (a1:Arg) (v1008:(List L6Spot)×Int):D.N k [1,1,0,1,0,0] (T1 a1 v1008) (loopC rec (keepF [0,8] []) K)=B1 k (S1 rec a1) (X1_2 K a1) a1 v1008:=
 Eq.trans (b:=b1 (S1 rec a1) (X1_2 K a1) (s2 k rec K a1) a1 v1008) (by kernel_rfl) (by rw[s2_eq];rfl)
noncomputable def q2 (a1:Arg) (z1815:(Unit)):Option Out:=some ((0:Int),())
noncomputable abbrev Q2 (_:Nat):=q2
theorem Q2_eq (k:Nat) (a1:Arg) (z1815:(Unit)):X1_2 (blockC 2 (seqC (D.N k [1,1,1]) D.K0)) a1 z1815=q2 a1 z1815:=by kernel_rfl
noncomputable def s1 (k:Nat) (a1:Arg):((List L6Spot)×Int)->Option Out:=fun v1008=>D.L k [1,1,0,1,0,0] [0,8] [] (blockC 2 (seqC (D.N k [1,1,1]) D.K0)) (T1 a1 v1008)
noncomputable def r1 (k:Nat) (a1:Arg):((List L6Spot)×Int)->Option Out:=rawIter (fun w v=>B1 k w (Q2 k a1) a1 v) k
theorem s1_eq (k:Nat) (a1:Arg):s1 k a1=r1 k a1:=by
 funext v1008;
 have h2:X1_2 (blockC 2 (seqC (D.N k [1,1,1]) D.K0)) a1=Q2 k a1:=funext fun z=>Q2_eq k a1 z
 refine (iter_raw _ _ _ (T1 a1) (fun self v=>B1 k self (X1_2 (blockC 2 (seqC (D.N k [1,1,1]) D.K0)) a1) a1 v) (fun rec v=>B1_eq k rec (blockC 2 (seqC (D.N k [1,1,1]) D.K0)) a1 v) k v1008).trans ?_
 rw[h2]
 rfl
noncomputable def q0 (l1:((List L6Spot)×Int)->Option Out) (a1:Arg) (z607:(Unit)):Option Out:=l1 (a1.1,(0:Int))
noncomputable def Q0 (k:Nat) (a1:Arg) (z607:(Unit)):Option Out:=q0 (r1 k a1) a1 z607
theorem Q0_eq (k:Nat) (a1:Arg) (z607:(Unit)):X0_0 (blockC 0 (seqC (D.N k [1,1]) D.K0)) a1 z607=Q0 k a1 z607:=
 Eq.trans (b:=q0 (s1 k a1) a1 z607) (by kernel_rfl) (by rw[s1_eq];rfl)
noncomputable def s0 (k:Nat) (a1:Arg):(Int)->Option Out:=fun v402=>D.L k [1,0,1,0,0] [0,1,5] [] (blockC 0 (seqC (D.N k [1,1]) D.K0)) (T0 a1 v402)
noncomputable def r0 (k:Nat) (a1:Arg):(Int)->Option Out:=rawIter (fun w v=>B0 k w (Q0 k a1) a1 v) k
theorem s0_eq (k:Nat) (a1:Arg):s0 k a1=r0 k a1:=by
 funext v402;
 have h0:X0_0 (blockC 0 (seqC (D.N k [1,1]) D.K0)) a1=Q0 k a1:=funext fun z=>Q0_eq k a1 z
 refine (iter_raw _ _ _ (T0 a1) (fun self v=>B0 k self (X0_0 (blockC 0 (seqC (D.N k [1,1]) D.K0)) a1) a1 v) (fun rec v=>B0_eq k rec (blockC 0 (seqC (D.N k [1,1]) D.K0)) a1 v) k v402).trans ?_
 rw[h0]
 rfl
noncomputable def p (l0:(Int)->Option Out) (a1:Arg):Option Out:=l0 (0:Int)
theorem raw_eq (k:Nat) (a1:Arg):@Eq (Option Out) (D.W k a1) (p (r0 k a1) a1):=
 Eq.trans (b:=p (s0 k a1) a1) (by kernel_rfl) (by rw[s0_eq])
theorem ok:Ok prog 196 D.sig:=fd_ok func196 tlOk (by kernel_rfl) (fc spec_l6Cell.ok (fn_nil _))
end spec_l6Stubs
namespace spec_l6Fault
abbrev Arg:Type:=(List (List UInt8))×Unit
abbrev Out:Type:=Int×Unit
abbrev ps:PQ:=[(.ro,(.slc (.slc u8)))]
noncomputable def D:FD:={ fn:=f92,tl:=TL0,ps:=ps,rs:=[(i64,(roMd i64))],gl:=[(195,spec_l6Cells.D.sig),(196,spec_l6Stubs.D.sig),(197,spec_l6Spots.D.sig),(198,spec_l6Seen.D.sig)],lv:=[(11,[5,6]),(14,[5,6,7])],lx:=[(0,[]),(2,[5,6])],od:=[(16,[0,1,2,3,4,5,6,7,8,9,10,11,12,13,14,15,16,17,18,19,20,21,22,23,24,25,26,27,28,29,30,31])] }
noncomputable def sem (a:Arg):Option Out:=@lift Out fun k=>D.W k a
noncomputable def T0 (a1:Arg) (v406:(List L6Spot)×Int):St:={ n:=68,sl:=[(5,.own (.slc tL6Spot) (ownMd (.slc tL6Spot)) [] v406.1),(6,.val i64 v406.2)],vr:=[],lent:=[] }
noncomputable def S0 (rec:RT Out) (a1:Arg):((List L6Spot)×Int)->Option Out:=fun v406=>rec (T0 a1 v406)
noncomputable def X0_0 (K:KT Out) (a1:Arg):(Unit)->Option Out:=fun z=>K (.exit 0) ({ n:=68,sl:=[],vr:=[],lent:=[] })
noncomputable def T1 (a1:Arg) (c1008:List L6Spot) (c1009:Int) (v1007:Int):St:={ n:=68,sl:=[(5,.own (.slc tL6Spot) (ownMd (.slc tL6Spot)) [] c1008),(6,.val i64 c1009),(7,.val i64 v1007)],vr:=[],lent:=[] }
noncomputable def b1 (self:Int->Option Out) (e2:(Unit)->Option Out) (a1:Arg) (c1008:List L6Spot) (c1009:Int) (v1007:Int):Option Out:=bif decide (v1007 < c1009) then (if 0<=c1009/\c1009 < (c1008.length:Int) then ((c1008[c1009.toNat]?).bind fun x1210=>if 0<=v1007/\v1007 < (c1008.length:Int) then ((c1008[v1007.toNat]?).bind fun x1211=>bif decide (x1210.2.2.1.2.2.2.2.1.1=x1211.2.2.1.2.2.2.2.1.1) then (if 0<=c1009/\c1009 < (c1008.length:Int) then ((c1008[c1009.toNat]?).bind fun x1212=>if 0<=v1007/\v1007 < (c1008.length:Int) then ((c1008[v1007.toNat]?).bind fun x1213=>bif decide (x1212.2.2.1.2.2.2.2.1.2.1=x1213.2.2.1.2.2.2.2.1.2.1) then (some ((8:Int),())) else self (w64 (v1007+(1:Int)))) else none) else none) else self (w64 (v1007+(1:Int)))) else none) else none) else e2 ()
noncomputable abbrev B1 (_:Nat):=b1
noncomputable def q0 (self:((List L6Spot)×Int)->Option Out) (e0:(Unit)->Option Out) (a1:Arg) (c1008:List L6Spot) (c1009:Int) (z1214:(Unit)):Option Out:=self (c1008,w64 (c1009+(1:Int)))
noncomputable abbrev Q0 (_:Nat):=q0
noncomputable def s1 (k:Nat) (rec:RT Out) (K:KT Out) (a1:Arg):(List L6Spot)->Int->(Int)->Option Out:=fun c1008 c1009=>fun v1007=>D.L k [1,1,1,1,1,0,1,0,0,1,0,0,1,0,0] [5,6,7] [] (blockC 2 (blockC 1 (seqC (D.N k [1,1,1,1,1,0,1,0,0,1,1]) (loopC rec (keepF [5,6] []) K)))) (T1 a1 c1008 c1009 v1007)
noncomputable def r1 (k:Nat) (self:((List L6Spot)×Int)->Option Out) (e0:(Unit)->Option Out) (a1:Arg):(List L6Spot)->Int->(Int)->Option Out:=fun c1008 c1009=>rawIter (fun w v=>B1 k w (Q0 k self e0 a1 c1008 c1009) a1 c1008 c1009 v) k
theorem s1_eq (k:Nat) (rec:RT Out) (K:KT Out) (a1:Arg):s1 k rec K a1=r1 k (S0 rec a1) (X0_0 K a1) a1:=
 funext fun c1008=>funext fun c1009=>funext fun v1007=>iter_raw _ _ _ (T1 a1 c1008 c1009) _ (fun rec v=>by kernel_rfl) k v1007
noncomputable def b0 (self:((List L6Spot)×Int)->Option Out) (e0:(Unit)->Option Out) (l1:(List L6Spot)->Int->(Int)->Option Out) (a1:Arg) (v406:(List L6Spot)×Int):Option Out:=bif decide (v406.2 < (v406.1.length:Int)) then (l1 v406.1 v406.2 (0:Int)) else e0 ()
noncomputable def B0 (k:Nat) (self:((List L6Spot)×Int)->Option Out) (e0:(Unit)->Option Out) (a1:Arg) (v406:(List L6Spot)×Int):Option Out:=b0 self e0 (r1 k self e0 a1) a1 v406
theorem B0_eq (k:Nat) (rec:RT Out) (K:KT Out) (a1:Arg) (v406:(List L6Spot)×Int):D.N k [1,1,1,1,1,0,1,0,0] (T0 a1 v406) (loopC rec (keepF [5,6] []) K)=B0 k (S0 rec a1) (X0_0 K a1) a1 v406:=
 Eq.trans (b:=b0 (S0 rec a1) (X0_0 K a1) (s1 k rec K a1) a1 v406) (by kernel_rfl) (by rw[s1_eq];rfl)
noncomputable def q1 (a1:Arg) (z1215:(Unit)):Option Out:=some ((0:Int),())
noncomputable abbrev Q1 (_:Nat):=q1
theorem Q1_eq (k:Nat) (a1:Arg) (z1215:(Unit)):X0_0 (blockC 0 (seqC (D.N k [1,1,1,1,1,1]) D.K0)) a1 z1215=q1 a1 z1215:=by kernel_rfl
noncomputable def s0 (k:Nat) (a1:Arg):((List L6Spot)×Int)->Option Out:=fun v406=>D.L k [1,1,1,1,1,0,1,0,0] [5,6] [] (blockC 0 (seqC (D.N k [1,1,1,1,1,1]) D.K0)) (T0 a1 v406)
noncomputable def r0 (k:Nat) (a1:Arg):((List L6Spot)×Int)->Option Out:=rawIter (fun w v=>B0 k w (Q1 k a1) a1 v) k
theorem s0_eq (k:Nat) (a1:Arg):s0 k a1=r0 k a1:=by
 funext v406;
 have h0:X0_0 (blockC 0 (seqC (D.N k [1,1,1,1,1,1]) D.K0)) a1=Q1 k a1:=funext fun z=>Q1_eq k a1 z
 refine (iter_raw _ _ _ (T0 a1) (fun self v=>B0 k self (X0_0 (blockC 0 (seqC (D.N k [1,1,1,1,1,1]) D.K0)) a1) a1 v) (fun rec v=>B0_eq k rec (blockC 0 (seqC (D.N k [1,1,1,1,1,1]) D.K0)) a1 v) k v406).trans ?_
 rw[h0]
 rfl
noncomputable def p (l0:((List L6Spot)×Int)->Option Out) (a1:Arg):Option Out:=bif decide ((12:Int) < (a1.1.length:Int)) then (some ((2:Int),())) else (spec_l6Cells.sem (a1.1,())).bind fun r2=>bif !decide (r2.1=(0:Int)) then (some (r2.1,())) else (spec_l6Spots.sem (a1.1,())).bind fun r3=>(spec_l6Stubs.sem (r3.1,a1.1,())).bind fun r4=>bif !decide (r4.1=(0:Int)) then (some (r4.1,())) else (spec_l6Seen.sem (a1.1,())).bind fun r5=>l0 (r5.1,(0:Int))
theorem raw_eq (k:Nat) (a1:Arg):@Eq (Option Out) (D.W k a1) (p (r0 k a1) a1):=
 Eq.trans (b:=p (s0 k a1) a1) (by kernel_rfl) (by rw[s0_eq])
theorem ok:Ok prog 92 D.sig:=fd_ok func92 tlOk (by kernel_rfl) (fc spec_l6Cells.ok (fc spec_l6Stubs.ok (fc spec_l6Spots.ok (fc spec_l6Seen.ok (fn_nil _)))))
end spec_l6Fault
namespace impl_plain
abbrev Arg:Type:=(List Seen)×Unit
abbrev Out:Type:=(List Row)×Unit
abbrev ps:PQ:=[(.ro,(.slc tSeen))]
noncomputable def D:FD:={ fn:=f97,tl:=TL0,ps:=ps,rs:=[((.slc tRow),(ownMd (.slc tRow)))],lv:=[(3,[3,6,7,8])],lx:=[(0,[3])] }
noncomputable def sem (a:Arg):Option Out:=@lift Out fun k=>D.W k a
noncomputable def T0 (a1:Arg) (v402:(List Row)×Int):St:={ n:=19,sl:=[(3,.own (.slc tRow) (ownMd (.slc tRow)) [] v402.1),(6,.val (.slc tSeen) a1.1),(7,.val i64 (a1.1.length:Int)),(8,.val i64 v402.2)],vr:=[],lent:=[] }
noncomputable def b0 (self:((List Row)×Int)->Option Out) (e0:(List Row)->Option Out) (a1:Arg) (v402:(List Row)×Int):Option Out:=bif decide (v402.2 < (a1.1.length:Int)) then (if 0<=v402.2 then ((a1.1[v402.2.toNat]?).bind fun x603=>if v402.1.length+[x603.1].length<=CAP then (self (v402.1++[x603.1],w64 (v402.2+(1:Int)))) else none) else none) else e0 v402.1
noncomputable abbrev B0 (_:Nat):=b0
noncomputable def q0 (a1:Arg) (z604:(List Row)):Option Out:=some (z604,())
noncomputable abbrev Q0 (_:Nat):=q0
noncomputable def s0 (k:Nat) (a1:Arg):((List Row)×Int)->Option Out:=fun v402=>D.L k [1,1,0,1,0,0] [3,6,7,8] [] (blockC 0 (seqC (D.N k [1,1,1]) D.K0)) (T0 a1 v402)
noncomputable def r0 (k:Nat) (a1:Arg):((List Row)×Int)->Option Out:=rawIter (fun w v=>B0 k w (Q0 k a1) a1 v) k
theorem s0_eq (k:Nat) (a1:Arg):s0 k a1=r0 k a1:=
 funext fun v402=>iter_raw _ _ _ (T0 a1) _ (fun rec v=>by kernel_rfl) k v402
noncomputable def p (l0:((List Row)×Int)->Option Out) (a1:Arg):Option Out:=l0 (([]:List Row),(0:Int))
theorem raw_eq (k:Nat) (a1:Arg):@Eq (Option Out) (D.W k a1) (p (r0 k a1) a1):=
 Eq.trans (b:=p (s0 k a1) a1) (by kernel_rfl) (by rw[s0_eq])
theorem ok:Ok prog 97 D.sig:=fd_ok func97 tlOk (by kernel_rfl) (fn_nil _)
end impl_plain
namespace impl_RowsIn
abbrev Arg:Type:=(List (List UInt8))×Unit
abbrev Out:Type:=RowsResult×Unit
abbrev ps:PQ:=[(.ro,(.slc (.slc u8)))]
noncomputable def D:FD:={ fn:=f17,tl:=TL0,ps:=ps,rs:=[(tRowsResult,(ownMd tRowsResult))],gl:=[(86,impl_view.D.sig),(97,impl_plain.D.sig)] }
noncomputable def sem (a:Arg):Option Out:=@lift Out fun k=>D.W k a
noncomputable def p (a1:Arg):Option Out:=(impl_view.sem (a1.1,())).bind fun r2=>bif !decide (r2.2.1=(0:Int)) then (some ((r2.2.1,([]:List Row),()),())) else (impl_plain.sem (r2.1,())).bind fun r3=>some (((0:Int),r3.1,()),())
theorem raw_eq (k:Nat) (a1:Arg):@Eq (Option Out) (D.W k a1) (p a1):=by kernel_rfl
theorem ok:Ok prog 17 D.sig:=fd_ok func17 tlOk (by kernel_rfl) (fc impl_view.ok (fc impl_plain.ok (fn_nil _)))
end impl_RowsIn
namespace impl_isKey
abbrev Arg:Type:=Int×Int×Unit
abbrev Out:Type:=Bool×Unit
abbrev ps:PQ:=[(.ro,i64),(.ro,i64)]
noncomputable def D:FD:={ fn:=f98,tl:=TL0,ps:=ps,rs:=[(.bool,(roMd .bool))],gl:=[(119,impl_in.D.sig)] }
noncomputable def sem (a:Arg):Option Out:=@lift Out fun k=>D.W k a
noncomputable def p (a1:Arg):Option Out:=(impl_in.sem (a1.1,(0:Int),(3:Int),())).bind fun r2=>bif r2.1 then ((impl_in.sem (a1.2.1,(1:Int),(99:Int),())).bind fun r3=>some (r3.1,())) else some (false,())
theorem raw_eq (k:Nat) (a1:Arg):@Eq (Option Out) (D.W k a1) (p a1):=by kernel_rfl
theorem ok:Ok prog 98 D.sig:=fd_ok func98 tlOk (by kernel_rfl) (fc impl_in.ok (fn_nil _))
end impl_isKey
namespace impl_FindRow
abbrev Arg:Type:=(List (List UInt8))×Int×Int×Unit
abbrev Out:Type:=PlaceResult×Unit
abbrev ps:PQ:=[(.ro,(.slc (.slc u8))),(.ro,i64),(.ro,i64)]
noncomputable def D:FD:={ fn:=f18,tl:=TL0,ps:=ps,rs:=[(tPlaceResult,(roMd tPlaceResult))],gl:=[(86,impl_view.D.sig),(88,impl_find.D.sig),(98,impl_isKey.D.sig)] }
noncomputable def sem (a:Arg):Option Out:=@lift Out fun k=>D.W k a
noncomputable def p (a1:Arg):Option Out:=(impl_view.sem (a1.1,())).bind fun r2=>bif !decide (r2.2.1=(0:Int)) then (some ((r2.2.1,(0:Int),(0:Int),((0:Int),(0:Int),(0:Int),([]:List UInt8),()),()),())) else (impl_isKey.sem (a1.2.1,a1.2.2.1,())).bind fun r3=>bif !r3.1 then (some (((3:Int),(0:Int),(0:Int),((0:Int),(0:Int),(0:Int),([]:List UInt8),()),()),())) else (impl_find.sem (r2.1,a1.2.1,a1.2.2.1,())).bind fun r4=>bif !r4.2.1 then (some (((4:Int),(0:Int),(0:Int),((0:Int),(0:Int),(0:Int),([]:List UInt8),()),()),())) else some (((0:Int),r4.1.2.1,r4.1.2.2.1,r4.1.1,()),())
theorem raw_eq (k:Nat) (a1:Arg):@Eq (Option Out) (D.W k a1) (p a1):=by kernel_rfl
theorem ok:Ok prog 18 D.sig:=fd_ok func18 tlOk (by kernel_rfl) (fc impl_view.ok (fc impl_find.ok (fc impl_isKey.ok (fn_nil _))))
end impl_FindRow
namespace laws_lwRows
abbrev Arg:Type:=(List Row)×(List Row)×Unit
abbrev Out:Type:=Bool×Unit
abbrev ps:PQ:=[(.ro,(.slc tRow)),(.ro,(.slc tRow))]
noncomputable def D:FD:={ fn:=f19,tl:=TL0,ps:=ps,rs:=[(.bool,(roMd .bool))],lv:=[(4,[0,1,5])],lx:=[(0,[])],od:=[(6,[0,1,2,3,4,5,6,7,8])] }
noncomputable def sem (a:Arg):Option Out:=@lift Out fun k=>D.W k a
noncomputable def T0 (a1:Arg) (v402:Int):St:={ n:=26,sl:=[(0,.val (.slc tRow) a1.1),(1,.val (.slc tRow) a1.2.1),(5,.val i64 v402)],vr:=[],lent:=[] }
noncomputable def b0 (self:Int->Option Out) (e0:(Unit)->Option Out) (a1:Arg) (v402:Int):Option Out:=bif decide (v402 < (a1.1.length:Int)) then (if 0<=v402 then ((a1.1[v402.toNat]?).bind fun x603=>if 0<=v402 then ((a1.2.1[v402.toNat]?).bind fun x604=>bif !(Ty.eq tRow x603 x604) then (some (false,())) else self (w64 (v402+(1:Int)))) else none) else none) else e0 ()
noncomputable abbrev B0 (_:Nat):=b0
noncomputable def q0 (a1:Arg) (z605:(Unit)):Option Out:=some (true,())
noncomputable abbrev Q0 (_:Nat):=q0
noncomputable def s0 (k:Nat) (a1:Arg):(Int)->Option Out:=fun v402=>D.L k [1,1,0,1,0,0] [0,1,5] [] (blockC 0 (seqC (D.N k [1,1,1]) D.K0)) (T0 a1 v402)
noncomputable def r0 (k:Nat) (a1:Arg):(Int)->Option Out:=rawIter (fun w v=>B0 k w (Q0 k a1) a1 v) k
theorem s0_eq (k:Nat) (a1:Arg):s0 k a1=r0 k a1:=
 funext fun v402=>iter_raw _ _ _ (T0 a1) _ (fun rec v=>by kernel_rfl) k v402
noncomputable def p (l0:(Int)->Option Out) (a1:Arg):Option Out:=bif !decide ((a1.1.length:Int)=(a1.2.1.length:Int)) then (some (false,())) else l0 (0:Int)
theorem raw_eq (k:Nat) (a1:Arg):@Eq (Option Out) (D.W k a1) (p (r0 k a1) a1):=
 Eq.trans (b:=p (s0 k a1) a1) (by kernel_rfl) (by rw[s0_eq])
theorem ok:Ok prog 19 D.sig:=fd_ok func19 tlOk (by kernel_rfl) (fn_nil _)
end laws_lwRows
namespace laws_lwBut
abbrev Arg:Type:=(List Row)×Int×Int×Unit
abbrev Out:Type:=(List Row)×Unit
abbrev ps:PQ:=[(.ro,(.slc tRow)),(.ro,i64),(.ro,i64)]
noncomputable def D:FD:={ fn:=f20,tl:=TL0,ps:=ps,rs:=[((.slc tRow),(ownMd (.slc tRow)))],lv:=[(3,[0,1,2,7,8])],lx:=[(0,[7])] }
noncomputable def sem (a:Arg):Option Out:=@lift Out fun k=>D.W k a
noncomputable def T0 (a1:Arg) (v402:(List Row)×Int):St:={ n:=40,sl:=[(0,.val (.slc tRow) a1.1),(1,.val i64 a1.2.1),(2,.val i64 a1.2.2.1),(7,.own (.slc tRow) (ownMd (.slc tRow)) [] v402.1),(8,.val i64 v402.2)],vr:=[],lent:=[] }
noncomputable def b0 (self:((List Row)×Int)->Option Out) (e0:(List Row)->Option Out) (a1:Arg) (v402:(List Row)×Int):Option Out:=bif decide (v402.2 < (a1.1.length:Int)) then (if 0<=v402.2 then ((a1.1[v402.2.toNat]?).bind fun x603=>bif !decide (x603.1=a1.2.1) then (if 0<=v402.2 then ((a1.1[v402.2.toNat]?).bind fun x605=>if v402.1.length+[x605].length<=CAP then (self (v402.1++[x605],w64 (v402.2+(1:Int)))) else none) else none) else if 0<=v402.2 then ((a1.1[v402.2.toNat]?).bind fun x604=>bif !decide (x604.2.1=a1.2.2.1) then (if 0<=v402.2 then ((a1.1[v402.2.toNat]?).bind fun x606=>if v402.1.length+[x606].length<=CAP then (self (v402.1++[x606],w64 (v402.2+(1:Int)))) else none) else none) else self (v402.1,w64 (v402.2+(1:Int)))) else none) else none) else e0 v402.1
noncomputable abbrev B0 (_:Nat):=b0
noncomputable def q0 (a1:Arg) (z607:(List Row)):Option Out:=some (z607,())
noncomputable abbrev Q0 (_:Nat):=q0
noncomputable def s0 (k:Nat) (a1:Arg):((List Row)×Int)->Option Out:=fun v402=>D.L k [1,1,0,1,0,0] [0,1,2,7,8] [] (blockC 0 (seqC (D.N k [1,1,1]) D.K0)) (T0 a1 v402)
noncomputable def r0 (k:Nat) (a1:Arg):((List Row)×Int)->Option Out:=rawIter (fun w v=>B0 k w (Q0 k a1) a1 v) k
theorem s0_eq (k:Nat) (a1:Arg):s0 k a1=r0 k a1:=
 funext fun v402=>iter_raw _ _ _ (T0 a1) _ (fun rec v=>by kernel_rfl) k v402
noncomputable def p (l0:((List Row)×Int)->Option Out) (a1:Arg):Option Out:=l0 (([]:List Row),(0:Int))
theorem raw_eq (k:Nat) (a1:Arg):@Eq (Option Out) (D.W k a1) (p (r0 k a1) a1):=
 Eq.trans (b:=p (s0 k a1) a1) (by kernel_rfl) (by rw[s0_eq])
theorem ok:Ok prog 20 D.sig:=fd_ok func20 tlOk (by kernel_rfl) (fn_nil _)
end laws_lwBut
namespace laws_lwSame
abbrev Arg:Type:=(List UInt8)×(List UInt8)×Unit
abbrev Out:Type:=Bool×Unit
abbrev ps:PQ:=[(.ro,(.slc u8)),(.ro,(.slc u8))]
noncomputable def D:FD:={ fn:=f104,tl:=TL0,ps:=ps,rs:=[(.bool,(roMd .bool))] }
noncomputable def sem (a:Arg):Option Out:=@lift Out fun k=>D.W k a
noncomputable def p (a1:Arg):Option Out:=some (decide (a1.1=a1.2.1),())
theorem raw_eq (k:Nat) (a1:Arg):@Eq (Option Out) (D.W k a1) (p a1):=by kernel_rfl
theorem ok:Ok prog 104 D.sig:=fd_ok func104 tlOk (by kernel_rfl) (fn_nil _)
end laws_lwSame
namespace laws_lwPages
abbrev Arg:Type:=(List (List UInt8))×(List (List UInt8))×Unit
abbrev Out:Type:=Bool×Unit
abbrev ps:PQ:=[(.ro,(.slc (.slc u8))),(.ro,(.slc (.slc u8)))]
noncomputable def D:FD:={ fn:=f25,tl:=TL0,ps:=ps,rs:=[(.bool,(roMd .bool))],gl:=[(104,laws_lwSame.D.sig)],lv:=[(4,[0,1,5])],lx:=[(0,[])],od:=[(6,[0,1,2,3,4,5,6,7,8,9])] }
noncomputable def sem (a:Arg):Option Out:=@lift Out fun k=>D.W k a
noncomputable def T0 (a1:Arg) (v402:Int):St:={ n:=27,sl:=[(0,.val (.slc (.slc u8)) a1.1),(1,.val (.slc (.slc u8)) a1.2.1),(5,.val i64 v402)],vr:=[],lent:=[] }
noncomputable def b0 (self:Int->Option Out) (e0:(Unit)->Option Out) (a1:Arg) (v402:Int):Option Out:=bif decide (v402 < (a1.1.length:Int)) then (if 0<=v402 then ((a1.1[v402.toNat]?).bind fun x603=>if 0<=v402 then ((a1.2.1[v402.toNat]?).bind fun x604=>(laws_lwSame.sem (x603,x604,())).bind fun r605=>bif !r605.1 then (some (false,())) else self (w64 (v402+(1:Int)))) else none) else none) else e0 ()
noncomputable abbrev B0 (_:Nat):=b0
noncomputable def q0 (a1:Arg) (z606:(Unit)):Option Out:=some (true,())
noncomputable abbrev Q0 (_:Nat):=q0
noncomputable def s0 (k:Nat) (a1:Arg):(Int)->Option Out:=fun v402=>D.L k [1,1,0,1,0,0] [0,1,5] [] (blockC 0 (seqC (D.N k [1,1,1]) D.K0)) (T0 a1 v402)
noncomputable def r0 (k:Nat) (a1:Arg):(Int)->Option Out:=rawIter (fun w v=>B0 k w (Q0 k a1) a1 v) k
theorem s0_eq (k:Nat) (a1:Arg):s0 k a1=r0 k a1:=
 funext fun v402=>iter_raw _ _ _ (T0 a1) _ (fun rec v=>by kernel_rfl) k v402
noncomputable def p (l0:(Int)->Option Out) (a1:Arg):Option Out:=bif !decide ((a1.1.length:Int)=(a1.2.1.length:Int)) then (some (false,())) else l0 (0:Int)
theorem raw_eq (k:Nat) (a1:Arg):@Eq (Option Out) (D.W k a1) (p (r0 k a1) a1):=
 Eq.trans (b:=p (s0 k a1) a1) (by kernel_rfl) (by rw[s0_eq])
theorem ok:Ok prog 25 D.sig:=fd_ok func25 tlOk (by kernel_rfl) (fc laws_lwSame.ok (fn_nil _))
end laws_lwPages
namespace impl_ownEdits
abbrev Arg:Type:=(List Edit)×Unit
abbrev Out:Type:=(List Edit)×Unit
abbrev ps:PQ:=[(.ro,(.slc tEdit))]
noncomputable def D:FD:={ fn:=f121,tl:=TL0,ps:=ps,rs:=[((.slc tEdit),(ownMd (.slc tEdit)))],gl:=[(120,impl_copied.D.sig)],lv:=[(3,[3,6,7,8])],lx:=[(0,[3])],od:=[(5,[0,1,2,3,4,5,6,7,8,9])] }
noncomputable def sem (a:Arg):Option Out:=@lift Out fun k=>D.W k a
noncomputable def T0 (a1:Arg) (v402:(List Edit)×Int):St:={ n:=23,sl:=[(3,.own (.slc tEdit) (ownMd (.slc tEdit)) [] v402.1),(6,.val (.slc tEdit) a1.1),(7,.val i64 (a1.1.length:Int)),(8,.val i64 v402.2)],vr:=[],lent:=[] }
noncomputable def b0 (self:((List Edit)×Int)->Option Out) (e0:(List Edit)->Option Out) (a1:Arg) (v402:(List Edit)×Int):Option Out:=bif decide (v402.2 < (a1.1.length:Int)) then (if 0<=v402.2 then ((a1.1[v402.2.toNat]?).bind fun x603=>(impl_copied.sem (x603.2.1,())).bind fun r604=>if v402.1.length+[(x603.1,r604.1,())].length<=CAP then (self (v402.1++[(x603.1,r604.1,())],w64 (v402.2+(1:Int)))) else none) else none) else e0 v402.1
noncomputable abbrev B0 (_:Nat):=b0
noncomputable def q0 (a1:Arg) (z605:(List Edit)):Option Out:=some (z605,())
noncomputable abbrev Q0 (_:Nat):=q0
noncomputable def s0 (k:Nat) (a1:Arg):((List Edit)×Int)->Option Out:=fun v402=>D.L k [1,1,0,1,0,0] [3,6,7,8] [] (blockC 0 (seqC (D.N k [1,1,1]) D.K0)) (T0 a1 v402)
noncomputable def r0 (k:Nat) (a1:Arg):((List Edit)×Int)->Option Out:=rawIter (fun w v=>B0 k w (Q0 k a1) a1 v) k
theorem s0_eq (k:Nat) (a1:Arg):s0 k a1=r0 k a1:=
 funext fun v402=>iter_raw _ _ _ (T0 a1) _ (fun rec v=>by kernel_rfl) k v402
noncomputable def p (l0:((List Edit)×Int)->Option Out) (a1:Arg):Option Out:=l0 (([]:List Edit),(0:Int))
theorem raw_eq (k:Nat) (a1:Arg):@Eq (Option Out) (D.W k a1) (p (r0 k a1) a1):=
 Eq.trans (b:=p (s0 k a1) a1) (by kernel_rfl) (by rw[s0_eq])
theorem ok:Ok prog 121 D.sig:=fd_ok func121 tlOk (by kernel_rfl) (fc impl_copied.ok (fn_nil _))
end impl_ownEdits
namespace impl_ApplyEdits
abbrev Arg:Type:=(List (List UInt8))×(List Edit)×Unit
abbrev Out:Type:=EditsResult×Unit
abbrev ps:PQ:=[(.ro,(.slc (.slc u8))),(.ro,(.slc tEdit))]
noncomputable def D:FD:={ fn:=f31,tl:=TL0,ps:=ps,rs:=[(tEditsResult,(ownMd tEditsResult))],gl:=[(118,impl_copies.D.sig),(119,impl_in.D.sig),(120,impl_copied.D.sig),(121,impl_ownEdits.D.sig)],lv:=[(5,[1,4,5,14,15,16])],lx:=[(0,[1,4,5])],od:=[(13,[0,1,2,3,4,5,6,7])] }
noncomputable def sem (a:Arg):Option Out:=@lift Out fun k=>D.W k a
noncomputable def T0 (a1:Arg) (v403:(List (List UInt8))×Int):St:={ n:=57,sl:=[(1,.val (.slc tEdit) a1.2.1),(4,.box tEditsResult (ownMd tEditsResult) [] ((0:Int),([]:List Edit),([]:List (List UInt8)),())),(5,.own (.slc (.slc u8)) (ownMd (.slc (.slc u8))) [] v403.1),(14,.val (.slc tEdit) a1.2.1),(15,.val i64 (a1.2.1.length:Int)),(16,.val i64 v403.2)],vr:=[],lent:=[] }
noncomputable def b0 (self:((List (List UInt8))×Int)->Option Out) (e0:(List (List UInt8))->Option Out) (a1:Arg) (v403:(List (List UInt8))×Int):Option Out:=bif decide (v403.2 < (a1.2.1.length:Int)) then (if 0<=v403.2 then ((a1.2.1[v403.2.toNat]?).bind fun x604=>bif !decide ((x604.2.1.length:Int)=(64:Int)) then (some (((1:Int),([]:List Edit),([]:List (List UInt8)),()),())) else (impl_in.sem (x604.1,(0:Int),(v403.1.length:Int),())).bind fun r605=>bif !r605.1 then (some (((1:Int),([]:List Edit),([]:List (List UInt8)),()),())) else bif decide (x604.1=(12:Int)) then (some (((2:Int),([]:List Edit),([]:List (List UInt8)),()),())) else let j610:=fun (p609:List (List UInt8))=>((impl_copied.sem (x604.2.1,())).bind fun r611=>if 0<=x604.1/\x604.1 < (p609.length:Int) then ((p609[x604.1.toNat]?).bind fun x612=>self (p609.set x604.1.toNat r611.1,w64 (v403.2+(1:Int)))) else none:Option Out);bif decide (x604.1=(v403.1.length:Int)) then (if v403.1.length+[([]:List UInt8)].length<=CAP then (j610 (v403.1++[([]:List UInt8)])) else none) else j610 v403.1) else none) else e0 v403.1
noncomputable abbrev B0 (_:Nat):=b0
noncomputable def q0 (a1:Arg) (z613:(List (List UInt8))):Option Out:=(impl_ownEdits.sem (a1.2.1,())).bind fun r614=>some (((0:Int),r614.1,z613,()),())
noncomputable abbrev Q0 (_:Nat):=q0
noncomputable def s0 (k:Nat) (a1:Arg):((List (List UInt8))×Int)->Option Out:=fun v403=>D.L k [1,1,1,0,1,0,0] [1,4,5,14,15,16] [] (blockC 0 (seqC (D.N k [1,1,1,1]) D.K0)) (T0 a1 v403)
noncomputable def r0 (k:Nat) (a1:Arg):((List (List UInt8))×Int)->Option Out:=rawIter (fun w v=>B0 k w (Q0 k a1) a1 v) k
theorem s0_eq (k:Nat) (a1:Arg):s0 k a1=r0 k a1:=
 funext fun v403=>iter_raw _ _ _ (T0 a1) _ (fun rec v=>by kernel_rfl) k v403
noncomputable def p (l0:((List (List UInt8))×Int)->Option Out) (a1:Arg):Option Out:=bif decide ((12:Int) < (a1.1.length:Int)) then (some (((2:Int),([]:List Edit),([]:List (List UInt8)),()),())) else (impl_copies.sem (a1.1,())).bind fun r2=>l0 (r2.1,(0:Int))
theorem raw_eq (k:Nat) (a1:Arg):@Eq (Option Out) (D.W k a1) (p (r0 k a1) a1):=
 Eq.trans (b:=p (s0 k a1) a1) (by kernel_rfl) (by rw[s0_eq])
theorem ok:Ok prog 31 D.sig:=fd_ok func31 tlOk (by kernel_rfl) (fc impl_copies.ok (fc impl_in.ok (fc impl_copied.ok (fc impl_ownEdits.ok (fn_nil _)))))
end impl_ApplyEdits
namespace laws_lwWay
abbrev Arg:Type:=(List (List UInt8))×EditsResult×(List Row)×(List Row)×Unit
abbrev Out:Type:=Bool×Unit
abbrev ps:PQ:=[(.ro,(.slc (.slc u8))),(.ro,tEditsResult),(.ro,(.slc tRow)),(.ro,(.slc tRow))]
noncomputable def D:FD:={ fn:=f21,tl:=TL0,ps:=ps,rs:=[(.bool,(roMd .bool))],gl:=[(17,impl_RowsIn.D.sig),(19,laws_lwRows.D.sig),(25,laws_lwPages.D.sig),(31,impl_ApplyEdits.D.sig)],lv:=[(4,[2,3,5,9,10,11])],lx:=[(0,[2,3,5,9,10])],lf:=[(4,[(9,(.slc false (.slc false .leaf)))])] }
noncomputable def sem (a:Arg):Option Out:=@lift Out fun k=>D.W k a
noncomputable def T0 (a1:Arg) (v402:(List (List UInt8))×Bool×Int):St:={ n:=72,sl:=[(2,.val (.slc tRow) a1.2.2.1),(3,.val (.slc tRow) a1.2.2.2.1),(5,.box tEditsResult (roMd tEditsResult) [] a1.2.1),(9,.val (.slc (.slc u8)) v402.1),(10,.val .bool v402.2.1),(11,.val i64 v402.2.2)],vr:=[],lent:=[] }
noncomputable def b0 (self:((List (List UInt8))×Bool×Int)->Option Out) (e0:((List (List UInt8))×Bool)->Option Out) (a1:Arg) (v402:(List (List UInt8))×Bool×Int):Option Out:=bif decide (v402.2.2 < (a1.2.1.2.1.length:Int)) then (if 0<=v402.2.2/\v402.2.2<=w64 (v402.2.2+(1:Int))/\w64 (v402.2.2+(1:Int))<=(a1.2.1.2.1.length:Int) then ((impl_ApplyEdits.sem (v402.1,(a1.2.1.2.1.take (w64 (v402.2.2+(1:Int))).toNat).drop v402.2.2.toNat,())).bind fun r603=>bif !decide (r603.1.1=(0:Int)) then (some (false,())) else (impl_RowsIn.sem (r603.1.2.2.1,())).bind fun r604=>(laws_lwRows.sem (r604.1.2.1,a1.2.2.2.1,())).bind fun r605=>bif !decide (r604.1.1=(0:Int)) then (some (false,())) else bif !r605.1 then (bif v402.2.1 then (some (false,())) else (laws_lwRows.sem (r604.1.2.1,a1.2.2.1,())).bind fun r606=>bif !r606.1 then (some (false,())) else self (r603.1.2.2.1,r605.1,w64 (v402.2.2+(1:Int)))) else self (r603.1.2.2.1,r605.1,w64 (v402.2.2+(1:Int)))) else none) else e0 (v402.1,v402.2.1)
noncomputable abbrev B0 (_:Nat):=b0
noncomputable def q0 (a1:Arg) (z607:((List (List UInt8))×Bool)):Option Out:=(laws_lwPages.sem (z607.1,a1.2.1.2.2.1,())).bind fun r608=>bif r608.1 then (bif z607.2 then (some (true,())) else (laws_lwRows.sem (a1.2.2.1,a1.2.2.2.1,())).bind fun r609=>some (r609.1,())) else some (false,())
noncomputable abbrev Q0 (_:Nat):=q0
noncomputable def s0 (k:Nat) (a1:Arg):((List (List UInt8))×Bool×Int)->Option Out:=fun v402=>D.L k [1,1,1,0,1,0,0] [2,3,5,9,10,11] [(9,(.slc false (.slc false .leaf)))] (blockC 0 (seqC (D.N k [1,1,1,1]) D.K0)) (T0 a1 v402)
noncomputable def r0 (k:Nat) (a1:Arg):((List (List UInt8))×Bool×Int)->Option Out:=rawIter (fun w v=>B0 k w (Q0 k a1) a1 v) k
theorem s0_eq (k:Nat) (a1:Arg):s0 k a1=r0 k a1:=
 funext fun v402=>iter_raw _ _ _ (T0 a1) _ (fun rec v=>by kernel_rfl) k v402
noncomputable def p (l0:((List (List UInt8))×Bool×Int)->Option Out) (a1:Arg):Option Out:=l0 (a1.1,false,(0:Int))
theorem raw_eq (k:Nat) (a1:Arg):@Eq (Option Out) (D.W k a1) (p (r0 k a1) a1):=
 Eq.trans (b:=p (s0 k a1) a1) (by kernel_rfl) (by rw[s0_eq])
theorem ok:Ok prog 21 D.sig:=fd_ok func21 tlOk (by kernel_rfl) (fc impl_RowsIn.ok (fc laws_lwRows.ok (fc laws_lwPages.ok (fc impl_ApplyEdits.ok (fn_nil _)))))
end laws_lwWay
namespace spec_l6RowsIn
abbrev Arg:Type:=(List (List UInt8))×Unit
abbrev Out:Type:=(List Row)×Unit
abbrev ps:PQ:=[(.ro,(.slc (.slc u8)))]
noncomputable def D:FD:={ fn:=f100,tl:=TL0,ps:=ps,rs:=[((.slc tRow),(ownMd (.slc tRow)))],gl:=[(198,spec_l6Seen.D.sig),(204,spec_l6Put.D.sig)],lv:=[(4,[3,4,5])],lx:=[(0,[3])] }
noncomputable def sem (a:Arg):Option Out:=@lift Out fun k=>D.W k a
noncomputable def T0 (a1:Arg) (c404:List L6Spot) (v403:(List Row)×Int):St:={ n:=24,sl:=[(3,.own (.slc tRow) (ownMd (.slc tRow)) [] v403.1),(4,.own (.slc tL6Spot) (ownMd (.slc tL6Spot)) [] c404),(5,.val i64 v403.2)],vr:=[],lent:=[] }
noncomputable def b0 (self:((List Row)×Int)->Option Out) (e0:(List Row)->Option Out) (a1:Arg) (c404:List L6Spot) (v403:(List Row)×Int):Option Out:=bif decide (v403.2 < (c404.length:Int)) then (if 0<=v403.2/\v403.2 < (c404.length:Int) then ((c404[v403.2.toNat]?).bind fun x605=>(spec_l6Put.sem (v403.1,x605.2.2.1.2.2.2.2.1,())).bind fun r606=>self (r606.1,w64 (v403.2+(1:Int)))) else none) else e0 v403.1
noncomputable abbrev B0 (_:Nat):=b0
noncomputable def q0 (a1:Arg) (c404:List L6Spot) (z607:(List Row)):Option Out:=some (z607,())
noncomputable abbrev Q0 (_:Nat):=q0
noncomputable def s0 (k:Nat) (a1:Arg):(List L6Spot)->((List Row)×Int)->Option Out:=fun c404=>fun v403=>D.L k [1,1,1,0,1,0,0] [3,4,5] [] (blockC 0 (seqC (D.N k [1,1,1,1]) D.K0)) (T0 a1 c404 v403)
noncomputable def r0 (k:Nat) (a1:Arg):(List L6Spot)->((List Row)×Int)->Option Out:=fun c404=>rawIter (fun w v=>B0 k w (Q0 k a1 c404) a1 c404 v) k
theorem s0_eq (k:Nat) (a1:Arg):s0 k a1=r0 k a1:=
 funext fun c404=>funext fun v403=>iter_raw _ _ _ (T0 a1 c404) _ (fun rec v=>by kernel_rfl) k v403
noncomputable def p (l0:(List L6Spot)->((List Row)×Int)->Option Out) (a1:Arg):Option Out:=(spec_l6Seen.sem (a1.1,())).bind fun r2=>l0 r2.1 (([]:List Row),(0:Int))
theorem raw_eq (k:Nat) (a1:Arg):@Eq (Option Out) (D.W k a1) (p (r0 k a1) a1):=
 Eq.trans (b:=p (s0 k a1) a1) (by kernel_rfl) (by rw[s0_eq])
theorem ok:Ok prog 100 D.sig:=fd_ok func100 tlOk (by kernel_rfl) (fc spec_l6Seen.ok (fc spec_l6Put.ok (fn_nil _)))
end spec_l6RowsIn
namespace spec_DrawUpdateEdits
abbrev Arg:Type:=(List UInt8)×Unit
abbrev Out:Type:=(List (List UInt8))×Row×Unit
abbrev ps:PQ:=[(.ro,(.slc u8))]
noncomputable def D:FD:={ fn:=f22,tl:=TL0,ps:=ps,rs:=[((.slc (.slc u8)),(.slc true (roMd (.slc u8)))),(tRow,(roMd tRow))],gl:=[(83,spec_l1Source.D.sig),(84,spec_l7Bent.D.sig),(85,spec_l1Bent.D.sig),(92,spec_l6Fault.D.sig),(99,spec_l1Chance.D.sig),(100,spec_l6RowsIn.D.sig),(101,spec_l1Next.D.sig)],od:=[(9,[0,1,2,3]),(10,[0,1,2,3])] }
noncomputable def sem (a:Arg):Option Out:=@lift Out fun k=>D.W k a
noncomputable def p (a1:Arg):Option Out:=(spec_l1Source.sem (a1.1,())).bind fun r2=>(spec_l7Bent.sem (r2.1,())).bind fun r3=>(spec_l1Bent.sem (r3.2.1,())).bind fun r4=>(spec_l6Fault.sem (r3.1,())).bind fun r5=>bif decide (r5.1=(0:Int)) then ((spec_l1Chance.sem (r4.2.1,(4:Int),())).bind fun r6=>bif !r6.1 then ((spec_l6RowsIn.sem (r3.1,())).bind fun r7=>bif decide ((0:Int) < (r7.1.length:Int)) then ((spec_l1Next.sem (r6.2.1,(r7.1.length:Int),())).bind fun r8=>if 0<=r8.1/\r8.1 < (r7.1.length:Int) then ((r7.1[r8.1.toNat]?).bind fun x9=>(spec_l1Next.sem (r8.2.1,(3:Int),())).bind fun r10=>if 0<=r10.1/\r10.1 < ([([]:List UInt8),([97,98]:List UInt8),([97,98,99,100,101,102,103,104]:List UInt8)].length:Int) then (([([]:List UInt8),([97,98]:List UInt8),([97,98,99,100,101,102,103,104]:List UInt8)][r10.1.toNat]?).bind fun x11=>some (r3.1,(x9.1,x9.2.1,x9.2.2.1,x11,x9.2.2.2.2),())) else none) else none) else some (r3.1,r4.1,())) else some (r3.1,r4.1,())) else some (r3.1,r4.1,())
theorem raw_eq (k:Nat) (a1:Arg):@Eq (Option Out) (D.W k a1) (p a1):=by kernel_rfl
theorem ok:Ok prog 22 D.sig:=fd_ok func22 tlOk (by kernel_rfl) (fc spec_l1Source.ok (fc spec_l7Bent.ok (fc spec_l1Bent.ok (fc spec_l6Fault.ok (fc spec_l1Chance.ok (fc spec_l6RowsIn.ok (fc spec_l1Next.ok (fn_nil _))))))))
end spec_DrawUpdateEdits
namespace impl_SetSlot
abbrev Arg:Type:=(List UInt8)×Int×(List UInt8)×Unit
abbrev Out:Type:=PageResult×Unit
abbrev ps:PQ:=[(.ro,(.slc u8)),(.ro,i64),(.ro,(.slc u8))]
noncomputable def D:FD:={ fn:=f303,tl:=TL0,ps:=ps,rs:=[(tPageResult,(ownMd tPageResult))],gl:=[(188,impl_slots.D.sig),(189,impl_hasSlot.D.sig),(286,impl_spot.D.sig),(359,impl_cellFault.D.sig),(360,impl_freeIn.D.sig),(361,impl_write.D.sig)] }
noncomputable def sem (a:Arg):Option Out:=@lift Out fun k=>D.W k a
noncomputable def p (a1:Arg):Option Out:=(impl_cellFault.sem (a1.1,a1.2.2.1,())).bind fun r2=>bif !decide (r2.1=(0:Int)) then (some ((r2.1,(0:Int),([]:List UInt8),()),())) else (impl_hasSlot.sem (a1.1,a1.2.1,())).bind fun r3=>bif !r3.1 then (some (((4:Int),(0:Int),([]:List UInt8),()),())) else (impl_spot.sem (a1.1,a1.2.1,())).bind fun r4=>bif decide ((a1.2.2.1.length:Int)<=r4.2.1) then ((impl_write.sem (a1.1,a1.2.1,w64 ((w64 (r4.1+r4.2.1)) - (a1.2.2.1.length:Int)),a1.2.2.1,())).bind fun r5=>some (((0:Int),a1.2.1,r5.1,()),())) else (impl_freeIn.sem (a1.1,())).bind fun r6=>bif decide (w64 (r6.1+r4.2.1) < (a1.2.2.1.length:Int)) then (some (((9:Int),(0:Int),([]:List UInt8),()),())) else (a1.1[1]?).bind fun x7=>(impl_slots.sem (a1.1,())).bind fun r8=>bif decide (w64 ((w64 (x7.toNat:Int)) - (w64 ((2:Int)+(w64 ((2:Int)*r8.1))))) < (a1.2.2.1.length:Int)) then (some (((8:Int),(0:Int),([]:List UInt8),()),())) else (impl_write.sem (a1.1,a1.2.1,w64 ((w64 (x7.toNat:Int)) - (a1.2.2.1.length:Int)),a1.2.2.1,())).bind fun r9=>if 0<=(1:Int)/\(1:Int) < (r9.1.length:Int) then ((r9.1[1]?).bind fun x10=>let y11:=r9.1.set 1 (UInt8.ofInt (w64 ((w64 (x7.toNat:Int)) - (a1.2.2.1.length:Int))));some (((0:Int),a1.2.1,y11,()),())) else none
theorem raw_eq (k:Nat) (a1:Arg):@Eq (Option Out) (D.W k a1) (p a1):=by kernel_rfl
theorem ok:Ok prog 303 D.sig:=fd_ok func303 tlOk (by kernel_rfl) (fc impl_slots.ok (fc impl_hasSlot.ok (fc impl_spot.ok (fc impl_cellFault.ok (fc impl_freeIn.ok (fc impl_write.ok (fn_nil _)))))))
end impl_SetSlot
namespace impl_desk_turn
abbrev Arg:Type:=L7Work×Int×Int×(List UInt8)×Unit
abbrev Out:Type:=Bool×L7Work×Unit
abbrev ps:PQ:=[(.mutp (ownMd tL7Work),tL7Work),(.ro,i64),(.ro,i64),(.ro,(.slc u8))]
noncomputable def D:FD:={ fn:=f205,tl:=TL0,ps:=ps,rs:=[(.bool,(roMd .bool))],gl:=[(290,impl_desk_compact.D.sig),(291,impl_desk_edit.D.sig),(303,impl_SetSlot.D.sig)],es:=[0] }
noncomputable def sem (a:Arg):Option Out:=@lift Out fun k=>D.W k a
noncomputable def p (a1:Arg):Option Out:=if 0<=a1.2.1/\a1.2.1 < (a1.1.1.length:Int) then ((a1.1.1[a1.2.1.toNat]?).bind fun x2=>(a1.1.1[a1.2.1.toNat]?).bind fun x3=>(impl_SetSlot.sem (x3,a1.2.2.1,a1.2.2.2.1,())).bind fun r4=>bif decide (r4.1.1=(8:Int)) then ((impl_desk_compact.sem (a1.1,a1.2.1,())).bind fun r5=>if 0<=a1.2.1/\a1.2.1 < (r5.1.1.length:Int) then ((r5.1.1[a1.2.1.toNat]?).bind fun x6=>(r5.1.1[a1.2.1.toNat]?).bind fun x7=>(impl_SetSlot.sem (x7,a1.2.2.1,a1.2.2.2.1,())).bind fun r8=>bif !decide (r8.1.1=(0:Int)) then (some (false,r5.1,())) else (impl_desk_edit.sem (r5.1,a1.2.1,r8.1.2.2.1,())).bind fun r10=>some (true,r10.1,())) else none) else bif !decide (r4.1.1=(0:Int)) then (some (false,a1.1,())) else (impl_desk_edit.sem (a1.1,a1.2.1,r4.1.2.2.1,())).bind fun r11=>some (true,r11.1,())) else none
theorem raw_eq (k:Nat) (a1:Arg):@Eq (Option Out) (D.W k a1) (p a1):=by kernel_rfl
theorem ok:Ok prog 205 D.sig:=fd_ok func205 tlOk (by kernel_rfl) (fc impl_desk_compact.ok (fc impl_desk_edit.ok (fc impl_SetSlot.ok (fn_nil _))))
end impl_desk_turn
namespace impl_stub
abbrev Arg:Type:=Int×Int×Unit
abbrev Out:Type:=(List UInt8)×Unit
abbrev ps:PQ:=[(.ro,i64),(.ro,i64)]
noncomputable def D:FD:={ fn:=f206,tl:=TL0,ps:=ps,rs:=[((.slc u8),(ownMd (.slc u8)))] }
noncomputable def sem (a:Arg):Option Out:=@lift Out fun k=>D.W k a
noncomputable def p (a1:Arg):Option Out:=some ([(1:UInt8),UInt8.ofInt a1.1,UInt8.ofInt a1.2.1],())
theorem raw_eq (k:Nat) (a1:Arg):@Eq (Option Out) (D.W k a1) (p a1):=by kernel_rfl
theorem ok:Ok prog 206 D.sig:=fd_ok func206 tlOk (by kernel_rfl) (fn_nil _)
end impl_stub
namespace impl_DropSlot
abbrev Arg:Type:=(List UInt8)×Int×Unit
abbrev Out:Type:=PageResult×Unit
abbrev ps:PQ:=[(.ro,(.slc u8)),(.ro,i64)]
noncomputable def D:FD:={ fn:=f304,tl:=TL0,ps:=ps,rs:=[(tPageResult,(ownMd tPageResult))],gl:=[(120,impl_copied.D.sig),(187,impl_PageFault.D.sig),(189,impl_hasSlot.D.sig)],lv:=[(9,[1,4,6])],lx:=[(0,[1,4,6])] }
noncomputable def sem (a:Arg):Option Out:=@lift Out fun k=>D.W k a
noncomputable def T0 (a1:Arg) (v409:List UInt8):St:={ n:=54,sl:=[(1,.val i64 a1.2.1),(4,.box tPageResult (ownMd tPageResult) [] ((0:Int),(0:Int),([]:List UInt8),())),(6,.own (.slc u8) (ownMd (.slc u8)) [] v409)],vr:=[],lent:=[] }
noncomputable def b0 (self:(List UInt8)->Option Out) (e0:(List UInt8)->Option Out) (a1:Arg) (v409:List UInt8):Option Out:=if 0<=(0:Int)/\(0:Int) < (v409.length:Int) then ((v409[0]?).bind fun x610=>bif decide ((0:Int) < (x610.toNat:Int)) then (if 0<=(0:Int)/\(0:Int) < (v409.length:Int) then ((v409[0]?).bind fun x611=>if 0<=w64 ((w64 ((2:Int)*(w64 (x611.toNat:Int))))+(1:Int))/\w64 ((w64 ((2:Int)*(w64 (x611.toNat:Int))))+(1:Int)) < (v409.length:Int) then ((v409[(w64 ((w64 ((2:Int)*(w64 (x611.toNat:Int))))+(1:Int))).toNat]?).bind fun x612=>bif decide ((x612.toNat:Int)=(0:Int)) then (if 0<=(0:Int)/\(0:Int) < (v409.length:Int) then ((v409[0]?).bind fun x613=>if 0<=(0:Int)/\(0:Int) < (v409.length:Int) then ((v409[0]?).bind fun x614=>let y615:=v409.set 0 (UInt8.ofInt ((x613.toNat:Int) - (1:Int)));self y615) else none) else none) else e0 v409) else none) else none) else e0 v409) else none
noncomputable abbrev B0 (_:Nat):=b0
noncomputable def q0 (a1:Arg) (z616:(List UInt8)):Option Out:=some (((0:Int),a1.2.1,z616,()),())
noncomputable abbrev Q0 (_:Nat):=q0
noncomputable def s0 (k:Nat) (a1:Arg):(List UInt8)->Option Out:=fun v409=>D.L k [1,1,1,1,1,1,0,0,0] [1,4,6] [] (blockC 0 (seqC (D.N k [1,1,1,1,1,1,1]) D.K0)) (T0 a1 v409)
noncomputable def r0 (k:Nat) (a1:Arg):(List UInt8)->Option Out:=rawIter (fun w v=>B0 k w (Q0 k a1) a1 v) k
theorem s0_eq (k:Nat) (a1:Arg):s0 k a1=r0 k a1:=
 funext fun v409=>iter_raw _ _ _ (T0 a1) _ (fun rec v=>by kernel_rfl) k v409
noncomputable def p (l0:(List UInt8)->Option Out) (a1:Arg):Option Out:=(impl_PageFault.sem (a1.1,())).bind fun r2=>bif !decide (r2.1=(0:Int)) then (some ((r2.1,(0:Int),([]:List UInt8),()),())) else (impl_hasSlot.sem (a1.1,a1.2.1,())).bind fun r3=>bif !r3.1 then (some (((4:Int),(0:Int),([]:List UInt8),()),())) else (impl_copied.sem (a1.1,())).bind fun r4=>if 0<=w64 ((2:Int)+(w64 ((2:Int)*a1.2.1)))/\w64 ((2:Int)+(w64 ((2:Int)*a1.2.1))) < (r4.1.length:Int) then ((r4.1[(w64 ((2:Int)+(w64 ((2:Int)*a1.2.1)))).toNat]?).bind fun x5=>let y6:=r4.1.set (w64 ((2:Int)+(w64 ((2:Int)*a1.2.1)))).toNat (0:UInt8);if 0<=w64 ((3:Int)+(w64 ((2:Int)*a1.2.1)))/\w64 ((3:Int)+(w64 ((2:Int)*a1.2.1))) < (y6.length:Int) then ((y6[(w64 ((3:Int)+(w64 ((2:Int)*a1.2.1)))).toNat]?).bind fun x7=>let y8:=y6.set (w64 ((3:Int)+(w64 ((2:Int)*a1.2.1)))).toNat (0:UInt8);l0 y8) else none) else none
theorem raw_eq (k:Nat) (a1:Arg):@Eq (Option Out) (D.W k a1) (p (r0 k a1) a1):=
 Eq.trans (b:=p (s0 k a1) a1) (by kernel_rfl) (by rw[s0_eq])
theorem ok:Ok prog 304 D.sig:=fd_ok func304 tlOk (by kernel_rfl) (fc impl_copied.ok (fc impl_PageFault.ok (fc impl_hasSlot.ok (fn_nil _))))
end impl_DropSlot
namespace impl_desk_drop
abbrev Arg:Type:=L7Work×Int×Int×Unit
abbrev Out:Type:=L7Work×Unit
abbrev ps:PQ:=[(.mutp (ownMd tL7Work),tL7Work),(.ro,i64),(.ro,i64)]
noncomputable def D:FD:={ fn:=f207,tl:=TL0,ps:=ps,rs:=[],gl:=[(291,impl_desk_edit.D.sig),(304,impl_DropSlot.D.sig)],es:=[0] }
noncomputable def sem (a:Arg):Option Out:=@lift Out fun k=>D.W k a
noncomputable def p (a1:Arg):Option Out:=if 0<=a1.2.1/\a1.2.1 < (a1.1.1.length:Int) then ((a1.1.1[a1.2.1.toNat]?).bind fun x2=>(a1.1.1[a1.2.1.toNat]?).bind fun x3=>(impl_DropSlot.sem (x3,a1.2.2.1,())).bind fun r4=>(impl_desk_edit.sem (a1.1,a1.2.1,r4.1.2.2.1,())).bind fun r5=>some (r5.1,())) else none
theorem raw_eq (k:Nat) (a1:Arg):@Eq (Option Out) (D.W k a1) (p a1):=by kernel_rfl
theorem ok:Ok prog 207 D.sig:=fd_ok func207 tlOk (by kernel_rfl) (fc impl_desk_edit.ok (fc impl_DropSlot.ok (fn_nil _)))
end impl_desk_drop
namespace impl_desk_update
abbrev Arg:Type:=L7Work×Seen×Row×Unit
abbrev Out:Type:=Bool×L7Work×Unit
abbrev ps:PQ:=[(.mutp (ownMd tL7Work),tL7Work),(.ro,tSeen),(.ro,tRow)]
noncomputable def D:FD:={ fn:=f102,tl:=TL0,ps:=ps,rs:=[(.bool,(roMd .bool))],gl:=[(193,impl_desk_place.D.sig),(194,impl_cell.D.sig),(205,impl_desk_turn.D.sig),(206,impl_stub.D.sig),(207,impl_desk_drop.D.sig)],es:=[0],od:=[(6,[0,1,2,3,4,5,6,7,8]),(8,[0,1,3,4,2,5,6,7,8,9,10,11,12]),(11,[0,1,2,3,4,5,6,7,8])] }
noncomputable def sem (a:Arg):Option Out:=@lift Out fun k=>D.W k a
noncomputable def p (a1:Arg):Option Out:=bif (Ty.eq tRow a1.2.1.1 a1.2.2.1) then (some (true,a1.1,())) else let j10:=fun (p9:Int)=>((impl_cell.sem (p9,a1.2.2.1,())).bind fun r11=>(impl_desk_turn.sem (a1.1,a1.2.1.2.2.2.2.1,a1.2.1.2.2.2.2.2.1,r11.1,())).bind fun r12=>bif r12.1 then (some (true,r12.2.1,())) else (impl_cell.sem ((2:Int),a1.2.2.1,())).bind fun r13=>(impl_desk_place.sem (r12.2.1,r13.1,a1.2.1.2.2.2.2.1,())).bind fun r14=>bif !r14.2.2.1 then (some (false,r14.2.2.2.1,())) else (impl_stub.sem (r14.1,r14.2.1,())).bind fun r15=>(impl_desk_turn.sem (r14.2.2.2.1,a1.2.1.2.1,a1.2.1.2.2.1,r15.1,())).bind fun r16=>bif a1.2.1.2.2.2.1 then ((impl_desk_drop.sem (r16.2.1,a1.2.1.2.2.2.2.1,a1.2.1.2.2.2.2.2.1,())).bind fun r17=>some (true,r17.1,())) else some (true,r16.2.1,()):Option Out);bif a1.2.1.2.2.2.1 then (j10 (2:Int)) else j10 (0:Int)
theorem raw_eq (k:Nat) (a1:Arg):@Eq (Option Out) (D.W k a1) (p a1):=by kernel_rfl
theorem ok:Ok prog 102 D.sig:=fd_ok func102 tlOk (by kernel_rfl) (fc impl_desk_place.ok (fc impl_cell.ok (fc impl_desk_turn.ok (fc impl_stub.ok (fc impl_desk_drop.ok (fn_nil _))))))
end impl_desk_update
namespace impl_UpdateEdits
abbrev Arg:Type:=(List (List UInt8))×Row×Unit
abbrev Out:Type:=EditsResult×Unit
abbrev ps:PQ:=[(.ro,(.slc (.slc u8))),(.ro,tRow)]
noncomputable def D:FD:={ fn:=f23,tl:=TL0,ps:=ps,rs:=[(tEditsResult,(ownMd tEditsResult))],gl:=[(86,impl_view.D.sig),(87,impl_RowFault.D.sig),(88,impl_find.D.sig),(89,impl_deskOf.D.sig),(90,impl_desk_done.D.sig),(102,impl_desk_update.D.sig)] }
noncomputable def sem (a:Arg):Option Out:=@lift Out fun k=>D.W k a
noncomputable def p (a1:Arg):Option Out:=(impl_view.sem (a1.1,())).bind fun r2=>let j9:=fun (p8:Int)=>(bif !decide (p8=(0:Int)) then (some ((p8,([]:List Edit),([]:List (List UInt8)),()),())) else (impl_find.sem (r2.1,a1.2.1.1,a1.2.1.2.1,())).bind fun r10=>bif !r10.2.1 then (some (((4:Int),([]:List Edit),([]:List (List UInt8)),()),())) else (impl_deskOf.sem (a1.1,())).bind fun r11=>(impl_desk_update.sem (r11.1,r10.1,a1.2.1,())).bind fun r12=>(impl_desk_done.sem (r12.2.1,r12.1,())).bind fun r13=>some (r13.1,()):Option Out);bif decide (r2.2.1=(0:Int)) then ((impl_RowFault.sem (a1.2.1,())).bind fun r3=>j9 r3.1) else j9 r2.2.1
theorem raw_eq (k:Nat) (a1:Arg):@Eq (Option Out) (D.W k a1) (p a1):=by kernel_rfl
theorem ok:Ok prog 23 D.sig:=fd_ok func23 tlOk (by kernel_rfl) (fc impl_view.ok (fc impl_RowFault.ok (fc impl_find.ok (fc impl_deskOf.ok (fc impl_desk_done.ok (fc impl_desk_update.ok (fn_nil _)))))))
end impl_UpdateEdits
namespace spec_UpdateEdits
abbrev Arg:Type:=(List (List UInt8))×Row×Unit
abbrev Out:Type:=EditsResult×Unit
abbrev ps:PQ:=[(.ro,(.slc (.slc u8))),(.ro,tRow)]
noncomputable def D:FD:={ fn:=f24,tl:=TL0,ps:=ps,rs:=[(tEditsResult,(ownMd tEditsResult))],gl:=[(92,spec_l6Fault.D.sig),(93,spec_l7Bad.D.sig),(94,spec_l1Fault.D.sig),(95,spec_l6Find.D.sig),(103,spec_l7Update.D.sig)] }
noncomputable def sem (a:Arg):Option Out:=@lift Out fun k=>D.W k a
noncomputable def p (a1:Arg):Option Out:=(spec_l6Fault.sem (a1.1,())).bind fun r2=>bif !decide (r2.1=(0:Int)) then ((spec_l7Bad.sem (r2.1,())).bind fun r3=>some (r3.1,())) else (spec_l1Fault.sem (a1.2.1,())).bind fun r4=>bif !decide (r4.1=(0:Int)) then ((spec_l7Bad.sem (r4.1,())).bind fun r5=>some (r5.1,())) else (spec_l6Find.sem (a1.1,a1.2.1.1,a1.2.1.2.1,())).bind fun r6=>bif !r6.2.1 then ((spec_l7Bad.sem ((4:Int),())).bind fun r7=>some (r7.1,())) else (spec_l7Update.sem (a1.1,r6.1,a1.2.1,())).bind fun r8=>some (r8.1,())
theorem raw_eq (k:Nat) (a1:Arg):@Eq (Option Out) (D.W k a1) (p a1):=by kernel_rfl
theorem ok:Ok prog 24 D.sig:=fd_ok func24 tlOk (by kernel_rfl) (fc spec_l6Fault.ok (fc spec_l7Bad.ok (fc spec_l1Fault.ok (fc spec_l6Find.ok (fc spec_l7Update.ok (fn_nil _))))))
end spec_UpdateEdits
namespace laws_FnUpdates
abbrev Arg:Type:=(List UInt8)×Unit
abbrev Out:Type:=Bool×Unit
abbrev ps:PQ:=[(.ro,(.slc u8))]
noncomputable def D:FD:={ fn:=f4,tl:=TL0,ps:=ps,rs:=[(.bool,(roMd .bool))],gl:=[(13,laws_lwBig.D.sig),(17,impl_RowsIn.D.sig),(18,impl_FindRow.D.sig),(19,laws_lwRows.D.sig),(20,laws_lwBut.D.sig),(21,laws_lwWay.D.sig),(22,spec_DrawUpdateEdits.D.sig),(23,impl_UpdateEdits.D.sig),(24,spec_UpdateEdits.D.sig),(25,laws_lwPages.D.sig)],od:=[(6,[0,1,4,5,2,3,6,7]),(10,[0,1,2,3,4,5,6,7,8,9,10,11,12,13,14,15,16,17,18,19,20,22,23,24,25,26,21,27,28,29,30,31,32,33,34,35,36,37,38,39,40,41,42,43,44,45,46,47])],ar:=[(10,[1,5,10,11,16,18,20,24,26,32,35,40,42])],bx:=[(10,[4,5,7,8])] }
noncomputable def sem (a:Arg):Option Out:=@lift Out fun k=>D.W k a
noncomputable def p (a1:Arg):Option Out:=(laws_lwBig.sem (a1.1,())).bind fun r2=>bif r2.1 then (some (true,())) else (spec_DrawUpdateEdits.sem (a1.1,())).bind fun r3=>(impl_UpdateEdits.sem (r3.1,r3.2.1,())).bind fun r4=>bif !decide (r4.1.1=(0:Int)) then ((spec_UpdateEdits.sem (r3.1,r3.2.1,())).bind fun r5=>some (decide (r5.1.1=r4.1.1),())) else (impl_RowsIn.sem (r3.1,())).bind fun r6=>(impl_RowsIn.sem (r4.1.2.2.1,())).bind fun r7=>(impl_FindRow.sem (r4.1.2.2.1,r3.2.1.1,r3.2.1.2.1,())).bind fun r8=>bif decide (r7.1.1=(0:Int)) then (bif decide (r8.1.1=(0:Int)) then (bif (Ty.eq tRow r8.1.2.2.2.1 r3.2.1) then ((laws_lwBut.sem (r7.1.2.1,r3.2.1.1,r3.2.1.2.1,())).bind fun r9=>(laws_lwBut.sem (r6.1.2.1,r3.2.1.1,r3.2.1.2.1,())).bind fun r10=>(laws_lwRows.sem (r9.1,r10.1,())).bind fun r11=>bif r11.1 then ((laws_lwWay.sem (r3.1,r4.1,r6.1.2.1,r7.1.2.1,())).bind fun r12=>bif r12.1 then ((spec_UpdateEdits.sem (r3.1,r3.2.1,())).bind fun r13=>(laws_lwPages.sem (r4.1.2.2.1,r13.1.2.2.1,())).bind fun r14=>some (r14.1,())) else some (false,())) else some (false,())) else some (false,())) else some (false,())) else some (false,())
theorem raw_eq (k:Nat) (a1:Arg):@Eq (Option Out) (D.W k a1) (p a1):=by kernel_rfl
theorem ok:Ok prog 4 D.sig:=fd_ok func4 tlOk (by kernel_rfl) (fc laws_lwBig.ok (fc impl_RowsIn.ok (fc impl_FindRow.ok (fc laws_lwRows.ok (fc laws_lwBut.ok (fc laws_lwWay.ok (fc spec_DrawUpdateEdits.ok (fc impl_UpdateEdits.ok (fc spec_UpdateEdits.ok (fc laws_lwPages.ok (fn_nil _)))))))))))
end laws_FnUpdates
end OT
set_option linter.unusedVariables false
set_option linter.unusedSimpArgs false
namespace OT
open Go
end OT
set_option linter.unusedVariables false
set_option linter.unusedSimpArgs false
namespace OT
open Go
theorem specIn_eq (a b c:Int):spec_l1In.sem (a,b,c,())=some (decide (b<=a)&&decide (a<=c),()):=by
 refine lift_eq (k:=0) fun k _=>(spec_l1In.raw_eq k _).trans ?_
 show spec_l1In.p _=_
 unfold spec_l1In.p
 by_cases h:b<=a <;> simp[h]
theorem implIn_eq (a b c:Int):impl_in.sem (a,b,c,())=some (decide (b<=a)&&decide (a<=c),()):=by
 refine lift_eq (k:=0) fun k _=>(impl_in.raw_eq k _).trans ?_
 show impl_in.p _=_
 unfold impl_in.p
 by_cases h:b<=a <;> simp[h]
def inB (a b c:Int):Bool:=decide (b<=a)&&decide (a<=c)
theorem implCopied_eq (s:List UInt8) (h:s.length<=200000000000):impl_copied.sem (s,())=some (s,()):=by
 refine lift_eq (k:=0) fun k _=>(impl_copied.raw_eq k _).trans ?_
 show impl_copied.p _=_
 unfold impl_copied.p
 have:([]:List UInt8).length+s.length<=CAP:=cap_ok (by simpa using h)
 rw[if_pos this,List.nil_append]
theorem specCopy_eq (s:List UInt8) (h:s.length<=200000000000):spec_l2Copy.sem (s,())=some (s,()):=by
 refine lift_eq (k:=0) fun k _=>(spec_l2Copy.raw_eq k _).trans ?_
 show spec_l2Copy.p _=_
 unfold spec_l2Copy.p
 have:([]:List UInt8).length+s.length<=CAP:=cap_ok (by simpa using h)
 rw[if_pos this,List.nil_append]
theorem forI_fold {S O α:Type} {g:S->α->S} {fin:S->O}:∀ (xs:List α) (i:Nat) (s:S),forI (fun _ s x=>.inr (g s x)) fin i xs s=fin (xs.foldl g s)
 | [],_,_=>rfl
 | x::xs,i,s=>by simp only[forI,List.foldl_cons];exact forI_fold xs _ _
theorem fold_self {α:Type}:∀ (xs s:List α),xs.foldl (fun s x=>s++[x]) s=s++xs
 | [],s=>by simp
 | x::xs,s=>by rw[List.foldl_cons,fold_self];simp
abbrev Pages:Type:=List (List UInt8)
def gp (ps:Pages):Prop:=ps.length<=12/\∀ p ∈ ps,p.length=64
def newF:List UInt8:=((List.replicate 64 (0:UInt8)).set 0 0).set 1 64
theorem implCopies_eq (ps:Pages) (h:gp ps):impl_copies.sem (ps,())=some (ps,()):=by
 obtain ⟨h1,h2⟩:=h
 refine lift_eq (k:=14) fun k hk=>(impl_copies.raw_eq k _).trans ?_
 have:=for_loop (B:=fun self v=>impl_copies.B0 0 self (fun z=>impl_copies.Q0 0 (ps,()) z) (ps,()) v) ps (fun (s:Pages) (i:Int)=>(s,i)) (fun _ s x=>.inr (s++[x])) (fun s=>(s,())) (fun i s=>s.length=i) (by rw[maxLen_val];omega)
  (fun i hi s self hI=>by
   show impl_copies.b0 _ _ _ _=_
   unfold impl_copies.b0
   have hlt:(i:Int) < (ps.length:Int):=by omega
   have hx:=h2 ps[i] (List.getElem_mem hi)
   simp only[hlt,decide_true,cond_true,Int.natCast_nonneg,if_true,Int.toNat_natCast,List.getElem?_eq_getElem hi,Option.bind_some]
   rw[implCopied_eq _ (by omega)]
   have hc:s.length+[ps[i]].length<=CAP:=cap_ok (by simp only[List.length_cons,List.length_nil];omega)
   simp only[Option.bind_some,hc,if_true])
  (fun i hi s s' hI hs=>by injection hs with hs;rw[<-hs];simp[hI]) (fun s self hI=>by
   show impl_copies.b0 _ _ _ _=_
   unfold impl_copies.b0
   simp only[Int.lt_irrefl,decide_false,cond_false]
   rfl) [] rfl k (by omega)
 rw[forI_fold,fold_self] at this
 exact this
theorem specCopies_eq (ps:Pages) (h:gp ps):spec_l7Copy.sem (ps,())=some (ps,()):=by
 obtain ⟨h1,h2⟩:=h
 refine lift_eq (k:=14) fun k hk=>(spec_l7Copy.raw_eq k _).trans ?_
 have:=for_loop (B:=fun self v=>spec_l7Copy.B0 0 self (fun z=>spec_l7Copy.Q0 0 (ps,()) z) (ps,()) v) ps (fun (s:Pages) (i:Int)=>(s,i)) (fun _ s x=>.inr (s++[x])) (fun s=>(s,())) (fun i s=>s.length=i) (by rw[maxLen_val];omega)
  (fun i hi s self hI=>by
   show spec_l7Copy.b0 _ _ _ _=_
   unfold spec_l7Copy.b0
   have hlt:(i:Int) < (ps.length:Int):=by omega
   have hx:=h2 ps[i] (List.getElem_mem hi)
   simp only[hlt,decide_true,cond_true,Int.natCast_nonneg,if_true,Int.toNat_natCast,List.getElem?_eq_getElem hi,Option.bind_some]
   rw[specCopy_eq _ (by omega)]
   have hc:s.length+[ps[i]].length<=CAP:=cap_ok (by simp only[List.length_cons,List.length_nil];omega)
   simp only[Option.bind_some,hc,if_true])
  (fun i hi s s' hI hs=>by injection hs with hs;rw[<-hs];simp[hI]) (fun s self hI=>by
   show spec_l7Copy.b0 _ _ _ _=_
   unfold spec_l7Copy.b0
   simp only[Int.lt_irrefl,decide_false,cond_false]
   rfl) [] rfl k (by omega)
 rw[forI_fold,fold_self] at this
 exact this
end OT
set_option linter.unusedVariables false
set_option linter.unusedSimpArgs false
namespace OT
open Go
def letter (c:UInt8):Bool:=!decide ((c.toNat:Int) < 97)&&!decide ((122:Int) < (c.toNat:Int))
def textB (s:List UInt8):Bool:=s.all letter&&decide (s.length<=8)
def rowF (x:Row):Int:=if inB x.1 0 3&&(inB x.2.1 1 99&&inB x.2.2.1 0 999) then (if textB x.2.2.2.1 then 0 else 5) else 3
theorem len8 (s:List UInt8):decide ((s.length:Int)<=8)=decide (s.length<=8):=by
 by_cases h:s.length<=8
 ·have:(s.length:Int)<=8:=by omega
  simp[h,this]
 ·have:¬ (s.length:Int)<=8:=by omega
  simp[h,this]
theorem specText_eq (s:List UInt8) (h:s.length<=maxLen):spec_l1Text.sem (s,())=some (textB s,()):=by
 refine lift_eq (k:=s.length+1) fun k hk=>(spec_l1Text.raw_eq k _).trans ?_
 have:=for_loop (B:=fun self v=>spec_l1Text.B0 0 self (fun z=>spec_l1Text.Q0 0 (s,()) z) (s,()) v) s (fun (_:Unit) (i:Int)=>i) (fun _ _ x=>if letter x then .inr () else .inl (false,())) (fun _=>(decide (s.length<=8),())) (fun _ _=>True) h
  (fun i hi _ self _=>by
   show spec_l1Text.b0 _ _ _ _=_
   unfold spec_l1Text.b0
   have hlt:(i:Int) < (s.length:Int):=by omega
   simp only[hlt,decide_true,cond_true,Int.natCast_nonneg,if_true,Int.toNat_natCast,List.getElem?_eq_getElem hi,Option.bind_some]
   unfold letter
   by_cases h1:((s[i].toNat:Int) < 97) <;> by_cases h2:((122:Int) < (s[i].toNat:Int)) <;> simp[h1,h2]) (fun _ _ _ _ _ _=>trivial) (fun _ self _=>by
   show spec_l1Text.b0 _ _ _ _=_
   unfold spec_l1Text.b0
   simp[spec_l1Text.Q0,spec_l1Text.q0,len8]) () trivial k (by omega)
 refine this.trans ?_
 rw[forI_check letter (false,()) (fun _=>(decide (s.length<=8),()))]
 unfold textB
 cases s.all letter <;> rfl
theorem specRow_eq (x:Row) (h:List.length x.2.2.2.1<=maxLen):spec_l1Fault.sem (x,())=some (rowF x,()):=by
 refine lift_eq (k:=0) fun k _=>(spec_l1Fault.raw_eq k _).trans ?_
 show spec_l1Fault.p _=_
 unfold spec_l1Fault.p rowF inB
 simp only[specIn_eq,specText_eq _ h,Option.bind_some]
 cases decide ((0:Int)<=x.1) <;> cases decide (x.1<=3) <;> cases decide ((1:Int)<=x.2.1) <;> cases decide (x.2.1<=99) <;> cases decide ((0:Int)<=x.2.2.1) <;> cases decide (x.2.2.1<=999) <;> cases textB x.2.2.2.1 <;> rfl
theorem implRow_eq (x:Row) (h:List.length x.2.2.2.1<=maxLen):impl_RowFault.sem (x,())=some (rowF x,()):=by
 refine lift_eq (k:=List.length x.2.2.2.1+1) fun k hk=>(impl_RowFault.raw_eq k _).trans ?_
 have:=for_loop (B:=fun self v=>impl_RowFault.B0 0 self (fun z=>impl_RowFault.Q0 0 (x,()) z) (x,()) v) x.2.2.2.1 (fun (_:Unit) (i:Int)=>i) (fun _ _ c=>if letter c then .inr () else .inl (5,())) (fun _=>(0,())) (fun _ _=>True) h
  (fun i hi _ self _=>by
   show impl_RowFault.b0 _ _ _ _=_
   unfold impl_RowFault.b0
   have hlt:(i:Int) < (List.length x.2.2.2.1:Int):=by omega
   simp only[hlt,decide_true,cond_true,Int.natCast_nonneg,if_true,Int.toNat_natCast,List.getElem?_eq_getElem hi,Option.bind_some]
   unfold letter
   by_cases h1:(((x.2.2.2.1)[i].toNat:Int) < 97) <;> by_cases h2:((122:Int) < ((x.2.2.2.1)[i].toNat:Int)) <;> simp[h1,h2]) (fun _ _ _ _ _ _=>trivial) (fun _ self _=>by
   show impl_RowFault.b0 _ _ _ _=_
   unfold impl_RowFault.b0
   simp[impl_RowFault.Q0,impl_RowFault.q0]) () trivial k (by omega)
 rw[forI_check letter (5,()) (fun _=>(0,()))] at this
 have this:impl_RowFault.r0 k (x,()) 0=_:=this
 unfold impl_RowFault.p rowF inB textB
 simp only[implIn_eq,this,Option.bind_some]
 have h8:decide ((8:Int) < (List.length x.2.2.2.1:Int))=!decide (List.length x.2.2.2.1<=8):=by
  by_cases hc:List.length x.2.2.2.1<=8
  ·have:¬ (8:Int) < (List.length x.2.2.2.1:Int):=by omega
   simp[hc,this]
  ·have:(8:Int) < (List.length x.2.2.2.1:Int):=by omega
   simp[hc,this]
 rw[h8]
 cases decide ((0:Int)<=x.1) <;> cases decide (x.1<=3) <;> cases decide ((1:Int)<=x.2.1) <;> cases decide (x.2.1<=99) <;> cases decide ((0:Int)<=x.2.2.1) <;> cases decide (x.2.2.1<=999) <;> cases decide (List.length x.2.2.2.1<=8) <;> cases (x.2.2.2.1).all letter <;> rfl
def rl (x:Row):Prop:=List.length x.2.2.2.1<=maxLen
def cl (c:Change):Prop:=rl c.2.1/\rl c.2.2.2.1
def befB (a b:Int×Int):Bool:=decide (a.1 < b.1)||(decide (a.1=b.1)&&decide (a.2 < b.2))
theorem isBefore_eq (a b:Row):impl_IsBefore.sem (a,b,())=some (befB (a.1,a.2.1) (b.1,b.2.1),()):=by
 refine lift_eq (k:=0) fun k _=>(impl_IsBefore.raw_eq k _).trans ?_
 show impl_IsBefore.p _=_
 unfold impl_IsBefore.p befB
 by_cases h1:a.1 < b.1 <;> by_cases h2:a.1=b.1 <;> simp[h1,h2]
theorem order_eq (a b:Row):impl_order.sem (a,b,())=some (if befB (a.1,a.2.1) (b.1,b.2.1) then -1 else if befB (b.1,b.2.1) (a.1,a.2.1) then 1 else 0,()):=by
 refine lift_eq (k:=0) fun k _=>(impl_order.raw_eq k _).trans ?_
 show impl_order.p _=_
 unfold impl_order.p
 simp only[isBefore_eq,Option.bind_some]
 cases befB (a.1,a.2.1) (b.1,b.2.1) <;> cases befB (b.1,b.2.1) (a.1,a.2.1) <;> rfl
end OT
set_option linter.unusedVariables false
set_option linter.unusedSimpArgs false
namespace OT
open Go
theorem for_loopE {V S O α:Type} {B:(V->Option O)->V->Option O} (xs:List α) (enc:S->Int->V) (f:Nat->S->α->Sum (Option O) S) (fin:S->Option O) (I:Nat->S->Prop) (hmax:xs.length<=maxLen)
  (hin:∀ (i:Nat) (hi:i < xs.length) (s:S) self,I i s->B self (enc s (i:Int))=match f i s xs[i] with | .inl o=>o | .inr s'=>self (enc s' (w64 ((i:Int)+1))))
  (hI:∀ (i:Nat) (hi:i < xs.length) (s s':S),I i s->f i s xs[i]=.inr s'->I (i+1) s')
  (hout:∀ (s:S) self,I xs.length s->B self (enc s (xs.length:Int))=fin s) (s:S) (h0:I 0 s):∀ k,xs.length < k->rawIter B k (enc s 0)=forI f fin 0 xs s:=by
 have main:∀ (m i:Nat) (s:S),xs.length - i=m->i<=xs.length->I i s->∀ k,m < k->rawIter B k (enc s (i:Int))=forI f fin i (xs.drop i) s:=by
  intro m
  induction m with
  | zero=>
   intro i s hm hi hs k hk
   have hi':i=xs.length:=by omega
   subst hi'
   cases k with
   | zero=>omega
   | succ k=>
    show B (rawIter B k) _=_
    rw[hout s _ hs]
    simp[forI]
  | succ m ih=>
   intro i s hm hi hs k hk
   have hlt:i < xs.length:=by omega
   cases k with
   | zero=>omega
   | succ k=>
    show B (rawIter B k) _=_
    rw[hin i hlt s _ hs,List.drop_eq_getElem_cons hlt]
    simp only[forI]
    cases hf:f i s xs[i] with
    | inl o=>rfl
    | inr s'=>
     have hw:w64 ((i:Int)+1)=((i+1:Nat):Int):=by rw[w64_in (by rw[maxLen_val] at hmax;omega)];omega
     simp only[hw]
     exact ih (i+1) s' (by omega) (by omega) (hI i hlt s s' hs hf) k (by omega)
 intro k hk
 simpa using main xs.length 0 s (by omega) (by omega) h0 k hk
theorem forI_any {O α:Type} (p:α->Bool) (a:O) (fin:Unit->O):∀ (xs:List α) (i:Nat),forI (fun _ _ x=>if p x then .inl a else .inr ()) fin i xs ()=if xs.any p then a else fin ()
 | [],_=>rfl
 | x::xs,i=>by
  simp only[forI,List.any_cons]
  by_cases h:p x=true
  ·simp[h]
  ·simp[h,forI_any p a fin xs (i+1)]
def tl (x:Tx):Prop:=List.length x.2.1<=1048576/\List.length x.2.2.1<=1048576/\List.length x.2.2.2.1<=1048576/\∀ c ∈ x.2.1,cl c
end OT
set_option linter.unusedVariables false
set_option linter.unusedSimpArgs false
namespace OT
open Go
def pb (D:List UInt8) (i:Nat):Nat:=(D.getD i 0).toNat
theorem pb_lt (D:List UInt8) (i:Nat):pb D i < 256:=UInt8.toNat_lt _
theorem pb_get {D:List UInt8} {i:Nat} (h:i < D.length):D[i]?=some D[i]/\(D[i]).toNat=pb D i:=⟨List.getElem?_eq_getElem h,by simp[pb,h]⟩
theorem pb_set (D:List UInt8) (i j:Nat) (v:UInt8):pb (D.set i v) j=if i=j/\i < D.length then v.toNat else pb D j:=by
 unfold pb
 simp only[List.getD_eq_getElem?_getD,List.getElem?_set]
 by_cases h:i=j
 ·subst h
  by_cases h2:i < D.length
  ·simp[h2]
  ·simp[h2,List.getElem?_eq_none (Nat.le_of_not_lt h2)]
 ·simp[h]
theorem pb_over {D c:List UInt8} {a:Nat} (h:a+c.length<=D.length) (j:Nat):pb (over D a c.length c) j=if a<=j/\j < a+c.length then pb c (j - a) else pb D j:=by
 unfold pb
 simp only[List.getD_eq_getElem?_getD,over_get D c h (Nat.le_refl _)]
 split <;> rfl
theorem pb_ext {A B:List UInt8} (h:A.length=B.length) (h2:∀ j,j < A.length->pb A j=pb B j):A=B:=by
 refine List.ext_getElem h fun i h1 h3=>?_
 have:=h2 i h1
 rw[<-(pb_get h1).2,<- (pb_get h3).2] at this
 exact UInt8.toNat_inj.1 this
theorem ofNat_toNat {n:Nat} (h:n < 256):(UInt8.ofNat n).toNat=n:=by
 rw[UInt8.toNat_ofNat'];omega
theorem pb_piece (D:List UInt8) (a n j:Nat) (h:j < n):pb ((D.drop a).take n) j=pb D (a+j):=by
 unfold pb
 simp only[List.getD_eq_getElem?_getD,List.getElem?_take,h,if_true,List.getElem?_drop]
def pn (p:List UInt8):Nat:=pb p 0
def plo (p:List UInt8):Nat:=pb p 1
def pat (p:List UInt8) (i:Nat):Nat:=pb p (2+2*i)
def psz (p:List UInt8) (i:Nat):Nat:=pb p (3+2*i)
def slotB (p:List UInt8) (i:Nat):Bool:=if pat p i=0\/psz p i=0 then decide (pat p i=psz p i) else decide (plo p<=pat p i)&&decide (pat p i+psz p i<=64)
def apartP (p:List UInt8) (i k:Nat):Bool:=(decide (psz p i=0)||decide (psz p k=0))||(decide (pat p i+psz p i<=pat p k)||decide (pat p k+psz p k<=pat p i))
def pageF (p:List UInt8):Int:=
 if p.length=64 then
  if pn p<=16/\2+2*pn p<=plo p/\plo p<=64 then
   if (List.range (pn p)).all (slotB p) then
    if (List.range (pn p)).all (fun i=>(List.range i).all (apartP p i)) then
     if 0 < pn p/\psz p (pn p - 1)=0 then 8 else 0
    else 8
   else 3
  else 3
 else 1
structure PageOk (p:List UInt8):Prop where
 len:p.length=64
 n:pn p<=16
 lo:2+2*pn p<=plo p
 hi:plo p<=64
 slot:∀ i,i < pn p->psz p i≠0->plo p<=pat p i/\pat p i+psz p i<=64
 zero:∀ i,i < pn p->psz p i=0->pat p i=0
 apart:∀ i k,i < pn p->k < pn p->i≠k->psz p i≠0->psz p k≠0->pat p i+psz p i<=pat p k\/pat p k+psz p k<=pat p i
 last:0 < pn p->psz p (pn p - 1)≠0
theorem slotB_iff {p:List UInt8} {i:Nat} (hlo:2<=plo p):slotB p i=true↔(psz p i≠0->plo p<=pat p i/\pat p i+psz p i<=64)/\(psz p i=0->pat p i=0):=by
 unfold slotB
 by_cases h1:psz p i=0
 ·simp[h1]
 ·by_cases h2:pat p i=0
  ·simp[h1,h2]
   omega
  ·simp[h1,h2]
theorem apartP_iff {p:List UInt8} {i k:Nat}:apartP p i k=true↔(psz p i≠0->psz p k≠0->pat p i+psz p i<=pat p k\/pat p k+psz p k<=pat p i):=by
 unfold apartP
 by_cases h1:psz p i=0
 ·simp[h1]
 ·by_cases h2:psz p k=0
  ·simp[h2]
  ·simp[h1,h2]
theorem pageF_iff {p:List UInt8}:pageF p=0↔PageOk p:=by
 constructor
 ·intro h
  unfold pageF at h
  split at h
  ·rename_i h1
   split at h
   ·rename_i h2
    split at h
    ·rename_i h3
     split at h
     ·rename_i h4
      split at h
      ·cases h
      ·rename_i h5
       have hs:∀ i,i < pn p->(psz p i≠0->plo p<=pat p i/\pat p i+psz p i<=64)/\(psz p i=0->pat p i=0):=fun i hi=>(slotB_iff (by omega)).1 (List.all_eq_true.1 h3 i (List.mem_range.2 hi))
       have ha:∀ i k,i < pn p->k < i->psz p i≠0->psz p k≠0->pat p i+psz p i<=pat p k\/pat p k+psz p k<=pat p i:=fun i k hi hk=>apartP_iff.1 (List.all_eq_true.1 (List.all_eq_true.1 h4 i (List.mem_range.2 hi)) k (List.mem_range.2 hk))
       refine ⟨h1,h2.1,h2.2.1,h2.2.2,fun i hi=>(hs i hi).1,fun i hi=>(hs i hi).2,fun i k hi hk hik z1 z2=>?_,fun hn hz=>h5 ⟨hn,hz⟩⟩
       rcases Nat.lt_or_gt_of_ne hik with h6 | h6
       ·exact (ha k i hk h6 z2 z1).symm
       ·exact ha i k hi h6 z1 z2
     ·cases h
    ·cases h
   ·cases h
  ·cases h
 ·intro h
  unfold pageF
  rw[if_pos h.len,if_pos ⟨h.n,h.lo,h.hi⟩,if_pos,if_pos,if_neg]
  ·intro ⟨h1,h2⟩
   exact h.last h1 h2
  ·refine List.all_eq_true.2 fun i hi=>List.all_eq_true.2 fun k hk=>apartP_iff.2 ?_
   have:=List.mem_range.1 hi
   have:=List.mem_range.1 hk
   exact h.apart i k (by omega) (by omega) (by omega)
  ·exact List.all_eq_true.2 fun i hi=>(slotB_iff (by have:=h.lo;omega)).2 ⟨h.slot i (List.mem_range.1 hi),h.zero i (List.mem_range.1 hi)⟩
def cellP (p:List UInt8) (i:Nat):List UInt8:=(p.drop (pat p i)).take (psz p i)
def cellOf (p:List UInt8) (i:Nat):List UInt8:=if i < pn p then cellP p i else []
theorem cellP_len {p:List UInt8} (h:PageOk p) {i:Nat} (hi:i < pn p):(cellP p i).length=psz p i:=by
 unfold cellP
 by_cases hz:psz p i=0
 ·simp[hz]
 ·have:=h.slot i hi hz
  have:=h.len
  simp only[List.length_take,List.length_drop]
  omega
theorem cellP_pb (p:List UInt8) (i j:Nat) (h:j < psz p i):pb (cellP p i) j=pb p (pat p i+j):=pb_piece p _ _ j h
theorem cellP_eq {p q:List UInt8} {i k:Nat} (hp:(cellP p i).length=psz p i) (hq:(cellP q k).length=psz q k) (hs:psz p i=psz q k) (hb:∀ j,j < psz p i->pb p (pat p i+j)=pb q (pat q k+j)):cellP p i=cellP q k:=by
 refine pb_ext (by omega) fun j hj=>?_
 rw[cellP_pb p i j (by omega),cellP_pb q k j (by omega)]
 exact hb j (by omega)
theorem cellP_is {p c:List UInt8} {i:Nat} (hp:(cellP p i).length=psz p i) (hs:psz p i=c.length) (hb:∀ j,j < c.length->pb p (pat p i+j)=pb c j):cellP p i=c:=by
 refine pb_ext (by omega) fun j hj=>?_
 rw[cellP_pb p i j (by omega)]
 exact hb j (by omega)
def stand (p:List UInt8) (s a:Nat) (c:List UInt8):List UInt8:=((over p a c.length c).set (2+2*s) (UInt8.ofNat a)).set (3+2*s) (UInt8.ofNat c.length)
theorem stand_len {p:List UInt8} (hp:p.length=64) (s:Nat) {a:Nat} {c:List UInt8} (h:a+c.length<=64):(stand p s a c).length=64:=by
 unfold stand
 rw[List.length_set,List.length_set,over_length _ _ (by omega) (Nat.le_refl _),hp]
theorem stand_pb {p:List UInt8} (hp:p.length=64) {s a:Nat} {c:List UInt8} (h:a+c.length<=64) (hs:s < 16) (j:Nat):pb (stand p s a c) j=if j=3+2*s then c.length else if j=2+2*s then a else if a<=j/\j < a+c.length then pb c (j - a) else pb p j:=by
 unfold stand
 have hl:(over p a c.length c).length=64:=by rw[over_length _ _ (by omega) (Nat.le_refl _),hp]
 rw[pb_set,pb_set,pb_over (by omega),List.length_set,hl]
 by_cases h1:j=3+2*s
 ·subst h1
  rw[if_pos ⟨rfl,by omega⟩,if_pos rfl,ofNat_toNat (by omega)]
 ·rw[if_neg (fun h=>h1 h.1.symm),if_neg h1]
  by_cases h2:j=2+2*s
  ·subst h2
   rw[if_pos ⟨rfl,by omega⟩,if_pos rfl,ofNat_toNat (by omega)]
  ·rw[if_neg (fun h=>h2 h.1.symm),if_neg h2]
structure Turned (p q:List UInt8) (s a m:Nat):Prop where
 len:q.length=64
 n:pn q=pn p\/(pn q=pn p+1/\s=pn p)
 s_lt:s < pn q
 n16:pn q<=16
 lo:2+2*pn q<=plo q
 lo2:plo q<=plo p
 at_:pat q s=a
 sz:psz q s=m
 pos:0 < m
 a_lo:plo q<=a
 a_hi:a+m<=64
 oth:∀ i,i < pn q->i≠s->pat q i=pat p i/\psz q i=psz p i
 free:∀ i,i < pn p->i≠s->psz p i≠0->a+m<=pat p i\/pat p i+psz p i<=a
 same:∀ j,plo p<=j->j < 64->(j < a\/a+m<=j)->pb q j=pb p j
theorem Turned.ok {p q:List UInt8} {s a m:Nat} (t:Turned p q s a m) (h:PageOk p):PageOk q:=by
 have hlt:∀ i,i < pn q->i≠s->i < pn p:=fun i hi hs=>by rcases t.n with h1 | ⟨h1,h2⟩ <;> omega
 have ha:=t.at_
 have hm:=t.sz
 have hpos:=t.pos
 have hlo:=t.a_lo
 have hhi:=t.a_hi
 have hlo2:=t.lo2
 have hh:=h.hi
 refine ⟨t.len,t.n16,t.lo,by omega,fun i hi hz=>?_,fun i hi hz=>?_,fun i k hi hk hik z1 z2=>?_,fun hn=>?_⟩
 ·by_cases hs:i=s
  ·subst hs;omega
  ·obtain ⟨h1,h2⟩:=t.oth i hi hs
   have:=h.slot i (hlt i hi hs) (by omega)
   omega
 ·by_cases hs:i=s
  ·subst hs;omega
  ·obtain ⟨h1,h2⟩:=t.oth i hi hs
   have:=h.zero i (hlt i hi hs) (by omega)
   omega
 ·by_cases hs:i=s
  ·subst hs
   have hks:k≠i:=fun e=>hik e.symm
   obtain ⟨h1,h2⟩:=t.oth k hk hks
   have:=t.free k (hlt k hk hks) hks (by omega)
   omega
  ·obtain ⟨h1,h2⟩:=t.oth i hi hs
   by_cases hs2:k=s
   ·subst hs2
    have:=t.free i (hlt i hi hs) hs (by omega)
    omega
   ·obtain ⟨h3,h4⟩:=t.oth k hk hs2
    have:=h.apart i k (hlt i hi hs) (hlt k hk hs2) hik (by omega) (by omega)
    omega
 ·by_cases hs:pn q - 1=s
  ·rw[hs];omega
  ·obtain ⟨h1,h2⟩:=t.oth (pn q - 1) (by omega) hs
   have hq:pn q=pn p:=by
    rcases t.n with h3 | ⟨h3,h4⟩
    ·exact h3
    ·omega
   rw[h2,hq]
   exact h.last (by omega)
theorem Turned.cell_other {p q:List UInt8} {s a m:Nat} (t:Turned p q s a m) (h:PageOk p) {i:Nat} (hi:i < pn q) (hs:i≠s):cellP q i=cellP p i:=by
 have hip:i < pn p:=by rcases t.n with h1 | ⟨h1,h2⟩ <;> omega
 obtain ⟨h1,h2⟩:=t.oth i hi hs
 refine cellP_eq (cellP_len (t.ok h) hi) (cellP_len h hip) h2 fun j hj=>?_
 have hz:psz p i≠0:=by omega
 have h3:=h.slot i hip hz
 have h4:=t.free i hip hs hz
 rw[h1]
 exact t.same _ (by omega) (by omega) (by omega)
theorem Turned.cell_this {p q:List UInt8} {s a:Nat} {c:List UInt8} (t:Turned p q s a c.length) (h:PageOk p) (hc:∀ j,j < c.length->pb q (a+j)=pb c j):cellP q s=c:=
 cellP_is (cellP_len (t.ok h) t.s_lt) t.sz fun j hj=>by rw[t.at_];exact hc j hj
theorem Turned.cells {p q:List UInt8} {s a:Nat} {c:List UInt8} (t:Turned p q s a c.length) (h:PageOk p) (hc:∀ j,j < c.length->pb q (a+j)=pb c j) (i:Nat):cellOf q i=if i=s then c else cellOf p i:=by
 have hs:=t.s_lt
 unfold cellOf
 by_cases his:i=s
 ·subst his
  rw[if_pos hs,if_pos rfl,t.cell_this h hc]
 ·rw[if_neg his]
  by_cases hi:i < pn q
  ·have hip:i < pn p:=by rcases t.n with h1 | ⟨h1,h2⟩ <;> omega
   rw[if_pos hi,if_pos hip,t.cell_other h hi his]
  ·have hip:¬ i < pn p:=by rcases t.n with h1 | ⟨h1,h2⟩ <;> omega
   rw[if_neg hi,if_neg hip]
theorem cellOf_nil {p:List UInt8} (h:PageOk p) {i:Nat} (hi:i < pn p):cellOf p i=[]↔psz p i=0:=by
 unfold cellOf
 rw[if_pos hi]
 have:=cellP_len h hi
 constructor
 ·intro e;rw[e] at this;simpa using this.symm
 ·intro e;rw[e] at this;exact List.eq_nil_of_length_eq_zero this
end OT
set_option linter.unusedVariables false
set_option linter.unusedSimpArgs false
namespace OT
open Go
def emptyG (p:List UInt8):Nat->Nat->Nat
 | 0,i=>i
 | m+1,i=>if psz p i=0 then i else emptyG p m (i+1)
def emptyF (p:List UInt8):Nat:=emptyG p (pn p) 0
theorem emptyG_spec (p:List UInt8):∀ (m i:Nat),i<=emptyG p m i/\emptyG p m i<=i+m/\(∀ j,i<=j->j < emptyG p m i->psz p j≠0)/\(emptyG p m i < i+m->psz p (emptyG p m i)=0)
 | 0,i=>by simp only[emptyG];exact ⟨by omega,by omega,fun j h1 h2=>by omega,fun h=>by omega⟩
 | m+1,i=>by
  simp only[emptyG]
  split
  ·rename_i h
   exact ⟨by omega,by omega,fun j h1 h2=>by omega,fun _=>h⟩
  ·rename_i h
   obtain ⟨h1,h2,h3,h4⟩:=emptyG_spec p m (i+1)
   refine ⟨by omega,by omega,fun j g1 g2=>?_,fun g=>h4 (by omega)⟩
   by_cases hj:j=i
   ·subst hj;exact h
   ·exact h3 j (by omega) g2
theorem emptyF_spec (p:List UInt8):emptyF p<=pn p/\(∀ j,j < emptyF p->psz p j≠0)/\(emptyF p < pn p->psz p (emptyF p)=0):=by
 obtain ⟨h1,h2,h3,h4⟩:=emptyG_spec p (pn p) 0
 exact ⟨by unfold emptyF;omega,fun j hj=>h3 j (by omega) hj,fun h=>h4 (by unfold emptyF at h;omega)⟩
def sumZ (p:List UInt8):Nat->Nat
 | 0=>0
 | m+1=>sumZ p m+psz p m
def freeF (p:List UInt8):Int:=62 - 2*(pn p:Int) - (sumZ p (pn p):Int)
theorem sumZ_mono (p:List UInt8) {a b:Nat} (h:a<=b):sumZ p a<=sumZ p b:=by
 induction b with
 | zero =>have:a=0:=by omega
          subst this;exact Nat.le_refl _
 | succ b ih=>
  by_cases hb:a=b+1
  ·subst hb;exact Nat.le_refl _
  ·have:=ih (by omega)
   simp only[sumZ];omega
theorem countP_or {α:Type} {a b:α->Bool}:∀ {l:List α},(∀ x ∈ l,a x=true->b x=true->False)->l.countP (fun x=>a x||b x)=l.countP a+l.countP b
 | [],_=>rfl
 | x::l,h=>by
  have ih:=countP_or (l:=l) fun y hy=>h y (List.mem_cons_of_mem _ hy)
  have hx:=h x List.mem_cons_self
  simp only[List.countP_cons,ih]
  cases ha:a x <;> cases hb:b x
  ·simp
  ·simp;omega
  ·simp;omega
  ·exact (hx ha hb).elim
theorem countP_seg (a m:Nat):∀ N,(List.range N).countP (fun j=>decide (a<=j/\j < a+m))=min N (a+m) - min N a
 | 0=>by simp
 | N+1=>by
  rw[List.range_succ,List.countP_append,countP_seg a m N]
  simp only[List.countP_cons,List.countP_nil,Nat.zero_add]
  by_cases h:a<=N/\N < a+m
  ·simp only[h,and_self,decide_true,if_true];omega
  ·simp only[h,decide_false,Bool.false_eq_true,if_false];omega
def covP (p:List UInt8):Nat->Nat->Bool
 | 0,_=>false
 | k+1,j=>covP p k j||decide (pat p k<=j/\j < pat p k+psz p k)
theorem covP_ex {p:List UInt8}:∀ {k j:Nat},covP p k j=true->∃ i,i < k/\pat p i<=j/\j < pat p i+psz p i
 | k+1,j,h=>by
  simp only[covP,Bool.or_eq_true,decide_eq_true_eq] at h
  rcases h with h | h
  ·obtain ⟨i,h1,h2⟩:=covP_ex h
   exact ⟨i,by omega,h2⟩
  ·exact ⟨k,by omega,h⟩
theorem covP_count {p:List UInt8} (h:PageOk p):∀ k,k<=pn p->(List.range 64).countP (covP p k)=sumZ p k
 | 0,_=>by
  have:covP p 0=fun _=>false:=rfl
  rw[this];simp[sumZ]
 | k+1,hk=>by
  have ih:=covP_count h k (by omega)
  show (List.range 64).countP (fun j=>covP p k j||decide (pat p k<=j/\j < pat p k+psz p k))=sumZ p k+psz p k
  rw[countP_or,ih,countP_seg]
  ·by_cases hz:psz p k=0
   ·omega
   ·have:=h.slot k (by omega) hz
    omega
  ·intro j _ h1 h2
   obtain ⟨i,h3,h4⟩:=covP_ex h1
   simp only[decide_eq_true_eq] at h2
   have:=h.apart i k (by omega) (by omega) (by omega) (by omega) (by omega)
   omega
theorem sum_room {p:List UInt8} (h:PageOk p):sumZ p (pn p)+plo p<=64:=by
 rw[<-covP_count h (pn p) (Nat.le_refl _)]
 have h1:(List.range 64).countP (covP p (pn p))<=(List.range 64).countP (fun j=>decide (plo p<=j/\j < plo p+(64 - plo p))):=by
  refine List.countP_mono_left fun j hj hc=>?_
  obtain ⟨i,h3,h4,h5⟩:=covP_ex hc
  have:=h.slot i h3 (by omega)
  have:=List.mem_range.1 hj
  simp only[decide_eq_true_eq]
  omega
 rw[countP_seg] at h1
 have:=h.hi
 omega
theorem free_ok {p:List UInt8} (h:PageOk p):0<=freeF p/\freeF p<=62:=by
 have:=sum_room h
 have:=h.lo
 unfold freeF
 omega
def moreF (p:List UInt8):Nat:=if emptyF p=pn p then 1 else 0
def putQ (p:List UInt8) (c:List UInt8):List UInt8:=((stand p (emptyF p) (plo p - c.length) c).set 0 (UInt8.ofNat (pn p+moreF p))).set 1 (UInt8.ofNat (plo p - c.length))
def putF (p:List UInt8) (c:List UInt8):Int:=
 if emptyF p=pn p/\16<=pn p then 2
 else if freeF p < (c.length:Int)+2*(moreF p:Int) then 9
 else if plo p < 2+2*(pn p+moreF p)+c.length then 8
 else 0
theorem put_pb {p c:List UInt8} (h:PageOk p) (hc:putF p c=0) (j:Nat):pb (putQ p c) j=if j=1 then plo p - c.length else if j=0 then pn p+moreF p else pb (stand p (emptyF p) (plo p - c.length) c) j:=by
 unfold putF at hc
 split at hc
 ·cases hc
 ·split at hc
  ·cases hc
  ·split at hc
   ·cases hc
   ·have hl:(stand p (emptyF p) (plo p - c.length) c).length=64:=stand_len h.len _ (by have:=h.hi;omega)
    have hhi:=h.hi
    have hn:=h.n
    have hm:moreF p<=1:=by unfold moreF;split <;> omega
    unfold putQ
    rw[pb_set,pb_set,List.length_set,hl,ofNat_toNat (by omega),ofNat_toNat (by omega)]
    by_cases h1:j=1
    ·subst h1;simp
    ·by_cases h0:j=0
     ·subst h0;simp
     ·rw[if_neg (by omega),if_neg (by omega),if_neg h1,if_neg h0]
theorem put_turned {p c:List UInt8} (h:PageOk p) (hc1:1<=c.length) (hc:putF p c=0):Turned p (putQ p c) (emptyF p) (plo p - c.length) c.length/\∀ j,j < c.length->pb (putQ p c) (plo p - c.length+j)=pb c j:=by
 have hb:=put_pb h hc
 obtain ⟨e1,e2,e3⟩:=emptyF_spec p
 unfold putF at hc
 split at hc
 ·cases hc
 rename_i c1
 split at hc
 ·cases hc
 split at hc
 ·cases hc
 rename_i c3
 have hhi:=h.hi
 have hlo:=h.lo
 have hn:=h.n
 have hm:(emptyF p=pn p/\moreF p=1)\/(emptyF p < pn p/\moreF p=0):=by unfold moreF;split <;> omega
 have hs:emptyF p < 16:=by omega
 have hlen:(putQ p c).length=64:=by
  unfold putQ
  rw[List.length_set,List.length_set,stand_len h.len _ (by omega)]
 have hsp:∀ j,pb (stand p (emptyF p) (plo p - c.length) c) j=_:=stand_pb h.len (a:=plo p - c.length) (c:=c) (by omega) hs
 have hpn:pn (putQ p c)=pn p+moreF p:=by show pb _ 0=_;rw[hb];simp
 have hpl:plo (putQ p c)=plo p - c.length:=by show pb _ 1=_;rw[hb];simp
 refine ⟨⟨hlen,by omega,by omega,by omega,by omega,by omega,?_,?_,by omega,by omega,by omega,fun i hi his=>?_,fun i hi his hz=>?_,fun j j1 j2 j3=>?_⟩,fun j hj=>?_⟩
 ·show pb _ _=_
  rw[hb,if_neg (by omega),if_neg (by omega),hsp,if_neg (by omega),if_pos rfl]
 ·show pb _ _=_
  rw[hb,if_neg (by omega),if_neg (by omega),hsp,if_pos rfl]
 ·constructor
  ·show pb _ _=pb _ _
   rw[hb,if_neg (by omega),if_neg (by omega),hsp,if_neg (by omega),if_neg (by omega),if_neg (by omega)]
  ·show pb _ _=pb _ _
   rw[hb,if_neg (by omega),if_neg (by omega),hsp,if_neg (by omega),if_neg (by omega),if_neg (by omega)]
 ·have:=h.slot i hi hz
  omega
 ·rw[hb,if_neg (by omega),if_neg (by omega),hsp,if_neg (by omega),if_neg (by omega),if_neg (by omega)]
 ·rw[hb,if_neg (by omega),if_neg (by omega),hsp,if_neg (by omega),if_neg (by omega),if_pos (by omega)]
  congr 1
  omega
theorem putQ_ok {p c:List UInt8} (h:PageOk p) (hc1:1<=c.length) (hc:putF p c=0):PageOk (putQ p c)/\(∀ i,cellOf (putQ p c) i=if i=emptyF p then c else cellOf p i)/\cellOf p (emptyF p)=[]:=by
 obtain ⟨t,hb⟩:=put_turned h hc1 hc
 refine ⟨t.ok h,t.cells h hb,?_⟩
 obtain ⟨e1,e2,e3⟩:=emptyF_spec p
 by_cases he:emptyF p < pn p
 ·exact (cellOf_nil h he).2 (e3 he)
 ·unfold cellOf;rw[if_neg he]
def setQ (p:List UInt8) (s:Nat) (c:List UInt8):List UInt8:=if c.length<=psz p s then stand p s (pat p s+psz p s - c.length) c else (stand p s (plo p - c.length) c).set 1 (UInt8.ofNat (plo p - c.length))
def setF (p:List UInt8) (s:Nat) (c:List UInt8):Int:=
 if c.length<=psz p s then 0
 else if freeF p+(psz p s:Int) < (c.length:Int) then 9
 else if plo p < 2+2*pn p+c.length then 8
 else 0
theorem set_turned {p c:List UInt8} {s:Nat} (h:PageOk p) (hs:s < pn p) (hz:psz p s≠0) (hc1:1<=c.length) (hc:setF p s c=0):∃ a,Turned p (setQ p s c) s a c.length/\∀ j,j < c.length->pb (setQ p s c) (a+j)=pb c j:=by
 have hhi:=h.hi
 have hlo:=h.lo
 have hn:=h.n
 have hsl:=h.slot s hs hz
 unfold setF at hc
 split at hc
 ·rename_i c1
  unfold setQ
  rw[if_pos c1]
  have hsp:∀ j,pb (stand p s (pat p s+psz p s - c.length) c) j=_:=stand_pb h.len (a:=pat p s+psz p s - c.length) (c:=c) (by omega) (by omega)
  have hpn:pn (stand p s (pat p s+psz p s - c.length) c)=pn p:=by
   show pb _ 0=pb p 0;rw[hsp,if_neg (by omega),if_neg (by omega),if_neg (by omega)]
  have hpl:plo (stand p s (pat p s+psz p s - c.length) c)=plo p:=by
   show pb _ 1=pb p 1;rw[hsp,if_neg (by omega),if_neg (by omega),if_neg (by omega)]
  refine ⟨pat p s+psz p s - c.length,⟨stand_len h.len _ (by omega),by omega,by omega,by omega,by omega,by omega,?_,?_,by omega,by omega,by omega,fun i hi his=>?_,fun i hi his hz2=>?_,fun j j1 j2 j3=>?_⟩,fun j hj=>?_⟩
  ·show pb _ _=_
   rw[hsp,if_neg (by omega),if_pos rfl]
  ·show pb _ _=_
   rw[hsp,if_pos rfl]
  ·constructor
   ·show pb _ _=pb _ _
    rw[hsp,if_neg (by omega),if_neg (by omega),if_neg (by omega)]
   ·show pb _ _=pb _ _
    rw[hsp,if_neg (by omega),if_neg (by omega),if_neg (by omega)]
  ·have:=h.apart i s hi hs his hz2 hz
   omega
  ·rw[hsp,if_neg (by omega),if_neg (by omega),if_neg (by omega)]
  ·rw[hsp,if_neg (by omega),if_neg (by omega),if_pos (by omega)]
   congr 1
   omega
 ·rename_i c1
  split at hc
  ·cases hc
  split at hc
  ·cases hc
  rename_i c3
  have hq:setQ p s c=(stand p s (plo p - c.length) c).set 1 (UInt8.ofNat (plo p - c.length)):=by unfold setQ;rw[if_neg c1]
  rw[hq]
  have hl:(stand p s (plo p - c.length) c).length=64:=stand_len h.len _ (by omega)
  have hsp:∀ j,pb (stand p s (plo p - c.length) c) j=_:=stand_pb h.len (a:=plo p - c.length) (c:=c) (by omega) (by omega)
  have hb:∀ j,pb ((stand p s (plo p - c.length) c).set 1 (UInt8.ofNat (plo p - c.length))) j=if j=1 then plo p - c.length else pb (stand p s (plo p - c.length) c) j:=fun j=>by
   rw[pb_set,hl,ofNat_toNat (by omega)]
   by_cases h1:j=1
   ·subst h1;simp
   ·rw[if_neg (by omega),if_neg h1]
  have hpn:pn ((stand p s (plo p - c.length) c).set 1 (UInt8.ofNat (plo p - c.length)))=pn p:=by
   show pb _ 0=pb p 0;rw[hb,if_neg (by omega),hsp,if_neg (by omega),if_neg (by omega),if_neg (by omega)]
  have hpl:plo ((stand p s (plo p - c.length) c).set 1 (UInt8.ofNat (plo p - c.length)))=plo p - c.length:=by
   show pb _ 1=_;rw[hb,if_pos rfl]
  refine ⟨plo p - c.length,⟨by rw[List.length_set];exact hl,by omega,by omega,by omega,by omega,by omega,?_,?_,by omega,by omega,by omega,fun i hi his=>?_,fun i hi his hz2=>?_,fun j j1 j2 j3=>?_⟩,fun j hj=>?_⟩
  ·show pb _ _=_
   rw[hb,if_neg (by omega),hsp,if_neg (by omega),if_pos rfl]
  ·show pb _ _=_
   rw[hb,if_neg (by omega),hsp,if_pos rfl]
  ·constructor
   ·show pb _ _=pb _ _
    rw[hb,if_neg (by omega),hsp,if_neg (by omega),if_neg (by omega),if_neg (by omega)]
   ·show pb _ _=pb _ _
    rw[hb,if_neg (by omega),hsp,if_neg (by omega),if_neg (by omega),if_neg (by omega)]
  ·have:=h.slot i hi hz2
   omega
  ·rw[hb,if_neg (by omega),hsp,if_neg (by omega),if_neg (by omega),if_neg (by omega)]
  ·rw[hb,if_neg (by omega),hsp,if_neg (by omega),if_neg (by omega),if_pos (by omega)]
   congr 1
   omega
theorem setQ_ok {p c:List UInt8} {s:Nat} (h:PageOk p) (hs:s < pn p) (hz:psz p s≠0) (hc1:1<=c.length) (hc:setF p s c=0):PageOk (setQ p s c)/\(∀ i,cellOf (setQ p s c) i=if i=s then c else cellOf p i):=by
 obtain ⟨a,t,hb⟩:=set_turned h hs hz hc1 hc
 exact ⟨t.ok h,t.cells h hb⟩
def trimN (q:List UInt8):Nat->Nat
 | 0=>0
 | m+1=>if psz q m=0 then trimN q m else m+1
def drop0 (p:List UInt8) (s:Nat):List UInt8:=(p.set (2+2*s) 0).set (3+2*s) 0
def dropQ (p:List UInt8) (s:Nat):List UInt8:=(drop0 p s).set 0 (UInt8.ofNat (trimN (drop0 p s) (pn p)))
theorem trimN_spec (q:List UInt8):∀ m,trimN q m<=m/\(∀ i,trimN q m<=i->i < m->psz q i=0)/\(0 < trimN q m->psz q (trimN q m - 1)≠0)
 | 0=>by simp only[trimN];exact ⟨by omega,fun i h1 h2=>by omega,fun h=>by omega⟩
 | m+1=>by
  simp only[trimN]
  obtain ⟨h1,h2,h3⟩:=trimN_spec q m
  split
  ·rename_i h
   refine ⟨by omega,fun i g1 g2=>?_,h3⟩
   by_cases hi:i=m
   ·subst hi;exact h
   ·exact h2 i g1 (by omega)
  ·rename_i h
   exact ⟨by omega,fun i g1 g2=>by omega,fun _=>by simpa using h⟩
theorem dropQ_ok {p:List UInt8} {s:Nat} (h:PageOk p) (hs:s < pn p):PageOk (dropQ p s)/\(∀ i,cellOf (dropQ p s) i=if i=s then [] else cellOf p i):=by
 have hhi:=h.hi
 have hlo:=h.lo
 have hn:=h.n
 have hlen:=h.len
 have hb0:∀ j,pb (drop0 p s) j=if j=3+2*s\/j=2+2*s then 0 else pb p j:=fun j=>by
  unfold drop0
  rw[pb_set,pb_set,List.length_set,hlen]
  by_cases h1:j=3+2*s
  ·subst h1;rw[if_pos ⟨rfl,by omega⟩,if_pos (Or.inl rfl)];rfl
  ·by_cases h2:j=2+2*s
   ·subst h2;rw[if_neg (by omega),if_pos ⟨rfl,by omega⟩,if_pos (Or.inr rfl)];rfl
   ·rw[if_neg (by omega),if_neg (by omega),if_neg (by omega)]
 have hl0:(drop0 p s).length=64:=by unfold drop0;rw[List.length_set,List.length_set,hlen]
 obtain ⟨t1,t2,t3⟩:=trimN_spec (drop0 p s) (pn p)
 have hb:∀ j,pb (dropQ p s) j=if j=0 then trimN (drop0 p s) (pn p) else if j=3+2*s\/j=2+2*s then 0 else pb p j:=fun j=>by
  unfold dropQ
  rw[pb_set,hl0,ofNat_toNat (by omega),hb0]
  by_cases h1:j=0
  ·subst h1;simp
  ·rw[if_neg (by omega),if_neg h1]
 have hpn:pn (dropQ p s)=trimN (drop0 p s) (pn p):=by show pb _ 0=_;rw[hb,if_pos rfl]
 have hpl:plo (dropQ p s)=plo p:=by show pb _ 1=pb p 1;rw[hb,if_neg (by omega),if_neg (by omega)]
 have hz0:∀ i,psz (dropQ p s) i=psz (drop0 p s) i:=fun i=>by
  show pb _ _=pb _ _
  rw[hb,hb0,if_neg (by omega)]
 have hzs:psz (dropQ p s) s=0/\pat (dropQ p s) s=0:=by
  constructor
  ·show pb _ _=_;rw[hb,if_neg (by omega),if_pos (Or.inl rfl)]
  ·show pb _ _=_;rw[hb,if_neg (by omega),if_pos (Or.inr rfl)]
 have hzo:∀ i,i≠s->psz (dropQ p s) i=psz p i/\pat (dropQ p s) i=pat p i:=fun i hi=>by
  constructor
  ·show pb _ _=pb _ _;rw[hb,if_neg (by omega),if_neg (by omega)]
  ·show pb _ _=pb _ _;rw[hb,if_neg (by omega),if_neg (by omega)]
 have hok:PageOk (dropQ p s):=by
  refine ⟨by unfold dropQ;rw[List.length_set,hl0],by omega,by omega,by omega,fun i hi hz=>?_,fun i hi hz=>?_,fun i k hi hk hik z1 z2=>?_,fun hn=>?_⟩
  ·by_cases his:i=s
   ·subst his;omega
   ·obtain ⟨g1,g2⟩:=hzo i his
    have:=h.slot i (by omega) (by omega)
    omega
  ·by_cases his:i=s
   ·subst his;omega
   ·obtain ⟨g1,g2⟩:=hzo i his
    have:=h.zero i (by omega) (by omega)
    omega
  ·have his:i≠s:=fun e=>by subst e;omega
   have hks:k≠s:=fun e=>by subst e;omega
   obtain ⟨g1,g2⟩:=hzo i his
   obtain ⟨g3,g4⟩:=hzo k hks
   have:=h.apart i k (by omega) (by omega) hik (by omega) (by omega)
   omega
  ·rw[hz0,hpn]
   exact t3 (by omega)
 refine ⟨hok,fun i=>?_⟩
 by_cases his:i=s
 ·subst his
  rw[if_pos rfl]
  by_cases hi:i < pn (dropQ p i)
  ·exact (cellOf_nil hok hi).2 hzs.1
  ·unfold cellOf;rw[if_neg hi]
 ·rw[if_neg his]
  obtain ⟨g1,g2⟩:=hzo i his
  by_cases hi:i < pn (dropQ p s)
  ·have hip:i < pn p:=by omega
   unfold cellOf
   rw[if_pos hi,if_pos hip]
   refine cellP_eq (cellP_len hok hi) (cellP_len h hip) g1 fun j hj=>?_
   have:=h.slot i hip (by omega)
   rw[g2,hb,if_neg (by omega),if_neg (by omega)]
  ·have e1:cellOf (dropQ p s) i=[]:=by unfold cellOf;rw[if_neg hi]
   rw[e1]
   by_cases hip:i < pn p
   ·refine ((cellOf_nil h hip).2 ?_).symm
    rw[<-g1,hz0]
    exact t2 i (by omega) hip
   ·unfold cellOf;rw[if_neg hip]
def compS (p:List UInt8) (s:List UInt8×Nat) (i:Nat):List UInt8×Nat:=if psz p i=0 then s else (stand s.1 i (s.2 - psz p i) (cellP p i),s.2 - psz p i)
def comp0 (p:List UInt8):List UInt8:=p.take (2+2*pn p)++List.replicate (62 - 2*pn p) (0:UInt8)
def compL (p:List UInt8) (k:Nat):List UInt8×Nat:=(List.range k).foldl (compS p) (comp0 p,64)
def compQ (p:List UInt8):List UInt8:=(compL p (pn p)).1.set 1 (UInt8.ofNat (compL p (pn p)).2)
theorem compL_succ (p:List UInt8) (k:Nat):compL p (k+1)=compS p (compL p k) k:=by
 unfold compL
 rw[List.range_succ,List.foldl_append]
 rfl
structure CompI (p:List UInt8) (k:Nat) (o:List UInt8) (a:Nat):Prop where
 len:o.length=64
 n:pb o 0=pn p
 a:a=64 - sumZ p k
 sz:∀ i,i < pn p->psz o i=psz p i
 old:∀ i,i < pn p->(k<=i\/psz p i=0)->pat o i=pat p i
 new:∀ i,i < k->psz p i≠0->pat o i=64 - sumZ p (i+1)/\∀ j,j < psz p i->pb o (64 - sumZ p (i+1)+j)=pb p (pat p i+j)
theorem comp_inv {p:List UInt8} (h:PageOk p):∀ k,k<=pn p->CompI p k (compL p k).1 (compL p k).2
 | 0,_=>by
  have hn:=h.n
  have hlen:=h.len
  have hl:(comp0 p).length=64:=by unfold comp0;simp only[List.length_append,List.length_take,List.length_replicate];omega
  have hb:∀ j,j < 2+2*pn p->pb (comp0 p) j=pb p j:=fun j hj=>by
   unfold pb comp0
   simp only[List.getD_eq_getElem?_getD]
   rw[List.getElem?_append_left (by simp only[List.length_take];omega),List.getElem?_take,if_pos hj]
  refine ⟨hl,hb 0 (by omega),by simp only[sumZ];rfl,fun i hi=>?_,fun i hi _=>?_,fun i hi=>by omega⟩
  ·exact hb _ (by omega)
  ·exact hb _ (by omega)
 | k+1,hk=>by
  have ih:=comp_inv h k (by omega)
  rw[compL_succ]
  unfold compS
  have hroom:=sum_room h
  have hmono:=sumZ_mono p (show k+1<=pn p from hk)
  have hlo:=h.lo
  have hn:=h.n
  simp only[sumZ] at hmono
  by_cases hz:psz p k=0
  ·rw[if_pos hz]
   refine ⟨ih.len,ih.n,?_,ih.sz,fun i hi ho=>ih.old i hi (by rcases ho with ho | ho <;> omega),fun i hi hzi=>?_⟩
   ·rw[ih.a];simp only[sumZ];omega
   ·have:i≠k:=fun e=>by subst e;exact hzi hz
    exact ih.new i (by omega) hzi
  ·rw[if_neg hz]
   have hcl:(cellP p k).length=psz p k:=cellP_len h (by omega)
   have ha:=ih.a
   have hfit:(compL p k).2 - psz p k+(cellP p k).length<=64:=by omega
   have hsp:∀ j,pb (stand (compL p k).1 k ((compL p k).2 - psz p k) (cellP p k)) j=_:=stand_pb ih.len (a:=(compL p k).2 - psz p k) (c:=cellP p k) hfit (by omega)
   refine ⟨stand_len ih.len _ hfit,?_,by simp only[sumZ];omega,fun i hi=>?_,fun i hi ho=>?_,fun i hi hzi=>?_⟩
   ·rw[hsp,if_neg (by omega),if_neg (by omega),if_neg (by omega)];exact ih.n
   ·show pb _ _=_
    rw[hsp]
    by_cases hik:i=k
    ·subst hik;rw[if_pos rfl];exact hcl
    ·rw[if_neg (by omega),if_neg (by omega),if_neg (by omega)]
     exact ih.sz i hi
   ·have hik:i≠k:=fun e=>by subst e;rcases ho with ho | ho <;> omega
    show pb _ _=_
    rw[hsp,if_neg (by omega),if_neg (by omega),if_neg (by omega)]
    exact ih.old i hi (by rcases ho with ho | ho <;> omega)
   ·by_cases hik:i=k
    ·subst hik
     constructor
     ·show pb _ _=_
      rw[hsp,if_neg (by omega),if_pos rfl]
      simp only[sumZ];omega
     ·intro j hj
      simp only[sumZ]
      rw[hsp,if_neg (by omega),if_neg (by omega),if_pos (by omega)]
      rw[show 64 - (sumZ p i+psz p i)+j - ((compL p i).2 - psz p i)=j by omega]
      exact cellP_pb p i j hj
    ·have hm2:=sumZ_mono p (show i+1<=k by omega)
     have hm3:=sumZ_mono p (show i+1<=pn p by omega)
     obtain ⟨g1,g2⟩:=ih.new i (by omega) hzi
     constructor
     ·show pb _ _=_
      rw[hsp,if_neg (by omega),if_neg (by omega),if_neg (by omega)]
      exact g1
     ·intro j hj
      rw[hsp,if_neg (by omega),if_neg (by omega),if_neg (by omega)]
      exact g2 j hj
theorem compQ_ok {p:List UInt8} (h:PageOk p):PageOk (compQ p)/\(∀ i,cellOf (compQ p) i=cellOf p i)/\pn (compQ p)=pn p:=by
 have I:=comp_inv h (pn p) (Nat.le_refl _)
 have hroom:=sum_room h
 have hlo:=h.lo
 have hn:=h.n
 have ha:=I.a
 have hb:∀ j,pb (compQ p) j=if j=1 then (compL p (pn p)).2 else pb (compL p (pn p)).1 j:=fun j=>by
  unfold compQ
  rw[pb_set,I.len,ofNat_toNat (by omega)]
  by_cases h1:j=1
  ·subst h1;simp
  ·rw[if_neg (by omega),if_neg h1]
 have hpn:pn (compQ p)=pn p:=by show pb _ 0=_;rw[hb,if_neg (by omega)];exact I.n
 have hpl:plo (compQ p)=64 - sumZ p (pn p):=by show pb _ 1=_;rw[hb,if_pos rfl];exact ha
 have hz:∀ i,i < pn p->psz (compQ p) i=psz p i:=fun i hi=>by show pb _ _=_;rw[hb,if_neg (by omega)];exact I.sz i hi
 have hat:∀ i,i < pn p->psz p i≠0->pat (compQ p) i=64 - sumZ p (i+1):=fun i hi hzi=>by show pb _ _=_;rw[hb,if_neg (by omega)];exact (I.new i hi hzi).1
 have hok:PageOk (compQ p):=by
  refine ⟨by unfold compQ;rw[List.length_set];exact I.len,by omega,by omega,by omega,fun i hi hzi=>?_,fun i hi hzi=>?_,fun i k hi hk hik z1 z2=>?_,fun hn=>?_⟩
  ·have h1:=hz i (by omega)
   have h2:=hat i (by omega) (by omega)
   have h3:=sumZ_mono p (show i+1<=pn p by omega)
   have h4:sumZ p (i+1)=sumZ p i+psz p i:=rfl
   omega
  ·have h1:=hz i (by omega)
   show pb _ _=_
   rw[hb,if_neg (by omega)]
   exact (I.old i (by omega) (Or.inr (by omega))).trans (h.zero i (by omega) (by omega))
  ·have h1:=hz i (by omega)
   have h2:=hat i (by omega) (by omega)
   have h3:=hz k (by omega)
   have h4:=hat k (by omega) (by omega)
   have e1:sumZ p (i+1)=sumZ p i+psz p i:=rfl
   have e2:sumZ p (k+1)=sumZ p k+psz p k:=rfl
   have m1:=sumZ_mono p (show i+1<=pn p by omega)
   have m2:=sumZ_mono p (show k+1<=pn p by omega)
   rcases Nat.lt_or_gt_of_ne hik with h6 | h6
   ·have:=sumZ_mono p (show i+1<=k from h6)
    omega
   ·have:=sumZ_mono p (show k+1<=i from h6)
    omega
  ·rw[hpn,hz _ (by omega)]
   exact h.last (by omega)
 refine ⟨hok,fun i=>?_,hpn⟩
 unfold cellOf
 rw[hpn]
 by_cases hi:i < pn p
 ·rw[if_pos hi,if_pos hi]
  refine cellP_eq (cellP_len hok (by omega)) (cellP_len h hi) (hz i hi) fun j hj=>?_
  have h1:=hz i hi
  have hzi:psz p i≠0:=by omega
  rw[hat i hi hzi,hb,if_neg (by
   have:=sumZ_mono p (show i+1<=pn p by omega)
   omega)]
  exact (I.new i hi hzi).2 j (by omega)
 ·rw[if_neg hi,if_neg hi]
def newPg:List UInt8:=((List.replicate 64 (0:UInt8)).set 0 0).set 1 64
theorem newPg_ok:PageOk newPg/\∀ i,cellOf newPg i=[]:=by
 refine ⟨pageF_iff.1 (by decide +kernel),fun i=>?_⟩
 unfold cellOf
 rw[if_neg (by show ¬ i < 0;omega)]
end OT
set_option linter.unusedVariables false
set_option linter.unusedSimpArgs false
namespace OT
open Go
theorem ix3 {i:Nat} (h:i < 1000):w64 ((3:Int)+w64 ((2:Int)*(i:Int)))=((3+2*i:Nat):Int):=by
 rw[w64_in (n:=(2:Int)*(i:Int)) (by omega),w64_in (by omega)];omega
theorem ix2 {i:Nat} (h:i < 1000):w64 ((2:Int)+w64 ((2:Int)*(i:Int)))=((2+2*i:Nat):Int):=by
 rw[w64_in (n:=(2:Int)*(i:Int)) (by omega),w64_in (by omega)];omega
theorem wpb (p:List UInt8) (i:Nat):w64 ((pb p i:Nat):Int)=((pb p i:Nat):Int):=by
 have:=pb_lt p i
 exact w64_in (by omega)
theorem read_pb {R:Type} {p:List UInt8} {i:Nat} (h:i < p.length) (K:UInt8->Option R):(p[i]?).bind K=K p[i]:=by rw[(pb_get h).1];rfl
section
variable {p:List UInt8} (hp:p.length=64)
include hp
theorem pCount_eq:spec_l2Count.sem (p,())=some ((pn p:Int),()):=by
 refine lift_eq (k:=0) fun k _=>(spec_l2Count.raw_eq k _).trans ?_
 show spec_l2Count.p _=_
 unfold spec_l2Count.p
 simp only[read_pb (show 0 < p.length by omega),(pb_get (show 0 < p.length by omega)).2,wpb]
 rfl
theorem pSlots_eq:impl_slots.sem (p,())=some ((pn p:Int),()):=by
 refine lift_eq (k:=0) fun k _=>(impl_slots.raw_eq k _).trans ?_
 show impl_slots.p _=_
 unfold impl_slots.p
 simp only[read_pb (show 0 < p.length by omega),(pb_get (show 0 < p.length by omega)).2,wpb]
 rfl
theorem pLow_eq:spec_l2Low.sem (p,())=some ((plo p:Int),()):=by
 refine lift_eq (k:=0) fun k _=>(spec_l2Low.raw_eq k _).trans ?_
 show spec_l2Low.p _=_
 unfold spec_l2Low.p
 simp only[read_pb (show 1 < p.length by omega),(pb_get (show 1 < p.length by omega)).2,wpb]
 rfl
theorem pSize_eq {i:Nat} (hi:i < 16):spec_l2Size.sem (p,(i:Int),())=some ((psz p i:Int),()):=by
 refine lift_eq (k:=0) fun k _=>(spec_l2Size.raw_eq k _).trans ?_
 show spec_l2Size.p _=_
 unfold spec_l2Size.p
 simp only[ix3 (show i < 1000 by omega),Int.natCast_nonneg,if_true,Int.toNat_natCast,read_pb (show 3+2*i < p.length by omega),(pb_get (show 3+2*i < p.length by omega)).2,wpb]
 rfl
theorem pPlace_eq {i:Nat} (hi:i < 16):spec_l2Place.sem (p,(i:Int),())=some ((pat p i:Int),()):=by
 refine lift_eq (k:=0) fun k _=>(spec_l2Place.raw_eq k _).trans ?_
 show spec_l2Place.p _=_
 unfold spec_l2Place.p
 simp only[ix2 (show i < 1000 by omega),Int.natCast_nonneg,if_true,Int.toNat_natCast,read_pb (show 2+2*i < p.length by omega),(pb_get (show 2+2*i < p.length by omega)).2,wpb]
 rfl
theorem pSpot_eq {i:Nat} (hi:i < 16):impl_spot.sem (p,(i:Int),())=some ((pat p i:Int),(psz p i:Int),()):=by
 refine lift_eq (k:=0) fun k _=>(impl_spot.raw_eq k _).trans ?_
 show impl_spot.p _=_
 unfold impl_spot.p
 simp only[ix2 (show i < 1000 by omega),ix3 (show i < 1000 by omega),Int.natCast_nonneg,if_true,Int.toNat_natCast,read_pb (show 2+2*i < p.length by omega),(pb_get (show 2+2*i < p.length by omega)).2,read_pb (show 3+2*i < p.length by omega),(pb_get (show 3+2*i < p.length by omega)).2,wpb]
 rfl
theorem pSlot_eq {i:Nat} (hi:i < 16):spec_l2Slot.sem (p,(i:Int),())=some (slotB p i,()):=by
 refine lift_eq (k:=0) fun k _=>(spec_l2Slot.raw_eq k _).trans ?_
 show spec_l2Slot.p _=_
 unfold spec_l2Slot.p slotB
 have h1:=pb_lt p (2+2*i)
 have h2:=pb_lt p (3+2*i)
 have hw:w64 ((pat p i:Int)+(psz p i:Int))=((pat p i+psz p i:Nat):Int):=by
  have:pat p i < 256:=h1
  have:psz p i < 256:=h2
  rw[w64_in (by omega)];omega
 simp only[pPlace_eq hp hi,pSize_eq hp hi,pLow_eq hp,Option.bind_some,hw]
 have e1:decide ((pat p i:Int)=0)=decide (pat p i=0):=by rw[decide_eq_decide];omega
 have e2:decide ((psz p i:Int)=0)=decide (psz p i=0):=by rw[decide_eq_decide];omega
 have e3:decide ((pat p i:Int)=(psz p i:Int))=decide (pat p i=psz p i):=by rw[decide_eq_decide];omega
 have e4:decide ((plo p:Int)<=(pat p i:Int))=decide (plo p<=pat p i):=by rw[decide_eq_decide];omega
 have e5:decide (((pat p i+psz p i:Nat):Int)<=64)=decide (pat p i+psz p i<=64):=by rw[decide_eq_decide];omega
 rw[e1,e2,e3,e4,e5]
 by_cases c1:pat p i=0
 ·simp[c1]
 ·by_cases c2:psz p i=0
  ·simp[c1,c2]
  ·simp only[c1,c2,decide_false,cond_false,or_self,if_false]
   cases decide (plo p<=pat p i) <;> rfl
theorem pApart_eq {i j:Nat} (hi:i < 16) (hj:j < 16):spec_l2Apart.sem (p,(i:Int),(j:Int),())=some (apartP p i j,()):=by
 refine lift_eq (k:=0) fun k _=>(spec_l2Apart.raw_eq k _).trans ?_
 show spec_l2Apart.p _=_
 unfold spec_l2Apart.p apartP
 have h1:pat p i < 256:=pb_lt p _
 have h2:psz p i < 256:=pb_lt p _
 have h3:pat p j < 256:=pb_lt p _
 have h4:psz p j < 256:=pb_lt p _
 have hw:w64 ((pat p i:Int)+(psz p i:Int))=((pat p i+psz p i:Nat):Int):=by rw[w64_in (by omega)];omega
 have hw2:w64 ((pat p j:Int)+(psz p j:Int))=((pat p j+psz p j:Nat):Int):=by rw[w64_in (by omega)];omega
 simp only[pPlace_eq hp hi,pSize_eq hp hi,pPlace_eq hp hj,pSize_eq hp hj,Option.bind_some,hw,hw2]
 have e1:decide ((psz p i:Int)=0)=decide (psz p i=0):=by rw[decide_eq_decide];omega
 have e2:decide ((psz p j:Int)=0)=decide (psz p j=0):=by rw[decide_eq_decide];omega
 have e3:decide (((pat p i+psz p i:Nat):Int)<=(pat p j:Int))=decide (pat p i+psz p i<=pat p j):=by rw[decide_eq_decide];omega
 have e4:decide (((pat p j+psz p j:Nat):Int)<=(pat p i:Int))=decide (pat p j+psz p j<=pat p i):=by rw[decide_eq_decide];omega
 rw[e1,e2,e3,e4]
 cases decide (psz p i=0) <;> cases decide (psz p j=0) <;> cases decide (pat p i+psz p i<=pat p j) <;> rfl
end
theorem forI_checkN {O:Type} (q:Nat->Bool) (bad e:O):∀ (xs:List Nat) (i:Nat),forI (fun _ (_:Unit) x=>if q x then .inr () else .inl bad) (fun _=>e) i xs ()=if xs.all q then e else bad:=fun xs i=>forI_check q bad (fun _=>e) xs i
theorem specPage_eq (p:List UInt8) (hl:p.length<=maxLen):spec_l2Fault.sem (p,())=some (pageF p,()):=by
 refine lift_eq (k:=100) fun k hk=>(spec_l2Fault.raw_eq k _).trans ?_
 unfold spec_l2Fault.p pageF
 have e0:decide ((p.length:Int)=64)=decide (p.length=64):=by rw[decide_eq_decide];omega
 rw[e0]
 by_cases hp:p.length=64
 rotate_left
 ·simp only[hp,decide_false,Bool.not_false,cond_true,if_false]
 have hn:pn p < 256:=pb_lt p 0
 have hlo:plo p < 256:=pb_lt p 1
 have hw:w64 ((2:Int)+w64 ((2:Int)*(pn p:Int)))=((2+2*pn p:Nat):Int):=ix2 (by omega)
 simp only[hp,decide_true,Bool.not_true,cond_false,pCount_eq hp,pLow_eq hp,Option.bind_some,hw,if_true]
 by_cases c1:pn p<=16
 rotate_left
 ·have:((16:Int) < (pn p:Int)):=by omega
  simp only[this,decide_true,cond_true,c1,false_and,if_false]
 have n1:¬ ((16:Int) < (pn p:Int)):=by omega
 simp only[n1,decide_false,cond_false,c1,true_and]
 by_cases c2:2+2*pn p<=plo p
 rotate_left
 ·have:((plo p:Int) < ((2+2*pn p:Nat):Int)):=by omega
  simp only[this,decide_true,cond_true,c2,false_and,if_false]
 have n2:¬ ((plo p:Int) < ((2+2*pn p:Nat):Int)):=by omega
 simp only[n2,decide_false,cond_false,c2,true_and]
 by_cases c3:plo p<=64
 rotate_left
 ·have:((64:Int) < (plo p:Int)):=by omega
  simp only[this,decide_true,cond_true,c3,if_false]
 have n3:¬ ((64:Int) < (plo p:Int)):=by omega
 simp only[n3,decide_false,cond_false,c3,if_true]
 have inner:∀ (self:((List UInt8)×Int×Int)->Option spec_l2Fault.Out) (e2:((List UInt8)×Int)->Option spec_l2Fault.Out) (i:Nat) (hi:i < pn p),spec_l2Fault.r2 k self e2 (p,()) p (pn p:Int) (i:Int) (0:Int)=if (List.range i).all (apartP p i) then self (p,(pn p:Int),w64 ((i:Int)+1)) else some ((8:Int),()):=fun self e2 i hi=>by
  have:=for_loopE (B:=fun self' v=>spec_l2Fault.B2 k self' (fun z=>spec_l2Fault.Q1 k self e2 (p,()) p (pn p:Int) (i:Int) z) (p,()) p (pn p:Int) (i:Int) v) (List.range i) (fun (_:Unit) (j:Int)=>j) (fun _ _ x=>if apartP p i x then .inr () else .inl (some ((8:Int),()))) (fun _=>self (p,(pn p:Int),w64 ((i:Int)+1))) (fun _ _=>True) (by rw[maxLen_val,List.length_range];omega)
   (fun j hj s self' _=>by
    rw[List.length_range] at hj
    show spec_l2Fault.b2 _ _ _ _ _ _ _=_
    unfold spec_l2Fault.b2
    have hlt:(j:Int) < (i:Int):=by omega
    simp only[hlt,decide_true,cond_true,pApart_eq hp (show i < 16 by omega) (show j < 16 by omega),Option.bind_some,List.getElem_range]
    cases apartP p i j <;> rfl)
   (fun _ _ _ _ _ _=>trivial) (fun s self' _=>by
    rw[List.length_range]
    show spec_l2Fault.b2 _ _ _ _ _ _ _=_
    unfold spec_l2Fault.b2
    simp only[Int.lt_irrefl,decide_false,cond_false]
    rfl) () trivial k (by rw[List.length_range];omega)
  rw[forI_checkN] at this
  exact this
 have outer:spec_l2Fault.r1 k (p,()) (pn p:Int) (p,(pn p:Int),(0:Int))=if (List.range (pn p)).all (fun i=>(List.range i).all (apartP p i)) then spec_l2Fault.Q2 k (p,()) (p,(pn p:Int)) else some ((8:Int),()):=by
  have:=for_loopE (B:=fun self v=>spec_l2Fault.B1 k self (fun z=>spec_l2Fault.Q2 k (p,()) z) (p,()) v) (List.range (pn p)) (fun (_:Unit) (i:Int)=>(p,(pn p:Int),i)) (fun _ _ x=>if (List.range x).all (apartP p x) then .inr () else .inl (some ((8:Int),()))) (fun _=>spec_l2Fault.Q2 k (p,()) (p,(pn p:Int))) (fun _ _=>True) (by rw[maxLen_val,List.length_range];omega)
   (fun i hi s self _=>by
    rw[List.length_range] at hi
    show spec_l2Fault.b1 _ _ _ _ _=_
    unfold spec_l2Fault.b1
    have hlt:(i:Int) < (pn p:Int):=by omega
    simp only[hlt,decide_true,cond_true,inner self _ i hi,List.getElem_range]
    cases (List.range i).all (apartP p i) <;> rfl)
   (fun _ _ _ _ _ _=>trivial) (fun s self _=>by
    rw[List.length_range]
    show spec_l2Fault.b1 _ _ _ _ _=_
    unfold spec_l2Fault.b1
    simp only[Int.lt_irrefl,decide_false,cond_false]) () trivial k (by rw[List.length_range];omega)
  rw[forI_checkN] at this
  exact this
 have first:spec_l2Fault.r0 k (p,()) (pn p:Int) (0:Int)=if (List.range (pn p)).all (slotB p) then spec_l2Fault.r1 k (p,()) (pn p:Int) (p,(pn p:Int),(0:Int)) else some ((3:Int),()):=by
  have:=for_loopE (B:=fun self v=>spec_l2Fault.B0 k self (fun z=>spec_l2Fault.Q0 k (p,()) (pn p:Int) z) (p,()) (pn p:Int) v) (List.range (pn p)) (fun (_:Unit) (i:Int)=>i) (fun _ _ x=>if slotB p x then .inr () else .inl (some ((3:Int),()))) (fun _=>spec_l2Fault.r1 k (p,()) (pn p:Int) (p,(pn p:Int),(0:Int))) (fun _ _=>True) (by rw[maxLen_val,List.length_range];omega)
   (fun i hi s self _=>by
    rw[List.length_range] at hi
    show spec_l2Fault.b0 _ _ _ _ _=_
    unfold spec_l2Fault.b0
    have hlt:(i:Int) < (pn p:Int):=by omega
    simp only[hlt,decide_true,cond_true,pSlot_eq hp (show i < 16 by omega),Option.bind_some,List.getElem_range]
    cases slotB p i <;> rfl)
   (fun _ _ _ _ _ _=>trivial) (fun s self _=>by
    rw[List.length_range]
    show spec_l2Fault.b0 _ _ _ _ _=_
    unfold spec_l2Fault.b0
    simp only[Int.lt_irrefl,decide_false,cond_false]
    rfl) () trivial k (by rw[List.length_range];omega)
  rw[forI_checkN] at this
  exact this
 rw[first]
 split
 ·rw[outer]
  split
  ·show spec_l2Fault.q2 _ _=_
   unfold spec_l2Fault.q2
   by_cases h0:0 < pn p
   ·have hlt:(0:Int) < (pn p:Int):=by omega
    have hwm:w64 ((pn p:Int) - 1)=((pn p - 1:Nat):Int):=by rw[w64_in (by omega)];omega
    simp only[hlt,decide_true,cond_true,hwm,pSize_eq hp (show pn p - 1 < 16 by omega),Option.bind_some,h0,true_and]
    by_cases hz:psz p (pn p - 1)=0
    ·simp[hz]
    ·have:¬ ((psz p (pn p - 1):Int)=0):=by omega
     simp only[this,decide_false,cond_false,hz,if_false]
   ·have hlt:¬ ((0:Int) < (pn p:Int)):=by omega
    simp only[hlt,decide_false,cond_false,h0,false_and,if_false]
  ·rfl
 ·rfl
theorem forI_anyS {S O:Type} (q:Nat->Bool) (g:Nat->S) (bad e:O):∀ (xs:List Nat) (i:Nat) (s:S),forI (fun _ s x=>if q x then .inl bad else .inr (g x)) (fun _=>e) i xs s=if xs.any q then bad else e
 | [],_,_=>rfl
 | x::xs,i,s=>by
  simp only[forI,List.any_cons]
  by_cases h:q x=true
  ·simp[h]
  ·simp[h,forI_anyS q g bad e xs (i+1)]
def covS (p:List UInt8) (i t:Nat):List Bool:=(List.range 64).map fun j=>covP p i j||decide (pat p i<=j/\j < pat p i+t)
def overB (p:List UInt8) (i:Nat):Bool:=(List.range (psz p i)).any fun t=>covP p i (pat p i+t)
theorem covS_zero (p:List UInt8) (i:Nat):covS p i 0=(List.range 64).map (covP p i):=by
 unfold covS
 refine List.map_congr_left fun j _=>?_
 have:¬ (pat p i<=j/\j < pat p i+0):=by omega
 simp only[this,decide_false,Bool.or_false]
theorem covS_full (p:List UInt8) (i:Nat):covS p i (psz p i)=(List.range 64).map (covP p (i+1)):=rfl
theorem covS_get (p:List UInt8) (i t j:Nat) (h:j < 64):(covS p i t)[j]?=some (covP p i j||decide (pat p i<=j/\j < pat p i+t)):=by
 unfold covS
 simp[h]
theorem covS_len (p:List UInt8) (i t:Nat):(covS p i t).length=64:=by simp[covS]
theorem covS_succ (p:List UInt8) (i t:Nat) (h:pat p i+t < 64):(covS p i t).set (pat p i+t) true=covS p i (t+1):=by
 refine List.ext_getElem? fun j=>?_
 rw[List.getElem?_set,covS_len]
 by_cases hj:j < 64
 ·rw[covS_get p i t j hj,covS_get p i (t+1) j hj]
  by_cases e:pat p i+t=j
  ·subst e
   have:pat p i<=pat p i+t/\pat p i+t < pat p i+(t+1):=by omega
   simp[h,this]
  ·rw[if_neg e]
   have:(pat p i<=j/\j < pat p i+t)↔(pat p i<=j/\j < pat p i+(t+1)):=by omega
   simp only[this]
 ·have h1:(covS p i t)[j]?=none:=List.getElem?_eq_none (by rw[covS_len];omega)
  have h2:(covS p i (t+1))[j]?=none:=List.getElem?_eq_none (by rw[covS_len];omega)
  rw[h1,h2,if_neg (by omega)]
theorem covP_iff {p:List UInt8}:∀ {k j:Nat},covP p k j=true↔∃ i,i < k/\pat p i<=j/\j < pat p i+psz p i
 | 0,j=>by simp[covP]
 | k+1,j=>by
  simp only[covP,Bool.or_eq_true,decide_eq_true_eq,covP_iff (k:=k)]
  constructor
  ·rintro (⟨i,h1,h2⟩ | h)
   ·exact ⟨i,by omega,h2⟩
   ·exact ⟨k,by omega,h⟩
  ·rintro ⟨i,h1,h2⟩
   by_cases e:i=k
   ·subst e;exact .inr h2
   ·exact .inl ⟨i,by omega,h2⟩
theorem over_apart (p:List UInt8) (i:Nat):overB p i=!(List.range i).all (apartP p i):=by
 rw[Bool.eq_iff_iff]
 simp only[overB,List.any_eq_true,List.mem_range,covP_iff,Bool.not_eq_true',List.all_eq_false,Bool.not_eq_true]
 constructor
 ·rintro ⟨t,ht,k,hk,h1,h2⟩
  refine ⟨k,hk,?_⟩
  cases h:apartP p i k with
  | false=>rfl
  | true=>have:=apartP_iff.1 h (by omega) (by omega);omega
 ·rintro ⟨k,hk,h⟩
  have hn:¬ (psz p i≠0->psz p k≠0->pat p i+psz p i<=pat p k\/pat p k+psz p k<=pat p i):=fun h2=>by rw[apartP_iff.2 h2] at h;cases h
  by_cases c1:psz p i=0
  ·exact absurd (fun h=>absurd c1 h) hn
  ·by_cases c2:psz p k=0
   ·exact absurd (fun _ h=>absurd c2 h) hn
   ·have c3:¬ (pat p i+psz p i<=pat p k):=fun h3=>hn fun _ _=>.inl h3
    have c4:¬ (pat p k+psz p k<=pat p i):=fun h3=>hn fun _ _=>.inr h3
    exact ⟨max (pat p i) (pat p k) - pat p i,by omega,k,hk,by omega,by omega⟩
theorem any_over (p:List UInt8) (n:Nat):(List.range n).any (overB p)=!(List.range n).all (fun i=>(List.range i).all (apartP p i)):=by
 rw[List.not_all_eq_any_not]
 congr 1
 funext i
 exact over_apart p i
theorem implPage_eq (p:List UInt8) (hl:p.length<=maxLen):impl_PageFault.sem (p,())=some (pageF p,()):=by
 refine lift_eq (k:=300) fun k hk=>(impl_PageFault.raw_eq k _).trans ?_
 unfold impl_PageFault.p pageF
 have e0:decide ((p.length:Int)=64)=decide (p.length=64):=by rw[decide_eq_decide];omega
 rw[e0]
 by_cases hp:p.length=64
 rotate_left
 ·simp only[hp,decide_false,Bool.not_false,cond_true,if_false]
 have hn:pn p < 256:=pb_lt p 0
 have hlo:plo p < 256:=pb_lt p 1
 have hw:w64 ((2:Int)+w64 ((2:Int)*(pn p:Int)))=((2+2*pn p:Nat):Int):=ix2 (by omega)
 have hb1:((p[1]'(by omega)).toNat)=plo p:=(pb_get (show 1 < p.length by omega)).2
 have hwl:w64 (plo p:Int)=(plo p:Int):=wpb p 1
 simp only[hp,decide_true,Bool.not_true,cond_false,read_pb (show 1 < p.length by omega),hb1,hwl,pSlots_eq hp,Option.bind_some,hw,if_true]
 by_cases c1:pn p<=16
 rotate_left
 ·have:((16:Int) < (pn p:Int)):=by omega
  simp only[this,decide_true,cond_true,c1,false_and,if_false]
 have n1:¬ ((16:Int) < (pn p:Int)):=by omega
 simp only[n1,decide_false,cond_false,c1,true_and]
 by_cases c2:2+2*pn p<=plo p
 rotate_left
 ·have:((plo p:Int) < ((2+2*pn p:Nat):Int)):=by omega
  simp only[this,decide_true,cond_true,c2,false_and,if_false]
 have n2:¬ ((plo p:Int) < ((2+2*pn p:Nat):Int)):=by omega
 simp only[n2,decide_false,cond_false,c2,true_and]
 by_cases c3:plo p<=64
 rotate_left
 ·have:((64:Int) < (plo p:Int)):=by omega
  simp only[this,decide_true,cond_true,c3,if_false]
 have n3:¬ ((64:Int) < (plo p:Int)):=by omega
 simp only[n3,decide_false,cond_false,c3,if_true]
 have first:impl_PageFault.r0 k (p,()) (pn p:Int) (plo p:Int) (0:Int)=if (List.range (pn p)).all (slotB p) then impl_PageFault.Q0 k (p,()) (pn p:Int) (plo p:Int) () else some ((3:Int),()):=by
  have:=for_loopE (B:=fun self v=>impl_PageFault.B0 k self (fun z=>impl_PageFault.Q0 k (p,()) (pn p:Int) (plo p:Int) z) (p,()) (pn p:Int) (plo p:Int) v) (List.range (pn p)) (fun (_:Unit) (i:Int)=>i) (fun _ _ x=>if slotB p x then .inr () else .inl (some ((3:Int),()))) (fun _=>impl_PageFault.Q0 k (p,()) (pn p:Int) (plo p:Int) ()) (fun _ _=>True) (by rw[maxLen_val,List.length_range];omega)
   (fun i hi s self _=>by
    rw[List.length_range] at hi
    show impl_PageFault.b0 _ _ _ _ _ _=_
    unfold impl_PageFault.b0
    have hlt:(i:Int) < (pn p:Int):=by omega
    have h1:pat p i < 256:=pb_lt p _
    have h2:psz p i < 256:=pb_lt p _
    have hw2:w64 ((pat p i:Int)+(psz p i:Int))=((pat p i+psz p i:Nat):Int):=by rw[w64_in (by omega)];omega
    simp only[hlt,decide_true,cond_true,pSpot_eq hp (show i < 16 by omega),Option.bind_some,List.getElem_range,hw2]
    have e1:decide ((pat p i:Int)=0)=decide (pat p i=0):=by rw[decide_eq_decide];omega
    have e2:decide ((psz p i:Int)=0)=decide (psz p i=0):=by rw[decide_eq_decide];omega
    have e4:decide ((pat p i:Int) < (plo p:Int))=decide (pat p i < plo p):=by rw[decide_eq_decide];omega
    have e5:decide ((64:Int) < ((pat p i+psz p i:Nat):Int))=decide (64 < pat p i+psz p i):=by rw[decide_eq_decide];omega
    rw[e1,e2,e4,e5]
    unfold slotB
    by_cases d1:pat p i=0
    ·by_cases d2:psz p i=0
     ·simp[d1,d2]
     ·have:¬ (0=psz p i):=fun e=>d2 e.symm
      simp[d1,d2,this]
    ·by_cases d2:psz p i=0
     ·simp[d1,d2]
     ·by_cases d3:pat p i < plo p
      ·have d3':¬ (plo p<=pat p i):=by omega
       simp[d1,d2,d3,d3']
      ·by_cases d4:64 < pat p i+psz p i
       ·have d4':¬ (pat p i+psz p i<=64):=by omega
        simp[d1,d2,d3,d4,d4']
       ·have d3':plo p<=pat p i:=by omega
        have d4':pat p i+psz p i<=64:=by omega
        simp[d1,d2,d3,d4,d3',d4'])
   (fun _ _ _ _ _ _=>trivial) (fun s self _=>by
    rw[List.length_range]
    show impl_PageFault.b0 _ _ _ _ _ _=_
    unfold impl_PageFault.b0
    simp only[Int.lt_irrefl,decide_false,cond_false]) () trivial k (by rw[List.length_range];omega)
  rw[forI_checkN] at this
  exact this
 rw[first]
 by_cases hsl:(List.range (pn p)).all (slotB p)=true
 rotate_left
 ·simp only[hsl,Bool.false_eq_true,if_false]
 simp only[hsl,if_true]
 have hs:∀ i,i < pn p->psz p i≠0->plo p<=pat p i/\pat p i+psz p i<=64:=fun i hi=>((slotB_iff (by omega)).1 (List.all_eq_true.1 hsl i (List.mem_range.2 hi))).1
 have inner:∀ (self:((List UInt8)×Int×(List Bool)×Int×Int)->Option impl_PageFault.Out) (e2:((List UInt8)×Int)->Option impl_PageFault.Out) (i:Nat) (hi:i < pn p),impl_PageFault.r2 k self e2 (p,()) p (pn p:Int) (pat p i:Int) (psz p i:Int) (pn p:Int) (i:Int) ((List.range 64).map (covP p i),(pat p i:Int))=if overB p i then some ((8:Int),()) else self (p,(pn p:Int),(List.range 64).map (covP p (i+1)),(pn p:Int),w64 ((i:Int)+1)):=fun self e2 i hi=>by
  have h1:pat p i < 256:=pb_lt p _
  have h2:psz p i < 256:=pb_lt p _
  have hw2:w64 ((pat p i:Int)+(psz p i:Int))=((pat p i+psz p i:Nat):Int):=by rw[w64_in (by omega)];omega
  have:=for_loopE (B:=fun self' v=>impl_PageFault.B2 k self' (fun z=>impl_PageFault.Q1 k self e2 (p,()) p (pn p:Int) (pat p i:Int) (psz p i:Int) (pn p:Int) (i:Int) z) (p,()) p (pn p:Int) (pat p i:Int) (psz p i:Int) (pn p:Int) (i:Int) v) (List.range (psz p i)) (fun (s:List Bool) (t:Int)=>(s,(pat p i:Int)+t)) (fun _ s t=>if covP p i (pat p i+t) then .inl (some ((8:Int),())) else .inr (covS p i (t+1))) (fun _=>self (p,(pn p:Int),(List.range 64).map (covP p (i+1)),(pn p:Int),w64 ((i:Int)+1))) (fun t s=>s=covS p i t) (by rw[maxLen_val,List.length_range];omega)
   (fun t ht s self' hI=>by
    rw[List.length_range] at ht
    subst hI
    obtain ⟨g1,g2⟩:=hs i hi (by omega)
    show impl_PageFault.b2 _ _ _ _ _ _ _ _ _ _=_
    unfold impl_PageFault.b2
    have hlt:(pat p i:Int)+(t:Int) < ((pat p i+psz p i:Nat):Int):=by omega
    have hnn:(0:Int)<=(pat p i:Int)+(t:Int):=by omega
    have hlen:(pat p i:Int)+(t:Int) < ((covS p i t).length:Int):=by rw[covS_len];omega
    have htn:((pat p i:Int)+(t:Int)).toNat=pat p i+t:=by omega
    have hnot:¬ (pat p i<=pat p i+t/\pat p i+t < pat p i+t):=by omega
    have hwt:w64 ((pat p i:Int)+(t:Int)+1)=(pat p i:Int)+w64 ((t:Int)+1):=by rw[w64_in (by omega),w64_in (by omega)];omega
    simp only[hw2,hlt,decide_true,cond_true,hnn,hlen,and_self,if_true,htn,covS_get p i t (pat p i+t) (by omega),hnot,decide_false,Bool.or_false,Option.bind_some,List.getElem_range,covS_succ p i t (by omega),hwt]
    cases covP p i (pat p i+t) <;> rfl)
   (fun t ht s s' hI hf=>by
    simp only[List.getElem_range] at hf
    split at hf
    ·cases hf
    ·injection hf with hf;exact hf.symm) (fun s self' hI=>by
    rw[List.length_range] at hI ⊢
    show impl_PageFault.b2 _ _ _ _ _ _ _ _ _ _=_
    unfold impl_PageFault.b2
    have hlt:¬ ((pat p i:Int)+(psz p i:Int) < ((pat p i+psz p i:Nat):Int)):=by omega
    simp only[hw2,hlt,decide_false,cond_false]
    rw[hI,covS_full]
    rfl) (covS p i 0) rfl k (by rw[List.length_range];omega)
  rw[forI_anyS] at this
  rw[<-covS_zero]
  simp only[Int.add_zero] at this
  exact this
 have outer:impl_PageFault.r1 k (p,()) (pn p:Int) (plo p:Int) (p,(pn p:Int),List.replicate 64 false,(pn p:Int),(0:Int))=if (List.range (pn p)).any (overB p) then some ((8:Int),()) else impl_PageFault.Q2 k (p,()) (p,(pn p:Int)):=by
  have:=for_loopE (B:=fun self v=>impl_PageFault.B1 k self (fun z=>impl_PageFault.Q2 k (p,()) z) (p,()) v) (List.range (pn p)) (fun (s:List Bool) (i:Int)=>(p,(pn p:Int),s,(pn p:Int),i)) (fun _ s x=>if overB p x then .inl (some ((8:Int),())) else .inr ((List.range 64).map (covP p (x+1)))) (fun _=>impl_PageFault.Q2 k (p,()) (p,(pn p:Int))) (fun i s=>s=(List.range 64).map (covP p i)) (by rw[maxLen_val,List.length_range];omega)
   (fun i hi s self hI=>by
    rw[List.length_range] at hi
    subst hI
    show impl_PageFault.b1 _ _ _ _ _=_
    unfold impl_PageFault.b1
    have hlt:(i:Int) < (pn p:Int):=by omega
    simp only[hlt,decide_true,cond_true,pSpot_eq hp (show i < 16 by omega),Option.bind_some,inner self _ i hi,List.getElem_range]
    cases overB p i <;> rfl)
   (fun i hi s s' hI hf=>by
    simp only[List.getElem_range] at hf
    split at hf
    ·cases hf
    ·injection hf with hf;exact hf.symm) (fun s self _=>by
    rw[List.length_range]
    show impl_PageFault.b1 _ _ _ _ _=_
    unfold impl_PageFault.b1
    simp only[Int.lt_irrefl,decide_false,cond_false]) (List.replicate 64 false) (by show _=(List.range 64).map (fun _=>false);decide) k (by rw[List.length_range];omega)
  rw[forI_anyS] at this
  exact this
 show impl_PageFault.q0 _ _ _ _ _=_
 unfold impl_PageFault.q0
 rw[outer,any_over]
 by_cases hap:(List.range (pn p)).all (fun i=>(List.range i).all (apartP p i))=true
 rotate_left
 ·simp only[hap,Bool.not_false,if_true,Bool.false_eq_true,if_false]
 simp only[hap,Bool.not_true,Bool.false_eq_true,if_false,if_true]
 show impl_PageFault.q2 _ _=_
 unfold impl_PageFault.q2
 by_cases h0:0 < pn p
 ·have hlt:(0:Int) < (pn p:Int):=by omega
  have hwm:w64 (w64 ((2:Int)*(pn p:Int))+1)=((2*pn p+1:Nat):Int):=by rw[w64_in (n:=(2:Int)*(pn p:Int)) (by omega),w64_in (by omega)];omega
  have hz:((p[2*pn p+1]'(by omega)).toNat)=psz p (pn p - 1):=by
   rw[(pb_get (show 2*pn p+1 < p.length by omega)).2]
   show pb p _=pb p _
   congr 1;omega
  simp only[hlt,decide_true,cond_true,hwm,Int.natCast_nonneg,if_true,Int.toNat_natCast,read_pb (show 2*pn p+1 < p.length by omega),hz,h0,true_and]
  by_cases hz:psz p (pn p - 1)=0
  ·simp[hz]
  ·have:¬ ((psz p (pn p - 1):Int)=0):=by omega
   simp only[this,decide_false,cond_false,hz,if_false]
 ·have hlt:¬ ((0:Int) < (pn p:Int)):=by omega
  simp only[hlt,decide_false,cond_false,h0,false_and,if_false]
end OT
set_option linter.unusedVariables false
set_option linter.unusedSimpArgs false
namespace OT
open Go
theorem range_loop {V S O:Type} {B:(V->Option O)->V->Option O} (n:Nat) (enc:S->Int->V) (f:Nat->S->Sum (Option O) S) (fin:S->Option O) (I:Nat->S->Prop) (hn:n<=1048576)
  (hin:∀ (i:Nat),i < n->∀ (s:S) self,I i s->B self (enc s (i:Int))=match f i s with | .inl o=>o | .inr s'=>self (enc s' (w64 ((i:Int)+1))))
  (hI:∀ (i:Nat),i < n->∀ (s s':S),I i s->f i s=.inr s'->I (i+1) s')
  (hout:∀ (s:S) self,I n s->B self (enc s (n:Int))=fin s) (s:S) (h0:I 0 s) (k:Nat) (hk:n < k):rawIter B k (enc s 0)=forI (fun _ s x=>f x s) fin 0 (List.range n) s:=
 for_loopE (List.range n) enc (fun _ s x=>f x s) fin I (by rw[maxLen_val,List.length_range];omega)
  (fun i hi s self h=>by rw[List.length_range] at hi;simp only[List.getElem_range];exact hin i hi s self h)
  (fun i hi s s' h hf=>by rw[List.length_range] at hi;simp only[List.getElem_range] at hf;exact hI i hi s s' h hf)
  (fun s self h=>by rw[List.length_range] at h ⊢;exact hout s self h) s h0 k (by rw[List.length_range];exact hk)
theorem forI_app {O α β:Type} (g:α->List β) (fin:List β->O):∀ (xs:List α) (i:Nat) (s:List β),forI (fun _ s x=>.inr (s++g x)) fin i xs s=fin (s++xs.flatMap g)
 | [],_,s=>by simp[forI]
 | x::xs,i,s=>by simp only[forI];rw[forI_app g fin xs (i+1)];simp[List.append_assoc]
abbrev row0:Row:=((0:Int),(0:Int),(0:Int),([]:List UInt8),())
abbrev cell0:CellResult:=((0:Int),(0:Int),(0:Int),(0:Int),row0,())
abbrev cell5:CellResult:=((5:Int),(0:Int),(0:Int),(0:Int),row0,())
def rowB (d:List UInt8):Row:=((pb d 1:Int),(pb d 2:Int),(pb d 3:Int)*256+(pb d 4:Int),d.drop 6,())
def cellF (d:List UInt8):CellResult×Bool:=
 if d.length=3/\pb d 0=1 then (((0:Int),(1:Int),(pb d 1:Int),(pb d 2:Int),row0,()),decide (pb d 1<=11)&&decide (pb d 2<=15))
 else if d.length < 6\/pb d 0=1\/2 < pb d 0\/d.length≠6+pb d 5 then (cell0,false)
 else (((0:Int),(pb d 0:Int),(0:Int),(0:Int),rowB d,()),decide (rowF (rowB d)=0))
theorem or_bytes {a b:Nat} (ha:a < 256) (hb:b < 256):((BitVec.ofInt 64 (w64 ((a:Int)*2 ^ 8)) ||| BitVec.ofInt 64 (b:Int)).toNat:Int)=(a:Int)*256+(b:Int):=by
 have e1:w64 ((a:Int)*2 ^ 8)=((2 ^ 8*a:Nat):Int):=by rw[w64_in (by omega)];omega
 rw[e1,BitVec.toNat_or]
 have e2:(BitVec.ofInt 64 ((2 ^ 8*a:Nat):Int)).toNat=2 ^ 8*a:=by
  rw[BitVec.toNat_ofInt];omega
 have e3:(BitVec.ofInt 64 (b:Int)).toNat=b:=by
  rw[BitVec.toNat_ofInt];omega
 rw[e2,e3,<- Nat.two_pow_add_eq_or_of_lt (by omega) a]
 omega
theorem specRead1_eq (d:List UInt8) (hd:d.length<=100):spec_l1Read.sem (d,())=some ((cellF d).1,(cellF d).2,()):=by
 refine lift_eq (k:=0) fun k _=>(spec_l1Read.raw_eq k _).trans ?_
 show spec_l1Read.p _=_
 unfold spec_l1Read.p cellF
 have b0:=pb_lt d 0
 have b1:=pb_lt d 1
 have b2:=pb_lt d 2
 have b3:=pb_lt d 3
 have b4:=pb_lt d 4
 have b5:=pb_lt d 5
 by_cases h3:d.length=3
 ·have e3:decide ((d.length:Int)=3)=true:=decide_eq_true (by omega)
  have e6:decide ((d.length:Int) < 6)=true:=decide_eq_true (by omega)
  have hl6:d.length < 6:=by omega
  simp only[e3,e6,cond_true,read_pb (show 0 < d.length by omega),(pb_get (show 0 < d.length by omega)).2]
  by_cases h1:pb d 0=1
  ·have e1:decide ((pb d 0:Int)=1)=true:=decide_eq_true (by omega)
   rw[if_pos ⟨h3,h1⟩]
   simp only[e1,cond_true,read_pb (show 1 < d.length by omega),(pb_get (show 1 < d.length by omega)).2,read_pb (show 2 < d.length by omega),(pb_get (show 2 < d.length by omega)).2,wpb]
   have hpl:spec_l1Place.sem ((pb d 1:Int),(pb d 2:Int),())=some (decide (pb d 1<=11)&&decide (pb d 2<=15),()):=by
    refine lift_eq (k:=0) fun k _=>(spec_l1Place.raw_eq k _).trans ?_
    show spec_l1Place.p _=_
    unfold spec_l1Place.p
    simp only[specIn_eq,Option.bind_some]
    have g1:decide ((0:Int)<=(pb d 1:Int))=true:=decide_eq_true (by omega)
    have g2:decide ((0:Int)<=(pb d 2:Int))=true:=decide_eq_true (by omega)
    have g3:decide ((pb d 1:Int)<=11)=decide (pb d 1<=11):=by rw[decide_eq_decide];omega
    have g4:decide ((pb d 2:Int)<=15)=decide (pb d 2<=15):=by rw[decide_eq_decide];omega
    rw[g1,g2,g3,g4]
    cases decide (pb d 1<=11) <;> rfl
   simp only[hpl,Option.bind_some]
  ·have e1:decide ((pb d 0:Int)=1)=false:=decide_eq_false (by omega)
   rw[if_neg (fun h=>h1 h.2),if_pos (Or.inl hl6)]
   simp only[e1,cond_false]
 ·have e3:decide ((d.length:Int)=3)=false:=decide_eq_false (by omega)
  simp only[e3,cond_false,h3,false_and,if_false]
  by_cases h6:d.length < 6
  ·have e6:decide ((d.length:Int) < 6)=true:=decide_eq_true (by omega)
   simp only[e6,cond_true,h6,true_or,if_true]
  ·have e6:decide ((d.length:Int) < 6)=false:=decide_eq_false (by omega)
   simp only[e6,cond_false,read_pb (show 0 < d.length by omega),(pb_get (show 0 < d.length by omega)).2,h6,false_or]
   by_cases h1:pb d 0=1
   ·have e1:decide ((pb d 0:Int)=1)=true:=decide_eq_true (by omega)
    rw[if_pos (Or.inl h1)]
    simp only[e1,cond_true]
   have e1:decide ((pb d 0:Int)=1)=false:=decide_eq_false (by omega)
   simp only[e1,cond_false,h1,false_or]
   by_cases h2:2 < pb d 0
   ·have e2:decide ((2:Int) < (pb d 0:Int))=true:=decide_eq_true (by omega)
    simp only[e2,cond_true,h2,true_or,if_true]
   have e2:decide ((2:Int) < (pb d 0:Int))=false:=decide_eq_false (by omega)
   have w6:w64 ((6:Int)+(pb d 5:Int))=((6+pb d 5:Nat):Int):=by rw[w64_in (by omega)];omega
   simp only[e2,cond_false,h2,false_or,read_pb (show 5 < d.length by omega),(pb_get (show 5 < d.length by omega)).2,wpb,w6]
   by_cases h5:d.length=6+pb d 5
   rotate_left
   ·have e5:decide ((d.length:Int)=((6+pb d 5:Nat):Int))=false:=decide_eq_false (by omega)
    simp only[e5,Bool.not_false,cond_true,h5,ne_eq,not_false_eq_true,if_true]
   have e5:decide ((d.length:Int)=((6+pb d 5:Nat):Int))=true:=decide_eq_true (by omega)
   have h6':(0:Int)<=6/\(6:Int)<=(d.length:Int):=by omega
   have w3:w64 (w64 ((pb d 3:Int)*256)+(pb d 4:Int))=(pb d 3:Int)*256+(pb d 4:Int):=by rw[w64_in (n:=(pb d 3:Int)*256) (by omega),w64_in (by omega)]
   have ht:(d.take d.length).drop 6=d.drop 6:=by rw[List.take_length]
   have hr:spec_l1Fault.sem (rowB d,())=some (rowF (rowB d),()):=specRow_eq (rowB d) (by rw[maxLen_val];simp only[rowB,List.length_drop];omega)
   unfold rowB at hr
   rw[if_neg (fun h=>h h5)]
   simp only[e5,Bool.not_true,cond_false,read_pb (show 1 < d.length by omega),(pb_get (show 1 < d.length by omega)).2,read_pb (show 2 < d.length by omega),(pb_get (show 2 < d.length by omega)).2,
    read_pb (show 3 < d.length by omega),(pb_get (show 3 < d.length by omega)).2,read_pb (show 4 < d.length by omega),(pb_get (show 4 < d.length by omega)).2,wpb,w3,ht,hr,Option.bind_some]
   rw[if_pos (by omega)]
   rfl
theorem implUnpack_eq (d:List UInt8) (hd:d.length<=100):impl_UnpackCell.sem (d,())=some (if (cellF d).2 then (cellF d).1 else cell5,()):=by
 refine lift_eq (k:=0) fun k _=>(impl_UnpackCell.raw_eq k _).trans ?_
 show impl_UnpackCell.p _=_
 unfold impl_UnpackCell.p
 have b0:=pb_lt d 0
 have b1:=pb_lt d 1
 have b2:=pb_lt d 2
 have b3:=pb_lt d 3
 have b4:=pb_lt d 4
 have b5:=pb_lt d 5
 by_cases h3:d.length=3
 ·have e3:decide ((d.length:Int)=3)=true:=decide_eq_true (by omega)
  have e6:decide ((d.length:Int) < 6)=true:=decide_eq_true (by omega)
  have hl6:d.length < 6:=by omega
  simp only[e3,e6,cond_true,read_pb (show 0 < d.length by omega),(pb_get (show 0 < d.length by omega)).2]
  by_cases h1:pb d 0=1
  ·have e1:decide ((pb d 0:Int)=1)=true:=decide_eq_true (by omega)
   have hc:cellF d=(((0:Int),(1:Int),(pb d 1:Int),(pb d 2:Int),row0,()),decide (pb d 1<=11)&&decide (pb d 2<=15)):=by unfold cellF;rw[if_pos ⟨h3,h1⟩]
   rw[hc]
   simp only[e1,cond_true,read_pb (show 1 < d.length by omega),(pb_get (show 1 < d.length by omega)).2,read_pb (show 2 < d.length by omega),(pb_get (show 2 < d.length by omega)).2,wpb]
   by_cases c1:pb d 1<=11
   ·have d1:decide ((pb d 1:Int) < 12)=true:=decide_eq_true (by omega)
    by_cases c2:pb d 2<=15
    ·have d2:decide ((pb d 2:Int) < 16)=true:=decide_eq_true (by omega)
     simp[d1,d2,c1,c2]
    ·have d2:decide ((pb d 2:Int) < 16)=false:=decide_eq_false (by omega)
     simp[d1,d2,c1,c2]
   ·have d1:decide ((pb d 1:Int) < 12)=false:=decide_eq_false (by omega)
    simp[d1,c1]
  ·have e1:decide ((pb d 0:Int)=1)=false:=decide_eq_false (by omega)
   have hc:cellF d=(cell0,false):=by unfold cellF;rw[if_neg (fun h=>h1 h.2),if_pos (Or.inl hl6)]
   rw[hc]
   simp only[e1,cond_false,Bool.false_eq_true,if_false]
 ·have e3:decide ((d.length:Int)=3)=false:=decide_eq_false (by omega)
  simp only[e3,cond_false]
  by_cases h6:d.length < 6
  ·have e6:decide ((d.length:Int) < 6)=true:=decide_eq_true (by omega)
   have hc:cellF d=(cell0,false):=by unfold cellF;rw[if_neg (fun h=>h3 h.1),if_pos (Or.inl h6)]
   rw[hc]
   simp only[e6,cond_true,Bool.false_eq_true,if_false]
  ·have e6:decide ((d.length:Int) < 6)=false:=decide_eq_false (by omega)
   have hc:cellF d=if pb d 0=1\/2 < pb d 0\/d.length≠6+pb d 5 then (cell0,false) else (((0:Int),(pb d 0:Int),(0:Int),(0:Int),rowB d,()),decide (rowF (rowB d)=0)):=by
    unfold cellF
    rw[if_neg (fun h=>h3 h.1)]
    simp only[h6,false_or]
   have hlen:∀ i,i < 6->i < d.length:=fun i hi=>by omega
   have w6:w64 ((6:Int)+(pb d 5:Int))=((6+pb d 5:Nat):Int):=by rw[w64_in (by omega)];omega
   have h6':(0:Int)<=6/\(6:Int)<=(d.length:Int):=by omega
   have w3:w64 ((BitVec.ofInt 64 (w64 ((pb d 3:Int)*2 ^ 8)) ||| BitVec.ofInt 64 (pb d 4:Int)).toNat:Int)=(pb d 3:Int)*256+(pb d 4:Int):=by rw[or_bytes b3 b4,w64_in (by omega)]
   have ht:(d.take d.length).drop 6=d.drop 6:=by rw[List.take_length]
   have hr:impl_RowFault.sem (rowB d,())=some (rowF (rowB d),()):=implRow_eq (rowB d) (by rw[maxLen_val];simp only[rowB,List.length_drop];omega)
   unfold rowB at hr
   simp only[e6,cond_false,read_pb (show 0 < d.length by omega),(pb_get (show 0 < d.length by omega)).2,read_pb (show 5 < d.length by omega),(pb_get (show 5 < d.length by omega)).2,read_pb (show 1 < d.length by omega),(pb_get (show 1 < d.length by omega)).2,read_pb (show 2 < d.length by omega),(pb_get (show 2 < d.length by omega)).2,
    read_pb (show 3 < d.length by omega),(pb_get (show 3 < d.length by omega)).2,read_pb (show 4 < d.length by omega),(pb_get (show 4 < d.length by omega)).2,wpb,w6,h6'.2,show (0:Int)<=6 by omega,and_self,if_true,w3,ht,hr,Option.bind_some]
   have e5:decide ((d.length:Int)=((6+pb d 5:Nat):Int))=decide (d.length=6+pb d 5):=by rw[decide_eq_decide];omega
   have e0:decide ((pb d 0:Int)=0)=decide (pb d 0=0):=by rw[decide_eq_decide];omega
   have e2:decide ((pb d 0:Int)=2)=decide (pb d 0=2):=by rw[decide_eq_decide];omega
   rw[e5,e0,e2]
   have fin:∀ (c5:d.length=6+pb d 5) (c0:¬ (pb d 0=1\/2 < pb d 0\/d.length≠6+pb d 5)),(bif !decide (rowF ((pb d 1:Int),(pb d 2:Int),(pb d 3:Int)*256+(pb d 4:Int),d.drop 6,())=0) then some (cell5,()) else some (((0:Int),(pb d 0:Int),(0:Int),(0:Int),((pb d 1:Int),(pb d 2:Int),(pb d 3:Int)*256+(pb d 4:Int),d.drop 6,()),()),()))=some (if (cellF d).2 then (cellF d).1 else cell5,()):=fun c5 c0=>by
    rw[hc,if_neg c0]
    show (bif !decide (rowF (rowB d)=0) then some (cell5,()) else some (((0:Int),(pb d 0:Int),(0:Int),(0:Int),rowB d,()),()))=some (if decide (rowF (rowB d)=0)=true then ((0:Int),(pb d 0:Int),(0:Int),(0:Int),rowB d,()) else cell5,())
    cases decide (rowF (rowB d)=0) <;> rfl
   have bad:(pb d 0=1\/2 < pb d 0\/d.length≠6+pb d 5)->(some (cell5,()):Option impl_UnpackCell.Out)=some (if (cellF d).2 then (cellF d).1 else cell5,()):=fun h=>by
    rw[hc,if_pos h];rfl
   by_cases c5:d.length=6+pb d 5
   ·rw[decide_eq_true c5]
    by_cases c0:pb d 0=0
    ·rw[decide_eq_true c0]
     exact fin c5 (by omega)
    ·rw[decide_eq_false c0]
     by_cases c2:pb d 0=2
     ·rw[decide_eq_true c2]
      exact fin c5 (by omega)
     ·rw[decide_eq_false c2]
      exact bad (by omega)
   ·rw[decide_eq_false c5]
    have hb:=bad (.inr (.inr c5))
    cases decide (pb d 0=0) <;> cases decide (pb d 0=2) <;> exact hb
section
variable {p:List UInt8} (hp:PageOk p)
include hp
theorem implHas_eq (s:Nat):impl_hasSlot.sem (p,(s:Int),())=some (decide (s < pn p)&&!decide (psz p s=0),()):=by
 refine lift_eq (k:=0) fun k _=>(impl_hasSlot.raw_eq k _).trans ?_
 show impl_hasSlot.p _=_
 unfold impl_hasSlot.p
 have h0:(0:Int)<=(s:Int):=by omega
 have hn:=hp.n
 have hl:=hp.len
 simp only[h0,decide_true,cond_true,pSlots_eq hl,Option.bind_some]
 by_cases hs:s < pn p
 ·have e1:(s:Int) < (pn p:Int):=by omega
  have e2:decide ((psz p s:Int)=0)=decide (psz p s=0):=by rw[decide_eq_decide];omega
  have e3:(p[3+2*s]'(by omega)).toNat=psz p s:=(pb_get (show 3+2*s < p.length by omega)).2
  simp only[e1,hs,decide_true,cond_true,ix3 (show s < 1000 by omega),Int.natCast_nonneg,if_true,Int.toNat_natCast,read_pb (show 3+2*s < p.length by omega),e3,e2,Bool.true_and]
 ·have e1:¬ ((s:Int) < (pn p:Int)):=by omega
  simp only[e1,hs,decide_false,cond_false,Bool.false_and]
theorem specHas_eq (s:Nat):spec_l2Has.sem (p,(s:Int),())=some (decide (s < pn p)&&!decide (psz p s=0),()):=by
 refine lift_eq (k:=0) fun k _=>(spec_l2Has.raw_eq k _).trans ?_
 show spec_l2Has.p _=_
 unfold spec_l2Has.p
 have hn:=hp.n
 have hl:=hp.len
 have hw:w64 ((pn p:Int) - 1)=(pn p:Int) - 1:=w64_in (by omega)
 have h0:decide ((0:Int)<=(s:Int))=true:=decide_eq_true (by omega)
 have h1:decide ((s:Int)<=(pn p:Int) - 1)=decide (s < pn p):=by rw[decide_eq_decide];omega
 simp only[pCount_eq hl,Option.bind_some,hw,specIn_eq,h0,h1,Bool.true_and]
 by_cases hs:s < pn p
 ·have e2:decide ((0:Int) < (psz p s:Int))=!decide (psz p s=0):=by
   by_cases hz:psz p s=0
   ·simp[hz]
   ·have:(0:Int) < (psz p s:Int):=by omega
    rw[decide_eq_true this,decide_eq_false hz];rfl
  simp only[hs,decide_true,cond_true,pSize_eq hl (show s < 16 by omega),Option.bind_some,e2,Bool.true_and]
 ·simp only[hs,decide_false,cond_false,Bool.false_and]
theorem cell_in {s:Nat} (hs:s < pn p):pat p s+psz p s<=64:=by
 by_cases hz:psz p s=0
 ·have:=hp.zero s hs hz;omega
 ·exact (hp.slot s hs hz).2
theorem implCellAt_eq {s:Nat} (hs:s < pn p):impl_cellAt.sem (p,(s:Int),())=some (cellP p s,()):=by
 refine lift_eq (k:=0) fun k _=>(impl_cellAt.raw_eq k _).trans ?_
 show impl_cellAt.p _=_
 unfold impl_cellAt.p cellP
 have hn:=hp.n
 have hl:=hp.len
 have hc:=cell_in hp hs
 have hw:w64 ((pat p s:Int)+(psz p s:Int))=((pat p s+psz p s:Nat):Int):=by rw[w64_in (by omega)];omega
 have hb:(0:Int)<=(pat p s:Int)/\(pat p s:Int)<=((pat p s+psz p s:Nat):Int)/\((pat p s+psz p s:Nat):Int)<=(p.length:Int):=by omega
 simp only[pSpot_eq hl (show s < 16 by omega),Option.bind_some,hw]
 rw[if_pos hb]
 simp only[Int.toNat_natCast,List.drop_take]
 rw[show pat p s+psz p s - pat p s=psz p s by omega]
theorem specCellAt_eq {s:Nat} (hs:s < pn p):spec_l2Cell.sem (p,(s:Int),())=some (cellP p s,()):=by
 refine lift_eq (k:=0) fun k _=>(spec_l2Cell.raw_eq k _).trans ?_
 show spec_l2Cell.p _=_
 unfold spec_l2Cell.p cellP
 have hn:=hp.n
 have hl:=hp.len
 have hc:=cell_in hp hs
 have hw:w64 ((pat p s:Int)+(psz p s:Int))=((pat p s+psz p s:Nat):Int):=by rw[w64_in (by omega)];omega
 have hb:(0:Int)<=(pat p s:Int)/\(pat p s:Int)<=((pat p s+psz p s:Nat):Int)/\((pat p s+psz p s:Nat):Int)<=(p.length:Int):=by omega
 simp only[pPlace_eq hl (show s < 16 by omega),pSize_eq hl (show s < 16 by omega),Option.bind_some,hw]
 rw[if_pos hb,if_pos (cap_ok (by simp only[List.length_nil,List.length_drop,List.length_take];omega))]
 simp only[Int.toNat_natCast,List.drop_take,List.nil_append]
 rw[show pat p s+psz p s - pat p s=psz p s by omega]
end
theorem cellP_small {p:List UInt8} (hp:PageOk p) {s:Nat} (hs:s < pn p):(cellP p s).length<=64:=by
 have:=cellP_len hp hs
 have:=cell_in hp hs
 omega
end OT
set_option linter.unusedVariables false
set_option linter.unusedSimpArgs false
namespace OT
open Go
def rk (x:Row):Int×Int:=(x.1,x.2.1)
theorem befB_iff (a b:Int×Int):befB a b=true↔a.1 < b.1\/(a.1=b.1/\a.2 < b.2):=by unfold befB;simp
theorem befB_trans {a b c:Int×Int} (h1:befB a b=true) (h2:befB b c=true):befB a c=true:=by
 rw[befB_iff] at *;omega
theorem befB_irr (a:Int×Int):befB a a=false:=by
 cases h:befB a a with
 | false=>rfl
 | true=>rw[befB_iff] at h;omega
theorem befB_asym {a b:Int×Int} (h:befB a b=true):befB b a=false:=by
 cases h2:befB b a with
 | false=>rfl
 | true=>rw[befB_iff] at h h2;omega
theorem befB_tri {a b:Int×Int} (h1:befB a b=false) (h2:befB b a=false):a=b:=by
 have n1:¬ (a.1 < b.1\/(a.1=b.1/\a.2 < b.2)):=fun h=>by rw[(befB_iff a b).2 h] at h1;cases h1
 have n2:¬ (b.1 < a.1\/(b.1=a.1/\b.2 < a.2)):=fun h=>by rw[(befB_iff b a).2 h] at h2;cases h2
 have e1:a.1=b.1:=by omega
 have e2:a.2=b.2:=by omega
 obtain ⟨a1,a2⟩:=a
 obtain ⟨b1,b2⟩:=b
 simp only at e1 e2
 rw[e1,e2]
def up (xs:List Row):Prop:=xs.Pairwise (fun a b=>befB (rk a) (rk b)=true)
theorem up_cons {x:Row} {xs:List Row}:up (x::xs)↔(∀ y ∈ xs,befB (rk x) (rk y)=true)/\up xs:=List.pairwise_cons
def pos:List Row->Int×Int->Nat
 | [],_=>0
 | x::xs,k=>if befB (rk x) k then pos xs k+1 else 0
theorem pos_le:∀ (xs:List Row) (k:Int×Int),pos xs k<=xs.length
 | [],_=>Nat.le_refl _
 | x::xs,k=>by simp only[pos];split <;> simp[pos_le xs k]
theorem pos_lt:∀ (xs:List Row) (k:Int×Int) (i:Nat) (h:i < xs.length),i < pos xs k->befB (rk xs[i]) k=true
 | x::xs,k,i,h,hp=>by
  simp only[pos] at hp
  split at hp
  ·rename_i hx
   cases i with
   | zero=>exact hx
   | succ i=>exact pos_lt xs k i (by simpa using h) (by omega)
  ·omega
theorem up_not:∀ (xs:List Row) (k:Int×Int) (i:Nat) (h:i < xs.length),up xs->pos xs k<=i->befB (rk xs[i]) k=false
 | x::xs,k,i,h,hu,hp=>by
  simp only[pos] at hp
  split at hp
  ·cases i with
   | zero=>omega
   | succ i=>exact up_not xs k i (by simpa using h) (up_cons.1 hu).2 (by omega)
  ·rename_i hx
   have hx:befB (rk x) k=false:=by simpa using hx
   cases i with
   | zero=>exact hx
   | succ i=>
    have hi':i < xs.length:=by simpa using h
    have hm:befB (rk x) (rk xs[i])=true:=(up_cons.1 hu).1 _ (List.getElem_mem _)
    show befB (rk xs[i]) k=false
    cases hb:befB (rk xs[i]) k with
    | false=>rfl
    | true=>rw[befB_trans hm hb] at hx;cases hx
def fnd (xs:List Row) (k:Int×Int):Bool:=match xs[pos xs k]? with
 | some x=>decide (rk x=k)
 | none=>false
theorem fnd_lt {xs:List Row} {k:Int×Int} (h:fnd xs k=true):∃ hp:pos xs k < xs.length,rk xs[pos xs k]=k:=by
 unfold fnd at h
 split at h
 ·rename_i x hx
  obtain ⟨hp,e⟩:=List.getElem?_eq_some_iff.1 hx
  subst e
  exact ⟨hp,by simpa using h⟩
 ·cases h
theorem ord_lt (a b:Row):decide ((if befB (a.1,a.2.1) (b.1,b.2.1) then (-1:Int) else if befB (b.1,b.2.1) (a.1,a.2.1) then 1 else 0) < 0)=befB (rk a) (rk b):=by
 unfold rk
 cases befB (a.1,a.2.1) (b.1,b.2.1) <;> cases befB (b.1,b.2.1) (a.1,a.2.1) <;> rfl
theorem specBefore_eq (a b:Row):spec_l1Before.sem (a,b,())=some (befB (rk a) (rk b),()):=by
 refine lift_eq (k:=0) fun k _=>(spec_l1Before.raw_eq k _).trans ?_
 show spec_l1Before.p _=_
 unfold spec_l1Before.p befB rk
 by_cases h1:a.1 < b.1 <;> by_cases h2:a.1=b.1 <;> simp[h1,h2]
theorem fnd_cons_lt {x:Row} {xs:List Row} {k:Int×Int} (h:befB (rk x) k=true):fnd (x::xs) k=fnd xs k:=by
 unfold fnd
 simp only[pos,h,if_true,List.getElem?_cons_succ]
theorem fnd_mem {xs:List Row} {k:Int×Int} (h:fnd xs k=true):∃ y ∈ xs,rk y=k:=by
 obtain ⟨hp,hk⟩:=fnd_lt h
 exact ⟨_,List.getElem_mem hp,hk⟩
theorem at_forI (k:Int×Int):∀ (xs:List Row) (j:Nat),up xs->forI (fun i (_:Unit) x=>if rk x=k then .inl ((i:Int),()) else .inr ()) (fun _=>((-1:Int),())) j xs ()=if fnd xs k then (((j+pos xs k:Nat):Int),()) else (-1,())
 | [],j,_=>by simp[forI,fnd]
 | x::xs,j,hu=>by
  have hu:=up_cons.1 hu
  simp only[forI]
  by_cases hx:rk x=k
  ·have hb:befB (rk x) k=false:=by rw[hx];exact befB_irr k
   have hf:fnd (x::xs) k=true:=by
    have hp0:pos (x::xs) k=0:=by simp only[pos,hb,Bool.false_eq_true,if_false]
    unfold fnd
    rw[hp0]
    simp[hx]
   simp[hx,hf,pos,befB_irr]
  ·simp only[hx,if_false]
   rw[at_forI k xs (j+1) hu.2]
   cases hb:befB (rk x) k with
   | true=>
    rw[fnd_cons_lt hb]
    simp only[pos,hb,if_true]
    have:j+1+pos xs k=j+(pos xs k+1):=by omega
    rw[this]
   | false=>
    have h1:fnd (x::xs) k=false:=by simp[fnd,pos,hb,hx]
    have h2:fnd xs k=false:=by
     cases h:fnd xs k with
     | false=>rfl
     | true=>
      obtain ⟨y,hy,e⟩:=fnd_mem h
      have:=hu.1 y hy
      rw[e,hb] at this;cases this
    simp[h1,h2]
def atI (xs:List Row) (k:Int×Int):Int:=if fnd xs k then (pos xs k:Int) else -1
theorem specAt_eq (xs:List Row) (t k:Int) (hu:up xs) (hl:xs.length<=2000000):spec_l6At.sem (xs,t,k,())=some (atI xs (t,k),()):=by
 refine lift_eq (k:=xs.length+1) fun f hf=>(spec_l6At.raw_eq f _).trans ?_
 have:=for_loop (B:=fun self v=>spec_l6At.B0 0 self (fun z=>spec_l6At.Q0 0 (xs,t,k,()) z) (xs,t,k,()) v) xs (fun (_:Unit) (i:Int)=>i) (fun i _ x=>if rk x=(t,k) then .inl ((i:Int),()) else .inr ()) (fun _=>((-1:Int),())) (fun _ _=>True) (by rw[maxLen_val];omega)
  (fun i hi _ self _=>by
   show spec_l6At.b0 _ _ _ _=_
   unfold spec_l6At.b0 rk
   have hlt:(i:Int) < (xs.length:Int):=by omega
   simp only[hlt,decide_true,cond_true,Int.natCast_nonneg,if_true,Int.toNat_natCast,List.getElem?_eq_getElem hi,Option.bind_some]
   by_cases h1:xs[i].1=t <;> by_cases h2:xs[i].2.1=k <;> simp[h1,h2]) (fun _ _ _ _ _ _=>trivial) (fun _ self _=>by
   show spec_l6At.b0 _ _ _ _=_
   unfold spec_l6At.b0
   simp[spec_l6At.Q0,spec_l6At.q0]) () trivial f (by omega)
 rw[at_forI (t,k) xs 0 hu] at this
 have this:spec_l6At.r0 f (xs,t,k,()) 0=_:=this
 unfold spec_l6At.p
 rw[this]
 unfold atI
 cases fnd xs (t,k) <;> simp <;> rfl
theorem pos_forI {O:Type} (k:Int×Int) (g:Nat->O) (n:Nat):∀ (xs:List Row) (j:Nat),j+xs.length=n->forI (fun i (_:Unit) x=>if befB (rk x) k then .inr () else .inl (g i)) (fun _=>g n) j xs ()=g (j+pos xs k)
 | [],j,h=>by simp[forI,pos] at *;rw[h]
 | x::xs,j,h=>by
  simp only[forI,pos]
  cases hb:befB (rk x) k with
  | true=>
   simp only[if_true]
   rw[pos_forI k g n xs (j+1) (by simp at h;omega)]
   congr 1;omega
  | false=>simp
def put1 (xs:List Row) (r:Row):List Row:=xs.take (pos xs (rk r))++[r]++xs.drop (pos xs (rk r))
theorem specPut_eq (xs:List Row) (r:Row) (hl:xs.length<=2000000):spec_l6Put.sem (xs,r,())=some (put1 xs r,()):=by
 refine lift_eq (k:=xs.length+1) fun f hf=>(spec_l6Put.raw_eq f _).trans ?_
 have hq:∀ i:Nat,i<=xs.length->spec_l6Put.Q0 0 (xs,r,()) (i:Int)=some (xs.take i++[r]++xs.drop i,()):=fun i hi=>by
  show spec_l6Put.q0 _ _=_
  unfold spec_l6Put.q0
  have hpi:0<=(i:Int)/\(i:Int)<=(xs.length:Int):=by omega
  have c1:([]:List Row).length+(List.take i xs).length<=CAP:=cap_ok (by simp;omega)
  have c2:(List.take i xs).length+[r].length<=CAP:=cap_ok (by simp;omega)
  have c3:(List.take i xs++[r]).length+(List.drop i xs).length<=CAP:=cap_ok (by simp;omega)
  simp only[hpi,and_self,if_true,Int.toNat_natCast,c1,List.drop_zero,List.nil_append,List.take_length,c2,c3]
 have:=for_loop (B:=fun self v=>spec_l6Put.B0 0 self (fun z=>spec_l6Put.Q0 0 (xs,r,()) z) (xs,r,()) v) xs (fun (_:Unit) (i:Int)=>i) (fun i _ x=>if befB (rk x) (rk r) then .inr () else .inl (xs.take i++[r]++xs.drop i,())) (fun _=>(xs.take xs.length++[r]++xs.drop xs.length,())) (fun _ _=>True) (by rw[maxLen_val];omega)
  (fun i hi _ self _=>by
   show spec_l6Put.b0 _ _ _ _=_
   unfold spec_l6Put.b0
   have hlt:(i:Int) < (xs.length:Int):=by omega
   simp only[hlt,decide_true,cond_true,Int.natCast_nonneg,if_true,Int.toNat_natCast,List.getElem?_eq_getElem hi,Option.bind_some,specBefore_eq]
   cases befB (rk xs[i]) (rk r) with
   | true=>rfl
   | false=>exact hq i (by omega)) (fun _ _ _ _ _ _=>trivial) (fun _ self _=>by
   show spec_l6Put.b0 _ _ _ _=_
   unfold spec_l6Put.b0
   have hlt:¬ (xs.length:Int) < (xs.length:Int):=by omega
   simp only[hlt,decide_false,cond_false]
   exact hq _ (Nat.le_refl _)) () trivial f (by omega)
 rw[pos_forI (rk r) (fun i=>(xs.take i++[r]++xs.drop i,())) xs.length xs 0 (by omega)] at this
 refine this.trans ?_
 simp[put1]
theorem take_bef {xs:List Row} {k:Int×Int} {x:Row} (h:x ∈ xs.take (pos xs k)):befB (rk x) k=true:=by
 obtain ⟨i,hi,e⟩:=List.mem_iff_getElem.1 h
 have hp:=pos_le xs k
 rw[List.length_take] at hi
 rw[List.getElem_take] at e
 rw[<-e]
 exact pos_lt xs k i (by omega) (by omega)
end OT
set_option linter.unusedVariables false
set_option linter.unusedSimpArgs false
namespace OT
open Go
structure Good (xs:List Row):Prop where
 up:up xs
 ok:∀ x ∈ xs,rowF x=0
end OT
set_option linter.unusedVariables false
set_option linter.unusedSimpArgs false
namespace OT
open Go
theorem forI_dup {α β O:Type} [DecidableEq β] (g:α->Option β) (bad:O) (fin:Unit->O) (p:α->α->Bool) (hp:∀ x y,p x y=true↔∃ b,g x=some b/\g y=some b) (all:List α):∀ (xs pre:List α),all=pre++xs->(pre.filterMap g).Nodup->forI (fun i _ x=>if (all.take i).any (p x) then .inl bad else .inr ()) fin pre.length xs ()=if (all.filterMap g).Nodup then fin () else bad
 | [],pre,h,hn=>by
  rw[List.append_nil] at h
  subst h
  simp only[forI,hn,if_true]
 | x::xs,pre,h,hn=>by
  have ht:all.take pre.length=pre:=by rw[h];exact List.take_left
  simp only[forI,ht]
  have hall:all.filterMap g=pre.filterMap g++([x].filterMap g++xs.filterMap g):=by rw[h,<- List.singleton_append (x:=x),List.filterMap_append,List.filterMap_append]
  cases hc:pre.any (p x) with
  | true=>
   simp only[if_true]
   obtain ⟨y,hy,hpy⟩:=List.any_eq_true.1 hc
   obtain ⟨b,h1,h2⟩:=(hp x y).1 hpy
   rw[if_neg]
   intro hnd
   rw[hall,List.nodup_append] at hnd
   exact hnd.2.2 b (List.mem_filterMap.2 ⟨y,hy,h2⟩) b (by simp[h1]) rfl
  | false=>
   simp only[Bool.false_eq_true,if_false]
   have:=forI_dup g bad fin p hp all xs (pre++[x]) (by rw[h];simp) (by
    rw[List.filterMap_append,List.nodup_append]
    refine ⟨hn,?_,fun a ha b hb e=>?_⟩
    ·cases hg:g x with
     | none=>simp[hg]
     | some b=>simp[hg]
    ·subst e
     obtain ⟨y,hy,hgy⟩:=List.mem_filterMap.1 ha
     obtain ⟨z,hz,hgz⟩:=List.mem_filterMap.1 hb
     rw[List.mem_singleton] at hz
     subst hz
     have:pre.any (p z)=true:=List.any_eq_true.2 ⟨y,hy,(hp z y).2 ⟨a,hgz,hgy⟩⟩
     rw[this] at hc;cases hc)
   rw[List.length_append] at this
   exact this
theorem forI_dup0 {α β O:Type} [DecidableEq β] (g:α->Option β) (bad:O) (fin:Unit->O) (p:α->α->Bool) (hp:∀ x y,p x y=true↔∃ b,g x=some b/\g y=some b) (xs:List α):forI (fun i _ x=>if (xs.take i).any (p x) then .inl bad else .inr ()) fin 0 xs ()=if (xs.filterMap g).Nodup then fin () else bad:=
 forI_dup g bad fin p hp xs xs [] rfl List.nodup_nil
theorem sorted_unique {α:Type} {lt:α->α->Prop} (has:∀ a b,lt a b->¬ lt b a):∀ (xs ys:List α),xs.Perm ys->xs.Pairwise lt->ys.Pairwise lt->xs=ys
 | [],ys,h,_,_=>(List.nil_perm.1 h).symm
 | x::xs,[],h,_,_=>by have:=h.length_eq;cases this
 | x::xs,y::ys,h,h1,h2=>by
  obtain ⟨a1,a2⟩:=List.pairwise_cons.1 h1
  obtain ⟨b1,b2⟩:=List.pairwise_cons.1 h2
  by_cases hxy:x=y
  ·subst hxy
   rw[sorted_unique has xs ys ((List.perm_cons x).1 h) a2 b2]
  ·have hx:x ∈ ys:=by
    have:=h.mem_iff.1 (List.mem_cons_self (a:=x) (l:=xs))
    rcases List.mem_cons.1 this with e | e
    ·exact absurd e hxy
    ·exact e
   have hy:y ∈ xs:=by
    have:=h.mem_iff.2 (List.mem_cons_self (a:=y) (l:=ys))
    rcases List.mem_cons.1 this with e | e
    ·exact absurd e.symm hxy
    ·exact e
   exact absurd (b1 x hx) (has _ _ (a1 y hy))
theorem put1_perm (xs:List Row) (r:Row):(put1 xs r).Perm (r::xs):=by
 unfold put1
 rw[List.append_assoc]
 have:=List.perm_middle (a:=r) (l₁:=xs.take (pos xs (rk r))) (l₂:=xs.drop (pos xs (rk r)))
 rw[List.take_append_drop] at this
 exact this
theorem pos_bef {xs:List Row} {k:Int×Int} {x:Row} (hu:up xs) (h:x ∈ xs.drop (pos xs k)):befB (rk x) k=false:=by
 obtain ⟨i,hi,e⟩:=List.mem_iff_getElem.1 h
 rw[List.length_drop] at hi
 rw[List.getElem_drop] at e
 rw[<-e]
 exact up_not xs k _ _ hu (by omega)
theorem up_put1 {xs:List Row} {r:Row} (hu:up xs) (hn:∀ x ∈ xs,rk x≠rk r):up (put1 xs r):=by
 unfold put1 up
 rw[List.append_assoc,List.pairwise_append]
 have hd:=hu.drop (i:=pos xs (rk r))
 refine ⟨hu.take,?_,fun a ha b hb=>?_⟩
 ·rw[List.singleton_append,List.pairwise_cons]
  refine ⟨fun b hb=>?_,hd⟩
  have h1:=pos_bef hu hb
  have h2:=hn b (List.mem_of_mem_drop hb)
  cases h3:befB (rk r) (rk b) with
  | true=>rfl
  | false=>exact absurd (befB_tri h1 h3) h2
 ·have h1:=take_bef ha
  rw[List.singleton_append] at hb
  rcases List.mem_cons.1 hb with e | e
  ·subst e;exact h1
  ·have h2:=pos_bef hu e
   have h3:=hn b (List.mem_of_mem_drop e)
   cases h4:befB (rk a) (rk b) with
   | true=>rfl
   | false=>
    cases h5:befB (rk b) (rk a) with
    | true=>rw[befB_trans h5 h1] at h2;cases h2
    | false=>
     have:=befB_tri h4 h5
     rw[this] at h1
     rw[h1] at h2;cases h2
def sortR (l:List Row):List Row:=l.foldl put1 []
theorem foldl_put1:∀ (l acc:List Row),(l.foldl put1 acc).Perm (l++acc)
 | [],acc=>List.Perm.refl _
 | r::l,acc=>by
  have h1:=foldl_put1 l (put1 acc r)
  have h2:(l++put1 acc r).Perm (l++r::acc):=(List.Perm.refl l).append (put1_perm acc r)
  exact h1.trans (h2.trans List.perm_middle)
theorem sortR_perm (l:List Row):(sortR l).Perm l:=by
 have:=foldl_put1 l []
 rw[List.append_nil] at this
 exact this
theorem foldl_up:∀ (l acc:List Row),up acc->(l.map rk++acc.map rk).Nodup->up (l.foldl put1 acc)
 | [],acc,h,_=>h
 | r::l,acc,h,hn=>by
  simp only[List.map_cons,List.cons_append,List.nodup_cons,List.mem_append,not_or] at hn
  refine foldl_up l (put1 acc r) (up_put1 h fun x hx e=>hn.1.2 (List.mem_map.2 ⟨x,hx,e⟩)) ?_
  have:(l.map rk++(put1 acc r).map rk).Perm (rk r::(l.map rk++acc.map rk)):=by
   refine ((List.Perm.refl _).append ((put1_perm acc r).map rk)).trans ?_
   rw[List.map_cons]
   exact List.perm_middle
  rw[this.nodup_iff,List.nodup_cons,List.mem_append,not_or]
  exact hn
theorem sortR_up {l:List Row} (h:(l.map rk).Nodup):up (sortR l):=foldl_up l [] List.Pairwise.nil (by simpa using h)
theorem befB_not {a b:Int×Int} (h:befB a b=true):¬ befB b a=true:=by rw[befB_asym h];exact fun h=>by cases h
theorem up_unique {xs ys:List Row} (hp:xs.Perm ys) (hx:up xs) (hy:up ys):xs=ys:=sorted_unique (fun a b h=>befB_not h) xs ys hp hx hy
theorem up_nodup {xs:List Row} (h:up xs):(xs.map rk).Nodup:=by
 unfold List.Nodup
 rw[List.pairwise_map]
 refine h.imp fun h1 e=>?_
 rw[e,befB_irr] at h1
 cases h1
end OT
