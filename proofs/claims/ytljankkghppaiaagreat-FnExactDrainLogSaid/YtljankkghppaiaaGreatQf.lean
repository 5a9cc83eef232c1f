/- The proof's parts, merged: Printed by gen.py, a program of this claim  what each Go function computes.. No conditions but those that each states. -/
import Derived.Test.YtljankkghppaiaaGreatQe
set_option maxRecDepth 100000
set_option linter.unusedVariables false
namespace OT
open Go Go.Proofs.Tryz
namespace impl_hasSlot
abbrev Arg:Type:=(List UInt8)×Int×Unit
abbrev Out:Type:=Bool×Unit
noncomputable def D:FD:={ fn:=f308,tl:=TL0,ps:=[(.ro,(.slc u8)),(.ro,i64)],rs:=[(.bool,(roMd .bool))],gl:=[(307,impl_slots.D.sig)] }
noncomputable def sem (a:Arg):Option Out:=@lift Out fun k=>D.W k a
noncomputable def p (a1:Arg):Option Out:=bif decide ((0:Int)<=a1.2.1) then ((impl_slots.sem (a1.1,())).bind fun r2=>bif decide (a1.2.1 < r2.1) then (if 0<=w64 ((3:Int)+(w64 ((2:Int)*a1.2.1))) then ((a1.1[(w64 ((3:Int)+(w64 ((2:Int)*a1.2.1)))).toNat]?).bind fun x3=>some (!decide ((x3.toNat:Int)=(0:Int)),())) else none) else some (false,())) else some (false,())
theorem raw_eq (k:Nat) (a1:Arg):@Eq (Option Out) (D.W k a1) (p a1):=by kernel_rfl
theorem ok:Ok prog 308 D.sig:=fd_ok func308 tlOk (by kernel_rfl) (fc impl_slots.ok (fn_nil _))
end impl_hasSlot
namespace impl_UnpackCell
abbrev Arg:Type:=(List UInt8)×Unit
abbrev Out:Type:=CellResult×Unit
abbrev OO:=Option Out
noncomputable def D:FD:={ fn:=f309,tl:=TL0,ps:=[(.ro,(.slc u8))],rs:=[(tCellResult,(roMd tCellResult))],gl:=[(313,impl_RowFault.D.sig)],od:=[(2,[0,1,2,3,4,5,6,7,8,9]),(5,[0,1,2,3,4,5,6,7,8,9,10,11,12,13,14,15,16,17,18,19,20,21,22,23]),(8,[0,1,2,3,4,5,6])] }
noncomputable def sem (a:Arg):OO:=@lift Out fun k=>D.W k a
noncomputable def p (a1:Arg):OO:=let j25:OO:=let j37:OO:=(a1.1[1]?).bind fun x38=>(a1.1[2]?).bind fun x39=>(a1.1[3]?).bind fun x40=>(a1.1[4]?).bind fun x41=>if 0<=(6:Int)/\(6:Int)<=(a1.1.length:Int) then (let y42:=w64 ((BitVec.ofInt 64 (w64 ((w64 (x40.toNat:Int))*2 ^ 8)) ||| BitVec.ofInt 64 (w64 (x41.toNat:Int))).toNat:Int);(impl_RowFault.sem ((w64 (x38.toNat:Int),w64 (x39.toNat:Int),y42,(a1.1.take a1.1.length).drop 6,()),())).bind fun r43=>bif !decide (r43.1=(0:Int)) then (some (((5:Int),(0:Int),(0:Int),(0:Int),((0:Int),(0:Int),(0:Int),([]:List UInt8),()),()),())) else (a1.1[0]?).bind fun x44=>some (((0:Int),w64 (x44.toNat:Int),(0:Int),(0:Int),(w64 (x38.toNat:Int),w64 (x39.toNat:Int),y42,(a1.1.take a1.1.length).drop 6,()),()),())) else none;bif decide ((a1.1.length:Int) < (6:Int)) then (some (((5:Int),(0:Int),(0:Int),(0:Int),((0:Int),(0:Int),(0:Int),([]:List UInt8),()),()),())) else (a1.1[0]?).bind fun x26=>bif !decide ((x26.toNat:Int)=(0:Int)) then ((a1.1[0]?).bind fun x27=>bif !decide ((x27.toNat:Int)=(2:Int)) then (some (((5:Int),(0:Int),(0:Int),(0:Int),((0:Int),(0:Int),(0:Int),([]:List UInt8),()),()),())) else (a1.1[5]?).bind fun x28=>bif !decide ((a1.1.length:Int)=w64 ((6:Int)+(w64 (x28.toNat:Int)))) then (some (((5:Int),(0:Int),(0:Int),(0:Int),((0:Int),(0:Int),(0:Int),([]:List UInt8),()),()),())) else j37) else (a1.1[5]?).bind fun x29=>bif !decide ((a1.1.length:Int)=w64 ((6:Int)+(w64 (x29.toNat:Int)))) then (some (((5:Int),(0:Int),(0:Int),(0:Int),((0:Int),(0:Int),(0:Int),([]:List UInt8),()),()),())) else j37;bif decide ((a1.1.length:Int)=(3:Int)) then ((a1.1[0]?).bind fun x2=>bif decide ((x2.toNat:Int)=(1:Int)) then ((a1.1[1]?).bind fun x3=>bif decide ((x3.toNat:Int) < (12:Int)) then ((a1.1[2]?).bind fun x4=>bif decide ((x4.toNat:Int) < (16:Int)) then ((a1.1[1]?).bind fun x5=>(a1.1[2]?).bind fun x6=>some (((0:Int),(1:Int),w64 (x5.toNat:Int),w64 (x6.toNat:Int),((0:Int),(0:Int),(0:Int),([]:List UInt8),()),()),())) else j25) else j25) else j25) else j25
theorem raw_eq (k:Nat) (a1:Arg):@Eq OO (D.W k a1) (p a1):=by kernel_rfl
theorem ok:Ok prog 309 D.sig:=fd_ok func309 tlOk (by kernel_rfl) (fc impl_RowFault.ok (fn_nil _))
end impl_UnpackCell
namespace impl_cellAt
abbrev Arg:Type:=(List UInt8)×Int×Unit
abbrev Out:Type:=(List UInt8)×Unit
noncomputable def D:FD:={ fn:=f310,tl:=TL0,ps:=[(.ro,(.slc u8)),(.ro,i64)],rs:=[((.slc u8),(roMd (.slc u8)))],gl:=[(395,impl_spot.D.sig)] }
noncomputable def sem (a:Arg):Option Out:=@lift Out fun k=>D.W k a
noncomputable def p (a1:Arg):Option Out:=(impl_spot.sem (a1.1,a1.2.1,())).bind fun r2=>if 0<=r2.1/\r2.1<=w64 (r2.1+r2.2.1)/\w64 (r2.1+r2.2.1)<=(a1.1.length:Int) then (some ((a1.1.take (w64 (r2.1+r2.2.1)).toNat).drop r2.1.toNat,())) else none
theorem raw_eq (k:Nat) (a1:Arg):@Eq (Option Out) (D.W k a1) (p a1):=by kernel_rfl
theorem ok:Ok prog 310 D.sig:=fd_ok func310 tlOk (by kernel_rfl) (fc impl_spot.ok (fn_nil _))
end impl_cellAt
namespace impl_look_1
abbrev Arg:Type:=Seen×Seen×Unit
abbrev Out:Type:=Int×Unit
noncomputable def D:FD:={ fn:=f397,tl:=TL0,ps:=[(.ro,tSeen),(.ro,tSeen)],rs:=[(i64,(roMd i64))],gl:=[(312,impl_order.D.sig)] }
noncomputable def sem (a:Arg):Option Out:=@lift Out fun k=>D.W k a
noncomputable def p (a1:Arg):Option Out:=(impl_order.sem (a1.1.1,a1.2.1.1,())).bind fun r2=>some (r2.1,())
theorem raw_eq (k:Nat) (a1:Arg):@Eq (Option Out) (D.W k a1) (p a1):=by kernel_rfl
theorem ok:Ok prog 397 D.sig:=fd_ok func397 tlOk (by kernel_rfl) (fc impl_order.ok (fn_nil _))
end impl_look_1
namespace slices_SortFunc_seen
open Go.Proofs
abbrev Arg:Type:=(List Seen)×(Nat×Int)×Unit
abbrev Out:Type:=(List Seen)×Unit
noncomputable def sem (a:Arg):Option Out:=(sortF tSeen impl_look_1.sem a.1).map fun r=>(r,())
noncomputable def sig:Sig:={ ps:=[(.muts (ownMd (.slc tSeen)),.slc tSeen),(.fix 397,.fn)],rs:=[],F:=sem }
def sortlay_ren:Go.Shelf.Ren:=⟨fun | 6=>396 | 15=>442 | 14=>441 | 28=>465 | 29=>466 | 20=>457 | 21=>458 | 22=>459 | 23=>460 | 24=>461 | 25=>462 | 26=>463 | 27=>464 | 46=>468 | 47=>469 | 48=>470 | 49=>471 | 50=>472 | 57=>473 | n=>n,fun | 22=>264 | 24=>273 | 25=>470 | 3=>3 | 39=>464 | 0=>0 | 53=>532 | 55=>534 | 4=>4 | 46=>526 | 45=>525 | 50=>394 | 5=>5 | 9=>9 | 66=>536 | 70=>540 | 76=>542 | 77=>461 | n=>n,fun | n=>n⟩
theorem sortlay:Go.Proofs.SlLaysF0.n6 Tryz.prog sortlay_ren:={
 mixed:=by kernel_rfl
 f6:=⟨Tryz.f396.name,by decide,Tryz.func396.trans (dF some (by kernel_rfl))⟩
 f14:=⟨Tryz.f441.name,by decide,Tryz.func441.trans (dF some (by kernel_rfl))⟩
 f15:=Tryz.func442.trans (dF some (by kernel_rfl))
 f20:=⟨Tryz.f457.name,by decide,Tryz.func457.trans (dF some (by kernel_rfl))⟩
 f21:=⟨Tryz.f458.name,by decide,Tryz.func458.trans (dF some (by kernel_rfl))⟩
 f22:=⟨Tryz.f459.name,by decide,Tryz.func459.trans (dF some (by kernel_rfl))⟩
 f23:=⟨Tryz.f460.name,by decide,Tryz.func460.trans (dF some (by kernel_rfl))⟩
 f24:=⟨Tryz.f461.name,by decide,Tryz.func461.trans (dF some (by kernel_rfl))⟩
 f25:=⟨Tryz.f462.name,by decide,Tryz.func462.trans (dF some (by kernel_rfl))⟩
 f26:=⟨Tryz.f463.name,by decide,Tryz.func463.trans (dF some (by kernel_rfl))⟩
 f27:=⟨Tryz.f464.name,by decide,Tryz.func464.trans (dF some (by kernel_rfl))⟩
 f28:=Tryz.func465.trans (dF some (by kernel_rfl))
 f29:=Tryz.func466.trans (dF some (by kernel_rfl))
 f46:=⟨Tryz.f468.name,by decide,Tryz.func468.trans (dF some (by kernel_rfl))⟩
 f47:=Tryz.func469.trans (dF some (by kernel_rfl))
 f48:=Tryz.func470.trans (dF some (by kernel_rfl))
 f49:=⟨Tryz.f471.name,by decide,Tryz.func471.trans (dF some (by kernel_rfl))⟩
 f50:=⟨Tryz.f472.name,by decide,Tryz.func472.trans (dF some (by kernel_rfl))⟩
 f57:=⟨Tryz.f473.name,by decide,Tryz.func473.trans (dF some (by kernel_rfl))⟩
 t0:=Tryz.underlying0
 a0:=Tryz.isAgg0
 z0:=Tryz.sizeOf0
 v0:=Tryz.zeroValue0
 t3:=Tryz.underlying3
 a3:=Tryz.isAgg3
 z3:=Tryz.sizeOf3
 v3:=Tryz.zeroValue3
 t4:=Tryz.underlying4
 a4:=Tryz.isAgg4
 z4:=Tryz.sizeOf4
 v4:=Tryz.zeroValue4
 t5:=Tryz.underlying5
 a5:=Tryz.isAgg5
 z5:=Tryz.sizeOf5
 v5:=Tryz.zeroValue5
 t9:=Tryz.underlying9
 a9:=Tryz.isAgg9
 z9:=Tryz.sizeOf9
 v9:=Tryz.zeroValue9
 t22:=Tryz.underlying264
 a22:=Tryz.isAgg264
 z22:=Tryz.sizeOf264
 v22:=Tryz.zeroValue264
 t25:=Tryz.underlying470
 a25:=Tryz.isAgg470
 z25:=Tryz.sizeOf470
 v25:=Tryz.zeroValue470
 t39:=Tryz.underlying464
 a39:=Tryz.isAgg464
 z39:=Tryz.sizeOf464
 v39:=Tryz.zeroValue464
 t45:=Tryz.underlying525
 a45:=Tryz.isAgg525
 z45:=Tryz.sizeOf525
 v45:=Tryz.zeroValue525
 t46:=Tryz.underlying526
 a46:=Tryz.isAgg526
 z46:=Tryz.sizeOf526
 v46:=Tryz.zeroValue526
 t50:=Tryz.underlying394
 a50:=Tryz.isAgg394
 z50:=Tryz.sizeOf394
 v50:=Tryz.zeroValue394
 t53:=Tryz.underlying532
 a53:=Tryz.isAgg532
 z53:=Tryz.sizeOf532
 v53:=Tryz.zeroValue532
 t55:=Tryz.underlying534
 a55:=Tryz.isAgg534
 z55:=Tryz.sizeOf534
 v55:=Tryz.zeroValue534
 t66:=Tryz.underlying536
 a66:=Tryz.isAgg536
 z66:=Tryz.sizeOf536
 v66:=Tryz.zeroValue536
 t70:=Tryz.underlying540
 a70:=Tryz.isAgg540
 z70:=Tryz.sizeOf540
 v70:=Tryz.zeroValue540
 t76:=Tryz.underlying542
 a76:=Tryz.isAgg542
 z76:=Tryz.sizeOf542
 v76:=Tryz.zeroValue542
 t77:=Tryz.underlying461
 a77:=Tryz.isAgg461
 z77:=Tryz.sizeOf461
 v77:=Tryz.zeroValue461 }
theorem ok:Ok prog 396 sig:=sort_ok (e:=tSeen) sortlay rfl rfl (by kernel_rfl) (by decide) (g:=397) (cF:=impl_look_1.sem) impl_look_1.ok ⟨f396,func396,by kernel_rfl,by kernel_rfl,by kernel_rfl⟩
end slices_SortFunc_seen
namespace impl_look
abbrev Arg:Type:=(List (List UInt8))×Unit
abbrev Out:Type:=(List Seen)×Int×Unit
abbrev OO:=Option Out
noncomputable def D:FD:={ fn:=f311,tl:=TL0,ps:=[(.ro,(.slc (.slc u8)))],rs:=[((.slc tSeen),(ownMd (.slc tSeen))),(i64,(roMd i64))],gl:=[(307,impl_slots.D.sig),(308,impl_hasSlot.D.sig),(309,impl_UnpackCell.D.sig),(310,impl_cellAt.D.sig),(326,impl_IsBefore.D.sig),(396,slices_SortFunc_seen.sig)],lv:=[(4,[4,5,6,21,22,23]),(7,[4,5,6,7,8,21,22,23,29,30]),(21,[4,5,6,81,82,83]),(29,[4,5,6,15,101,102,103]),(40,[4,19])],lx:=[(0,[4,5,6]),(2,[4,5,6,21,22,23]),(3,[4,5,6,7,8,21,22,23,29,30]),(5,[4,5,6]),(7,[4]),(9,[4])],od:=[(42,[0,1,2,3,4,5,6,7,8,9,10,11,12])] }
noncomputable def sem (a:Arg):OO:=@lift Out fun k=>D.W k a
noncomputable def T0 (a1:Arg) (v402:(List Seen)×(List Seen)×(List ((List Int)×Row))×(List (List UInt8))×Int×Int):St:={ n:=148,sl:=[(4,.own (.slc tSeen) (ownMd (.slc tSeen)) [] v402.1),(5,.own (.slc tSeen) (ownMd (.slc tSeen)) [] v402.2.1),(6,.own (.map (.arr 2 i64) tRow) (ownMd (.map (.arr 2 i64) tRow)) [] v402.2.2.1),(21,.val (.slc (.slc u8)) v402.2.2.2.1),(22,.val i64 v402.2.2.2.2.1),(23,.val i64 v402.2.2.2.2.2)],vr:=[],lent:=[] }
noncomputable def S0 (rec:RT Out) (a1:Arg):((List Seen)×(List Seen)×(List ((List Int)×Row))×(List (List UInt8))×Int×Int)->OO:=fun v402=>rec (T0 a1 v402)
noncomputable def X0_0 (K:KT Out) (a1:Arg):((List Seen)×(List Seen)×(List ((List Int)×Row)))->OO:=fun z=>K (.exit 0) ({ n:=148,sl:=[(4,.own (.slc tSeen) (ownMd (.slc tSeen)) [] z.1),(5,.own (.slc tSeen) (ownMd (.slc tSeen)) [] z.2.1),(6,.own (.map (.arr 2 i64) tRow) (ownMd (.map (.arr 2 i64) tRow)) [] z.2.2)],vr:=[],lent:=[] })
noncomputable def T1 (a1:Arg) (c1006:Int) (c1007:List UInt8) (c1008:List (List UInt8)) (c1009:Int) (c1010:Int) (v1005:(List Seen)×(List Seen)×(List ((List Int)×Row))×Int):St:={ n:=148,sl:=[(4,.own (.slc tSeen) (ownMd (.slc tSeen)) [] v1005.1),(5,.own (.slc tSeen) (ownMd (.slc tSeen)) [] v1005.2.1),(6,.own (.map (.arr 2 i64) tRow) (ownMd (.map (.arr 2 i64) tRow)) [] v1005.2.2.1),(7,.val i64 c1006),(8,.val (.slc u8) c1007),(21,.val (.slc (.slc u8)) c1008),(22,.val i64 c1009),(23,.val i64 c1006),(29,.val i64 c1010),(30,.val i64 v1005.2.2.2)],vr:=[],lent:=[] }
noncomputable def b1 (self:((List Seen)×(List Seen)×(List ((List Int)×Row))×Int)->OO) (e2:((List Seen)×(List Seen)×(List ((List Int)×Row)))->OO) (a1:Arg) (c1006:Int) (c1007:List UInt8) (c1008:List (List UInt8)) (c1009:Int) (c1010:Int) (v1005:(List Seen)×(List Seen)×(List ((List Int)×Row))×Int):OO:=bif decide (v1005.2.2.2 < c1010) then ((impl_hasSlot.sem (c1007,v1005.2.2.2,())).bind fun r1211=>bif !r1211.1 then (self (v1005.1,v1005.2.1,v1005.2.2.1,w64 (v1005.2.2.2+(1:Int)))) else (impl_cellAt.sem (c1007,v1005.2.2.2,())).bind fun r1212=>(impl_UnpackCell.sem (r1212.1,())).bind fun r1213=>bif !decide (r1213.1.1=(0:Int)) then (some (([]:List Seen),(5:Int),())) else bif decide (r1213.1.2.1=(0:Int)) then (if v1005.1.length+[(r1213.1.2.2.2.2.1,c1006,v1005.2.2.2,false,c1006,v1005.2.2.2,())].length<=CAP then (let y1214:=v1005.1++[(r1213.1.2.2.2.2.1,c1006,v1005.2.2.2,false,c1006,v1005.2.2.2,())];self (y1214,v1005.2.1,v1005.2.2.1,w64 (v1005.2.2.2+(1:Int)))) else none) else bif decide (r1213.1.2.1=(2:Int)) then (if 0 < (List.replicate 2 (0:Int)).length then (if 1 < ((List.replicate 2 (0:Int)).set 0 c1006).length then (let y1215:=mapPut (.arr 2 i64) v1005.2.2.1 (((List.replicate 2 (0:Int)).set 0 c1006).set 1 v1005.2.2.2) r1213.1.2.2.2.2.1;self (v1005.1,v1005.2.1,y1215,w64 (v1005.2.2.2+(1:Int)))) else none) else none) else if v1005.2.1.length+[(((0:Int),(0:Int),(0:Int),([]:List UInt8),()),c1006,v1005.2.2.2,true,r1213.1.2.2.1,r1213.1.2.2.2.1,())].length<=CAP then (let y1216:=v1005.2.1++[(((0:Int),(0:Int),(0:Int),([]:List UInt8),()),c1006,v1005.2.2.2,true,r1213.1.2.2.1,r1213.1.2.2.2.1,())];self (v1005.1,y1216,v1005.2.2.1,w64 (v1005.2.2.2+(1:Int)))) else none) else e2 (v1005.1,v1005.2.1,v1005.2.2.1)
noncomputable abbrev B1 (_:Nat):=b1
noncomputable def q0 (self:((List Seen)×(List Seen)×(List ((List Int)×Row))×(List (List UInt8))×Int×Int)->OO) (e0:((List Seen)×(List Seen)×(List ((List Int)×Row)))->OO) (a1:Arg) (c1006:Int) (c1007:List UInt8) (c1008:List (List UInt8)) (c1009:Int) (c1010:Int) (z1217:((List Seen)×(List Seen)×(List ((List Int)×Row)))):OO:=self (z1217.1,z1217.2.1,z1217.2.2,c1008,c1009,w64 (c1006+(1:Int)))
noncomputable abbrev Q0 (_:Nat):=q0
noncomputable def s1 (k:Nat) (rec:RT Out) (K:KT Out) (a1:Arg):Int->(List UInt8)->(List (List UInt8))->Int->Int->((List Seen)×(List Seen)×(List ((List Int)×Row))×Int)->OO:=fun c1006 c1007 c1008 c1009 c1010=>fun v1005=>D.L k [1,1,1,0,1,0,0,1,1,0,0,1,1,0,0] [4,5,6,7,8,21,22,23,29,30] [] (blockC 2 (blockC 1 (seqC (D.N k [1,1,1,0,1,0,0,1,1,1]) (loopC rec (keepF [4,5,6,21,22,23] []) K)))) (T1 a1 c1006 c1007 c1008 c1009 c1010 v1005)
noncomputable def r1 (k:Nat) (self:((List Seen)×(List Seen)×(List ((List Int)×Row))×(List (List UInt8))×Int×Int)->OO) (e0:((List Seen)×(List Seen)×(List ((List Int)×Row)))->OO) (a1:Arg):Int->(List UInt8)->(List (List UInt8))->Int->Int->((List Seen)×(List Seen)×(List ((List Int)×Row))×Int)->OO:=fun c1006 c1007 c1008 c1009 c1010=>rawIter (fun w v=>B1 k w (Q0 k self e0 a1 c1006 c1007 c1008 c1009 c1010) a1 c1006 c1007 c1008 c1009 c1010 v) k
theorem s1_eq (k:Nat) (rec:RT Out) (K:KT Out) (a1:Arg):s1 k rec K a1=r1 k (S0 rec a1) (X0_0 K a1) a1:=
 funext fun c1006=>funext fun c1007=>funext fun c1008=>funext fun c1009=>funext fun c1010=>funext fun v1005=>iter_raw _ _ _ (T1 a1 c1006 c1007 c1008 c1009 c1010) _ (fun rec v=>by kernel_rfl) k v1005
noncomputable def b0 (self:((List Seen)×(List Seen)×(List ((List Int)×Row))×(List (List UInt8))×Int×Int)->OO) (e0:((List Seen)×(List Seen)×(List ((List Int)×Row)))->OO) (l1:Int->(List UInt8)->(List (List UInt8))->Int->Int->((List Seen)×(List Seen)×(List ((List Int)×Row))×Int)->OO) (a1:Arg) (v402:(List Seen)×(List Seen)×(List ((List Int)×Row))×(List (List UInt8))×Int×Int):OO:=bif decide (v402.2.2.2.2.2 < v402.2.2.2.2.1) then (if 0<=v402.2.2.2.2.2 then ((v402.2.2.2.1[v402.2.2.2.2.2.toNat]?).bind fun x603=>(impl_slots.sem (x603,())).bind fun r604=>l1 v402.2.2.2.2.2 x603 v402.2.2.2.1 v402.2.2.2.2.1 r604.1 (v402.1,v402.2.1,v402.2.2.1,(0:Int))) else none) else e0 (v402.1,v402.2.1,v402.2.2.1)
noncomputable def B0 (k:Nat) (self:((List Seen)×(List Seen)×(List ((List Int)×Row))×(List (List UInt8))×Int×Int)->OO) (e0:((List Seen)×(List Seen)×(List ((List Int)×Row)))->OO) (a1:Arg) (v402:(List Seen)×(List Seen)×(List ((List Int)×Row))×(List (List UInt8))×Int×Int):OO:=b0 self e0 (r1 k self e0 a1) a1 v402
theorem B0_eq (k:Nat) (rec:RT Out) (K:KT Out) (a1:Arg) (v402:(List Seen)×(List Seen)×(List ((List Int)×Row))×(List (List UInt8))×Int×Int):D.N k [1,1,1,0,1,0,0] (T0 a1 v402) (loopC rec (keepF [4,5,6,21,22,23] []) K)=B0 k (S0 rec a1) (X0_0 K a1) a1 v402:=
 bI (b:=b0 (S0 rec a1) (X0_0 K a1) (s1 k rec K a1) a1 v402) (by kernel_rfl) (by rw[s1_eq];rfl)
noncomputable def T2 (a1:Arg) (c1620:List Seen) (c1621:List Seen) (c1622:List ((List Int)×Row)) (c1623:Int) (v1619:Int):St:={ n:=148,sl:=[(4,.own (.slc tSeen) (ownMd (.slc tSeen)) [] c1620),(5,.own (.slc tSeen) (ownMd (.slc tSeen)) [] c1621),(6,.own (.map (.arr 2 i64) tRow) (ownMd (.map (.arr 2 i64) tRow)) [] c1622),(81,.ref 5 [] [0,0]),(82,.val i64 c1623),(83,.val i64 v1619)],vr:=[],lent:=[] }
noncomputable def S2 (rec:RT Out) (a1:Arg) (c1620:List Seen) (c1621:List Seen) (c1622:List ((List Int)×Row)) (c1623:Int):(Int)->OO:=fun v1619=>rec (T2 a1 c1620 c1621 c1622 c1623 v1619)
noncomputable def X2_5 (K:KT Out) (a1:Arg) (c1620:List Seen) (c1621:List Seen) (c1622:List ((List Int)×Row)) (c1623:Int):(Unit)->OO:=fun z=>K (.exit 5) ({ n:=148,sl:=[(4,.own (.slc tSeen) (ownMd (.slc tSeen)) [] c1620),(5,.own (.slc tSeen) (ownMd (.slc tSeen)) [] c1621),(6,.own (.map (.arr 2 i64) tRow) (ownMd (.map (.arr 2 i64) tRow)) [] c1622)],vr:=[],lent:=[] })
noncomputable def b2 (self:Int->OO) (e5:(Unit)->OO) (a1:Arg) (c1620:List Seen) (c1621:List Seen) (c1622:List ((List Int)×Row)) (c1623:Int) (v1619:Int):OO:=bif decide (v1619 < c1623) then (if 0<=v1619/\v1619 < (c1621.length:Int) then ((c1621[v1619.toNat]?).bind fun x1824=>if 0 < (List.replicate 2 (0:Int)).length then (if 1 < ((List.replicate 2 (0:Int)).set 0 x1824.2.2.2.2.1).length then (let y1825:=orZ (mapGet (.arr 2 i64) c1622 (((List.replicate 2 (0:Int)).set 0 x1824.2.2.2.2.1).set 1 x1824.2.2.2.2.2.1)) ((0:Int),(0:Int),(0:Int),([]:List UInt8),());bif !(mapGet (.arr 2 i64) c1622 (((List.replicate 2 (0:Int)).set 0 x1824.2.2.2.2.1).set 1 x1824.2.2.2.2.2.1)).isSome then (some (([]:List Seen),(4:Int),())) else self (w64 (v1619+(1:Int)))) else none) else none) else none) else e5 ()
noncomputable abbrev B2 (_:Nat):=b2
theorem B2_eq (k:Nat) (rec:RT Out) (K:KT Out) (a1:Arg) (c1620:List Seen) (c1621:List Seen) (c1622:List ((List Int)×Row)) (c1623:Int) (v1619:Int):D.N k [1,1,1,1,0,1,0,0] (T2 a1 c1620 c1621 c1622 c1623 v1619) (loopC rec (keepF [4,5,6,81,82,83] []) K)=b2 (S2 rec a1 c1620 c1621 c1622 c1623) (X2_5 K a1 c1620 c1621 c1622 c1623) a1 c1620 c1621 c1622 c1623 v1619:=by kernel_rfl
noncomputable def T3 (a1:Arg) (c2228:List Seen) (c2229:List ((List Int)×Row)) (c2230:Int) (v2227:(List Seen)×(List ((List Int)×Bool))×Int):St:={ n:=148,sl:=[(4,.own (.slc tSeen) (ownMd (.slc tSeen)) [] v2227.1),(5,.own (.slc tSeen) (ownMd (.slc tSeen)) [] c2228),(6,.own (.map (.arr 2 i64) tRow) (ownMd (.map (.arr 2 i64) tRow)) [] c2229),(15,.own (.map (.arr 2 i64) .bool) (ownMd (.map (.arr 2 i64) .bool)) [] v2227.2.1),(101,.ref 5 [] [0,0]),(102,.val i64 c2230),(103,.val i64 v2227.2.2)],vr:=[],lent:=[] }
noncomputable def S3 (rec:RT Out) (a1:Arg) (c2228:List Seen) (c2229:List ((List Int)×Row)) (c2230:Int):((List Seen)×(List ((List Int)×Bool))×Int)->OO:=fun v2227=>rec (T3 a1 c2228 c2229 c2230 v2227)
noncomputable def X3_7 (K:KT Out) (a1:Arg) (c2228:List Seen) (c2229:List ((List Int)×Row)) (c2230:Int):(List Seen)->OO:=fun z=>K (.exit 7) ({ n:=148,sl:=[(4,.own (.slc tSeen) (ownMd (.slc tSeen)) [] z)],vr:=[],lent:=[] })
noncomputable def b3 (self:((List Seen)×(List ((List Int)×Bool))×Int)->OO) (e7:(List Seen)->OO) (a1:Arg) (c2228:List Seen) (c2229:List ((List Int)×Row)) (c2230:Int) (v2227:(List Seen)×(List ((List Int)×Bool))×Int):OO:=bif decide (v2227.2.2 < c2230) then (if 0<=v2227.2.2/\v2227.2.2 < (c2228.length:Int) then ((c2228[v2227.2.2.toNat]?).bind fun x2431=>if 0 < (List.replicate 2 (0:Int)).length then (if 1 < ((List.replicate 2 (0:Int)).set 0 x2431.2.2.2.2.1).length then (let y2432:=((List.replicate 2 (0:Int)).set 0 x2431.2.2.2.2.1).set 1 x2431.2.2.2.2.2.1;bif orZ (mapGet (.arr 2 i64) v2227.2.1 y2432) false then (some (([]:List Seen),(6:Int),())) else let y2433:=orZ (mapGet (.arr 2 i64) c2229 y2432) ((0:Int),(0:Int),(0:Int),([]:List UInt8),());if v2227.1.length+[(y2433,x2431.2)].length<=CAP then (self (v2227.1++[(y2433,x2431.2)],mapPut (.arr 2 i64) v2227.2.1 y2432 true,w64 (v2227.2.2+(1:Int)))) else none) else none) else none) else none) else e7 v2227.1
noncomputable abbrev B3 (_:Nat):=b3
theorem B3_eq (k:Nat) (rec:RT Out) (K:KT Out) (a1:Arg) (c2228:List Seen) (c2229:List ((List Int)×Row)) (c2230:Int) (v2227:(List Seen)×(List ((List Int)×Bool))×Int):D.N k [1,1,1,1,1,1,0,1,0,0] (T3 a1 c2228 c2229 c2230 v2227) (loopC rec (keepF [4,5,6,15,101,102,103] []) K)=b3 (S3 rec a1 c2228 c2229 c2230) (X3_7 K a1 c2228 c2229 c2230) a1 c2228 c2229 c2230 v2227:=by kernel_rfl
noncomputable def T4 (a1:Arg) (c2837:List Seen) (v2836:Int):St:={ n:=148,sl:=[(4,.own (.slc tSeen) (ownMd (.slc tSeen)) [] c2837),(19,.val i64 v2836)],vr:=[],lent:=[] }
noncomputable def b4 (self:Int->OO) (e9:(Unit)->OO) (a1:Arg) (c2837:List Seen) (v2836:Int):OO:=bif decide (v2836 < (c2837.length:Int)) then (if 0<=w64 (v2836 - (1:Int))/\w64 (v2836 - (1:Int)) < (c2837.length:Int) then ((c2837[(w64 (v2836 - (1:Int))).toNat]?).bind fun x3038=>if 0<=v2836/\v2836 < (c2837.length:Int) then ((c2837[v2836.toNat]?).bind fun x3039=>(impl_IsBefore.sem (x3038.1,x3039.1,())).bind fun r3040=>bif !r3040.1 then (some (([]:List Seen),(8:Int),())) else self (w64 (v2836+(1:Int)))) else none) else none) else e9 ()
noncomputable abbrev B4 (_:Nat):=b4
noncomputable def q4 (a1:Arg) (c2837:List Seen) (z3041:(Unit)):OO:=some (c2837,(0:Int),())
noncomputable abbrev Q4 (_:Nat):=q4
noncomputable def s4 (k:Nat) (a1:Arg) (c2228:List Seen) (c2229:List ((List Int)×Row)) (c2230:Int):(List Seen)->(Int)->OO:=fun c2837=>fun v2836=>D.L k [1,1,1,1,1,1,1,1,0,1,0,0] [4,19] [] (blockC 9 (seqC (D.N k [1,1,1,1,1,1,1,1,1]) D.K0)) (T4 a1 c2837 v2836)
noncomputable def r4 (k:Nat) (a1:Arg) (c2228:List Seen) (c2229:List ((List Int)×Row)) (c2230:Int):(List Seen)->(Int)->OO:=fun c2837=>rawIter (fun w v=>B4 k w (Q4 k a1 c2837) a1 c2837 v) k
theorem s4_eq (k:Nat) (a1:Arg) (c2228:List Seen) (c2229:List ((List Int)×Row)) (c2230:Int):s4 k a1 c2228 c2229 c2230=r4 k a1 c2228 c2229 c2230:=
 funext fun c2837=>funext fun v2836=>iter_raw _ _ _ (T4 a1 c2837) _ (fun rec v=>by kernel_rfl) k v2836
noncomputable def q3 (l4:(List Seen)->(Int)->OO) (a1:Arg) (c2228:List Seen) (c2229:List ((List Int)×Row)) (c2230:Int) (z2434:(List Seen)):OO:=(slices_SortFunc_seen.sem (z2434,((397,0):Nat×Int),())).bind fun r2435=>l4 r2435.1 (1:Int)
noncomputable def Q3 (k:Nat) (a1:Arg) (c2228:List Seen) (c2229:List ((List Int)×Row)) (c2230:Int) (z2434:(List Seen)):OO:=q3 (r4 k a1 c2228 c2229 c2230) a1 c2228 c2229 c2230 z2434
theorem Q3_eq (k:Nat) (a1:Arg) (c2228:List Seen) (c2229:List ((List Int)×Row)) (c2230:Int) (z2434:(List Seen)):X3_7 (blockC 7 (seqC (D.N k [1,1,1,1,1,1,1]) D.K0)) a1 c2228 c2229 c2230 z2434=Q3 k a1 c2228 c2229 c2230 z2434:=
 bI (b:=q3 (s4 k a1 c2228 c2229 c2230) a1 c2228 c2229 c2230 z2434) (by kernel_rfl) (by rw[s4_eq];rfl)
noncomputable def s3 (k:Nat) (a1:Arg) (c1620:List Seen) (c1621:List Seen) (c1622:List ((List Int)×Row)) (c1623:Int):(List Seen)->(List ((List Int)×Row))->Int->((List Seen)×(List ((List Int)×Bool))×Int)->OO:=fun c2228 c2229 c2230=>fun v2227=>D.L k [1,1,1,1,1,1,0,1,0,0] [4,5,6,15,101,102,103] [] (blockC 7 (seqC (D.N k [1,1,1,1,1,1,1]) D.K0)) (T3 a1 c2228 c2229 c2230 v2227)
noncomputable def r3 (k:Nat) (a1:Arg) (c1620:List Seen) (c1621:List Seen) (c1622:List ((List Int)×Row)) (c1623:Int):(List Seen)->(List ((List Int)×Row))->Int->((List Seen)×(List ((List Int)×Bool))×Int)->OO:=fun c2228 c2229 c2230=>rawIter (fun w v=>B3 k w (Q3 k a1 c2228 c2229 c2230) a1 c2228 c2229 c2230 v) k
theorem s3_eq (k:Nat) (a1:Arg) (c1620:List Seen) (c1621:List Seen) (c1622:List ((List Int)×Row)) (c1623:Int):s3 k a1 c1620 c1621 c1622 c1623=r3 k a1 c1620 c1621 c1622 c1623:=by
 funext c2228;funext c2229;funext c2230;funext v2227;have h7:X3_7 (blockC 7 (seqC (D.N k [1,1,1,1,1,1,1]) D.K0)) a1 c2228 c2229 c2230=Q3 k a1 c2228 c2229 c2230:=funext fun z=>Q3_eq k a1 c2228 c2229 c2230 z;refine (iter_raw _ _ _ (T3 a1 c2228 c2229 c2230) (fun self v=>B3 k self (X3_7 (blockC 7 (seqC (D.N k [1,1,1,1,1,1,1]) D.K0)) a1 c2228 c2229 c2230) a1 c2228 c2229 c2230 v) (fun rec v=>B3_eq k rec (blockC 7 (seqC (D.N k [1,1,1,1,1,1,1]) D.K0)) a1 c2228 c2229 c2230 v) k v2227).trans ?_;rw[h7];rfl
noncomputable def q2 (l3:(List Seen)->(List ((List Int)×Row))->Int->((List Seen)×(List ((List Int)×Bool))×Int)->OO) (a1:Arg) (c1620:List Seen) (c1621:List Seen) (c1622:List ((List Int)×Row)) (c1623:Int) (z1826:(Unit)):OO:=l3 c1621 c1622 (c1621.length:Int) (c1620,([]:List ((List Int)×Bool)),(0:Int))
noncomputable def Q2 (k:Nat) (a1:Arg) (c1620:List Seen) (c1621:List Seen) (c1622:List ((List Int)×Row)) (c1623:Int) (z1826:(Unit)):OO:=q2 (r3 k a1 c1620 c1621 c1622 c1623) a1 c1620 c1621 c1622 c1623 z1826
theorem Q2_eq (k:Nat) (a1:Arg) (c1620:List Seen) (c1621:List Seen) (c1622:List ((List Int)×Row)) (c1623:Int) (z1826:(Unit)):X2_5 (blockC 5 (seqC (D.N k [1,1,1,1,1]) D.K0)) a1 c1620 c1621 c1622 c1623 z1826=Q2 k a1 c1620 c1621 c1622 c1623 z1826:=
 bI (b:=q2 (s3 k a1 c1620 c1621 c1622 c1623) a1 c1620 c1621 c1622 c1623 z1826) (by kernel_rfl) (by rw[s3_eq];rfl)
noncomputable def s2 (k:Nat) (a1:Arg):(List Seen)->(List Seen)->(List ((List Int)×Row))->Int->(Int)->OO:=fun c1620 c1621 c1622 c1623=>fun v1619=>D.L k [1,1,1,1,0,1,0,0] [4,5,6,81,82,83] [] (blockC 5 (seqC (D.N k [1,1,1,1,1]) D.K0)) (T2 a1 c1620 c1621 c1622 c1623 v1619)
noncomputable def r2 (k:Nat) (a1:Arg):(List Seen)->(List Seen)->(List ((List Int)×Row))->Int->(Int)->OO:=fun c1620 c1621 c1622 c1623=>rawIter (fun w v=>B2 k w (Q2 k a1 c1620 c1621 c1622 c1623) a1 c1620 c1621 c1622 c1623 v) k
theorem s2_eq (k:Nat) (a1:Arg):s2 k a1=r2 k a1:=by
 funext c1620;funext c1621;funext c1622;funext c1623;funext v1619;have h5:X2_5 (blockC 5 (seqC (D.N k [1,1,1,1,1]) D.K0)) a1 c1620 c1621 c1622 c1623=Q2 k a1 c1620 c1621 c1622 c1623:=funext fun z=>Q2_eq k a1 c1620 c1621 c1622 c1623 z;refine (iter_raw _ _ _ (T2 a1 c1620 c1621 c1622 c1623) (fun self v=>B2 k self (X2_5 (blockC 5 (seqC (D.N k [1,1,1,1,1]) D.K0)) a1 c1620 c1621 c1622 c1623) a1 c1620 c1621 c1622 c1623 v) (fun rec v=>B2_eq k rec (blockC 5 (seqC (D.N k [1,1,1,1,1]) D.K0)) a1 c1620 c1621 c1622 c1623 v) k v1619).trans ?_;rw[h5];rfl
noncomputable def q1 (l2:(List Seen)->(List Seen)->(List ((List Int)×Row))->Int->(Int)->OO) (a1:Arg) (z1218:((List Seen)×(List Seen)×(List ((List Int)×Row)))):OO:=l2 z1218.1 z1218.2.1 z1218.2.2 (z1218.2.1.length:Int) (0:Int)
noncomputable def Q1 (k:Nat) (a1:Arg) (z1218:((List Seen)×(List Seen)×(List ((List Int)×Row)))):OO:=q1 (r2 k a1) a1 z1218
theorem Q1_eq (k:Nat) (a1:Arg) (z1218:((List Seen)×(List Seen)×(List ((List Int)×Row)))):X0_0 (blockC 0 (seqC (D.N k [1,1,1,1]) D.K0)) a1 z1218=Q1 k a1 z1218:=
 bI (b:=q1 (s2 k a1) a1 z1218) (by kernel_rfl) (by rw[s2_eq];rfl)
noncomputable def s0 (k:Nat) (a1:Arg):((List Seen)×(List Seen)×(List ((List Int)×Row))×(List (List UInt8))×Int×Int)->OO:=fun v402=>D.L k [1,1,1,0,1,0,0] [4,5,6,21,22,23] [] (blockC 0 (seqC (D.N k [1,1,1,1]) D.K0)) (T0 a1 v402)
noncomputable def r0 (k:Nat) (a1:Arg):((List Seen)×(List Seen)×(List ((List Int)×Row))×(List (List UInt8))×Int×Int)->OO:=rawIter (fun w v=>B0 k w (Q1 k a1) a1 v) k
theorem s0_eq (k:Nat) (a1:Arg):s0 k a1=r0 k a1:=by
 funext v402;have h0:X0_0 (blockC 0 (seqC (D.N k [1,1,1,1]) D.K0)) a1=Q1 k a1:=funext fun z=>Q1_eq k a1 z;refine (iter_raw _ _ _ (T0 a1) (fun self v=>B0 k self (X0_0 (blockC 0 (seqC (D.N k [1,1,1,1]) D.K0)) a1) a1 v) (fun rec v=>B0_eq k rec (blockC 0 (seqC (D.N k [1,1,1,1]) D.K0)) a1 v) k v402).trans ?_;rw[h0];rfl
noncomputable def p (l0:((List Seen)×(List Seen)×(List ((List Int)×Row))×(List (List UInt8))×Int×Int)->OO) (a1:Arg):OO:=l0 (([]:List Seen),([]:List Seen),([]:List ((List Int)×Row)),a1.1,(a1.1.length:Int),(0:Int))
theorem raw_eq (k:Nat) (a1:Arg):@Eq OO (D.W k a1) (p (r0 k a1) a1):=
 bI (b:=p (s0 k a1) a1) (by kernel_rfl) (by rw[s0_eq])
theorem ok:Ok prog 311 D.sig:=fd_ok func311 tlOk (by kernel_rfl) (fc impl_slots.ok (fc impl_hasSlot.ok (fc impl_UnpackCell.ok (fc impl_cellAt.ok (fc impl_IsBefore.ok (fc slices_SortFunc_seen.ok (fn_nil _)))))))
end impl_look
namespace impl_view
abbrev Arg:Type:=(List (List UInt8))×Unit
abbrev Out:Type:=(List Seen)×Int×Unit
abbrev OO:=Option Out
noncomputable def D:FD:={ fn:=f192,tl:=TL0,ps:=[(.ro,(.slc (.slc u8)))],rs:=[((.slc tSeen),(ownMd (.slc tSeen))),(i64,(roMd i64))],gl:=[(306,impl_PageFault.D.sig),(307,impl_slots.D.sig),(308,impl_hasSlot.D.sig),(309,impl_UnpackCell.D.sig),(310,impl_cellAt.D.sig),(311,impl_look.D.sig)],lv:=[(4,[0,11,12,13]),(10,[0,5,11,12,13,23,24])],lx:=[(0,[0]),(2,[0,11,12,13])] }
noncomputable def sem (a:Arg):OO:=@lift Out fun k=>D.W k a
noncomputable def T0 (a1:Arg) (v402:(List (List UInt8))×(List (List UInt8))×Int×Int):St:={ n:=44,sl:=[(0,.val (.slc (.slc u8)) v402.1),(11,.val (.slc (.slc u8)) v402.2.1),(12,.val i64 v402.2.2.1),(13,.val i64 v402.2.2.2)],vr:=[],lent:=[] }
noncomputable def S0 (rec:RT Out) (a1:Arg):((List (List UInt8))×(List (List UInt8))×Int×Int)->OO:=fun v402=>rec (T0 a1 v402)
noncomputable def X0_0 (K:KT Out) (a1:Arg):(List (List UInt8))->OO:=fun z=>K (.exit 0) ({ n:=44,sl:=[(0,.val (.slc (.slc u8)) z)],vr:=[],lent:=[] })
noncomputable def T1 (a1:Arg) (c1007:List (List UInt8)) (c1008:List UInt8) (c1009:List (List UInt8)) (c1010:Int) (c1011:Int) (c1012:Int) (v1006:Int):St:={ n:=44,sl:=[(0,.val (.slc (.slc u8)) c1007),(5,.val (.slc u8) c1008),(11,.val (.slc (.slc u8)) c1009),(12,.val i64 c1010),(13,.val i64 c1011),(23,.val i64 c1012),(24,.val i64 v1006)],vr:=[],lent:=[] }
noncomputable def b1 (self:Int->OO) (e2:(Unit)->OO) (a1:Arg) (c1007:List (List UInt8)) (c1008:List UInt8) (c1009:List (List UInt8)) (c1010:Int) (c1011:Int) (c1012:Int) (v1006:Int):OO:=bif decide (v1006 < c1012) then ((impl_hasSlot.sem (c1008,v1006,())).bind fun r1213=>bif r1213.1 then ((impl_cellAt.sem (c1008,v1006,())).bind fun r1214=>(impl_UnpackCell.sem (r1214.1,())).bind fun r1215=>bif !decide (r1215.1.1=(0:Int)) then (some (([]:List Seen),(5:Int),())) else self (w64 (v1006+(1:Int)))) else self (w64 (v1006+(1:Int)))) else e2 ()
noncomputable def q0 (self:((List (List UInt8))×(List (List UInt8))×Int×Int)->OO) (e0:(List (List UInt8))->OO) (a1:Arg) (c1007:List (List UInt8)) (c1008:List UInt8) (c1009:List (List UInt8)) (c1010:Int) (c1011:Int) (c1012:Int) (z1216:(Unit)):OO:=self (c1007,c1009,c1010,w64 (c1011+(1:Int)))
noncomputable def s1 (k:Nat) (rec:RT Out) (K:KT Out) (a1:Arg):(List (List UInt8))->(List UInt8)->(List (List UInt8))->Int->Int->Int->(Int)->OO:=fun c1007 c1008 c1009 c1010 c1011 c1012=>fun v1006=>D.L k [1,1,0,1,0,0,1,1,0,0,1,1,1,0,0] [0,5,11,12,13,23,24] [] (blockC 2 (blockC 1 (seqC (D.N k [1,1,0,1,0,0,1,1,1]) (loopC rec (keepF [0,11,12,13] []) K)))) (T1 a1 c1007 c1008 c1009 c1010 c1011 c1012 v1006)
noncomputable def r1 (k:Nat) (self:((List (List UInt8))×(List (List UInt8))×Int×Int)->OO) (e0:(List (List UInt8))->OO) (a1:Arg):(List (List UInt8))->(List UInt8)->(List (List UInt8))->Int->Int->Int->(Int)->OO:=fun c1007 c1008 c1009 c1010 c1011 c1012=>rawIter (fun w v=>b1 w (q0 self e0 a1 c1007 c1008 c1009 c1010 c1011 c1012) a1 c1007 c1008 c1009 c1010 c1011 c1012 v) k
theorem s1_eq (k:Nat) (rec:RT Out) (K:KT Out) (a1:Arg):s1 k rec K a1=r1 k (S0 rec a1) (X0_0 K a1) a1:=
 funext fun c1007=>funext fun c1008=>funext fun c1009=>funext fun c1010=>funext fun c1011=>funext fun c1012=>funext fun v1006=>iter_raw _ _ _ (T1 a1 c1007 c1008 c1009 c1010 c1011 c1012) _ (fun rec v=>by kernel_rfl) k v1006
noncomputable def b0 (self:((List (List UInt8))×(List (List UInt8))×Int×Int)->OO) (e0:(List (List UInt8))->OO) (l1:(List (List UInt8))->(List UInt8)->(List (List UInt8))->Int->Int->Int->(Int)->OO) (a1:Arg) (v402:(List (List UInt8))×(List (List UInt8))×Int×Int):OO:=bif decide (v402.2.2.2 < v402.2.2.1) then (if 0<=v402.2.2.2 then ((v402.2.1[v402.2.2.2.toNat]?).bind fun x603=>(impl_PageFault.sem (x603,())).bind fun r604=>bif !decide (r604.1=(0:Int)) then (some (([]:List Seen),r604.1,())) else (impl_slots.sem (x603,())).bind fun r605=>l1 v402.1 x603 v402.2.1 v402.2.2.1 v402.2.2.2 r605.1 (0:Int)) else none) else e0 v402.1
noncomputable def B0 (k:Nat) (self:((List (List UInt8))×(List (List UInt8))×Int×Int)->OO) (e0:(List (List UInt8))->OO) (a1:Arg) (v402:(List (List UInt8))×(List (List UInt8))×Int×Int):OO:=b0 self e0 (r1 k self e0 a1) a1 v402
theorem B0_eq (k:Nat) (rec:RT Out) (K:KT Out) (a1:Arg) (v402:(List (List UInt8))×(List (List UInt8))×Int×Int):D.N k [1,1,0,1,0,0] (T0 a1 v402) (loopC rec (keepF [0,11,12,13] []) K)=B0 k (S0 rec a1) (X0_0 K a1) a1 v402:=
 bI (b:=b0 (S0 rec a1) (X0_0 K a1) (s1 k rec K a1) a1 v402) (by kernel_rfl) (by rw[s1_eq];rfl)
noncomputable def q1 (a1:Arg) (z1217:(List (List UInt8))):OO:=(impl_look.sem (z1217,())).bind fun r1218=>some (r1218.1,r1218.2.1,())
theorem Q1_eq (k:Nat) (a1:Arg) (z1217:(List (List UInt8))):X0_0 (blockC 0 (seqC (D.N k [1,1,1]) D.K0)) a1 z1217=q1 a1 z1217:=by kernel_rfl
noncomputable def s0 (k:Nat) (a1:Arg):((List (List UInt8))×(List (List UInt8))×Int×Int)->OO:=fun v402=>D.L k [1,1,0,1,0,0] [0,11,12,13] [] (blockC 0 (seqC (D.N k [1,1,1]) D.K0)) (T0 a1 v402)
noncomputable def r0 (k:Nat) (a1:Arg):((List (List UInt8))×(List (List UInt8))×Int×Int)->OO:=rawIter (fun w v=>B0 k w (q1 a1) a1 v) k
theorem s0_eq (k:Nat) (a1:Arg):s0 k a1=r0 k a1:=by
 funext v402;have h0:X0_0 (blockC 0 (seqC (D.N k [1,1,1]) D.K0)) a1=q1 a1:=funext fun z=>Q1_eq k a1 z;refine (iter_raw _ _ _ (T0 a1) (fun self v=>B0 k self (X0_0 (blockC 0 (seqC (D.N k [1,1,1]) D.K0)) a1) a1 v) (fun rec v=>B0_eq k rec (blockC 0 (seqC (D.N k [1,1,1]) D.K0)) a1 v) k v402).trans ?_;rw[h0];rfl
noncomputable def p (l0:((List (List UInt8))×(List (List UInt8))×Int×Int)->OO) (a1:Arg):OO:=bif decide ((12:Int) < (a1.1.length:Int)) then (some (([]:List Seen),(2:Int),())) else l0 (a1.1,a1.1,(a1.1.length:Int),(0:Int))
theorem raw_eq (k:Nat) (a1:Arg):@Eq OO (D.W k a1) (p (r0 k a1) a1):=
 bI (b:=p (s0 k a1) a1) (by kernel_rfl) (by rw[s0_eq])
theorem ok:Ok prog 192 D.sig:=fd_ok func192 tlOk (by kernel_rfl) (fc impl_PageFault.ok (fc impl_slots.ok (fc impl_hasSlot.ok (fc impl_UnpackCell.ok (fc impl_cellAt.ok (fc impl_look.ok (fn_nil _)))))))
end impl_view
namespace impl_PagesFault
abbrev Arg:Type:=(List (List UInt8))×Unit
abbrev Out:Type:=Int×Unit
noncomputable def D:FD:={ fn:=f270,tl:=TL0,ps:=[(.ro,(.slc (.slc u8)))],rs:=[(i64,(roMd i64))],gl:=[(192,impl_view.D.sig)] }
noncomputable def sem (a:Arg):Option Out:=@lift Out fun k=>D.W k a
noncomputable def p (a1:Arg):Option Out:=(impl_view.sem (a1.1,())).bind fun r2=>some (r2.2.1,())
theorem raw_eq (k:Nat) (a1:Arg):@Eq (Option Out) (D.W k a1) (p a1):=by kernel_rfl
theorem ok:Ok prog 270 D.sig:=fd_ok func270 tlOk (by kernel_rfl) (fc impl_view.ok (fn_nil _))
end impl_PagesFault
namespace impl_foldedFault
abbrev Arg:Type:=(List Change)×Unit
abbrev Out:Type:=Int×Unit
abbrev OO:=Option Out
noncomputable def D:FD:={ fn:=f272,tl:=TL0,ps:=[(.ro,(.slc tChange))],rs:=[(i64,(roMd i64))],gl:=[(198,impl_Change_key.D.sig),(246,impl_singleFault.D.sig),(326,impl_IsBefore.D.sig)],lv:=[(4,[0,9,10,11])],lx:=[(0,[])],od:=[(9,[0,1,2,3,4,5,6,7,9,8,10,11,12,13])] }
noncomputable def sem (a:Arg):OO:=@lift Out fun k=>D.W k a
noncomputable def T0 (a1:Arg) (v402:Int):St:={ n:=36,sl:=[(0,.val (.slc tChange) a1.1),(9,.val (.slc tChange) a1.1),(10,.val i64 (a1.1.length:Int)),(11,.val i64 v402)],vr:=[],lent:=[] }
noncomputable def b0 (self:Int->OO) (e0:(Unit)->OO) (a1:Arg) (v402:Int):OO:=bif decide (v402 < (a1.1.length:Int)) then (if 0<=v402 then ((a1.1[v402.toNat]?).bind fun x603=>(impl_singleFault.sem (x603,())).bind fun r604=>bif !decide (r604.1=(0:Int)) then (some (r604.1,())) else bif decide ((0:Int) < v402) then (if 0<=w64 (v402 - (1:Int)) then ((a1.1[(w64 (v402 - (1:Int))).toNat]?).bind fun x605=>(impl_Change_key.sem (x605,())).bind fun r606=>(impl_Change_key.sem (x603,())).bind fun r607=>(impl_IsBefore.sem (r606.1,r607.1,())).bind fun r608=>bif !r608.1 then (some ((1:Int),())) else self (w64 (v402+(1:Int)))) else none) else self (w64 (v402+(1:Int)))) else none) else e0 ()
noncomputable def q0 (a1:Arg) (z609:(Unit)):OO:=some ((0:Int),())
noncomputable def s0 (k:Nat) (a1:Arg):(Int)->OO:=fun v402=>D.L k [1,1,0,1,0,0] [0,9,10,11] [] (blockC 0 (seqC (D.N k [1,1,1]) D.K0)) (T0 a1 v402)
noncomputable def r0 (k:Nat) (a1:Arg):(Int)->OO:=rawIter (fun w v=>b0 w (q0 a1) a1 v) k
theorem s0_eq (k:Nat) (a1:Arg):s0 k a1=r0 k a1:=
 funext fun v402=>iter_raw _ _ _ (T0 a1) _ (fun rec v=>by kernel_rfl) k v402
noncomputable def p (l0:(Int)->OO) (a1:Arg):OO:=bif decide ((60:Int) < (a1.1.length:Int)) then (some ((2:Int),())) else l0 (0:Int)
theorem raw_eq (k:Nat) (a1:Arg):@Eq OO (D.W k a1) (p (r0 k a1) a1):=
 bI (b:=p (s0 k a1) a1) (by kernel_rfl) (by rw[s0_eq])
theorem ok:Ok prog 272 D.sig:=fd_ok func272 tlOk (by kernel_rfl) (fc impl_Change_key.ok (fc impl_singleFault.ok (fc impl_IsBefore.ok (fn_nil _))))
end impl_foldedFault
namespace impl_Miner_open_1
abbrev Arg:Type:=Buffer×Int×Unit
abbrev Out:Type:=Bool×Unit
noncomputable def D:FD:={ fn:=f365,tl:=TL0,ps:=[(.ro,tBuffer),(.ro,(.ptr i64))],rs:=[(.bool,(roMd .bool))],cap:=true }
noncomputable def sem (a:Arg):Option Out:=@lift Out fun k=>D.W k a
noncomputable def p (a1:Arg):Option Out:=some (decide (a1.1.1=a1.2.1),())
theorem raw_eq (k:Nat) (a1:Arg):@Eq (Option Out) (D.W k a1) (p a1):=by kernel_rfl
theorem ok:Ok prog 365 D.sig:=fd_ok func365 tlOk (by kernel_rfl) (fn_nil _)
end impl_Miner_open_1
namespace slices_IndexFunc_Buffer
abbrev Arg:Type:=(List Buffer)×(Nat×Int)×Unit
abbrev Out:Type:=Int×Unit
abbrev OO:=Option Out
noncomputable def D:FD:={ fn:=f364,tl:=TL0,ps:=[(.ro,(.slc tBuffer)),(.fix 365,.fn)],rs:=[(i64,(roMd i64))],gl:=[(365,impl_Miner_open_1.D.sig)],lv:=[(2,[0,1,7,8])],lx:=[(0,[])] }
noncomputable def sem (a:Arg):OO:=@lift Out fun k=>D.W k a
noncomputable def T0 (a1:Arg) (v402:Int):St:={ n:=19,sl:=[(0,.val (.slc tBuffer) a1.1),(1,.val .fn ((365,a1.2.1.2):Nat×Int)),(7,.val i64 (a1.1.length:Int)),(8,.val i64 v402)],vr:=[],lent:=[] }
noncomputable def b0 (self:Int->OO) (e0:(Unit)->OO) (a1:Arg) (v402:Int):OO:=bif decide (v402 < (a1.1.length:Int)) then (if 0<=v402 then ((a1.1[v402.toNat]?).bind fun x603=>(impl_Miner_open_1.sem (x603,a1.2.1.2,())).bind fun r604=>bif r604.1 then (some (v402,())) else self (w64 (v402+(1:Int)))) else none) else e0 ()
noncomputable def q0 (a1:Arg) (z605:(Unit)):OO:=some ((-1:Int),())
noncomputable def s0 (k:Nat) (a1:Arg):(Int)->OO:=fun v402=>D.L k [1,0,1,0,0] [0,1,7,8] [] (blockC 0 (seqC (D.N k [1,1]) D.K0)) (T0 a1 v402)
noncomputable def r0 (k:Nat) (a1:Arg):(Int)->OO:=rawIter (fun w v=>b0 w (q0 a1) a1 v) k
theorem s0_eq (k:Nat) (a1:Arg):s0 k a1=r0 k a1:=
 funext fun v402=>iter_raw _ _ _ (T0 a1) _ (fun rec v=>by kernel_rfl) k v402
noncomputable def p (l0:(Int)->OO) (a1:Arg):OO:=l0 (0:Int)
theorem raw_eq (k:Nat) (a1:Arg):@Eq OO (D.W k a1) (p (r0 k a1) a1):=
 bI (b:=p (s0 k a1) a1) (by kernel_rfl) (by rw[s0_eq])
theorem ok:Ok prog 364 D.sig:=fd_ok func364 tlOk (by kernel_rfl) (fc impl_Miner_open_1.ok (fn_nil _))
end slices_IndexFunc_Buffer
namespace impl_Miner_open
abbrev Arg:Type:=Miner×Int×Unit
abbrev Out:Type:=Int×Unit
noncomputable def D:FD:={ fn:=f273,tl:=TL0,ps:=[(.ro,tMiner),(.ro,i64)],rs:=[(i64,(roMd i64))],gl:=[(364,slices_IndexFunc_Buffer.D.sig)] }
noncomputable def sem (a:Arg):Option Out:=@lift Out fun k=>D.W k a
noncomputable def p (a1:Arg):Option Out:=(slices_IndexFunc_Buffer.sem (a1.1.2.1,((365,a1.2.1):Nat×Int),())).bind fun r2=>some (r2.1,())
theorem raw_eq (k:Nat) (a1:Arg):@Eq (Option Out) (D.W k a1) (p a1):=by kernel_rfl
theorem ok:Ok prog 273 D.sig:=fd_ok func273 tlOk (by kernel_rfl) (fc slices_IndexFunc_Buffer.ok (fn_nil _))
end impl_Miner_open
namespace impl_MinerFault
abbrev Arg:Type:=Miner×Unit
abbrev Out:Type:=Int×Unit
abbrev OO:=Option Out
noncomputable def D:FD:={ fn:=f137,tl:=TL0,ps:=[(.ro,tMiner)],rs:=[(i64,(roMd i64))],gl:=[(270,impl_PagesFault.D.sig),(271,impl_isTx.D.sig),(272,impl_foldedFault.D.sig),(273,impl_Miner_open.D.sig)],lv:=[(7,[1,18,19,20])],lx:=[(0,[])] }
noncomputable def sem (a:Arg):OO:=@lift Out fun k=>D.W k a
noncomputable def T0 (a1:Arg) (v403:Int):St:={ n:=42,sl:=[(1,.box tMiner (roMd tMiner) [] a1.1),(18,.val (.slc tBuffer) a1.1.2.1),(19,.val i64 (a1.1.2.1.length:Int)),(20,.val i64 v403)],vr:=[],lent:=[] }
noncomputable def b0 (self:Int->OO) (e0:(Unit)->OO) (a1:Arg) (v403:Int):OO:=bif decide (v403 < (a1.1.2.1.length:Int)) then (if 0<=v403 then ((a1.1.2.1[v403.toNat]?).bind fun x604=>(impl_isTx.sem (x604.1,())).bind fun r605=>bif !r605.1 then (some ((3:Int),())) else (impl_foldedFault.sem (x604.2.1,())).bind fun r606=>bif !decide (r606.1=(0:Int)) then (some (r606.1,())) else (impl_Miner_open.sem (a1.1,x604.1,())).bind fun r607=>bif decide (r607.1 < v403) then (some ((6:Int),())) else self (w64 (v403+(1:Int)))) else none) else e0 ()
noncomputable def q0 (a1:Arg) (z608:(Unit)):OO:=some ((0:Int),())
noncomputable def s0 (k:Nat) (a1:Arg):(Int)->OO:=fun v403=>D.L k [1,1,1,0,1,0,0] [1,18,19,20] [] (blockC 0 (seqC (D.N k [1,1,1,1]) D.K0)) (T0 a1 v403)
noncomputable def r0 (k:Nat) (a1:Arg):(Int)->OO:=rawIter (fun w v=>b0 w (q0 a1) a1 v) k
theorem s0_eq (k:Nat) (a1:Arg):s0 k a1=r0 k a1:=
 funext fun v403=>iter_raw _ _ _ (T0 a1) _ (fun rec v=>by kernel_rfl) k v403
noncomputable def p (l0:(Int)->OO) (a1:Arg):OO:=(impl_PagesFault.sem (a1.1.1,())).bind fun r2=>bif !decide (r2.1=(0:Int)) then (some (r2.1,())) else bif decide ((8:Int) < (a1.1.2.1.length:Int)) then (some ((2:Int),())) else l0 (0:Int)
theorem raw_eq (k:Nat) (a1:Arg):@Eq OO (D.W k a1) (p (r0 k a1) a1):=
 bI (b:=p (s0 k a1) a1) (by kernel_rfl) (by rw[s0_eq])
theorem ok:Ok prog 137 D.sig:=fd_ok func137 tlOk (by kernel_rfl) (fc impl_PagesFault.ok (fc impl_isTx.ok (fc impl_foldedFault.ok (fc impl_Miner_open.ok (fn_nil _)))))
end impl_MinerFault
namespace impl_copied
abbrev Arg:Type:=(List UInt8)×Unit
abbrev Out:Type:=(List UInt8)×Unit
noncomputable def D:FD:={ fn:=f215,tl:=TL0,ps:=[(.ro,(.slc u8))],rs:=[((.slc u8),(ownMd (.slc u8)))] }
noncomputable def sem (a:Arg):Option Out:=@lift Out fun k=>D.W k a
noncomputable def p (a1:Arg):Option Out:=if ([]:List UInt8).length+a1.1.length<=CAP then (some (([]:List UInt8)++a1.1,())) else none
theorem raw_eq (k:Nat) (a1:Arg):@Eq (Option Out) (D.W k a1) (p a1):=by kernel_rfl
theorem ok:Ok prog 215 D.sig:=fd_ok func215 tlOk (by kernel_rfl) (fn_nil _)
end impl_copied
namespace impl_copies
abbrev Arg:Type:=(List (List UInt8))×Unit
abbrev Out:Type:=(List (List UInt8))×Unit
abbrev OO:=Option Out
noncomputable def D:FD:={ fn:=f213,tl:=TL0,ps:=[(.ro,(.slc (.slc u8)))],rs:=[((.slc (.slc u8)),(ownMd (.slc (.slc u8))))],gl:=[(215,impl_copied.D.sig)],lv:=[(3,[3,6,7,8])],lx:=[(0,[3])] }
noncomputable def sem (a:Arg):OO:=@lift Out fun k=>D.W k a
noncomputable def T0 (a1:Arg) (v402:(List (List UInt8))×Int):St:={ n:=19,sl:=[(3,.own (.slc (.slc u8)) (ownMd (.slc (.slc u8))) [] v402.1),(6,.val (.slc (.slc u8)) a1.1),(7,.val i64 (a1.1.length:Int)),(8,.val i64 v402.2)],vr:=[],lent:=[] }
noncomputable def b0 (self:((List (List UInt8))×Int)->OO) (e0:(List (List UInt8))->OO) (a1:Arg) (v402:(List (List UInt8))×Int):OO:=bif decide (v402.2 < (a1.1.length:Int)) then (if 0<=v402.2 then ((a1.1[v402.2.toNat]?).bind fun x603=>(impl_copied.sem (x603,())).bind fun r604=>if v402.1.length+[r604.1].length<=CAP then (self (v402.1++[r604.1],w64 (v402.2+(1:Int)))) else none) else none) else e0 v402.1
noncomputable def q0 (a1:Arg) (z605:(List (List UInt8))):OO:=some (z605,())
noncomputable def s0 (k:Nat) (a1:Arg):((List (List UInt8))×Int)->OO:=fun v402=>D.L k [1,1,0,1,0,0] [3,6,7,8] [] (blockC 0 (seqC (D.N k [1,1,1]) D.K0)) (T0 a1 v402)
noncomputable def r0 (k:Nat) (a1:Arg):((List (List UInt8))×Int)->OO:=rawIter (fun w v=>b0 w (q0 a1) a1 v) k
theorem s0_eq (k:Nat) (a1:Arg):s0 k a1=r0 k a1:=
 funext fun v402=>iter_raw _ _ _ (T0 a1) _ (fun rec v=>by kernel_rfl) k v402
noncomputable def p (l0:((List (List UInt8))×Int)->OO) (a1:Arg):OO:=l0 (([]:List (List UInt8)),(0:Int))
theorem raw_eq (k:Nat) (a1:Arg):@Eq OO (D.W k a1) (p (r0 k a1) a1):=
 bI (b:=p (s0 k a1) a1) (by kernel_rfl) (by rw[s0_eq])
theorem ok:Ok prog 213 D.sig:=fd_ok func213 tlOk (by kernel_rfl) (fc impl_copied.ok (fn_nil _))
end impl_copies
namespace impl_ownBuffer
abbrev Arg:Type:=Buffer×Unit
abbrev Out:Type:=Buffer×Unit
noncomputable def D:FD:={ fn:=f282,tl:=TL0,ps:=[(.ro,tBuffer)],rs:=[(tBuffer,(ownMd tBuffer))],gl:=[(353,slices_Clone_Change.D.sig)],od:=[(1,[0,1,2,3,4,5,6])] }
noncomputable def sem (a:Arg):Option Out:=@lift Out fun k=>D.W k a
noncomputable def p (a1:Arg):Option Out:=(slices_Clone_Change.sem (a1.1.2.1,())).bind fun r2=>some ((a1.1.1,r2.1,()),())
theorem raw_eq (k:Nat) (a1:Arg):@Eq (Option Out) (D.W k a1) (p a1):=by kernel_rfl
theorem ok:Ok prog 282 D.sig:=fd_ok func282 tlOk (by kernel_rfl) (fc slices_Clone_Change.ok (fn_nil _))
end impl_ownBuffer
namespace impl_Miner_own
abbrev Arg:Type:=Miner×Unit
abbrev Out:Type:=Miner×Unit
abbrev OO:=Option Out
noncomputable def D:FD:={ fn:=f153,tl:=TL0,ps:=[(.ro,tMiner)],rs:=[(tMiner,(ownMd tMiner))],gl:=[(213,impl_copies.D.sig),(282,impl_ownBuffer.D.sig)],lv:=[(3,[2,3,11,12,13])],lx:=[(0,[2,3])],od:=[(5,[0,1,2,3,4,5,6,7])] }
noncomputable def sem (a:Arg):OO:=@lift Out fun k=>D.W k a
noncomputable def T0 (a1:Arg) (v403:Miner×Int):St:={ n:=26,sl:=[(2,.box tMiner (ownMd tMiner) [] (([]:List (List UInt8)),([]:List Buffer),())),(3,.box tMiner (ownMd tMiner) [] v403.1),(11,.val (.slc tBuffer) a1.1.2.1),(12,.val i64 (a1.1.2.1.length:Int)),(13,.val i64 v403.2)],vr:=[],lent:=[] }
noncomputable def b0 (self:(Miner×Int)->OO) (e0:Miner->OO) (a1:Arg) (v403:Miner×Int):OO:=bif decide (v403.2 < (a1.1.2.1.length:Int)) then (if 0<=v403.2 then ((a1.1.2.1[v403.2.toNat]?).bind fun x604=>(impl_ownBuffer.sem (x604,())).bind fun r605=>if v403.1.2.1.length+[r605.1].length<=CAP then (self ((v403.1.1,v403.1.2.1++[r605.1],v403.1.2.2),w64 (v403.2+(1:Int)))) else none) else none) else e0 v403.1
noncomputable def q0 (a1:Arg) (z606:Miner):OO:=some (z606,())
noncomputable def s0 (k:Nat) (a1:Arg):(Miner×Int)->OO:=fun v403=>D.L k [1,1,0,1,0,0] [2,3,11,12,13] [] (blockC 0 (seqC (D.N k [1,1,1]) D.K0)) (T0 a1 v403)
noncomputable def r0 (k:Nat) (a1:Arg):(Miner×Int)->OO:=rawIter (fun w v=>b0 w (q0 a1) a1 v) k
theorem s0_eq (k:Nat) (a1:Arg):s0 k a1=r0 k a1:=
 funext fun v403=>iter_raw _ _ _ (T0 a1) _ (fun rec v=>by kernel_rfl) k v403
noncomputable def p (l0:(Miner×Int)->OO) (a1:Arg):OO:=(impl_copies.sem (a1.1.1,())).bind fun r2=>l0 ((r2.1,([]:List Buffer),()),(0:Int))
theorem raw_eq (k:Nat) (a1:Arg):@Eq OO (D.W k a1) (p (r0 k a1) a1):=
 bI (b:=p (s0 k a1) a1) (by kernel_rfl) (by rw[s0_eq])
theorem ok:Ok prog 153 D.sig:=fd_ok func153 tlOk (by kernel_rfl) (fc impl_copies.ok (fc impl_ownBuffer.ok (fn_nil _)))
end impl_Miner_own
namespace impl_plain
abbrev Arg:Type:=(List Seen)×Unit
abbrev Out:Type:=(List Row)×Unit
abbrev OO:=Option Out
noncomputable def D:FD:={ fn:=f195,tl:=TL0,ps:=[(.ro,(.slc tSeen))],rs:=[((.slc tRow),(ownMd (.slc tRow)))],lv:=[(3,[3,6,7,8])],lx:=[(0,[3])] }
noncomputable def sem (a:Arg):OO:=@lift Out fun k=>D.W k a
noncomputable def T0 (a1:Arg) (v402:(List Row)×Int):St:={ n:=19,sl:=[(3,.own (.slc tRow) (ownMd (.slc tRow)) [] v402.1),(6,.val (.slc tSeen) a1.1),(7,.val i64 (a1.1.length:Int)),(8,.val i64 v402.2)],vr:=[],lent:=[] }
noncomputable def b0 (self:((List Row)×Int)->OO) (e0:(List Row)->OO) (a1:Arg) (v402:(List Row)×Int):OO:=bif decide (v402.2 < (a1.1.length:Int)) then (if 0<=v402.2 then ((a1.1[v402.2.toNat]?).bind fun x603=>if v402.1.length+[x603.1].length<=CAP then (self (v402.1++[x603.1],w64 (v402.2+(1:Int)))) else none) else none) else e0 v402.1
noncomputable def q0 (a1:Arg) (z604:(List Row)):OO:=some (z604,())
noncomputable def s0 (k:Nat) (a1:Arg):((List Row)×Int)->OO:=fun v402=>D.L k [1,1,0,1,0,0] [3,6,7,8] [] (blockC 0 (seqC (D.N k [1,1,1]) D.K0)) (T0 a1 v402)
noncomputable def r0 (k:Nat) (a1:Arg):((List Row)×Int)->OO:=rawIter (fun w v=>b0 w (q0 a1) a1 v) k
theorem s0_eq (k:Nat) (a1:Arg):s0 k a1=r0 k a1:=
 funext fun v402=>iter_raw _ _ _ (T0 a1) _ (fun rec v=>by kernel_rfl) k v402
noncomputable def p (l0:((List Row)×Int)->OO) (a1:Arg):OO:=l0 (([]:List Row),(0:Int))
theorem raw_eq (k:Nat) (a1:Arg):@Eq OO (D.W k a1) (p (r0 k a1) a1):=
 bI (b:=p (s0 k a1) a1) (by kernel_rfl) (by rw[s0_eq])
theorem ok:Ok prog 195 D.sig:=fd_ok func195 tlOk (by kernel_rfl) (fn_nil _)
end impl_plain
namespace impl_between
abbrev Arg:Type:=(List Row)×(List Row)×Unit
abbrev Out:Type:=(List Change)×Unit
abbrev OO:=Option Out
noncomputable def D:FD:={ fn:=f208,tl:=TL0,ps:=[(.ro,(.slc tRow)),(.ro,(.slc tRow))],rs:=[((.slc tChange),(ownMd (.slc tChange)))],gl:=[(312,impl_order.D.sig)],lv:=[(2,[0,1,5])],lx:=[(0,[5])],od:=[(4,[0,1,2,3,4,5,6,7]),(11,[0,1,2,3,4,5,6]),(14,[0,1,2,3,4,5,6])],ar:=[(11,[2]),(14,[2])] }
noncomputable def sem (a:Arg):OO:=@lift Out fun k=>D.W k a
noncomputable def T0 (a1:Arg) (v402:(List Row)×(List Row)×(List Change)):St:={ n:=69,sl:=[(0,.val (.slc tRow) v402.1),(1,.val (.slc tRow) v402.2.1),(5,.own (.slc tChange) (ownMd (.slc tChange)) [] v402.2.2)],vr:=[],lent:=[] }
noncomputable def b0 (self:((List Row)×(List Row)×(List Change))->OO) (e0:(List Change)->OO) (a1:Arg) (v402:(List Row)×(List Row)×(List Change)):OO:=let j617:OO:=let j624:=fun (p623:Int)=>(let j631:=fun (p629:List Row) (p630:Change)=>(let j637:=fun (p635:List Row) (p636:Change)=>(bif !p636.1 then (if v402.2.2.length+[p636].length<=CAP then (self (p629,p635,v402.2.2++[p636])) else none) else bif !p636.2.2.1 then (if v402.2.2.length+[p636].length<=CAP then (self (p629,p635,v402.2.2++[p636])) else none) else bif !(Ty.eq tRow p636.2.1 p636.2.2.2.1) then (if v402.2.2.length+[p636].length<=CAP then (self (p629,p635,v402.2.2++[p636])) else none) else self (p629,p635,v402.2.2):OO);bif decide ((0:Int)<=p623) then ((v402.2.1[0]?).bind fun x632=>if 0<=(1:Int)/\(1:Int)<=(v402.2.1.length:Int) then (j637 ((v402.2.1.take v402.2.1.length).drop 1) (p630.1,p630.2.1,true,x632,p630.2.2.2.2)) else none) else j637 v402.2.1 p630:OO);bif decide (p623<=(0:Int)) then ((v402.1[0]?).bind fun x625=>if 0<=(1:Int)/\(1:Int)<=(v402.1.length:Int) then (j631 ((v402.1.take v402.1.length).drop 1) (true,x625,false,((0:Int),(0:Int),(0:Int),([]:List UInt8),()),())) else none) else j631 v402.1 (false,((0:Int),(0:Int),(0:Int),([]:List UInt8),()),false,((0:Int),(0:Int),(0:Int),([]:List UInt8),()),()):OO);bif decide ((v402.1.length:Int)=(0:Int)) then (j624 (1:Int)) else bif decide ((v402.2.1.length:Int)=(0:Int)) then (j624 (-1:Int)) else (v402.1[0]?).bind fun x618=>(v402.2.1[0]?).bind fun x619=>(impl_order.sem (x618,x619,())).bind fun r620=>j624 r620.1;bif decide ((0:Int) < (v402.1.length:Int)) then (j617) else bif decide ((0:Int) < (v402.2.1.length:Int)) then (j617) else e0 v402.2.2
noncomputable def q0 (a1:Arg) (z638:(List Change)):OO:=some (z638,())
noncomputable def s0 (k:Nat) (a1:Arg):((List Row)×(List Row)×(List Change))->OO:=fun v402=>D.L k [1,1,0,0,0] [0,1,5] [] (blockC 0 (seqC (D.N k [1,1,1]) D.K0)) (T0 a1 v402)
noncomputable def r0 (k:Nat) (a1:Arg):((List Row)×(List Row)×(List Change))->OO:=rawIter (fun w v=>b0 w (q0 a1) a1 v) k
theorem s0_eq (k:Nat) (a1:Arg):s0 k a1=r0 k a1:=
 funext fun v402=>iter_raw _ _ _ (T0 a1) _ (fun rec v=>by kernel_rfl) k v402
noncomputable def p (l0:((List Row)×(List Row)×(List Change))->OO) (a1:Arg):OO:=l0 (a1.1,a1.2.1,([]:List Change))
theorem raw_eq (k:Nat) (a1:Arg):@Eq OO (D.W k a1) (p (r0 k a1) a1):=
 bI (b:=p (s0 k a1) a1) (by kernel_rfl) (by rw[s0_eq])
theorem ok:Ok prog 208 D.sig:=fd_ok func208 tlOk (by kernel_rfl) (fc impl_order.ok (fn_nil _))
end impl_between
namespace impl_turns
abbrev Arg:Type:=Int×Unit
abbrev Out:Type:=Bool×Unit
noncomputable def D:FD:={ fn:=f366,tl:=TL0,ps:=[(.ro,i64)],rs:=[(.bool,(roMd .bool))] }
noncomputable def sem (a:Arg):Option Out:=@lift Out fun k=>D.W k a
noncomputable def p (a1:Arg):Option Out:=bif decide (a1.1=(2:Int)) then (some (true,())) else bif decide (a1.1=(3:Int)) then (some (true,())) else some (decide (a1.1=(4:Int)),())
theorem raw_eq (k:Nat) (a1:Arg):@Eq (Option Out) (D.W k a1) (p a1):=by kernel_rfl
theorem ok:Ok prog 366 D.sig:=fd_ok func366 tlOk (by kernel_rfl) (fn_nil _)
end impl_turns
namespace impl_RunsFault
abbrev Arg:Type:=(List Run)×Unit
abbrev Out:Type:=Int×Unit
abbrev OO:=Option Out
noncomputable def D:FD:={ fn:=f367,tl:=TL0,ps:=[(.ro,(.slc tRun))],rs:=[(i64,(roMd i64))],gl:=[(214,impl_in.D.sig)],lv:=[(5,[3,10,11,12])],lx:=[(0,[])] }
noncomputable def sem (a:Arg):OO:=@lift Out fun k=>D.W k a
noncomputable def T0 (a1:Arg) (v402:Int×Int):St:={ n:=45,sl:=[(3,.val i64 v402.1),(10,.val (.slc tRun) a1.1),(11,.val i64 (a1.1.length:Int)),(12,.val i64 v402.2)],vr:=[],lent:=[] }
noncomputable def b0 (self:(Int×Int)->OO) (e0:(Unit)->OO) (a1:Arg) (v402:Int×Int):OO:=bif decide (v402.2 < (a1.1.length:Int)) then (if 0<=v402.2 then ((a1.1[v402.2.toNat]?).bind fun x603=>(impl_in.sem (x603.1,(0:Int),(63:Int),())).bind fun r604=>bif !r604.1 then (some ((3:Int),())) else (impl_in.sem ((x603.2.1.length:Int),(1:Int),(64:Int),())).bind fun r605=>bif !r605.1 then (some ((3:Int),())) else bif decide ((64:Int) < w64 (x603.1+(x603.2.1.length:Int))) then (some ((3:Int),())) else bif decide (x603.1 < v402.1) then (some ((1:Int),())) else self (w64 ((w64 (x603.1+(x603.2.1.length:Int)))+(1:Int)),w64 (v402.2+(1:Int)))) else none) else e0 ()
noncomputable def q0 (a1:Arg) (z606:(Unit)):OO:=some ((0:Int),())
noncomputable def s0 (k:Nat) (a1:Arg):(Int×Int)->OO:=fun v402=>D.L k [1,1,1,0,1,0,0] [3,10,11,12] [] (blockC 0 (seqC (D.N k [1,1,1,1]) D.K0)) (T0 a1 v402)
noncomputable def r0 (k:Nat) (a1:Arg):(Int×Int)->OO:=rawIter (fun w v=>b0 w (q0 a1) a1 v) k
theorem s0_eq (k:Nat) (a1:Arg):s0 k a1=r0 k a1:=
 funext fun v402=>iter_raw _ _ _ (T0 a1) _ (fun rec v=>by kernel_rfl) k v402
noncomputable def p (l0:(Int×Int)->OO) (a1:Arg):OO:=bif decide ((64:Int) < (a1.1.length:Int)) then (some ((2:Int),())) else l0 ((0:Int),(0:Int))
theorem raw_eq (k:Nat) (a1:Arg):@Eq OO (D.W k a1) (p (r0 k a1) a1):=
 bI (b:=p (s0 k a1) a1) (by kernel_rfl) (by rw[s0_eq])
theorem ok:Ok prog 367 D.sig:=fd_ok func367 tlOk (by kernel_rfl) (fc impl_in.ok (fn_nil _))
end impl_RunsFault
namespace impl_RecordFault
abbrev Arg:Type:=Record×Unit
abbrev Out:Type:=Int×Unit
abbrev OO:=Option Out
noncomputable def D:FD:={ fn:=f274,tl:=TL0,ps:=[(.ro,tRecord)],rs:=[(i64,(roMd i64))],gl:=[(214,impl_in.D.sig),(271,impl_isTx.D.sig),(366,impl_turns.D.sig),(367,impl_RunsFault.D.sig)] }
noncomputable def sem (a:Arg):OO:=@lift Out fun k=>D.W k a
noncomputable def p (a1:Arg):OO:=let j15:OO:=let j23:OO:=(impl_RunsFault.sem (a1.1.2.2.2.1,())).bind fun r24=>bif !decide (r24.1=(0:Int)) then (some (r24.1,())) else (impl_turns.sem (a1.1.1,())).bind fun r25=>bif r25.1 then (bif decide ((a1.1.2.2.2.1.length:Int)=(0:Int)) then (some ((1:Int),())) else bif decide (a1.1.1=(4:Int)) then (bif !decide ((a1.1.2.2.2.1.length:Int)=(1:Int)) then (some ((1:Int),())) else (a1.1.2.2.2.1[0]?).bind fun x26=>bif !decide ((x26.2.1.length:Int)=(64:Int)) then (some ((1:Int),())) else some ((0:Int),())) else some ((0:Int),())) else bif decide (a1.1.1=(4:Int)) then (bif !decide ((a1.1.2.2.2.1.length:Int)=(1:Int)) then (some ((1:Int),())) else (a1.1.2.2.2.1[0]?).bind fun x27=>bif !decide ((x27.2.1.length:Int)=(64:Int)) then (some ((1:Int),())) else some ((0:Int),())) else some ((0:Int),());bif !decide (a1.1.1=(4:Int)) then ((impl_isTx.sem (a1.1.2.1,())).bind fun r16=>bif !r16.1 then (some ((3:Int),())) else (impl_in.sem (a1.1.2.2.1,(0:Int),(11:Int),())).bind fun r17=>bif !r17.1 then (some ((3:Int),())) else j23) else (impl_in.sem (a1.1.2.2.1,(0:Int),(11:Int),())).bind fun r18=>bif !r18.1 then (some ((3:Int),())) else j23;(impl_in.sem (a1.1.1,(1:Int),(6:Int),())).bind fun r2=>bif !r2.1 then (some ((1:Int),())) else (impl_turns.sem (a1.1.1,())).bind fun r3=>bif !r3.1 then (bif !decide (a1.1.2.2.1=(0:Int)) then (some ((1:Int),())) else bif decide ((0:Int) < (a1.1.2.2.2.1.length:Int)) then (some ((1:Int),())) else bif decide (a1.1.1=(4:Int)) then (bif !decide (a1.1.2.1=(0:Int)) then (some ((1:Int),())) else j15) else j15) else bif decide (a1.1.1=(4:Int)) then (bif !decide (a1.1.2.1=(0:Int)) then (some ((1:Int),())) else j15) else j15
theorem raw_eq (k:Nat) (a1:Arg):@Eq OO (D.W k a1) (p a1):=by kernel_rfl
theorem ok:Ok prog 274 D.sig:=fd_ok func274 tlOk (by kernel_rfl) (fc impl_in.ok (fc impl_isTx.ok (fc impl_turns.ok (fc impl_RunsFault.ok (fn_nil _)))))
end impl_RecordFault
namespace slices_Delete_Buffer
open Go.Proofs
abbrev Arg:Type:=(List Buffer)×Int×(Int)×Unit
abbrev Out:Type:=(List Buffer)×Unit
noncomputable def sem (a:Arg):Option Out:=delF tBuffer a
noncomputable def sig:Sig:={ ps:=[(.eatv (ownMd (.slc tBuffer)),(.slc tBuffer)),(.ro,i64),(.ro,i64)],rs:=[((.slc tBuffer),ownMd (.slc tBuffer))],F:=sem,hol:=fun v H=>delH v.2.1 v.2.2.1 H }
def ren:Go.Shelf.Ren:=⟨fun | 45=>275 | n=>n,fun | 22=>72 | 23=>342 | 3=>3 | 4=>4 | 0=>0 | n=>n,fun n=>n⟩
theorem lay:SlLaysE0.n45 prog ren:=⟨by kernel_rfl,⟨f275.name,by decide,func275.trans (dF some (by kernel_rfl))⟩,underlying0,isAgg0,sizeOf0,zeroValue0,underlying3,isAgg3,sizeOf3,zeroValue3,underlying4,isAgg4,sizeOf4,zeroValue4,underlying72,isAgg72,sizeOf72,zeroValue72⟩
theorem ok:Ok prog 275 sig:=delete_ok (e:=tBuffer) lay (by kernel_rfl) (by decide) (by decide) ⟨f275,func275,by kernel_rfl,by kernel_rfl,by kernel_rfl⟩
end slices_Delete_Buffer
namespace slices_Clone_bytes
abbrev Arg:Type:=(List (List UInt8))×Unit
abbrev Out:Type:=(List (List UInt8))×Unit
noncomputable def D:FD:={ fn:=f368,tl:=TL0,ps:=[(.ro,(.slc (.slc u8)))],rs:=[((.slc (.slc u8)),(.slc true (roMd (.slc u8))))] }
noncomputable def sem (a:Arg):Option Out:=@lift Out fun k=>D.W k a
noncomputable def p (a1:Arg):Option Out:=nilB a1.1 (some (([]:List (List UInt8)),())) (if ([]:List (List UInt8)).length+a1.1.length<=CAP then (some (([]:List (List UInt8))++a1.1,())) else none)
theorem raw_eq (k:Nat) (a1:Arg):@Eq (Option Out) (D.W k a1) (p a1):=by kernel_rfl
theorem ok:Ok prog 368 D.sig:=fd_ok func368 tlOk (by kernel_rfl) (fn_nil _)
end slices_Clone_bytes
namespace impl_newPage
abbrev Arg:Type:=UInt8×Unit
abbrev Out:Type:=(List UInt8)×Unit
abbrev OO:=Option Out
noncomputable def D:FD:={ fn:=f369,tl:=TL0,ps:=[(.ro,u8)],rs:=[((.slc u8),(ownMd (.slc u8)))],lv:=[(3,[0,3,7,8])],lx:=[(0,[3])] }
noncomputable def sem (a:Arg):OO:=@lift Out fun k=>D.W k a
noncomputable def T0 (a1:Arg) (v402:(List UInt8)×Int):St:={ n:=21,sl:=[(0,.val u8 a1.1),(3,.own (.slc u8) (ownMd (.slc u8)) [] v402.1),(7,.val i64 ((List.replicate 64 (0:UInt8)).length:Int)),(8,.val i64 v402.2)],vr:=[],lent:=[] }
noncomputable def b0 (self:((List UInt8)×Int)->OO) (e0:(List UInt8)->OO) (a1:Arg) (v402:(List UInt8)×Int):OO:=bif decide (v402.2 < ((List.replicate 64 (0:UInt8)).length:Int)) then (if 0<=v402.2/\v402.2 < (v402.1.length:Int) then ((v402.1[v402.2.toNat]?).bind fun x603=>self (v402.1.set v402.2.toNat a1.1,w64 (v402.2+(1:Int)))) else none) else e0 v402.1
noncomputable def q0 (a1:Arg) (z604:(List UInt8)):OO:=if 0<=(0:Int)/\(0:Int) < (z604.length:Int) then ((z604[0]?).bind fun x605=>if 0<=(1:Int)/\(1:Int) < ((z604.set 0 (0:UInt8)).length:Int) then (((z604.set 0 (0:UInt8))[1]?).bind fun x606=>let y607:=(z604.set 0 (0:UInt8)).set 1 (64:UInt8);some (y607,())) else none) else none
noncomputable def s0 (k:Nat) (a1:Arg):((List UInt8)×Int)->OO:=fun v402=>D.L k [1,1,0,1,0,0] [0,3,7,8] [] (blockC 0 (seqC (D.N k [1,1,1]) D.K0)) (T0 a1 v402)
noncomputable def r0 (k:Nat) (a1:Arg):((List UInt8)×Int)->OO:=rawIter (fun w v=>b0 w (q0 a1) a1 v) k
theorem s0_eq (k:Nat) (a1:Arg):s0 k a1=r0 k a1:=
 funext fun v402=>iter_raw _ _ _ (T0 a1) _ (fun rec v=>by kernel_rfl) k v402
noncomputable def p (l0:((List UInt8)×Int)->OO) (a1:Arg):OO:=if 0<=(64:Int)/\(64:Int)<=(64:Int)/\(64:Int)<=(CAP:Int) then (l0 (List.replicate 64 (0:UInt8),(0:Int))) else none
theorem raw_eq (k:Nat) (a1:Arg):@Eq OO (D.W k a1) (p (r0 k a1) a1):=
 bI (b:=p (s0 k a1) a1) (by kernel_rfl) (by rw[s0_eq])
theorem ok:Ok prog 369 D.sig:=fd_ok func369 tlOk (by kernel_rfl) (fn_nil _)
end impl_newPage
namespace impl_applied
abbrev Arg:Type:=(List UInt8)×(List Run)×Unit
abbrev Out:Type:=(List UInt8)×Unit
abbrev OO:=Option Out
noncomputable def D:FD:={ fn:=f370,tl:=TL0,ps:=[(.ro,(.slc u8)),(.ro,(.slc tRun))],rs:=[((.slc u8),(ownMd (.slc u8)))],gl:=[(215,impl_copied.D.sig)],lv:=[(3,[5,10,11,12])],lx:=[(0,[5])],od:=[(5,[0,1,2,3,4,5,6])] }
noncomputable def sem (a:Arg):OO:=@lift Out fun k=>D.W k a
noncomputable def T0 (a1:Arg) (v403:(List UInt8)×Int):St:={ n:=25,sl:=[(5,.own (.slc u8) (ownMd (.slc u8)) [] v403.1),(10,.val (.slc tRun) a1.2.1),(11,.val i64 (a1.2.1.length:Int)),(12,.val i64 v403.2)],vr:=[],lent:=[] }
noncomputable def b0 (self:((List UInt8)×Int)->OO) (e0:(List UInt8)->OO) (a1:Arg) (v403:(List UInt8)×Int):OO:=bif decide (v403.2 < (a1.2.1.length:Int)) then (if 0<=v403.2 then ((a1.2.1[v403.2.toNat]?).bind fun x604=>if 0<=x604.1/\x604.1<=(v403.1.length:Int) then (let y605:=over v403.1 x604.1.toNat (min x604.2.1.length (v403.1.length - x604.1.toNat)) x604.2.1;self (y605,w64 (v403.2+(1:Int)))) else none) else none) else e0 v403.1
noncomputable def q0 (a1:Arg) (z606:(List UInt8)):OO:=some (z606,())
noncomputable def s0 (k:Nat) (a1:Arg):((List UInt8)×Int)->OO:=fun v403=>D.L k [1,1,0,1,0,0] [5,10,11,12] [] (blockC 0 (seqC (D.N k [1,1,1]) D.K0)) (T0 a1 v403)
noncomputable def r0 (k:Nat) (a1:Arg):((List UInt8)×Int)->OO:=rawIter (fun w v=>b0 w (q0 a1) a1 v) k
theorem s0_eq (k:Nat) (a1:Arg):s0 k a1=r0 k a1:=
 funext fun v403=>iter_raw _ _ _ (T0 a1) _ (fun rec v=>by kernel_rfl) k v403
noncomputable def p (l0:((List UInt8)×Int)->OO) (a1:Arg):OO:=(impl_copied.sem (a1.1,())).bind fun r2=>l0 (r2.1,(0:Int))
theorem raw_eq (k:Nat) (a1:Arg):@Eq OO (D.W k a1) (p (r0 k a1) a1):=
 bI (b:=p (s0 k a1) a1) (by kernel_rfl) (by rw[s0_eq])
theorem ok:Ok prog 370 D.sig:=fd_ok func370 tlOk (by kernel_rfl) (fc impl_copied.ok (fn_nil _))
end impl_applied
namespace impl_recorded
abbrev Arg:Type:=(List (List UInt8))×Record×Unit
abbrev Out:Type:=(List (List UInt8))×Int×Unit
noncomputable def D:FD:={ fn:=f276,tl:=TL0,ps:=[(.ro,(.slc (.slc u8))),(.ro,tRecord)],rs:=[((.slc (.slc u8)),(roMd (.slc (.slc u8)))),(i64,(roMd i64))],gl:=[(366,impl_turns.D.sig),(368,slices_Clone_bytes.D.sig),(369,impl_newPage.D.sig),(370,impl_applied.D.sig)],od:=[(10,[0,1,2,3,4,5,6,7,8,9,10,11,12])] }
noncomputable def sem (a:Arg):Option Out:=@lift Out fun k=>D.W k a
noncomputable def p (a1:Arg):Option Out:=(impl_turns.sem (a1.2.1.1,())).bind fun r2=>bif !r2.1 then (some (a1.1,(0:Int),())) else bif decide ((a1.1.length:Int) < a1.2.1.2.2.1) then (some (([]:List (List UInt8)),(1:Int),())) else bif decide (a1.2.1.2.2.1=(12:Int)) then (some (([]:List (List UInt8)),(2:Int),())) else (slices_Clone_bytes.sem (a1.1,())).bind fun r3=>let j10:=fun (p9:List (List UInt8))=>(if 0<=a1.2.1.2.2.1/\a1.2.1.2.2.1 < (p9.length:Int) then ((p9[a1.2.1.2.2.1.toNat]?).bind fun x11=>(impl_applied.sem (x11,a1.2.1.2.2.2.1,())).bind fun r12=>if 0<=a1.2.1.2.2.1/\a1.2.1.2.2.1 < (p9.length:Int) then ((p9[a1.2.1.2.2.1.toNat]?).bind fun x13=>some (p9.set a1.2.1.2.2.1.toNat r12.1,(0:Int),())) else none) else none:Option Out);bif decide (a1.2.1.2.2.1=(a1.1.length:Int)) then ((impl_newPage.sem ((0:UInt8),())).bind fun r4=>if r3.1.length+[r4.1].length<=CAP then (j10 (r3.1++[r4.1])) else none) else j10 r3.1
theorem raw_eq (k:Nat) (a1:Arg):@Eq (Option Out) (D.W k a1) (p a1):=by kernel_rfl
theorem ok:Ok prog 276 D.sig:=fd_ok func276 tlOk (by kernel_rfl) (fc impl_turns.ok (fc slices_Clone_bytes.ok (fc impl_newPage.ok (fc impl_applied.ok (fn_nil _)))))
end impl_recorded
namespace impl_keyOrder
abbrev Arg:Type:=Change×Row×Unit
abbrev Out:Type:=Int×Unit
noncomputable def D:FD:={ fn:=f372,tl:=TL0,ps:=[(.ro,tChange),(.ro,tRow)],rs:=[(i64,(roMd i64))],gl:=[(198,impl_Change_key.D.sig),(312,impl_order.D.sig)],od:=[(1,[0,2,1,3,4])] }
noncomputable def sem (a:Arg):Option Out:=@lift Out fun k=>D.W k a
noncomputable def p (a1:Arg):Option Out:=(impl_Change_key.sem (a1.1,())).bind fun r2=>(impl_order.sem (r2.1,a1.2.1,())).bind fun r3=>some (r3.1,())
theorem raw_eq (k:Nat) (a1:Arg):@Eq (Option Out) (D.W k a1) (p a1):=by kernel_rfl
theorem ok:Ok prog 372 D.sig:=fd_ok func372 tlOk (by kernel_rfl) (fc impl_Change_key.ok (fc impl_order.ok (fn_nil _)))
end impl_keyOrder
namespace slices_BinarySearchFunc_Change
abbrev Arg:Type:=(List Change)×Row×(Nat×Int)×Unit
abbrev Out:Type:=Int×Bool×Unit
abbrev OO:=Option Out
noncomputable def D:FD:={ fn:=f371,tl:=TL0,ps:=[(.ro,(.slc tChange)),(.ro,tRow),(.fix 372,.fn)],rs:=[(i64,(roMd i64)),(.bool,(roMd .bool))],gl:=[(372,impl_keyOrder.D.sig)],lv:=[(3,[0,2,4,8,9,10])],lx:=[(0,[0,2,4,8,9])],od:=[(5,[0,1,2,3,4,5,6,7]),(8,[0,1,2,3,4,5,6,7,8,9,10,11,12,13,14,15])] }
noncomputable def sem (a:Arg):OO:=@lift Out fun k=>D.W k a
noncomputable def T0 (a1:Arg) (v402:Int×Int):St:={ n:=49,sl:=[(0,.val (.slc tChange) a1.1),(2,.val .fn ((372,a1.2.2.1.2):Nat×Int)),(4,.box tRow (roMd tRow) [] a1.2.1),(8,.val i64 (a1.1.length:Int)),(9,.val i64 v402.1),(10,.val i64 v402.2)],vr:=[],lent:=[] }
noncomputable def b0 (self:(Int×Int)->OO) (e0:Int->OO) (a1:Arg) (v402:Int×Int):OO:=bif decide (v402.1 < v402.2) then (if 0<=w64 ((IntKind.wrap .u64 (w64 (v402.1+v402.2))).fdiv (2 ^ 1)) then ((a1.1[(w64 ((IntKind.wrap .u64 (w64 (v402.1+v402.2))).fdiv (2 ^ 1))).toNat]?).bind fun x603=>(impl_keyOrder.sem (x603,a1.2.1,())).bind fun r604=>bif decide (r604.1 < (0:Int)) then (self (w64 ((w64 ((IntKind.wrap .u64 (w64 (v402.1+v402.2))).fdiv (2 ^ 1)))+(1:Int)),v402.2)) else self (v402.1,w64 ((IntKind.wrap .u64 (w64 (v402.1+v402.2))).fdiv (2 ^ 1)))) else none) else e0 v402.1
noncomputable def q0 (a1:Arg) (z605:Int):OO:=bif decide (z605 < (a1.1.length:Int)) then (if 0<=z605 then ((a1.1[z605.toNat]?).bind fun x606=>(impl_keyOrder.sem (x606,a1.2.1,())).bind fun r607=>some (z605,decide (r607.1=(0:Int)),())) else none) else some (z605,false,())
noncomputable def s0 (k:Nat) (a1:Arg):(Int×Int)->OO:=fun v402=>D.L k [1,1,1,0,0,0] [0,2,4,8,9,10] [] (blockC 0 (seqC (D.N k [1,1,1,1]) D.K0)) (T0 a1 v402)
noncomputable def r0 (k:Nat) (a1:Arg):(Int×Int)->OO:=rawIter (fun w v=>b0 w (q0 a1) a1 v) k
theorem s0_eq (k:Nat) (a1:Arg):s0 k a1=r0 k a1:=
 funext fun v402=>iter_raw _ _ _ (T0 a1) _ (fun rec v=>by kernel_rfl) k v402
noncomputable def p (l0:(Int×Int)->OO) (a1:Arg):OO:=l0 ((0:Int),(a1.1.length:Int))
theorem raw_eq (k:Nat) (a1:Arg):@Eq OO (D.W k a1) (p (r0 k a1) a1):=
 bI (b:=p (s0 k a1) a1) (by kernel_rfl) (by rw[s0_eq])
theorem ok:Ok prog 371 D.sig:=fd_ok func371 tlOk (by kernel_rfl) (fc impl_keyOrder.ok (fn_nil _))
end slices_BinarySearchFunc_Change
namespace slices_Insert_Change
open Go.Proofs
abbrev Arg:Type:=(List Change)×Int×(List Change)×Unit
abbrev Out:Type:=(List Change)×Unit
noncomputable def sem (a:Arg):Option Out:=insF tChange a
noncomputable def sig:Sig:={ ps:=[(.eatv (ownMd (.slc tChange)),(.slc tChange)),(.ro,i64),(.ro,(.slc tChange))],rs:=[((.slc tChange),ownMd (.slc tChange))],F:=sem }
def ren:Go.Shelf.Ren:=⟨fun | 22=>373 | 29=>428 | 30=>429 | n=>n,fun | 24=>71 | 9=>145 | 3=>3 | 4=>4 | n=>n,fun n=>n⟩
theorem lay:InsLay prog ren tChange:=⟨by kernel_rfl,⟨f373.name,by decide,func373.trans (dF some (by kernel_rfl))⟩,⟨f428,func428,by kernel_rfl,by kernel_rfl,by kernel_rfl,by kernel_rfl⟩,by kernel_rfl,by kernel_rfl,by kernel_rfl,underlying71,by kernel_rfl,by kernel_rfl,by kernel_rfl,by kernel_rfl⟩
theorem ok:Ok prog 373 sig:=insert_ok lay (by decide) (by decide) (by decide) ⟨f373,func373,by kernel_rfl,by kernel_rfl,by kernel_rfl⟩
end slices_Insert_Change
namespace slices_Delete_Change
open Go.Proofs
abbrev Arg:Type:=(List Change)×Int×(Int)×Unit
abbrev Out:Type:=(List Change)×Unit
noncomputable def sem (a:Arg):Option Out:=delF tChange a
noncomputable def sig:Sig:={ ps:=[(.eatv (ownMd (.slc tChange)),(.slc tChange)),(.ro,i64),(.ro,i64)],rs:=[((.slc tChange),ownMd (.slc tChange))],F:=sem,hol:=fun v H=>delH v.2.1 v.2.2.1 H }
def ren:Go.Shelf.Ren:=⟨fun | 45=>374 | n=>n,fun | 22=>71 | 23=>145 | 3=>3 | 4=>4 | 0=>0 | n=>n,fun n=>n⟩
theorem lay:SlLaysE0.n45 prog ren:=⟨by kernel_rfl,⟨f374.name,by decide,func374.trans (dF some (by kernel_rfl))⟩,underlying0,isAgg0,sizeOf0,zeroValue0,underlying3,isAgg3,sizeOf3,zeroValue3,underlying4,isAgg4,sizeOf4,zeroValue4,underlying71,isAgg71,sizeOf71,zeroValue71⟩
theorem ok:Ok prog 374 sig:=delete_ok (e:=tChange) lay (by kernel_rfl) (by decide) (by decide) ⟨f374,func374,by kernel_rfl,by kernel_rfl,by kernel_rfl⟩
end slices_Delete_Change
namespace impl_FoldChange
abbrev Arg:Type:=(List Change)×Change×Unit
abbrev Out:Type:=Buffer×Unit
abbrev OO:=Option Out
noncomputable def D:FD:={ fn:=f277,tl:=TL0,ps:=[(.ro,(.slc tChange)),(.ro,tChange)],rs:=[(tBuffer,(ownMd tBuffer))],gl:=[(198,impl_Change_key.D.sig),(246,impl_singleFault.D.sig),(272,impl_foldedFault.D.sig),(353,slices_Clone_Change.D.sig),(371,slices_BinarySearchFunc_Change.D.sig),(373,slices_Insert_Change.sig),(374,slices_Delete_Change.sig)],od:=[(14,[0,1,2,3,4,5,6,7])],ar:=[(14,[1,3])],bx:=[(14,[3])] }
noncomputable def sem (a:Arg):OO:=@lift Out fun k=>D.W k a
noncomputable def p (a1:Arg):OO:=(impl_foldedFault.sem (a1.1,())).bind fun r2=>bif !decide (r2.1=(0:Int)) then (some ((r2.1,([]:List Change),()),())) else (impl_singleFault.sem (a1.2.1,())).bind fun r3=>bif !decide (r3.1=(0:Int)) then (some ((r3.1,([]:List Change),()),())) else (impl_Change_key.sem (a1.2.1,())).bind fun r4=>(slices_BinarySearchFunc_Change.sem (a1.1,r4.1,((372,0):Nat×Int),())).bind fun r5=>(slices_Clone_Change.sem (a1.1,())).bind fun r6=>bif !r5.2.1 then ((slices_Insert_Change.sem (r6.1,r5.1,[a1.2.1],())).bind fun r7=>some (((0:Int),r7.1,()),())) else if 0<=r5.1/\r5.1 < (r6.1.length:Int) then ((r6.1[r5.1.toNat]?).bind fun x8=>let j24:OO:=let j30:OO:=if 0<=r5.1/\r5.1 < (r6.1.length:Int) then ((r6.1[r5.1.toNat]?).bind fun x31=>let y32:=r6.1.set r5.1.toNat (x8.1,x8.2.1,a1.2.1.2.2.1,a1.2.1.2.2.2.1,x8.2.2.2.2);some (((0:Int),y32,()),())) else none;bif !x8.1 then (bif !a1.2.1.2.2.1 then ((slices_Delete_Change.sem (r6.1,r5.1,w64 (r5.1+(1:Int)),())).bind fun r25=>some (((0:Int),r25.1,()),())) else bif x8.1 then (bif a1.2.1.2.2.1 then (bif (Ty.eq tRow x8.2.1 a1.2.1.2.2.2.1) then ((slices_Delete_Change.sem (r6.1,r5.1,w64 (r5.1+(1:Int)),())).bind fun r26=>some (((0:Int),r26.1,()),())) else j30) else j30) else j30) else bif x8.1 then (bif a1.2.1.2.2.1 then (bif (Ty.eq tRow x8.2.1 a1.2.1.2.2.2.1) then ((slices_Delete_Change.sem (r6.1,r5.1,w64 (r5.1+(1:Int)),())).bind fun r27=>some (((0:Int),r27.1,()),())) else j30) else j30) else j30;bif !(a1.2.1.1 == x8.2.2.1) then (some (((8:Int),([]:List Change),()),())) else bif a1.2.1.1 then (bif !(Ty.eq tRow a1.2.1.2.1 x8.2.2.2.1) then (some (((8:Int),([]:List Change),()),())) else j24) else j24) else none
theorem raw_eq (k:Nat) (a1:Arg):@Eq OO (D.W k a1) (p a1):=by kernel_rfl
theorem ok:Ok prog 277 D.sig:=fd_ok func277 tlOk (by kernel_rfl) (fc impl_Change_key.ok (fc impl_singleFault.ok (fc impl_foldedFault.ok (fc slices_Clone_Change.ok (fc slices_BinarySearchFunc_Change.ok (fc slices_Insert_Change.ok (fc slices_Delete_Change.ok (fn_nil _))))))))
end impl_FoldChange
namespace impl_Miner_step
abbrev Arg:Type:=Miner×Record×Unit
abbrev Out:Type:=MinerResult×Unit
abbrev OO:=Option Out
noncomputable def D:FD:={ fn:=f138,tl:=TL0,ps:=[(.ro,tMiner),(.ro,tRecord)],rs:=[(tMinerResult,(ownMd tMinerResult))],gl:=[(153,impl_Miner_own.D.sig),(192,impl_view.D.sig),(195,impl_plain.D.sig),(208,impl_between.D.sig),(213,impl_copies.D.sig),(273,impl_Miner_open.D.sig),(274,impl_RecordFault.D.sig),(275,slices_Delete_Buffer.sig),(276,impl_recorded.D.sig),(277,impl_FoldChange.D.sig)],lv:=[(37,[4,6,7,15,131,132,133])],lx:=[(1,[4,7])],od:=[(39,[0,1,2,3,4,5,6,7,8,9])],ar:=[(39,[6])],bx:=[(39,[17])],pd:=[(39,[8])],er:=[(39,[(1,10),(5,10)])] }
noncomputable def sem (a:Arg):OO:=@lift Out fun k=>D.W k a
noncomputable def T0 (a1:Arg) (c2256:Int) (c2257:List Change) (c2258:Int) (v2255:Miner×Int):St:={ n:=161,sl:=[(4,.box tMinerResult (ownMd tMinerResult) [] ((0:Int),false,false,(0:Int),([]:List Change),(([]:List (List UInt8)),([]:List Buffer),()),())),(6,.val i64 c2256),(7,.box tMiner (ownMd tMiner) [] v2255.1),(15,.own (.slc tChange) (ownMd (.slc tChange)) [] c2257),(131,.ref 15 [] [0,0]),(132,.val i64 c2258),(133,.val i64 v2255.2)],vr:=[],lent:=[] }
noncomputable def b0 (self:(Miner×Int)->OO) (e1:Miner->OO) (a1:Arg) (c2256:Int) (c2257:List Change) (c2258:Int) (v2255:Miner×Int):OO:=bif decide (v2255.2 < c2258) then (if 0<=v2255.2/\v2255.2 < (c2257.length:Int) then ((c2257[v2255.2.toNat]?).bind fun x2459=>if 0<=c2256/\c2256 < (v2255.1.2.1.length:Int) then ((v2255.1.2.1[c2256.toNat]?).bind fun x2460=>bif (pathB [.snd,.fst,.idx c2256.toNat,.snd,.fst] [.snd,.fst,.idx c2256.toNat,.snd,.fst]&&true) then ((v2255.1.2.1[c2256.toNat]?).bind fun x2461=>(impl_FoldChange.sem (x2461.2.1,x2459,())).bind fun r2462=>bif (pathB [.snd,.fst,.idx c2256.toNat,.snd,.fst] [.snd,.fst,.idx c2256.toNat,.snd,.fst]&&true) then (bif (pathB [.snd,.fst,.idx c2256.toNat,.snd,.fst] [.snd,.fst,.idx c2256.toNat,.snd,.fst]&&true) then (bif !decide (r2462.1.1=(0:Int)) then (some ((r2462.1.1,false,false,(0:Int),([]:List Change),(([]:List (List UInt8)),([]:List Buffer),()),()),())) else if 0<=c2256/\c2256 < (v2255.1.2.1.length:Int) then ((v2255.1.2.1[c2256.toNat]?).bind fun x2463=>let y2464:=v2255.1.2.1.set c2256.toNat (x2463.1,r2462.1.2.1,x2463.2.2);self ((v2255.1.1,y2464,v2255.1.2.2),w64 (v2255.2+(1:Int)))) else none) else none) else none) else none) else none) else none) else e1 v2255.1
noncomputable def q0 (a1:Arg) (c2256:Int) (c2257:List Change) (c2258:Int) (z2465:Miner):OO:=some (((0:Int),false,false,(0:Int),([]:List Change),z2465,()),())
noncomputable def s0 (k:Nat) (a1:Arg):Int->(List Change)->Int->(Miner×Int)->OO:=fun c2256 c2257 c2258=>fun v2255=>D.L k [1,1,1,1,1,1,1,1,1,1,1,1,1,1,0,1,0,0] [4,6,7,15,131,132,133] [] (blockC 1 (seqC (D.N k [1,1,1,1,1,1,1,1,1,1,1,1,1,1,1]) D.K0)) (T0 a1 c2256 c2257 c2258 v2255)
noncomputable def r0 (k:Nat) (a1:Arg):Int->(List Change)->Int->(Miner×Int)->OO:=fun c2256 c2257 c2258=>rawIter (fun w v=>b0 w (q0 a1 c2256 c2257 c2258) a1 c2256 c2257 c2258 v) k
theorem s0_eq (k:Nat) (a1:Arg):s0 k a1=r0 k a1:=
 funext fun c2256=>funext fun c2257=>funext fun c2258=>funext fun v2255=>iter_raw _ _ _ (T0 a1 c2256 c2257 c2258) _ (fun rec v=>by kernel_rfl) k v2255
noncomputable def p (l0:Int->(List Change)->Int->(Miner×Int)->OO) (a1:Arg):OO:=(impl_RecordFault.sem (a1.2.1,())).bind fun r2=>bif !decide (r2.1=(0:Int)) then (some ((r2.1,false,false,(0:Int),([]:List Change),(([]:List (List UInt8)),([]:List Buffer),()),()),())) else (impl_Miner_open.sem (a1.1,a1.2.1.2.1,())).bind fun r3=>(impl_Miner_own.sem (a1.1,())).bind fun r4=>let j1236:OO:=(impl_recorded.sem (r4.1.1,a1.2.1,())).bind fun r1237=>bif !decide (r1237.2.1=(0:Int)) then (some ((r1237.2.1,false,false,(0:Int),([]:List Change),(([]:List (List UInt8)),([]:List Buffer),()),()),())) else (impl_view.sem (r1237.1,())).bind fun r1238=>bif !decide (r1238.2.1=(0:Int)) then (some ((r1238.2.1,false,false,(0:Int),([]:List Change),(([]:List (List UInt8)),([]:List Buffer),()),()),())) else let j1849:OO:=(impl_view.sem (a1.1.1,())).bind fun r1850=>(impl_plain.sem (r1850.1,())).bind fun r1851=>(impl_plain.sem (r1238.1,())).bind fun r1852=>(impl_between.sem (r1851.1,r1852.1,())).bind fun r1853=>(impl_copies.sem (r1237.1,())).bind fun r1854=>bif decide (a1.2.1.1=(4:Int)) then (bif decide ((0:Int) < (r1853.1.length:Int)) then (some (((8:Int),false,false,(0:Int),([]:List Change),(([]:List (List UInt8)),([]:List Buffer),()),()),())) else some (((0:Int),false,false,(0:Int),([]:List Change),(r1854.1,r4.1.2),()),())) else l0 r3.1 r1853.1 (r1853.1.length:Int) ((r1854.1,r4.1.2),(0:Int));bif !decide (a1.2.1.1=(4:Int)) then (bif decide (r3.1 < (0:Int)) then (some (((4:Int),false,false,(0:Int),([]:List Change),(([]:List (List UInt8)),([]:List Buffer),()),()),())) else j1849) else j1849;bif decide (a1.2.1.1=(1:Int)) then (bif decide ((0:Int)<=r3.1) then (some (((6:Int),false,false,(0:Int),([]:List Change),(([]:List (List UInt8)),([]:List Buffer),()),()),())) else bif decide ((8:Int)<=(a1.1.2.1.length:Int)) then (some (((2:Int),false,false,(0:Int),([]:List Change),(([]:List (List UInt8)),([]:List Buffer),()),()),())) else if r4.1.2.1.length+[(a1.2.1.2.1,([]:List Change),())].length<=CAP then (let y5:=r4.1.2.1++[(a1.2.1.2.1,([]:List Change),())];some (((0:Int),false,false,(0:Int),([]:List Change),(r4.1.1,y5,r4.1.2.2),()),())) else none) else bif decide (a1.2.1.1=(5:Int)) then (bif decide (a1.2.1.1=(5:Int)) then (bif decide (r3.1 < (0:Int)) then (some (((4:Int),false,false,(0:Int),([]:List Change),(([]:List (List UInt8)),([]:List Buffer),()),()),())) else if 0<=r3.1/\r3.1 < (r4.1.2.1.length:Int) then ((r4.1.2.1[r3.1.toNat]?).bind fun x6=>(r4.1.2.1[r3.1.toNat]?).bind fun x7=>(r4.1.2.1[r3.1.toNat]?).bind fun x8=>bif delIn r3.1 (w64 (r3.1+(1:Int))) r3.1.toNat then ((slices_Delete_Buffer.sem (r4.1.2.1.set r3.1.toNat x8,r3.1,w64 (r3.1+(1:Int)),())).bind fun r9=>some (((0:Int),true,decide (a1.2.1.1=(5:Int)),x7.1,x7.2.1,(r4.1.1,r9.1,r4.1.2.2),()),())) else none) else none) else j1236) else bif decide (a1.2.1.1=(6:Int)) then (bif decide (r3.1 < (0:Int)) then (some (((4:Int),false,false,(0:Int),([]:List Change),(([]:List (List UInt8)),([]:List Buffer),()),()),())) else if 0<=r3.1/\r3.1 < (r4.1.2.1.length:Int) then ((r4.1.2.1[r3.1.toNat]?).bind fun x10=>(r4.1.2.1[r3.1.toNat]?).bind fun x11=>(r4.1.2.1[r3.1.toNat]?).bind fun x12=>bif delIn r3.1 (w64 (r3.1+(1:Int))) r3.1.toNat then ((slices_Delete_Buffer.sem (r4.1.2.1.set r3.1.toNat x12,r3.1,w64 (r3.1+(1:Int)),())).bind fun r13=>some (((0:Int),true,decide (a1.2.1.1=(5:Int)),x11.1,x11.2.1,(r4.1.1,r13.1,r4.1.2.2),()),())) else none) else none) else j1236
theorem raw_eq (k:Nat) (a1:Arg):@Eq OO (D.W k a1) (p (r0 k a1) a1):=
 bI (b:=p (s0 k a1) a1) (by kernel_rfl) (by rw[s0_eq])
theorem ok:Ok prog 138 D.sig:=fd_ok func138 tlOk (by kernel_rfl) (fc impl_Miner_own.ok (fc impl_view.ok (fc impl_plain.ok (fc impl_between.ok (fc impl_copies.ok (fc impl_Miner_open.ok (fc impl_RecordFault.ok (fc slices_Delete_Buffer.ok (fc impl_recorded.ok (fc impl_FoldChange.ok (fn_nil _)))))))))))
end impl_Miner_step
namespace laws_eqByteS
abbrev Arg:Type:=(List UInt8)×(List UInt8)×Unit
abbrev Out:Type:=Bool×Unit
abbrev OO:=Option Out
noncomputable def D:FD:={ fn:=f66,tl:=TL0,ps:=[(.ro,(.slc u8)),(.ro,(.slc u8))],rs:=[(.bool,(roMd .bool))],lv:=[(4,[0,1,5])],lx:=[(0,[])],od:=[(6,[0,1,2,3,4,5,6,7,8])] }
noncomputable def sem (a:Arg):OO:=@lift Out fun k=>D.W k a
noncomputable def T0 (a1:Arg) (v402:Int):St:={ n:=26,sl:=[(0,.val (.slc u8) a1.1),(1,.val (.slc u8) a1.2.1),(5,.val i64 v402)],vr:=[],lent:=[] }
noncomputable def b0 (self:Int->OO) (e0:(Unit)->OO) (a1:Arg) (v402:Int):OO:=bif decide (v402 < (a1.1.length:Int)) then (if 0<=v402 then ((a1.1[v402.toNat]?).bind fun x603=>if 0<=v402 then ((a1.2.1[v402.toNat]?).bind fun x604=>bif !decide ((x603.toNat:Int)=(x604.toNat:Int)) then (some (false,())) else self (w64 (v402+(1:Int)))) else none) else none) else e0 ()
noncomputable def q0 (a1:Arg) (z605:(Unit)):OO:=some (true,())
noncomputable def s0 (k:Nat) (a1:Arg):(Int)->OO:=fun v402=>D.L k [1,1,0,1,0,0] [0,1,5] [] (blockC 0 (seqC (D.N k [1,1,1]) D.K0)) (T0 a1 v402)
noncomputable def r0 (k:Nat) (a1:Arg):(Int)->OO:=rawIter (fun w v=>b0 w (q0 a1) a1 v) k
theorem s0_eq (k:Nat) (a1:Arg):s0 k a1=r0 k a1:=
 funext fun v402=>iter_raw _ _ _ (T0 a1) _ (fun rec v=>by kernel_rfl) k v402
noncomputable def p (l0:(Int)->OO) (a1:Arg):OO:=bif !decide ((a1.1.length:Int)=(a1.2.1.length:Int)) then (some (false,())) else l0 (0:Int)
theorem raw_eq (k:Nat) (a1:Arg):@Eq OO (D.W k a1) (p (r0 k a1) a1):=
 bI (b:=p (s0 k a1) a1) (by kernel_rfl) (by rw[s0_eq])
theorem ok:Ok prog 66 D.sig:=fd_ok func66 tlOk (by kernel_rfl) (fn_nil _)
end laws_eqByteS
namespace laws_eqByteSS
abbrev Arg:Type:=(List (List UInt8))×(List (List UInt8))×Unit
abbrev Out:Type:=Bool×Unit
abbrev OO:=Option Out
noncomputable def D:FD:={ fn:=f140,tl:=TL0,ps:=[(.ro,(.slc (.slc u8))),(.ro,(.slc (.slc u8)))],rs:=[(.bool,(roMd .bool))],gl:=[(66,laws_eqByteS.D.sig)],lv:=[(4,[0,1,5])],lx:=[(0,[])],od:=[(6,[0,1,2,3,4,5,6,7,8,9])] }
noncomputable def sem (a:Arg):OO:=@lift Out fun k=>D.W k a
noncomputable def T0 (a1:Arg) (v402:Int):St:={ n:=27,sl:=[(0,.val (.slc (.slc u8)) a1.1),(1,.val (.slc (.slc u8)) a1.2.1),(5,.val i64 v402)],vr:=[],lent:=[] }
noncomputable def b0 (self:Int->OO) (e0:(Unit)->OO) (a1:Arg) (v402:Int):OO:=bif decide (v402 < (a1.1.length:Int)) then (if 0<=v402 then ((a1.1[v402.toNat]?).bind fun x603=>if 0<=v402 then ((a1.2.1[v402.toNat]?).bind fun x604=>(laws_eqByteS.sem (x603,x604,())).bind fun r605=>bif !r605.1 then (some (false,())) else self (w64 (v402+(1:Int)))) else none) else none) else e0 ()
noncomputable def q0 (a1:Arg) (z606:(Unit)):OO:=some (true,())
noncomputable def s0 (k:Nat) (a1:Arg):(Int)->OO:=fun v402=>D.L k [1,1,0,1,0,0] [0,1,5] [] (blockC 0 (seqC (D.N k [1,1,1]) D.K0)) (T0 a1 v402)
noncomputable def r0 (k:Nat) (a1:Arg):(Int)->OO:=rawIter (fun w v=>b0 w (q0 a1) a1 v) k
theorem s0_eq (k:Nat) (a1:Arg):s0 k a1=r0 k a1:=
 funext fun v402=>iter_raw _ _ _ (T0 a1) _ (fun rec v=>by kernel_rfl) k v402
noncomputable def p (l0:(Int)->OO) (a1:Arg):OO:=bif !decide ((a1.1.length:Int)=(a1.2.1.length:Int)) then (some (false,())) else l0 (0:Int)
theorem raw_eq (k:Nat) (a1:Arg):@Eq OO (D.W k a1) (p (r0 k a1) a1):=
 bI (b:=p (s0 k a1) a1) (by kernel_rfl) (by rw[s0_eq])
theorem ok:Ok prog 140 D.sig:=fd_ok func140 tlOk (by kernel_rfl) (fc laws_eqByteS.ok (fn_nil _))
end laws_eqByteSS
namespace laws_eqBuffer
abbrev Arg:Type:=Buffer×Buffer×Unit
abbrev Out:Type:=Bool×Unit
noncomputable def D:FD:={ fn:=f279,tl:=TL0,ps:=[(.ro,tBuffer),(.ro,tBuffer)],rs:=[(.bool,(roMd .bool))],gl:=[(139,laws_eqChangeS.D.sig)] }
noncomputable def sem (a:Arg):Option Out:=@lift Out fun k=>D.W k a
noncomputable def p (a1:Arg):Option Out:=bif !decide (a1.1.1=a1.2.1.1) then (some (false,())) else (laws_eqChangeS.sem (a1.1.2.1,a1.2.1.2.1,())).bind fun r2=>bif !r2.1 then (some (false,())) else some (true,())
theorem raw_eq (k:Nat) (a1:Arg):@Eq (Option Out) (D.W k a1) (p a1):=by kernel_rfl
theorem ok:Ok prog 279 D.sig:=fd_ok func279 tlOk (by kernel_rfl) (fc laws_eqChangeS.ok (fn_nil _))
end laws_eqBuffer
namespace laws_eqBufferS
abbrev Arg:Type:=(List Buffer)×(List Buffer)×Unit
abbrev Out:Type:=Bool×Unit
abbrev OO:=Option Out
noncomputable def D:FD:={ fn:=f141,tl:=TL0,ps:=[(.ro,(.slc tBuffer)),(.ro,(.slc tBuffer))],rs:=[(.bool,(roMd .bool))],gl:=[(279,laws_eqBuffer.D.sig)],lv:=[(4,[0,1,5])],lx:=[(0,[])],od:=[(6,[0,1,2,3,4,5,6,7,8,9])] }
noncomputable def sem (a:Arg):OO:=@lift Out fun k=>D.W k a
noncomputable def T0 (a1:Arg) (v402:Int):St:={ n:=27,sl:=[(0,.val (.slc tBuffer) a1.1),(1,.val (.slc tBuffer) a1.2.1),(5,.val i64 v402)],vr:=[],lent:=[] }
noncomputable def b0 (self:Int->OO) (e0:(Unit)->OO) (a1:Arg) (v402:Int):OO:=bif decide (v402 < (a1.1.length:Int)) then (if 0<=v402 then ((a1.1[v402.toNat]?).bind fun x603=>if 0<=v402 then ((a1.2.1[v402.toNat]?).bind fun x604=>(laws_eqBuffer.sem (x603,x604,())).bind fun r605=>bif !r605.1 then (some (false,())) else self (w64 (v402+(1:Int)))) else none) else none) else e0 ()
noncomputable def q0 (a1:Arg) (z606:(Unit)):OO:=some (true,())
noncomputable def s0 (k:Nat) (a1:Arg):(Int)->OO:=fun v402=>D.L k [1,1,0,1,0,0] [0,1,5] [] (blockC 0 (seqC (D.N k [1,1,1]) D.K0)) (T0 a1 v402)
noncomputable def r0 (k:Nat) (a1:Arg):(Int)->OO:=rawIter (fun w v=>b0 w (q0 a1) a1 v) k
theorem s0_eq (k:Nat) (a1:Arg):s0 k a1=r0 k a1:=
 funext fun v402=>iter_raw _ _ _ (T0 a1) _ (fun rec v=>by kernel_rfl) k v402
noncomputable def p (l0:(Int)->OO) (a1:Arg):OO:=bif !decide ((a1.1.length:Int)=(a1.2.1.length:Int)) then (some (false,())) else l0 (0:Int)
theorem raw_eq (k:Nat) (a1:Arg):@Eq OO (D.W k a1) (p (r0 k a1) a1):=
 bI (b:=p (s0 k a1) a1) (by kernel_rfl) (by rw[s0_eq])
theorem ok:Ok prog 141 D.sig:=fd_ok func141 tlOk (by kernel_rfl) (fc laws_eqBuffer.ok (fn_nil _))
end laws_eqBufferS
namespace laws_eqMiner
abbrev Arg:Type:=Miner×Miner×Unit
abbrev Out:Type:=Bool×Unit
noncomputable def D:FD:={ fn:=f42,tl:=TL0,ps:=[(.ro,tMiner),(.ro,tMiner)],rs:=[(.bool,(roMd .bool))],gl:=[(140,laws_eqByteSS.D.sig),(141,laws_eqBufferS.D.sig)] }
noncomputable def sem (a:Arg):Option Out:=@lift Out fun k=>D.W k a
noncomputable def p (a1:Arg):Option Out:=(laws_eqByteSS.sem (a1.1.1,a1.2.1.1,())).bind fun r2=>bif !r2.1 then (some (false,())) else (laws_eqBufferS.sem (a1.1.2.1,a1.2.1.2.1,())).bind fun r3=>bif !r3.1 then (some (false,())) else some (true,())
theorem raw_eq (k:Nat) (a1:Arg):@Eq (Option Out) (D.W k a1) (p a1):=by kernel_rfl
theorem ok:Ok prog 42 D.sig:=fd_ok func42 tlOk (by kernel_rfl) (fc laws_eqByteSS.ok (fc laws_eqBufferS.ok (fn_nil _)))
end laws_eqMiner
namespace laws_markByteS
abbrev Arg:Type:=(List UInt8)×Int×Unit
abbrev Out:Type:=Int×(List UInt8)×Unit
abbrev OO:=Option Out
noncomputable def D:FD:={ fn:=f68,tl:=TL0,ps:=[(.muts (ownMd (.slc u8)),(.slc u8)),(.ro,i64)],rs:=[(i64,(roMd i64))],es:=[0],lv:=[(2,[0,1,5])],lx:=[(0,[0,1])] }
noncomputable def sem (a:Arg):OO:=@lift Out fun k=>D.W k a
noncomputable def T0 (a1:Arg) (v402:(List UInt8)×Int×Int):St:={ n:=20,sl:=[(0,.own (.slc u8) (ownMd (.slc u8)) [] v402.1),(1,.val i64 v402.2.1),(5,.val i64 v402.2.2)],vr:=[],lent:=[(0,0,true)] }
noncomputable def b0 (self:((List UInt8)×Int×Int)->OO) (e0:((List UInt8)×Int)->OO) (a1:Arg) (v402:(List UInt8)×Int×Int):OO:=bif decide (v402.2.2 < (v402.1.length:Int)) then (if 0<=v402.2.2/\v402.2.2 < (v402.1.length:Int) then ((v402.1[v402.2.2.toNat]?).bind fun x603=>let y604:=v402.1.set v402.2.2.toNat (UInt8.ofInt v402.2.1);self (y604,w64 (v402.2.1+(1:Int)),w64 (v402.2.2+(1:Int)))) else none) else e0 (v402.1,v402.2.1)
noncomputable def q0 (a1:Arg) (z605:((List UInt8)×Int)):OO:=some (z605.2,z605.1,())
noncomputable def s0 (k:Nat) (a1:Arg):((List UInt8)×Int×Int)->OO:=fun v402=>D.L k [1,0,1,0,0] [0,1,5] [] (blockC 0 (seqC (D.N k [1,1]) D.K0)) (T0 a1 v402)
noncomputable def r0 (k:Nat) (a1:Arg):((List UInt8)×Int×Int)->OO:=rawIter (fun w v=>b0 w (q0 a1) a1 v) k
theorem s0_eq (k:Nat) (a1:Arg):s0 k a1=r0 k a1:=
 funext fun v402=>iter_raw _ _ _ (T0 a1) _ (fun rec v=>by kernel_rfl) k v402
noncomputable def p (l0:((List UInt8)×Int×Int)->OO) (a1:Arg):OO:=l0 (a1.1,a1.2.1,(0:Int))
theorem raw_eq (k:Nat) (a1:Arg):@Eq OO (D.W k a1) (p (r0 k a1) a1):=
 bI (b:=p (s0 k a1) a1) (by kernel_rfl) (by rw[s0_eq])
theorem ok:Ok prog 68 D.sig:=fd_ok func68 tlOk (by kernel_rfl) (fn_nil _)
end laws_markByteS
namespace laws_markByteSS
abbrev Arg:Type:=(List (List UInt8))×Int×Unit
abbrev Out:Type:=Int×(List (List UInt8))×Unit
abbrev OO:=Option Out
noncomputable def D:FD:={ fn:=f143,tl:=TL0,ps:=[(.muts (ownMd (.slc (.slc u8))),(.slc (.slc u8))),(.ro,i64)],rs:=[(i64,(roMd i64))],gl:=[(68,laws_markByteS.D.sig)],es:=[0],lv:=[(2,[0,1,5])],lx:=[(0,[0,1])] }
noncomputable def sem (a:Arg):OO:=@lift Out fun k=>D.W k a
noncomputable def T0 (a1:Arg) (v402:(List (List UInt8))×Int×Int):St:={ n:=19,sl:=[(0,.own (.slc (.slc u8)) (ownMd (.slc (.slc u8))) [] v402.1),(1,.val i64 v402.2.1),(5,.val i64 v402.2.2)],vr:=[],lent:=[(0,0,true)] }
noncomputable def b0 (self:((List (List UInt8))×Int×Int)->OO) (e0:((List (List UInt8))×Int)->OO) (a1:Arg) (v402:(List (List UInt8))×Int×Int):OO:=bif decide (v402.2.2 < (v402.1.length:Int)) then (if 0<=v402.2.2/\v402.2.2 < (v402.1.length:Int) then ((v402.1[v402.2.2.toNat]?).bind fun x603=>(v402.1[v402.2.2.toNat]?).bind fun x604=>(v402.1[v402.2.2.toNat]?).bind fun x605=>(laws_markByteS.sem (x605,v402.2.1,())).bind fun r606=>(v402.1[v402.2.2.toNat]?).bind fun x607=>self (v402.1.set v402.2.2.toNat r606.2.1,r606.1,w64 (v402.2.2+(1:Int)))) else none) else e0 (v402.1,v402.2.1)
noncomputable def q0 (a1:Arg) (z608:((List (List UInt8))×Int)):OO:=some (z608.2,z608.1,())
noncomputable def s0 (k:Nat) (a1:Arg):((List (List UInt8))×Int×Int)->OO:=fun v402=>D.L k [1,0,1,0,0] [0,1,5] [] (blockC 0 (seqC (D.N k [1,1]) D.K0)) (T0 a1 v402)
noncomputable def r0 (k:Nat) (a1:Arg):((List (List UInt8))×Int×Int)->OO:=rawIter (fun w v=>b0 w (q0 a1) a1 v) k
theorem s0_eq (k:Nat) (a1:Arg):s0 k a1=r0 k a1:=
 funext fun v402=>iter_raw _ _ _ (T0 a1) _ (fun rec v=>by kernel_rfl) k v402
noncomputable def p (l0:((List (List UInt8))×Int×Int)->OO) (a1:Arg):OO:=l0 (a1.1,a1.2.1,(0:Int))
theorem raw_eq (k:Nat) (a1:Arg):@Eq OO (D.W k a1) (p (r0 k a1) a1):=
 bI (b:=p (s0 k a1) a1) (by kernel_rfl) (by rw[s0_eq])
theorem ok:Ok prog 143 D.sig:=fd_ok func143 tlOk (by kernel_rfl) (fc laws_markByteS.ok (fn_nil _))
end laws_markByteSS
namespace laws_markBufferS
abbrev Arg:Type:=(List Buffer)×Int×Unit
abbrev Out:Type:=Int×(List Buffer)×Unit
abbrev OO:=Option Out
noncomputable def D:FD:={ fn:=f144,tl:=TL0,ps:=[(.muts (ownMd (.slc tBuffer)),(.slc tBuffer)),(.ro,i64)],rs:=[(i64,(roMd i64))],gl:=[(146,laws_markChangeS.D.sig)],es:=[0],lv:=[(2,[0,1,5])],lx:=[(0,[0,1])] }
noncomputable def sem (a:Arg):OO:=@lift Out fun k=>D.W k a
noncomputable def T0 (a1:Arg) (v402:(List Buffer)×Int×Int):St:={ n:=27,sl:=[(0,.own (.slc tBuffer) (ownMd (.slc tBuffer)) [] v402.1),(1,.val i64 v402.2.1),(5,.val i64 v402.2.2)],vr:=[],lent:=[(0,0,true)] }
noncomputable def b0 (self:((List Buffer)×Int×Int)->OO) (e0:((List Buffer)×Int)->OO) (a1:Arg) (v402:(List Buffer)×Int×Int):OO:=bif decide (v402.2.2 < (v402.1.length:Int)) then (if 0<=v402.2.2/\v402.2.2 < (v402.1.length:Int) then ((v402.1[v402.2.2.toNat]?).bind fun x603=>let y604:=v402.1.set v402.2.2.toNat (v402.2.1,x603.2);if 0<=v402.2.2/\v402.2.2 < (y604.length:Int) then ((y604[v402.2.2.toNat]?).bind fun x605=>(y604[v402.2.2.toNat]?).bind fun x606=>(y604[v402.2.2.toNat]?).bind fun x607=>(laws_markChangeS.sem (x607.2.1,w64 (v402.2.1+(1:Int)),())).bind fun r608=>(y604[v402.2.2.toNat]?).bind fun x609=>let y610:=y604.set v402.2.2.toNat (x609.1,r608.2.1,x609.2.2);self (y610,r608.1,w64 (v402.2.2+(1:Int)))) else none) else none) else e0 (v402.1,v402.2.1)
noncomputable def q0 (a1:Arg) (z611:((List Buffer)×Int)):OO:=some (z611.2,z611.1,())
noncomputable def s0 (k:Nat) (a1:Arg):((List Buffer)×Int×Int)->OO:=fun v402=>D.L k [1,0,1,0,0] [0,1,5] [] (blockC 0 (seqC (D.N k [1,1]) D.K0)) (T0 a1 v402)
noncomputable def r0 (k:Nat) (a1:Arg):((List Buffer)×Int×Int)->OO:=rawIter (fun w v=>b0 w (q0 a1) a1 v) k
theorem s0_eq (k:Nat) (a1:Arg):s0 k a1=r0 k a1:=
 funext fun v402=>iter_raw _ _ _ (T0 a1) _ (fun rec v=>by kernel_rfl) k v402
noncomputable def p (l0:((List Buffer)×Int×Int)->OO) (a1:Arg):OO:=l0 (a1.1,a1.2.1,(0:Int))
theorem raw_eq (k:Nat) (a1:Arg):@Eq OO (D.W k a1) (p (r0 k a1) a1):=
 bI (b:=p (s0 k a1) a1) (by kernel_rfl) (by rw[s0_eq])
theorem ok:Ok prog 144 D.sig:=fd_ok func144 tlOk (by kernel_rfl) (fc laws_markChangeS.ok (fn_nil _))
end laws_markBufferS
namespace laws_markMiner
abbrev Arg:Type:=Miner×Int×Unit
abbrev Out:Type:=Int×Miner×Unit
noncomputable def D:FD:={ fn:=f44,tl:=TL0,ps:=[(.muts (ownMd tMiner),tMiner),(.ro,i64)],rs:=[(i64,(roMd i64))],gl:=[(143,laws_markByteSS.D.sig),(144,laws_markBufferS.D.sig)],es:=[2] }
noncomputable def sem (a:Arg):Option Out:=@lift Out fun k=>D.W k a
noncomputable def p (a1:Arg):Option Out:=(laws_markByteSS.sem (a1.1.1,a1.2.1,())).bind fun r2=>(laws_markBufferS.sem (a1.1.2.1,r2.1,())).bind fun r3=>some (r3.1,(r2.2.1,r3.2.1,a1.1.2.2),())
theorem raw_eq (k:Nat) (a1:Arg):@Eq (Option Out) (D.W k a1) (p a1):=by kernel_rfl
theorem ok:Ok prog 44 D.sig:=fd_ok func44 tlOk (by kernel_rfl) (fc laws_markByteSS.ok (fc laws_markBufferS.ok (fn_nil _)))
end laws_markMiner
namespace laws_heldBufferS
abbrev Arg:Type:=(List Buffer)×Int×Unit
abbrev Out:Type:=Int×Unit
abbrev OO:=Option Out
noncomputable def D:FD:={ fn:=f151,tl:=TL0,ps:=[(.ro,(.slc tBuffer)),(.ro,i64)],rs:=[(i64,(roMd i64))],gl:=[(147,laws_heldChangeS.D.sig)],lv:=[(2,[0,1,5])],lx:=[(0,[1])] }
noncomputable def sem (a:Arg):OO:=@lift Out fun k=>D.W k a
noncomputable def T0 (a1:Arg) (v402:Int×Int):St:={ n:=31,sl:=[(0,.val (.slc tBuffer) a1.1),(1,.val i64 v402.1),(5,.val i64 v402.2)],vr:=[],lent:=[] }
noncomputable def b0 (self:(Int×Int)->OO) (e0:Int->OO) (a1:Arg) (v402:Int×Int):OO:=bif decide (v402.2 < (a1.1.length:Int)) then (if 0<=v402.2 then ((a1.1[v402.2.toNat]?).bind fun x603=>bif !decide (x603.1=v402.1) then (some ((-1:Int),())) else if 0<=v402.2 then ((a1.1[v402.2.toNat]?).bind fun x604=>(laws_heldChangeS.sem (x604.2.1,w64 (v402.1+(1:Int)),())).bind fun r605=>bif decide (r605.1 < (0:Int)) then (some ((-1:Int),())) else self (r605.1,w64 (v402.2+(1:Int)))) else none) else none) else e0 v402.1
noncomputable def q0 (a1:Arg) (z606:Int):OO:=some (z606,())
noncomputable def s0 (k:Nat) (a1:Arg):(Int×Int)->OO:=fun v402=>D.L k [1,0,1,0,0] [0,1,5] [] (blockC 0 (seqC (D.N k [1,1]) D.K0)) (T0 a1 v402)
noncomputable def r0 (k:Nat) (a1:Arg):(Int×Int)->OO:=rawIter (fun w v=>b0 w (q0 a1) a1 v) k
theorem s0_eq (k:Nat) (a1:Arg):s0 k a1=r0 k a1:=
 funext fun v402=>iter_raw _ _ _ (T0 a1) _ (fun rec v=>by kernel_rfl) k v402
noncomputable def p (l0:(Int×Int)->OO) (a1:Arg):OO:=l0 (a1.2.1,(0:Int))
theorem raw_eq (k:Nat) (a1:Arg):@Eq OO (D.W k a1) (p (r0 k a1) a1):=
 bI (b:=p (s0 k a1) a1) (by kernel_rfl) (by rw[s0_eq])
theorem ok:Ok prog 151 D.sig:=fd_ok func151 tlOk (by kernel_rfl) (fc laws_heldChangeS.ok (fn_nil _))
end laws_heldBufferS
namespace laws_heldByteS
abbrev Arg:Type:=(List UInt8)×Int×Unit
abbrev Out:Type:=Int×Unit
abbrev OO:=Option Out
noncomputable def D:FD:={ fn:=f375,tl:=TL0,ps:=[(.ro,(.slc u8)),(.ro,i64)],rs:=[(i64,(roMd i64))],lv:=[(2,[0,1,5])],lx:=[(0,[1])] }
noncomputable def sem (a:Arg):OO:=@lift Out fun k=>D.W k a
noncomputable def T0 (a1:Arg) (v402:Int×Int):St:={ n:=22,sl:=[(0,.val (.slc u8) a1.1),(1,.val i64 v402.1),(5,.val i64 v402.2)],vr:=[],lent:=[] }
noncomputable def b0 (self:(Int×Int)->OO) (e0:Int->OO) (a1:Arg) (v402:Int×Int):OO:=bif decide (v402.2 < (a1.1.length:Int)) then (if 0<=v402.2 then ((a1.1[v402.2.toNat]?).bind fun x603=>bif !decide ((x603.toNat:Int)=((UInt8.ofInt v402.1).toNat:Int)) then (some ((-1:Int),())) else self (w64 (v402.1+(1:Int)),w64 (v402.2+(1:Int)))) else none) else e0 v402.1
noncomputable def q0 (a1:Arg) (z604:Int):OO:=some (z604,())
noncomputable def s0 (k:Nat) (a1:Arg):(Int×Int)->OO:=fun v402=>D.L k [1,0,1,0,0] [0,1,5] [] (blockC 0 (seqC (D.N k [1,1]) D.K0)) (T0 a1 v402)
noncomputable def r0 (k:Nat) (a1:Arg):(Int×Int)->OO:=rawIter (fun w v=>b0 w (q0 a1) a1 v) k
theorem s0_eq (k:Nat) (a1:Arg):s0 k a1=r0 k a1:=
 funext fun v402=>iter_raw _ _ _ (T0 a1) _ (fun rec v=>by kernel_rfl) k v402
noncomputable def p (l0:(Int×Int)->OO) (a1:Arg):OO:=l0 (a1.2.1,(0:Int))
theorem raw_eq (k:Nat) (a1:Arg):@Eq OO (D.W k a1) (p (r0 k a1) a1):=
 bI (b:=p (s0 k a1) a1) (by kernel_rfl) (by rw[s0_eq])
theorem ok:Ok prog 375 D.sig:=fd_ok func375 tlOk (by kernel_rfl) (fn_nil _)
end laws_heldByteS
namespace laws_heldByteSS
abbrev Arg:Type:=(List (List UInt8))×Int×Unit
abbrev Out:Type:=Int×Unit
abbrev OO:=Option Out
noncomputable def D:FD:={ fn:=f281,tl:=TL0,ps:=[(.ro,(.slc (.slc u8))),(.ro,i64)],rs:=[(i64,(roMd i64))],gl:=[(375,laws_heldByteS.D.sig)],lv:=[(2,[0,1,5])],lx:=[(0,[1])] }
noncomputable def sem (a:Arg):OO:=@lift Out fun k=>D.W k a
noncomputable def T0 (a1:Arg) (v402:Int×Int):St:={ n:=21,sl:=[(0,.val (.slc (.slc u8)) a1.1),(1,.val i64 v402.1),(5,.val i64 v402.2)],vr:=[],lent:=[] }
noncomputable def b0 (self:(Int×Int)->OO) (e0:Int->OO) (a1:Arg) (v402:Int×Int):OO:=bif decide (v402.2 < (a1.1.length:Int)) then (if 0<=v402.2 then ((a1.1[v402.2.toNat]?).bind fun x603=>(laws_heldByteS.sem (x603,v402.1,())).bind fun r604=>bif decide (r604.1 < (0:Int)) then (some ((-1:Int),())) else self (r604.1,w64 (v402.2+(1:Int)))) else none) else e0 v402.1
noncomputable def q0 (a1:Arg) (z605:Int):OO:=some (z605,())
noncomputable def s0 (k:Nat) (a1:Arg):(Int×Int)->OO:=fun v402=>D.L k [1,0,1,0,0] [0,1,5] [] (blockC 0 (seqC (D.N k [1,1]) D.K0)) (T0 a1 v402)
noncomputable def r0 (k:Nat) (a1:Arg):(Int×Int)->OO:=rawIter (fun w v=>b0 w (q0 a1) a1 v) k
theorem s0_eq (k:Nat) (a1:Arg):s0 k a1=r0 k a1:=
 funext fun v402=>iter_raw _ _ _ (T0 a1) _ (fun rec v=>by kernel_rfl) k v402
noncomputable def p (l0:(Int×Int)->OO) (a1:Arg):OO:=l0 (a1.2.1,(0:Int))
theorem raw_eq (k:Nat) (a1:Arg):@Eq OO (D.W k a1) (p (r0 k a1) a1):=
 bI (b:=p (s0 k a1) a1) (by kernel_rfl) (by rw[s0_eq])
theorem ok:Ok prog 281 D.sig:=fd_ok func281 tlOk (by kernel_rfl) (fc laws_heldByteS.ok (fn_nil _))
end laws_heldByteSS
namespace laws_heldMiner
abbrev Arg:Type:=Miner×Int×Unit
abbrev Out:Type:=Int×Unit
noncomputable def D:FD:={ fn:=f148,tl:=TL0,ps:=[(.ro,tMiner),(.ro,i64)],rs:=[(i64,(roMd i64))],gl:=[(151,laws_heldBufferS.D.sig),(281,laws_heldByteSS.D.sig)] }
noncomputable def sem (a:Arg):Option Out:=@lift Out fun k=>D.W k a
noncomputable def p (a1:Arg):Option Out:=(laws_heldByteSS.sem (a1.1.1,a1.2.1,())).bind fun r2=>bif decide (r2.1 < (0:Int)) then (some ((-1:Int),())) else (laws_heldBufferS.sem (a1.1.2.1,r2.1,())).bind fun r3=>bif decide (r3.1 < (0:Int)) then (some ((-1:Int),())) else some (r3.1,())
theorem raw_eq (k:Nat) (a1:Arg):@Eq (Option Out) (D.W k a1) (p a1):=by kernel_rfl
theorem ok:Ok prog 148 D.sig:=fd_ok func148 tlOk (by kernel_rfl) (fc laws_heldBufferS.ok (fc laws_heldByteSS.ok (fn_nil _)))
end laws_heldMiner
namespace laws_szConnector
abbrev Arg:Type:=Connector×Int×Unit
abbrev Out:Type:=Int×Unit
noncomputable def D:FD:={ fn:=f59,tl:=TL0,ps:=[(.ro,tConnector),(.ro,i64)],rs:=[(i64,(roMd i64))],gl:=[(35,laws_szMiner.D.sig)] }
noncomputable def sem (a:Arg):Option Out:=@lift Out fun k=>D.W k a
noncomputable def p (a1:Arg):Option Out:=(laws_szMiner.sem (a1.1.1,a1.2.1,())).bind fun r2=>bif decide (r2.1 < (0:Int)) then (some ((-1:Int),())) else (laws_szMiner.sem (a1.1.2.2.1,r2.1,())).bind fun r3=>bif decide (r3.1 < (0:Int)) then (some ((-1:Int),())) else some (r3.1,())
theorem raw_eq (k:Nat) (a1:Arg):@Eq (Option Out) (D.W k a1) (p a1):=by kernel_rfl
theorem ok:Ok prog 59 D.sig:=fd_ok func59 tlOk (by kernel_rfl) (fc laws_szMiner.ok (fn_nil _))
end laws_szConnector
namespace spec_l14Fault
abbrev Arg:Type:=Connector×Unit
abbrev Out:Type:=Int×Unit
noncomputable def D:FD:={ fn:=f154,tl:=TL0,ps:=[(.ro,(.ptr tConnector))],rs:=[(i64,(roMd i64))],gl:=[(130,spec_l9Fault.D.sig),(218,spec_l1In.D.sig)],od:=[(7,[0,1,2,3,4,5,6,7,8,9,10,11,12,13,14,15,16,17])],ar:=[(7,[3,10,14])] }
noncomputable def sem (a:Arg):Option Out:=@lift Out fun k=>D.W k a
noncomputable def p (a1:Arg):Option Out:=(spec_l9Fault.sem (a1.1.1,())).bind fun r2=>bif !decide (r2.1=(0:Int)) then (some (r2.1,())) else (spec_l9Fault.sem (a1.1.2.2.1,())).bind fun r3=>bif !decide (r3.1=(0:Int)) then (some (r3.1,())) else (spec_l1In.sem (a1.1.2.1,(0:Int),(16000:Int),())).bind fun r4=>bif !r4.1 then (some ((3:Int),())) else (spec_l1In.sem (a1.1.2.2.2.1,(0:Int),a1.1.2.1,())).bind fun r5=>bif !r5.1 then (some ((3:Int),())) else some ((0:Int),())
theorem raw_eq (k:Nat) (a1:Arg):@Eq (Option Out) (D.W k a1) (p a1):=by kernel_rfl
theorem ok:Ok prog 154 D.sig:=fd_ok func154 tlOk (by kernel_rfl) (fc spec_l9Fault.ok (fc spec_l1In.ok (fn_nil _)))
end spec_l14Fault
namespace spec_l14Bad
abbrev Arg:Type:=Int×Unit
abbrev Out:Type:=ConnectorResult×Unit
noncomputable def D:FD:={ fn:=f155,tl:=TL0,ps:=[(.ro,i64)],rs:=[(tConnectorResult,(ownMd tConnectorResult))] }
noncomputable def sem (a:Arg):Option Out:=@lift Out fun k=>D.W k a
noncomputable def p (a1:Arg):Option Out:=some ((a1.1,false,((0:Int),(0:Int),([]:List Change),()),((([]:List (List UInt8)),([]:List Buffer),()),(0:Int),(([]:List (List UInt8)),([]:List Buffer),()),(0:Int),()),()),())
theorem raw_eq (k:Nat) (a1:Arg):@Eq (Option Out) (D.W k a1) (p a1):=by kernel_rfl
theorem ok:Ok prog 155 D.sig:=fd_ok func155 tlOk (by kernel_rfl) (fn_nil _)
end spec_l14Bad
namespace spec_l4Read
abbrev Arg:Type:=(List UInt8)×Unit
abbrev Out:Type:=Record×Unit
abbrev OO:=Option Out
noncomputable def D:FD:={ fn:=f376,tl:=TL0,ps:=[(.ro,(.slc u8))],rs:=[(tRecord,(ownMd tRecord))],gl:=[(171,spec_l2Copy.D.sig)],lv:=[(4,[0,2,3,4,5])],lx:=[(0,[2,3])],od:=[(1,[0,1,2,3,4,5,6,7,8,9,10,11,12,13,14]),(8,[0,1,2,3,4,5,6,7,8,9,10,11,12,13,14,15,16,17,18,19,20])] }
noncomputable def sem (a:Arg):OO:=@lift Out fun k=>D.W k a
noncomputable def T0 (a1:Arg) (v405:Record×Int×Int):St:={ n:=73,sl:=[(0,.val (.slc u8) a1.1),(2,.box tRecord (ownMd tRecord) [] ((0:Int),(0:Int),(0:Int),([]:List Run),())),(3,.box tRecord (ownMd tRecord) [] v405.1),(4,.val i64 v405.2.1),(5,.val i64 v405.2.2)],vr:=[],lent:=[] }
noncomputable def b0 (self:(Record×Int×Int)->OO) (e0:Record->OO) (a1:Arg) (v405:Record×Int×Int):OO:=(a1.1[4]?).bind fun x606=>bif decide (v405.2.2 < w64 (x606.toNat:Int)) then (bif decide (w64 (v405.2.1+(2:Int))<=(a1.1.length:Int)) then (if 0<=w64 (v405.2.1+(1:Int)) then ((a1.1[(w64 (v405.2.1+(1:Int))).toNat]?).bind fun x607=>bif decide ((a1.1.length:Int) < w64 ((w64 (v405.2.1+(2:Int)))+(w64 (x607.toNat:Int)))) then (e0 v405.1) else if 0<=v405.2.1 then ((a1.1[v405.2.1.toNat]?).bind fun x608=>if 0<=w64 (v405.2.1+(2:Int))/\w64 (v405.2.1+(2:Int))<=w64 ((w64 (v405.2.1+(2:Int)))+(w64 (x607.toNat:Int)))/\w64 ((w64 (v405.2.1+(2:Int)))+(w64 (x607.toNat:Int)))<=(a1.1.length:Int) then ((spec_l2Copy.sem ((a1.1.take (w64 ((w64 (v405.2.1+(2:Int)))+(w64 (x607.toNat:Int)))).toNat).drop (w64 (v405.2.1+(2:Int))).toNat,())).bind fun r609=>if v405.1.2.2.2.1.length+[(w64 (x608.toNat:Int),r609.1,())].length<=CAP then (let y610:=v405.1.2.2.2.1++[(w64 (x608.toNat:Int),r609.1,())];self ((v405.1.1,v405.1.2.1,v405.1.2.2.1,y610,v405.1.2.2.2.2),w64 ((w64 (v405.2.1+(2:Int)))+(w64 (x607.toNat:Int))),w64 (v405.2.2+(1:Int)))) else none) else none) else none) else none) else e0 v405.1) else e0 v405.1
noncomputable abbrev B0 (_:Nat):=b0
noncomputable def q0 (a1:Arg) (z611:Record):OO:=some (z611,())
noncomputable abbrev Q0 (_:Nat):=q0
noncomputable def s0 (k:Nat) (a1:Arg):(Record×Int×Int)->OO:=fun v405=>D.L k [1,1,1,0,1,0,0] [0,2,3,4,5] [] (blockC 0 (seqC (D.N k [1,1,1,1]) D.K0)) (T0 a1 v405)
noncomputable def r0 (k:Nat) (a1:Arg):(Record×Int×Int)->OO:=rawIter (fun w v=>B0 k w (Q0 k a1) a1 v) k
theorem s0_eq (k:Nat) (a1:Arg):s0 k a1=r0 k a1:=
 funext fun v405=>iter_raw _ _ _ (T0 a1) _ (fun rec v=>by kernel_rfl) k v405
noncomputable def p (l0:(Record×Int×Int)->OO) (a1:Arg):OO:=(a1.1[1]?).bind fun x2=>(a1.1[2]?).bind fun x3=>(a1.1[3]?).bind fun x4=>l0 ((w64 (x2.toNat:Int),w64 (x3.toNat:Int),w64 (x4.toNat:Int),([]:List Run),()),(5:Int),(0:Int))
theorem raw_eq (k:Nat) (a1:Arg):@Eq OO (D.W k a1) (p (r0 k a1) a1):=
 bI (b:=p (s0 k a1) a1) (by kernel_rfl) (by rw[s0_eq])
theorem ok:Ok prog 376 D.sig:=fd_ok func376 tlOk (by kernel_rfl) (fc spec_l2Copy.ok (fn_nil _))
end spec_l4Read
namespace spec_l4Sum
abbrev Arg:Type:=(List UInt8)×Unit
abbrev Out:Type:=Int×Unit
abbrev OO:=Option Out
noncomputable def D:FD:={ fn:=f430,tl:=TL0,ps:=[(.ro,(.slc u8))],rs:=[(i64,(roMd i64))],lv:=[(3,[0,3,4])],lx:=[(0,[3])] }
noncomputable def sem (a:Arg):OO:=@lift Out fun k=>D.W k a
noncomputable def T0 (a1:Arg) (v402:Int×Int):St:={ n:=21,sl:=[(0,.val (.slc u8) a1.1),(3,.val i64 v402.1),(4,.val i64 v402.2)],vr:=[],lent:=[] }
noncomputable def b0 (self:(Int×Int)->OO) (e0:Int->OO) (a1:Arg) (v402:Int×Int):OO:=bif decide (v402.2 < (a1.1.length:Int)) then (if 0<=v402.2 then ((a1.1[v402.2.toNat]?).bind fun x603=>self ((w64 ((w64 (v402.1*(31:Int)))+(w64 (x603.toNat:Int)))).tmod (65521:Int),w64 (v402.2+(1:Int)))) else none) else e0 v402.1
noncomputable def q0 (a1:Arg) (z604:Int):OO:=some (z604,())
noncomputable def s0 (k:Nat) (a1:Arg):(Int×Int)->OO:=fun v402=>D.L k [1,1,0,1,0,0] [0,3,4] [] (blockC 0 (seqC (D.N k [1,1,1]) D.K0)) (T0 a1 v402)
noncomputable def r0 (k:Nat) (a1:Arg):(Int×Int)->OO:=rawIter (fun w v=>b0 w (q0 a1) a1 v) k
theorem s0_eq (k:Nat) (a1:Arg):s0 k a1=r0 k a1:=
 funext fun v402=>iter_raw _ _ _ (T0 a1) _ (fun rec v=>by kernel_rfl) k v402
noncomputable def p (l0:(Int×Int)->OO) (a1:Arg):OO:=l0 ((1:Int),(0:Int))
theorem raw_eq (k:Nat) (a1:Arg):@Eq OO (D.W k a1) (p (r0 k a1) a1):=
 bI (b:=p (s0 k a1) a1) (by kernel_rfl) (by rw[s0_eq])
theorem ok:Ok prog 430 D.sig:=fd_ok func430 tlOk (by kernel_rfl) (fn_nil _)
end spec_l4Sum
namespace spec_l4Pack
abbrev Arg:Type:=Record×Unit
abbrev Out:Type:=(List UInt8)×Unit
abbrev OO:=Option Out
noncomputable def D:FD:={ fn:=f377,tl:=TL0,ps:=[(.ro,(.ptr tRecord))],rs:=[((.slc u8),(ownMd (.slc u8)))],gl:=[(430,spec_l4Sum.D.sig)],lv:=[(3,[0,3,4])],lx:=[(0,[3])],od:=[(1,[0,1,2,3,4,5,6,7,8,9,10,11,12,13,14,15,16,17,18,19,20,21,22]),(5,[0,1,2,3,4,5,6,7,8,9,10,11,12,13,14,15,16,17,18,19,22,23,24,25,26,27,28,29,20,21,30,31])],ar:=[(5,[4,8,9,13,17,19,25,29])] }
noncomputable def sem (a:Arg):OO:=@lift Out fun k=>D.W k a
noncomputable def T0 (a1:Arg) (v402:(List UInt8)×Int):St:={ n:=85,sl:=[(0,.cp tRecord a1.1),(3,.own (.slc u8) (ownMd (.slc u8)) [] v402.1),(4,.val i64 v402.2)],vr:=[],lent:=[] }
noncomputable def b0 (self:((List UInt8)×Int)->OO) (e0:(List UInt8)->OO) (a1:Arg) (v402:(List UInt8)×Int):OO:=bif decide (v402.2 < (a1.1.2.2.2.1.length:Int)) then (if 0<=v402.2 then ((a1.1.2.2.2.1[v402.2.toNat]?).bind fun x603=>if 0<=v402.2 then ((a1.1.2.2.2.1[v402.2.toNat]?).bind fun x604=>if 0<=v402.2 then ((a1.1.2.2.2.1[v402.2.toNat]?).bind fun x605=>if v402.1.length+[UInt8.ofInt x603.1,UInt8.ofInt (x604.2.1.length:Int)].length<=CAP then (let y606:=v402.1++[UInt8.ofInt x603.1,UInt8.ofInt (x604.2.1.length:Int)];if y606.length+x605.2.1.length<=CAP then (self (y606++x605.2.1,w64 (v402.2+(1:Int)))) else none) else none) else none) else none) else none) else e0 v402.1
noncomputable def q0 (a1:Arg) (z607:(List UInt8)):OO:=if 0<=(0:Int)/\(0:Int) < (z607.length:Int) then ((z607[0]?).bind fun x608=>let y609:=z607.set 0 (UInt8.ofInt (w64 ((z607.length:Int)+(2:Int))));(spec_l4Sum.sem (y609,())).bind fun r610=>if y609.length+[UInt8.ofInt (w64 (r610.1.tdiv (256:Int))),UInt8.ofInt (r610.1.tmod (256:Int))].length<=CAP then (let y611:=y609++[UInt8.ofInt (w64 (r610.1.tdiv (256:Int))),UInt8.ofInt (r610.1.tmod (256:Int))];some (y611,())) else none) else none
noncomputable def s0 (k:Nat) (a1:Arg):((List UInt8)×Int)->OO:=fun v402=>D.L k [1,1,0,1,0,0] [0,3,4] [] (blockC 0 (seqC (D.N k [1,1,1]) D.K0)) (T0 a1 v402)
noncomputable def r0 (k:Nat) (a1:Arg):((List UInt8)×Int)->OO:=rawIter (fun w v=>b0 w (q0 a1) a1 v) k
theorem s0_eq (k:Nat) (a1:Arg):s0 k a1=r0 k a1:=
 funext fun v402=>iter_raw _ _ _ (T0 a1) _ (fun rec v=>by kernel_rfl) k v402
noncomputable def p (l0:((List UInt8)×Int)->OO) (a1:Arg):OO:=l0 ([(0:UInt8),UInt8.ofInt a1.1.1,UInt8.ofInt a1.1.2.1,UInt8.ofInt a1.1.2.2.1,UInt8.ofInt (a1.1.2.2.2.1.length:Int)],(0:Int))
theorem raw_eq (k:Nat) (a1:Arg):@Eq OO (D.W k a1) (p (r0 k a1) a1):=
 bI (b:=p (s0 k a1) a1) (by kernel_rfl) (by rw[s0_eq])
theorem ok:Ok prog 377 D.sig:=fd_ok func377 tlOk (by kernel_rfl) (fc spec_l4Sum.ok (fn_nil _))
end spec_l4Pack
namespace spec_ReadRecord
abbrev Arg:Type:=(List UInt8)×Unit
abbrev Out:Type:=RecordResult×Unit
noncomputable def D:FD:={ fn:=f283,tl:=TL0,ps:=[(.ro,(.slc u8))],rs:=[(tRecordResult,(ownMd tRecordResult))],gl:=[(132,spec_l4Fault.D.sig),(376,spec_l4Read.D.sig),(377,spec_l4Pack.D.sig)],od:=[(5,[0,1,2,5,6,7,8,3,4,9,10])],ar:=[(5,[8])] }
noncomputable def sem (a:Arg):Option Out:=@lift Out fun k=>D.W k a
noncomputable def p (a1:Arg):Option Out:=bif decide ((a1.1.length:Int) < (7:Int)) then (some (((5:Int),(0:Int),((0:Int),(0:Int),(0:Int),([]:List Run),()),()),())) else (a1.1[0]?).bind fun x2=>bif decide (w64 (x2.toNat:Int) < (7:Int)) then (some (((5:Int),(0:Int),((0:Int),(0:Int),(0:Int),([]:List Run),()),()),())) else (a1.1[0]?).bind fun x3=>bif decide ((a1.1.length:Int) < w64 (x3.toNat:Int)) then (some (((5:Int),(0:Int),((0:Int),(0:Int),(0:Int),([]:List Run),()),()),())) else (a1.1[0]?).bind fun x4=>if 0<=w64 (x4.toNat:Int)/\w64 (x4.toNat:Int)<=(a1.1.length:Int) then ((spec_l4Read.sem ((a1.1.take (w64 (x4.toNat:Int)).toNat).drop 0,())).bind fun r5=>(spec_l4Fault.sem (r5.1,())).bind fun r6=>bif !decide (r6.1=(0:Int)) then (some (((5:Int),(0:Int),((0:Int),(0:Int),(0:Int),([]:List Run),()),()),())) else if 0<=w64 (x4.toNat:Int)/\w64 (x4.toNat:Int)<=(a1.1.length:Int) then ((spec_l4Pack.sem (r5.1,())).bind fun r7=>bif !decide (r7.1=(a1.1.take (w64 (x4.toNat:Int)).toNat).drop 0) then (some (((5:Int),(0:Int),((0:Int),(0:Int),(0:Int),([]:List Run),()),()),())) else some (((0:Int),w64 (x4.toNat:Int),r5.1,()),())) else none) else none
theorem raw_eq (k:Nat) (a1:Arg):@Eq (Option Out) (D.W k a1) (p a1):=by kernel_rfl
theorem ok:Ok prog 283 D.sig:=fd_ok func283 tlOk (by kernel_rfl) (fc spec_l4Fault.ok (fc spec_l4Read.ok (fc spec_l4Pack.ok (fn_nil _))))
end spec_ReadRecord
namespace spec_l14Pull
abbrev Arg:Type:=Connector×(List UInt8)×Unit
abbrev Out:Type:=ConnectorResult×Unit
noncomputable def D:FD:={ fn:=f156,tl:=TL0,ps:=[(.ro,tConnector),(.ro,(.slc u8))],rs:=[(tConnectorResult,(.pair (roMd i64) (.pair (roMd .bool) (.pair (roMd tSent) (.pair (.pair (.pair (ownMd (.slc (.slc u8))) (.pair (.slc true (roMd tBuffer)) (roMd .unit))) (ownMd (tupT [i64,tMiner,i64]))) (roMd .unit))))))],gl:=[(133,spec_l9Step.D.sig),(155,spec_l14Bad.D.sig),(266,spec_l9Copy.D.sig),(283,spec_ReadRecord.D.sig)],od:=[(11,[0,1,2,3,4,5,6,7,8,10,11,9,12,13,14,15])],ar:=[(11,[3,5,8,11])],bx:=[(6,[5]),(11,[2])],pd:=[(11,[14])],er:=[(11,[(1,15)])] }
noncomputable def sem (a:Arg):Option Out:=@lift Out fun k=>D.W k a
noncomputable def p (a1:Arg):Option Out:=bif decide ((16000:Int) < (a1.2.1.length:Int)) then ((spec_l14Bad.sem ((2:Int),())).bind fun r2=>some (r2.1,())) else bif decide ((a1.2.1.length:Int)<=a1.1.2.1) then ((spec_l14Bad.sem ((4:Int),())).bind fun r3=>some (r3.1,())) else if 0<=a1.1.2.1/\a1.1.2.1<=(a1.2.1.length:Int) then ((spec_ReadRecord.sem ((a1.2.1.take a1.2.1.length).drop a1.1.2.1.toNat,())).bind fun r4=>bif !decide (r4.1.1=(0:Int)) then ((spec_l14Bad.sem (r4.1.1,())).bind fun r5=>some (r5.1,())) else (spec_l9Step.sem (a1.1.1,r4.1.2.2.1,())).bind fun r6=>bif !decide (r6.1.1=(0:Int)) then ((spec_l14Bad.sem (r6.1.1,())).bind fun r7=>some (r7.1,())) else (spec_l9Copy.sem (a1.1.2.2.1,())).bind fun r8=>bif r6.1.2.2.1 then (some (((0:Int),true,(w64 (a1.1.2.1+r4.1.2.1),r6.1.2.2.2.1,r6.1.2.2.2.2.1,()),(r6.1.2.2.2.2.2.1,w64 (a1.1.2.1+r4.1.2.1),r8.1,a1.1.2.2.2.1,()),()),())) else some (((0:Int),false,((0:Int),(0:Int),([]:List Change),()),(r6.1.2.2.2.2.2.1,w64 (a1.1.2.1+r4.1.2.1),r8.1,a1.1.2.2.2.1,()),()),())) else none
theorem raw_eq (k:Nat) (a1:Arg):@Eq (Option Out) (D.W k a1) (p a1):=by kernel_rfl
theorem ok:Ok prog 156 D.sig:=fd_ok func156 tlOk (by kernel_rfl) (fc spec_l9Step.ok (fc spec_l14Bad.ok (fc spec_l9Copy.ok (fc spec_ReadRecord.ok (fn_nil _)))))
end spec_l14Pull
namespace laws_toConnector
abbrev Arg:Type:=Connector×Unit
abbrev Out:Type:=Connector×Unit
noncomputable def D:FD:={ fn:=f61,tl:=TL0,ps:=[(.ro,tConnector)],rs:=[(tConnector,(ownMd tConnector))],gl:=[(38,laws_toMiner.D.sig)] }
noncomputable def sem (a:Arg):Option Out:=@lift Out fun k=>D.W k a
noncomputable def p (a1:Arg):Option Out:=(laws_toMiner.sem (a1.1.1,())).bind fun r2=>(laws_toMiner.sem (a1.1.2.2.1,())).bind fun r3=>some ((r2.1,a1.1.2.1,r3.1,a1.1.2.2.2.1,()),())
theorem raw_eq (k:Nat) (a1:Arg):@Eq (Option Out) (D.W k a1) (p a1):=by kernel_rfl
theorem ok:Ok prog 61 D.sig:=fd_ok func61 tlOk (by kernel_rfl) (fc laws_toMiner.ok (fn_nil _))
end laws_toConnector
namespace impl_ConnectorFault
abbrev Arg:Type:=Connector×Unit
abbrev Out:Type:=Int×Unit
noncomputable def D:FD:={ fn:=f157,tl:=TL0,ps:=[(.ro,tConnector)],rs:=[(i64,(roMd i64))],gl:=[(137,impl_MinerFault.D.sig),(214,impl_in.D.sig)] }
noncomputable def sem (a:Arg):Option Out:=@lift Out fun k=>D.W k a
noncomputable def p (a1:Arg):Option Out:=(impl_MinerFault.sem (a1.1.1,())).bind fun r2=>bif !decide (r2.1=(0:Int)) then (some (r2.1,())) else (impl_MinerFault.sem (a1.1.2.2.1,())).bind fun r3=>bif !decide (r3.1=(0:Int)) then (some (r3.1,())) else (impl_in.sem (a1.1.2.1,(0:Int),(16000:Int),())).bind fun r4=>bif !r4.1 then (some ((3:Int),())) else (impl_in.sem (a1.1.2.2.2.1,(0:Int),a1.1.2.1,())).bind fun r5=>bif !r5.1 then (some ((3:Int),())) else some ((0:Int),())
theorem raw_eq (k:Nat) (a1:Arg):@Eq (Option Out) (D.W k a1) (p a1):=by kernel_rfl
theorem ok:Ok prog 157 D.sig:=fd_ok func157 tlOk (by kernel_rfl) (fc impl_MinerFault.ok (fc impl_in.ok (fn_nil _)))
end impl_ConnectorFault
namespace slices_Equal_byte
abbrev Arg:Type:=(List UInt8)×(List UInt8)×Unit
abbrev Out:Type:=Bool×Unit
abbrev OO:=Option Out
noncomputable def D:FD:={ fn:=f378,tl:=TL0,ps:=[(.ro,(.slc u8)),(.ro,(.slc u8))],rs:=[(.bool,(roMd .bool))],lv:=[(4,[0,1,12,13])],lx:=[(0,[])],od:=[(6,[0,1,2,3,4,5,6,7,8])] }
noncomputable def sem (a:Arg):OO:=@lift Out fun k=>D.W k a
noncomputable def T0 (a1:Arg) (v402:Int):St:={ n:=26,sl:=[(0,.val (.slc u8) a1.1),(1,.val (.slc u8) a1.2.1),(12,.val i64 (a1.1.length:Int)),(13,.val i64 v402)],vr:=[],lent:=[] }
noncomputable def b0 (self:Int->OO) (e0:(Unit)->OO) (a1:Arg) (v402:Int):OO:=bif decide (v402 < (a1.1.length:Int)) then (if 0<=v402 then ((a1.1[v402.toNat]?).bind fun x603=>if 0<=v402 then ((a1.2.1[v402.toNat]?).bind fun x604=>bif !decide ((x603.toNat:Int)=(x604.toNat:Int)) then (some (false,())) else self (w64 (v402+(1:Int)))) else none) else none) else e0 ()
noncomputable abbrev B0 (_:Nat):=b0
noncomputable def q0 (a1:Arg) (z605:(Unit)):OO:=some (true,())
noncomputable abbrev Q0 (_:Nat):=q0
noncomputable def s0 (k:Nat) (a1:Arg):(Int)->OO:=fun v402=>D.L k [1,1,0,1,0,0] [0,1,12,13] [] (blockC 0 (seqC (D.N k [1,1,1]) D.K0)) (T0 a1 v402)
noncomputable def r0 (k:Nat) (a1:Arg):(Int)->OO:=rawIter (fun w v=>B0 k w (Q0 k a1) a1 v) k
theorem s0_eq (k:Nat) (a1:Arg):s0 k a1=r0 k a1:=
 funext fun v402=>iter_raw _ _ _ (T0 a1) _ (fun rec v=>by kernel_rfl) k v402
noncomputable def p (l0:(Int)->OO) (a1:Arg):OO:=bif !decide ((a1.1.length:Int)=(a1.2.1.length:Int)) then (some (false,())) else l0 (0:Int)
theorem raw_eq (k:Nat) (a1:Arg):@Eq OO (D.W k a1) (p (r0 k a1) a1):=
 bI (b:=p (s0 k a1) a1) (by kernel_rfl) (by rw[s0_eq])
theorem ok:Ok prog 378 D.sig:=fd_ok func378 tlOk (by kernel_rfl) (fn_nil _)
end slices_Equal_byte
namespace impl_packed
abbrev Arg:Type:=Record×Unit
abbrev Out:Type:=(List UInt8)×Unit
abbrev OO:=Option Out
noncomputable def D:FD:={ fn:=f379,tl:=TL0,ps:=[(.ro,tRecord)],rs:=[((.slc u8),(ownMd (.slc u8)))],lv:=[(3,[3,24,25,26]),(11,[3,6,51,52,53])],lx:=[(0,[3]),(2,[3,6])] }
noncomputable def sem (a:Arg):OO:=@lift Out fun k=>D.W k a
noncomputable def T0 (a1:Arg) (v402:(List UInt8)×Int):St:={ n:=72,sl:=[(3,.own (.slc u8) (ownMd (.slc u8)) [] v402.1),(24,.val (.slc tRun) a1.1.2.2.2.1),(25,.val i64 (a1.1.2.2.2.1.length:Int)),(26,.val i64 v402.2)],vr:=[],lent:=[] }
noncomputable def S0 (rec:RT Out) (a1:Arg):((List UInt8)×Int)->OO:=fun v402=>rec (T0 a1 v402)
noncomputable def X0_0 (K:KT Out) (a1:Arg):(List UInt8)->OO:=fun z=>K (.exit 0) ({ n:=72,sl:=[(3,.own (.slc u8) (ownMd (.slc u8)) [] z)],vr:=[],lent:=[] })
noncomputable def b0 (self:((List UInt8)×Int)->OO) (e0:(List UInt8)->OO) (a1:Arg) (v402:(List UInt8)×Int):OO:=bif decide (v402.2 < (a1.1.2.2.2.1.length:Int)) then (if 0<=v402.2 then ((a1.1.2.2.2.1[v402.2.toNat]?).bind fun x603=>if v402.1.length+[UInt8.ofInt x603.1,UInt8.ofInt (x603.2.1.length:Int)].length<=CAP then (let y604:=v402.1++[UInt8.ofInt x603.1,UInt8.ofInt (x603.2.1.length:Int)];if y604.length+x603.2.1.length<=CAP then (self (y604++x603.2.1,w64 (v402.2+(1:Int)))) else none) else none) else none) else e0 v402.1
theorem B0_eq (k:Nat) (rec:RT Out) (K:KT Out) (a1:Arg) (v402:(List UInt8)×Int):D.N k [1,1,0,1,0,0] (T0 a1 v402) (loopC rec (keepF [3,24,25,26] []) K)=b0 (S0 rec a1) (X0_0 K a1) a1 v402:=by kernel_rfl
noncomputable def T1 (a1:Arg) (c1009:List UInt8) (c1010:Int) (v1008:Int×Int):St:={ n:=72,sl:=[(3,.own (.slc u8) (ownMd (.slc u8)) [] c1009),(6,.val i64 v1008.1),(51,.ref 3 [] [0,0]),(52,.val i64 c1010),(53,.val i64 v1008.2)],vr:=[],lent:=[] }
noncomputable def b1 (self:(Int×Int)->OO) (e2:Int->OO) (a1:Arg) (c1009:List UInt8) (c1010:Int) (v1008:Int×Int):OO:=bif decide (v1008.2 < c1010) then (if 0<=v1008.2/\v1008.2 < (c1009.length:Int) then ((c1009[v1008.2.toNat]?).bind fun x1211=>self ((w64 ((w64 (v1008.1*(31:Int)))+(w64 (x1211.toNat:Int)))).tmod (65521:Int),w64 (v1008.2+(1:Int)))) else none) else e2 v1008.1
noncomputable def q1 (a1:Arg) (c1009:List UInt8) (c1010:Int) (z1212:Int):OO:=if c1009.length+[UInt8.ofInt (z1212.fdiv (2 ^ 8)),UInt8.ofInt z1212].length<=CAP then (let y1213:=c1009++[UInt8.ofInt (z1212.fdiv (2 ^ 8)),UInt8.ofInt z1212];some (y1213,())) else none
noncomputable def s1 (k:Nat) (a1:Arg):(List UInt8)->Int->(Int×Int)->OO:=fun c1009 c1010=>fun v1008=>D.L k [1,1,1,1,1,0,1,0,0] [3,6,51,52,53] [] (blockC 2 (seqC (D.N k [1,1,1,1,1,1]) D.K0)) (T1 a1 c1009 c1010 v1008)
noncomputable def r1 (k:Nat) (a1:Arg):(List UInt8)->Int->(Int×Int)->OO:=fun c1009 c1010=>rawIter (fun w v=>b1 w (q1 a1 c1009 c1010) a1 c1009 c1010 v) k
theorem s1_eq (k:Nat) (a1:Arg):s1 k a1=r1 k a1:=
 funext fun c1009=>funext fun c1010=>funext fun v1008=>iter_raw _ _ _ (T1 a1 c1009 c1010) _ (fun rec v=>by kernel_rfl) k v1008
noncomputable def q0 (l1:(List UInt8)->Int->(Int×Int)->OO) (a1:Arg) (z605:(List UInt8)):OO:=if 0<=(0:Int)/\(0:Int) < (z605.length:Int) then ((z605[0]?).bind fun x606=>let y607:=z605.set 0 (UInt8.ofInt (w64 ((z605.length:Int)+(2:Int))));l1 y607 (y607.length:Int) ((1:Int),(0:Int))) else none
noncomputable def Q0 (k:Nat) (a1:Arg) (z605:(List UInt8)):OO:=q0 (r1 k a1) a1 z605
theorem Q0_eq (k:Nat) (a1:Arg) (z605:(List UInt8)):X0_0 (blockC 0 (seqC (D.N k [1,1,1]) D.K0)) a1 z605=Q0 k a1 z605:=
 bI (b:=q0 (s1 k a1) a1 z605) (by kernel_rfl) (by rw[s1_eq];rfl)
noncomputable def s0 (k:Nat) (a1:Arg):((List UInt8)×Int)->OO:=fun v402=>D.L k [1,1,0,1,0,0] [3,24,25,26] [] (blockC 0 (seqC (D.N k [1,1,1]) D.K0)) (T0 a1 v402)
noncomputable def r0 (k:Nat) (a1:Arg):((List UInt8)×Int)->OO:=rawIter (fun w v=>b0 w (Q0 k a1) a1 v) k
theorem s0_eq (k:Nat) (a1:Arg):s0 k a1=r0 k a1:=by
 funext v402;have h0:X0_0 (blockC 0 (seqC (D.N k [1,1,1]) D.K0)) a1=Q0 k a1:=funext fun z=>Q0_eq k a1 z;refine (iter_raw _ _ _ (T0 a1) (fun self v=>b0 self (X0_0 (blockC 0 (seqC (D.N k [1,1,1]) D.K0)) a1) a1 v) (fun rec v=>B0_eq k rec (blockC 0 (seqC (D.N k [1,1,1]) D.K0)) a1 v) k v402).trans ?_;rw[h0];rfl
noncomputable def p (l0:((List UInt8)×Int)->OO) (a1:Arg):OO:=l0 ([(0:UInt8),UInt8.ofInt a1.1.1,UInt8.ofInt a1.1.2.1,UInt8.ofInt a1.1.2.2.1,UInt8.ofInt (a1.1.2.2.2.1.length:Int)],(0:Int))
theorem raw_eq (k:Nat) (a1:Arg):@Eq OO (D.W k a1) (p (r0 k a1) a1):=
 bI (b:=p (s0 k a1) a1) (by kernel_rfl) (by rw[s0_eq])
theorem ok:Ok prog 379 D.sig:=fd_ok func379 tlOk (by kernel_rfl) (fn_nil _)
end impl_packed
namespace impl_read
abbrev Arg:Type:=(List UInt8)×Unit
abbrev Out:Type:=Record×Int×Unit
abbrev OO:=Option Out
noncomputable def D:FD:={ fn:=f284,tl:=TL0,ps:=[(.ro,(.slc u8))],rs:=[(tRecord,(ownMd tRecord)),(i64,(roMd i64))],gl:=[(215,impl_copied.D.sig),(274,impl_RecordFault.D.sig),(378,slices_Equal_byte.D.sig),(379,impl_packed.D.sig)],lv:=[(7,[2,4,5,6,7,52,53])],lx:=[(0,[2,4,5,6,7])],od:=[(4,[0,1,2,3,4,5,6,7,8,9,10,11,12,13,14]),(11,[0,1,2,3,4,5,6,7,8,9,10,11,12,13,14,15,16,17,18,19,20])] }
noncomputable def sem (a:Arg):OO:=@lift Out fun k=>D.W k a
noncomputable def T0 (a1:Arg) (c410:List UInt8) (c411:Int) (c412:Int) (v409:Record×Int×Int):St:={ n:=123,sl:=[(2,.box tRecord (ownMd tRecord) [] ((0:Int),(0:Int),(0:Int),([]:List Run),())),(4,.val (.slc u8) c410),(5,.box tRecord (ownMd tRecord) [] v409.1),(6,.val i64 v409.2.1),(7,.val i64 c411),(52,.val i64 c412),(53,.val i64 v409.2.2)],vr:=[],lent:=[] }
noncomputable def b0 (self:(Record×Int×Int)->OO) (e0:(Record×Int)->OO) (a1:Arg) (c410:List UInt8) (c411:Int) (c412:Int) (v409:Record×Int×Int):OO:=bif decide (v409.2.2 < c412) then (bif decide (c411 < w64 (v409.2.1+(2:Int))) then (some (((0:Int),(0:Int),(0:Int),([]:List Run),()),(0:Int),())) else if 0<=w64 (v409.2.1+(1:Int)) then ((c410[(w64 (v409.2.1+(1:Int))).toNat]?).bind fun x613=>bif decide (c411 < w64 ((w64 (v409.2.1+(2:Int)))+(w64 (x613.toNat:Int)))) then (some (((0:Int),(0:Int),(0:Int),([]:List Run),()),(0:Int),())) else if 0<=w64 (v409.2.1+(1:Int)) then ((c410[(w64 (v409.2.1+(1:Int))).toNat]?).bind fun x614=>if 0<=v409.2.1 then ((c410[v409.2.1.toNat]?).bind fun x615=>if 0<=w64 (v409.2.1+(2:Int))/\w64 (v409.2.1+(2:Int))<=w64 ((w64 (v409.2.1+(2:Int)))+(w64 (x614.toNat:Int)))/\w64 ((w64 (v409.2.1+(2:Int)))+(w64 (x614.toNat:Int)))<=(c410.length:Int) then ((impl_copied.sem ((c410.take (w64 ((w64 (v409.2.1+(2:Int)))+(w64 (x614.toNat:Int)))).toNat).drop (w64 (v409.2.1+(2:Int))).toNat,())).bind fun r616=>if v409.1.2.2.2.1.length+[(w64 (x615.toNat:Int),r616.1,())].length<=CAP then (let y617:=v409.1.2.2.2.1++[(w64 (x615.toNat:Int),r616.1,())];self ((v409.1.1,v409.1.2.1,v409.1.2.2.1,y617,v409.1.2.2.2.2),w64 (v409.2.1+(w64 ((2:Int)+(w64 (x614.toNat:Int))))),w64 (v409.2.2+(1:Int)))) else none) else none) else none) else none) else none) else e0 (v409.1,v409.2.1)
noncomputable abbrev B0 (_:Nat):=b0
noncomputable def q0 (a1:Arg) (c410:List UInt8) (c411:Int) (c412:Int) (z618:(Record×Int)):OO:=bif !decide (z618.2=c411) then (some (((0:Int),(0:Int),(0:Int),([]:List Run),()),(0:Int),())) else (impl_RecordFault.sem (z618.1,())).bind fun r619=>bif !decide (r619.1=(0:Int)) then (some (((0:Int),(0:Int),(0:Int),([]:List Run),()),(0:Int),())) else (impl_packed.sem (z618.1,())).bind fun r620=>(slices_Equal_byte.sem (r620.1,c410,())).bind fun r621=>bif !r621.1 then (some (((0:Int),(0:Int),(0:Int),([]:List Run),()),(0:Int),())) else some (z618.1,(c410.length:Int),())
noncomputable abbrev Q0 (_:Nat):=q0
noncomputable def s0 (k:Nat) (a1:Arg):(List UInt8)->Int->Int->(Record×Int×Int)->OO:=fun c410 c411 c412=>fun v409=>D.L k [1,1,1,1,1,0,1,0,0] [2,4,5,6,7,52,53] [] (blockC 0 (seqC (D.N k [1,1,1,1,1,1]) D.K0)) (T0 a1 c410 c411 c412 v409)
noncomputable def r0 (k:Nat) (a1:Arg):(List UInt8)->Int->Int->(Record×Int×Int)->OO:=fun c410 c411 c412=>rawIter (fun w v=>B0 k w (Q0 k a1 c410 c411 c412) a1 c410 c411 c412 v) k
theorem s0_eq (k:Nat) (a1:Arg):s0 k a1=r0 k a1:=
 funext fun c410=>funext fun c411=>funext fun c412=>funext fun v409=>iter_raw _ _ _ (T0 a1 c410 c411 c412) _ (fun rec v=>by kernel_rfl) k v409
noncomputable def p (l0:(List UInt8)->Int->Int->(Record×Int×Int)->OO) (a1:Arg):OO:=bif decide ((a1.1.length:Int) < (7:Int)) then (some (((0:Int),(0:Int),(0:Int),([]:List Run),()),(0:Int),())) else (a1.1[0]?).bind fun x2=>bif decide ((a1.1.length:Int) < w64 (x2.toNat:Int)) then (some (((0:Int),(0:Int),(0:Int),([]:List Run),()),(0:Int),())) else (a1.1[0]?).bind fun x3=>bif decide ((x3.toNat:Int) < (7:Int)) then (some (((0:Int),(0:Int),(0:Int),([]:List Run),()),(0:Int),())) else (a1.1[0]?).bind fun x4=>if 0<=(x4.toNat:Int)/\(x4.toNat:Int)<=(a1.1.length:Int) then ((((a1.1.take (x4.toNat:Int).toNat).drop 0)[1]?).bind fun x5=>(((a1.1.take (x4.toNat:Int).toNat).drop 0)[2]?).bind fun x6=>(((a1.1.take (x4.toNat:Int).toNat).drop 0)[3]?).bind fun x7=>(((a1.1.take (x4.toNat:Int).toNat).drop 0)[4]?).bind fun x8=>l0 ((a1.1.take (x4.toNat:Int).toNat).drop 0) (w64 ((((a1.1.take (x4.toNat:Int).toNat).drop 0).length:Int) - (2:Int))) (w64 (x8.toNat:Int)) ((w64 (x5.toNat:Int),w64 (x6.toNat:Int),w64 (x7.toNat:Int),([]:List Run),()),(5:Int),(0:Int))) else none
theorem raw_eq (k:Nat) (a1:Arg):@Eq OO (D.W k a1) (p (r0 k a1) a1):=
 bI (b:=p (s0 k a1) a1) (by kernel_rfl) (by rw[s0_eq])
theorem ok:Ok prog 284 D.sig:=fd_ok func284 tlOk (by kernel_rfl) (fc impl_copied.ok (fc impl_RecordFault.ok (fc slices_Equal_byte.ok (fc impl_packed.ok (fn_nil _)))))
end impl_read
namespace impl_Connector_pull
abbrev Arg:Type:=Connector×(List UInt8)×Unit
abbrev Out:Type:=ConnectorResult×Unit
noncomputable def D:FD:={ fn:=f158,tl:=TL0,ps:=[(.ro,tConnector),(.ro,(.slc u8))],rs:=[(tConnectorResult,(.pair (roMd i64) (.pair (roMd .bool) (.pair (ownMd tSent) (.pair (.pair (ownMd tMiner) (roMd (tupT [i64,tMiner,i64]))) (roMd .unit))))))],gl:=[(138,impl_Miner_step.D.sig),(284,impl_read.D.sig)] }
noncomputable def sem (a:Arg):Option Out:=@lift Out fun k=>D.W k a
noncomputable def p (a1:Arg):Option Out:=bif decide ((a1.2.1.length:Int)<=a1.1.2.1) then (some (((4:Int),false,((0:Int),(0:Int),([]:List Change),()),((([]:List (List UInt8)),([]:List Buffer),()),(0:Int),(([]:List (List UInt8)),([]:List Buffer),()),(0:Int),()),()),())) else if 0<=a1.1.2.1/\a1.1.2.1<=(a1.2.1.length:Int) then ((impl_read.sem ((a1.2.1.take a1.2.1.length).drop a1.1.2.1.toNat,())).bind fun r2=>bif decide (r2.2.1=(0:Int)) then (some (((5:Int),false,((0:Int),(0:Int),([]:List Change),()),((([]:List (List UInt8)),([]:List Buffer),()),(0:Int),(([]:List (List UInt8)),([]:List Buffer),()),(0:Int),()),()),())) else (impl_Miner_step.sem (a1.1.1,r2.1,())).bind fun r3=>bif !decide (r3.1.1=(0:Int)) then (some ((r3.1.1,false,((0:Int),(0:Int),([]:List Change),()),((([]:List (List UInt8)),([]:List Buffer),()),(0:Int),(([]:List (List UInt8)),([]:List Buffer),()),(0:Int),()),()),())) else let j5:=fun (p4:ConnectorResult)=>(some (p4,()):Option Out);bif r3.1.2.2.1 then (j5 ((0:Int),true,(w64 (a1.1.2.1+r2.2.1),r3.1.2.2.2.1,r3.1.2.2.2.2.1,()),(r3.1.2.2.2.2.2.1,w64 (a1.1.2.1+r2.2.1),a1.1.2.2.1,a1.1.2.2.2.1,()),())) else j5 ((0:Int),false,((0:Int),(0:Int),([]:List Change),()),(r3.1.2.2.2.2.2.1,w64 (a1.1.2.1+r2.2.1),a1.1.2.2.1,a1.1.2.2.2.1,()),())) else none
theorem raw_eq (k:Nat) (a1:Arg):@Eq (Option Out) (D.W k a1) (p a1):=by kernel_rfl
theorem ok:Ok prog 158 D.sig:=fd_ok func158 tlOk (by kernel_rfl) (fc impl_Miner_step.ok (fc impl_read.ok (fn_nil _)))
end impl_Connector_pull
namespace impl_Connector_own
abbrev Arg:Type:=Connector×Unit
abbrev Out:Type:=Connector×Unit
noncomputable def D:FD:={ fn:=f159,tl:=TL0,ps:=[(.ro,tConnector)],rs:=[(tConnector,(ownMd tConnector))],gl:=[(153,impl_Miner_own.D.sig)],od:=[(1,[0,1,3,4,5,6,8,9,2,7,10,11])] }
noncomputable def sem (a:Arg):Option Out:=@lift Out fun k=>D.W k a
noncomputable def p (a1:Arg):Option Out:=(impl_Miner_own.sem (a1.1.1,())).bind fun r2=>(impl_Miner_own.sem (a1.1.2.2.1,())).bind fun r3=>some ((r2.1,a1.1.2.1,r3.1,a1.1.2.2.2.1,()),())
theorem raw_eq (k:Nat) (a1:Arg):@Eq (Option Out) (D.W k a1) (p a1):=by kernel_rfl
theorem ok:Ok prog 159 D.sig:=fd_ok func159 tlOk (by kernel_rfl) (fc impl_Miner_own.ok (fn_nil _))
end impl_Connector_own
namespace laws_eqConnector
abbrev Arg:Type:=Connector×Connector×Unit
abbrev Out:Type:=Bool×Unit
noncomputable def D:FD:={ fn:=f65,tl:=TL0,ps:=[(.ro,tConnector),(.ro,tConnector)],rs:=[(.bool,(roMd .bool))],gl:=[(42,laws_eqMiner.D.sig)] }
noncomputable def sem (a:Arg):Option Out:=@lift Out fun k=>D.W k a
noncomputable def p (a1:Arg):Option Out:=(laws_eqMiner.sem (a1.1.1,a1.2.1.1,())).bind fun r2=>bif !r2.1 then (some (false,())) else bif !decide (a1.1.2.1=a1.2.1.2.1) then (some (false,())) else (laws_eqMiner.sem (a1.1.2.2.1,a1.2.1.2.2.1,())).bind fun r3=>bif !r3.1 then (some (false,())) else bif !decide (a1.1.2.2.2.1=a1.2.1.2.2.2.1) then (some (false,())) else some (true,())
theorem raw_eq (k:Nat) (a1:Arg):@Eq (Option Out) (D.W k a1) (p a1):=by kernel_rfl
theorem ok:Ok prog 65 D.sig:=fd_ok func65 tlOk (by kernel_rfl) (fc laws_eqMiner.ok (fn_nil _))
end laws_eqConnector
namespace laws_eqSent
abbrev Arg:Type:=Sent×Sent×Unit
abbrev Out:Type:=Bool×Unit
noncomputable def D:FD:={ fn:=f160,tl:=TL0,ps:=[(.ro,tSent),(.ro,tSent)],rs:=[(.bool,(roMd .bool))],gl:=[(139,laws_eqChangeS.D.sig)] }
noncomputable def sem (a:Arg):Option Out:=@lift Out fun k=>D.W k a
noncomputable def p (a1:Arg):Option Out:=bif !decide (a1.1.1=a1.2.1.1) then (some (false,())) else bif !decide (a1.1.2.1=a1.2.1.2.1) then (some (false,())) else (laws_eqChangeS.sem (a1.1.2.2.1,a1.2.1.2.2.1,())).bind fun r2=>bif !r2.1 then (some (false,())) else some (true,())
theorem raw_eq (k:Nat) (a1:Arg):@Eq (Option Out) (D.W k a1) (p a1):=by kernel_rfl
theorem ok:Ok prog 160 D.sig:=fd_ok func160 tlOk (by kernel_rfl) (fc laws_eqChangeS.ok (fn_nil _))
end laws_eqSent
namespace laws_markConnector
abbrev Arg:Type:=Connector×Int×Unit
abbrev Out:Type:=Int×Connector×Unit
noncomputable def D:FD:={ fn:=f67,tl:=TL0,ps:=[(.muts (ownMd tConnector),tConnector),(.ro,i64)],rs:=[(i64,(roMd i64))],gl:=[(44,laws_markMiner.D.sig)],es:=[2] }
noncomputable def sem (a:Arg):Option Out:=@lift Out fun k=>D.W k a
noncomputable def p (a1:Arg):Option Out:=(laws_markMiner.sem (a1.1.1,a1.2.1,())).bind fun r2=>(laws_markMiner.sem (a1.1.2.2.1,r2.1,())).bind fun r3=>some (r3.1,(r2.2.1,a1.1.2.1,r3.2.1,a1.1.2.2.2),())
theorem raw_eq (k:Nat) (a1:Arg):@Eq (Option Out) (D.W k a1) (p a1):=by kernel_rfl
theorem ok:Ok prog 67 D.sig:=fd_ok func67 tlOk (by kernel_rfl) (fc laws_markMiner.ok (fn_nil _))
end laws_markConnector
namespace laws_heldConnector
abbrev Arg:Type:=Connector×Int×Unit
abbrev Out:Type:=Int×Unit
noncomputable def D:FD:={ fn:=f163,tl:=TL0,ps:=[(.ro,tConnector),(.ro,i64)],rs:=[(i64,(roMd i64))],gl:=[(148,laws_heldMiner.D.sig)] }
noncomputable def sem (a:Arg):Option Out:=@lift Out fun k=>D.W k a
noncomputable def p (a1:Arg):Option Out:=(laws_heldMiner.sem (a1.1.1,a1.2.1,())).bind fun r2=>bif decide (r2.1 < (0:Int)) then (some ((-1:Int),())) else (laws_heldMiner.sem (a1.1.2.2.1,r2.1,())).bind fun r3=>bif decide (r3.1 < (0:Int)) then (some ((-1:Int),())) else some (r3.1,())
theorem raw_eq (k:Nat) (a1:Arg):@Eq (Option Out) (D.W k a1) (p a1):=by kernel_rfl
theorem ok:Ok prog 163 D.sig:=fd_ok func163 tlOk (by kernel_rfl) (fc laws_heldMiner.ok (fn_nil _))
end laws_heldConnector
namespace spec_l14Copy
abbrev Arg:Type:=Connector×Unit
abbrev Out:Type:=Connector×Unit
noncomputable def D:FD:={ fn:=f164,tl:=TL0,ps:=[(.ro,tConnector)],rs:=[(tConnector,(ownMd tConnector))],gl:=[(266,spec_l9Copy.D.sig)],od:=[(1,[0,1,3,4,5,6,8,9,2,7,10,11])] }
noncomputable def sem (a:Arg):Option Out:=@lift Out fun k=>D.W k a
noncomputable def p (a1:Arg):Option Out:=(spec_l9Copy.sem (a1.1.1,())).bind fun r2=>(spec_l9Copy.sem (a1.1.2.2.1,())).bind fun r3=>some ((r2.1,a1.1.2.1,r3.1,a1.1.2.2.2.1,()),())
theorem raw_eq (k:Nat) (a1:Arg):@Eq (Option Out) (D.W k a1) (p a1):=by kernel_rfl
theorem ok:Ok prog 164 D.sig:=fd_ok func164 tlOk (by kernel_rfl) (fc spec_l9Copy.ok (fn_nil _))
end spec_l14Copy
namespace spec_DrainLog
abbrev Arg:Type:=Connector×(List UInt8)×Unit
abbrev Out:Type:=SentResult×Unit
abbrev OO:=Option Out
noncomputable def D:FD:={ fn:=f71,tl:=TL0,ps:=[(.ro,tConnector),(.ro,(.slc u8))],rs:=[(tSentResult,(.pair (roMd i64) (.pair (.slc true (roMd tSent)) (roMd (tupT [tConnector])))))],gl:=[(154,spec_l14Fault.D.sig),(156,spec_l14Pull.D.sig),(164,spec_l14Copy.D.sig)],lv:=[(7,[1,4,6])],lf:=[(7,[(6,(.pair .leaf (.pair (.slc true (.pair .leaf (.pair .leaf (.pair (.slc false (.pair .leaf (.pair (.pair .leaf (.pair .leaf (.pair .leaf (.pair .leaf .leaf)))) (.pair .leaf (.pair (.pair .leaf (.pair .leaf (.pair .leaf (.pair .leaf .leaf)))) .leaf))))) .leaf)))) (.pair (.pair (.pair (.slc true (.slc true .leaf)) (.pair (.slc true (.pair .leaf (.pair (.slc false (.pair .leaf (.pair (.pair .leaf (.pair .leaf (.pair .leaf (.pair .leaf .leaf)))) (.pair .leaf (.pair (.pair .leaf (.pair .leaf (.pair .leaf (.pair .leaf .leaf)))) .leaf))))) .leaf))) .leaf)) (.pair .leaf (.pair (.pair (.slc true (.slc true .leaf)) (.pair (.slc true (.pair .leaf (.pair (.slc true (.pair .leaf (.pair (.pair .leaf (.pair .leaf (.pair .leaf (.pair .leaf .leaf)))) (.pair .leaf (.pair (.pair .leaf (.pair .leaf (.pair .leaf (.pair .leaf .leaf)))) .leaf))))) .leaf))) .leaf)) (.pair .leaf .leaf)))) .leaf))))])] }
noncomputable def sem (a:Arg):OO:=@lift Out fun k=>D.W k a
noncomputable def T0 (a1:Arg) (v404:SentResult):St:={ n:=45,sl:=[(1,.val (.slc u8) a1.2.1),(4,.box tSentResult (ownMd tSentResult) [] ((0:Int),([]:List Sent),((([]:List (List UInt8)),([]:List Buffer),()),(0:Int),(([]:List (List UInt8)),([]:List Buffer),()),(0:Int),()),())),(6,.box tSentResult (.pair (roMd i64) (.pair (.slc true (roMd tSent)) (.pair (.pair (.pair (ownMd (.slc (.slc u8))) (.pair (.slc true (roMd tBuffer)) (roMd .unit))) (ownMd (tupT [i64,tMiner,i64]))) (roMd .unit)))) [] v404)],vr:=[],lent:=[] }
noncomputable def b0 (self:SentResult->OO) (a1:Arg) (v404:SentResult):OO:=(spec_l14Pull.sem (v404.2.2.1,a1.2.1,())).bind fun r605=>bif !decide (r605.1.1=(0:Int)) then (some (v404,())) else let j607:=fun (p606:SentResult)=>(bif decide ((40:Int) < (p606.2.1.length:Int)) then (some (((2:Int),([]:List Sent),((([]:List (List UInt8)),([]:List Buffer),()),(0:Int),(([]:List (List UInt8)),([]:List Buffer),()),(0:Int),()),()),())) else self p606:OO);bif r605.1.2.1 then (if v404.2.1.length+[r605.1.2.2.1].length<=CAP then (j607 (v404.1,v404.2.1++[r605.1.2.2.1],r605.1.2.2.2.1,v404.2.2.2)) else none) else j607 (v404.1,v404.2.1,r605.1.2.2.2.1,v404.2.2.2)
noncomputable abbrev B0 (_:Nat):=b0
noncomputable def s0 (k:Nat) (a1:Arg):(SentResult)->OO:=fun v404=>D.L k [1,1,1,1,0,0] [1,4,6] [(6,(.pair .leaf (.pair (.slc true (.pair .leaf (.pair .leaf (.pair (.slc false (.pair .leaf (.pair (.pair .leaf (.pair .leaf (.pair .leaf (.pair .leaf .leaf)))) (.pair .leaf (.pair (.pair .leaf (.pair .leaf (.pair .leaf (.pair .leaf .leaf)))) .leaf))))) .leaf)))) (.pair (.pair (.pair (.slc true (.slc true .leaf)) (.pair (.slc true (.pair .leaf (.pair (.slc false (.pair .leaf (.pair (.pair .leaf (.pair .leaf (.pair .leaf (.pair .leaf .leaf)))) (.pair .leaf (.pair (.pair .leaf (.pair .leaf (.pair .leaf (.pair .leaf .leaf)))) .leaf))))) .leaf))) .leaf)) (.pair .leaf (.pair (.pair (.slc true (.slc true .leaf)) (.pair (.slc true (.pair .leaf (.pair (.slc true (.pair .leaf (.pair (.pair .leaf (.pair .leaf (.pair .leaf (.pair .leaf .leaf)))) (.pair .leaf (.pair (.pair .leaf (.pair .leaf (.pair .leaf (.pair .leaf .leaf)))) .leaf))))) .leaf))) .leaf)) (.pair .leaf .leaf)))) .leaf))))] (blockC 0 D.K0) (T0 a1 v404)
noncomputable def r0 (k:Nat) (a1:Arg):(SentResult)->OO:=rawIter (fun w v=>B0 k w a1 v) k
theorem s0_eq (k:Nat) (a1:Arg):s0 k a1=r0 k a1:=
 funext fun v404=>iter_raw _ _ _ (T0 a1) _ (fun rec v=>by kernel_rfl) k v404
noncomputable def p (l0:(SentResult)->OO) (a1:Arg):OO:=(spec_l14Fault.sem (a1.1,())).bind fun r2=>bif !decide (r2.1=(0:Int)) then (some ((r2.1,([]:List Sent),((([]:List (List UInt8)),([]:List Buffer),()),(0:Int),(([]:List (List UInt8)),([]:List Buffer),()),(0:Int),()),()),())) else bif decide ((16000:Int) < (a1.2.1.length:Int)) then (some (((2:Int),([]:List Sent),((([]:List (List UInt8)),([]:List Buffer),()),(0:Int),(([]:List (List UInt8)),([]:List Buffer),()),(0:Int),()),()),())) else (spec_l14Copy.sem (a1.1,())).bind fun r3=>l0 ((0:Int),([]:List Sent),r3.1,())
theorem raw_eq (k:Nat) (a1:Arg):@Eq OO (D.W k a1) (p (r0 k a1) a1):=
 bI (b:=p (s0 k a1) a1) (by kernel_rfl) (by rw[s0_eq])
theorem ok:Ok prog 71 D.sig:=fd_ok func71 tlOk (by kernel_rfl) (fc spec_l14Fault.ok (fc spec_l14Pull.ok (fc spec_l14Copy.ok (fn_nil _))))
end spec_DrainLog
namespace impl_Connector_drain
abbrev Arg:Type:=Connector×(List UInt8)×Unit
abbrev Out:Type:=(List Sent)×Connector×Int×Unit
abbrev OO:=Option Out
noncomputable def D:FD:={ fn:=f165,tl:=TL0,ps:=[(.ro,tConnector),(.ro,(.slc u8))],rs:=[((.slc tSent),(ownMd (.slc tSent))),(tConnector,(roMd tConnector)),(i64,(roMd i64))],gl:=[(158,impl_Connector_pull.D.sig)],lv:=[(4,[1,2,5,7])],lf:=[(4,[(2,(.pair (.pair (.slc false (.slc false .leaf)) (.pair (.slc false (.pair .leaf (.pair (.slc false (.pair .leaf (.pair (.pair .leaf (.pair .leaf (.pair .leaf (.pair .leaf .leaf)))) (.pair .leaf (.pair (.pair .leaf (.pair .leaf (.pair .leaf (.pair .leaf .leaf)))) .leaf))))) .leaf))) .leaf)) (.pair .leaf (.pair (.pair (.slc false (.slc false .leaf)) (.pair (.slc false (.pair .leaf (.pair (.slc false (.pair .leaf (.pair (.pair .leaf (.pair .leaf (.pair .leaf (.pair .leaf .leaf)))) (.pair .leaf (.pair (.pair .leaf (.pair .leaf (.pair .leaf (.pair .leaf .leaf)))) .leaf))))) .leaf))) .leaf)) (.pair .leaf .leaf)))))])],od:=[(6,[0,1,2,3,4])] }
noncomputable def sem (a:Arg):OO:=@lift Out fun k=>D.W k a
noncomputable def T0 (a1:Arg) (v402:Connector×(List Sent)):St:={ n:=34,sl:=[(1,.val (.slc u8) a1.2.1),(2,.box tConnector (roMd tConnector) [] v402.1),(5,.box tConnector (ownMd tConnector) [] ((([]:List (List UInt8)),([]:List Buffer),()),(0:Int),(([]:List (List UInt8)),([]:List Buffer),()),(0:Int),())),(7,.own (.slc tSent) (ownMd (.slc tSent)) [] v402.2)],vr:=[],lent:=[] }
noncomputable def b0 (self:(Connector×(List Sent))->OO) (a1:Arg) (v402:Connector×(List Sent)):OO:=(impl_Connector_pull.sem (v402.1,a1.2.1,())).bind fun r603=>bif !decide (r603.1.1=(0:Int)) then (some (v402.2,v402.1,(0:Int),())) else bif r603.1.2.1 then (bif decide ((40:Int)<=(v402.2.length:Int)) then (some (([]:List Sent),((([]:List (List UInt8)),([]:List Buffer),()),(0:Int),(([]:List (List UInt8)),([]:List Buffer),()),(0:Int),()),(2:Int),())) else if v402.2.length+[r603.1.2.2.1].length<=CAP then (self (r603.1.2.2.2.1,v402.2++[r603.1.2.2.1])) else none) else self (r603.1.2.2.2.1,v402.2)
noncomputable abbrev B0 (_:Nat):=b0
noncomputable def s0 (k:Nat) (a1:Arg):(Connector×(List Sent))->OO:=fun v402=>D.L k [1,1,1,0,0] [1,2,5,7] [(2,(.pair (.pair (.slc false (.slc false .leaf)) (.pair (.slc false (.pair .leaf (.pair (.slc false (.pair .leaf (.pair (.pair .leaf (.pair .leaf (.pair .leaf (.pair .leaf .leaf)))) (.pair .leaf (.pair (.pair .leaf (.pair .leaf (.pair .leaf (.pair .leaf .leaf)))) .leaf))))) .leaf))) .leaf)) (.pair .leaf (.pair (.pair (.slc false (.slc false .leaf)) (.pair (.slc false (.pair .leaf (.pair (.slc false (.pair .leaf (.pair (.pair .leaf (.pair .leaf (.pair .leaf (.pair .leaf .leaf)))) (.pair .leaf (.pair (.pair .leaf (.pair .leaf (.pair .leaf (.pair .leaf .leaf)))) .leaf))))) .leaf))) .leaf)) (.pair .leaf .leaf)))))] (blockC 0 D.K0) (T0 a1 v402)
noncomputable def r0 (k:Nat) (a1:Arg):(Connector×(List Sent))->OO:=rawIter (fun w v=>B0 k w a1 v) k
theorem s0_eq (k:Nat) (a1:Arg):s0 k a1=r0 k a1:=
 funext fun v402=>iter_raw _ _ _ (T0 a1) _ (fun rec v=>by kernel_rfl) k v402
noncomputable def p (l0:(Connector×(List Sent))->OO) (a1:Arg):OO:=bif decide ((16000:Int) < (a1.2.1.length:Int)) then (some (([]:List Sent),((([]:List (List UInt8)),([]:List Buffer),()),(0:Int),(([]:List (List UInt8)),([]:List Buffer),()),(0:Int),()),(2:Int),())) else l0 (a1.1,([]:List Sent))
theorem raw_eq (k:Nat) (a1:Arg):@Eq OO (D.W k a1) (p (r0 k a1) a1):=
 bI (b:=p (s0 k a1) a1) (by kernel_rfl) (by rw[s0_eq])
theorem ok:Ok prog 165 D.sig:=fd_ok func165 tlOk (by kernel_rfl) (fc impl_Connector_pull.ok (fn_nil _))
end impl_Connector_drain
namespace impl_DrainLog
abbrev Arg:Type:=Connector×(List UInt8)×Unit
abbrev Out:Type:=SentResult×Unit
noncomputable def D:FD:={ fn:=f72,tl:=TL0,ps:=[(.ro,tConnector),(.ro,(.slc u8))],rs:=[(tSentResult,(ownMd tSentResult))],gl:=[(157,impl_ConnectorFault.D.sig),(159,impl_Connector_own.D.sig),(165,impl_Connector_drain.D.sig)] }
noncomputable def sem (a:Arg):Option Out:=@lift Out fun k=>D.W k a
noncomputable def p (a1:Arg):Option Out:=(impl_ConnectorFault.sem (a1.1,())).bind fun r2=>bif !decide (r2.1=(0:Int)) then (some ((r2.1,([]:List Sent),((([]:List (List UInt8)),([]:List Buffer),()),(0:Int),(([]:List (List UInt8)),([]:List Buffer),()),(0:Int),()),()),())) else (impl_Connector_drain.sem (a1.1,a1.2.1,())).bind fun r3=>(impl_Connector_own.sem (r3.2.1,())).bind fun r4=>some ((r3.2.2.1,r3.1,r4.1,()),())
theorem raw_eq (k:Nat) (a1:Arg):@Eq (Option Out) (D.W k a1) (p a1):=by kernel_rfl
theorem ok:Ok prog 72 D.sig:=fd_ok func72 tlOk (by kernel_rfl) (fc impl_ConnectorFault.ok (fc impl_Connector_own.ok (fc impl_Connector_drain.ok (fn_nil _))))
end impl_DrainLog
namespace laws_eqSentS
abbrev Arg:Type:=(List Sent)×(List Sent)×Unit
abbrev Out:Type:=Bool×Unit
abbrev OO:=Option Out
noncomputable def D:FD:={ fn:=f166,tl:=TL0,ps:=[(.ro,(.slc tSent)),(.ro,(.slc tSent))],rs:=[(.bool,(roMd .bool))],gl:=[(160,laws_eqSent.D.sig)],lv:=[(4,[0,1,5])],lx:=[(0,[])],od:=[(6,[0,1,2,3,4,5,6,7,8,9])] }
noncomputable def sem (a:Arg):OO:=@lift Out fun k=>D.W k a
noncomputable def T0 (a1:Arg) (v402:Int):St:={ n:=27,sl:=[(0,.val (.slc tSent) a1.1),(1,.val (.slc tSent) a1.2.1),(5,.val i64 v402)],vr:=[],lent:=[] }
noncomputable def b0 (self:Int->OO) (e0:(Unit)->OO) (a1:Arg) (v402:Int):OO:=bif decide (v402 < (a1.1.length:Int)) then (if 0<=v402 then ((a1.1[v402.toNat]?).bind fun x603=>if 0<=v402 then ((a1.2.1[v402.toNat]?).bind fun x604=>(laws_eqSent.sem (x603,x604,())).bind fun r605=>bif !r605.1 then (some (false,())) else self (w64 (v402+(1:Int)))) else none) else none) else e0 ()
noncomputable def q0 (a1:Arg) (z606:(Unit)):OO:=some (true,())
noncomputable def s0 (k:Nat) (a1:Arg):(Int)->OO:=fun v402=>D.L k [1,1,0,1,0,0] [0,1,5] [] (blockC 0 (seqC (D.N k [1,1,1]) D.K0)) (T0 a1 v402)
noncomputable def r0 (k:Nat) (a1:Arg):(Int)->OO:=rawIter (fun w v=>b0 w (q0 a1) a1 v) k
theorem s0_eq (k:Nat) (a1:Arg):s0 k a1=r0 k a1:=
 funext fun v402=>iter_raw _ _ _ (T0 a1) _ (fun rec v=>by kernel_rfl) k v402
noncomputable def p (l0:(Int)->OO) (a1:Arg):OO:=bif !decide ((a1.1.length:Int)=(a1.2.1.length:Int)) then (some (false,())) else l0 (0:Int)
theorem raw_eq (k:Nat) (a1:Arg):@Eq OO (D.W k a1) (p (r0 k a1) a1):=
 bI (b:=p (s0 k a1) a1) (by kernel_rfl) (by rw[s0_eq])
theorem ok:Ok prog 166 D.sig:=fd_ok func166 tlOk (by kernel_rfl) (fc laws_eqSent.ok (fn_nil _))
end laws_eqSentS
namespace laws_eqSentResult
abbrev Arg:Type:=SentResult×SentResult×Unit
abbrev Out:Type:=Bool×Unit
noncomputable def D:FD:={ fn:=f73,tl:=TL0,ps:=[(.ro,tSentResult),(.ro,tSentResult)],rs:=[(.bool,(roMd .bool))],gl:=[(65,laws_eqConnector.D.sig),(166,laws_eqSentS.D.sig)] }
noncomputable def sem (a:Arg):Option Out:=@lift Out fun k=>D.W k a
noncomputable def p (a1:Arg):Option Out:=bif !decide (a1.1.1=a1.2.1.1) then (some (false,())) else (laws_eqSentS.sem (a1.1.2.1,a1.2.1.2.1,())).bind fun r2=>bif !r2.1 then (some (false,())) else (laws_eqConnector.sem (a1.1.2.2.1,a1.2.1.2.2.1,())).bind fun r3=>bif !r3.1 then (some (false,())) else some (true,())
theorem raw_eq (k:Nat) (a1:Arg):@Eq (Option Out) (D.W k a1) (p a1):=by kernel_rfl
theorem ok:Ok prog 73 D.sig:=fd_ok func73 tlOk (by kernel_rfl) (fc laws_eqConnector.ok (fc laws_eqSentS.ok (fn_nil _)))
end laws_eqSentResult
namespace laws_markSentS
abbrev Arg:Type:=(List Sent)×Int×Unit
abbrev Out:Type:=Int×(List Sent)×Unit
abbrev OO:=Option Out
noncomputable def D:FD:={ fn:=f167,tl:=TL0,ps:=[(.muts (ownMd (.slc tSent)),(.slc tSent)),(.ro,i64)],rs:=[(i64,(roMd i64))],gl:=[(146,laws_markChangeS.D.sig)],es:=[0],lv:=[(2,[0,1,5])],lx:=[(0,[0,1])] }
noncomputable def sem (a:Arg):OO:=@lift Out fun k=>D.W k a
noncomputable def T0 (a1:Arg) (v402:(List Sent)×Int×Int):St:={ n:=34,sl:=[(0,.own (.slc tSent) (ownMd (.slc tSent)) [] v402.1),(1,.val i64 v402.2.1),(5,.val i64 v402.2.2)],vr:=[],lent:=[(0,0,true)] }
noncomputable def b0 (self:((List Sent)×Int×Int)->OO) (e0:((List Sent)×Int)->OO) (a1:Arg) (v402:(List Sent)×Int×Int):OO:=bif decide (v402.2.2 < (v402.1.length:Int)) then (if 0<=v402.2.2/\v402.2.2 < (v402.1.length:Int) then ((v402.1[v402.2.2.toNat]?).bind fun x603=>let y604:=v402.1.set v402.2.2.toNat (v402.2.1,x603.2);if 0<=v402.2.2/\v402.2.2 < (y604.length:Int) then ((y604[v402.2.2.toNat]?).bind fun x605=>let y606:=y604.set v402.2.2.toNat (x605.1,w64 (v402.2.1+(1:Int)),x605.2.2);if 0<=v402.2.2/\v402.2.2 < (y606.length:Int) then ((y606[v402.2.2.toNat]?).bind fun x607=>(y606[v402.2.2.toNat]?).bind fun x608=>(y606[v402.2.2.toNat]?).bind fun x609=>(laws_markChangeS.sem (x609.2.2.1,w64 ((w64 (v402.2.1+(1:Int)))+(1:Int)),())).bind fun r610=>(y606[v402.2.2.toNat]?).bind fun x611=>let y612:=y606.set v402.2.2.toNat (x611.1,x611.2.1,r610.2.1,x611.2.2.2);self (y612,r610.1,w64 (v402.2.2+(1:Int)))) else none) else none) else none) else e0 (v402.1,v402.2.1)
noncomputable def q0 (a1:Arg) (z613:((List Sent)×Int)):OO:=some (z613.2,z613.1,())
noncomputable def s0 (k:Nat) (a1:Arg):((List Sent)×Int×Int)->OO:=fun v402=>D.L k [1,0,1,0,0] [0,1,5] [] (blockC 0 (seqC (D.N k [1,1]) D.K0)) (T0 a1 v402)
noncomputable def r0 (k:Nat) (a1:Arg):((List Sent)×Int×Int)->OO:=rawIter (fun w v=>b0 w (q0 a1) a1 v) k
theorem s0_eq (k:Nat) (a1:Arg):s0 k a1=r0 k a1:=
 funext fun v402=>iter_raw _ _ _ (T0 a1) _ (fun rec v=>by kernel_rfl) k v402
noncomputable def p (l0:((List Sent)×Int×Int)->OO) (a1:Arg):OO:=l0 (a1.1,a1.2.1,(0:Int))
theorem raw_eq (k:Nat) (a1:Arg):@Eq OO (D.W k a1) (p (r0 k a1) a1):=
 bI (b:=p (s0 k a1) a1) (by kernel_rfl) (by rw[s0_eq])
theorem ok:Ok prog 167 D.sig:=fd_ok func167 tlOk (by kernel_rfl) (fc laws_markChangeS.ok (fn_nil _))
end laws_markSentS
namespace laws_markSentResult
abbrev Arg:Type:=SentResult×Int×Unit
abbrev Out:Type:=Int×SentResult×Unit
noncomputable def D:FD:={ fn:=f74,tl:=TL0,ps:=[(.muts (ownMd tSentResult),tSentResult),(.ro,i64)],rs:=[(i64,(roMd i64))],gl:=[(67,laws_markConnector.D.sig),(167,laws_markSentS.D.sig)],es:=[2] }
noncomputable def sem (a:Arg):Option Out:=@lift Out fun k=>D.W k a
noncomputable def p (a1:Arg):Option Out:=(laws_markSentS.sem (a1.1.2.1,a1.2.1,())).bind fun r2=>(laws_markConnector.sem (a1.1.2.2.1,r2.1,())).bind fun r3=>some (r3.1,(a1.1.1,r2.2.1,r3.2.1,a1.1.2.2.2),())
theorem raw_eq (k:Nat) (a1:Arg):@Eq (Option Out) (D.W k a1) (p a1):=by kernel_rfl
theorem ok:Ok prog 74 D.sig:=fd_ok func74 tlOk (by kernel_rfl) (fc laws_markConnector.ok (fc laws_markSentS.ok (fn_nil _)))
end laws_markSentResult
namespace laws_heldSentS
abbrev Arg:Type:=(List Sent)×Int×Unit
abbrev Out:Type:=Int×Unit
abbrev OO:=Option Out
noncomputable def D:FD:={ fn:=f168,tl:=TL0,ps:=[(.ro,(.slc tSent)),(.ro,i64)],rs:=[(i64,(roMd i64))],gl:=[(147,laws_heldChangeS.D.sig)],lv:=[(2,[0,1,5])],lx:=[(0,[1])] }
noncomputable def sem (a:Arg):OO:=@lift Out fun k=>D.W k a
noncomputable def T0 (a1:Arg) (v402:Int×Int):St:={ n:=40,sl:=[(0,.val (.slc tSent) a1.1),(1,.val i64 v402.1),(5,.val i64 v402.2)],vr:=[],lent:=[] }
noncomputable def b0 (self:(Int×Int)->OO) (e0:Int->OO) (a1:Arg) (v402:Int×Int):OO:=bif decide (v402.2 < (a1.1.length:Int)) then (if 0<=v402.2 then ((a1.1[v402.2.toNat]?).bind fun x603=>bif !decide (x603.1=v402.1) then (some ((-1:Int),())) else if 0<=v402.2 then ((a1.1[v402.2.toNat]?).bind fun x604=>bif !decide (x604.2.1=w64 (v402.1+(1:Int))) then (some ((-1:Int),())) else if 0<=v402.2 then ((a1.1[v402.2.toNat]?).bind fun x605=>(laws_heldChangeS.sem (x605.2.2.1,w64 ((w64 (v402.1+(1:Int)))+(1:Int)),())).bind fun r606=>bif decide (r606.1 < (0:Int)) then (some ((-1:Int),())) else self (r606.1,w64 (v402.2+(1:Int)))) else none) else none) else none) else e0 v402.1
noncomputable def q0 (a1:Arg) (z607:Int):OO:=some (z607,())
noncomputable def s0 (k:Nat) (a1:Arg):(Int×Int)->OO:=fun v402=>D.L k [1,0,1,0,0] [0,1,5] [] (blockC 0 (seqC (D.N k [1,1]) D.K0)) (T0 a1 v402)
noncomputable def r0 (k:Nat) (a1:Arg):(Int×Int)->OO:=rawIter (fun w v=>b0 w (q0 a1) a1 v) k
theorem s0_eq (k:Nat) (a1:Arg):s0 k a1=r0 k a1:=
 funext fun v402=>iter_raw _ _ _ (T0 a1) _ (fun rec v=>by kernel_rfl) k v402
noncomputable def p (l0:(Int×Int)->OO) (a1:Arg):OO:=l0 (a1.2.1,(0:Int))
theorem raw_eq (k:Nat) (a1:Arg):@Eq OO (D.W k a1) (p (r0 k a1) a1):=
 bI (b:=p (s0 k a1) a1) (by kernel_rfl) (by rw[s0_eq])
theorem ok:Ok prog 168 D.sig:=fd_ok func168 tlOk (by kernel_rfl) (fc laws_heldChangeS.ok (fn_nil _))
end laws_heldSentS
namespace laws_heldSentResult
abbrev Arg:Type:=SentResult×Int×Unit
abbrev Out:Type:=Int×Unit
noncomputable def D:FD:={ fn:=f75,tl:=TL0,ps:=[(.ro,tSentResult),(.ro,i64)],rs:=[(i64,(roMd i64))],gl:=[(163,laws_heldConnector.D.sig),(168,laws_heldSentS.D.sig)] }
noncomputable def sem (a:Arg):Option Out:=@lift Out fun k=>D.W k a
noncomputable def p (a1:Arg):Option Out:=(laws_heldSentS.sem (a1.1.2.1,a1.2.1,())).bind fun r2=>bif decide (r2.1 < (0:Int)) then (some ((-1:Int),())) else (laws_heldConnector.sem (a1.1.2.2.1,r2.1,())).bind fun r3=>bif decide (r3.1 < (0:Int)) then (some ((-1:Int),())) else some (r3.1,())
theorem raw_eq (k:Nat) (a1:Arg):@Eq (Option Out) (D.W k a1) (p a1):=by kernel_rfl
theorem ok:Ok prog 75 D.sig:=fd_ok func75 tlOk (by kernel_rfl) (fc laws_heldConnector.ok (fc laws_heldSentS.ok (fn_nil _)))
end laws_heldSentResult
namespace laws_FnExactDrainLog
abbrev Arg:Type:=Connector×(List UInt8)×Unit
abbrev Out:Type:=Bool×Unit
abbrev ps:PQ:=[(.ro,tConnector),(.ro,(.slc u8))]
noncomputable def D:FD:={ fn:=f9,tl:=TL0,ps:=ps,rs:=[(.bool,(roMd .bool))],gl:=[(59,laws_szConnector.D.sig),(61,laws_toConnector.D.sig),(62,laws_toByteS.D.sig),(65,laws_eqConnector.D.sig),(66,laws_eqByteS.D.sig),(67,laws_markConnector.D.sig),(68,laws_markByteS.D.sig),(71,spec_DrainLog.D.sig),(72,impl_DrainLog.D.sig),(73,laws_eqSentResult.D.sig),(74,laws_markSentResult.D.sig),(75,laws_heldSentResult.D.sig)],od:=[(13,[0,1,2,3,4])] }
noncomputable def sem (a:Arg):Option Out:=@lift Out fun k=>D.W k a
noncomputable def p (a1:Arg):Option Out:=bif decide ((1048576:Int) < (a1.2.1.length:Int)) then (some (true,())) else (laws_szConnector.sem (a1.1,(1048576:Int),())).bind fun r2=>bif decide (r2.1 < (0:Int)) then (some (true,())) else (laws_toConnector.sem (a1.1,())).bind fun r3=>(laws_toByteS.sem (a1.2.1,())).bind fun r4=>(spec_DrainLog.sem (r3.1,r4.1,())).bind fun r5=>(laws_toConnector.sem (a1.1,())).bind fun r6=>(laws_toByteS.sem (a1.2.1,())).bind fun r7=>(impl_DrainLog.sem (r6.1,r7.1,())).bind fun r8=>(laws_eqSentResult.sem (r8.1,r5.1,())).bind fun r9=>bif !r9.1 then (some (false,())) else (laws_toConnector.sem (a1.1,())).bind fun r10=>(laws_eqConnector.sem (r6.1,r10.1,())).bind fun r11=>bif !r11.1 then (some (false,())) else (laws_toByteS.sem (a1.2.1,())).bind fun r12=>(laws_eqByteS.sem (r7.1,r12.1,())).bind fun r13=>bif !r13.1 then (some (false,())) else (laws_markConnector.sem (r6.1,(1:Int),())).bind fun r14=>(laws_markByteS.sem (r7.1,r14.1,())).bind fun r15=>bif decide (r15.1 < (0:Int)) then (some (false,())) else (laws_eqSentResult.sem (r8.1,r5.1,())).bind fun r16=>bif !r16.1 then (some (false,())) else (laws_markSentResult.sem (r8.1,(1:Int),())).bind fun r17=>(laws_heldSentResult.sem (r17.2.1,(1:Int),())).bind fun r18=>bif decide (r18.1 < (0:Int)) then (some (false,())) else bif !decide (r18.1=r17.1) then (some (false,())) else (laws_toConnector.sem (a1.1,())).bind fun r19=>(laws_toByteS.sem (a1.2.1,())).bind fun r20=>(impl_DrainLog.sem (r19.1,r20.1,())).bind fun r21=>(laws_eqSentResult.sem (r21.1,r5.1,())).bind fun r22=>bif !r22.1 then (some (false,())) else (laws_heldSentResult.sem (r17.2.1,(1:Int),())).bind fun r23=>bif decide (r23.1 < (0:Int)) then (some (false,())) else bif !decide (r23.1=r17.1) then (some (false,())) else some (true,())
theorem raw_eq (k:Nat) (a1:Arg):@Eq (Option Out) (D.W k a1) (p a1):=by kernel_rfl
theorem ok:Ok prog 9 D.sig:=fd_ok func9 tlOk (by kernel_rfl) (fc laws_szConnector.ok (fc laws_toConnector.ok (fc laws_toByteS.ok (fc laws_eqConnector.ok (fc laws_eqByteS.ok (fc laws_markConnector.ok (fc laws_markByteS.ok (fc spec_DrainLog.ok (fc impl_DrainLog.ok (fc laws_eqSentResult.ok (fc laws_markSentResult.ok (fc laws_heldSentResult.ok (fn_nil _)))))))))))))
end laws_FnExactDrainLog
end OT
set_option linter.unusedSimpArgs false
namespace OT
open Go
noncomputable def mtext (n:Int):List UInt8:=((laws_markText.sem (n,())).map (·.1)).getD []
theorem markText_eq (n:Int) (h:n<=9223372036854775807):laws_markText.sem (n,())=some (mtext n,()):=by
 have main:∃ t,laws_markText.sem (n,())=some (t,()):=by
  by_cases hn:n<=0
  ·refine ⟨[109,48],lift_eq (k:=0) fun k _=>(laws_markText.raw_eq k _).trans ?_⟩
   unfold laws_markText.p;simp only[hn,aE,aL]
   try rfl
  ·have key:∀ (f:Nat) (m:Int) (out:List UInt8),0<=m->m<=9223372036854775807->m < 10 ^ f->out.length+f<=100->∃ t,t.length<=100/\∀ k,f < k->rawIter (fun self v=>laws_markText.B0 0 self (fun z=>laws_markText.Q0 0 (n,()) z) (n,()) v) k (m,out)=some (109::t,()):=by
    intro f
    induction f with
    | zero=>
     intro m out h0 h9 h1 h2;have hm:m=0:=by simp at h1;omega
     subst hm;refine ⟨out,by omega,fun k hk=>?_⟩
     cases k with
     | zero=>omega
     | succ k=>
      rw[rawIter_succ];show laws_markText.b0 _ _ _ _=_;unfold laws_markText.b0 laws_markText.Q0 laws_markText.q0;have hc:([109]:List UInt8).length+out.length<=CAP:=by simp only[CAP,aP,aZ];omega
      simp only[show ¬ ((0:Int) < 0) by omega,aF,aG,hc,aH];rfl
    | succ f ih=>
     intro m out h0 h9 h1 h2;by_cases hm:0 < m
     ·have hq0:0<=m.tdiv 10:=Int.tdiv_nonneg h0 (by omega)
      have hq:m.tdiv 10 < 10 ^ f:=by
       rw[fH h0];have:(10:Int) ^ (f+1)=10 ^ f*10:=Int.pow_succ 10 f;omega
      have hd:=Int.emod_nonneg m (b:=10) (by omega);have hd2:=Int.emod_lt_of_pos m (b:=10) (by omega);obtain ⟨t,t1,t2⟩:=ih (m.tdiv 10) ([UInt8.ofInt (w64 (48+m.tmod 10))]++out) hq0 (by rw[fH h0];omega) hq (by simp;omega);refine ⟨t,t1,fun k hk=>?_⟩
      cases k with
      | zero=>omega
      | succ k=>
       rw[rawIter_succ];show laws_markText.b0 _ _ _ _=_;unfold laws_markText.b0
       have hw:w64 (m.tdiv 10)=m.tdiv 10:=w64_in ⟨by omega,by
        rw[fH h0]
        omega⟩
       have hc:[UInt8.ofInt (w64 (48+m.tmod 10))].length+out.length<=CAP:=by simp only[CAP,aP,aZ];omega
       simp only[hm,aE,aL,hc,aH,hw];exact t2 k (by omega)
     ·have hm:m=0:=by omega
      subst hm;refine ⟨out,by omega,fun k hk=>?_⟩
      cases k with
      | zero=>omega
      | succ k=>
       rw[rawIter_succ];show laws_markText.b0 _ _ _ _=_;unfold laws_markText.b0 laws_markText.Q0 laws_markText.q0;have hc:([109]:List UInt8).length+out.length<=CAP:=by simp only[CAP,aP,aZ];omega
       simp only[show ¬ ((0:Int) < 0) by omega,aF,aG,hc,aH];rfl
   obtain ⟨t,t1,t2⟩:=key 19 n [] (by omega) h (by omega) (by simp);refine ⟨109::t,lift_eq (k:=20) fun k hk=>(laws_markText.raw_eq k _).trans ?_⟩
   unfold laws_markText.p;simp only[hn,aF,aG];exact t2 k (by omega)
 obtain ⟨t,ht⟩:=main;rw[ht];simp[mtext,ht]
theorem szRow_eq (x:Row) (n:Int) (hx:okD tRow x) (h0:0<=n) (h1:n<=1048576):laws_szRow.sem (x,n,())=some (lft n (zz tRow x),()):=by
 have hz:zz tRow x=(0+(0+(0+(List.length x.2.2.2.1+0)))):=rfl;refine lift_eq (k:=0) fun k _=>(laws_szRow.raw_eq k _).trans ?_;show laws_szRow.p _=_;unfold laws_szRow.p;have hw:w64 (n - (List.length x.2.2.2.1:Int))=n - (List.length x.2.2.2.1:Int):=w64_in (by have h9:=hx.2.2.2.1;simp only[okD] at h9;rw[maxLen_val] at h9;omega);simp only[hw];by_cases hc:((List.length x.2.2.2.1:Nat):Int)<=n;rotate_left
 ·have n1:n - ((List.length x.2.2.2.1:Nat):Int) < 0:=by omega
  have e2:lft n (zz tRow x)=-1:=aY (by omega);rw[e2];simp only[n1,aE,aL]
 have n1:¬ (n - ((List.length x.2.2.2.1:Nat):Int) < 0):=by omega
 simp only[n1,aF,aG];clear n1 hw;have e2:lft n (zz tRow x)=(n - ((List.length x.2.2.2.1:Nat):Int)):=by unfold lft;rw[aV (by omega)];omega
 rw[e2]
theorem szChange_eq (x:Change) (n:Int) (hx:okD tChange x) (h0:0<=n) (h1:n<=1048576):laws_szChange.sem (x,n,())=some (lft n (zz tChange x),()):=by
 have hz:zz tChange x=(0+((0+(0+(0+(List.length x.2.1.2.2.2.1+0))))+(0+((0+(0+(0+(List.length x.2.2.2.1.2.2.2.1+0))))+0)))):=rfl;refine lift_eq (k:=0) fun k _=>(laws_szChange.raw_eq k _).trans ?_;show laws_szChange.p _=_;unfold laws_szChange.p;have hz1:zz tRow x.2.1=(0+(0+(0+(List.length x.2.1.2.2.2.1+0)))):=rfl;simp only[szRow_eq x.2.1 (n) hx.2.1 (by omega) (by omega),aB];by_cases hc:((zz tRow x.2.1:Nat):Int)<=n;rotate_left
 ·have e1:lft (n) (zz tRow x.2.1)=-1:=aY hc;have e2:lft n (zz tChange x)=-1:=aY (by omega);rw[e1,e2];rfl
 have e1:lft (n) (zz tRow x.2.1)=n - ((zz tRow x.2.1:Nat):Int):=aV hc;have n1:¬ (n - ((zz tRow x.2.1:Nat):Int) < 0):=by omega
 simp only[e1,n1,aF,aG];clear e1 n1;have hz3:zz tRow x.2.2.2.1=(0+(0+(0+(List.length x.2.2.2.1.2.2.2.1+0)))):=rfl;simp only[szRow_eq x.2.2.2.1 ((n - ((zz tRow x.2.1:Nat):Int))) hx.2.2.2.1 (by omega) (by omega),aB]
 by_cases hc:((zz tRow x.2.2.2.1:Nat):Int)<=(n - ((zz tRow x.2.1:Nat):Int))
 rotate_left
 ·have e1:lft ((n - ((zz tRow x.2.1:Nat):Int))) (zz tRow x.2.2.2.1)=-1:=aY hc;have e2:lft n (zz tChange x)=-1:=aY (by omega);rw[e1,e2];rfl
 have e1:lft ((n - ((zz tRow x.2.1:Nat):Int))) (zz tRow x.2.2.2.1)=(n - ((zz tRow x.2.1:Nat):Int)) - ((zz tRow x.2.2.2.1:Nat):Int):=aV hc;have n1:¬ ((n - ((zz tRow x.2.1:Nat):Int)) - ((zz tRow x.2.2.2.1:Nat):Int) < 0):=by omega
 simp only[e1,n1,aF,aG];clear e1 n1;have e2:lft n (zz tChange x)=((n - ((zz tRow x.2.1:Nat):Int)) - ((zz tRow x.2.2.2.1:Nat):Int)):=by unfold lft;rw[aV (by omega)];omega
 rw[e2]
theorem szChangeS_eq (x:List Change) (n:Int) (hx:okD (.slc tChange) x) (h0:0<=n) (h1:n<=1048576):laws_szChangeS.sem (x,n,())=some (lft n (zz (.slc tChange) x),()):=by
 obtain ⟨hl,hel⟩:=hx;have hl':=hl;rw[maxLen_val] at hl';have hl':List.length x<=9223372036854775807:=hl';have hw:w64 (n - (List.length x:Int))=n - (List.length x:Int):=w64_in (by omega);have hz:zz (.slc tChange) x=List.length x+sumW (zz tChange) x:=rfl;by_cases hc:n - (List.length x:Int) < 0
 ·have e1:lft n (zz (.slc tChange) x)=-1:=aY (by omega);rw[e1];refine lift_eq (k:=0) fun k _=>(laws_szChangeS.raw_eq k _).trans ?_;unfold laws_szChangeS.p;simp only[hw,hc,aE,aL]
  try rfl
 ·have e1:lft n (zz (.slc tChange) x)=lft (n - (List.length x:Int)) (sumW (zz tChange) x):=by rw[hz,lft_add (by omega)]
  rw[e1];refine lift_eq (k:=List.length x+1) fun k hk=>(laws_szChangeS.raw_eq k _).trans ?_;unfold laws_szChangeS.p;simp only[hw,hc,aF,aG]
  exact sz_loop (B:=fun self v=>laws_szChangeS.b0 self (fun z=>laws_szChangeS.q0 (x,n,()) z) (x,n,()) v) (xs:=x) hl (zz tChange) (fun i hi m self hm0 hm1=>by
    show laws_szChangeS.b0 _ _ _ _=_;unfold laws_szChangeS.b0;have hlt:(i:Int) < (List.length x:Int):=by omega
    simp only[hlt,aE,aL,aN,aH,aI,aA hi,aB,szChange_eq x[i] m (hel _ (bC hi)) hm0 hm1]
    by_cases hs:lft m (zz tChange x[i]) < 0 <;> simp[hs]) (fun m self=>by
    show laws_szChangeS.b0 _ _ _ _=_;unfold laws_szChangeS.b0
    simp[laws_szChangeS.q0,laws_szChangeS.q0]) _ (by omega) (by omega) k (by omega)
theorem toRow_eq (x:Row) (h:zz tRow x<=1048576):laws_toRow.sem (x,())=some (x,()):=by
 have hz:zz tRow x=(0+(0+(0+(List.length x.2.2.2.1+0)))):=rfl;refine lift_eq (k:=0) fun k _=>(laws_toRow.raw_eq k _).trans ?_;show laws_toRow.p _=_;unfold laws_toRow.p;rfl
theorem toChange_eq (x:Change) (h:zz tChange x<=1048576):laws_toChange.sem (x,())=some (x,()):=by
 have hz:zz tChange x=(0+((0+(0+(0+(List.length x.2.1.2.2.2.1+0))))+(0+((0+(0+(0+(List.length x.2.2.2.1.2.2.2.1+0))))+0)))):=rfl;have hz1:zz tRow x.2.1=(0+(0+(0+(List.length x.2.1.2.2.2.1+0)))):=rfl;have hz3:zz tRow x.2.2.2.1=(0+(0+(0+(List.length x.2.2.2.1.2.2.2.1+0)))):=rfl;refine lift_eq (k:=0) fun k _=>(laws_toChange.raw_eq k _).trans ?_;show laws_toChange.p _=_;unfold laws_toChange.p;simp only[toRow_eq x.2.1 (by omega),toRow_eq x.2.2.2.1 (by omega),aB]
theorem toChangeS_eq (x:List Change) (h:zz (.slc tChange) x<=1048576):laws_toChangeS.sem (x,())=some (x,()):=by
 have hl:x.length<=1048576:=bK (zz_len (e:=tChange) x) h;refine lift_eq (k:=x.length+1) fun k hk=>(laws_toChangeS.raw_eq k _).trans ?_;unfold laws_toChangeS.p;have hc:0<=(x.length:Int)/\(x.length:Int)<=(x.length:Int)/\(x.length:Int)<=(CAP:Int):=by simp only[CAP];omega
 simp only[hc,cU,aH,aI]
 exact copy_loop (B:=fun self v=>laws_toChangeS.b0 self (fun z=>laws_toChangeS.q0 (x,()) z) (x,()) v) (xs:=x) (by rw[maxLen_val];omega) (fun i hi acc self ha=>by
  show laws_toChangeS.b0 _ _ _ _=_;unfold laws_toChangeS.b0;have hlt:(i:Int) < (x.length:Int):=by omega
  have hlt2:(i:Int) < (acc.length:Int):=by omega
  simp only[hlt,hlt2,aE,aL,aN,cU,aH,aI,aA hi,aA (show i < acc.length by omega),aB,toChange_eq x[i] (by have:=zz_mem (e:=tChange) (bC hi);omega)]) (fun acc self=>by
  show laws_toChangeS.b0 _ _ _ _=_;unfold laws_toChangeS.b0
  simp[laws_toChangeS.q0,laws_toChangeS.q0]) _ k (by omega)
theorem eqRow_self (x:Row) (h:zz tRow x<=4611686018427387904):laws_eqRow.sem (x,x,())=some (true,()):=by
 have hz:zz tRow x=(0+(0+(0+(List.length x.2.2.2.1+0)))):=rfl;refine lift_eq (k:=0) fun k _=>(laws_eqRow.raw_eq k _).trans ?_;show laws_eqRow.p _=_;unfold laws_eqRow.p;simp[]
theorem eqChange_self (x:Change) (h:zz tChange x<=4611686018427387904):laws_eqChange.sem (x,x,())=some (true,()):=by
 have hz:zz tChange x=(0+((0+(0+(0+(List.length x.2.1.2.2.2.1+0))))+(0+((0+(0+(0+(List.length x.2.2.2.1.2.2.2.1+0))))+0)))):=rfl;have hz1:zz tRow x.2.1=(0+(0+(0+(List.length x.2.1.2.2.2.1+0)))):=rfl;have hz3:zz tRow x.2.2.2.1=(0+(0+(0+(List.length x.2.2.2.1.2.2.2.1+0)))):=rfl;refine lift_eq (k:=0) fun k _=>(laws_eqChange.raw_eq k _).trans ?_;show laws_eqChange.p _=_;unfold laws_eqChange.p;have q0:=eqRow_self x.2.1 (by omega);have q1:=eqRow_self x.2.2.2.1 (by omega);simp[q0,q1]
theorem eqChangeS_self (x:List Change) (h:zz (.slc tChange) x<=4611686018427387904):laws_eqChangeS.sem (x,x,())=some (true,()):=by
 have hl:x.length<=4611686018427387904:=bK (zz_len (e:=tChange) x) h;refine lift_eq (k:=x.length+1) fun k hk=>(laws_eqChangeS.raw_eq k _).trans ?_;unfold laws_eqChangeS.p;simp only[aE,aQ,aG]
 have:=all_loop (B:=fun self v=>laws_eqChangeS.b0 self (fun z=>laws_eqChangeS.q0 (x,x,()) z) (x,x,()) v) (xs:=x) (ys:=x) (fun _ _=>true) rfl (by rw[maxLen_val];omega) (fun i hi hj self=>by
   show laws_eqChangeS.b0 _ _ _ _=_;unfold laws_eqChangeS.b0;have hlt:(i:Int) < (x.length:Int):=by omega
   simp only[hlt,aE,aL,aN,aH,aI,aA hi,aB,aQ,aG,eqChange_self x[i] (by have:=zz_mem (e:=tChange) (bC hi);omega)]) (fun self=>by
   show laws_eqChangeS.b0 _ _ _ _=_;unfold laws_eqChangeS.b0
   simp[laws_eqChangeS.q0,laws_eqChangeS.q0]) k (by omega)
 rw[show allB (fun _ _=>true) x x=true by simp[allB]] at this;exact this
def KChangeS (x:Change) (k:Int) (y:Change) (k':Int):Prop:=y=((decide ((k).tmod (3:Int)=(0:Int))),((k+1),(k+1+1),(k+1+1+1),(mtext (k+1+1+1+1)),x.2.1.2.2.2.2),(decide ((k+1+1+1+1+1).tmod (3:Int)=(0:Int))),((k+1+1+1+1+1+1),(k+1+1+1+1+1+1+1),(k+1+1+1+1+1+1+1+1),(mtext (k+1+1+1+1+1+1+1+1+1)),x.2.2.2.1.2.2.2.2),x.2.2.2.2)/\k+1+1+1+1+1+1+1+1+1+1=k'
theorem mkChangeS (x:List Change) (k:Int) (h0:0<=k) (h1:k+32*((zz (.slc tChange) x:Nat):Int)<=BIG):∃ (k':Int) (y:List Change),laws_markChangeS.sem (x,k,())=some (k',y,())/\k<=k'/\k'<=k+32*((zz (.slc tChange) x:Nat):Int):=by
 have hB:BIG=4611686018427387904:=rfl;have hl:List.length x<=zz (.slc tChange) x:=zz_len (e:=tChange) x;have hs:sumW (fun x:Change=>32*(zz tChange x+1)) x=32*zz (.slc tChange) x:=sumW_32 (zz tChange) x
 obtain ⟨ys,k',g1,g2,g3,g4,g5⟩:=mark_loop (B:=fun self v=>laws_markChangeS.b0 self (fun z=>laws_markChangeS.q0 (x,k,()) z) (x,k,()) v) (xs:=x) (by rw[maxLen_val];omega) KChangeS (fun x:Change=>32*(zz tChange x+1)) (fun x hx k h0 h1=>by
   have hz:zz tChange x=(0+((0+(0+(0+(List.length x.2.1.2.2.2.1+0))))+(0+((0+(0+(0+(List.length x.2.2.2.1.2.2.2.1+0))))+0)))):=rfl
   exact ⟨_,_,by omega,by omega,⟨rfl,rfl⟩⟩) (fun i acc k self x y k' hi hx h0 h1 h2 h3 hE=>by
   have hz:zz tChange x=(0+((0+(0+(0+(List.length x.2.1.2.2.2.1+0))))+(0+((0+(0+(0+(List.length x.2.2.2.1.2.2.2.1+0))))+0)))):=rfl;obtain ⟨rfl,rfl⟩:=hE;show laws_markChangeS.b0 _ _ _ _=_;unfold laws_markChangeS.b0;have hlt:(i:Int) < (acc.length:Int):=by omega
   simp (disch:=omega) only [hlt,aE,aL,aN,cU,aH,aI,hx,aB,cY,get_self_set,fO,w64_in,markText_eq]) (fun acc k self=>by
   show laws_markChangeS.b0 _ _ _ _=_;unfold laws_markChangeS.b0
   simp[laws_markChangeS.q0,laws_markChangeS.q0]) k h0 (by rw[hs];omega)
 refine ⟨k',ys,lift_eq (k:=x.length+1) fun f hf=>(laws_markChangeS.raw_eq f _).trans (g5 f (by omega)),g1,by rw[hs] at g2;omega⟩
def EChangeS (x:Change) (k:Int) (y:Change) (k':Int):Prop:=y=((decide ((k).tmod (3:Int)=(0:Int))),((k+1),(k+1+1),(k+1+1+1),(mtext (k+1+1+1+1)),x.2.1.2.2.2.2),(decide ((k+1+1+1+1+1).tmod (3:Int)=(0:Int))),((k+1+1+1+1+1+1),(k+1+1+1+1+1+1+1),(k+1+1+1+1+1+1+1+1),(mtext (k+1+1+1+1+1+1+1+1+1)),x.2.2.2.1.2.2.2.2),x.2.2.2.2)/\k+1+1+1+1+1+1+1+1+1+1=k'
theorem mhChangeS (x:List Change) (k:Int) (h0:0<=k) (h1:k+32*((zz (.slc tChange) x:Nat):Int)<=BIG):∃ (k':Int) (y:List Change),laws_markChangeS.sem (x,k,())=some (k',y,())/\laws_heldChangeS.sem (y,k,())=some (k',())/\k<=k'/\k'<=k+32*((zz (.slc tChange) x:Nat):Int):=by
 have hB:BIG=4611686018427387904:=rfl;have hl:List.length x<=zz (.slc tChange) x:=zz_len (e:=tChange) x;have hs:sumW (fun x:Change=>32*(zz tChange x+1)) x=32*zz (.slc tChange) x:=sumW_32 (zz tChange) x
 obtain ⟨ys,k',g1,g2,g3,g4,g5⟩:=mark_loop (B:=fun self v=>laws_markChangeS.b0 self (fun z=>laws_markChangeS.q0 (x,k,()) z) (x,k,()) v) (xs:=x) (by rw[maxLen_val];omega) EChangeS (fun x:Change=>32*(zz tChange x+1)) (fun x hx k h0 h1=>by
   have hz:zz tChange x=(0+((0+(0+(0+(List.length x.2.1.2.2.2.1+0))))+(0+((0+(0+(0+(List.length x.2.2.2.1.2.2.2.1+0))))+0)))):=rfl
   exact ⟨_,_,by omega,by omega,⟨rfl,rfl⟩⟩) (fun i acc k self x y k' hi hx h0 h1 h2 h3 hE=>by
   have hz:zz tChange x=(0+((0+(0+(0+(List.length x.2.1.2.2.2.1+0))))+(0+((0+(0+(0+(List.length x.2.2.2.1.2.2.2.1+0))))+0)))):=rfl;obtain ⟨rfl,rfl⟩:=hE;show laws_markChangeS.b0 _ _ _ _=_;unfold laws_markChangeS.b0;have hlt:(i:Int) < (acc.length:Int):=by omega
   simp (disch:=omega) only [hlt,aE,aL,aN,cU,aH,aI,hx,aB,cY,get_self_set,fO,w64_in,markText_eq]) (fun acc k self=>by
   show laws_markChangeS.b0 _ _ _ _=_;unfold laws_markChangeS.b0
   simp[laws_markChangeS.q0,laws_markChangeS.q0]) k h0 (by rw[hs];omega)
 refine ⟨k',ys,lift_eq (k:=x.length+1) fun f hf=>(laws_markChangeS.raw_eq f _).trans (g5 f (by omega)),?_,g1,by rw[hs] at g2;omega⟩
 refine lift_eq (k:=ys.length+1) fun f hf=>(laws_heldChangeS.raw_eq f _).trans ?_
 exact held_loop (B:=fun self v=>laws_heldChangeS.b0 self (fun z=>laws_heldChangeS.q0 (ys,k,()) z) (ys,k,()) v) (by rw[maxLen_val];omega) g4 (fun i k self x y k' hi hx h0 h1 h2 h3 hE=>by
   have hz:zz tChange x=(0+((0+(0+(0+(List.length x.2.1.2.2.2.1+0))))+(0+((0+(0+(0+(List.length x.2.2.2.1.2.2.2.1+0))))+0)))):=rfl;obtain ⟨rfl,rfl⟩:=hE;show laws_heldChangeS.b0 _ _ _ _=_;unfold laws_heldChangeS.b0;have hlt:(i:Int) < (ys.length:Int):=by omega
   simp (disch:=omega) only [hlt,aE,aL,aN,cU,aH,aI,hx,aB,w64_in,markText_eq,fT,aQ,aG,aF]) (fun k self=>by
   show laws_heldChangeS.b0 _ _ _ _=_;unfold laws_heldChangeS.b0
   simp[laws_heldChangeS.q0,laws_heldChangeS.q0]) f (by omega)
theorem szByteS_eq (x:List UInt8) (n:Int) (hx:okD (.slc u8) x) (h0:0<=n) (h1:n<=1048576):laws_szByteS.sem (x,n,())=some (lft n (zz (.slc u8) x),()):=by
 obtain ⟨hl,hel⟩:=hx;have hl':=hl;rw[maxLen_val] at hl';have hl':List.length x<=9223372036854775807:=hl';have hw:w64 (n - (List.length x:Int))=n - (List.length x:Int):=w64_in (by omega);have hz:zz (.slc u8) x=List.length x+0:=by show List.length x+sumW _ _=_;exact dF (List.length x+·) (sumW_zero _ (fun _=>rfl) x)
 refine lift_eq (k:=0) fun k _=>(laws_szByteS.raw_eq k _).trans ?_;show laws_szByteS.p _=_;unfold laws_szByteS.p;simp only[hw,hz,eO];by_cases hc:(List.length x:Int)<=n
 ·have e1:lft n (List.length x)=n - (List.length x:Int):=aV hc;have n1:¬ (n - (List.length x:Int) < 0):=by omega
  simp[e1,n1]
 ·have e1:lft n (List.length x)=-1:=aY hc;have n1:n - (List.length x:Int) < 0:=by omega
  simp[e1,n1]
theorem szByteSS_eq (x:List (List UInt8)) (n:Int) (hx:okD (.slc (.slc u8)) x) (h0:0<=n) (h1:n<=1048576):laws_szByteSS.sem (x,n,())=some (lft n (zz (.slc (.slc u8)) x),()):=by
 obtain ⟨hl,hel⟩:=hx;have hl':=hl;rw[maxLen_val] at hl';have hl':List.length x<=9223372036854775807:=hl';have hw:w64 (n - (List.length x:Int))=n - (List.length x:Int):=w64_in (by omega);have hz:zz (.slc (.slc u8)) x=List.length x+sumW (zz (.slc u8)) x:=rfl;by_cases hc:n - (List.length x:Int) < 0
 ·have e1:lft n (zz (.slc (.slc u8)) x)=-1:=aY (by omega);rw[e1];refine lift_eq (k:=0) fun k _=>(laws_szByteSS.raw_eq k _).trans ?_;unfold laws_szByteSS.p;simp only[hw,hc,aE,aL]
  try rfl
 ·have e1:lft n (zz (.slc (.slc u8)) x)=lft (n - (List.length x:Int)) (sumW (zz (.slc u8)) x):=by rw[hz,lft_add (by omega)]
  rw[e1];refine lift_eq (k:=List.length x+1) fun k hk=>(laws_szByteSS.raw_eq k _).trans ?_;unfold laws_szByteSS.p;simp only[hw,hc,aF,aG]
  exact sz_loop (B:=fun self v=>laws_szByteSS.b0 self (fun z=>laws_szByteSS.q0 (x,n,()) z) (x,n,()) v) (xs:=x) hl (zz (.slc u8)) (fun i hi m self hm0 hm1=>by
    show laws_szByteSS.b0 _ _ _ _=_;unfold laws_szByteSS.b0;have hlt:(i:Int) < (List.length x:Int):=by omega
    simp only[hlt,aE,aL,aN,aH,aI,aA hi,aB,szByteS_eq x[i] m (hel _ (bC hi)) hm0 hm1]
    by_cases hs:lft m (zz (.slc u8) x[i]) < 0 <;> simp[hs]) (fun m self=>by
    show laws_szByteSS.b0 _ _ _ _=_;unfold laws_szByteSS.b0
    simp[laws_szByteSS.q0,laws_szByteSS.q0]) _ (by omega) (by omega) k (by omega)
theorem szBuffer_eq (x:Buffer) (n:Int) (hx:okD tBuffer x) (h0:0<=n) (h1:n<=1048576):laws_szBuffer.sem (x,n,())=some (lft n (zz tBuffer x),()):=by
 have hz:zz tBuffer x=(0+(zz (.slc tChange) x.2.1+0)):=rfl;refine lift_eq (k:=0) fun k _=>(laws_szBuffer.raw_eq k _).trans ?_;show laws_szBuffer.p _=_;unfold laws_szBuffer.p;simp only[szChangeS_eq x.2.1 (n) hx.2.1 (by omega) (by omega),aB];by_cases hc:((zz (.slc tChange) x.2.1:Nat):Int)<=n;rotate_left
 ·have e1:lft (n) (zz (.slc tChange) x.2.1)=-1:=aY hc;have e2:lft n (zz tBuffer x)=-1:=aY (by omega);rw[e1,e2];rfl
 have e1:lft (n) (zz (.slc tChange) x.2.1)=n - ((zz (.slc tChange) x.2.1:Nat):Int):=aV hc;have n1:¬ (n - ((zz (.slc tChange) x.2.1:Nat):Int) < 0):=by omega
 simp only[e1,n1,aF,aG];clear e1 n1;have e2:lft n (zz tBuffer x)=(n - ((zz (.slc tChange) x.2.1:Nat):Int)):=by unfold lft;rw[aV (by omega)];omega
 rw[e2]
theorem szBufferS_eq (x:List Buffer) (n:Int) (hx:okD (.slc tBuffer) x) (h0:0<=n) (h1:n<=1048576):laws_szBufferS.sem (x,n,())=some (lft n (zz (.slc tBuffer) x),()):=by
 obtain ⟨hl,hel⟩:=hx;have hl':=hl;rw[maxLen_val] at hl';have hl':List.length x<=9223372036854775807:=hl';have hw:w64 (n - (List.length x:Int))=n - (List.length x:Int):=w64_in (by omega);have hz:zz (.slc tBuffer) x=List.length x+sumW (zz tBuffer) x:=rfl;by_cases hc:n - (List.length x:Int) < 0
 ·have e1:lft n (zz (.slc tBuffer) x)=-1:=aY (by omega);rw[e1];refine lift_eq (k:=0) fun k _=>(laws_szBufferS.raw_eq k _).trans ?_;unfold laws_szBufferS.p;simp only[hw,hc,aE,aL]
  try rfl
 ·have e1:lft n (zz (.slc tBuffer) x)=lft (n - (List.length x:Int)) (sumW (zz tBuffer) x):=by rw[hz,lft_add (by omega)]
  rw[e1];refine lift_eq (k:=List.length x+1) fun k hk=>(laws_szBufferS.raw_eq k _).trans ?_;unfold laws_szBufferS.p;simp only[hw,hc,aF,aG]
  exact sz_loop (B:=fun self v=>laws_szBufferS.b0 self (fun z=>laws_szBufferS.q0 (x,n,()) z) (x,n,()) v) (xs:=x) hl (zz tBuffer) (fun i hi m self hm0 hm1=>by
    show laws_szBufferS.b0 _ _ _ _=_;unfold laws_szBufferS.b0;have hlt:(i:Int) < (List.length x:Int):=by omega
    simp only[hlt,aE,aL,aN,aH,aI,aA hi,aB,szBuffer_eq x[i] m (hel _ (bC hi)) hm0 hm1]
    by_cases hs:lft m (zz tBuffer x[i]) < 0 <;> simp[hs]) (fun m self=>by
    show laws_szBufferS.b0 _ _ _ _=_;unfold laws_szBufferS.b0
    simp[laws_szBufferS.q0,laws_szBufferS.q0]) _ (by omega) (by omega) k (by omega)
theorem szMiner_eq (x:Miner) (n:Int) (hx:okD tMiner x) (h0:0<=n) (h1:n<=1048576):laws_szMiner.sem (x,n,())=some (lft n (zz tMiner x),()):=by
 have hz:zz tMiner x=(zz (.slc (.slc u8)) x.1+(zz (.slc tBuffer) x.2.1+0)):=rfl;refine lift_eq (k:=0) fun k _=>(laws_szMiner.raw_eq k _).trans ?_;show laws_szMiner.p _=_;unfold laws_szMiner.p;simp only[szByteSS_eq x.1 (n) hx.1 (by omega) (by omega),aB];by_cases hc:((zz (.slc (.slc u8)) x.1:Nat):Int)<=n;rotate_left
 ·have e1:lft (n) (zz (.slc (.slc u8)) x.1)=-1:=aY hc;have e2:lft n (zz tMiner x)=-1:=aY (by omega);rw[e1,e2];rfl
 have e1:lft (n) (zz (.slc (.slc u8)) x.1)=n - ((zz (.slc (.slc u8)) x.1:Nat):Int):=aV hc;have n1:¬ (n - ((zz (.slc (.slc u8)) x.1:Nat):Int) < 0):=by omega
 simp only[e1,n1,aF,aG];clear e1 n1;simp only[szBufferS_eq x.2.1 ((n - ((zz (.slc (.slc u8)) x.1:Nat):Int))) hx.2.1 (by omega) (by omega),aB]
 by_cases hc:((zz (.slc tBuffer) x.2.1:Nat):Int)<=(n - ((zz (.slc (.slc u8)) x.1:Nat):Int))
 rotate_left
 ·have e1:lft ((n - ((zz (.slc (.slc u8)) x.1:Nat):Int))) (zz (.slc tBuffer) x.2.1)=-1:=aY hc;have e2:lft n (zz tMiner x)=-1:=aY (by omega);rw[e1,e2];rfl
 have e1:lft ((n - ((zz (.slc (.slc u8)) x.1:Nat):Int))) (zz (.slc tBuffer) x.2.1)=(n - ((zz (.slc (.slc u8)) x.1:Nat):Int)) - ((zz (.slc tBuffer) x.2.1:Nat):Int):=aV hc;have n1:¬ ((n - ((zz (.slc (.slc u8)) x.1:Nat):Int)) - ((zz (.slc tBuffer) x.2.1:Nat):Int) < 0):=by omega
 simp only[e1,n1,aF,aG];clear e1 n1;have e2:lft n (zz tMiner x)=((n - ((zz (.slc (.slc u8)) x.1:Nat):Int)) - ((zz (.slc tBuffer) x.2.1:Nat):Int)):=by unfold lft;rw[aV (by omega)];omega
 rw[e2]
theorem toByteS_eq (x:List UInt8) (h:zz (.slc u8) x<=1048576):laws_toByteS.sem (x,())=some (x,()):=by
 have hl:x.length<=1048576:=bK (zz_len (e:=u8) x) h;refine lift_eq (k:=x.length+1) fun k hk=>(laws_toByteS.raw_eq k _).trans ?_;unfold laws_toByteS.p;have hc:0<=(x.length:Int)/\(x.length:Int)<=(x.length:Int)/\(x.length:Int)<=(CAP:Int):=by simp only[CAP];omega
 simp only[hc,cU,aH,aI]
 exact copy_loop (B:=fun self v=>laws_toByteS.b0 self (fun z=>laws_toByteS.q0 (x,()) z) (x,()) v) (xs:=x) (by rw[maxLen_val];omega) (fun i hi acc self ha=>by
  show laws_toByteS.b0 _ _ _ _=_;unfold laws_toByteS.b0;have hlt:(i:Int) < (x.length:Int):=by omega
  have hlt2:(i:Int) < (acc.length:Int):=by omega
  simp only[hlt,hlt2,aE,aL,aN,cU,aH,aI,aA hi,aA (show i < acc.length by omega),aB]) (fun acc self=>by
  show laws_toByteS.b0 _ _ _ _=_;unfold laws_toByteS.b0
  simp[laws_toByteS.q0,laws_toByteS.q0]) _ k (by omega)
theorem toByteSS_eq (x:List (List UInt8)) (h:zz (.slc (.slc u8)) x<=1048576):laws_toByteSS.sem (x,())=some (x,()):=by
 have hl:x.length<=1048576:=bK (zz_len (e:=(.slc u8)) x) h;refine lift_eq (k:=x.length+1) fun k hk=>(laws_toByteSS.raw_eq k _).trans ?_;unfold laws_toByteSS.p;have hc:0<=(x.length:Int)/\(x.length:Int)<=(x.length:Int)/\(x.length:Int)<=(CAP:Int):=by simp only[CAP];omega
 simp only[hc,cU,aH,aI]
 exact copy_loop (B:=fun self v=>laws_toByteSS.b0 self (fun z=>laws_toByteSS.q0 (x,()) z) (x,()) v) (xs:=x) (by rw[maxLen_val];omega) (fun i hi acc self ha=>by
  show laws_toByteSS.b0 _ _ _ _=_;unfold laws_toByteSS.b0;have hlt:(i:Int) < (x.length:Int):=by omega
  have hlt2:(i:Int) < (acc.length:Int):=by omega
  simp only[hlt,hlt2,aE,aL,aN,cU,aH,aI,aA hi,aA (show i < acc.length by omega),aB,toByteS_eq x[i] (by have:=zz_mem (e:=(.slc u8)) (bC hi);omega)]) (fun acc self=>by
  show laws_toByteSS.b0 _ _ _ _=_;unfold laws_toByteSS.b0
  simp[laws_toByteSS.q0,laws_toByteSS.q0]) _ k (by omega)
theorem toBuffer_eq (x:Buffer) (h:zz tBuffer x<=1048576):laws_toBuffer.sem (x,())=some (x,()):=by
 have hz:zz tBuffer x=(0+(zz (.slc tChange) x.2.1+0)):=rfl;refine lift_eq (k:=0) fun k _=>(laws_toBuffer.raw_eq k _).trans ?_;show laws_toBuffer.p _=_;unfold laws_toBuffer.p;simp only[toChangeS_eq x.2.1 (by omega),aB]
theorem toBufferS_eq (x:List Buffer) (h:zz (.slc tBuffer) x<=1048576):laws_toBufferS.sem (x,())=some (x,()):=by
 have hl:x.length<=1048576:=bK (zz_len (e:=tBuffer) x) h;refine lift_eq (k:=x.length+1) fun k hk=>(laws_toBufferS.raw_eq k _).trans ?_;unfold laws_toBufferS.p;have hc:0<=(x.length:Int)/\(x.length:Int)<=(x.length:Int)/\(x.length:Int)<=(CAP:Int):=by simp only[CAP];omega
 simp only[hc,cU,aH,aI]
 exact copy_loop (B:=fun self v=>laws_toBufferS.b0 self (fun z=>laws_toBufferS.q0 (x,()) z) (x,()) v) (xs:=x) (by rw[maxLen_val];omega) (fun i hi acc self ha=>by
  show laws_toBufferS.b0 _ _ _ _=_;unfold laws_toBufferS.b0;have hlt:(i:Int) < (x.length:Int):=by omega
  have hlt2:(i:Int) < (acc.length:Int):=by omega
  simp only[hlt,hlt2,aE,aL,aN,cU,aH,aI,aA hi,aA (show i < acc.length by omega),aB,toBuffer_eq x[i] (by have:=zz_mem (e:=tBuffer) (bC hi);omega)]) (fun acc self=>by
  show laws_toBufferS.b0 _ _ _ _=_;unfold laws_toBufferS.b0
  simp[laws_toBufferS.q0,laws_toBufferS.q0]) _ k (by omega)
theorem toMiner_eq (x:Miner) (h:zz tMiner x<=1048576):laws_toMiner.sem (x,())=some (x,()):=by
 have hz:zz tMiner x=(zz (.slc (.slc u8)) x.1+(zz (.slc tBuffer) x.2.1+0)):=rfl;refine lift_eq (k:=0) fun k _=>(laws_toMiner.raw_eq k _).trans ?_;show laws_toMiner.p _=_;unfold laws_toMiner.p;simp only[toByteSS_eq x.1 (by omega),toBufferS_eq x.2.1 (by omega),aB]
theorem eqByteS_self (x:List UInt8) (h:zz (.slc u8) x<=4611686018427387904):laws_eqByteS.sem (x,x,())=some (true,()):=by
 have hl:x.length<=4611686018427387904:=bK (zz_len (e:=u8) x) h;refine lift_eq (k:=x.length+1) fun k hk=>(laws_eqByteS.raw_eq k _).trans ?_;unfold laws_eqByteS.p;simp only[aE,aQ,aG]
 have:=all_loop (B:=fun self v=>laws_eqByteS.b0 self (fun z=>laws_eqByteS.q0 (x,x,()) z) (x,x,()) v) (xs:=x) (ys:=x) (fun _ _=>true) rfl (by rw[maxLen_val];omega) (fun i hi hj self=>by
   show laws_eqByteS.b0 _ _ _ _=_;unfold laws_eqByteS.b0;have hlt:(i:Int) < (x.length:Int):=by omega
   simp only[hlt,aE,aL,aN,aH,aI,aA hi,aB,aQ,aG]) (fun self=>by
   show laws_eqByteS.b0 _ _ _ _=_;unfold laws_eqByteS.b0
   simp[laws_eqByteS.q0,laws_eqByteS.q0]) k (by omega)
 rw[show allB (fun _ _=>true) x x=true by simp[allB]] at this;exact this
theorem eqByteSS_self (x:List (List UInt8)) (h:zz (.slc (.slc u8)) x<=4611686018427387904):laws_eqByteSS.sem (x,x,())=some (true,()):=by
 have hl:x.length<=4611686018427387904:=bK (zz_len (e:=(.slc u8)) x) h;refine lift_eq (k:=x.length+1) fun k hk=>(laws_eqByteSS.raw_eq k _).trans ?_;unfold laws_eqByteSS.p;simp only[aE,aQ,aG]
 have:=all_loop (B:=fun self v=>laws_eqByteSS.b0 self (fun z=>laws_eqByteSS.q0 (x,x,()) z) (x,x,()) v) (xs:=x) (ys:=x) (fun _ _=>true) rfl (by rw[maxLen_val];omega) (fun i hi hj self=>by
   show laws_eqByteSS.b0 _ _ _ _=_;unfold laws_eqByteSS.b0;have hlt:(i:Int) < (x.length:Int):=by omega
   simp only[hlt,aE,aL,aN,aH,aI,aA hi,aB,aQ,aG,eqByteS_self x[i] (by have:=zz_mem (e:=(.slc u8)) (bC hi);omega)]) (fun self=>by
   show laws_eqByteSS.b0 _ _ _ _=_;unfold laws_eqByteSS.b0
   simp[laws_eqByteSS.q0,laws_eqByteSS.q0]) k (by omega)
 rw[show allB (fun _ _=>true) x x=true by simp[allB]] at this;exact this
theorem eqBuffer_self (x:Buffer) (h:zz tBuffer x<=4611686018427387904):laws_eqBuffer.sem (x,x,())=some (true,()):=by
 have hz:zz tBuffer x=(0+(zz (.slc tChange) x.2.1+0)):=rfl;refine lift_eq (k:=0) fun k _=>(laws_eqBuffer.raw_eq k _).trans ?_;show laws_eqBuffer.p _=_;unfold laws_eqBuffer.p;have q0:=eqChangeS_self x.2.1 (by omega);simp[q0]
theorem eqBufferS_self (x:List Buffer) (h:zz (.slc tBuffer) x<=4611686018427387904):laws_eqBufferS.sem (x,x,())=some (true,()):=by
 have hl:x.length<=4611686018427387904:=bK (zz_len (e:=tBuffer) x) h;refine lift_eq (k:=x.length+1) fun k hk=>(laws_eqBufferS.raw_eq k _).trans ?_;unfold laws_eqBufferS.p;simp only[aE,aQ,aG]
 have:=all_loop (B:=fun self v=>laws_eqBufferS.b0 self (fun z=>laws_eqBufferS.q0 (x,x,()) z) (x,x,()) v) (xs:=x) (ys:=x) (fun _ _=>true) rfl (by rw[maxLen_val];omega) (fun i hi hj self=>by
   show laws_eqBufferS.b0 _ _ _ _=_;unfold laws_eqBufferS.b0;have hlt:(i:Int) < (x.length:Int):=by omega
   simp only[hlt,aE,aL,aN,aH,aI,aA hi,aB,aQ,aG,eqBuffer_self x[i] (by have:=zz_mem (e:=tBuffer) (bC hi);omega)]) (fun self=>by
   show laws_eqBufferS.b0 _ _ _ _=_;unfold laws_eqBufferS.b0
   simp[laws_eqBufferS.q0,laws_eqBufferS.q0]) k (by omega)
 rw[show allB (fun _ _=>true) x x=true by simp[allB]] at this;exact this
theorem eqMiner_self (x:Miner) (h:zz tMiner x<=4611686018427387904):laws_eqMiner.sem (x,x,())=some (true,()):=by
 have hz:zz tMiner x=(zz (.slc (.slc u8)) x.1+(zz (.slc tBuffer) x.2.1+0)):=rfl;refine lift_eq (k:=0) fun k _=>(laws_eqMiner.raw_eq k _).trans ?_;show laws_eqMiner.p _=_;unfold laws_eqMiner.p;have q0:=eqByteSS_self x.1 (by omega);have q1:=eqBufferS_self x.2.1 (by omega);simp[q0,q1]
def KByteS (x:UInt8) (k:Int) (y:UInt8) (k':Int):Prop:=y=(UInt8.ofInt (k))/\k+1=k'
theorem mkByteS (x:List UInt8) (k:Int) (h0:0<=k) (h1:k+32*((zz (.slc u8) x:Nat):Int)<=BIG):∃ (k':Int) (y:List UInt8),laws_markByteS.sem (x,k,())=some (k',y,())/\k<=k'/\k'<=k+32*((zz (.slc u8) x:Nat):Int):=by
 have hB:BIG=4611686018427387904:=rfl;have hl:List.length x<=zz (.slc u8) x:=zz_len (e:=u8) x;have hs:sumW (fun x:UInt8=>32*(zz u8 x+1)) x=32*zz (.slc u8) x:=sumW_32 (zz u8) x
 obtain ⟨ys,k',g1,g2,g3,g4,g5⟩:=mark_loop (B:=fun self v=>laws_markByteS.b0 self (fun z=>laws_markByteS.q0 (x,k,()) z) (x,k,()) v) (xs:=x) (by rw[maxLen_val];omega) KByteS (fun x:UInt8=>32*(zz u8 x+1)) (fun x hx k h0 h1=>by
   exact ⟨_,_,by omega,by omega,⟨rfl,rfl⟩⟩) (fun i acc k self x y k' hi hx h0 h1 h2 h3 hE=>by
   obtain ⟨rfl,rfl⟩:=hE;show laws_markByteS.b0 _ _ _ _=_;unfold laws_markByteS.b0;have hlt:(i:Int) < (acc.length:Int):=by omega
   simp (disch:=omega) only [hlt,aE,aL,aN,cU,aH,aI,hx,aB,cY,get_self_set,fO,w64_in,markText_eq]) (fun acc k self=>by
   show laws_markByteS.b0 _ _ _ _=_;unfold laws_markByteS.b0
   simp[laws_markByteS.q0,laws_markByteS.q0]) k h0 (by rw[hs];omega)
 refine ⟨k',ys,lift_eq (k:=x.length+1) fun f hf=>(laws_markByteS.raw_eq f _).trans (g5 f (by omega)),g1,by rw[hs] at g2;omega⟩
def KByteSS (x:List UInt8) (k:Int) (y:List UInt8) (k':Int):Prop:=∃ (r1:Int) (y1:List UInt8),laws_markByteS.sem (x,k,())=some (r1,y1,())/\k<=r1/\r1<=k+32*((zz (.slc u8) x:Nat):Int)/\y=y1/\r1=k'
theorem mkByteSS (x:List (List UInt8)) (k:Int) (h0:0<=k) (h1:k+32*((zz (.slc (.slc u8)) x:Nat):Int)<=BIG):∃ (k':Int) (y:List (List UInt8)),laws_markByteSS.sem (x,k,())=some (k',y,())/\k<=k'/\k'<=k+32*((zz (.slc (.slc u8)) x:Nat):Int):=by
 have hB:BIG=4611686018427387904:=rfl;have hl:List.length x<=zz (.slc (.slc u8)) x:=zz_len (e:=(.slc u8)) x;have hs:sumW (fun x:List UInt8=>32*(zz (.slc u8) x+1)) x=32*zz (.slc (.slc u8)) x:=sumW_32 (zz (.slc u8)) x
 obtain ⟨ys,k',g1,g2,g3,g4,g5⟩:=mark_loop (B:=fun self v=>laws_markByteSS.b0 self (fun z=>laws_markByteSS.q0 (x,k,()) z) (x,k,()) v) (xs:=x) (by rw[maxLen_val];omega) KByteSS (fun x:List UInt8=>32*(zz (.slc u8) x+1)) (fun x hx k h0 h1=>by
   obtain ⟨r1,y1,e1,g1,i1⟩:=mkByteS x (k) (by omega) (by omega)
   exact ⟨_,_,by omega,by omega,⟨r1,y1,e1,g1,i1,rfl,rfl⟩⟩) (fun i acc k self x y k' hi hx h0 h1 h2 h3 hE=>by
   obtain ⟨r1,y1,e1,g1,i1,rfl,rfl⟩:=hE;show laws_markByteSS.b0 _ _ _ _=_;unfold laws_markByteSS.b0;have hlt:(i:Int) < (acc.length:Int):=by omega
   simp (disch:=omega) only [hlt,aE,aL,aN,cU,aH,aI,hx,aB,cY,get_self_set,fO,w64_in,markText_eq,e1]) (fun acc k self=>by
   show laws_markByteSS.b0 _ _ _ _=_;unfold laws_markByteSS.b0
   simp[laws_markByteSS.q0,laws_markByteSS.q0]) k h0 (by rw[hs];omega)
 refine ⟨k',ys,lift_eq (k:=x.length+1) fun f hf=>(laws_markByteSS.raw_eq f _).trans (g5 f (by omega)),g1,by rw[hs] at g2;omega⟩
def KBufferS (x:Buffer) (k:Int) (y:Buffer) (k':Int):Prop:=∃ (r1:Int) (y1:List Change),laws_markChangeS.sem (x.2.1,k+1,())=some (r1,y1,())/\k+1<=r1/\r1<=k+1+32*((zz (.slc tChange) x.2.1:Nat):Int)/\y=((k),y1,x.2.2)/\r1=k'
theorem mkBufferS (x:List Buffer) (k:Int) (h0:0<=k) (h1:k+32*((zz (.slc tBuffer) x:Nat):Int)<=BIG):∃ (k':Int) (y:List Buffer),laws_markBufferS.sem (x,k,())=some (k',y,())/\k<=k'/\k'<=k+32*((zz (.slc tBuffer) x:Nat):Int):=by
 have hB:BIG=4611686018427387904:=rfl;have hl:List.length x<=zz (.slc tBuffer) x:=zz_len (e:=tBuffer) x;have hs:sumW (fun x:Buffer=>32*(zz tBuffer x+1)) x=32*zz (.slc tBuffer) x:=sumW_32 (zz tBuffer) x
 obtain ⟨ys,k',g1,g2,g3,g4,g5⟩:=mark_loop (B:=fun self v=>laws_markBufferS.b0 self (fun z=>laws_markBufferS.q0 (x,k,()) z) (x,k,()) v) (xs:=x) (by rw[maxLen_val];omega) KBufferS (fun x:Buffer=>32*(zz tBuffer x+1)) (fun x hx k h0 h1=>by
   have hz:zz tBuffer x=(0+(zz (.slc tChange) x.2.1+0)):=rfl;obtain ⟨r1,y1,e1,g1,i1⟩:=mkChangeS x.2.1 (k+1) (by omega) (by omega)
   exact ⟨_,_,by omega,by omega,⟨r1,y1,e1,g1,i1,rfl,rfl⟩⟩) (fun i acc k self x y k' hi hx h0 h1 h2 h3 hE=>by
   have hz:zz tBuffer x=(0+(zz (.slc tChange) x.2.1+0)):=rfl;obtain ⟨r1,y1,e1,g1,i1,rfl,rfl⟩:=hE;show laws_markBufferS.b0 _ _ _ _=_;unfold laws_markBufferS.b0;have hlt:(i:Int) < (acc.length:Int):=by omega
   simp (disch:=omega) only [hlt,aE,aL,aN,cU,aH,aI,hx,aB,cY,get_self_set,fO,w64_in,markText_eq,e1]) (fun acc k self=>by
   show laws_markBufferS.b0 _ _ _ _=_;unfold laws_markBufferS.b0
   simp[laws_markBufferS.q0,laws_markBufferS.q0]) k h0 (by rw[hs];omega)
 refine ⟨k',ys,lift_eq (k:=x.length+1) fun f hf=>(laws_markBufferS.raw_eq f _).trans (g5 f (by omega)),g1,by rw[hs] at g2;omega⟩
theorem mkMiner (x:Miner) (k:Int) (h0:0<=k) (h1:k+32*((zz tMiner x:Nat):Int)<=BIG):∃ (k':Int) (y:Miner),laws_markMiner.sem (x,k,())=some (k',y,())/\k<=k'/\k'<=k+32*((zz tMiner x:Nat):Int):=by
 have hB:BIG=4611686018427387904:=rfl;have hz:zz tMiner x=(zz (.slc (.slc u8)) x.1+(zz (.slc tBuffer) x.2.1+0)):=rfl;obtain ⟨k1,y1,e1,g1,i1⟩:=mkByteSS x.1 k (by omega) (by omega);have n1:¬ k1 < 0:=by omega
 obtain ⟨k2,y2,e2,g2,i2⟩:=mkBufferS x.2.1 k1 (by omega) (by omega);have n2:¬ k2 < 0:=by omega
 refine ⟨k2,(y1,y2,x.2.2),lift_eq (k:=0) fun f _=>(laws_markMiner.raw_eq f _).trans ?_,by omega,by omega⟩
 ·show laws_markMiner.p _=_;unfold laws_markMiner.p;simp only[e1,e2,aB]
def EBufferS (x:Buffer) (k:Int) (y:Buffer) (k':Int):Prop:=∃ (r1:Int) (y1:List Change),laws_markChangeS.sem (x.2.1,k+1,())=some (r1,y1,())/\laws_heldChangeS.sem (y1,k+1,())=some (r1,())/\k+1<=r1/\r1<=k+1+32*((zz (.slc tChange) x.2.1:Nat):Int)/\y=((k),y1,x.2.2)/\r1=k'
theorem mhBufferS (x:List Buffer) (k:Int) (h0:0<=k) (h1:k+32*((zz (.slc tBuffer) x:Nat):Int)<=BIG):∃ (k':Int) (y:List Buffer),laws_markBufferS.sem (x,k,())=some (k',y,())/\laws_heldBufferS.sem (y,k,())=some (k',())/\k<=k'/\k'<=k+32*((zz (.slc tBuffer) x:Nat):Int):=by
 have hB:BIG=4611686018427387904:=rfl;have hl:List.length x<=zz (.slc tBuffer) x:=zz_len (e:=tBuffer) x;have hs:sumW (fun x:Buffer=>32*(zz tBuffer x+1)) x=32*zz (.slc tBuffer) x:=sumW_32 (zz tBuffer) x
 obtain ⟨ys,k',g1,g2,g3,g4,g5⟩:=mark_loop (B:=fun self v=>laws_markBufferS.b0 self (fun z=>laws_markBufferS.q0 (x,k,()) z) (x,k,()) v) (xs:=x) (by rw[maxLen_val];omega) EBufferS (fun x:Buffer=>32*(zz tBuffer x+1)) (fun x hx k h0 h1=>by
   have hz:zz tBuffer x=(0+(zz (.slc tChange) x.2.1+0)):=rfl;obtain ⟨r1,y1,e1,f1,g1,i1⟩:=mhChangeS x.2.1 (k+1) (by omega) (by omega)
   exact ⟨_,_,by omega,by omega,⟨r1,y1,e1,f1,g1,i1,rfl,rfl⟩⟩) (fun i acc k self x y k' hi hx h0 h1 h2 h3 hE=>by
   have hz:zz tBuffer x=(0+(zz (.slc tChange) x.2.1+0)):=rfl;obtain ⟨r1,y1,e1,f1,g1,i1,rfl,rfl⟩:=hE;show laws_markBufferS.b0 _ _ _ _=_;unfold laws_markBufferS.b0;have hlt:(i:Int) < (acc.length:Int):=by omega
   simp (disch:=omega) only [hlt,aE,aL,aN,cU,aH,aI,hx,aB,cY,get_self_set,fO,w64_in,markText_eq,e1]) (fun acc k self=>by
   show laws_markBufferS.b0 _ _ _ _=_;unfold laws_markBufferS.b0
   simp[laws_markBufferS.q0,laws_markBufferS.q0]) k h0 (by rw[hs];omega)
 refine ⟨k',ys,lift_eq (k:=x.length+1) fun f hf=>(laws_markBufferS.raw_eq f _).trans (g5 f (by omega)),?_,g1,by rw[hs] at g2;omega⟩
 refine lift_eq (k:=ys.length+1) fun f hf=>(laws_heldBufferS.raw_eq f _).trans ?_
 exact held_loop (B:=fun self v=>laws_heldBufferS.b0 self (fun z=>laws_heldBufferS.q0 (ys,k,()) z) (ys,k,()) v) (by rw[maxLen_val];omega) g4 (fun i k self x y k' hi hx h0 h1 h2 h3 hE=>by
   have hz:zz tBuffer x=(0+(zz (.slc tChange) x.2.1+0)):=rfl;obtain ⟨r1,y1,e1,f1,g1,i1,rfl,rfl⟩:=hE;show laws_heldBufferS.b0 _ _ _ _=_;unfold laws_heldBufferS.b0;have hlt:(i:Int) < (ys.length:Int):=by omega
   have n1:¬ r1 < 0:=by omega
   simp (disch:=omega) only [hlt,aE,aL,aN,cU,aH,aI,hx,aB,w64_in,markText_eq,fT,aQ,aG,aF,f1,n1]) (fun k self=>by
   show laws_heldBufferS.b0 _ _ _ _=_;unfold laws_heldBufferS.b0
   simp[laws_heldBufferS.q0,laws_heldBufferS.q0]) f (by omega)
def EByteS (x:UInt8) (k:Int) (y:UInt8) (k':Int):Prop:=y=(UInt8.ofInt (k))/\k+1=k'
theorem mhByteS (x:List UInt8) (k:Int) (h0:0<=k) (h1:k+32*((zz (.slc u8) x:Nat):Int)<=BIG):∃ (k':Int) (y:List UInt8),laws_markByteS.sem (x,k,())=some (k',y,())/\laws_heldByteS.sem (y,k,())=some (k',())/\k<=k'/\k'<=k+32*((zz (.slc u8) x:Nat):Int):=by
 have hB:BIG=4611686018427387904:=rfl;have hl:List.length x<=zz (.slc u8) x:=zz_len (e:=u8) x;have hs:sumW (fun x:UInt8=>32*(zz u8 x+1)) x=32*zz (.slc u8) x:=sumW_32 (zz u8) x
 obtain ⟨ys,k',g1,g2,g3,g4,g5⟩:=mark_loop (B:=fun self v=>laws_markByteS.b0 self (fun z=>laws_markByteS.q0 (x,k,()) z) (x,k,()) v) (xs:=x) (by rw[maxLen_val];omega) EByteS (fun x:UInt8=>32*(zz u8 x+1)) (fun x hx k h0 h1=>by
   exact ⟨_,_,by omega,by omega,⟨rfl,rfl⟩⟩) (fun i acc k self x y k' hi hx h0 h1 h2 h3 hE=>by
   obtain ⟨rfl,rfl⟩:=hE;show laws_markByteS.b0 _ _ _ _=_;unfold laws_markByteS.b0;have hlt:(i:Int) < (acc.length:Int):=by omega
   simp (disch:=omega) only [hlt,aE,aL,aN,cU,aH,aI,hx,aB,cY,get_self_set,fO,w64_in,markText_eq]) (fun acc k self=>by
   show laws_markByteS.b0 _ _ _ _=_;unfold laws_markByteS.b0
   simp[laws_markByteS.q0,laws_markByteS.q0]) k h0 (by rw[hs];omega)
 refine ⟨k',ys,lift_eq (k:=x.length+1) fun f hf=>(laws_markByteS.raw_eq f _).trans (g5 f (by omega)),?_,g1,by rw[hs] at g2;omega⟩
 refine lift_eq (k:=ys.length+1) fun f hf=>(laws_heldByteS.raw_eq f _).trans ?_
 exact held_loop (B:=fun self v=>laws_heldByteS.b0 self (fun z=>laws_heldByteS.q0 (ys,k,()) z) (ys,k,()) v) (by rw[maxLen_val];omega) g4 (fun i k self x y k' hi hx h0 h1 h2 h3 hE=>by
   obtain ⟨rfl,rfl⟩:=hE;show laws_heldByteS.b0 _ _ _ _=_;unfold laws_heldByteS.b0;have hlt:(i:Int) < (ys.length:Int):=by omega
   simp (disch:=omega) only [hlt,aE,aL,aN,cU,aH,aI,hx,aB,w64_in,markText_eq,fT,aQ,aG,aF]) (fun k self=>by
   show laws_heldByteS.b0 _ _ _ _=_;unfold laws_heldByteS.b0
   simp[laws_heldByteS.q0,laws_heldByteS.q0]) f (by omega)
def EByteSS (x:List UInt8) (k:Int) (y:List UInt8) (k':Int):Prop:=∃ (r1:Int) (y1:List UInt8),laws_markByteS.sem (x,k,())=some (r1,y1,())/\laws_heldByteS.sem (y1,k,())=some (r1,())/\k<=r1/\r1<=k+32*((zz (.slc u8) x:Nat):Int)/\y=y1/\r1=k'
theorem mhByteSS (x:List (List UInt8)) (k:Int) (h0:0<=k) (h1:k+32*((zz (.slc (.slc u8)) x:Nat):Int)<=BIG):∃ (k':Int) (y:List (List UInt8)),laws_markByteSS.sem (x,k,())=some (k',y,())/\laws_heldByteSS.sem (y,k,())=some (k',())/\k<=k'/\k'<=k+32*((zz (.slc (.slc u8)) x:Nat):Int):=by
 have hB:BIG=4611686018427387904:=rfl;have hl:List.length x<=zz (.slc (.slc u8)) x:=zz_len (e:=(.slc u8)) x;have hs:sumW (fun x:List UInt8=>32*(zz (.slc u8) x+1)) x=32*zz (.slc (.slc u8)) x:=sumW_32 (zz (.slc u8)) x
 obtain ⟨ys,k',g1,g2,g3,g4,g5⟩:=mark_loop (B:=fun self v=>laws_markByteSS.b0 self (fun z=>laws_markByteSS.q0 (x,k,()) z) (x,k,()) v) (xs:=x) (by rw[maxLen_val];omega) EByteSS (fun x:List UInt8=>32*(zz (.slc u8) x+1)) (fun x hx k h0 h1=>by
   obtain ⟨r1,y1,e1,f1,g1,i1⟩:=mhByteS x (k) (by omega) (by omega)
   exact ⟨_,_,by omega,by omega,⟨r1,y1,e1,f1,g1,i1,rfl,rfl⟩⟩) (fun i acc k self x y k' hi hx h0 h1 h2 h3 hE=>by
   obtain ⟨r1,y1,e1,f1,g1,i1,rfl,rfl⟩:=hE;show laws_markByteSS.b0 _ _ _ _=_;unfold laws_markByteSS.b0;have hlt:(i:Int) < (acc.length:Int):=by omega
   simp (disch:=omega) only [hlt,aE,aL,aN,cU,aH,aI,hx,aB,cY,get_self_set,fO,w64_in,markText_eq,e1]) (fun acc k self=>by
   show laws_markByteSS.b0 _ _ _ _=_;unfold laws_markByteSS.b0
   simp[laws_markByteSS.q0,laws_markByteSS.q0]) k h0 (by rw[hs];omega)
 refine ⟨k',ys,lift_eq (k:=x.length+1) fun f hf=>(laws_markByteSS.raw_eq f _).trans (g5 f (by omega)),?_,g1,by rw[hs] at g2;omega⟩
 refine lift_eq (k:=ys.length+1) fun f hf=>(laws_heldByteSS.raw_eq f _).trans ?_
 exact held_loop (B:=fun self v=>laws_heldByteSS.b0 self (fun z=>laws_heldByteSS.q0 (ys,k,()) z) (ys,k,()) v) (by rw[maxLen_val];omega) g4 (fun i k self x y k' hi hx h0 h1 h2 h3 hE=>by
   obtain ⟨r1,y1,e1,f1,g1,i1,rfl,rfl⟩:=hE;show laws_heldByteSS.b0 _ _ _ _=_;unfold laws_heldByteSS.b0;have hlt:(i:Int) < (ys.length:Int):=by omega
   have n1:¬ r1 < 0:=by omega
   simp (disch:=omega) only [hlt,aE,aL,aN,cU,aH,aI,hx,aB,w64_in,markText_eq,fT,aQ,aG,aF,f1,n1]) (fun k self=>by
   show laws_heldByteSS.b0 _ _ _ _=_;unfold laws_heldByteSS.b0
   simp[laws_heldByteSS.q0,laws_heldByteSS.q0]) f (by omega)
theorem mhMiner (x:Miner) (k:Int) (h0:0<=k) (h1:k+32*((zz tMiner x:Nat):Int)<=BIG):∃ (k':Int) (y:Miner),laws_markMiner.sem (x,k,())=some (k',y,())/\laws_heldMiner.sem (y,k,())=some (k',())/\k<=k'/\k'<=k+32*((zz tMiner x:Nat):Int):=by
 have hB:BIG=4611686018427387904:=rfl;have hz:zz tMiner x=(zz (.slc (.slc u8)) x.1+(zz (.slc tBuffer) x.2.1+0)):=rfl;obtain ⟨k1,y1,e1,f1,g1,i1⟩:=mhByteSS x.1 k (by omega) (by omega);have n1:¬ k1 < 0:=by omega
 obtain ⟨k2,y2,e2,f2,g2,i2⟩:=mhBufferS x.2.1 k1 (by omega) (by omega);have n2:¬ k2 < 0:=by omega
 refine ⟨k2,(y1,y2,x.2.2),lift_eq (k:=0) fun f _=>(laws_markMiner.raw_eq f _).trans ?_,lift_eq (k:=0) fun f _=>(laws_heldMiner.raw_eq f _).trans ?_,by omega,by omega⟩
 ·show laws_markMiner.p _=_;unfold laws_markMiner.p;simp only[e1,e2,aB]
 ·show laws_heldMiner.p _=_;unfold laws_heldMiner.p;simp only[f1,f2,n1,n2,aB,aF,aG]
theorem szConnector_eq (x:Connector) (n:Int) (hx:okD tConnector x) (h0:0<=n) (h1:n<=1048576):laws_szConnector.sem (x,n,())=some (lft n (zz tConnector x),()):=by
 have hz:zz tConnector x=((zz (.slc (.slc u8)) x.1.1+(zz (.slc tBuffer) x.1.2.1+0))+(0+((zz (.slc (.slc u8)) x.2.2.1.1+(zz (.slc tBuffer) x.2.2.1.2.1+0))+(0+0)))):=rfl;refine lift_eq (k:=0) fun k _=>(laws_szConnector.raw_eq k _).trans ?_;show laws_szConnector.p _=_;unfold laws_szConnector.p;have hz0:zz tMiner x.1=(zz (.slc (.slc u8)) x.1.1+(zz (.slc tBuffer) x.1.2.1+0)):=rfl;simp only[szMiner_eq x.1 (n) hx.1 (by omega) (by omega),aB];by_cases hc:((zz tMiner x.1:Nat):Int)<=n;rotate_left
 ·have e1:lft (n) (zz tMiner x.1)=-1:=aY hc;have e2:lft n (zz tConnector x)=-1:=aY (by omega);rw[e1,e2];rfl
 have e1:lft (n) (zz tMiner x.1)=n - ((zz tMiner x.1:Nat):Int):=aV hc;have n1:¬ (n - ((zz tMiner x.1:Nat):Int) < 0):=by omega
 simp only[e1,n1,aF,aG];clear e1 n1;have hz2:zz tMiner x.2.2.1=(zz (.slc (.slc u8)) x.2.2.1.1+(zz (.slc tBuffer) x.2.2.1.2.1+0)):=rfl;simp only[szMiner_eq x.2.2.1 ((n - ((zz tMiner x.1:Nat):Int))) hx.2.2.1 (by omega) (by omega),aB]
 by_cases hc:((zz tMiner x.2.2.1:Nat):Int)<=(n - ((zz tMiner x.1:Nat):Int))
 rotate_left
 ·have e1:lft ((n - ((zz tMiner x.1:Nat):Int))) (zz tMiner x.2.2.1)=-1:=aY hc;have e2:lft n (zz tConnector x)=-1:=aY (by omega);rw[e1,e2];rfl
 have e1:lft ((n - ((zz tMiner x.1:Nat):Int))) (zz tMiner x.2.2.1)=(n - ((zz tMiner x.1:Nat):Int)) - ((zz tMiner x.2.2.1:Nat):Int):=aV hc;have n1:¬ ((n - ((zz tMiner x.1:Nat):Int)) - ((zz tMiner x.2.2.1:Nat):Int) < 0):=by omega
 simp only[e1,n1,aF,aG];clear e1 n1;have e2:lft n (zz tConnector x)=((n - ((zz tMiner x.1:Nat):Int)) - ((zz tMiner x.2.2.1:Nat):Int)):=by unfold lft;rw[aV (by omega)];omega
 rw[e2]
theorem toConnector_eq (x:Connector) (h:zz tConnector x<=1048576):laws_toConnector.sem (x,())=some (x,()):=by
 have hz:zz tConnector x=((zz (.slc (.slc u8)) x.1.1+(zz (.slc tBuffer) x.1.2.1+0))+(0+((zz (.slc (.slc u8)) x.2.2.1.1+(zz (.slc tBuffer) x.2.2.1.2.1+0))+(0+0)))):=rfl;have hz0:zz tMiner x.1=(zz (.slc (.slc u8)) x.1.1+(zz (.slc tBuffer) x.1.2.1+0)):=rfl;have hz2:zz tMiner x.2.2.1=(zz (.slc (.slc u8)) x.2.2.1.1+(zz (.slc tBuffer) x.2.2.1.2.1+0)):=rfl;refine lift_eq (k:=0) fun k _=>(laws_toConnector.raw_eq k _).trans ?_;show laws_toConnector.p _=_;unfold laws_toConnector.p;simp only[toMiner_eq x.1 (by omega),toMiner_eq x.2.2.1 (by omega),aB]
theorem eqConnector_self (x:Connector) (h:zz tConnector x<=4611686018427387904):laws_eqConnector.sem (x,x,())=some (true,()):=by
 have hz:zz tConnector x=((zz (.slc (.slc u8)) x.1.1+(zz (.slc tBuffer) x.1.2.1+0))+(0+((zz (.slc (.slc u8)) x.2.2.1.1+(zz (.slc tBuffer) x.2.2.1.2.1+0))+(0+0)))):=rfl;have hz0:zz tMiner x.1=(zz (.slc (.slc u8)) x.1.1+(zz (.slc tBuffer) x.1.2.1+0)):=rfl;have hz2:zz tMiner x.2.2.1=(zz (.slc (.slc u8)) x.2.2.1.1+(zz (.slc tBuffer) x.2.2.1.2.1+0)):=rfl;refine lift_eq (k:=0) fun k _=>(laws_eqConnector.raw_eq k _).trans ?_;show laws_eqConnector.p _=_;unfold laws_eqConnector.p;have q0:=eqMiner_self x.1 (by omega);have q1:=eqMiner_self x.2.2.1 (by omega);simp[q0,q1]
theorem eqSent_self (x:Sent) (h:zz tSent x<=4611686018427387904):laws_eqSent.sem (x,x,())=some (true,()):=by
 have hz:zz tSent x=(0+(0+(zz (.slc tChange) x.2.2.1+0))):=rfl;refine lift_eq (k:=0) fun k _=>(laws_eqSent.raw_eq k _).trans ?_;show laws_eqSent.p _=_;unfold laws_eqSent.p;have q0:=eqChangeS_self x.2.2.1 (by omega);simp[q0]
theorem mkConnector (x:Connector) (k:Int) (h0:0<=k) (h1:k+32*((zz tConnector x:Nat):Int)<=BIG):∃ (k':Int) (y:Connector),laws_markConnector.sem (x,k,())=some (k',y,())/\k<=k'/\k'<=k+32*((zz tConnector x:Nat):Int):=by
 have hB:BIG=4611686018427387904:=rfl;have hz:zz tConnector x=((zz (.slc (.slc u8)) x.1.1+(zz (.slc tBuffer) x.1.2.1+0))+(0+((zz (.slc (.slc u8)) x.2.2.1.1+(zz (.slc tBuffer) x.2.2.1.2.1+0))+(0+0)))):=rfl;have hz1:zz tMiner x.1=(zz (.slc (.slc u8)) x.1.1+(zz (.slc tBuffer) x.1.2.1+0)):=rfl;obtain ⟨k1,y1,e1,g1,i1⟩:=mkMiner x.1 k (by omega) (by omega);have n1:¬ k1 < 0:=by omega
 have hz2:zz tMiner x.2.2.1=(zz (.slc (.slc u8)) x.2.2.1.1+(zz (.slc tBuffer) x.2.2.1.2.1+0)):=rfl;obtain ⟨k2,y2,e2,g2,i2⟩:=mkMiner x.2.2.1 k1 (by omega) (by omega);have n2:¬ k2 < 0:=by omega
 refine ⟨k2,(y1,x.2.1,y2,x.2.2.2.1,x.2.2.2.2),lift_eq (k:=0) fun f _=>(laws_markConnector.raw_eq f _).trans ?_,by omega,by omega⟩
 ·show laws_markConnector.p _=_;unfold laws_markConnector.p;simp only[e1,e2,aB]
theorem mhConnector (x:Connector) (k:Int) (h0:0<=k) (h1:k+32*((zz tConnector x:Nat):Int)<=BIG):∃ (k':Int) (y:Connector),laws_markConnector.sem (x,k,())=some (k',y,())/\laws_heldConnector.sem (y,k,())=some (k',())/\k<=k'/\k'<=k+32*((zz tConnector x:Nat):Int):=by
 have hB:BIG=4611686018427387904:=rfl;have hz:zz tConnector x=((zz (.slc (.slc u8)) x.1.1+(zz (.slc tBuffer) x.1.2.1+0))+(0+((zz (.slc (.slc u8)) x.2.2.1.1+(zz (.slc tBuffer) x.2.2.1.2.1+0))+(0+0)))):=rfl;have hz1:zz tMiner x.1=(zz (.slc (.slc u8)) x.1.1+(zz (.slc tBuffer) x.1.2.1+0)):=rfl;obtain ⟨k1,y1,e1,f1,g1,i1⟩:=mhMiner x.1 k (by omega) (by omega);have n1:¬ k1 < 0:=by omega
 have hz2:zz tMiner x.2.2.1=(zz (.slc (.slc u8)) x.2.2.1.1+(zz (.slc tBuffer) x.2.2.1.2.1+0)):=rfl;obtain ⟨k2,y2,e2,f2,g2,i2⟩:=mhMiner x.2.2.1 k1 (by omega) (by omega);have n2:¬ k2 < 0:=by omega
 refine ⟨k2,(y1,x.2.1,y2,x.2.2.2.1,x.2.2.2.2),lift_eq (k:=0) fun f _=>(laws_markConnector.raw_eq f _).trans ?_,lift_eq (k:=0) fun f _=>(laws_heldConnector.raw_eq f _).trans ?_,by omega,by omega⟩
 ·show laws_markConnector.p _=_;unfold laws_markConnector.p;simp only[e1,e2,aB]
 ·show laws_heldConnector.p _=_;unfold laws_heldConnector.p;simp only[f1,f2,n1,n2,aB,aF,aG]
theorem eqSentS_self (x:List Sent) (h:zz (.slc tSent) x<=4611686018427387904):laws_eqSentS.sem (x,x,())=some (true,()):=by
 have hl:x.length<=4611686018427387904:=bK (zz_len (e:=tSent) x) h;refine lift_eq (k:=x.length+1) fun k hk=>(laws_eqSentS.raw_eq k _).trans ?_;unfold laws_eqSentS.p;simp only[aE,aQ,aG]
 have:=all_loop (B:=fun self v=>laws_eqSentS.b0 self (fun z=>laws_eqSentS.q0 (x,x,()) z) (x,x,()) v) (xs:=x) (ys:=x) (fun _ _=>true) rfl (by rw[maxLen_val];omega) (fun i hi hj self=>by
   show laws_eqSentS.b0 _ _ _ _=_;unfold laws_eqSentS.b0;have hlt:(i:Int) < (x.length:Int):=by omega
   simp only[hlt,aE,aL,aN,aH,aI,aA hi,aB,aQ,aG,eqSent_self x[i] (by have:=zz_mem (e:=tSent) (bC hi);omega)]) (fun self=>by
   show laws_eqSentS.b0 _ _ _ _=_;unfold laws_eqSentS.b0
   simp[laws_eqSentS.q0,laws_eqSentS.q0]) k (by omega)
 rw[show allB (fun _ _=>true) x x=true by simp[allB]] at this;exact this
theorem eqSentResult_self (x:SentResult) (h:zz tSentResult x<=4611686018427387904):laws_eqSentResult.sem (x,x,())=some (true,()):=by
 have hz:zz tSentResult x=(0+(zz (.slc tSent) x.2.1+(((zz (.slc (.slc u8)) x.2.2.1.1.1+(zz (.slc tBuffer) x.2.2.1.1.2.1+0))+(0+((zz (.slc (.slc u8)) x.2.2.1.2.2.1.1+(zz (.slc tBuffer) x.2.2.1.2.2.1.2.1+0))+(0+0))))+0))):=rfl;have hz2:zz tConnector x.2.2.1=((zz (.slc (.slc u8)) x.2.2.1.1.1+(zz (.slc tBuffer) x.2.2.1.1.2.1+0))+(0+((zz (.slc (.slc u8)) x.2.2.1.2.2.1.1+(zz (.slc tBuffer) x.2.2.1.2.2.1.2.1+0))+(0+0)))):=rfl;refine lift_eq (k:=0) fun k _=>(laws_eqSentResult.raw_eq k _).trans ?_;show laws_eqSentResult.p _=_;unfold laws_eqSentResult.p;have q0:=eqSentS_self x.2.1 (by omega);have q1:=eqConnector_self x.2.2.1 (by omega);simp[q0,q1]
def ESentS (x:Sent) (k:Int) (y:Sent) (k':Int):Prop:=∃ (r1:Int) (y1:List Change),laws_markChangeS.sem (x.2.2.1,k+1+1,())=some (r1,y1,())/\laws_heldChangeS.sem (y1,k+1+1,())=some (r1,())/\k+1+1<=r1/\r1<=k+1+1+32*((zz (.slc tChange) x.2.2.1:Nat):Int)/\y=((k),(k+1),y1,x.2.2.2)/\r1=k'
theorem mhSentS (x:List Sent) (k:Int) (h0:0<=k) (h1:k+32*((zz (.slc tSent) x:Nat):Int)<=BIG):∃ (k':Int) (y:List Sent),laws_markSentS.sem (x,k,())=some (k',y,())/\laws_heldSentS.sem (y,k,())=some (k',())/\k<=k'/\k'<=k+32*((zz (.slc tSent) x:Nat):Int):=by
 have hB:BIG=4611686018427387904:=rfl;have hl:List.length x<=zz (.slc tSent) x:=zz_len (e:=tSent) x;have hs:sumW (fun x:Sent=>32*(zz tSent x+1)) x=32*zz (.slc tSent) x:=sumW_32 (zz tSent) x
 obtain ⟨ys,k',g1,g2,g3,g4,g5⟩:=mark_loop (B:=fun self v=>laws_markSentS.b0 self (fun z=>laws_markSentS.q0 (x,k,()) z) (x,k,()) v) (xs:=x) (by rw[maxLen_val];omega) ESentS (fun x:Sent=>32*(zz tSent x+1)) (fun x hx k h0 h1=>by
   have hz:zz tSent x=(0+(0+(zz (.slc tChange) x.2.2.1+0))):=rfl;obtain ⟨r1,y1,e1,f1,g1,i1⟩:=mhChangeS x.2.2.1 (k+1+1) (by omega) (by omega)
   exact ⟨_,_,by omega,by omega,⟨r1,y1,e1,f1,g1,i1,rfl,rfl⟩⟩) (fun i acc k self x y k' hi hx h0 h1 h2 h3 hE=>by
   have hz:zz tSent x=(0+(0+(zz (.slc tChange) x.2.2.1+0))):=rfl;obtain ⟨r1,y1,e1,f1,g1,i1,rfl,rfl⟩:=hE;show laws_markSentS.b0 _ _ _ _=_;unfold laws_markSentS.b0;have hlt:(i:Int) < (acc.length:Int):=by omega
   simp (disch:=omega) only [hlt,aE,aL,aN,cU,aH,aI,hx,aB,cY,get_self_set,fO,w64_in,markText_eq,e1]) (fun acc k self=>by
   show laws_markSentS.b0 _ _ _ _=_;unfold laws_markSentS.b0
   simp[laws_markSentS.q0,laws_markSentS.q0]) k h0 (by rw[hs];omega)
 refine ⟨k',ys,lift_eq (k:=x.length+1) fun f hf=>(laws_markSentS.raw_eq f _).trans (g5 f (by omega)),?_,g1,by rw[hs] at g2;omega⟩
 refine lift_eq (k:=ys.length+1) fun f hf=>(laws_heldSentS.raw_eq f _).trans ?_
 exact held_loop (B:=fun self v=>laws_heldSentS.b0 self (fun z=>laws_heldSentS.q0 (ys,k,()) z) (ys,k,()) v) (by rw[maxLen_val];omega) g4 (fun i k self x y k' hi hx h0 h1 h2 h3 hE=>by
   have hz:zz tSent x=(0+(0+(zz (.slc tChange) x.2.2.1+0))):=rfl;obtain ⟨r1,y1,e1,f1,g1,i1,rfl,rfl⟩:=hE;show laws_heldSentS.b0 _ _ _ _=_;unfold laws_heldSentS.b0;have hlt:(i:Int) < (ys.length:Int):=by omega
   have n1:¬ r1 < 0:=by omega
   simp (disch:=omega) only [hlt,aE,aL,aN,cU,aH,aI,hx,aB,w64_in,markText_eq,fT,aQ,aG,aF,f1,n1]) (fun k self=>by
   show laws_heldSentS.b0 _ _ _ _=_;unfold laws_heldSentS.b0
   simp[laws_heldSentS.q0,laws_heldSentS.q0]) f (by omega)
theorem mhSentResult (x:SentResult) (k:Int) (h0:0<=k) (h1:k+32*((zz tSentResult x:Nat):Int)<=BIG):∃ (k':Int) (y:SentResult),laws_markSentResult.sem (x,k,())=some (k',y,())/\laws_heldSentResult.sem (y,k,())=some (k',())/\k<=k'/\k'<=k+32*((zz tSentResult x:Nat):Int):=by
 have hB:BIG=4611686018427387904:=rfl;have hz:zz tSentResult x=(0+(zz (.slc tSent) x.2.1+(((zz (.slc (.slc u8)) x.2.2.1.1.1+(zz (.slc tBuffer) x.2.2.1.1.2.1+0))+(0+((zz (.slc (.slc u8)) x.2.2.1.2.2.1.1+(zz (.slc tBuffer) x.2.2.1.2.2.1.2.1+0))+(0+0))))+0))):=rfl;obtain ⟨k1,y1,e1,f1,g1,i1⟩:=mhSentS x.2.1 k (by omega) (by omega);have n1:¬ k1 < 0:=by omega
 have hz2:zz tConnector x.2.2.1=((zz (.slc (.slc u8)) x.2.2.1.1.1+(zz (.slc tBuffer) x.2.2.1.1.2.1+0))+(0+((zz (.slc (.slc u8)) x.2.2.1.2.2.1.1+(zz (.slc tBuffer) x.2.2.1.2.2.1.2.1+0))+(0+0)))):=rfl;obtain ⟨k2,y2,e2,f2,g2,i2⟩:=mhConnector x.2.2.1 k1 (by omega) (by omega);have n2:¬ k2 < 0:=by omega
 refine ⟨k2,(x.1,y1,y2,x.2.2.2),lift_eq (k:=0) fun f _=>(laws_markSentResult.raw_eq f _).trans ?_,lift_eq (k:=0) fun f _=>(laws_heldSentResult.raw_eq f _).trans ?_,by omega,by omega⟩
 ·show laws_markSentResult.p _=_;unfold laws_markSentResult.p;simp only[e1,e2,aB]
 ·show laws_heldSentResult.p _=_;unfold laws_heldSentResult.p;simp only[f1,f2,n1,n2,aB,aF,aG]
end OT
namespace OT
open Go
theorem specIn_eq (a b c:Int):spec_l1In.sem (a,b,c,())=some (decide (b<=a)&&decide (a<=c),()):=by
 refine lift_eq (k:=0) fun k _=>(spec_l1In.raw_eq k _).trans ?_;show spec_l1In.p _=_;unfold spec_l1In.p;by_cases h:b<=a <;> simp[h]
theorem implIn_eq (a b c:Int):impl_in.sem (a,b,c,())=some (decide (b<=a)&&decide (a<=c),()):=by
 refine lift_eq (k:=0) fun k _=>(impl_in.raw_eq k _).trans ?_;show impl_in.p _=_;unfold impl_in.p;by_cases h:b<=a <;> simp[h]
theorem isTx_eq (a:Int):impl_isTx.sem (a,())=some (decide (1<=a)&&decide (a<=99),()):=by
 refine lift_eq (k:=0) fun k _=>(impl_isTx.raw_eq k _).trans ?_;show impl_isTx.p _=_;unfold impl_isTx.p;simp[implIn_eq]
def inB (a b c:Int):Bool:=decide (b<=a)&&decide (a<=c)
theorem implCopied_eq (s:List UInt8) (h:s.length<=200000000000):impl_copied.sem (s,())=some (s,()):=by
 refine lift_eq (k:=0) fun k _=>(impl_copied.raw_eq k _).trans ?_;show impl_copied.p _=_;unfold impl_copied.p;have:([]:List UInt8).length+s.length<=CAP:=cap_ok (by simpa using h);rw[aV this,cH]
theorem specCopy_eq (s:List UInt8) (h:s.length<=200000000000):spec_l2Copy.sem (s,())=some (s,()):=by
 refine lift_eq (k:=0) fun k _=>(spec_l2Copy.raw_eq k _).trans ?_;show spec_l2Copy.p _=_;unfold spec_l2Copy.p;have:([]:List UInt8).length+s.length<=CAP:=cap_ok (by simpa using h);rw[aV this,cH]
theorem forI_fold {S O α:Type} {g:S->α->S} {fin:S->O}:∀ (xs:List α) (i:Nat) (s:S),forI (fun _ s x=>.inr (g s x)) fin i xs s=fin (xs.foldl g s)
 | [],_,_=>rfl
 | x::xs,i,s=>by simp only[forI,fL];exact forI_fold xs _ _
theorem fold_self {α:Type}:∀ (xs s:List α),xs.foldl (fun s x=>s++[x]) s=s++xs
 | [],s=>by simp
 | x::xs,s=>by rw[fL,fold_self];simp
abbrev Pages:Type:=List (List UInt8)
def gp (ps:Pages):Prop:=ps.length<=12/\∀ p ∈ ps,p.length=64
def newF:List UInt8:=((List.replicate 64 (0:UInt8)).set 0 0).set 1 64
theorem newF_len:newF.length=64:=by simp[newF]
theorem implCopies_eq (ps:Pages) (h:gp ps):impl_copies.sem (ps,())=some (ps,()):=by
 obtain ⟨h1,h2⟩:=h;refine lift_eq (k:=14) fun k hk=>(impl_copies.raw_eq k _).trans ?_
 have:=for_loop (B:=fun self v=>impl_copies.b0 self (fun z=>impl_copies.q0 (ps,()) z) (ps,()) v) ps (fun (s:Pages) (i:Int)=>(s,i)) (fun _ s x=>.inr (s++[x])) (fun s=>(s,())) (fun i s=>s.length=i) (by rw[maxLen_val];omega)
  (fun i hi s self hI=>by
   show impl_copies.b0 _ _ _ _=_;unfold impl_copies.b0;have hlt:(i:Int) < (ps.length:Int):=by omega
   have hx:=h2 ps[i] (bC hi);simp only[hlt,aE,aL,aN,aH,aI,aA hi,aB];rw[implCopied_eq _ (by omega)];have hc:s.length+[ps[i]].length<=CAP:=cap_ok (by simp only[aP,aZ];omega)
   simp only[aB,hc,aH])
  (fun i hi s s' hI hs=>by injection hs with hs;rw[<-hs];simp[hI]) (fun s self hI=>by
   show impl_copies.b0 _ _ _ _=_;unfold impl_copies.b0;simp only[bP,aF,aG]
   rfl) [] rfl k (by omega)
 rw[forI_fold,fold_self] at this;exact this
theorem specCopies_eq (ps:Pages) (h:gp ps):spec_l7Copy.sem (ps,())=some (ps,()):=by
 obtain ⟨h1,h2⟩:=h;refine lift_eq (k:=14) fun k hk=>(spec_l7Copy.raw_eq k _).trans ?_
 have:=for_loop (B:=fun self v=>spec_l7Copy.b0 self (fun z=>spec_l7Copy.q0 (ps,()) z) (ps,()) v) ps (fun (s:Pages) (i:Int)=>(s,i)) (fun _ s x=>.inr (s++[x])) (fun s=>(s,())) (fun i s=>s.length=i) (by rw[maxLen_val];omega)
  (fun i hi s self hI=>by
   show spec_l7Copy.b0 _ _ _ _=_;unfold spec_l7Copy.b0;have hlt:(i:Int) < (ps.length:Int):=by omega
   have hx:=h2 ps[i] (bC hi);simp only[hlt,aE,aL,aN,aH,aI,aA hi,aB];rw[specCopy_eq _ (by omega)];have hc:s.length+[ps[i]].length<=CAP:=cap_ok (by simp only[aP,aZ];omega)
   simp only[aB,hc,aH])
  (fun i hi s s' hI hs=>by injection hs with hs;rw[<-hs];simp[hI]) (fun s self hI=>by
   show spec_l7Copy.b0 _ _ _ _=_;unfold spec_l7Copy.b0;simp only[bP,aF,aG]
   rfl) [] rfl k (by omega)
 rw[forI_fold,fold_self] at this;exact this
end OT
namespace OT
open Go
def letter (c:UInt8):Bool:=!decide ((c.toNat:Int) < 97)&&!decide ((122:Int) < (c.toNat:Int))
def textB (s:List UInt8):Bool:=s.all letter&&decide (s.length<=8)
def rowF (x:Row):Int:=if inB x.1 0 3&&(inB x.2.1 1 99&&inB x.2.2.1 0 999) then (if textB x.2.2.2.1 then 0 else 5) else 3
theorem len8 (s:List UInt8):decide ((s.length:Int)<=8)=decide (s.length<=8):=by
 by_cases h:s.length<=8
 ·have:(s.length:Int)<=8:=by omega
  simp[h,this]
 ·have:¬ (s.length:Int)<=8:=by omega
  simp[h,this]
theorem specText_eq (s:List UInt8) (h:s.length<=maxLen):spec_l1Text.sem (s,())=some (textB s,()):=by
 refine lift_eq (k:=s.length+1) fun k hk=>(spec_l1Text.raw_eq k _).trans ?_
 have:=for_loop (B:=fun self v=>spec_l1Text.b0 self (fun z=>spec_l1Text.q0 (s,()) z) (s,()) v) s (fun (_:Unit) (i:Int)=>i) (fun _ _ x=>if letter x then .inr () else .inl (false,())) (fun _=>(decide (s.length<=8),())) (fun _ _=>True) h
  (fun i hi _ self _=>by
   show spec_l1Text.b0 _ _ _ _=_;unfold spec_l1Text.b0;have hlt:(i:Int) < (s.length:Int):=by omega
   simp only[hlt,aE,aL,aN,aH,aI,aA hi,aB];unfold letter
   by_cases h1:((s[i].toNat:Int) < 97) <;> by_cases h2:((122:Int) < (s[i].toNat:Int)) <;> simp[h1,h2]) (fun _ _ _ _ _ _=>trivial) (fun _ self _=>by
   show spec_l1Text.b0 _ _ _ _=_;unfold spec_l1Text.b0
   simp[spec_l1Text.q0,spec_l1Text.q0,len8]) () trivial k (by omega)
 refine this.trans ?_;rw[forI_check letter (false,()) (fun _=>(decide (s.length<=8),()))];unfold textB;cases s.all letter <;> rfl
theorem specRow_eq (x:Row) (h:List.length x.2.2.2.1<=maxLen):spec_l1Fault.sem (x,())=some (rowF x,()):=by
 refine lift_eq (k:=0) fun k _=>(spec_l1Fault.raw_eq k _).trans ?_;show spec_l1Fault.p _=_;unfold spec_l1Fault.p rowF inB;simp only[specIn_eq,specText_eq _ h,aB];cases decide ((0:Int)<=x.1) <;> cases decide (x.1<=3) <;> cases decide ((1:Int)<=x.2.1) <;> cases decide (x.2.1<=99) <;> cases decide ((0:Int)<=x.2.2.1) <;> cases decide (x.2.2.1<=999) <;> cases textB x.2.2.2.1 <;> rfl
theorem implRow_eq (x:Row) (h:List.length x.2.2.2.1<=maxLen):impl_RowFault.sem (x,())=some (rowF x,()):=by
 refine lift_eq (k:=List.length x.2.2.2.1+1) fun k hk=>(impl_RowFault.raw_eq k _).trans ?_
 have:=for_loop (B:=fun self v=>impl_RowFault.b0 self (fun z=>impl_RowFault.q0 (x,()) z) (x,()) v) x.2.2.2.1 (fun (_:Unit) (i:Int)=>i) (fun _ _ c=>if letter c then .inr () else .inl (5,())) (fun _=>(0,())) (fun _ _=>True) h
  (fun i hi _ self _=>by
   show impl_RowFault.b0 _ _ _ _=_;unfold impl_RowFault.b0;have hlt:(i:Int) < (List.length x.2.2.2.1:Int):=by omega
   simp only[hlt,aE,aL,aN,aH,aI,aA hi,aB];unfold letter
   by_cases h1:(((x.2.2.2.1)[i].toNat:Int) < 97) <;> by_cases h2:((122:Int) < ((x.2.2.2.1)[i].toNat:Int)) <;> simp[h1,h2]) (fun _ _ _ _ _ _=>trivial) (fun _ self _=>by
   show impl_RowFault.b0 _ _ _ _=_;unfold impl_RowFault.b0
   simp[impl_RowFault.q0,impl_RowFault.q0]) () trivial k (by omega)
 rw[forI_check letter (5,()) (fun _=>(0,()))] at this;have this:impl_RowFault.r0 k (x,()) 0=_:=this;unfold impl_RowFault.p rowF inB textB;simp only[implIn_eq,this,aB]
 have h8:decide ((8:Int) < (List.length x.2.2.2.1:Int))=!decide (List.length x.2.2.2.1<=8):=by
  by_cases hc:List.length x.2.2.2.1<=8
  ·have:¬ (8:Int) < (List.length x.2.2.2.1:Int):=by omega
   simp[hc,this]
  ·have:(8:Int) < (List.length x.2.2.2.1:Int):=by omega
   simp[hc,this]
 rw[h8];cases decide ((0:Int)<=x.1) <;> cases decide (x.1<=3) <;> cases decide ((1:Int)<=x.2.1) <;> cases decide (x.2.1<=99) <;> cases decide ((0:Int)<=x.2.2.1) <;> cases decide (x.2.2.1<=999) <;> cases decide (List.length x.2.2.2.1<=8) <;> cases (x.2.2.2.1).all letter <;> rfl
def rl (x:Row):Prop:=List.length x.2.2.2.1<=maxLen
def cl (c:Change):Prop:=rl c.2.1/\rl c.2.2.2.1
def sameKey (a b:Row):Bool:=decide (a.1=b.1)&&decide (a.2.1=b.2.1)
def befB (a b:Int×Int):Bool:=decide (a.1 < b.1)||(decide (a.1=b.1)&&decide (a.2 < b.2))
def chF (c:Change):Int:=if (!c.1&&!c.2.2.1)||(c.1&&c.2.2.1&&!sameKey c.2.1 c.2.2.2.1) then 1 else if c.1&&!decide (rowF c.2.1=0) then rowF c.2.1 else if c.2.2.1 then rowF c.2.2.2.1 else 0
def chS (c:Change):Int:=if chF c=0 then (if c.1&&c.2.2.1&&Ty.eq tRow c.2.1 c.2.2.2.1 then 1 else 0) else chF c
def ck (c:Change):Int×Int:=if c.2.2.1 then (c.2.2.2.1.1,c.2.2.2.1.2.1) else (c.2.1.1,c.2.1.2.1)
theorem specChange_eq (c:Change) (h:cl c):spec_l6Change.sem (c,())=some (chF c,()):=by
 refine lift_eq (k:=0) fun k _=>(spec_l6Change.raw_eq k _).trans ?_;show spec_l6Change.p _=_;unfold spec_l6Change.p chF sameKey;simp only[specRow_eq _ h.1,specRow_eq _ h.2,aB];cases c.1 <;> cases c.2.2.1 <;> by_cases h1:c.2.1.1=c.2.2.2.1.1 <;> by_cases h2:c.2.1.2.1=c.2.2.2.1.2.1 <;> by_cases h3:rowF c.2.1=0 <;> simp[h1,h2,h3]
theorem isBefore_eq (a b:Row):impl_IsBefore.sem (a,b,())=some (befB (a.1,a.2.1) (b.1,b.2.1),()):=by
 refine lift_eq (k:=0) fun k _=>(impl_IsBefore.raw_eq k _).trans ?_;show impl_IsBefore.p _=_;unfold impl_IsBefore.p befB;by_cases h1:a.1 < b.1 <;> by_cases h2:a.1=b.1 <;> simp[h1,h2]
theorem order_eq (a b:Row):impl_order.sem (a,b,())=some (if befB (a.1,a.2.1) (b.1,b.2.1) then -1 else if befB (b.1,b.2.1) (a.1,a.2.1) then 1 else 0,()):=by
 refine lift_eq (k:=0) fun k _=>(impl_order.raw_eq k _).trans ?_;show impl_order.p _=_;unfold impl_order.p;simp only[isBefore_eq,aB];cases befB (a.1,a.2.1) (b.1,b.2.1) <;> cases befB (b.1,b.2.1) (a.1,a.2.1) <;> rfl
theorem order_zero (a b:Row):decide ((if befB (a.1,a.2.1) (b.1,b.2.1) then (-1:Int) else if befB (b.1,b.2.1) (a.1,a.2.1) then 1 else 0)=0)=sameKey a b:=by
 unfold befB sameKey;by_cases h1:a.1 < b.1
 ·have:¬ a.1=b.1:=by omega
  simp[h1,this]
 ·by_cases h2:a.1=b.1
  ·by_cases h3:a.2.1 < b.2.1
   ·have:¬ a.2.1=b.2.1:=by omega
    simp[h2,h3,this]
   ·by_cases h4:b.2.1 < a.2.1
    ·have:¬ a.2.1=b.2.1:=by omega
     simp[h2,h3,h4,this]
    ·have:a.2.1=b.2.1:=by omega
     simp[h2,this]
  ·have:b.1 < a.1:=by omega
   simp[h1,h2,this]
theorem implChange_eq (c:Change) (h:cl c):impl_changeFault.sem (c,())=some (chF c,()):=by
 refine lift_eq (k:=0) fun k _=>(impl_changeFault.raw_eq k _).trans ?_;show impl_changeFault.p _=_;unfold impl_changeFault.p chF;simp only[implRow_eq _ h.1,implRow_eq _ h.2,order_eq,aB,order_zero];cases c.1 <;> cases c.2.2.1 <;> cases sameKey c.2.1 c.2.2.2.1 <;> by_cases h3:rowF c.2.1=0 <;> simp[h3]
theorem specChangeS_eq (c:Change) (h:cl c):spec_l9Change.sem (c,())=some (chS c,()):=by
 refine lift_eq (k:=0) fun k _=>(spec_l9Change.raw_eq k _).trans ?_;show spec_l9Change.p _=_;unfold spec_l9Change.p chS;simp only[specChange_eq c h,aB];by_cases h1:chF c=0
 ·simp only[h1,aE,aQ,aG,aH];cases c.1 <;> cases c.2.2.1 <;> cases Ty.eq tRow c.2.1 c.2.2.2.1 <;> rfl
 ·simp[h1]
theorem single_eq (c:Change) (h:cl c):impl_singleFault.sem (c,())=some (chS c,()):=by
 refine lift_eq (k:=0) fun k _=>(impl_singleFault.raw_eq k _).trans ?_;show impl_singleFault.p _=_;unfold impl_singleFault.p chS;simp only[implChange_eq c h,aB];by_cases h1:chF c=0
 ·simp only[h1,aE,aQ,aG,aH];cases c.1 <;> cases c.2.2.1 <;> cases Ty.eq tRow c.2.1 c.2.2.2.1 <;> rfl
 ·simp[h1]
theorem specKey_eq (c:Change):spec_l6Key.sem (c,())=some ((ck c).1,(ck c).2,()):=by
 refine lift_eq (k:=0) fun k _=>(spec_l6Key.raw_eq k _).trans ?_;show spec_l6Key.p _=_;unfold spec_l6Key.p ck;cases c.2.2.1 <;> rfl
def keyRow (c:Change):Row:=if c.2.2.1 then c.2.2.2.1 else c.2.1
theorem keyRow_ck (c:Change):((keyRow c).1,(keyRow c).2.1)=ck c:=by unfold keyRow ck;cases c.2.2.1 <;> rfl
theorem implKey_eq (c:Change):impl_Change_key.sem (c,())=some (keyRow c,()):=by
 refine lift_eq (k:=0) fun k _=>(impl_Change_key.raw_eq k _).trans ?_;show impl_Change_key.p _=_;unfold impl_Change_key.p keyRow;cases c.2.2.1 <;> rfl
theorem len60 (n:Nat) (m:Nat):decide ((m:Int) < (n:Int))=decide (m < n):=by
 by_cases h:m < n
 ·have:(m:Int) < (n:Int):=by omega
  simp[h,this]
 ·have:¬ (m:Int) < (n:Int):=by omega
  simp[h,this]
theorem wprev {i:Nat} (hi:0 < i) (h:i<=maxLen):w64 ((i:Int) - 1)=((i - 1:Nat):Int):=by
 rw[maxLen_val] at h;rw[w64_in (by omega)];omega
theorem rl_ok {x:Row} (h:okD tRow x):rl x:=h.2.2.2.1
theorem cl_ok {c:Change} (h:okD tChange c):cl c:=⟨rl_ok h.2.1,rl_ok h.2.2.2.1⟩
end OT
