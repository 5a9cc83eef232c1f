/- The proof's parts, merged: Printed by gen.py, a program of this claim  what each Go function computes.. No conditions but those that each states. -/
import Derived.Test.YtcpoeochapnmlaaGreatWd
set_option maxRecDepth 100000
set_option linter.unusedVariables false
namespace OT
open Go Go.Proofs.Tryz
namespace slices_SortFunc_seen
open Go.Proofs
abbrev Arg:Type:=(List Seen)×(Nat×Int)×Unit
abbrev Out:Type:=(List Seen)×Unit
noncomputable def sem (a:Arg):Option Out:=(sortF tSeen impl_look_1.sem a.1).map fun r=>(r,())
noncomputable def sig:Sig:={ ps:=[(.muts (ownMd (.slc tSeen)),.slc tSeen),(.fix 217,.fn)],rs:=[],F:=sem }
def sortlay_ren:Go.Shelf.Ren:=⟨fun | 6=>216 | 15=>276 | 14=>275 | 28=>308 | 29=>309 | 20=>300 | 21=>301 | 22=>302 | 23=>303 | 24=>304 | 25=>305 | 26=>306 | 27=>307 | 46=>313 | 47=>314 | 48=>315 | 49=>316 | 50=>317 | 57=>318 | n=>n,fun | 22=>109 | 24=>114 | 25=>297 | 3=>3 | 39=>291 | 0=>0 | 53=>364 | 55=>366 | 4=>4 | 46=>358 | 45=>357 | 50=>219 | 5=>5 | 9=>9 | 66=>369 | 70=>373 | 76=>375 | 77=>288 | n=>n,fun | n=>n⟩
theorem sortlay:Go.Proofs.SlLaysF0.n6 Tryz.prog sortlay_ren:={
 mixed:=by kernel_rfl
 f6:=⟨Tryz.f216.name,by decide,Tryz.func216.trans (congrArg some (by kernel_rfl))⟩
 f14:=⟨Tryz.f275.name,by decide,Tryz.func275.trans (congrArg some (by kernel_rfl))⟩
 f15:=Tryz.func276.trans (congrArg some (by kernel_rfl))
 f20:=⟨Tryz.f300.name,by decide,Tryz.func300.trans (congrArg some (by kernel_rfl))⟩
 f21:=⟨Tryz.f301.name,by decide,Tryz.func301.trans (congrArg some (by kernel_rfl))⟩
 f22:=⟨Tryz.f302.name,by decide,Tryz.func302.trans (congrArg some (by kernel_rfl))⟩
 f23:=⟨Tryz.f303.name,by decide,Tryz.func303.trans (congrArg some (by kernel_rfl))⟩
 f24:=⟨Tryz.f304.name,by decide,Tryz.func304.trans (congrArg some (by kernel_rfl))⟩
 f25:=⟨Tryz.f305.name,by decide,Tryz.func305.trans (congrArg some (by kernel_rfl))⟩
 f26:=⟨Tryz.f306.name,by decide,Tryz.func306.trans (congrArg some (by kernel_rfl))⟩
 f27:=⟨Tryz.f307.name,by decide,Tryz.func307.trans (congrArg some (by kernel_rfl))⟩
 f28:=Tryz.func308.trans (congrArg some (by kernel_rfl))
 f29:=Tryz.func309.trans (congrArg some (by kernel_rfl))
 f46:=⟨Tryz.f313.name,by decide,Tryz.func313.trans (congrArg some (by kernel_rfl))⟩
 f47:=Tryz.func314.trans (congrArg some (by kernel_rfl))
 f48:=Tryz.func315.trans (congrArg some (by kernel_rfl))
 f49:=⟨Tryz.f316.name,by decide,Tryz.func316.trans (congrArg some (by kernel_rfl))⟩
 f50:=⟨Tryz.f317.name,by decide,Tryz.func317.trans (congrArg some (by kernel_rfl))⟩
 f57:=⟨Tryz.f318.name,by decide,Tryz.func318.trans (congrArg some (by kernel_rfl))⟩
 t0:=Tryz.underlying0
 a0:=Tryz.isAgg0
 z0:=Tryz.sizeOf0
 v0:=Tryz.zeroValue0
 t3:=Tryz.underlying3
 a3:=Tryz.isAgg3
 z3:=Tryz.sizeOf3
 v3:=Tryz.zeroValue3
 t4:=Tryz.underlying4
 a4:=Tryz.isAgg4
 z4:=Tryz.sizeOf4
 v4:=Tryz.zeroValue4
 t5:=Tryz.underlying5
 a5:=Tryz.isAgg5
 z5:=Tryz.sizeOf5
 v5:=Tryz.zeroValue5
 t9:=Tryz.underlying9
 a9:=Tryz.isAgg9
 z9:=Tryz.sizeOf9
 v9:=Tryz.zeroValue9
 t22:=Tryz.underlying109
 a22:=Tryz.isAgg109
 z22:=Tryz.sizeOf109
 v22:=Tryz.zeroValue109
 t25:=Tryz.underlying297
 a25:=Tryz.isAgg297
 z25:=Tryz.sizeOf297
 v25:=Tryz.zeroValue297
 t39:=Tryz.underlying291
 a39:=Tryz.isAgg291
 z39:=Tryz.sizeOf291
 v39:=Tryz.zeroValue291
 t45:=Tryz.underlying357
 a45:=Tryz.isAgg357
 z45:=Tryz.sizeOf357
 v45:=Tryz.zeroValue357
 t46:=Tryz.underlying358
 a46:=Tryz.isAgg358
 z46:=Tryz.sizeOf358
 v46:=Tryz.zeroValue358
 t50:=Tryz.underlying219
 a50:=Tryz.isAgg219
 z50:=Tryz.sizeOf219
 v50:=Tryz.zeroValue219
 t53:=Tryz.underlying364
 a53:=Tryz.isAgg364
 z53:=Tryz.sizeOf364
 v53:=Tryz.zeroValue364
 t55:=Tryz.underlying366
 a55:=Tryz.isAgg366
 z55:=Tryz.sizeOf366
 v55:=Tryz.zeroValue366
 t66:=Tryz.underlying369
 a66:=Tryz.isAgg369
 z66:=Tryz.sizeOf369
 v66:=Tryz.zeroValue369
 t70:=Tryz.underlying373
 a70:=Tryz.isAgg373
 z70:=Tryz.sizeOf373
 v70:=Tryz.zeroValue373
 t76:=Tryz.underlying375
 a76:=Tryz.isAgg375
 z76:=Tryz.sizeOf375
 v76:=Tryz.zeroValue375
 t77:=Tryz.underlying288
 a77:=Tryz.isAgg288
 z77:=Tryz.sizeOf288
 v77:=Tryz.zeroValue288 }
theorem ok:Ok prog 216 sig:=sort_ok (e:=tSeen) sortlay rfl rfl (by kernel_rfl) (by decide) (g:=217) (cF:=impl_look_1.sem) impl_look_1.ok ⟨f216,func216,by kernel_rfl,by kernel_rfl,by kernel_rfl⟩
end slices_SortFunc_seen
namespace impl_look
abbrev Arg:Type:=(List (List UInt8))×Unit
abbrev Out:Type:=(List Seen)×Int×Unit
noncomputable def ps:PQ:=[(.ro,(.slc (.slc u8)))]
noncomputable def rs:RQ:=[((.slc tSeen),(ownMd (.slc tSeen))),(i64,(roMd i64))]
noncomputable def tl:TL:=[(2,i64),(3,i64),(22,(.slc (.slc u8))),(32,tRow),(46,(.slc u8)),(102,tCellResult),(109,(.slc tSeen)),(114,tSeen),(292,(.map (.arr 2 i64) tRow)),(293,(.arr 2 i64)),(295,(.map (.arr 2 i64) .bool))]
noncomputable def gl:GL:=[(130,impl_slots.sig),(131,impl_hasSlot.sig),(132,impl_UnpackCell.sig),(133,impl_cellAt.sig),(184,impl_IsBefore.sig),(216,slices_SortFunc_seen.sig)]
noncomputable def E:Env:={ TI:=lookN tl,G:=lookN gl,lv:=[(4,[4,5,6,21,22,23]),(7,[4,5,6,7,8,21,22,23,29,30]),(21,[4,5,6,81,82,83]),(29,[4,5,6,15,101,102,103]),(40,[4,19])],lx:=[(0,[4,5,6]),(2,[4,5,6,21,22,23]),(3,[4,5,6,7,8,21,22,23,29,30]),(5,[4,5,6]),(7,[4]),(9,[4])],od:=[(42,[0,1,2,3,4,5,6,7,8,9,10,11,12])] }
noncomputable def W (k:Nat) (a:Arg):Option Out:=bodyK E k f134 ps rs [] [] a
noncomputable def sem (a:Arg):Option Out:=lift fun k=>W k a
noncomputable def sig:Sig:={ ps:=ps,rs:=rs,F:=sem }
noncomputable def C:Code:=bodyOf f134
noncomputable def fin:St->Option Out:=outK ps rs [] (Func.results f134).toList (mvs [])
noncomputable def K0:Ex->St->Option Out:=endK fin
noncomputable def T0 (a1:Arg) (v402:(List Seen)×(List Seen)×(List ((List Int)×Row))×(List (List UInt8))×Int×Int):St:={ n:=148,sl:=[(4,.own (.slc tSeen) (ownMd (.slc tSeen)) [] v402.1),(5,.own (.slc tSeen) (ownMd (.slc tSeen)) [] v402.2.1),(6,.own (.map (.arr 2 i64) tRow) (ownMd (.map (.arr 2 i64) tRow)) [] v402.2.2.1),(21,.val (.slc (.slc u8)) v402.2.2.2.1),(22,.val i64 v402.2.2.2.2.1),(23,.val i64 v402.2.2.2.2.2)],vr:=[],lent:=[] }
noncomputable def N0 (k:Nat):St->(Ex->St->Option Out)->Option Out:=codeK E k fin (sub [1,1,1,0,1,0,0] C)
noncomputable def M0:St->St:=keepF [4,5,6,21,22,23] []
noncomputable def S0 (rec:RT Out) (a1:Arg):((List Seen)×(List Seen)×(List ((List Int)×Row))×(List (List UInt8))×Int×Int)->Option Out:=fun v402=>rec (T0 a1 v402)
noncomputable def X0_0 (K:KT Out) (a1:Arg):((List Seen)×(List Seen)×(List ((List Int)×Row)))->Option Out:=fun z=>K (.exit 0) ({ n:=148,sl:=[(4,.own (.slc tSeen) (ownMd (.slc tSeen)) [] z.1),(5,.own (.slc tSeen) (ownMd (.slc tSeen)) [] z.2.1),(6,.own (.map (.arr 2 i64) tRow) (ownMd (.map (.arr 2 i64) tRow)) [] z.2.2)],vr:=[],lent:=[] })
noncomputable def T1 (a1:Arg) (c1006:Int) (c1007:List UInt8) (c1008:List (List UInt8)) (c1009:Int) (c1010:Int) (v1005:(List Seen)×(List Seen)×(List ((List Int)×Row))×Int):St:={ n:=148,sl:=[(4,.own (.slc tSeen) (ownMd (.slc tSeen)) [] v1005.1),(5,.own (.slc tSeen) (ownMd (.slc tSeen)) [] v1005.2.1),(6,.own (.map (.arr 2 i64) tRow) (ownMd (.map (.arr 2 i64) tRow)) [] v1005.2.2.1),(7,.val i64 c1006),(8,.val (.slc u8) c1007),(21,.val (.slc (.slc u8)) c1008),(22,.val i64 c1009),(23,.val i64 c1006),(29,.val i64 c1010),(30,.val i64 v1005.2.2.2)],vr:=[],lent:=[] }
noncomputable def N1 (k:Nat):St->(Ex->St->Option Out)->Option Out:=codeK E k fin (sub [1,1,1,0,1,0,0,1,1,0,0,1,1,0,0] C)
noncomputable def M1:St->St:=keepF [4,5,6,7,8,21,22,23,29,30] []
noncomputable def S1 (rec:RT Out) (a1:Arg) (c1006:Int) (c1007:List UInt8) (c1008:List (List UInt8)) (c1009:Int) (c1010:Int):((List Seen)×(List Seen)×(List ((List Int)×Row))×Int)->Option Out:=fun v1005=>rec (T1 a1 c1006 c1007 c1008 c1009 c1010 v1005)
noncomputable def X1_2 (K:KT Out) (a1:Arg) (c1006:Int) (c1007:List UInt8) (c1008:List (List UInt8)) (c1009:Int) (c1010:Int):((List Seen)×(List Seen)×(List ((List Int)×Row)))->Option Out:=fun z=>K (.exit 2) ({ n:=148,sl:=[(4,.own (.slc tSeen) (ownMd (.slc tSeen)) [] z.1),(5,.own (.slc tSeen) (ownMd (.slc tSeen)) [] z.2.1),(6,.own (.map (.arr 2 i64) tRow) (ownMd (.map (.arr 2 i64) tRow)) [] z.2.2),(21,.val (.slc (.slc u8)) c1008),(22,.val i64 c1009),(23,.val i64 c1006)],vr:=[],lent:=[] })
noncomputable def b1 (self:((List Seen)×(List Seen)×(List ((List Int)×Row))×Int)->Option Out) (e2:((List Seen)×(List Seen)×(List ((List Int)×Row)))->Option Out) (a1:Arg) (c1006:Int) (c1007:List UInt8) (c1008:List (List UInt8)) (c1009:Int) (c1010:Int) (v1005:(List Seen)×(List Seen)×(List ((List Int)×Row))×Int):Option Out:=bif decide (v1005.2.2.2 < c1010) then ((impl_hasSlot.sem (c1007,v1005.2.2.2,())).bind fun r1211=>bif !r1211.1 then (self (v1005.1,v1005.2.1,v1005.2.2.1,w64 (v1005.2.2.2+(1:Int)))) else (impl_cellAt.sem (c1007,v1005.2.2.2,())).bind fun r1212=>(impl_UnpackCell.sem (r1212.1,())).bind fun r1213=>bif !decide (r1213.1.1=(0:Int)) then (some (([]:List Seen),(5:Int),())) else bif decide (r1213.1.2.1=(0:Int)) then (if v1005.1.length+[(r1213.1.2.2.2.2.1,c1006,v1005.2.2.2,false,c1006,v1005.2.2.2,())].length<=CAP then (let y1214:=v1005.1++[(r1213.1.2.2.2.2.1,c1006,v1005.2.2.2,false,c1006,v1005.2.2.2,())];self (y1214,v1005.2.1,v1005.2.2.1,w64 (v1005.2.2.2+(1:Int)))) else none) else bif decide (r1213.1.2.1=(2:Int)) then (if 0 < (List.replicate 2 (0:Int)).length then (if 1 < ((List.replicate 2 (0:Int)).set 0 c1006).length then (let y1215:=mapPut (.arr 2 i64) v1005.2.2.1 (((List.replicate 2 (0:Int)).set 0 c1006).set 1 v1005.2.2.2) r1213.1.2.2.2.2.1;self (v1005.1,v1005.2.1,y1215,w64 (v1005.2.2.2+(1:Int)))) else none) else none) else if v1005.2.1.length+[(((0:Int),(0:Int),(0:Int),([]:List UInt8),()),c1006,v1005.2.2.2,true,r1213.1.2.2.1,r1213.1.2.2.2.1,())].length<=CAP then (let y1216:=v1005.2.1++[(((0:Int),(0:Int),(0:Int),([]:List UInt8),()),c1006,v1005.2.2.2,true,r1213.1.2.2.1,r1213.1.2.2.2.1,())];self (v1005.1,y1216,v1005.2.2.1,w64 (v1005.2.2.2+(1:Int)))) else none) else e2 (v1005.1,v1005.2.1,v1005.2.2.1)
noncomputable def B1 (k:Nat) (self:((List Seen)×(List Seen)×(List ((List Int)×Row))×Int)->Option Out) (e2:((List Seen)×(List Seen)×(List ((List Int)×Row)))->Option Out) (a1:Arg) (c1006:Int) (c1007:List UInt8) (c1008:List (List UInt8)) (c1009:Int) (c1010:Int) (v1005:(List Seen)×(List Seen)×(List ((List Int)×Row))×Int):Option Out:=b1 self e2 a1 c1006 c1007 c1008 c1009 c1010 v1005
theorem B1_eq (k:Nat) (rec:RT Out) (K:KT Out) (a1:Arg) (c1006:Int) (c1007:List UInt8) (c1008:List (List UInt8)) (c1009:Int) (c1010:Int) (v1005:(List Seen)×(List Seen)×(List ((List Int)×Row))×Int):N1 k (T1 a1 c1006 c1007 c1008 c1009 c1010 v1005) (loopC rec M1 K)=B1 k (S1 rec a1 c1006 c1007 c1008 c1009 c1010) (X1_2 K a1 c1006 c1007 c1008 c1009 c1010) a1 c1006 c1007 c1008 c1009 c1010 v1005:=by kernel_rfl
noncomputable def l1 (k:Nat) (a1:Arg) (c1006:Int) (c1007:List UInt8) (c1008:List (List UInt8)) (c1009:Int) (c1010:Int) (e2:((List Seen)×(List Seen)×(List ((List Int)×Row)))->Option Out) (v:(List Seen)×(List Seen)×(List ((List Int)×Row))×Int):Option Out:=rawIter (fun self v=>B1 k self e2 a1 c1006 c1007 c1008 c1009 c1010 v) k v
theorem l1_eq (k:Nat) (K:KT Out) (a1:Arg) (c1006:Int) (c1007:List UInt8) (c1008:List (List UInt8)) (c1009:Int) (c1010:Int) (v1005:(List Seen)×(List Seen)×(List ((List Int)×Row))×Int):iterK (N1 k) M1 K k (T1 a1 c1006 c1007 c1008 c1009 c1010 v1005)=l1 k a1 c1006 c1007 c1008 c1009 c1010 (X1_2 K a1 c1006 c1007 c1008 c1009 c1010) v1005:=
 iter_raw _ _ K (fun v1005=>(T1 a1 c1006 c1007 c1008 c1009 c1010 v1005)) (fun self v=>B1 k self (X1_2 K a1 c1006 c1007 c1008 c1009 c1010) a1 c1006 c1007 c1008 c1009 c1010 v) (fun rec v=>B1_eq k rec K a1 c1006 c1007 c1008 c1009 c1010 v) k v1005
noncomputable def q0 (self:((List Seen)×(List Seen)×(List ((List Int)×Row))×(List (List UInt8))×Int×Int)->Option Out) (e0:((List Seen)×(List Seen)×(List ((List Int)×Row)))->Option Out) (a1:Arg) (c1006:Int) (c1007:List UInt8) (c1008:List (List UInt8)) (c1009:Int) (c1010:Int) (z1217:((List Seen)×(List Seen)×(List ((List Int)×Row)))):Option Out:=self (z1217.1,z1217.2.1,z1217.2.2,c1008,c1009,w64 (c1006+(1:Int)))
noncomputable def Q0 (k:Nat) (self:((List Seen)×(List Seen)×(List ((List Int)×Row))×(List (List UInt8))×Int×Int)->Option Out) (e0:((List Seen)×(List Seen)×(List ((List Int)×Row)))->Option Out) (a1:Arg) (c1006:Int) (c1007:List UInt8) (c1008:List (List UInt8)) (c1009:Int) (c1010:Int) (z1217:((List Seen)×(List Seen)×(List ((List Int)×Row)))):Option Out:=q0 self e0 a1 c1006 c1007 c1008 c1009 c1010 z1217
theorem Q0_eq (k:Nat) (rec:RT Out) (K:KT Out) (a1:Arg) (c1006:Int) (c1007:List UInt8) (c1008:List (List UInt8)) (c1009:Int) (c1010:Int) (z1217:((List Seen)×(List Seen)×(List ((List Int)×Row)))):X1_2 (blockC 2 (blockC 1 (seqC (codeK E k fin (sub [1,1,1,0,1,0,0,1,1,1] C)) (loopC rec (keepF [4,5,6,21,22,23] []) K)))) a1 c1006 c1007 c1008 c1009 c1010 z1217=Q0 k (S0 rec a1) (X0_0 K a1) a1 c1006 c1007 c1008 c1009 c1010 z1217:=by kernel_rfl
noncomputable def s1 (k:Nat) (rec:RT Out) (K:KT Out) (a1:Arg):Int->(List UInt8)->(List (List UInt8))->Int->Int->((List Seen)×(List Seen)×(List ((List Int)×Row))×Int)->Option Out:=fun c1006 c1007 c1008 c1009 c1010 v1005=>iterK (N1 k) M1 (blockC 2 (blockC 1 (seqC (codeK E k fin (sub [1,1,1,0,1,0,0,1,1,1] C)) (loopC rec (keepF [4,5,6,21,22,23] []) K)))) k (T1 a1 c1006 c1007 c1008 c1009 c1010 v1005)
noncomputable def r1 (k:Nat) (self:((List Seen)×(List Seen)×(List ((List Int)×Row))×(List (List UInt8))×Int×Int)->Option Out) (e0:((List Seen)×(List Seen)×(List ((List Int)×Row)))->Option Out) (a1:Arg):Int->(List UInt8)->(List (List UInt8))->Int->Int->((List Seen)×(List Seen)×(List ((List Int)×Row))×Int)->Option Out:=fun c1006 c1007 c1008 c1009 c1010 v1005=>l1 k a1 c1006 c1007 c1008 c1009 c1010 (fun z=>Q0 k self e0 a1 c1006 c1007 c1008 c1009 c1010 z) v1005
theorem s1_eq (k:Nat) (rec:RT Out) (K:KT Out) (a1:Arg):s1 k rec K a1=r1 k (S0 rec a1) (X0_0 K a1) a1:=by
 funext c1006;funext c1007;funext c1008;funext c1009;funext c1010;funext v1005;
 have h2:X1_2 ((blockC 2 (blockC 1 (seqC (codeK E k fin (sub [1,1,1,0,1,0,0,1,1,1] C)) (loopC rec (keepF [4,5,6,21,22,23] []) K))))) a1 c1006 c1007 c1008 c1009 c1010=fun z=>Q0 k (S0 rec a1) (X0_0 K a1) a1 c1006 c1007 c1008 c1009 c1010 z:=funext fun z=>Q0_eq k rec K a1 c1006 c1007 c1008 c1009 c1010 z
 refine (l1_eq k ((blockC 2 (blockC 1 (seqC (codeK E k fin (sub [1,1,1,0,1,0,0,1,1,1] C)) (loopC rec (keepF [4,5,6,21,22,23] []) K))))) a1 c1006 c1007 c1008 c1009 c1010 v1005).trans ?_
 rw[h2]
 rfl
noncomputable def b0 (self:((List Seen)×(List Seen)×(List ((List Int)×Row))×(List (List UInt8))×Int×Int)->Option Out) (e0:((List Seen)×(List Seen)×(List ((List Int)×Row)))->Option Out) (l1:Int->(List UInt8)->(List (List UInt8))->Int->Int->((List Seen)×(List Seen)×(List ((List Int)×Row))×Int)->Option Out) (a1:Arg) (v402:(List Seen)×(List Seen)×(List ((List Int)×Row))×(List (List UInt8))×Int×Int):Option Out:=bif decide (v402.2.2.2.2.2 < v402.2.2.2.2.1) then (if 0<=v402.2.2.2.2.2 then ((v402.2.2.2.1[v402.2.2.2.2.2.toNat]?).bind fun x603=>(impl_slots.sem (x603,())).bind fun r604=>l1 v402.2.2.2.2.2 x603 v402.2.2.2.1 v402.2.2.2.2.1 r604.1 (v402.1,v402.2.1,v402.2.2.1,(0:Int))) else none) else e0 (v402.1,v402.2.1,v402.2.2.1)
noncomputable def B0 (k:Nat) (self:((List Seen)×(List Seen)×(List ((List Int)×Row))×(List (List UInt8))×Int×Int)->Option Out) (e0:((List Seen)×(List Seen)×(List ((List Int)×Row)))->Option Out) (a1:Arg) (v402:(List Seen)×(List Seen)×(List ((List Int)×Row))×(List (List UInt8))×Int×Int):Option Out:=b0 self e0 (r1 k self e0 a1) a1 v402
theorem b0_eq (k:Nat) (rec:RT Out) (K:KT Out) (a1:Arg) (v402:(List Seen)×(List Seen)×(List ((List Int)×Row))×(List (List UInt8))×Int×Int):N0 k (T0 a1 v402) (loopC rec M0 K)=b0 (S0 rec a1) (X0_0 K a1) (s1 k rec K a1) a1 v402:=by kernel_rfl
theorem B0_eq (k:Nat) (rec:RT Out) (K:KT Out) (a1:Arg) (v402:(List Seen)×(List Seen)×(List ((List Int)×Row))×(List (List UInt8))×Int×Int):N0 k (T0 a1 v402) (loopC rec M0 K)=B0 k (S0 rec a1) (X0_0 K a1) a1 v402:=(b0_eq k rec K a1 v402).trans (by rw[s1_eq];rfl)
noncomputable def l0 (k:Nat) (a1:Arg) (e0:((List Seen)×(List Seen)×(List ((List Int)×Row)))->Option Out) (v:(List Seen)×(List Seen)×(List ((List Int)×Row))×(List (List UInt8))×Int×Int):Option Out:=rawIter (fun self v=>B0 k self e0 a1 v) k v
theorem l0_eq (k:Nat) (K:KT Out) (a1:Arg) (v402:(List Seen)×(List Seen)×(List ((List Int)×Row))×(List (List UInt8))×Int×Int):iterK (N0 k) M0 K k (T0 a1 v402)=l0 k a1 (X0_0 K a1) v402:=
 iter_raw _ _ K (fun v402=>(T0 a1 v402)) (fun self v=>B0 k self (X0_0 K a1) a1 v) (fun rec v=>B0_eq k rec K a1 v) k v402
noncomputable def T2 (a1:Arg) (c1620:List Seen) (c1621:List Seen) (c1622:List ((List Int)×Row)) (c1623:Int) (v1619:Int):St:={ n:=148,sl:=[(4,.own (.slc tSeen) (ownMd (.slc tSeen)) [] c1620),(5,.own (.slc tSeen) (ownMd (.slc tSeen)) [] c1621),(6,.own (.map (.arr 2 i64) tRow) (ownMd (.map (.arr 2 i64) tRow)) [] c1622),(81,.ref 5 [] [0,0]),(82,.val i64 c1623),(83,.val i64 v1619)],vr:=[],lent:=[] }
noncomputable def N2 (k:Nat):St->(Ex->St->Option Out)->Option Out:=codeK E k fin (sub [1,1,1,1,0,1,0,0] C)
noncomputable def M2:St->St:=keepF [4,5,6,81,82,83] []
noncomputable def S2 (rec:RT Out) (a1:Arg) (c1620:List Seen) (c1621:List Seen) (c1622:List ((List Int)×Row)) (c1623:Int):(Int)->Option Out:=fun v1619=>rec (T2 a1 c1620 c1621 c1622 c1623 v1619)
noncomputable def X2_5 (K:KT Out) (a1:Arg) (c1620:List Seen) (c1621:List Seen) (c1622:List ((List Int)×Row)) (c1623:Int):(Unit)->Option Out:=fun z=>K (.exit 5) ({ n:=148,sl:=[(4,.own (.slc tSeen) (ownMd (.slc tSeen)) [] c1620),(5,.own (.slc tSeen) (ownMd (.slc tSeen)) [] c1621),(6,.own (.map (.arr 2 i64) tRow) (ownMd (.map (.arr 2 i64) tRow)) [] c1622)],vr:=[],lent:=[] })
noncomputable def b2 (self:Int->Option Out) (e5:(Unit)->Option Out) (a1:Arg) (c1620:List Seen) (c1621:List Seen) (c1622:List ((List Int)×Row)) (c1623:Int) (v1619:Int):Option Out:=bif decide (v1619 < c1623) then (if 0<=v1619/\v1619 < (c1621.length:Int) then ((c1621[v1619.toNat]?).bind fun x1824=>if 0 < (List.replicate 2 (0:Int)).length then (if 1 < ((List.replicate 2 (0:Int)).set 0 x1824.2.2.2.2.1).length then (let y1825:=orZ (mapGet (.arr 2 i64) c1622 (((List.replicate 2 (0:Int)).set 0 x1824.2.2.2.2.1).set 1 x1824.2.2.2.2.2.1)) ((0:Int),(0:Int),(0:Int),([]:List UInt8),());bif !(mapGet (.arr 2 i64) c1622 (((List.replicate 2 (0:Int)).set 0 x1824.2.2.2.2.1).set 1 x1824.2.2.2.2.2.1)).isSome then (some (([]:List Seen),(4:Int),())) else self (w64 (v1619+(1:Int)))) else none) else none) else none) else e5 ()
noncomputable def B2 (k:Nat) (self:Int->Option Out) (e5:(Unit)->Option Out) (a1:Arg) (c1620:List Seen) (c1621:List Seen) (c1622:List ((List Int)×Row)) (c1623:Int) (v1619:Int):Option Out:=b2 self e5 a1 c1620 c1621 c1622 c1623 v1619
theorem B2_eq (k:Nat) (rec:RT Out) (K:KT Out) (a1:Arg) (c1620:List Seen) (c1621:List Seen) (c1622:List ((List Int)×Row)) (c1623:Int) (v1619:Int):N2 k (T2 a1 c1620 c1621 c1622 c1623 v1619) (loopC rec M2 K)=B2 k (S2 rec a1 c1620 c1621 c1622 c1623) (X2_5 K a1 c1620 c1621 c1622 c1623) a1 c1620 c1621 c1622 c1623 v1619:=by kernel_rfl
noncomputable def l2 (k:Nat) (a1:Arg) (c1620:List Seen) (c1621:List Seen) (c1622:List ((List Int)×Row)) (c1623:Int) (e5:(Unit)->Option Out) (v:Int):Option Out:=rawIter (fun self v=>B2 k self e5 a1 c1620 c1621 c1622 c1623 v) k v
theorem l2_eq (k:Nat) (K:KT Out) (a1:Arg) (c1620:List Seen) (c1621:List Seen) (c1622:List ((List Int)×Row)) (c1623:Int) (v1619:Int):iterK (N2 k) M2 K k (T2 a1 c1620 c1621 c1622 c1623 v1619)=l2 k a1 c1620 c1621 c1622 c1623 (X2_5 K a1 c1620 c1621 c1622 c1623) v1619:=
 iter_raw _ _ K (fun v1619=>(T2 a1 c1620 c1621 c1622 c1623 v1619)) (fun self v=>B2 k self (X2_5 K a1 c1620 c1621 c1622 c1623) a1 c1620 c1621 c1622 c1623 v) (fun rec v=>B2_eq k rec K a1 c1620 c1621 c1622 c1623 v) k v1619
noncomputable def T3 (a1:Arg) (c2228:List Seen) (c2229:List ((List Int)×Row)) (c2230:Int) (v2227:(List Seen)×(List ((List Int)×Bool))×Int):St:={ n:=148,sl:=[(4,.own (.slc tSeen) (ownMd (.slc tSeen)) [] v2227.1),(5,.own (.slc tSeen) (ownMd (.slc tSeen)) [] c2228),(6,.own (.map (.arr 2 i64) tRow) (ownMd (.map (.arr 2 i64) tRow)) [] c2229),(15,.own (.map (.arr 2 i64) .bool) (ownMd (.map (.arr 2 i64) .bool)) [] v2227.2.1),(101,.ref 5 [] [0,0]),(102,.val i64 c2230),(103,.val i64 v2227.2.2)],vr:=[],lent:=[] }
noncomputable def N3 (k:Nat):St->(Ex->St->Option Out)->Option Out:=codeK E k fin (sub [1,1,1,1,1,1,0,1,0,0] C)
noncomputable def M3:St->St:=keepF [4,5,6,15,101,102,103] []
noncomputable def S3 (rec:RT Out) (a1:Arg) (c2228:List Seen) (c2229:List ((List Int)×Row)) (c2230:Int):((List Seen)×(List ((List Int)×Bool))×Int)->Option Out:=fun v2227=>rec (T3 a1 c2228 c2229 c2230 v2227)
noncomputable def X3_7 (K:KT Out) (a1:Arg) (c2228:List Seen) (c2229:List ((List Int)×Row)) (c2230:Int):(List Seen)->Option Out:=fun z=>K (.exit 7) ({ n:=148,sl:=[(4,.own (.slc tSeen) (ownMd (.slc tSeen)) [] z)],vr:=[],lent:=[] })
noncomputable def b3 (self:((List Seen)×(List ((List Int)×Bool))×Int)->Option Out) (e7:(List Seen)->Option Out) (a1:Arg) (c2228:List Seen) (c2229:List ((List Int)×Row)) (c2230:Int) (v2227:(List Seen)×(List ((List Int)×Bool))×Int):Option Out:=bif decide (v2227.2.2 < c2230) then (if 0<=v2227.2.2/\v2227.2.2 < (c2228.length:Int) then ((c2228[v2227.2.2.toNat]?).bind fun x2431=>if 0 < (List.replicate 2 (0:Int)).length then (if 1 < ((List.replicate 2 (0:Int)).set 0 x2431.2.2.2.2.1).length then (let y2432:=((List.replicate 2 (0:Int)).set 0 x2431.2.2.2.2.1).set 1 x2431.2.2.2.2.2.1;bif orZ (mapGet (.arr 2 i64) v2227.2.1 y2432) false then (some (([]:List Seen),(6:Int),())) else let y2433:=orZ (mapGet (.arr 2 i64) c2229 y2432) ((0:Int),(0:Int),(0:Int),([]:List UInt8),());if v2227.1.length+[(y2433,x2431.2)].length<=CAP then (self (v2227.1++[(y2433,x2431.2)],mapPut (.arr 2 i64) v2227.2.1 y2432 true,w64 (v2227.2.2+(1:Int)))) else none) else none) else none) else none) else e7 v2227.1
noncomputable def B3 (k:Nat) (self:((List Seen)×(List ((List Int)×Bool))×Int)->Option Out) (e7:(List Seen)->Option Out) (a1:Arg) (c2228:List Seen) (c2229:List ((List Int)×Row)) (c2230:Int) (v2227:(List Seen)×(List ((List Int)×Bool))×Int):Option Out:=b3 self e7 a1 c2228 c2229 c2230 v2227
theorem B3_eq (k:Nat) (rec:RT Out) (K:KT Out) (a1:Arg) (c2228:List Seen) (c2229:List ((List Int)×Row)) (c2230:Int) (v2227:(List Seen)×(List ((List Int)×Bool))×Int):N3 k (T3 a1 c2228 c2229 c2230 v2227) (loopC rec M3 K)=B3 k (S3 rec a1 c2228 c2229 c2230) (X3_7 K a1 c2228 c2229 c2230) a1 c2228 c2229 c2230 v2227:=by kernel_rfl
noncomputable def l3 (k:Nat) (a1:Arg) (c2228:List Seen) (c2229:List ((List Int)×Row)) (c2230:Int) (e7:(List Seen)->Option Out) (v:(List Seen)×(List ((List Int)×Bool))×Int):Option Out:=rawIter (fun self v=>B3 k self e7 a1 c2228 c2229 c2230 v) k v
theorem l3_eq (k:Nat) (K:KT Out) (a1:Arg) (c2228:List Seen) (c2229:List ((List Int)×Row)) (c2230:Int) (v2227:(List Seen)×(List ((List Int)×Bool))×Int):iterK (N3 k) M3 K k (T3 a1 c2228 c2229 c2230 v2227)=l3 k a1 c2228 c2229 c2230 (X3_7 K a1 c2228 c2229 c2230) v2227:=
 iter_raw _ _ K (fun v2227=>(T3 a1 c2228 c2229 c2230 v2227)) (fun self v=>B3 k self (X3_7 K a1 c2228 c2229 c2230) a1 c2228 c2229 c2230 v) (fun rec v=>B3_eq k rec K a1 c2228 c2229 c2230 v) k v2227
noncomputable def T4 (a1:Arg) (c2837:List Seen) (v2836:Int):St:={ n:=148,sl:=[(4,.own (.slc tSeen) (ownMd (.slc tSeen)) [] c2837),(19,.val i64 v2836)],vr:=[],lent:=[] }
noncomputable def N4 (k:Nat):St->(Ex->St->Option Out)->Option Out:=codeK E k fin (sub [1,1,1,1,1,1,1,1,0,1,0,0] C)
noncomputable def M4:St->St:=keepF [4,19] []
noncomputable def S4 (rec:RT Out) (a1:Arg) (c2837:List Seen):(Int)->Option Out:=fun v2836=>rec (T4 a1 c2837 v2836)
noncomputable def X4_9 (K:KT Out) (a1:Arg) (c2837:List Seen):(Unit)->Option Out:=fun z=>K (.exit 9) ({ n:=148,sl:=[(4,.own (.slc tSeen) (ownMd (.slc tSeen)) [] c2837)],vr:=[],lent:=[] })
noncomputable def b4 (self:Int->Option Out) (e9:(Unit)->Option Out) (a1:Arg) (c2837:List Seen) (v2836:Int):Option Out:=bif decide (v2836 < (c2837.length:Int)) then (if 0<=w64 (v2836 - (1:Int))/\w64 (v2836 - (1:Int)) < (c2837.length:Int) then ((c2837[(w64 (v2836 - (1:Int))).toNat]?).bind fun x3038=>if 0<=v2836/\v2836 < (c2837.length:Int) then ((c2837[v2836.toNat]?).bind fun x3039=>(impl_IsBefore.sem (x3038.1,x3039.1,())).bind fun r3040=>bif !r3040.1 then (some (([]:List Seen),(8:Int),())) else self (w64 (v2836+(1:Int)))) else none) else none) else e9 ()
noncomputable def B4 (k:Nat) (self:Int->Option Out) (e9:(Unit)->Option Out) (a1:Arg) (c2837:List Seen) (v2836:Int):Option Out:=b4 self e9 a1 c2837 v2836
theorem B4_eq (k:Nat) (rec:RT Out) (K:KT Out) (a1:Arg) (c2837:List Seen) (v2836:Int):N4 k (T4 a1 c2837 v2836) (loopC rec M4 K)=B4 k (S4 rec a1 c2837) (X4_9 K a1 c2837) a1 c2837 v2836:=by kernel_rfl
noncomputable def l4 (k:Nat) (a1:Arg) (c2837:List Seen) (e9:(Unit)->Option Out) (v:Int):Option Out:=rawIter (fun self v=>B4 k self e9 a1 c2837 v) k v
theorem l4_eq (k:Nat) (K:KT Out) (a1:Arg) (c2837:List Seen) (v2836:Int):iterK (N4 k) M4 K k (T4 a1 c2837 v2836)=l4 k a1 c2837 (X4_9 K a1 c2837) v2836:=
 iter_raw _ _ K (fun v2836=>(T4 a1 c2837 v2836)) (fun self v=>B4 k self (X4_9 K a1 c2837) a1 c2837 v) (fun rec v=>B4_eq k rec K a1 c2837 v) k v2836
noncomputable def q4 (a1:Arg) (c2837:List Seen) (z3041:(Unit)):Option Out:=some (c2837,(0:Int),())
noncomputable def Q4 (k:Nat) (a1:Arg) (c2837:List Seen) (z3041:(Unit)):Option Out:=q4 a1 c2837 z3041
theorem Q4_eq (k:Nat) (a1:Arg) (c2837:List Seen) (z3041:(Unit)):X4_9 (blockC 9 (seqC (codeK E k fin (sub [1,1,1,1,1,1,1,1,1] C)) K0)) a1 c2837 z3041=Q4 k a1 c2837 z3041:=by kernel_rfl
noncomputable def s4 (k:Nat) (a1:Arg) (c2228:List Seen) (c2229:List ((List Int)×Row)) (c2230:Int):(List Seen)->(Int)->Option Out:=fun c2837 v2836=>iterK (N4 k) M4 (blockC 9 (seqC (codeK E k fin (sub [1,1,1,1,1,1,1,1,1] C)) K0)) k (T4 a1 c2837 v2836)
noncomputable def r4 (k:Nat) (a1:Arg) (c2228:List Seen) (c2229:List ((List Int)×Row)) (c2230:Int):(List Seen)->(Int)->Option Out:=fun c2837 v2836=>l4 k a1 c2837 (fun z=>Q4 k a1 c2837 z) v2836
theorem s4_eq (k:Nat) (a1:Arg) (c2228:List Seen) (c2229:List ((List Int)×Row)) (c2230:Int):s4 k a1 c2228 c2229 c2230=r4 k a1 c2228 c2229 c2230:=by
 funext c2837;funext v2836;
 have h9:X4_9 ((blockC 9 (seqC (codeK E k fin (sub [1,1,1,1,1,1,1,1,1] C)) K0))) a1 c2837=fun z=>Q4 k a1 c2837 z:=funext fun z=>Q4_eq k a1 c2837 z
 refine (l4_eq k ((blockC 9 (seqC (codeK E k fin (sub [1,1,1,1,1,1,1,1,1] C)) K0))) a1 c2837 v2836).trans ?_
 rw[h9]
 rfl
noncomputable def q3 (l4:(List Seen)->(Int)->Option Out) (a1:Arg) (c2228:List Seen) (c2229:List ((List Int)×Row)) (c2230:Int) (z2434:(List Seen)):Option Out:=(slices_SortFunc_seen.sem (z2434,((217,0):Nat×Int),())).bind fun r2435=>l4 r2435.1 (1:Int)
noncomputable def Q3 (k:Nat) (a1:Arg) (c2228:List Seen) (c2229:List ((List Int)×Row)) (c2230:Int) (z2434:(List Seen)):Option Out:=q3 (r4 k a1 c2228 c2229 c2230) a1 c2228 c2229 c2230 z2434
theorem q3_eq (k:Nat) (a1:Arg) (c2228:List Seen) (c2229:List ((List Int)×Row)) (c2230:Int) (z2434:(List Seen)):X3_7 (blockC 7 (seqC (codeK E k fin (sub [1,1,1,1,1,1,1] C)) K0)) a1 c2228 c2229 c2230 z2434=q3 (s4 k a1 c2228 c2229 c2230) a1 c2228 c2229 c2230 z2434:=by kernel_rfl
theorem Q3_eq (k:Nat) (a1:Arg) (c2228:List Seen) (c2229:List ((List Int)×Row)) (c2230:Int) (z2434:(List Seen)):X3_7 (blockC 7 (seqC (codeK E k fin (sub [1,1,1,1,1,1,1] C)) K0)) a1 c2228 c2229 c2230 z2434=Q3 k a1 c2228 c2229 c2230 z2434:=(q3_eq k a1 c2228 c2229 c2230 z2434).trans (by rw[s4_eq];rfl)
noncomputable def s3 (k:Nat) (a1:Arg) (c1620:List Seen) (c1621:List Seen) (c1622:List ((List Int)×Row)) (c1623:Int):(List Seen)->(List ((List Int)×Row))->Int->((List Seen)×(List ((List Int)×Bool))×Int)->Option Out:=fun c2228 c2229 c2230 v2227=>iterK (N3 k) M3 (blockC 7 (seqC (codeK E k fin (sub [1,1,1,1,1,1,1] C)) K0)) k (T3 a1 c2228 c2229 c2230 v2227)
noncomputable def r3 (k:Nat) (a1:Arg) (c1620:List Seen) (c1621:List Seen) (c1622:List ((List Int)×Row)) (c1623:Int):(List Seen)->(List ((List Int)×Row))->Int->((List Seen)×(List ((List Int)×Bool))×Int)->Option Out:=fun c2228 c2229 c2230 v2227=>l3 k a1 c2228 c2229 c2230 (fun z=>Q3 k a1 c2228 c2229 c2230 z) v2227
theorem s3_eq (k:Nat) (a1:Arg) (c1620:List Seen) (c1621:List Seen) (c1622:List ((List Int)×Row)) (c1623:Int):s3 k a1 c1620 c1621 c1622 c1623=r3 k a1 c1620 c1621 c1622 c1623:=by
 funext c2228;funext c2229;funext c2230;funext v2227;
 have h7:X3_7 ((blockC 7 (seqC (codeK E k fin (sub [1,1,1,1,1,1,1] C)) K0))) a1 c2228 c2229 c2230=fun z=>Q3 k a1 c2228 c2229 c2230 z:=funext fun z=>Q3_eq k a1 c2228 c2229 c2230 z
 refine (l3_eq k ((blockC 7 (seqC (codeK E k fin (sub [1,1,1,1,1,1,1] C)) K0))) a1 c2228 c2229 c2230 v2227).trans ?_
 rw[h7]
 rfl
noncomputable def q2 (l3:(List Seen)->(List ((List Int)×Row))->Int->((List Seen)×(List ((List Int)×Bool))×Int)->Option Out) (a1:Arg) (c1620:List Seen) (c1621:List Seen) (c1622:List ((List Int)×Row)) (c1623:Int) (z1826:(Unit)):Option Out:=l3 c1621 c1622 (c1621.length:Int) (c1620,([]:List ((List Int)×Bool)),(0:Int))
noncomputable def Q2 (k:Nat) (a1:Arg) (c1620:List Seen) (c1621:List Seen) (c1622:List ((List Int)×Row)) (c1623:Int) (z1826:(Unit)):Option Out:=q2 (r3 k a1 c1620 c1621 c1622 c1623) a1 c1620 c1621 c1622 c1623 z1826
theorem q2_eq (k:Nat) (a1:Arg) (c1620:List Seen) (c1621:List Seen) (c1622:List ((List Int)×Row)) (c1623:Int) (z1826:(Unit)):X2_5 (blockC 5 (seqC (codeK E k fin (sub [1,1,1,1,1] C)) K0)) a1 c1620 c1621 c1622 c1623 z1826=q2 (s3 k a1 c1620 c1621 c1622 c1623) a1 c1620 c1621 c1622 c1623 z1826:=by kernel_rfl
theorem Q2_eq (k:Nat) (a1:Arg) (c1620:List Seen) (c1621:List Seen) (c1622:List ((List Int)×Row)) (c1623:Int) (z1826:(Unit)):X2_5 (blockC 5 (seqC (codeK E k fin (sub [1,1,1,1,1] C)) K0)) a1 c1620 c1621 c1622 c1623 z1826=Q2 k a1 c1620 c1621 c1622 c1623 z1826:=(q2_eq k a1 c1620 c1621 c1622 c1623 z1826).trans (by rw[s3_eq];rfl)
noncomputable def s2 (k:Nat) (a1:Arg):(List Seen)->(List Seen)->(List ((List Int)×Row))->Int->(Int)->Option Out:=fun c1620 c1621 c1622 c1623 v1619=>iterK (N2 k) M2 (blockC 5 (seqC (codeK E k fin (sub [1,1,1,1,1] C)) K0)) k (T2 a1 c1620 c1621 c1622 c1623 v1619)
noncomputable def r2 (k:Nat) (a1:Arg):(List Seen)->(List Seen)->(List ((List Int)×Row))->Int->(Int)->Option Out:=fun c1620 c1621 c1622 c1623 v1619=>l2 k a1 c1620 c1621 c1622 c1623 (fun z=>Q2 k a1 c1620 c1621 c1622 c1623 z) v1619
theorem s2_eq (k:Nat) (a1:Arg):s2 k a1=r2 k a1:=by
 funext c1620;funext c1621;funext c1622;funext c1623;funext v1619;
 have h5:X2_5 ((blockC 5 (seqC (codeK E k fin (sub [1,1,1,1,1] C)) K0))) a1 c1620 c1621 c1622 c1623=fun z=>Q2 k a1 c1620 c1621 c1622 c1623 z:=funext fun z=>Q2_eq k a1 c1620 c1621 c1622 c1623 z
 refine (l2_eq k ((blockC 5 (seqC (codeK E k fin (sub [1,1,1,1,1] C)) K0))) a1 c1620 c1621 c1622 c1623 v1619).trans ?_
 rw[h5]
 rfl
noncomputable def q1 (l2:(List Seen)->(List Seen)->(List ((List Int)×Row))->Int->(Int)->Option Out) (a1:Arg) (z1218:((List Seen)×(List Seen)×(List ((List Int)×Row)))):Option Out:=l2 z1218.1 z1218.2.1 z1218.2.2 (z1218.2.1.length:Int) (0:Int)
noncomputable def Q1 (k:Nat) (a1:Arg) (z1218:((List Seen)×(List Seen)×(List ((List Int)×Row)))):Option Out:=q1 (r2 k a1) a1 z1218
theorem q1_eq (k:Nat) (a1:Arg) (z1218:((List Seen)×(List Seen)×(List ((List Int)×Row)))):X0_0 (blockC 0 (seqC (codeK E k fin (sub [1,1,1,1] C)) K0)) a1 z1218=q1 (s2 k a1) a1 z1218:=by kernel_rfl
theorem Q1_eq (k:Nat) (a1:Arg) (z1218:((List Seen)×(List Seen)×(List ((List Int)×Row)))):X0_0 (blockC 0 (seqC (codeK E k fin (sub [1,1,1,1] C)) K0)) a1 z1218=Q1 k a1 z1218:=(q1_eq k a1 z1218).trans (by rw[s2_eq];rfl)
noncomputable def s0 (k:Nat) (a1:Arg):((List Seen)×(List Seen)×(List ((List Int)×Row))×(List (List UInt8))×Int×Int)->Option Out:=fun v402=>iterK (N0 k) M0 (blockC 0 (seqC (codeK E k fin (sub [1,1,1,1] C)) K0)) k (T0 a1 v402)
noncomputable def r0 (k:Nat) (a1:Arg):((List Seen)×(List Seen)×(List ((List Int)×Row))×(List (List UInt8))×Int×Int)->Option Out:=fun v402=>l0 k a1 (fun z=>Q1 k a1 z) v402
theorem s0_eq (k:Nat) (a1:Arg):s0 k a1=r0 k a1:=by
 funext v402;
 have h0:X0_0 ((blockC 0 (seqC (codeK E k fin (sub [1,1,1,1] C)) K0))) a1=fun z=>Q1 k a1 z:=funext fun z=>Q1_eq k a1 z
 refine (l0_eq k ((blockC 0 (seqC (codeK E k fin (sub [1,1,1,1] C)) K0))) a1 v402).trans ?_
 rw[h0]
 rfl
noncomputable def p (l0:((List Seen)×(List Seen)×(List ((List Int)×Row))×(List (List UInt8))×Int×Int)->Option Out) (a1:Arg):Option Out:=l0 (([]:List Seen),([]:List Seen),([]:List ((List Int)×Row)),a1.1,(a1.1.length:Int),(0:Int))
noncomputable def raw (k:Nat) (a1:Arg):Option Out:=p (r0 k a1) a1
theorem p_eq (k:Nat) (a1:Arg):W k a1=p (s0 k a1) a1:=by kernel_rfl
theorem raw_eq (k:Nat) (a1:Arg):W k a1=raw k a1:=(p_eq k a1).trans (by rw[s0_eq];rfl)
theorem ok:Ok prog 134 sig:=fn_ok func134 (tl:=tl) (gl:=gl) (es:=[]) (fr:=[]) rfl rfl (by kernel_rfl) (fc impl_slots.ok (fc impl_hasSlot.ok (fc impl_UnpackCell.ok (fc impl_cellAt.ok (fc impl_IsBefore.ok (fc slices_SortFunc_seen.ok (fn_nil _))))))) (fun _=>rfl)
end impl_look
namespace impl_view
abbrev Arg:Type:=(List (List UInt8))×Unit
abbrev Out:Type:=(List Seen)×Int×Unit
noncomputable def ps:PQ:=[(.ro,(.slc (.slc u8)))]
noncomputable def rs:RQ:=[((.slc tSeen),(ownMd (.slc tSeen))),(i64,(roMd i64))]
noncomputable def tl:TL:=[(22,(.slc (.slc u8))),(46,(.slc u8)),(102,tCellResult),(109,(.slc tSeen))]
noncomputable def gl:GL:=[(129,impl_PageFault.sig),(130,impl_slots.sig),(131,impl_hasSlot.sig),(132,impl_UnpackCell.sig),(133,impl_cellAt.sig),(134,impl_look.sig)]
noncomputable def E:Env:={ TI:=lookN tl,G:=lookN gl,lv:=[(4,[0,11,12,13]),(10,[0,5,11,12,13,23,24])],lx:=[(0,[0]),(2,[0,11,12,13])] }
noncomputable def W (k:Nat) (a:Arg):Option Out:=bodyK E k f59 ps rs [] [] a
noncomputable def sem (a:Arg):Option Out:=lift fun k=>W k a
noncomputable def sig:Sig:={ ps:=ps,rs:=rs,F:=sem }
noncomputable def C:Code:=bodyOf f59
noncomputable def fin:St->Option Out:=outK ps rs [] (Func.results f59).toList (mvs [])
noncomputable def K0:Ex->St->Option Out:=endK fin
noncomputable def T0 (a1:Arg) (v402:(List (List UInt8))×(List (List UInt8))×Int×Int):St:={ n:=44,sl:=[(0,.val (.slc (.slc u8)) v402.1),(11,.val (.slc (.slc u8)) v402.2.1),(12,.val i64 v402.2.2.1),(13,.val i64 v402.2.2.2)],vr:=[],lent:=[] }
noncomputable def N0 (k:Nat):St->(Ex->St->Option Out)->Option Out:=codeK E k fin (sub [1,1,0,1,0,0] C)
noncomputable def M0:St->St:=keepF [0,11,12,13] []
noncomputable def S0 (rec:RT Out) (a1:Arg):((List (List UInt8))×(List (List UInt8))×Int×Int)->Option Out:=fun v402=>rec (T0 a1 v402)
noncomputable def X0_0 (K:KT Out) (a1:Arg):(List (List UInt8))->Option Out:=fun z=>K (.exit 0) ({ n:=44,sl:=[(0,.val (.slc (.slc u8)) z)],vr:=[],lent:=[] })
noncomputable def T1 (a1:Arg) (c1007:List (List UInt8)) (c1008:List UInt8) (c1009:List (List UInt8)) (c1010:Int) (c1011:Int) (c1012:Int) (v1006:Int):St:={ n:=44,sl:=[(0,.val (.slc (.slc u8)) c1007),(5,.val (.slc u8) c1008),(11,.val (.slc (.slc u8)) c1009),(12,.val i64 c1010),(13,.val i64 c1011),(23,.val i64 c1012),(24,.val i64 v1006)],vr:=[],lent:=[] }
noncomputable def N1 (k:Nat):St->(Ex->St->Option Out)->Option Out:=codeK E k fin (sub [1,1,0,1,0,0,1,1,0,0,1,1,1,0,0] C)
noncomputable def M1:St->St:=keepF [0,5,11,12,13,23,24] []
noncomputable def S1 (rec:RT Out) (a1:Arg) (c1007:List (List UInt8)) (c1008:List UInt8) (c1009:List (List UInt8)) (c1010:Int) (c1011:Int) (c1012:Int):(Int)->Option Out:=fun v1006=>rec (T1 a1 c1007 c1008 c1009 c1010 c1011 c1012 v1006)
noncomputable def X1_2 (K:KT Out) (a1:Arg) (c1007:List (List UInt8)) (c1008:List UInt8) (c1009:List (List UInt8)) (c1010:Int) (c1011:Int) (c1012:Int):(Unit)->Option Out:=fun z=>K (.exit 2) ({ n:=44,sl:=[(0,.val (.slc (.slc u8)) c1007),(11,.val (.slc (.slc u8)) c1009),(12,.val i64 c1010),(13,.val i64 c1011)],vr:=[],lent:=[] })
noncomputable def b1 (self:Int->Option Out) (e2:(Unit)->Option Out) (a1:Arg) (c1007:List (List UInt8)) (c1008:List UInt8) (c1009:List (List UInt8)) (c1010:Int) (c1011:Int) (c1012:Int) (v1006:Int):Option Out:=bif decide (v1006 < c1012) then ((impl_hasSlot.sem (c1008,v1006,())).bind fun r1213=>bif r1213.1 then ((impl_cellAt.sem (c1008,v1006,())).bind fun r1214=>(impl_UnpackCell.sem (r1214.1,())).bind fun r1215=>bif !decide (r1215.1.1=(0:Int)) then (some (([]:List Seen),(5:Int),())) else self (w64 (v1006+(1:Int)))) else self (w64 (v1006+(1:Int)))) else e2 ()
noncomputable def B1 (k:Nat) (self:Int->Option Out) (e2:(Unit)->Option Out) (a1:Arg) (c1007:List (List UInt8)) (c1008:List UInt8) (c1009:List (List UInt8)) (c1010:Int) (c1011:Int) (c1012:Int) (v1006:Int):Option Out:=b1 self e2 a1 c1007 c1008 c1009 c1010 c1011 c1012 v1006
theorem B1_eq (k:Nat) (rec:RT Out) (K:KT Out) (a1:Arg) (c1007:List (List UInt8)) (c1008:List UInt8) (c1009:List (List UInt8)) (c1010:Int) (c1011:Int) (c1012:Int) (v1006:Int):N1 k (T1 a1 c1007 c1008 c1009 c1010 c1011 c1012 v1006) (loopC rec M1 K)=B1 k (S1 rec a1 c1007 c1008 c1009 c1010 c1011 c1012) (X1_2 K a1 c1007 c1008 c1009 c1010 c1011 c1012) a1 c1007 c1008 c1009 c1010 c1011 c1012 v1006:=by kernel_rfl
noncomputable def l1 (k:Nat) (a1:Arg) (c1007:List (List UInt8)) (c1008:List UInt8) (c1009:List (List UInt8)) (c1010:Int) (c1011:Int) (c1012:Int) (e2:(Unit)->Option Out) (v:Int):Option Out:=rawIter (fun self v=>B1 k self e2 a1 c1007 c1008 c1009 c1010 c1011 c1012 v) k v
theorem l1_eq (k:Nat) (K:KT Out) (a1:Arg) (c1007:List (List UInt8)) (c1008:List UInt8) (c1009:List (List UInt8)) (c1010:Int) (c1011:Int) (c1012:Int) (v1006:Int):iterK (N1 k) M1 K k (T1 a1 c1007 c1008 c1009 c1010 c1011 c1012 v1006)=l1 k a1 c1007 c1008 c1009 c1010 c1011 c1012 (X1_2 K a1 c1007 c1008 c1009 c1010 c1011 c1012) v1006:=
 iter_raw _ _ K (fun v1006=>(T1 a1 c1007 c1008 c1009 c1010 c1011 c1012 v1006)) (fun self v=>B1 k self (X1_2 K a1 c1007 c1008 c1009 c1010 c1011 c1012) a1 c1007 c1008 c1009 c1010 c1011 c1012 v) (fun rec v=>B1_eq k rec K a1 c1007 c1008 c1009 c1010 c1011 c1012 v) k v1006
noncomputable def q0 (self:((List (List UInt8))×(List (List UInt8))×Int×Int)->Option Out) (e0:(List (List UInt8))->Option Out) (a1:Arg) (c1007:List (List UInt8)) (c1008:List UInt8) (c1009:List (List UInt8)) (c1010:Int) (c1011:Int) (c1012:Int) (z1216:(Unit)):Option Out:=self (c1007,c1009,c1010,w64 (c1011+(1:Int)))
noncomputable def Q0 (k:Nat) (self:((List (List UInt8))×(List (List UInt8))×Int×Int)->Option Out) (e0:(List (List UInt8))->Option Out) (a1:Arg) (c1007:List (List UInt8)) (c1008:List UInt8) (c1009:List (List UInt8)) (c1010:Int) (c1011:Int) (c1012:Int) (z1216:(Unit)):Option Out:=q0 self e0 a1 c1007 c1008 c1009 c1010 c1011 c1012 z1216
theorem Q0_eq (k:Nat) (rec:RT Out) (K:KT Out) (a1:Arg) (c1007:List (List UInt8)) (c1008:List UInt8) (c1009:List (List UInt8)) (c1010:Int) (c1011:Int) (c1012:Int) (z1216:(Unit)):X1_2 (blockC 2 (blockC 1 (seqC (codeK E k fin (sub [1,1,0,1,0,0,1,1,1] C)) (loopC rec (keepF [0,11,12,13] []) K)))) a1 c1007 c1008 c1009 c1010 c1011 c1012 z1216=Q0 k (S0 rec a1) (X0_0 K a1) a1 c1007 c1008 c1009 c1010 c1011 c1012 z1216:=by kernel_rfl
noncomputable def s1 (k:Nat) (rec:RT Out) (K:KT Out) (a1:Arg):(List (List UInt8))->(List UInt8)->(List (List UInt8))->Int->Int->Int->(Int)->Option Out:=fun c1007 c1008 c1009 c1010 c1011 c1012 v1006=>iterK (N1 k) M1 (blockC 2 (blockC 1 (seqC (codeK E k fin (sub [1,1,0,1,0,0,1,1,1] C)) (loopC rec (keepF [0,11,12,13] []) K)))) k (T1 a1 c1007 c1008 c1009 c1010 c1011 c1012 v1006)
noncomputable def r1 (k:Nat) (self:((List (List UInt8))×(List (List UInt8))×Int×Int)->Option Out) (e0:(List (List UInt8))->Option Out) (a1:Arg):(List (List UInt8))->(List UInt8)->(List (List UInt8))->Int->Int->Int->(Int)->Option Out:=fun c1007 c1008 c1009 c1010 c1011 c1012 v1006=>l1 k a1 c1007 c1008 c1009 c1010 c1011 c1012 (fun z=>Q0 k self e0 a1 c1007 c1008 c1009 c1010 c1011 c1012 z) v1006
theorem s1_eq (k:Nat) (rec:RT Out) (K:KT Out) (a1:Arg):s1 k rec K a1=r1 k (S0 rec a1) (X0_0 K a1) a1:=by
 funext c1007;funext c1008;funext c1009;funext c1010;funext c1011;funext c1012;funext v1006;
 have h2:X1_2 ((blockC 2 (blockC 1 (seqC (codeK E k fin (sub [1,1,0,1,0,0,1,1,1] C)) (loopC rec (keepF [0,11,12,13] []) K))))) a1 c1007 c1008 c1009 c1010 c1011 c1012=fun z=>Q0 k (S0 rec a1) (X0_0 K a1) a1 c1007 c1008 c1009 c1010 c1011 c1012 z:=funext fun z=>Q0_eq k rec K a1 c1007 c1008 c1009 c1010 c1011 c1012 z
 refine (l1_eq k ((blockC 2 (blockC 1 (seqC (codeK E k fin (sub [1,1,0,1,0,0,1,1,1] C)) (loopC rec (keepF [0,11,12,13] []) K))))) a1 c1007 c1008 c1009 c1010 c1011 c1012 v1006).trans ?_
 rw[h2]
 rfl
noncomputable def b0 (self:((List (List UInt8))×(List (List UInt8))×Int×Int)->Option Out) (e0:(List (List UInt8))->Option Out) (l1:(List (List UInt8))->(List UInt8)->(List (List UInt8))->Int->Int->Int->(Int)->Option Out) (a1:Arg) (v402:(List (List UInt8))×(List (List UInt8))×Int×Int):Option Out:=bif decide (v402.2.2.2 < v402.2.2.1) then (if 0<=v402.2.2.2 then ((v402.2.1[v402.2.2.2.toNat]?).bind fun x603=>(impl_PageFault.sem (x603,())).bind fun r604=>bif !decide (r604.1=(0:Int)) then (some (([]:List Seen),r604.1,())) else (impl_slots.sem (x603,())).bind fun r605=>l1 v402.1 x603 v402.2.1 v402.2.2.1 v402.2.2.2 r605.1 (0:Int)) else none) else e0 v402.1
noncomputable def B0 (k:Nat) (self:((List (List UInt8))×(List (List UInt8))×Int×Int)->Option Out) (e0:(List (List UInt8))->Option Out) (a1:Arg) (v402:(List (List UInt8))×(List (List UInt8))×Int×Int):Option Out:=b0 self e0 (r1 k self e0 a1) a1 v402
theorem b0_eq (k:Nat) (rec:RT Out) (K:KT Out) (a1:Arg) (v402:(List (List UInt8))×(List (List UInt8))×Int×Int):N0 k (T0 a1 v402) (loopC rec M0 K)=b0 (S0 rec a1) (X0_0 K a1) (s1 k rec K a1) a1 v402:=by kernel_rfl
theorem B0_eq (k:Nat) (rec:RT Out) (K:KT Out) (a1:Arg) (v402:(List (List UInt8))×(List (List UInt8))×Int×Int):N0 k (T0 a1 v402) (loopC rec M0 K)=B0 k (S0 rec a1) (X0_0 K a1) a1 v402:=(b0_eq k rec K a1 v402).trans (by rw[s1_eq];rfl)
noncomputable def l0 (k:Nat) (a1:Arg) (e0:(List (List UInt8))->Option Out) (v:(List (List UInt8))×(List (List UInt8))×Int×Int):Option Out:=rawIter (fun self v=>B0 k self e0 a1 v) k v
theorem l0_eq (k:Nat) (K:KT Out) (a1:Arg) (v402:(List (List UInt8))×(List (List UInt8))×Int×Int):iterK (N0 k) M0 K k (T0 a1 v402)=l0 k a1 (X0_0 K a1) v402:=
 iter_raw _ _ K (fun v402=>(T0 a1 v402)) (fun self v=>B0 k self (X0_0 K a1) a1 v) (fun rec v=>B0_eq k rec K a1 v) k v402
noncomputable def q1 (a1:Arg) (z1217:(List (List UInt8))):Option Out:=(impl_look.sem (z1217,())).bind fun r1218=>some (r1218.1,r1218.2.1,())
noncomputable def Q1 (k:Nat) (a1:Arg) (z1217:(List (List UInt8))):Option Out:=q1 a1 z1217
theorem Q1_eq (k:Nat) (a1:Arg) (z1217:(List (List UInt8))):X0_0 (blockC 0 (seqC (codeK E k fin (sub [1,1,1] C)) K0)) a1 z1217=Q1 k a1 z1217:=by kernel_rfl
noncomputable def s0 (k:Nat) (a1:Arg):((List (List UInt8))×(List (List UInt8))×Int×Int)->Option Out:=fun v402=>iterK (N0 k) M0 (blockC 0 (seqC (codeK E k fin (sub [1,1,1] C)) K0)) k (T0 a1 v402)
noncomputable def r0 (k:Nat) (a1:Arg):((List (List UInt8))×(List (List UInt8))×Int×Int)->Option Out:=fun v402=>l0 k a1 (fun z=>Q1 k a1 z) v402
theorem s0_eq (k:Nat) (a1:Arg):s0 k a1=r0 k a1:=by
 funext v402;
 have h0:X0_0 ((blockC 0 (seqC (codeK E k fin (sub [1,1,1] C)) K0))) a1=fun z=>Q1 k a1 z:=funext fun z=>Q1_eq k a1 z
 refine (l0_eq k ((blockC 0 (seqC (codeK E k fin (sub [1,1,1] C)) K0))) a1 v402).trans ?_
 rw[h0]
 rfl
noncomputable def p (l0:((List (List UInt8))×(List (List UInt8))×Int×Int)->Option Out) (a1:Arg):Option Out:=bif decide ((12:Int) < (a1.1.length:Int)) then (some (([]:List Seen),(2:Int),())) else l0 (a1.1,a1.1,(a1.1.length:Int),(0:Int))
noncomputable def raw (k:Nat) (a1:Arg):Option Out:=p (r0 k a1) a1
theorem p_eq (k:Nat) (a1:Arg):W k a1=p (s0 k a1) a1:=by kernel_rfl
theorem raw_eq (k:Nat) (a1:Arg):W k a1=raw k a1:=(p_eq k a1).trans (by rw[s0_eq];rfl)
theorem ok:Ok prog 59 sig:=fn_ok func59 (tl:=tl) (gl:=gl) (es:=[]) (fr:=[]) rfl rfl (by kernel_rfl) (fc impl_PageFault.ok (fc impl_slots.ok (fc impl_hasSlot.ok (fc impl_UnpackCell.ok (fc impl_cellAt.ok (fc impl_look.ok (fn_nil _))))))) (fun _=>rfl)
end impl_view
namespace impl_find
abbrev Arg:Type:=(List Seen)×Int×Int×Unit
abbrev Out:Type:=Seen×Bool×Unit
noncomputable def ps:PQ:=[(.ro,(.slc tSeen)),(.ro,i64),(.ro,i64)]
noncomputable def rs:RQ:=[(tSeen,(roMd tSeen)),(.bool,(roMd .bool))]
noncomputable def tl:TL:=[(2,i64),(32,tRow),(109,(.slc tSeen)),(114,tSeen)]
noncomputable def gl:GL:=[]
noncomputable def E:Env:={ TI:=lookN tl,G:=lookN gl,lv:=[(2,[1,2,6,10,11,12])],lx:=[(0,[6])] }
noncomputable def W (k:Nat) (a:Arg):Option Out:=bodyK E k f61 ps rs [] [] a
noncomputable def sem (a:Arg):Option Out:=lift fun k=>W k a
noncomputable def sig:Sig:={ ps:=ps,rs:=rs,F:=sem }
noncomputable def C:Code:=bodyOf f61
noncomputable def fin:St->Option Out:=outK ps rs [] (Func.results f61).toList (mvs [])
noncomputable def K0:Ex->St->Option Out:=endK fin
noncomputable def T0 (a1:Arg) (v402:Int):St:={ n:=31,sl:=[(1,.val i64 a1.2.1),(2,.val i64 a1.2.2.1),(6,.box tSeen (roMd tSeen) [] (((0:Int),(0:Int),(0:Int),([]:List UInt8),()),(0:Int),(0:Int),false,(0:Int),(0:Int),())),(10,.val (.slc tSeen) a1.1),(11,.val i64 (a1.1.length:Int)),(12,.val i64 v402)],vr:=[],lent:=[] }
noncomputable def N0 (k:Nat):St->(Ex->St->Option Out)->Option Out:=codeK E k fin (sub [1,0,1,0,0] C)
noncomputable def M0:St->St:=keepF [1,2,6,10,11,12] []
noncomputable def S0 (rec:RT Out) (a1:Arg):(Int)->Option Out:=fun v402=>rec (T0 a1 v402)
noncomputable def X0_0 (K:KT Out) (a1:Arg):(Unit)->Option Out:=fun z=>K (.exit 0) ({ n:=31,sl:=[(6,.box tSeen (roMd tSeen) [] (((0:Int),(0:Int),(0:Int),([]:List UInt8),()),(0:Int),(0:Int),false,(0:Int),(0:Int),()))],vr:=[],lent:=[] })
noncomputable def b0 (self:Int->Option Out) (e0:(Unit)->Option Out) (a1:Arg) (v402:Int):Option Out:=bif decide (v402 < (a1.1.length:Int)) then (if 0<=v402 then ((a1.1[v402.toNat]?).bind fun x603=>bif decide (x603.1.1=a1.2.1) then (bif decide (x603.1.2.1=a1.2.2.1) then (some (x603,true,())) else self (w64 (v402+(1:Int)))) else self (w64 (v402+(1:Int)))) else none) else e0 ()
noncomputable def B0 (k:Nat) (self:Int->Option Out) (e0:(Unit)->Option Out) (a1:Arg) (v402:Int):Option Out:=b0 self e0 a1 v402
theorem B0_eq (k:Nat) (rec:RT Out) (K:KT Out) (a1:Arg) (v402:Int):N0 k (T0 a1 v402) (loopC rec M0 K)=B0 k (S0 rec a1) (X0_0 K a1) a1 v402:=by kernel_rfl
noncomputable def l0 (k:Nat) (a1:Arg) (e0:(Unit)->Option Out) (v:Int):Option Out:=rawIter (fun self v=>B0 k self e0 a1 v) k v
theorem l0_eq (k:Nat) (K:KT Out) (a1:Arg) (v402:Int):iterK (N0 k) M0 K k (T0 a1 v402)=l0 k a1 (X0_0 K a1) v402:=
 iter_raw _ _ K (fun v402=>(T0 a1 v402)) (fun self v=>B0 k self (X0_0 K a1) a1 v) (fun rec v=>B0_eq k rec K a1 v) k v402
noncomputable def q0 (a1:Arg) (z604:(Unit)):Option Out:=some ((((0:Int),(0:Int),(0:Int),([]:List UInt8),()),(0:Int),(0:Int),false,(0:Int),(0:Int),()),false,())
noncomputable def Q0 (k:Nat) (a1:Arg) (z604:(Unit)):Option Out:=q0 a1 z604
theorem Q0_eq (k:Nat) (a1:Arg) (z604:(Unit)):X0_0 (blockC 0 (seqC (codeK E k fin (sub [1,1] C)) K0)) a1 z604=Q0 k a1 z604:=by kernel_rfl
noncomputable def s0 (k:Nat) (a1:Arg):(Int)->Option Out:=fun v402=>iterK (N0 k) M0 (blockC 0 (seqC (codeK E k fin (sub [1,1] C)) K0)) k (T0 a1 v402)
noncomputable def r0 (k:Nat) (a1:Arg):(Int)->Option Out:=fun v402=>l0 k a1 (fun z=>Q0 k a1 z) v402
theorem s0_eq (k:Nat) (a1:Arg):s0 k a1=r0 k a1:=by
 funext v402;
 have h0:X0_0 ((blockC 0 (seqC (codeK E k fin (sub [1,1] C)) K0))) a1=fun z=>Q0 k a1 z:=funext fun z=>Q0_eq k a1 z
 refine (l0_eq k ((blockC 0 (seqC (codeK E k fin (sub [1,1] C)) K0))) a1 v402).trans ?_
 rw[h0]
 rfl
noncomputable def p (l0:(Int)->Option Out) (a1:Arg):Option Out:=l0 (0:Int)
noncomputable def raw (k:Nat) (a1:Arg):Option Out:=p (r0 k a1) a1
theorem p_eq (k:Nat) (a1:Arg):W k a1=p (s0 k a1) a1:=by kernel_rfl
theorem raw_eq (k:Nat) (a1:Arg):W k a1=raw k a1:=(p_eq k a1).trans (by rw[s0_eq];rfl)
theorem ok:Ok prog 61 sig:=fn_ok func61 (tl:=tl) (gl:=gl) (es:=[]) (fr:=[]) rfl rfl (by kernel_rfl) (fn_nil _) (fun _=>rfl)
end impl_find
namespace impl_copied
abbrev Arg:Type:=(List UInt8)×Unit
abbrev Out:Type:=(List UInt8)×Unit
noncomputable def ps:PQ:=[(.ro,(.slc u8))]
noncomputable def rs:RQ:=[((.slc u8),(ownMd (.slc u8)))]
noncomputable def tl:TL:=[(46,(.slc u8))]
noncomputable def gl:GL:=[]
noncomputable def E:Env:={ TI:=lookN tl,G:=lookN gl }
noncomputable def W (k:Nat) (a:Arg):Option Out:=bodyK E k f189 ps rs [] [] a
noncomputable def sem (a:Arg):Option Out:=lift fun k=>W k a
noncomputable def sig:Sig:={ ps:=ps,rs:=rs,F:=sem }
noncomputable def p (a1:Arg):Option Out:=if ([]:List UInt8).length+a1.1.length<=CAP then (some (([]:List UInt8)++a1.1,())) else none
noncomputable def raw (k:Nat) (a1:Arg):Option Out:=p a1
theorem raw_eq (k:Nat) (a1:Arg):W k a1=raw k a1:=by kernel_rfl
theorem ok:Ok prog 189 sig:=fn_ok func189 (tl:=tl) (gl:=gl) (es:=[]) (fr:=[]) rfl rfl (by kernel_rfl) (fn_nil _) (fun _=>rfl)
end impl_copied
namespace impl_copies
abbrev Arg:Type:=(List (List UInt8))×Unit
abbrev Out:Type:=(List (List UInt8))×Unit
noncomputable def ps:PQ:=[(.ro,(.slc (.slc u8)))]
noncomputable def rs:RQ:=[((.slc (.slc u8)),(ownMd (.slc (.slc u8))))]
noncomputable def tl:TL:=[(22,(.slc (.slc u8))),(46,(.slc u8))]
noncomputable def gl:GL:=[(189,impl_copied.sig)]
noncomputable def E:Env:={ TI:=lookN tl,G:=lookN gl,lv:=[(3,[3,6,7,8])],lx:=[(0,[3])] }
noncomputable def W (k:Nat) (a:Arg):Option Out:=bodyK E k f135 ps rs [] [] a
noncomputable def sem (a:Arg):Option Out:=lift fun k=>W k a
noncomputable def sig:Sig:={ ps:=ps,rs:=rs,F:=sem }
noncomputable def C:Code:=bodyOf f135
noncomputable def fin:St->Option Out:=outK ps rs [] (Func.results f135).toList (mvs [])
noncomputable def K0:Ex->St->Option Out:=endK fin
noncomputable def T0 (a1:Arg) (v402:(List (List UInt8))×Int):St:={ n:=19,sl:=[(3,.own (.slc (.slc u8)) (ownMd (.slc (.slc u8))) [] v402.1),(6,.val (.slc (.slc u8)) a1.1),(7,.val i64 (a1.1.length:Int)),(8,.val i64 v402.2)],vr:=[],lent:=[] }
noncomputable def N0 (k:Nat):St->(Ex->St->Option Out)->Option Out:=codeK E k fin (sub [1,1,0,1,0,0] C)
noncomputable def M0:St->St:=keepF [3,6,7,8] []
noncomputable def S0 (rec:RT Out) (a1:Arg):((List (List UInt8))×Int)->Option Out:=fun v402=>rec (T0 a1 v402)
noncomputable def X0_0 (K:KT Out) (a1:Arg):(List (List UInt8))->Option Out:=fun z=>K (.exit 0) ({ n:=19,sl:=[(3,.own (.slc (.slc u8)) (ownMd (.slc (.slc u8))) [] z)],vr:=[],lent:=[] })
noncomputable def b0 (self:((List (List UInt8))×Int)->Option Out) (e0:(List (List UInt8))->Option Out) (a1:Arg) (v402:(List (List UInt8))×Int):Option Out:=bif decide (v402.2 < (a1.1.length:Int)) then (if 0<=v402.2 then ((a1.1[v402.2.toNat]?).bind fun x603=>(impl_copied.sem (x603,())).bind fun r604=>if v402.1.length+[r604.1].length<=CAP then (self (v402.1++[r604.1],w64 (v402.2+(1:Int)))) else none) else none) else e0 v402.1
noncomputable def B0 (k:Nat) (self:((List (List UInt8))×Int)->Option Out) (e0:(List (List UInt8))->Option Out) (a1:Arg) (v402:(List (List UInt8))×Int):Option Out:=b0 self e0 a1 v402
theorem B0_eq (k:Nat) (rec:RT Out) (K:KT Out) (a1:Arg) (v402:(List (List UInt8))×Int):N0 k (T0 a1 v402) (loopC rec M0 K)=B0 k (S0 rec a1) (X0_0 K a1) a1 v402:=by kernel_rfl
noncomputable def l0 (k:Nat) (a1:Arg) (e0:(List (List UInt8))->Option Out) (v:(List (List UInt8))×Int):Option Out:=rawIter (fun self v=>B0 k self e0 a1 v) k v
theorem l0_eq (k:Nat) (K:KT Out) (a1:Arg) (v402:(List (List UInt8))×Int):iterK (N0 k) M0 K k (T0 a1 v402)=l0 k a1 (X0_0 K a1) v402:=
 iter_raw _ _ K (fun v402=>(T0 a1 v402)) (fun self v=>B0 k self (X0_0 K a1) a1 v) (fun rec v=>B0_eq k rec K a1 v) k v402
noncomputable def q0 (a1:Arg) (z605:(List (List UInt8))):Option Out:=some (z605,())
noncomputable def Q0 (k:Nat) (a1:Arg) (z605:(List (List UInt8))):Option Out:=q0 a1 z605
theorem Q0_eq (k:Nat) (a1:Arg) (z605:(List (List UInt8))):X0_0 (blockC 0 (seqC (codeK E k fin (sub [1,1,1] C)) K0)) a1 z605=Q0 k a1 z605:=by kernel_rfl
noncomputable def s0 (k:Nat) (a1:Arg):((List (List UInt8))×Int)->Option Out:=fun v402=>iterK (N0 k) M0 (blockC 0 (seqC (codeK E k fin (sub [1,1,1] C)) K0)) k (T0 a1 v402)
noncomputable def r0 (k:Nat) (a1:Arg):((List (List UInt8))×Int)->Option Out:=fun v402=>l0 k a1 (fun z=>Q0 k a1 z) v402
theorem s0_eq (k:Nat) (a1:Arg):s0 k a1=r0 k a1:=by
 funext v402;
 have h0:X0_0 ((blockC 0 (seqC (codeK E k fin (sub [1,1,1] C)) K0))) a1=fun z=>Q0 k a1 z:=funext fun z=>Q0_eq k a1 z
 refine (l0_eq k ((blockC 0 (seqC (codeK E k fin (sub [1,1,1] C)) K0))) a1 v402).trans ?_
 rw[h0]
 rfl
noncomputable def p (l0:((List (List UInt8))×Int)->Option Out) (a1:Arg):Option Out:=l0 (([]:List (List UInt8)),(0:Int))
noncomputable def raw (k:Nat) (a1:Arg):Option Out:=p (r0 k a1) a1
theorem p_eq (k:Nat) (a1:Arg):W k a1=p (s0 k a1) a1:=by kernel_rfl
theorem raw_eq (k:Nat) (a1:Arg):W k a1=raw k a1:=(p_eq k a1).trans (by rw[s0_eq];rfl)
theorem ok:Ok prog 135 sig:=fn_ok func135 (tl:=tl) (gl:=gl) (es:=[]) (fr:=[]) rfl rfl (by kernel_rfl) (fc impl_copied.ok (fn_nil _)) (fun _=>rfl)
end impl_copies
namespace impl_deskOf
abbrev Arg:Type:=(List (List UInt8))×Unit
abbrev Out:Type:=L7Work×Unit
noncomputable def ps:PQ:=[(.ro,(.slc (.slc u8)))]
noncomputable def rs:RQ:=[((.ptr tL7Work),(ownMd (.ptr tL7Work)))]
noncomputable def tl:TL:=[(203,tL7Work)]
noncomputable def gl:GL:=[(135,impl_copies.sig)]
noncomputable def E:Env:={ TI:=lookN tl,G:=lookN gl }
noncomputable def W (k:Nat) (a:Arg):Option Out:=bodyK E k f62 ps rs [] [] a
noncomputable def sem (a:Arg):Option Out:=lift fun k=>W k a
noncomputable def sig:Sig:={ ps:=ps,rs:=rs,F:=sem }
noncomputable def p (a1:Arg):Option Out:=(impl_copies.sem (a1.1,())).bind fun r2=>some ((r2.1,([]:List Edit),()),())
noncomputable def raw (k:Nat) (a1:Arg):Option Out:=p a1
theorem raw_eq (k:Nat) (a1:Arg):W k a1=raw k a1:=by kernel_rfl
theorem ok:Ok prog 62 sig:=fn_ok func62 (tl:=tl) (gl:=gl) (es:=[]) (fr:=[]) rfl rfl (by kernel_rfl) (fc impl_copies.ok (fn_nil _)) (fun _=>rfl)
end impl_deskOf
namespace impl_desk_result
abbrev Arg:Type:=L7Work×Unit
abbrev Out:Type:=EditsResult×Unit
noncomputable def ps:PQ:=[(.eat (ownMd tL7Work),tL7Work)]
noncomputable def rs:RQ:=[(tEditsResult,(ownMd tEditsResult))]
noncomputable def tl:TL:=[(22,(.slc (.slc u8))),(27,(.slc tEdit)),(29,tEditsResult),(203,tL7Work)]
noncomputable def gl:GL:=[]
noncomputable def E:Env:={ TI:=lookN tl,G:=lookN gl,fz:=[(1,3,7),(1,7,7)],od:=[(1,[0,1,2,3,4,5,6,7,8,9])] }
noncomputable def W (k:Nat) (a:Arg):Option Out:=bodyK E k f80 ps rs [] [] a
noncomputable def sem (a:Arg):Option Out:=lift fun k=>W k a
noncomputable def sig:Sig:={ ps:=ps,rs:=rs,F:=sem }
noncomputable def p (a1:Arg):Option Out:=some (((0:Int),a1.1.2.1,a1.1.1,()),())
noncomputable def raw (k:Nat) (a1:Arg):Option Out:=p a1
theorem raw_eq (k:Nat) (a1:Arg):W k a1=raw k a1:=by kernel_rfl
theorem ok:Ok prog 80 sig:=fn_ok func80 (tl:=tl) (gl:=gl) (es:=[]) (fr:=[]) rfl rfl (by kernel_rfl) (fn_nil _) (fun _=>rfl)
end impl_desk_result
namespace impl_desk_done
abbrev Arg:Type:=L7Work×Bool×Unit
abbrev Out:Type:=EditsResult×Unit
noncomputable def ps:PQ:=[(.eat (ownMd tL7Work),tL7Work),(.ro,.bool)]
noncomputable def rs:RQ:=[(tEditsResult,(ownMd tEditsResult))]
noncomputable def tl:TL:=[(29,tEditsResult)]
noncomputable def gl:GL:=[(80,impl_desk_result.sig)]
noncomputable def E:Env:={ TI:=lookN tl,G:=lookN gl }
noncomputable def W (k:Nat) (a:Arg):Option Out:=bodyK E k f63 ps rs [] [] a
noncomputable def sem (a:Arg):Option Out:=lift fun k=>W k a
noncomputable def sig:Sig:={ ps:=ps,rs:=rs,F:=sem }
noncomputable def p (a1:Arg):Option Out:=bif !a1.2.1 then (some (((9:Int),([]:List Edit),([]:List (List UInt8)),()),())) else (impl_desk_result.sem (a1.1,())).bind fun r2=>some (r2.1,())
noncomputable def raw (k:Nat) (a1:Arg):Option Out:=p a1
theorem raw_eq (k:Nat) (a1:Arg):W k a1=raw k a1:=by kernel_rfl
theorem ok:Ok prog 63 sig:=fn_ok func63 (tl:=tl) (gl:=gl) (es:=[]) (fr:=[]) rfl rfl (by kernel_rfl) (fc impl_desk_result.ok (fn_nil _)) (fun _=>rfl)
end impl_desk_done
namespace impl_cellFault
abbrev Arg:Type:=(List UInt8)×(List UInt8)×Unit
abbrev Out:Type:=Int×Unit
noncomputable def ps:PQ:=[(.ro,(.slc u8)),(.ro,(.slc u8))]
noncomputable def rs:RQ:=[(i64,(roMd i64))]
noncomputable def tl:TL:=[(46,(.slc u8))]
noncomputable def gl:GL:=[(129,impl_PageFault.sig)]
noncomputable def E:Env:={ TI:=lookN tl,G:=lookN gl }
noncomputable def W (k:Nat) (a:Arg):Option Out:=bodyK E k f277 ps rs [] [] a
noncomputable def sem (a:Arg):Option Out:=lift fun k=>W k a
noncomputable def sig:Sig:={ ps:=ps,rs:=rs,F:=sem }
noncomputable def p (a1:Arg):Option Out:=(impl_PageFault.sem (a1.1,())).bind fun r2=>bif !decide (r2.1=(0:Int)) then (some (r2.1,())) else bif decide ((a1.2.1.length:Int) < (1:Int)) then (some ((1:Int),())) else bif decide ((20:Int) < (a1.2.1.length:Int)) then (some ((1:Int),())) else some ((0:Int),())
noncomputable def raw (k:Nat) (a1:Arg):Option Out:=p a1
theorem raw_eq (k:Nat) (a1:Arg):W k a1=raw k a1:=by kernel_rfl
theorem ok:Ok prog 277 sig:=fn_ok func277 (tl:=tl) (gl:=gl) (es:=[]) (fr:=[]) rfl rfl (by kernel_rfl) (fc impl_PageFault.ok (fn_nil _)) (fun _=>rfl)
end impl_cellFault
namespace impl_freeIn
abbrev Arg:Type:=(List UInt8)×Unit
abbrev Out:Type:=Int×Unit
noncomputable def ps:PQ:=[(.ro,(.slc u8))]
noncomputable def rs:RQ:=[(i64,(roMd i64))]
noncomputable def tl:TL:=[]
noncomputable def gl:GL:=[(130,impl_slots.sig),(215,impl_spot.sig)]
noncomputable def E:Env:={ TI:=lookN tl,G:=lookN gl,lv:=[(3,[0,3,12,13])],lx:=[(0,[3])] }
noncomputable def W (k:Nat) (a:Arg):Option Out:=bodyK E k f278 ps rs [] [] a
noncomputable def sem (a:Arg):Option Out:=lift fun k=>W k a
noncomputable def sig:Sig:={ ps:=ps,rs:=rs,F:=sem }
noncomputable def C:Code:=bodyOf f278
noncomputable def fin:St->Option Out:=outK ps rs [] (Func.results f278).toList (mvs [])
noncomputable def K0:Ex->St->Option Out:=endK fin
noncomputable def T0 (a1:Arg) (c405:Int) (v404:Int×Int):St:={ n:=27,sl:=[(0,.val (.slc u8) a1.1),(3,.val i64 v404.1),(12,.val i64 c405),(13,.val i64 v404.2)],vr:=[],lent:=[] }
noncomputable def N0 (k:Nat):St->(Ex->St->Option Out)->Option Out:=codeK E k fin (sub [1,1,0,1,0,0] C)
noncomputable def M0:St->St:=keepF [0,3,12,13] []
noncomputable def S0 (rec:RT Out) (a1:Arg) (c405:Int):(Int×Int)->Option Out:=fun v404=>rec (T0 a1 c405 v404)
noncomputable def X0_0 (K:KT Out) (a1:Arg) (c405:Int):Int->Option Out:=fun z=>K (.exit 0) ({ n:=27,sl:=[(3,.val i64 z)],vr:=[],lent:=[] })
noncomputable def b0 (self:(Int×Int)->Option Out) (e0:Int->Option Out) (a1:Arg) (c405:Int) (v404:Int×Int):Option Out:=bif decide (v404.2 < c405) then ((impl_spot.sem (a1.1,v404.2,())).bind fun r606=>self (w64 (v404.1 - r606.2.1),w64 (v404.2+(1:Int)))) else e0 v404.1
noncomputable def B0 (k:Nat) (self:(Int×Int)->Option Out) (e0:Int->Option Out) (a1:Arg) (c405:Int) (v404:Int×Int):Option Out:=b0 self e0 a1 c405 v404
theorem B0_eq (k:Nat) (rec:RT Out) (K:KT Out) (a1:Arg) (c405:Int) (v404:Int×Int):N0 k (T0 a1 c405 v404) (loopC rec M0 K)=B0 k (S0 rec a1 c405) (X0_0 K a1 c405) a1 c405 v404:=by kernel_rfl
noncomputable def l0 (k:Nat) (a1:Arg) (c405:Int) (e0:Int->Option Out) (v:Int×Int):Option Out:=rawIter (fun self v=>B0 k self e0 a1 c405 v) k v
theorem l0_eq (k:Nat) (K:KT Out) (a1:Arg) (c405:Int) (v404:Int×Int):iterK (N0 k) M0 K k (T0 a1 c405 v404)=l0 k a1 c405 (X0_0 K a1 c405) v404:=
 iter_raw _ _ K (fun v404=>(T0 a1 c405 v404)) (fun self v=>B0 k self (X0_0 K a1 c405) a1 c405 v) (fun rec v=>B0_eq k rec K a1 c405 v) k v404
noncomputable def q0 (a1:Arg) (c405:Int) (z607:Int):Option Out:=some (z607,())
noncomputable def Q0 (k:Nat) (a1:Arg) (c405:Int) (z607:Int):Option Out:=q0 a1 c405 z607
theorem Q0_eq (k:Nat) (a1:Arg) (c405:Int) (z607:Int):X0_0 (blockC 0 (seqC (codeK E k fin (sub [1,1,1] C)) K0)) a1 c405 z607=Q0 k a1 c405 z607:=by kernel_rfl
noncomputable def s0 (k:Nat) (a1:Arg):Int->(Int×Int)->Option Out:=fun c405 v404=>iterK (N0 k) M0 (blockC 0 (seqC (codeK E k fin (sub [1,1,1] C)) K0)) k (T0 a1 c405 v404)
noncomputable def r0 (k:Nat) (a1:Arg):Int->(Int×Int)->Option Out:=fun c405 v404=>l0 k a1 c405 (fun z=>Q0 k a1 c405 z) v404
theorem s0_eq (k:Nat) (a1:Arg):s0 k a1=r0 k a1:=by
 funext c405;funext v404;
 have h0:X0_0 ((blockC 0 (seqC (codeK E k fin (sub [1,1,1] C)) K0))) a1 c405=fun z=>Q0 k a1 c405 z:=funext fun z=>Q0_eq k a1 c405 z
 refine (l0_eq k ((blockC 0 (seqC (codeK E k fin (sub [1,1,1] C)) K0))) a1 c405 v404).trans ?_
 rw[h0]
 rfl
noncomputable def p (l0:Int->(Int×Int)->Option Out) (a1:Arg):Option Out:=(impl_slots.sem (a1.1,())).bind fun r2=>(impl_slots.sem (a1.1,())).bind fun r3=>l0 r3.1 (w64 ((62:Int) - (w64 ((2:Int)*r2.1))),(0:Int))
noncomputable def raw (k:Nat) (a1:Arg):Option Out:=p (r0 k a1) a1
theorem p_eq (k:Nat) (a1:Arg):W k a1=p (s0 k a1) a1:=by kernel_rfl
theorem raw_eq (k:Nat) (a1:Arg):W k a1=raw k a1:=(p_eq k a1).trans (by rw[s0_eq];rfl)
theorem ok:Ok prog 278 sig:=fn_ok func278 (tl:=tl) (gl:=gl) (es:=[]) (fr:=[]) rfl rfl (by kernel_rfl) (fc impl_slots.ok (fc impl_spot.ok (fn_nil _))) (fun _=>rfl)
end impl_freeIn
namespace impl_write
abbrev Arg:Type:=(List UInt8)×Int×Int×(List UInt8)×Unit
abbrev Out:Type:=(List UInt8)×Unit
noncomputable def ps:PQ:=[(.ro,(.slc u8)),(.ro,i64),(.ro,i64),(.ro,(.slc u8))]
noncomputable def rs:RQ:=[((.slc u8),(ownMd (.slc u8)))]
noncomputable def tl:TL:=[(3,i64),(5,u8),(46,(.slc u8))]
noncomputable def gl:GL:=[(189,impl_copied.sig)]
noncomputable def E:Env:={ TI:=lookN tl,G:=lookN gl }
noncomputable def W (k:Nat) (a:Arg):Option Out:=bodyK E k f279 ps rs [] [] a
noncomputable def sem (a:Arg):Option Out:=lift fun k=>W k a
noncomputable def sig:Sig:={ ps:=ps,rs:=rs,F:=sem }
noncomputable def p (a1:Arg):Option Out:=(impl_copied.sem (a1.1,())).bind fun r2=>if 0<=a1.2.2.1/\a1.2.2.1<=(r2.1.length:Int) then (let y3:=over r2.1 a1.2.2.1.toNat (min a1.2.2.2.1.length (r2.1.length - a1.2.2.1.toNat)) a1.2.2.2.1;if 0<=w64 ((2:Int)+(w64 ((2:Int)*a1.2.1)))/\w64 ((2:Int)+(w64 ((2:Int)*a1.2.1))) < (y3.length:Int) then ((y3[(w64 ((2:Int)+(w64 ((2:Int)*a1.2.1)))).toNat]?).bind fun x4=>let y5:=y3.set (w64 ((2:Int)+(w64 ((2:Int)*a1.2.1)))).toNat (UInt8.ofInt a1.2.2.1);if 0<=w64 ((3:Int)+(w64 ((2:Int)*a1.2.1)))/\w64 ((3:Int)+(w64 ((2:Int)*a1.2.1))) < (y5.length:Int) then ((y5[(w64 ((3:Int)+(w64 ((2:Int)*a1.2.1)))).toNat]?).bind fun x6=>let y7:=y5.set (w64 ((3:Int)+(w64 ((2:Int)*a1.2.1)))).toNat (UInt8.ofInt (a1.2.2.2.1.length:Int));some (y7,())) else none) else none) else none
noncomputable def raw (k:Nat) (a1:Arg):Option Out:=p a1
theorem raw_eq (k:Nat) (a1:Arg):W k a1=raw k a1:=by kernel_rfl
theorem ok:Ok prog 279 sig:=fn_ok func279 (tl:=tl) (gl:=gl) (es:=[]) (fr:=[]) rfl rfl (by kernel_rfl) (fc impl_copied.ok (fn_nil _)) (fun _=>rfl)
end impl_write
namespace impl_PutSlot
abbrev Arg:Type:=(List UInt8)×(List UInt8)×Unit
abbrev Out:Type:=PageResult×Unit
noncomputable def ps:PQ:=[(.ro,(.slc u8)),(.ro,(.slc u8))]
noncomputable def rs:RQ:=[(tPageResult,(ownMd tPageResult))]
noncomputable def tl:TL:=[(3,i64),(5,u8),(46,(.slc u8)),(299,tPageResult)]
noncomputable def gl:GL:=[(130,impl_slots.sig),(277,impl_cellFault.sig),(278,impl_freeIn.sig),(279,impl_write.sig)]
noncomputable def E:Env:={ TI:=lookN tl,G:=lookN gl,lv:=[(6,[0,1,4,6,7])],lx:=[(0,[0,1,4,6,7])] }
noncomputable def W (k:Nat) (a:Arg):Option Out:=bodyK E k f218 ps rs [] [] a
noncomputable def sem (a:Arg):Option Out:=lift fun k=>W k a
noncomputable def sig:Sig:={ ps:=ps,rs:=rs,F:=sem }
noncomputable def C:Code:=bodyOf f218
noncomputable def fin:St->Option Out:=outK ps rs [] (Func.results f218).toList (mvs [])
noncomputable def K0:Ex->St->Option Out:=endK fin
noncomputable def T0 (a1:Arg) (c405:Int) (v404:Int):St:={ n:=88,sl:=[(0,.val (.slc u8) a1.1),(1,.val (.slc u8) a1.2.1),(4,.box tPageResult (ownMd tPageResult) [] ((0:Int),(0:Int),([]:List UInt8),())),(6,.val i64 c405),(7,.val i64 v404)],vr:=[],lent:=[] }
noncomputable def N0 (k:Nat):St->(Ex->St->Option Out)->Option Out:=codeK E k fin (sub [1,1,1,1,0,0,0] C)
noncomputable def M0:St->St:=keepF [0,1,4,6,7] []
noncomputable def S0 (rec:RT Out) (a1:Arg) (c405:Int):(Int)->Option Out:=fun v404=>rec (T0 a1 c405 v404)
noncomputable def X0_0 (K:KT Out) (a1:Arg) (c405:Int):Int->Option Out:=fun z=>K (.exit 0) ({ n:=88,sl:=[(0,.val (.slc u8) a1.1),(1,.val (.slc u8) a1.2.1),(4,.box tPageResult (ownMd tPageResult) [] ((0:Int),(0:Int),([]:List UInt8),())),(6,.val i64 c405),(7,.val i64 z)],vr:=[],lent:=[] })
noncomputable def b0 (self:Int->Option Out) (e0:Int->Option Out) (a1:Arg) (c405:Int) (v404:Int):Option Out:=bif decide (v404 < c405) then (if 0<=w64 ((3:Int)+(w64 ((2:Int)*v404))) then ((a1.1[(w64 ((3:Int)+(w64 ((2:Int)*v404)))).toNat]?).bind fun x606=>bif !decide ((x606.toNat:Int)=(0:Int)) then (self (w64 (v404+(1:Int)))) else e0 v404) else none) else e0 v404
noncomputable def B0 (k:Nat) (self:Int->Option Out) (e0:Int->Option Out) (a1:Arg) (c405:Int) (v404:Int):Option Out:=b0 self e0 a1 c405 v404
theorem B0_eq (k:Nat) (rec:RT Out) (K:KT Out) (a1:Arg) (c405:Int) (v404:Int):N0 k (T0 a1 c405 v404) (loopC rec M0 K)=B0 k (S0 rec a1 c405) (X0_0 K a1 c405) a1 c405 v404:=by kernel_rfl
noncomputable def l0 (k:Nat) (a1:Arg) (c405:Int) (e0:Int->Option Out) (v:Int):Option Out:=rawIter (fun self v=>B0 k self e0 a1 c405 v) k v
theorem l0_eq (k:Nat) (K:KT Out) (a1:Arg) (c405:Int) (v404:Int):iterK (N0 k) M0 K k (T0 a1 c405 v404)=l0 k a1 c405 (X0_0 K a1 c405) v404:=
 iter_raw _ _ K (fun v404=>(T0 a1 c405 v404)) (fun self v=>B0 k self (X0_0 K a1 c405) a1 c405 v) (fun rec v=>B0_eq k rec K a1 c405 v) k v404
noncomputable def q0 (a1:Arg) (c405:Int) (z607:Int):Option Out:=let j616:=fun (p615:Int)=>((impl_freeIn.sem (a1.1,())).bind fun r617=>bif decide (r617.1 < w64 ((a1.2.1.length:Int)+p615)) then (some (((9:Int),(0:Int),([]:List UInt8),()),())) else (a1.1[1]?).bind fun x618=>bif decide (w64 ((w64 (x618.toNat:Int)) - (w64 ((w64 ((2:Int)+(w64 ((2:Int)*c405))))+p615))) < (a1.2.1.length:Int)) then (some (((8:Int),(0:Int),([]:List UInt8),()),())) else (impl_write.sem (a1.1,z607,w64 ((w64 (x618.toNat:Int)) - (a1.2.1.length:Int)),a1.2.1,())).bind fun r619=>if 0<=(0:Int)/\(0:Int) < (r619.1.length:Int) then ((r619.1[0]?).bind fun x620=>let y621:=r619.1.set 0 (UInt8.ofInt (w64 (c405+(w64 (p615.tdiv (2:Int))))));if 0<=(1:Int)/\(1:Int) < (y621.length:Int) then ((y621[1]?).bind fun x622=>let y623:=y621.set 1 (UInt8.ofInt (w64 ((w64 (x618.toNat:Int)) - (a1.2.1.length:Int))));some (((0:Int),z607,y623,()),())) else none) else none:Option Out);bif decide (z607=c405) then (bif decide (c405=(16:Int)) then (some (((2:Int),(0:Int),([]:List UInt8),()),())) else j616 (2:Int)) else j616 (0:Int)
noncomputable def Q0 (k:Nat) (a1:Arg) (c405:Int) (z607:Int):Option Out:=q0 a1 c405 z607
theorem Q0_eq (k:Nat) (a1:Arg) (c405:Int) (z607:Int):X0_0 (blockC 0 (seqC (codeK E k fin (sub [1,1,1,1,1] C)) K0)) a1 c405 z607=Q0 k a1 c405 z607:=by kernel_rfl
noncomputable def s0 (k:Nat) (a1:Arg):Int->(Int)->Option Out:=fun c405 v404=>iterK (N0 k) M0 (blockC 0 (seqC (codeK E k fin (sub [1,1,1,1,1] C)) K0)) k (T0 a1 c405 v404)
noncomputable def r0 (k:Nat) (a1:Arg):Int->(Int)->Option Out:=fun c405 v404=>l0 k a1 c405 (fun z=>Q0 k a1 c405 z) v404
theorem s0_eq (k:Nat) (a1:Arg):s0 k a1=r0 k a1:=by
 funext c405;funext v404;
 have h0:X0_0 ((blockC 0 (seqC (codeK E k fin (sub [1,1,1,1,1] C)) K0))) a1 c405=fun z=>Q0 k a1 c405 z:=funext fun z=>Q0_eq k a1 c405 z
 refine (l0_eq k ((blockC 0 (seqC (codeK E k fin (sub [1,1,1,1,1] C)) K0))) a1 c405 v404).trans ?_
 rw[h0]
 rfl
noncomputable def p (l0:Int->(Int)->Option Out) (a1:Arg):Option Out:=(impl_cellFault.sem (a1.1,a1.2.1,())).bind fun r2=>bif !decide (r2.1=(0:Int)) then (some ((r2.1,(0:Int),([]:List UInt8),()),())) else (impl_slots.sem (a1.1,())).bind fun r3=>l0 r3.1 (0:Int)
noncomputable def raw (k:Nat) (a1:Arg):Option Out:=p (r0 k a1) a1
theorem p_eq (k:Nat) (a1:Arg):W k a1=p (s0 k a1) a1:=by kernel_rfl
theorem raw_eq (k:Nat) (a1:Arg):W k a1=raw k a1:=(p_eq k a1).trans (by rw[s0_eq];rfl)
theorem ok:Ok prog 218 sig:=fn_ok func218 (tl:=tl) (gl:=gl) (es:=[]) (fr:=[]) rfl rfl (by kernel_rfl) (fc impl_slots.ok (fc impl_cellFault.ok (fc impl_freeIn.ok (fc impl_write.ok (fn_nil _))))) (fun _=>rfl)
end impl_PutSlot
namespace impl_desk_edit
abbrev Arg:Type:=L7Work×Int×(List UInt8)×Unit
abbrev Out:Type:=L7Work×Unit
noncomputable def ps:PQ:=[(.mutp (ownMd tL7Work),tL7Work),(.ro,i64),(.ro,(.slc u8))]
noncomputable def rs:RQ:=[]
noncomputable def tl:TL:=[(9,.str),(22,(.slc (.slc u8))),(27,(.slc tEdit)),(46,(.slc u8)),(203,tL7Work),(209,tEdit)]
noncomputable def gl:GL:=[(189,impl_copied.sig)]
noncomputable def E:Env:={ TI:=lookN tl,G:=lookN gl,od:=[(1,[0,1,2,3,4,5,6,7,8,9,10,11]),(2,[0,1,2,3,4,5,6,7,8,9,10]),(3,[0,1,2,3,4,5,6,7,8]),(4,[0,1,2,3,4,5,6,7,8,9,10,11,12,13])] }
noncomputable def W (k:Nat) (a:Arg):Option Out:=bodyK E k f220 ps rs [0] [] a
noncomputable def sem (a:Arg):Option Out:=lift fun k=>W k a
noncomputable def sig:Sig:={ ps:=ps,rs:=rs,F:=sem }
noncomputable def p (a1:Arg):Option Out:=let j9:=fun (p8:L7Work)=>((impl_copied.sem (a1.2.2.1,())).bind fun r10=>if p8.2.1.length+[(a1.2.1,r10.1,())].length<=CAP then (some ((p8.1,p8.2.1++[(a1.2.1,r10.1,())],p8.2.2),())) else none:Option Out);bif decide (a1.2.1=(a1.1.1.length:Int)) then ((impl_copied.sem (a1.2.2.1,())).bind fun r2=>if a1.1.1.length+[r2.1].length<=CAP then (j9 (a1.1.1++[r2.1],a1.1.2)) else none) else if 0<=a1.2.1/\a1.2.1 < (a1.1.1.length:Int) then ((a1.1.1[a1.2.1.toNat]?).bind fun x3=>(a1.1.1[a1.2.1.toNat]?).bind fun x4=>bif decide (x4=a1.2.2.1) then (some (a1.1,())) else (impl_copied.sem (a1.2.2.1,())).bind fun r5=>if 0<=a1.2.1/\a1.2.1 < (a1.1.1.length:Int) then ((a1.1.1[a1.2.1.toNat]?).bind fun x6=>j9 (a1.1.1.set a1.2.1.toNat r5.1,a1.1.2)) else none) else none
noncomputable def raw (k:Nat) (a1:Arg):Option Out:=p a1
theorem raw_eq (k:Nat) (a1:Arg):W k a1=raw k a1:=by kernel_rfl
theorem ok:Ok prog 220 sig:=fn_ok func220 (tl:=tl) (gl:=gl) (es:=[0]) (fr:=[]) rfl rfl (by kernel_rfl) (fc impl_copied.ok (fn_nil _)) (fun _=>rfl)
end impl_desk_edit
namespace impl_CompactPage
abbrev Arg:Type:=(List UInt8)×Unit
abbrev Out:Type:=PageResult×Unit
noncomputable def ps:PQ:=[(.ro,(.slc u8))]
noncomputable def rs:RQ:=[(tPageResult,(ownMd tPageResult))]
noncomputable def tl:TL:=[(3,i64),(5,u8),(46,(.slc u8)),(299,tPageResult)]
noncomputable def gl:GL:=[(129,impl_PageFault.sig),(130,impl_slots.sig),(131,impl_hasSlot.sig),(133,impl_cellAt.sig)]
noncomputable def E:Env:={ TI:=lookN tl,G:=lookN gl,lv:=[(9,[0,2,5,6,25,26])],lx:=[(0,[2,5,6]),(1,[0,2,5,6,25,26])] }
noncomputable def W (k:Nat) (a:Arg):Option Out:=bodyK E k f280 ps rs [] [] a
noncomputable def sem (a:Arg):Option Out:=lift fun k=>W k a
noncomputable def sig:Sig:={ ps:=ps,rs:=rs,F:=sem }
noncomputable def C:Code:=bodyOf f280
noncomputable def fin:St->Option Out:=outK ps rs [] (Func.results f280).toList (mvs [])
noncomputable def K0:Ex->St->Option Out:=endK fin
noncomputable def T0 (a1:Arg) (c406:Int) (v405:(List UInt8)×Int×Int):St:={ n:=59,sl:=[(0,.val (.slc u8) a1.1),(2,.box tPageResult (ownMd tPageResult) [] ((0:Int),(0:Int),([]:List UInt8),())),(5,.own (.slc u8) (ownMd (.slc u8)) [] v405.1),(6,.val i64 v405.2.1),(25,.val i64 c406),(26,.val i64 v405.2.2)],vr:=[],lent:=[] }
noncomputable def N0 (k:Nat):St->(Ex->St->Option Out)->Option Out:=codeK E k fin (sub [1,1,1,1,1,1,0,1,0,0] C)
noncomputable def M0:St->St:=keepF [0,2,5,6,25,26] []
noncomputable def S0 (rec:RT Out) (a1:Arg) (c406:Int):((List UInt8)×Int×Int)->Option Out:=fun v405=>rec (T0 a1 c406 v405)
noncomputable def X0_0 (K:KT Out) (a1:Arg) (c406:Int):((List UInt8)×Int)->Option Out:=fun z=>K (.exit 0) ({ n:=59,sl:=[(2,.box tPageResult (ownMd tPageResult) [] ((0:Int),(0:Int),([]:List UInt8),())),(5,.own (.slc u8) (ownMd (.slc u8)) [] z.1),(6,.val i64 z.2)],vr:=[],lent:=[] })
noncomputable def b0 (self:((List UInt8)×Int×Int)->Option Out) (e0:((List UInt8)×Int)->Option Out) (a1:Arg) (c406:Int) (v405:(List UInt8)×Int×Int):Option Out:=bif decide (v405.2.2 < c406) then ((impl_hasSlot.sem (a1.1,v405.2.2,())).bind fun r607=>bif !r607.1 then (self (v405.1,v405.2.1,w64 (v405.2.2+(1:Int)))) else (impl_cellAt.sem (a1.1,v405.2.2,())).bind fun r608=>if 0<=w64 (v405.2.1 - (r608.1.length:Int))/\w64 (v405.2.1 - (r608.1.length:Int))<=(v405.1.length:Int) then (let y609:=over v405.1 (w64 (v405.2.1 - (r608.1.length:Int))).toNat (min r608.1.length (v405.1.length - (w64 (v405.2.1 - (r608.1.length:Int))).toNat)) r608.1;if 0<=w64 ((2:Int)+(w64 ((2:Int)*v405.2.2)))/\w64 ((2:Int)+(w64 ((2:Int)*v405.2.2))) < (y609.length:Int) then ((y609[(w64 ((2:Int)+(w64 ((2:Int)*v405.2.2)))).toNat]?).bind fun x610=>let y611:=y609.set (w64 ((2:Int)+(w64 ((2:Int)*v405.2.2)))).toNat (UInt8.ofInt (w64 (v405.2.1 - (r608.1.length:Int))));self (y611,w64 (v405.2.1 - (r608.1.length:Int)),w64 (v405.2.2+(1:Int)))) else none) else none) else e0 (v405.1,v405.2.1)
noncomputable def B0 (k:Nat) (self:((List UInt8)×Int×Int)->Option Out) (e0:((List UInt8)×Int)->Option Out) (a1:Arg) (c406:Int) (v405:(List UInt8)×Int×Int):Option Out:=b0 self e0 a1 c406 v405
theorem B0_eq (k:Nat) (rec:RT Out) (K:KT Out) (a1:Arg) (c406:Int) (v405:(List UInt8)×Int×Int):N0 k (T0 a1 c406 v405) (loopC rec M0 K)=B0 k (S0 rec a1 c406) (X0_0 K a1 c406) a1 c406 v405:=by kernel_rfl
noncomputable def l0 (k:Nat) (a1:Arg) (c406:Int) (e0:((List UInt8)×Int)->Option Out) (v:(List UInt8)×Int×Int):Option Out:=rawIter (fun self v=>B0 k self e0 a1 c406 v) k v
theorem l0_eq (k:Nat) (K:KT Out) (a1:Arg) (c406:Int) (v405:(List UInt8)×Int×Int):iterK (N0 k) M0 K k (T0 a1 c406 v405)=l0 k a1 c406 (X0_0 K a1 c406) v405:=
 iter_raw _ _ K (fun v405=>(T0 a1 c406 v405)) (fun self v=>B0 k self (X0_0 K a1 c406) a1 c406 v) (fun rec v=>B0_eq k rec K a1 c406 v) k v405
noncomputable def q0 (a1:Arg) (c406:Int) (z612:((List UInt8)×Int)):Option Out:=if 0<=(1:Int)/\(1:Int) < (z612.1.length:Int) then ((z612.1[1]?).bind fun x613=>some (((0:Int),(0:Int),z612.1.set 1 (UInt8.ofInt z612.2),()),())) else none
noncomputable def Q0 (k:Nat) (a1:Arg) (c406:Int) (z612:((List UInt8)×Int)):Option Out:=q0 a1 c406 z612
theorem Q0_eq (k:Nat) (a1:Arg) (c406:Int) (z612:((List UInt8)×Int)):X0_0 (blockC 0 (seqC (codeK E k fin (sub [1,1,1,1,1,1,1] C)) K0)) a1 c406 z612=Q0 k a1 c406 z612:=by kernel_rfl
noncomputable def s0 (k:Nat) (a1:Arg):Int->((List UInt8)×Int×Int)->Option Out:=fun c406 v405=>iterK (N0 k) M0 (blockC 0 (seqC (codeK E k fin (sub [1,1,1,1,1,1,1] C)) K0)) k (T0 a1 c406 v405)
noncomputable def r0 (k:Nat) (a1:Arg):Int->((List UInt8)×Int×Int)->Option Out:=fun c406 v405=>l0 k a1 c406 (fun z=>Q0 k a1 c406 z) v405
theorem s0_eq (k:Nat) (a1:Arg):s0 k a1=r0 k a1:=by
 funext c406;funext v405;
 have h0:X0_0 ((blockC 0 (seqC (codeK E k fin (sub [1,1,1,1,1,1,1] C)) K0))) a1 c406=fun z=>Q0 k a1 c406 z:=funext fun z=>Q0_eq k a1 c406 z
 refine (l0_eq k ((blockC 0 (seqC (codeK E k fin (sub [1,1,1,1,1,1,1] C)) K0))) a1 c406 v405).trans ?_
 rw[h0]
 rfl
noncomputable def p (l0:Int->((List UInt8)×Int×Int)->Option Out) (a1:Arg):Option Out:=(impl_PageFault.sem (a1.1,())).bind fun r2=>bif !decide (r2.1=(0:Int)) then (some ((r2.1,(0:Int),([]:List UInt8),()),())) else (impl_slots.sem (a1.1,())).bind fun r3=>if 0<=(64:Int)/\(64:Int)<=(64:Int)/\(64:Int)<=(CAP:Int) then (if 0<=w64 ((2:Int)+(w64 ((2:Int)*r3.1)))/\w64 ((2:Int)+(w64 ((2:Int)*r3.1)))<=(a1.1.length:Int) then (let y4:=over (List.replicate 64 (0:UInt8)) 0 (min ((a1.1.take (w64 ((2:Int)+(w64 ((2:Int)*r3.1)))).toNat).drop 0).length (List.replicate 64 (0:UInt8)).length) ((a1.1.take (w64 ((2:Int)+(w64 ((2:Int)*r3.1)))).toNat).drop 0);l0 r3.1 (y4,(64:Int),(0:Int))) else none) else none
noncomputable def raw (k:Nat) (a1:Arg):Option Out:=p (r0 k a1) a1
theorem p_eq (k:Nat) (a1:Arg):W k a1=p (s0 k a1) a1:=by kernel_rfl
theorem raw_eq (k:Nat) (a1:Arg):W k a1=raw k a1:=(p_eq k a1).trans (by rw[s0_eq];rfl)
theorem ok:Ok prog 280 sig:=fn_ok func280 (tl:=tl) (gl:=gl) (es:=[]) (fr:=[]) rfl rfl (by kernel_rfl) (fc impl_PageFault.ok (fc impl_slots.ok (fc impl_hasSlot.ok (fc impl_cellAt.ok (fn_nil _))))) (fun _=>rfl)
end impl_CompactPage
namespace impl_desk_compact
abbrev Arg:Type:=L7Work×Int×Unit
abbrev Out:Type:=L7Work×Unit
noncomputable def ps:PQ:=[(.mutp (ownMd tL7Work),tL7Work),(.ro,i64)]
noncomputable def rs:RQ:=[]
noncomputable def tl:TL:=[(22,(.slc (.slc u8))),(46,(.slc u8)),(203,tL7Work),(299,tPageResult)]
noncomputable def gl:GL:=[(220,impl_desk_edit.sig),(280,impl_CompactPage.sig)]
noncomputable def E:Env:={ TI:=lookN tl,G:=lookN gl }
noncomputable def W (k:Nat) (a:Arg):Option Out:=bodyK E k f219 ps rs [0] [] a
noncomputable def sem (a:Arg):Option Out:=lift fun k=>W k a
noncomputable def sig:Sig:={ ps:=ps,rs:=rs,F:=sem }
noncomputable def p (a1:Arg):Option Out:=if 0<=a1.2.1/\a1.2.1 < (a1.1.1.length:Int) then ((a1.1.1[a1.2.1.toNat]?).bind fun x2=>(a1.1.1[a1.2.1.toNat]?).bind fun x3=>(impl_CompactPage.sem (x3,())).bind fun r4=>(impl_desk_edit.sem (a1.1,a1.2.1,r4.1.2.2.1,())).bind fun r5=>some (r5.1,())) else none
noncomputable def raw (k:Nat) (a1:Arg):Option Out:=p a1
theorem raw_eq (k:Nat) (a1:Arg):W k a1=raw k a1:=by kernel_rfl
theorem ok:Ok prog 219 sig:=fn_ok func219 (tl:=tl) (gl:=gl) (es:=[0]) (fr:=[]) rfl rfl (by kernel_rfl) (fc impl_desk_edit.ok (fc impl_CompactPage.ok (fn_nil _))) (fun _=>rfl)
end impl_desk_compact
namespace impl_newPage
abbrev Arg:Type:=UInt8×Unit
abbrev Out:Type:=(List UInt8)×Unit
noncomputable def ps:PQ:=[(.ro,u8)]
noncomputable def rs:RQ:=[((.slc u8),(ownMd (.slc u8)))]
noncomputable def tl:TL:=[(5,u8),(46,(.slc u8))]
noncomputable def gl:GL:=[]
noncomputable def E:Env:={ TI:=lookN tl,G:=lookN gl,lv:=[(3,[0,3,7,8])],lx:=[(0,[3])] }
noncomputable def W (k:Nat) (a:Arg):Option Out:=bodyK E k f221 ps rs [] [] a
noncomputable def sem (a:Arg):Option Out:=lift fun k=>W k a
noncomputable def sig:Sig:={ ps:=ps,rs:=rs,F:=sem }
noncomputable def C:Code:=bodyOf f221
noncomputable def fin:St->Option Out:=outK ps rs [] (Func.results f221).toList (mvs [])
noncomputable def K0:Ex->St->Option Out:=endK fin
noncomputable def T0 (a1:Arg) (v402:(List UInt8)×Int):St:={ n:=21,sl:=[(0,.val u8 a1.1),(3,.own (.slc u8) (ownMd (.slc u8)) [] v402.1),(7,.val i64 ((List.replicate 64 (0:UInt8)).length:Int)),(8,.val i64 v402.2)],vr:=[],lent:=[] }
noncomputable def N0 (k:Nat):St->(Ex->St->Option Out)->Option Out:=codeK E k fin (sub [1,1,0,1,0,0] C)
noncomputable def M0:St->St:=keepF [0,3,7,8] []
noncomputable def S0 (rec:RT Out) (a1:Arg):((List UInt8)×Int)->Option Out:=fun v402=>rec (T0 a1 v402)
noncomputable def X0_0 (K:KT Out) (a1:Arg):(List UInt8)->Option Out:=fun z=>K (.exit 0) ({ n:=21,sl:=[(3,.own (.slc u8) (ownMd (.slc u8)) [] z)],vr:=[],lent:=[] })
noncomputable def b0 (self:((List UInt8)×Int)->Option Out) (e0:(List UInt8)->Option Out) (a1:Arg) (v402:(List UInt8)×Int):Option Out:=bif decide (v402.2 < ((List.replicate 64 (0:UInt8)).length:Int)) then (if 0<=v402.2/\v402.2 < (v402.1.length:Int) then ((v402.1[v402.2.toNat]?).bind fun x603=>self (v402.1.set v402.2.toNat a1.1,w64 (v402.2+(1:Int)))) else none) else e0 v402.1
noncomputable def B0 (k:Nat) (self:((List UInt8)×Int)->Option Out) (e0:(List UInt8)->Option Out) (a1:Arg) (v402:(List UInt8)×Int):Option Out:=b0 self e0 a1 v402
theorem B0_eq (k:Nat) (rec:RT Out) (K:KT Out) (a1:Arg) (v402:(List UInt8)×Int):N0 k (T0 a1 v402) (loopC rec M0 K)=B0 k (S0 rec a1) (X0_0 K a1) a1 v402:=by kernel_rfl
noncomputable def l0 (k:Nat) (a1:Arg) (e0:(List UInt8)->Option Out) (v:(List UInt8)×Int):Option Out:=rawIter (fun self v=>B0 k self e0 a1 v) k v
theorem l0_eq (k:Nat) (K:KT Out) (a1:Arg) (v402:(List UInt8)×Int):iterK (N0 k) M0 K k (T0 a1 v402)=l0 k a1 (X0_0 K a1) v402:=
 iter_raw _ _ K (fun v402=>(T0 a1 v402)) (fun self v=>B0 k self (X0_0 K a1) a1 v) (fun rec v=>B0_eq k rec K a1 v) k v402
noncomputable def q0 (a1:Arg) (z604:(List UInt8)):Option Out:=if 0<=(0:Int)/\(0:Int) < (z604.length:Int) then ((z604[0]?).bind fun x605=>if 0<=(1:Int)/\(1:Int) < ((z604.set 0 (0:UInt8)).length:Int) then (((z604.set 0 (0:UInt8))[1]?).bind fun x606=>let y607:=(z604.set 0 (0:UInt8)).set 1 (64:UInt8);some (y607,())) else none) else none
noncomputable def Q0 (k:Nat) (a1:Arg) (z604:(List UInt8)):Option Out:=q0 a1 z604
theorem Q0_eq (k:Nat) (a1:Arg) (z604:(List UInt8)):X0_0 (blockC 0 (seqC (codeK E k fin (sub [1,1,1] C)) K0)) a1 z604=Q0 k a1 z604:=by kernel_rfl
noncomputable def s0 (k:Nat) (a1:Arg):((List UInt8)×Int)->Option Out:=fun v402=>iterK (N0 k) M0 (blockC 0 (seqC (codeK E k fin (sub [1,1,1] C)) K0)) k (T0 a1 v402)
noncomputable def r0 (k:Nat) (a1:Arg):((List UInt8)×Int)->Option Out:=fun v402=>l0 k a1 (fun z=>Q0 k a1 z) v402
theorem s0_eq (k:Nat) (a1:Arg):s0 k a1=r0 k a1:=by
 funext v402;
 have h0:X0_0 ((blockC 0 (seqC (codeK E k fin (sub [1,1,1] C)) K0))) a1=fun z=>Q0 k a1 z:=funext fun z=>Q0_eq k a1 z
 refine (l0_eq k ((blockC 0 (seqC (codeK E k fin (sub [1,1,1] C)) K0))) a1 v402).trans ?_
 rw[h0]
 rfl
noncomputable def p (l0:((List UInt8)×Int)->Option Out) (a1:Arg):Option Out:=if 0<=(64:Int)/\(64:Int)<=(64:Int)/\(64:Int)<=(CAP:Int) then (l0 (List.replicate 64 (0:UInt8),(0:Int))) else none
noncomputable def raw (k:Nat) (a1:Arg):Option Out:=p (r0 k a1) a1
theorem p_eq (k:Nat) (a1:Arg):W k a1=p (s0 k a1) a1:=by kernel_rfl
theorem raw_eq (k:Nat) (a1:Arg):W k a1=raw k a1:=(p_eq k a1).trans (by rw[s0_eq];rfl)
theorem ok:Ok prog 221 sig:=fn_ok func221 (tl:=tl) (gl:=gl) (es:=[]) (fr:=[]) rfl rfl (by kernel_rfl) (fn_nil _) (fun _=>rfl)
end impl_newPage
namespace impl_desk_place
abbrev Arg:Type:=L7Work×(List UInt8)×Int×Unit
abbrev Out:Type:=Int×Int×Bool×L7Work×Unit
noncomputable def ps:PQ:=[(.mutp (ownMd tL7Work),tL7Work),(.ro,(.slc u8)),(.ro,i64)]
noncomputable def rs:RQ:=[(i64,(roMd i64)),(i64,(roMd i64)),(.bool,(roMd .bool))]
noncomputable def tl:TL:=[(2,i64),(22,(.slc (.slc u8))),(46,(.slc u8)),(203,tL7Work),(299,tPageResult)]
noncomputable def gl:GL:=[(218,impl_PutSlot.sig),(219,impl_desk_compact.sig),(220,impl_desk_edit.sig),(221,impl_newPage.sig)]
noncomputable def E:Env:={ TI:=lookN tl,G:=lookN gl,lv:=[(2,[0,1,2,16,17])],lx:=[(0,[0,1]),(1,[0,1,2,16,17])],od:=[(11,[0,1,2,3,4,5]),(16,[0,1,2,3,4,5,6,7,8]),(17,[0,1,2,3,4,5,6,7,8,9,10])] }
noncomputable def W (k:Nat) (a:Arg):Option Out:=bodyK E k f136 ps rs [0] [] a
noncomputable def sem (a:Arg):Option Out:=lift fun k=>W k a
noncomputable def sig:Sig:={ ps:=ps,rs:=rs,F:=sem }
noncomputable def C:Code:=bodyOf f136
noncomputable def fin:St->Option Out:=outK ps rs [0] (Func.results f136).toList (mvs [])
noncomputable def K0:Ex->St->Option Out:=endK fin
noncomputable def T0 (a1:Arg) (v402:L7Work×Int):St:={ n:=85,sl:=[(0,.box tL7Work (ownMd tL7Work) [] v402.1),(1,.val (.slc u8) a1.2.1),(2,.val i64 a1.2.2.1),(16,.val i64 (a1.1.1.length:Int)),(17,.val i64 v402.2)],vr:=[],lent:=[(0,0,false)] }
noncomputable def N0 (k:Nat):St->(Ex->St->Option Out)->Option Out:=codeK E k fin (sub [1,0,1,0,0] C)
noncomputable def M0:St->St:=keepF [0,1,2,16,17] []
noncomputable def S0 (rec:RT Out) (a1:Arg):(L7Work×Int)->Option Out:=fun v402=>rec (T0 a1 v402)
noncomputable def X0_0 (K:KT Out) (a1:Arg):L7Work->Option Out:=fun z=>K (.exit 0) ({ n:=85,sl:=[(0,.box tL7Work (ownMd tL7Work) [] z),(1,.val (.slc u8) a1.2.1)],vr:=[],lent:=[(0,0,false)] })
noncomputable def b0 (self:(L7Work×Int)->Option Out) (e0:L7Work->Option Out) (a1:Arg) (v402:L7Work×Int):Option Out:=bif decide (v402.2 < (a1.1.1.length:Int)) then (bif decide (v402.2=a1.2.2.1) then (self (v402.1,w64 (v402.2+(1:Int)))) else if 0<=v402.2/\v402.2 < (v402.1.1.length:Int) then ((v402.1.1[v402.2.toNat]?).bind fun x603=>(v402.1.1[v402.2.toNat]?).bind fun x604=>(impl_PutSlot.sem (x604,a1.2.1,())).bind fun r605=>let j613:=fun (p611:L7Work) (p612:PageResult)=>(bif decide (p612.1=(0:Int)) then ((impl_desk_edit.sem (p611,v402.2,p612.2.2.1,())).bind fun r614=>some (v402.2,p612.2.1,true,r614.1,())) else self (p611,w64 (v402.2+(1:Int))):Option Out);bif decide (r605.1.1=(8:Int)) then ((impl_desk_compact.sem (v402.1,v402.2,())).bind fun r606=>if 0<=v402.2/\v402.2 < (r606.1.1.length:Int) then ((r606.1.1[v402.2.toNat]?).bind fun x607=>(r606.1.1[v402.2.toNat]?).bind fun x608=>(impl_PutSlot.sem (x608,a1.2.1,())).bind fun r609=>j613 r606.1 r609.1) else none) else j613 v402.1 r605.1) else none) else e0 v402.1
noncomputable def B0 (k:Nat) (self:(L7Work×Int)->Option Out) (e0:L7Work->Option Out) (a1:Arg) (v402:L7Work×Int):Option Out:=b0 self e0 a1 v402
theorem B0_eq (k:Nat) (rec:RT Out) (K:KT Out) (a1:Arg) (v402:L7Work×Int):N0 k (T0 a1 v402) (loopC rec M0 K)=B0 k (S0 rec a1) (X0_0 K a1) a1 v402:=by kernel_rfl
noncomputable def l0 (k:Nat) (a1:Arg) (e0:L7Work->Option Out) (v:L7Work×Int):Option Out:=rawIter (fun self v=>B0 k self e0 a1 v) k v
theorem l0_eq (k:Nat) (K:KT Out) (a1:Arg) (v402:L7Work×Int):iterK (N0 k) M0 K k (T0 a1 v402)=l0 k a1 (X0_0 K a1) v402:=
 iter_raw _ _ K (fun v402=>(T0 a1 v402)) (fun self v=>B0 k self (X0_0 K a1) a1 v) (fun rec v=>B0_eq k rec K a1 v) k v402
noncomputable def q0 (a1:Arg) (z615:L7Work):Option Out:=bif decide ((z615.1.length:Int)=(12:Int)) then (some ((0:Int),(0:Int),false,z615,())) else (impl_newPage.sem ((0:UInt8),())).bind fun r616=>(impl_PutSlot.sem (r616.1,a1.2.1,())).bind fun r617=>(impl_desk_edit.sem (z615,(z615.1.length:Int),r617.1.2.2.1,())).bind fun r618=>some (w64 ((r618.1.1.length:Int) - (1:Int)),r617.1.2.1,true,r618.1,())
noncomputable def Q0 (k:Nat) (a1:Arg) (z615:L7Work):Option Out:=q0 a1 z615
theorem Q0_eq (k:Nat) (a1:Arg) (z615:L7Work):X0_0 (blockC 0 (seqC (codeK E k fin (sub [1,1] C)) K0)) a1 z615=Q0 k a1 z615:=by kernel_rfl
noncomputable def s0 (k:Nat) (a1:Arg):(L7Work×Int)->Option Out:=fun v402=>iterK (N0 k) M0 (blockC 0 (seqC (codeK E k fin (sub [1,1] C)) K0)) k (T0 a1 v402)
noncomputable def r0 (k:Nat) (a1:Arg):(L7Work×Int)->Option Out:=fun v402=>l0 k a1 (fun z=>Q0 k a1 z) v402
theorem s0_eq (k:Nat) (a1:Arg):s0 k a1=r0 k a1:=by
 funext v402;
 have h0:X0_0 ((blockC 0 (seqC (codeK E k fin (sub [1,1] C)) K0))) a1=fun z=>Q0 k a1 z:=funext fun z=>Q0_eq k a1 z
 refine (l0_eq k ((blockC 0 (seqC (codeK E k fin (sub [1,1] C)) K0))) a1 v402).trans ?_
 rw[h0]
 rfl
noncomputable def p (l0:(L7Work×Int)->Option Out) (a1:Arg):Option Out:=l0 (a1.1,(0:Int))
noncomputable def raw (k:Nat) (a1:Arg):Option Out:=p (r0 k a1) a1
theorem p_eq (k:Nat) (a1:Arg):W k a1=p (s0 k a1) a1:=by kernel_rfl
theorem raw_eq (k:Nat) (a1:Arg):W k a1=raw k a1:=(p_eq k a1).trans (by rw[s0_eq];rfl)
theorem ok:Ok prog 136 sig:=fn_ok func136 (tl:=tl) (gl:=gl) (es:=[0]) (fr:=[]) rfl rfl (by kernel_rfl) (fc impl_PutSlot.ok (fc impl_desk_compact.ok (fc impl_desk_edit.ok (fc impl_newPage.ok (fn_nil _))))) (fun _=>rfl)
end impl_desk_place
namespace impl_cell
abbrev Arg:Type:=Int×Row×Unit
abbrev Out:Type:=(List UInt8)×Unit
noncomputable def ps:PQ:=[(.ro,i64),(.ro,tRow)]
noncomputable def rs:RQ:=[((.slc u8),(ownMd (.slc u8)))]
noncomputable def tl:TL:=[(2,i64),(3,i64),(5,u8),(9,.str),(32,tRow),(46,(.slc u8))]
noncomputable def gl:GL:=[]
noncomputable def E:Env:={ TI:=lookN tl,G:=lookN gl }
noncomputable def W (k:Nat) (a:Arg):Option Out:=bodyK E k f137 ps rs [] [] a
noncomputable def sem (a:Arg):Option Out:=lift fun k=>W k a
noncomputable def sig:Sig:={ ps:=ps,rs:=rs,F:=sem }
noncomputable def p (a1:Arg):Option Out:=if [UInt8.ofInt a1.1,UInt8.ofInt a1.2.1.1,UInt8.ofInt a1.2.1.2.1,UInt8.ofInt (a1.2.1.2.2.1.fdiv (2 ^ 8)),UInt8.ofInt a1.2.1.2.2.1,UInt8.ofInt (a1.2.1.2.2.2.1.length:Int)].length+a1.2.1.2.2.2.1.length<=CAP then (let y2:=[UInt8.ofInt a1.1,UInt8.ofInt a1.2.1.1,UInt8.ofInt a1.2.1.2.1,UInt8.ofInt (a1.2.1.2.2.1.fdiv (2 ^ 8)),UInt8.ofInt a1.2.1.2.2.1,UInt8.ofInt (a1.2.1.2.2.2.1.length:Int)]++a1.2.1.2.2.2.1;some (y2,())) else none
noncomputable def raw (k:Nat) (a1:Arg):Option Out:=p a1
theorem raw_eq (k:Nat) (a1:Arg):W k a1=raw k a1:=by kernel_rfl
theorem ok:Ok prog 137 sig:=fn_ok func137 (tl:=tl) (gl:=gl) (es:=[]) (fr:=[]) rfl rfl (by kernel_rfl) (fn_nil _) (fun _=>rfl)
end impl_cell
namespace laws_eqByteS
abbrev Arg:Type:=(List UInt8)×(List UInt8)×Unit
abbrev Out:Type:=Bool×Unit
noncomputable def ps:PQ:=[(.ro,(.slc u8)),(.ro,(.slc u8))]
noncomputable def rs:RQ:=[(.bool,(roMd .bool))]
noncomputable def tl:TL:=[(5,u8),(46,(.slc u8))]
noncomputable def gl:GL:=[]
noncomputable def E:Env:={ TI:=lookN tl,G:=lookN gl,lv:=[(4,[0,1,5])],lx:=[(0,[])],od:=[(6,[0,1,2,3,4,5,6,7,8])] }
noncomputable def W (k:Nat) (a:Arg):Option Out:=bodyK E k f66 ps rs [] [] a
noncomputable def sem (a:Arg):Option Out:=lift fun k=>W k a
noncomputable def sig:Sig:={ ps:=ps,rs:=rs,F:=sem }
noncomputable def C:Code:=bodyOf f66
noncomputable def fin:St->Option Out:=outK ps rs [] (Func.results f66).toList (mvs [])
noncomputable def K0:Ex->St->Option Out:=endK fin
noncomputable def T0 (a1:Arg) (v402:Int):St:={ n:=26,sl:=[(0,.val (.slc u8) a1.1),(1,.val (.slc u8) a1.2.1),(5,.val i64 v402)],vr:=[],lent:=[] }
noncomputable def N0 (k:Nat):St->(Ex->St->Option Out)->Option Out:=codeK E k fin (sub [1,1,0,1,0,0] C)
noncomputable def M0:St->St:=keepF [0,1,5] []
noncomputable def S0 (rec:RT Out) (a1:Arg):(Int)->Option Out:=fun v402=>rec (T0 a1 v402)
noncomputable def X0_0 (K:KT Out) (a1:Arg):(Unit)->Option Out:=fun z=>K (.exit 0) ({ n:=26,sl:=[],vr:=[],lent:=[] })
noncomputable def b0 (self:Int->Option Out) (e0:(Unit)->Option Out) (a1:Arg) (v402:Int):Option Out:=bif decide (v402 < (a1.1.length:Int)) then (if 0<=v402 then ((a1.1[v402.toNat]?).bind fun x603=>if 0<=v402 then ((a1.2.1[v402.toNat]?).bind fun x604=>bif !decide ((x603.toNat:Int)=(x604.toNat:Int)) then (some (false,())) else self (w64 (v402+(1:Int)))) else none) else none) else e0 ()
noncomputable def B0 (k:Nat) (self:Int->Option Out) (e0:(Unit)->Option Out) (a1:Arg) (v402:Int):Option Out:=b0 self e0 a1 v402
theorem B0_eq (k:Nat) (rec:RT Out) (K:KT Out) (a1:Arg) (v402:Int):N0 k (T0 a1 v402) (loopC rec M0 K)=B0 k (S0 rec a1) (X0_0 K a1) a1 v402:=by kernel_rfl
noncomputable def l0 (k:Nat) (a1:Arg) (e0:(Unit)->Option Out) (v:Int):Option Out:=rawIter (fun self v=>B0 k self e0 a1 v) k v
theorem l0_eq (k:Nat) (K:KT Out) (a1:Arg) (v402:Int):iterK (N0 k) M0 K k (T0 a1 v402)=l0 k a1 (X0_0 K a1) v402:=
 iter_raw _ _ K (fun v402=>(T0 a1 v402)) (fun self v=>B0 k self (X0_0 K a1) a1 v) (fun rec v=>B0_eq k rec K a1 v) k v402
noncomputable def q0 (a1:Arg) (z605:(Unit)):Option Out:=some (true,())
noncomputable def Q0 (k:Nat) (a1:Arg) (z605:(Unit)):Option Out:=q0 a1 z605
theorem Q0_eq (k:Nat) (a1:Arg) (z605:(Unit)):X0_0 (blockC 0 (seqC (codeK E k fin (sub [1,1,1] C)) K0)) a1 z605=Q0 k a1 z605:=by kernel_rfl
noncomputable def s0 (k:Nat) (a1:Arg):(Int)->Option Out:=fun v402=>iterK (N0 k) M0 (blockC 0 (seqC (codeK E k fin (sub [1,1,1] C)) K0)) k (T0 a1 v402)
noncomputable def r0 (k:Nat) (a1:Arg):(Int)->Option Out:=fun v402=>l0 k a1 (fun z=>Q0 k a1 z) v402
theorem s0_eq (k:Nat) (a1:Arg):s0 k a1=r0 k a1:=by
 funext v402;
 have h0:X0_0 ((blockC 0 (seqC (codeK E k fin (sub [1,1,1] C)) K0))) a1=fun z=>Q0 k a1 z:=funext fun z=>Q0_eq k a1 z
 refine (l0_eq k ((blockC 0 (seqC (codeK E k fin (sub [1,1,1] C)) K0))) a1 v402).trans ?_
 rw[h0]
 rfl
noncomputable def p (l0:(Int)->Option Out) (a1:Arg):Option Out:=bif !decide ((a1.1.length:Int)=(a1.2.1.length:Int)) then (some (false,())) else l0 (0:Int)
noncomputable def raw (k:Nat) (a1:Arg):Option Out:=p (r0 k a1) a1
theorem p_eq (k:Nat) (a1:Arg):W k a1=p (s0 k a1) a1:=by kernel_rfl
theorem raw_eq (k:Nat) (a1:Arg):W k a1=raw k a1:=(p_eq k a1).trans (by rw[s0_eq];rfl)
theorem ok:Ok prog 66 sig:=fn_ok func66 (tl:=tl) (gl:=gl) (es:=[]) (fr:=[]) rfl rfl (by kernel_rfl) (fn_nil _) (fun _=>rfl)
end laws_eqByteS
namespace laws_eqByteSS
abbrev Arg:Type:=(List (List UInt8))×(List (List UInt8))×Unit
abbrev Out:Type:=Bool×Unit
noncomputable def ps:PQ:=[(.ro,(.slc (.slc u8))),(.ro,(.slc (.slc u8)))]
noncomputable def rs:RQ:=[(.bool,(roMd .bool))]
noncomputable def tl:TL:=[(22,(.slc (.slc u8))),(46,(.slc u8))]
noncomputable def gl:GL:=[(66,laws_eqByteS.sig)]
noncomputable def E:Env:={ TI:=lookN tl,G:=lookN gl,lv:=[(4,[0,1,5])],lx:=[(0,[])],od:=[(6,[0,1,2,3,4,5,6,7,8,9])] }
noncomputable def W (k:Nat) (a:Arg):Option Out:=bodyK E k f18 ps rs [] [] a
noncomputable def sem (a:Arg):Option Out:=lift fun k=>W k a
noncomputable def sig:Sig:={ ps:=ps,rs:=rs,F:=sem }
noncomputable def C:Code:=bodyOf f18
noncomputable def fin:St->Option Out:=outK ps rs [] (Func.results f18).toList (mvs [])
noncomputable def K0:Ex->St->Option Out:=endK fin
noncomputable def T0 (a1:Arg) (v402:Int):St:={ n:=27,sl:=[(0,.val (.slc (.slc u8)) a1.1),(1,.val (.slc (.slc u8)) a1.2.1),(5,.val i64 v402)],vr:=[],lent:=[] }
noncomputable def N0 (k:Nat):St->(Ex->St->Option Out)->Option Out:=codeK E k fin (sub [1,1,0,1,0,0] C)
noncomputable def M0:St->St:=keepF [0,1,5] []
noncomputable def S0 (rec:RT Out) (a1:Arg):(Int)->Option Out:=fun v402=>rec (T0 a1 v402)
noncomputable def X0_0 (K:KT Out) (a1:Arg):(Unit)->Option Out:=fun z=>K (.exit 0) ({ n:=27,sl:=[],vr:=[],lent:=[] })
noncomputable def b0 (self:Int->Option Out) (e0:(Unit)->Option Out) (a1:Arg) (v402:Int):Option Out:=bif decide (v402 < (a1.1.length:Int)) then (if 0<=v402 then ((a1.1[v402.toNat]?).bind fun x603=>if 0<=v402 then ((a1.2.1[v402.toNat]?).bind fun x604=>(laws_eqByteS.sem (x603,x604,())).bind fun r605=>bif !r605.1 then (some (false,())) else self (w64 (v402+(1:Int)))) else none) else none) else e0 ()
noncomputable def B0 (k:Nat) (self:Int->Option Out) (e0:(Unit)->Option Out) (a1:Arg) (v402:Int):Option Out:=b0 self e0 a1 v402
theorem B0_eq (k:Nat) (rec:RT Out) (K:KT Out) (a1:Arg) (v402:Int):N0 k (T0 a1 v402) (loopC rec M0 K)=B0 k (S0 rec a1) (X0_0 K a1) a1 v402:=by kernel_rfl
noncomputable def l0 (k:Nat) (a1:Arg) (e0:(Unit)->Option Out) (v:Int):Option Out:=rawIter (fun self v=>B0 k self e0 a1 v) k v
theorem l0_eq (k:Nat) (K:KT Out) (a1:Arg) (v402:Int):iterK (N0 k) M0 K k (T0 a1 v402)=l0 k a1 (X0_0 K a1) v402:=
 iter_raw _ _ K (fun v402=>(T0 a1 v402)) (fun self v=>B0 k self (X0_0 K a1) a1 v) (fun rec v=>B0_eq k rec K a1 v) k v402
noncomputable def q0 (a1:Arg) (z606:(Unit)):Option Out:=some (true,())
noncomputable def Q0 (k:Nat) (a1:Arg) (z606:(Unit)):Option Out:=q0 a1 z606
theorem Q0_eq (k:Nat) (a1:Arg) (z606:(Unit)):X0_0 (blockC 0 (seqC (codeK E k fin (sub [1,1,1] C)) K0)) a1 z606=Q0 k a1 z606:=by kernel_rfl
noncomputable def s0 (k:Nat) (a1:Arg):(Int)->Option Out:=fun v402=>iterK (N0 k) M0 (blockC 0 (seqC (codeK E k fin (sub [1,1,1] C)) K0)) k (T0 a1 v402)
noncomputable def r0 (k:Nat) (a1:Arg):(Int)->Option Out:=fun v402=>l0 k a1 (fun z=>Q0 k a1 z) v402
theorem s0_eq (k:Nat) (a1:Arg):s0 k a1=r0 k a1:=by
 funext v402;
 have h0:X0_0 ((blockC 0 (seqC (codeK E k fin (sub [1,1,1] C)) K0))) a1=fun z=>Q0 k a1 z:=funext fun z=>Q0_eq k a1 z
 refine (l0_eq k ((blockC 0 (seqC (codeK E k fin (sub [1,1,1] C)) K0))) a1 v402).trans ?_
 rw[h0]
 rfl
noncomputable def p (l0:(Int)->Option Out) (a1:Arg):Option Out:=bif !decide ((a1.1.length:Int)=(a1.2.1.length:Int)) then (some (false,())) else l0 (0:Int)
noncomputable def raw (k:Nat) (a1:Arg):Option Out:=p (r0 k a1) a1
theorem p_eq (k:Nat) (a1:Arg):W k a1=p (s0 k a1) a1:=by kernel_rfl
theorem raw_eq (k:Nat) (a1:Arg):W k a1=raw k a1:=(p_eq k a1).trans (by rw[s0_eq];rfl)
theorem ok:Ok prog 18 sig:=fn_ok func18 (tl:=tl) (gl:=gl) (es:=[]) (fr:=[]) rfl rfl (by kernel_rfl) (fc laws_eqByteS.ok (fn_nil _)) (fun _=>rfl)
end laws_eqByteSS
namespace laws_eqEdit
abbrev Arg:Type:=Edit×Edit×Unit
abbrev Out:Type:=Bool×Unit
noncomputable def ps:PQ:=[(.ro,tEdit),(.ro,tEdit)]
noncomputable def rs:RQ:=[(.bool,(roMd .bool))]
noncomputable def tl:TL:=[(2,i64),(46,(.slc u8)),(209,tEdit)]
noncomputable def gl:GL:=[(66,laws_eqByteS.sig)]
noncomputable def E:Env:={ TI:=lookN tl,G:=lookN gl }
noncomputable def W (k:Nat) (a:Arg):Option Out:=bodyK E k f138 ps rs [] [] a
noncomputable def sem (a:Arg):Option Out:=lift fun k=>W k a
noncomputable def sig:Sig:={ ps:=ps,rs:=rs,F:=sem }
noncomputable def p (a1:Arg):Option Out:=bif !decide (a1.1.1=a1.2.1.1) then (some (false,())) else (laws_eqByteS.sem (a1.1.2.1,a1.2.1.2.1,())).bind fun r2=>bif !r2.1 then (some (false,())) else some (true,())
noncomputable def raw (k:Nat) (a1:Arg):Option Out:=p a1
theorem raw_eq (k:Nat) (a1:Arg):W k a1=raw k a1:=by kernel_rfl
theorem ok:Ok prog 138 sig:=fn_ok func138 (tl:=tl) (gl:=gl) (es:=[]) (fr:=[]) rfl rfl (by kernel_rfl) (fc laws_eqByteS.ok (fn_nil _)) (fun _=>rfl)
end laws_eqEdit
namespace laws_eqEditS
abbrev Arg:Type:=(List Edit)×(List Edit)×Unit
abbrev Out:Type:=Bool×Unit
noncomputable def ps:PQ:=[(.ro,(.slc tEdit)),(.ro,(.slc tEdit))]
noncomputable def rs:RQ:=[(.bool,(roMd .bool))]
noncomputable def tl:TL:=[(27,(.slc tEdit)),(209,tEdit)]
noncomputable def gl:GL:=[(138,laws_eqEdit.sig)]
noncomputable def E:Env:={ TI:=lookN tl,G:=lookN gl,lv:=[(4,[0,1,5])],lx:=[(0,[])],od:=[(6,[0,1,2,3,4,5,6,7,8,9])] }
noncomputable def W (k:Nat) (a:Arg):Option Out:=bodyK E k f65 ps rs [] [] a
noncomputable def sem (a:Arg):Option Out:=lift fun k=>W k a
noncomputable def sig:Sig:={ ps:=ps,rs:=rs,F:=sem }
noncomputable def C:Code:=bodyOf f65
noncomputable def fin:St->Option Out:=outK ps rs [] (Func.results f65).toList (mvs [])
noncomputable def K0:Ex->St->Option Out:=endK fin
noncomputable def T0 (a1:Arg) (v402:Int):St:={ n:=27,sl:=[(0,.val (.slc tEdit) a1.1),(1,.val (.slc tEdit) a1.2.1),(5,.val i64 v402)],vr:=[],lent:=[] }
noncomputable def N0 (k:Nat):St->(Ex->St->Option Out)->Option Out:=codeK E k fin (sub [1,1,0,1,0,0] C)
noncomputable def M0:St->St:=keepF [0,1,5] []
noncomputable def S0 (rec:RT Out) (a1:Arg):(Int)->Option Out:=fun v402=>rec (T0 a1 v402)
noncomputable def X0_0 (K:KT Out) (a1:Arg):(Unit)->Option Out:=fun z=>K (.exit 0) ({ n:=27,sl:=[],vr:=[],lent:=[] })
noncomputable def b0 (self:Int->Option Out) (e0:(Unit)->Option Out) (a1:Arg) (v402:Int):Option Out:=bif decide (v402 < (a1.1.length:Int)) then (if 0<=v402 then ((a1.1[v402.toNat]?).bind fun x603=>if 0<=v402 then ((a1.2.1[v402.toNat]?).bind fun x604=>(laws_eqEdit.sem (x603,x604,())).bind fun r605=>bif !r605.1 then (some (false,())) else self (w64 (v402+(1:Int)))) else none) else none) else e0 ()
noncomputable def B0 (k:Nat) (self:Int->Option Out) (e0:(Unit)->Option Out) (a1:Arg) (v402:Int):Option Out:=b0 self e0 a1 v402
theorem B0_eq (k:Nat) (rec:RT Out) (K:KT Out) (a1:Arg) (v402:Int):N0 k (T0 a1 v402) (loopC rec M0 K)=B0 k (S0 rec a1) (X0_0 K a1) a1 v402:=by kernel_rfl
noncomputable def l0 (k:Nat) (a1:Arg) (e0:(Unit)->Option Out) (v:Int):Option Out:=rawIter (fun self v=>B0 k self e0 a1 v) k v
theorem l0_eq (k:Nat) (K:KT Out) (a1:Arg) (v402:Int):iterK (N0 k) M0 K k (T0 a1 v402)=l0 k a1 (X0_0 K a1) v402:=
 iter_raw _ _ K (fun v402=>(T0 a1 v402)) (fun self v=>B0 k self (X0_0 K a1) a1 v) (fun rec v=>B0_eq k rec K a1 v) k v402
noncomputable def q0 (a1:Arg) (z606:(Unit)):Option Out:=some (true,())
noncomputable def Q0 (k:Nat) (a1:Arg) (z606:(Unit)):Option Out:=q0 a1 z606
theorem Q0_eq (k:Nat) (a1:Arg) (z606:(Unit)):X0_0 (blockC 0 (seqC (codeK E k fin (sub [1,1,1] C)) K0)) a1 z606=Q0 k a1 z606:=by kernel_rfl
noncomputable def s0 (k:Nat) (a1:Arg):(Int)->Option Out:=fun v402=>iterK (N0 k) M0 (blockC 0 (seqC (codeK E k fin (sub [1,1,1] C)) K0)) k (T0 a1 v402)
noncomputable def r0 (k:Nat) (a1:Arg):(Int)->Option Out:=fun v402=>l0 k a1 (fun z=>Q0 k a1 z) v402
theorem s0_eq (k:Nat) (a1:Arg):s0 k a1=r0 k a1:=by
 funext v402;
 have h0:X0_0 ((blockC 0 (seqC (codeK E k fin (sub [1,1,1] C)) K0))) a1=fun z=>Q0 k a1 z:=funext fun z=>Q0_eq k a1 z
 refine (l0_eq k ((blockC 0 (seqC (codeK E k fin (sub [1,1,1] C)) K0))) a1 v402).trans ?_
 rw[h0]
 rfl
noncomputable def p (l0:(Int)->Option Out) (a1:Arg):Option Out:=bif !decide ((a1.1.length:Int)=(a1.2.1.length:Int)) then (some (false,())) else l0 (0:Int)
noncomputable def raw (k:Nat) (a1:Arg):Option Out:=p (r0 k a1) a1
theorem p_eq (k:Nat) (a1:Arg):W k a1=p (s0 k a1) a1:=by kernel_rfl
theorem raw_eq (k:Nat) (a1:Arg):W k a1=raw k a1:=(p_eq k a1).trans (by rw[s0_eq];rfl)
theorem ok:Ok prog 65 sig:=fn_ok func65 (tl:=tl) (gl:=gl) (es:=[]) (fr:=[]) rfl rfl (by kernel_rfl) (fc laws_eqEdit.ok (fn_nil _)) (fun _=>rfl)
end laws_eqEditS
namespace laws_eqEditsResult
abbrev Arg:Type:=EditsResult×EditsResult×Unit
abbrev Out:Type:=Bool×Unit
noncomputable def ps:PQ:=[(.ro,tEditsResult),(.ro,tEditsResult)]
noncomputable def rs:RQ:=[(.bool,(roMd .bool))]
noncomputable def tl:TL:=[(2,i64),(22,(.slc (.slc u8))),(27,(.slc tEdit)),(29,tEditsResult)]
noncomputable def gl:GL:=[(18,laws_eqByteSS.sig),(65,laws_eqEditS.sig)]
noncomputable def E:Env:={ TI:=lookN tl,G:=lookN gl }
noncomputable def W (k:Nat) (a:Arg):Option Out:=bodyK E k f17 ps rs [] [] a
noncomputable def sem (a:Arg):Option Out:=lift fun k=>W k a
noncomputable def sig:Sig:={ ps:=ps,rs:=rs,F:=sem }
noncomputable def p (a1:Arg):Option Out:=bif !decide (a1.1.1=a1.2.1.1) then (some (false,())) else (laws_eqEditS.sem (a1.1.2.1,a1.2.1.2.1,())).bind fun r2=>bif !r2.1 then (some (false,())) else (laws_eqByteSS.sem (a1.1.2.2.1,a1.2.1.2.2.1,())).bind fun r3=>bif !r3.1 then (some (false,())) else some (true,())
noncomputable def raw (k:Nat) (a1:Arg):Option Out:=p a1
theorem raw_eq (k:Nat) (a1:Arg):W k a1=raw k a1:=by kernel_rfl
theorem ok:Ok prog 17 sig:=fn_ok func17 (tl:=tl) (gl:=gl) (es:=[]) (fr:=[]) rfl rfl (by kernel_rfl) (fc laws_eqByteSS.ok (fc laws_eqEditS.ok (fn_nil _))) (fun _=>rfl)
end laws_eqEditsResult
namespace laws_markByteS
abbrev Arg:Type:=(List UInt8)×Int×Unit
abbrev Out:Type:=Int×(List UInt8)×Unit
noncomputable def ps:PQ:=[(.muts (ownMd (.slc u8)),(.slc u8)),(.ro,i64)]
noncomputable def rs:RQ:=[(i64,(roMd i64))]
noncomputable def tl:TL:=[(3,i64),(5,u8),(46,(.slc u8))]
noncomputable def gl:GL:=[]
noncomputable def E:Env:={ TI:=lookN tl,G:=lookN gl,lv:=[(2,[0,1,5])],lx:=[(0,[0,1])] }
noncomputable def W (k:Nat) (a:Arg):Option Out:=bodyK E k f67 ps rs [0] [] a
noncomputable def sem (a:Arg):Option Out:=lift fun k=>W k a
noncomputable def sig:Sig:={ ps:=ps,rs:=rs,F:=sem }
noncomputable def C:Code:=bodyOf f67
noncomputable def fin:St->Option Out:=outK ps rs [0] (Func.results f67).toList (mvs [])
noncomputable def K0:Ex->St->Option Out:=endK fin
noncomputable def T0 (a1:Arg) (v402:(List UInt8)×Int×Int):St:={ n:=20,sl:=[(0,.own (.slc u8) (ownMd (.slc u8)) [] v402.1),(1,.val i64 v402.2.1),(5,.val i64 v402.2.2)],vr:=[],lent:=[(0,0,true)] }
noncomputable def N0 (k:Nat):St->(Ex->St->Option Out)->Option Out:=codeK E k fin (sub [1,0,1,0,0] C)
noncomputable def M0:St->St:=keepF [0,1,5] []
noncomputable def S0 (rec:RT Out) (a1:Arg):((List UInt8)×Int×Int)->Option Out:=fun v402=>rec (T0 a1 v402)
noncomputable def X0_0 (K:KT Out) (a1:Arg):((List UInt8)×Int)->Option Out:=fun z=>K (.exit 0) ({ n:=20,sl:=[(0,.own (.slc u8) (ownMd (.slc u8)) [] z.1),(1,.val i64 z.2)],vr:=[],lent:=[(0,0,true)] })
noncomputable def b0 (self:((List UInt8)×Int×Int)->Option Out) (e0:((List UInt8)×Int)->Option Out) (a1:Arg) (v402:(List UInt8)×Int×Int):Option Out:=bif decide (v402.2.2 < (v402.1.length:Int)) then (if 0<=v402.2.2/\v402.2.2 < (v402.1.length:Int) then ((v402.1[v402.2.2.toNat]?).bind fun x603=>let y604:=v402.1.set v402.2.2.toNat (UInt8.ofInt v402.2.1);self (y604,w64 (v402.2.1+(1:Int)),w64 (v402.2.2+(1:Int)))) else none) else e0 (v402.1,v402.2.1)
noncomputable def B0 (k:Nat) (self:((List UInt8)×Int×Int)->Option Out) (e0:((List UInt8)×Int)->Option Out) (a1:Arg) (v402:(List UInt8)×Int×Int):Option Out:=b0 self e0 a1 v402
theorem B0_eq (k:Nat) (rec:RT Out) (K:KT Out) (a1:Arg) (v402:(List UInt8)×Int×Int):N0 k (T0 a1 v402) (loopC rec M0 K)=B0 k (S0 rec a1) (X0_0 K a1) a1 v402:=by kernel_rfl
noncomputable def l0 (k:Nat) (a1:Arg) (e0:((List UInt8)×Int)->Option Out) (v:(List UInt8)×Int×Int):Option Out:=rawIter (fun self v=>B0 k self e0 a1 v) k v
theorem l0_eq (k:Nat) (K:KT Out) (a1:Arg) (v402:(List UInt8)×Int×Int):iterK (N0 k) M0 K k (T0 a1 v402)=l0 k a1 (X0_0 K a1) v402:=
 iter_raw _ _ K (fun v402=>(T0 a1 v402)) (fun self v=>B0 k self (X0_0 K a1) a1 v) (fun rec v=>B0_eq k rec K a1 v) k v402
noncomputable def q0 (a1:Arg) (z605:((List UInt8)×Int)):Option Out:=some (z605.2,z605.1,())
noncomputable def Q0 (k:Nat) (a1:Arg) (z605:((List UInt8)×Int)):Option Out:=q0 a1 z605
theorem Q0_eq (k:Nat) (a1:Arg) (z605:((List UInt8)×Int)):X0_0 (blockC 0 (seqC (codeK E k fin (sub [1,1] C)) K0)) a1 z605=Q0 k a1 z605:=by kernel_rfl
noncomputable def s0 (k:Nat) (a1:Arg):((List UInt8)×Int×Int)->Option Out:=fun v402=>iterK (N0 k) M0 (blockC 0 (seqC (codeK E k fin (sub [1,1] C)) K0)) k (T0 a1 v402)
noncomputable def r0 (k:Nat) (a1:Arg):((List UInt8)×Int×Int)->Option Out:=fun v402=>l0 k a1 (fun z=>Q0 k a1 z) v402
theorem s0_eq (k:Nat) (a1:Arg):s0 k a1=r0 k a1:=by
 funext v402;
 have h0:X0_0 ((blockC 0 (seqC (codeK E k fin (sub [1,1] C)) K0))) a1=fun z=>Q0 k a1 z:=funext fun z=>Q0_eq k a1 z
 refine (l0_eq k ((blockC 0 (seqC (codeK E k fin (sub [1,1] C)) K0))) a1 v402).trans ?_
 rw[h0]
 rfl
noncomputable def p (l0:((List UInt8)×Int×Int)->Option Out) (a1:Arg):Option Out:=l0 (a1.1,a1.2.1,(0:Int))
noncomputable def raw (k:Nat) (a1:Arg):Option Out:=p (r0 k a1) a1
theorem p_eq (k:Nat) (a1:Arg):W k a1=p (s0 k a1) a1:=by kernel_rfl
theorem raw_eq (k:Nat) (a1:Arg):W k a1=raw k a1:=(p_eq k a1).trans (by rw[s0_eq];rfl)
theorem ok:Ok prog 67 sig:=fn_ok func67 (tl:=tl) (gl:=gl) (es:=[0]) (fr:=[]) rfl rfl (by kernel_rfl) (fn_nil _) (fun _=>rfl)
end laws_markByteS
namespace laws_markByteSS
abbrev Arg:Type:=(List (List UInt8))×Int×Unit
abbrev Out:Type:=Int×(List (List UInt8))×Unit
noncomputable def ps:PQ:=[(.muts (ownMd (.slc (.slc u8))),(.slc (.slc u8))),(.ro,i64)]
noncomputable def rs:RQ:=[(i64,(roMd i64))]
noncomputable def tl:TL:=[(22,(.slc (.slc u8))),(46,(.slc u8))]
noncomputable def gl:GL:=[(67,laws_markByteS.sig)]
noncomputable def E:Env:={ TI:=lookN tl,G:=lookN gl,lv:=[(2,[0,1,5])],lx:=[(0,[0,1])] }
noncomputable def W (k:Nat) (a:Arg):Option Out:=bodyK E k f19 ps rs [0] [] a
noncomputable def sem (a:Arg):Option Out:=lift fun k=>W k a
noncomputable def sig:Sig:={ ps:=ps,rs:=rs,F:=sem }
noncomputable def C:Code:=bodyOf f19
noncomputable def fin:St->Option Out:=outK ps rs [0] (Func.results f19).toList (mvs [])
noncomputable def K0:Ex->St->Option Out:=endK fin
noncomputable def T0 (a1:Arg) (v402:(List (List UInt8))×Int×Int):St:={ n:=19,sl:=[(0,.own (.slc (.slc u8)) (ownMd (.slc (.slc u8))) [] v402.1),(1,.val i64 v402.2.1),(5,.val i64 v402.2.2)],vr:=[],lent:=[(0,0,true)] }
noncomputable def N0 (k:Nat):St->(Ex->St->Option Out)->Option Out:=codeK E k fin (sub [1,0,1,0,0] C)
noncomputable def M0:St->St:=keepF [0,1,5] []
noncomputable def S0 (rec:RT Out) (a1:Arg):((List (List UInt8))×Int×Int)->Option Out:=fun v402=>rec (T0 a1 v402)
noncomputable def X0_0 (K:KT Out) (a1:Arg):((List (List UInt8))×Int)->Option Out:=fun z=>K (.exit 0) ({ n:=19,sl:=[(0,.own (.slc (.slc u8)) (ownMd (.slc (.slc u8))) [] z.1),(1,.val i64 z.2)],vr:=[],lent:=[(0,0,true)] })
noncomputable def b0 (self:((List (List UInt8))×Int×Int)->Option Out) (e0:((List (List UInt8))×Int)->Option Out) (a1:Arg) (v402:(List (List UInt8))×Int×Int):Option Out:=bif decide (v402.2.2 < (v402.1.length:Int)) then (if 0<=v402.2.2/\v402.2.2 < (v402.1.length:Int) then ((v402.1[v402.2.2.toNat]?).bind fun x603=>(v402.1[v402.2.2.toNat]?).bind fun x604=>(v402.1[v402.2.2.toNat]?).bind fun x605=>(laws_markByteS.sem (x605,v402.2.1,())).bind fun r606=>(v402.1[v402.2.2.toNat]?).bind fun x607=>self (v402.1.set v402.2.2.toNat r606.2.1,r606.1,w64 (v402.2.2+(1:Int)))) else none) else e0 (v402.1,v402.2.1)
noncomputable def B0 (k:Nat) (self:((List (List UInt8))×Int×Int)->Option Out) (e0:((List (List UInt8))×Int)->Option Out) (a1:Arg) (v402:(List (List UInt8))×Int×Int):Option Out:=b0 self e0 a1 v402
theorem B0_eq (k:Nat) (rec:RT Out) (K:KT Out) (a1:Arg) (v402:(List (List UInt8))×Int×Int):N0 k (T0 a1 v402) (loopC rec M0 K)=B0 k (S0 rec a1) (X0_0 K a1) a1 v402:=by kernel_rfl
noncomputable def l0 (k:Nat) (a1:Arg) (e0:((List (List UInt8))×Int)->Option Out) (v:(List (List UInt8))×Int×Int):Option Out:=rawIter (fun self v=>B0 k self e0 a1 v) k v
theorem l0_eq (k:Nat) (K:KT Out) (a1:Arg) (v402:(List (List UInt8))×Int×Int):iterK (N0 k) M0 K k (T0 a1 v402)=l0 k a1 (X0_0 K a1) v402:=
 iter_raw _ _ K (fun v402=>(T0 a1 v402)) (fun self v=>B0 k self (X0_0 K a1) a1 v) (fun rec v=>B0_eq k rec K a1 v) k v402
noncomputable def q0 (a1:Arg) (z608:((List (List UInt8))×Int)):Option Out:=some (z608.2,z608.1,())
noncomputable def Q0 (k:Nat) (a1:Arg) (z608:((List (List UInt8))×Int)):Option Out:=q0 a1 z608
theorem Q0_eq (k:Nat) (a1:Arg) (z608:((List (List UInt8))×Int)):X0_0 (blockC 0 (seqC (codeK E k fin (sub [1,1] C)) K0)) a1 z608=Q0 k a1 z608:=by kernel_rfl
noncomputable def s0 (k:Nat) (a1:Arg):((List (List UInt8))×Int×Int)->Option Out:=fun v402=>iterK (N0 k) M0 (blockC 0 (seqC (codeK E k fin (sub [1,1] C)) K0)) k (T0 a1 v402)
noncomputable def r0 (k:Nat) (a1:Arg):((List (List UInt8))×Int×Int)->Option Out:=fun v402=>l0 k a1 (fun z=>Q0 k a1 z) v402
theorem s0_eq (k:Nat) (a1:Arg):s0 k a1=r0 k a1:=by
 funext v402;
 have h0:X0_0 ((blockC 0 (seqC (codeK E k fin (sub [1,1] C)) K0))) a1=fun z=>Q0 k a1 z:=funext fun z=>Q0_eq k a1 z
 refine (l0_eq k ((blockC 0 (seqC (codeK E k fin (sub [1,1] C)) K0))) a1 v402).trans ?_
 rw[h0]
 rfl
noncomputable def p (l0:((List (List UInt8))×Int×Int)->Option Out) (a1:Arg):Option Out:=l0 (a1.1,a1.2.1,(0:Int))
noncomputable def raw (k:Nat) (a1:Arg):Option Out:=p (r0 k a1) a1
theorem p_eq (k:Nat) (a1:Arg):W k a1=p (s0 k a1) a1:=by kernel_rfl
theorem raw_eq (k:Nat) (a1:Arg):W k a1=raw k a1:=(p_eq k a1).trans (by rw[s0_eq];rfl)
theorem ok:Ok prog 19 sig:=fn_ok func19 (tl:=tl) (gl:=gl) (es:=[0]) (fr:=[]) rfl rfl (by kernel_rfl) (fc laws_markByteS.ok (fn_nil _)) (fun _=>rfl)
end laws_markByteSS
namespace laws_markEditS
abbrev Arg:Type:=(List Edit)×Int×Unit
abbrev Out:Type:=Int×(List Edit)×Unit
noncomputable def ps:PQ:=[(.muts (ownMd (.slc tEdit)),(.slc tEdit)),(.ro,i64)]
noncomputable def rs:RQ:=[(i64,(roMd i64))]
noncomputable def tl:TL:=[(2,i64),(27,(.slc tEdit)),(46,(.slc u8)),(209,tEdit)]
noncomputable def gl:GL:=[(67,laws_markByteS.sig)]
noncomputable def E:Env:={ TI:=lookN tl,G:=lookN gl,lv:=[(2,[0,1,5])],lx:=[(0,[0,1])] }
noncomputable def W (k:Nat) (a:Arg):Option Out:=bodyK E k f68 ps rs [0] [] a
noncomputable def sem (a:Arg):Option Out:=lift fun k=>W k a
noncomputable def sig:Sig:={ ps:=ps,rs:=rs,F:=sem }
noncomputable def C:Code:=bodyOf f68
noncomputable def fin:St->Option Out:=outK ps rs [0] (Func.results f68).toList (mvs [])
noncomputable def K0:Ex->St->Option Out:=endK fin
noncomputable def T0 (a1:Arg) (v402:(List Edit)×Int×Int):St:={ n:=27,sl:=[(0,.own (.slc tEdit) (ownMd (.slc tEdit)) [] v402.1),(1,.val i64 v402.2.1),(5,.val i64 v402.2.2)],vr:=[],lent:=[(0,0,true)] }
noncomputable def N0 (k:Nat):St->(Ex->St->Option Out)->Option Out:=codeK E k fin (sub [1,0,1,0,0] C)
noncomputable def M0:St->St:=keepF [0,1,5] []
noncomputable def S0 (rec:RT Out) (a1:Arg):((List Edit)×Int×Int)->Option Out:=fun v402=>rec (T0 a1 v402)
noncomputable def X0_0 (K:KT Out) (a1:Arg):((List Edit)×Int)->Option Out:=fun z=>K (.exit 0) ({ n:=27,sl:=[(0,.own (.slc tEdit) (ownMd (.slc tEdit)) [] z.1),(1,.val i64 z.2)],vr:=[],lent:=[(0,0,true)] })
noncomputable def b0 (self:((List Edit)×Int×Int)->Option Out) (e0:((List Edit)×Int)->Option Out) (a1:Arg) (v402:(List Edit)×Int×Int):Option Out:=bif decide (v402.2.2 < (v402.1.length:Int)) then (if 0<=v402.2.2/\v402.2.2 < (v402.1.length:Int) then ((v402.1[v402.2.2.toNat]?).bind fun x603=>let y604:=v402.1.set v402.2.2.toNat (v402.2.1,x603.2);if 0<=v402.2.2/\v402.2.2 < (y604.length:Int) then ((y604[v402.2.2.toNat]?).bind fun x605=>(y604[v402.2.2.toNat]?).bind fun x606=>(y604[v402.2.2.toNat]?).bind fun x607=>(laws_markByteS.sem (x607.2.1,w64 (v402.2.1+(1:Int)),())).bind fun r608=>(y604[v402.2.2.toNat]?).bind fun x609=>let y610:=y604.set v402.2.2.toNat (x609.1,r608.2.1,x609.2.2);self (y610,r608.1,w64 (v402.2.2+(1:Int)))) else none) else none) else e0 (v402.1,v402.2.1)
noncomputable def B0 (k:Nat) (self:((List Edit)×Int×Int)->Option Out) (e0:((List Edit)×Int)->Option Out) (a1:Arg) (v402:(List Edit)×Int×Int):Option Out:=b0 self e0 a1 v402
theorem B0_eq (k:Nat) (rec:RT Out) (K:KT Out) (a1:Arg) (v402:(List Edit)×Int×Int):N0 k (T0 a1 v402) (loopC rec M0 K)=B0 k (S0 rec a1) (X0_0 K a1) a1 v402:=by kernel_rfl
noncomputable def l0 (k:Nat) (a1:Arg) (e0:((List Edit)×Int)->Option Out) (v:(List Edit)×Int×Int):Option Out:=rawIter (fun self v=>B0 k self e0 a1 v) k v
theorem l0_eq (k:Nat) (K:KT Out) (a1:Arg) (v402:(List Edit)×Int×Int):iterK (N0 k) M0 K k (T0 a1 v402)=l0 k a1 (X0_0 K a1) v402:=
 iter_raw _ _ K (fun v402=>(T0 a1 v402)) (fun self v=>B0 k self (X0_0 K a1) a1 v) (fun rec v=>B0_eq k rec K a1 v) k v402
noncomputable def q0 (a1:Arg) (z611:((List Edit)×Int)):Option Out:=some (z611.2,z611.1,())
noncomputable def Q0 (k:Nat) (a1:Arg) (z611:((List Edit)×Int)):Option Out:=q0 a1 z611
theorem Q0_eq (k:Nat) (a1:Arg) (z611:((List Edit)×Int)):X0_0 (blockC 0 (seqC (codeK E k fin (sub [1,1] C)) K0)) a1 z611=Q0 k a1 z611:=by kernel_rfl
noncomputable def s0 (k:Nat) (a1:Arg):((List Edit)×Int×Int)->Option Out:=fun v402=>iterK (N0 k) M0 (blockC 0 (seqC (codeK E k fin (sub [1,1] C)) K0)) k (T0 a1 v402)
noncomputable def r0 (k:Nat) (a1:Arg):((List Edit)×Int×Int)->Option Out:=fun v402=>l0 k a1 (fun z=>Q0 k a1 z) v402
theorem s0_eq (k:Nat) (a1:Arg):s0 k a1=r0 k a1:=by
 funext v402;
 have h0:X0_0 ((blockC 0 (seqC (codeK E k fin (sub [1,1] C)) K0))) a1=fun z=>Q0 k a1 z:=funext fun z=>Q0_eq k a1 z
 refine (l0_eq k ((blockC 0 (seqC (codeK E k fin (sub [1,1] C)) K0))) a1 v402).trans ?_
 rw[h0]
 rfl
noncomputable def p (l0:((List Edit)×Int×Int)->Option Out) (a1:Arg):Option Out:=l0 (a1.1,a1.2.1,(0:Int))
noncomputable def raw (k:Nat) (a1:Arg):Option Out:=p (r0 k a1) a1
theorem p_eq (k:Nat) (a1:Arg):W k a1=p (s0 k a1) a1:=by kernel_rfl
theorem raw_eq (k:Nat) (a1:Arg):W k a1=raw k a1:=(p_eq k a1).trans (by rw[s0_eq];rfl)
theorem ok:Ok prog 68 sig:=fn_ok func68 (tl:=tl) (gl:=gl) (es:=[0]) (fr:=[]) rfl rfl (by kernel_rfl) (fc laws_markByteS.ok (fn_nil _)) (fun _=>rfl)
end laws_markEditS
namespace laws_markEditsResult
abbrev Arg:Type:=EditsResult×Int×Unit
abbrev Out:Type:=Int×EditsResult×Unit
noncomputable def ps:PQ:=[(.muts (ownMd tEditsResult),tEditsResult),(.ro,i64)]
noncomputable def rs:RQ:=[(i64,(roMd i64))]
noncomputable def tl:TL:=[(22,(.slc (.slc u8))),(27,(.slc tEdit)),(29,tEditsResult)]
noncomputable def gl:GL:=[(19,laws_markByteSS.sig),(68,laws_markEditS.sig)]
noncomputable def E:Env:={ TI:=lookN tl,G:=lookN gl }
noncomputable def W (k:Nat) (a:Arg):Option Out:=bodyK E k f20 ps rs [2] [] a
noncomputable def sem (a:Arg):Option Out:=lift fun k=>W k a
noncomputable def sig:Sig:={ ps:=ps,rs:=rs,F:=sem }
noncomputable def p (a1:Arg):Option Out:=(laws_markEditS.sem (a1.1.2.1,a1.2.1,())).bind fun r2=>(laws_markByteSS.sem (a1.1.2.2.1,r2.1,())).bind fun r3=>some (r3.1,(a1.1.1,r2.2.1,r3.2.1,a1.1.2.2.2),())
noncomputable def raw (k:Nat) (a1:Arg):Option Out:=p a1
theorem raw_eq (k:Nat) (a1:Arg):W k a1=raw k a1:=by kernel_rfl
theorem ok:Ok prog 20 sig:=fn_ok func20 (tl:=tl) (gl:=gl) (es:=[2]) (fr:=[]) rfl rfl (by kernel_rfl) (fc laws_markByteSS.ok (fc laws_markEditS.ok (fn_nil _))) (fun _=>rfl)
end laws_markEditsResult
namespace laws_heldByteS
abbrev Arg:Type:=(List UInt8)×Int×Unit
abbrev Out:Type:=Int×Unit
noncomputable def ps:PQ:=[(.ro,(.slc u8)),(.ro,i64)]
noncomputable def rs:RQ:=[(i64,(roMd i64))]
noncomputable def tl:TL:=[(3,i64),(5,u8),(46,(.slc u8))]
noncomputable def gl:GL:=[]
noncomputable def E:Env:={ TI:=lookN tl,G:=lookN gl,lv:=[(2,[0,1,5])],lx:=[(0,[1])] }
noncomputable def W (k:Nat) (a:Arg):Option Out:=bodyK E k f139 ps rs [] [] a
noncomputable def sem (a:Arg):Option Out:=lift fun k=>W k a
noncomputable def sig:Sig:={ ps:=ps,rs:=rs,F:=sem }
noncomputable def C:Code:=bodyOf f139
noncomputable def fin:St->Option Out:=outK ps rs [] (Func.results f139).toList (mvs [])
noncomputable def K0:Ex->St->Option Out:=endK fin
noncomputable def T0 (a1:Arg) (v402:Int×Int):St:={ n:=22,sl:=[(0,.val (.slc u8) a1.1),(1,.val i64 v402.1),(5,.val i64 v402.2)],vr:=[],lent:=[] }
noncomputable def N0 (k:Nat):St->(Ex->St->Option Out)->Option Out:=codeK E k fin (sub [1,0,1,0,0] C)
noncomputable def M0:St->St:=keepF [0,1,5] []
noncomputable def S0 (rec:RT Out) (a1:Arg):(Int×Int)->Option Out:=fun v402=>rec (T0 a1 v402)
noncomputable def X0_0 (K:KT Out) (a1:Arg):Int->Option Out:=fun z=>K (.exit 0) ({ n:=22,sl:=[(1,.val i64 z)],vr:=[],lent:=[] })
noncomputable def b0 (self:(Int×Int)->Option Out) (e0:Int->Option Out) (a1:Arg) (v402:Int×Int):Option Out:=bif decide (v402.2 < (a1.1.length:Int)) then (if 0<=v402.2 then ((a1.1[v402.2.toNat]?).bind fun x603=>bif !decide ((x603.toNat:Int)=((UInt8.ofInt v402.1).toNat:Int)) then (some ((-1:Int),())) else self (w64 (v402.1+(1:Int)),w64 (v402.2+(1:Int)))) else none) else e0 v402.1
noncomputable def B0 (k:Nat) (self:(Int×Int)->Option Out) (e0:Int->Option Out) (a1:Arg) (v402:Int×Int):Option Out:=b0 self e0 a1 v402
theorem B0_eq (k:Nat) (rec:RT Out) (K:KT Out) (a1:Arg) (v402:Int×Int):N0 k (T0 a1 v402) (loopC rec M0 K)=B0 k (S0 rec a1) (X0_0 K a1) a1 v402:=by kernel_rfl
noncomputable def l0 (k:Nat) (a1:Arg) (e0:Int->Option Out) (v:Int×Int):Option Out:=rawIter (fun self v=>B0 k self e0 a1 v) k v
theorem l0_eq (k:Nat) (K:KT Out) (a1:Arg) (v402:Int×Int):iterK (N0 k) M0 K k (T0 a1 v402)=l0 k a1 (X0_0 K a1) v402:=
 iter_raw _ _ K (fun v402=>(T0 a1 v402)) (fun self v=>B0 k self (X0_0 K a1) a1 v) (fun rec v=>B0_eq k rec K a1 v) k v402
noncomputable def q0 (a1:Arg) (z604:Int):Option Out:=some (z604,())
noncomputable def Q0 (k:Nat) (a1:Arg) (z604:Int):Option Out:=q0 a1 z604
theorem Q0_eq (k:Nat) (a1:Arg) (z604:Int):X0_0 (blockC 0 (seqC (codeK E k fin (sub [1,1] C)) K0)) a1 z604=Q0 k a1 z604:=by kernel_rfl
noncomputable def s0 (k:Nat) (a1:Arg):(Int×Int)->Option Out:=fun v402=>iterK (N0 k) M0 (blockC 0 (seqC (codeK E k fin (sub [1,1] C)) K0)) k (T0 a1 v402)
noncomputable def r0 (k:Nat) (a1:Arg):(Int×Int)->Option Out:=fun v402=>l0 k a1 (fun z=>Q0 k a1 z) v402
theorem s0_eq (k:Nat) (a1:Arg):s0 k a1=r0 k a1:=by
 funext v402;
 have h0:X0_0 ((blockC 0 (seqC (codeK E k fin (sub [1,1] C)) K0))) a1=fun z=>Q0 k a1 z:=funext fun z=>Q0_eq k a1 z
 refine (l0_eq k ((blockC 0 (seqC (codeK E k fin (sub [1,1] C)) K0))) a1 v402).trans ?_
 rw[h0]
 rfl
noncomputable def p (l0:(Int×Int)->Option Out) (a1:Arg):Option Out:=l0 (a1.2.1,(0:Int))
noncomputable def raw (k:Nat) (a1:Arg):Option Out:=p (r0 k a1) a1
theorem p_eq (k:Nat) (a1:Arg):W k a1=p (s0 k a1) a1:=by kernel_rfl
theorem raw_eq (k:Nat) (a1:Arg):W k a1=raw k a1:=(p_eq k a1).trans (by rw[s0_eq];rfl)
theorem ok:Ok prog 139 sig:=fn_ok func139 (tl:=tl) (gl:=gl) (es:=[]) (fr:=[]) rfl rfl (by kernel_rfl) (fn_nil _) (fun _=>rfl)
end laws_heldByteS
namespace laws_heldEditS
abbrev Arg:Type:=(List Edit)×Int×Unit
abbrev Out:Type:=Int×Unit
noncomputable def ps:PQ:=[(.ro,(.slc tEdit)),(.ro,i64)]
noncomputable def rs:RQ:=[(i64,(roMd i64))]
noncomputable def tl:TL:=[(2,i64),(27,(.slc tEdit)),(46,(.slc u8)),(209,tEdit)]
noncomputable def gl:GL:=[(139,laws_heldByteS.sig)]
noncomputable def E:Env:={ TI:=lookN tl,G:=lookN gl,lv:=[(2,[0,1,5])],lx:=[(0,[1])] }
noncomputable def W (k:Nat) (a:Arg):Option Out:=bodyK E k f69 ps rs [] [] a
noncomputable def sem (a:Arg):Option Out:=lift fun k=>W k a
noncomputable def sig:Sig:={ ps:=ps,rs:=rs,F:=sem }
noncomputable def C:Code:=bodyOf f69
noncomputable def fin:St->Option Out:=outK ps rs [] (Func.results f69).toList (mvs [])
noncomputable def K0:Ex->St->Option Out:=endK fin
noncomputable def T0 (a1:Arg) (v402:Int×Int):St:={ n:=31,sl:=[(0,.val (.slc tEdit) a1.1),(1,.val i64 v402.1),(5,.val i64 v402.2)],vr:=[],lent:=[] }
noncomputable def N0 (k:Nat):St->(Ex->St->Option Out)->Option Out:=codeK E k fin (sub [1,0,1,0,0] C)
noncomputable def M0:St->St:=keepF [0,1,5] []
noncomputable def S0 (rec:RT Out) (a1:Arg):(Int×Int)->Option Out:=fun v402=>rec (T0 a1 v402)
noncomputable def X0_0 (K:KT Out) (a1:Arg):Int->Option Out:=fun z=>K (.exit 0) ({ n:=31,sl:=[(1,.val i64 z)],vr:=[],lent:=[] })
noncomputable def b0 (self:(Int×Int)->Option Out) (e0:Int->Option Out) (a1:Arg) (v402:Int×Int):Option Out:=bif decide (v402.2 < (a1.1.length:Int)) then (if 0<=v402.2 then ((a1.1[v402.2.toNat]?).bind fun x603=>bif !decide (x603.1=v402.1) then (some ((-1:Int),())) else if 0<=v402.2 then ((a1.1[v402.2.toNat]?).bind fun x604=>(laws_heldByteS.sem (x604.2.1,w64 (v402.1+(1:Int)),())).bind fun r605=>bif decide (r605.1 < (0:Int)) then (some ((-1:Int),())) else self (r605.1,w64 (v402.2+(1:Int)))) else none) else none) else e0 v402.1
noncomputable def B0 (k:Nat) (self:(Int×Int)->Option Out) (e0:Int->Option Out) (a1:Arg) (v402:Int×Int):Option Out:=b0 self e0 a1 v402
theorem B0_eq (k:Nat) (rec:RT Out) (K:KT Out) (a1:Arg) (v402:Int×Int):N0 k (T0 a1 v402) (loopC rec M0 K)=B0 k (S0 rec a1) (X0_0 K a1) a1 v402:=by kernel_rfl
noncomputable def l0 (k:Nat) (a1:Arg) (e0:Int->Option Out) (v:Int×Int):Option Out:=rawIter (fun self v=>B0 k self e0 a1 v) k v
theorem l0_eq (k:Nat) (K:KT Out) (a1:Arg) (v402:Int×Int):iterK (N0 k) M0 K k (T0 a1 v402)=l0 k a1 (X0_0 K a1) v402:=
 iter_raw _ _ K (fun v402=>(T0 a1 v402)) (fun self v=>B0 k self (X0_0 K a1) a1 v) (fun rec v=>B0_eq k rec K a1 v) k v402
noncomputable def q0 (a1:Arg) (z606:Int):Option Out:=some (z606,())
noncomputable def Q0 (k:Nat) (a1:Arg) (z606:Int):Option Out:=q0 a1 z606
theorem Q0_eq (k:Nat) (a1:Arg) (z606:Int):X0_0 (blockC 0 (seqC (codeK E k fin (sub [1,1] C)) K0)) a1 z606=Q0 k a1 z606:=by kernel_rfl
noncomputable def s0 (k:Nat) (a1:Arg):(Int×Int)->Option Out:=fun v402=>iterK (N0 k) M0 (blockC 0 (seqC (codeK E k fin (sub [1,1] C)) K0)) k (T0 a1 v402)
noncomputable def r0 (k:Nat) (a1:Arg):(Int×Int)->Option Out:=fun v402=>l0 k a1 (fun z=>Q0 k a1 z) v402
theorem s0_eq (k:Nat) (a1:Arg):s0 k a1=r0 k a1:=by
 funext v402;
 have h0:X0_0 ((blockC 0 (seqC (codeK E k fin (sub [1,1] C)) K0))) a1=fun z=>Q0 k a1 z:=funext fun z=>Q0_eq k a1 z
 refine (l0_eq k ((blockC 0 (seqC (codeK E k fin (sub [1,1] C)) K0))) a1 v402).trans ?_
 rw[h0]
 rfl
noncomputable def p (l0:(Int×Int)->Option Out) (a1:Arg):Option Out:=l0 (a1.2.1,(0:Int))
noncomputable def raw (k:Nat) (a1:Arg):Option Out:=p (r0 k a1) a1
theorem p_eq (k:Nat) (a1:Arg):W k a1=p (s0 k a1) a1:=by kernel_rfl
theorem raw_eq (k:Nat) (a1:Arg):W k a1=raw k a1:=(p_eq k a1).trans (by rw[s0_eq];rfl)
theorem ok:Ok prog 69 sig:=fn_ok func69 (tl:=tl) (gl:=gl) (es:=[]) (fr:=[]) rfl rfl (by kernel_rfl) (fc laws_heldByteS.ok (fn_nil _)) (fun _=>rfl)
end laws_heldEditS
namespace laws_heldByteSS
abbrev Arg:Type:=(List (List UInt8))×Int×Unit
abbrev Out:Type:=Int×Unit
noncomputable def ps:PQ:=[(.ro,(.slc (.slc u8))),(.ro,i64)]
noncomputable def rs:RQ:=[(i64,(roMd i64))]
noncomputable def tl:TL:=[(22,(.slc (.slc u8))),(46,(.slc u8))]
noncomputable def gl:GL:=[(139,laws_heldByteS.sig)]
noncomputable def E:Env:={ TI:=lookN tl,G:=lookN gl,lv:=[(2,[0,1,5])],lx:=[(0,[1])] }
noncomputable def W (k:Nat) (a:Arg):Option Out:=bodyK E k f70 ps rs [] [] a
noncomputable def sem (a:Arg):Option Out:=lift fun k=>W k a
noncomputable def sig:Sig:={ ps:=ps,rs:=rs,F:=sem }
noncomputable def C:Code:=bodyOf f70
noncomputable def fin:St->Option Out:=outK ps rs [] (Func.results f70).toList (mvs [])
noncomputable def K0:Ex->St->Option Out:=endK fin
noncomputable def T0 (a1:Arg) (v402:Int×Int):St:={ n:=21,sl:=[(0,.val (.slc (.slc u8)) a1.1),(1,.val i64 v402.1),(5,.val i64 v402.2)],vr:=[],lent:=[] }
noncomputable def N0 (k:Nat):St->(Ex->St->Option Out)->Option Out:=codeK E k fin (sub [1,0,1,0,0] C)
noncomputable def M0:St->St:=keepF [0,1,5] []
noncomputable def S0 (rec:RT Out) (a1:Arg):(Int×Int)->Option Out:=fun v402=>rec (T0 a1 v402)
noncomputable def X0_0 (K:KT Out) (a1:Arg):Int->Option Out:=fun z=>K (.exit 0) ({ n:=21,sl:=[(1,.val i64 z)],vr:=[],lent:=[] })
noncomputable def b0 (self:(Int×Int)->Option Out) (e0:Int->Option Out) (a1:Arg) (v402:Int×Int):Option Out:=bif decide (v402.2 < (a1.1.length:Int)) then (if 0<=v402.2 then ((a1.1[v402.2.toNat]?).bind fun x603=>(laws_heldByteS.sem (x603,v402.1,())).bind fun r604=>bif decide (r604.1 < (0:Int)) then (some ((-1:Int),())) else self (r604.1,w64 (v402.2+(1:Int)))) else none) else e0 v402.1
noncomputable def B0 (k:Nat) (self:(Int×Int)->Option Out) (e0:Int->Option Out) (a1:Arg) (v402:Int×Int):Option Out:=b0 self e0 a1 v402
theorem B0_eq (k:Nat) (rec:RT Out) (K:KT Out) (a1:Arg) (v402:Int×Int):N0 k (T0 a1 v402) (loopC rec M0 K)=B0 k (S0 rec a1) (X0_0 K a1) a1 v402:=by kernel_rfl
noncomputable def l0 (k:Nat) (a1:Arg) (e0:Int->Option Out) (v:Int×Int):Option Out:=rawIter (fun self v=>B0 k self e0 a1 v) k v
theorem l0_eq (k:Nat) (K:KT Out) (a1:Arg) (v402:Int×Int):iterK (N0 k) M0 K k (T0 a1 v402)=l0 k a1 (X0_0 K a1) v402:=
 iter_raw _ _ K (fun v402=>(T0 a1 v402)) (fun self v=>B0 k self (X0_0 K a1) a1 v) (fun rec v=>B0_eq k rec K a1 v) k v402
noncomputable def q0 (a1:Arg) (z605:Int):Option Out:=some (z605,())
noncomputable def Q0 (k:Nat) (a1:Arg) (z605:Int):Option Out:=q0 a1 z605
theorem Q0_eq (k:Nat) (a1:Arg) (z605:Int):X0_0 (blockC 0 (seqC (codeK E k fin (sub [1,1] C)) K0)) a1 z605=Q0 k a1 z605:=by kernel_rfl
noncomputable def s0 (k:Nat) (a1:Arg):(Int×Int)->Option Out:=fun v402=>iterK (N0 k) M0 (blockC 0 (seqC (codeK E k fin (sub [1,1] C)) K0)) k (T0 a1 v402)
noncomputable def r0 (k:Nat) (a1:Arg):(Int×Int)->Option Out:=fun v402=>l0 k a1 (fun z=>Q0 k a1 z) v402
theorem s0_eq (k:Nat) (a1:Arg):s0 k a1=r0 k a1:=by
 funext v402;
 have h0:X0_0 ((blockC 0 (seqC (codeK E k fin (sub [1,1] C)) K0))) a1=fun z=>Q0 k a1 z:=funext fun z=>Q0_eq k a1 z
 refine (l0_eq k ((blockC 0 (seqC (codeK E k fin (sub [1,1] C)) K0))) a1 v402).trans ?_
 rw[h0]
 rfl
noncomputable def p (l0:(Int×Int)->Option Out) (a1:Arg):Option Out:=l0 (a1.2.1,(0:Int))
noncomputable def raw (k:Nat) (a1:Arg):Option Out:=p (r0 k a1) a1
theorem p_eq (k:Nat) (a1:Arg):W k a1=p (s0 k a1) a1:=by kernel_rfl
theorem raw_eq (k:Nat) (a1:Arg):W k a1=raw k a1:=(p_eq k a1).trans (by rw[s0_eq];rfl)
theorem ok:Ok prog 70 sig:=fn_ok func70 (tl:=tl) (gl:=gl) (es:=[]) (fr:=[]) rfl rfl (by kernel_rfl) (fc laws_heldByteS.ok (fn_nil _)) (fun _=>rfl)
end laws_heldByteSS
namespace laws_heldEditsResult
abbrev Arg:Type:=EditsResult×Int×Unit
abbrev Out:Type:=Int×Unit
noncomputable def ps:PQ:=[(.ro,tEditsResult),(.ro,i64)]
noncomputable def rs:RQ:=[(i64,(roMd i64))]
noncomputable def tl:TL:=[(22,(.slc (.slc u8))),(27,(.slc tEdit)),(29,tEditsResult)]
noncomputable def gl:GL:=[(69,laws_heldEditS.sig),(70,laws_heldByteSS.sig)]
noncomputable def E:Env:={ TI:=lookN tl,G:=lookN gl }
noncomputable def W (k:Nat) (a:Arg):Option Out:=bodyK E k f21 ps rs [] [] a
noncomputable def sem (a:Arg):Option Out:=lift fun k=>W k a
noncomputable def sig:Sig:={ ps:=ps,rs:=rs,F:=sem }
noncomputable def p (a1:Arg):Option Out:=(laws_heldEditS.sem (a1.1.2.1,a1.2.1,())).bind fun r2=>bif decide (r2.1 < (0:Int)) then (some ((-1:Int),())) else (laws_heldByteSS.sem (a1.1.2.2.1,r2.1,())).bind fun r3=>bif decide (r3.1 < (0:Int)) then (some ((-1:Int),())) else some (r3.1,())
noncomputable def raw (k:Nat) (a1:Arg):Option Out:=p a1
theorem raw_eq (k:Nat) (a1:Arg):W k a1=raw k a1:=by kernel_rfl
theorem ok:Ok prog 21 sig:=fn_ok func21 (tl:=tl) (gl:=gl) (es:=[]) (fr:=[]) rfl rfl (by kernel_rfl) (fc laws_heldEditS.ok (fc laws_heldByteSS.ok (fn_nil _))) (fun _=>rfl)
end laws_heldEditsResult
namespace spec_l2Set
abbrev Arg:Type:=(List UInt8)×Int×(List UInt8)×Unit
abbrev Out:Type:=(List UInt8)×Int×Unit
noncomputable def ps:PQ:=[(.ro,(.slc u8)),(.ro,i64),(.ro,(.slc u8))]
noncomputable def rs:RQ:=[((.slc u8),(ownMd (.slc u8))),(i64,(roMd i64))]
noncomputable def tl:TL:=[(3,i64),(5,u8),(46,(.slc u8))]
noncomputable def gl:GL:=[(206,spec_l2Count.sig),(207,spec_l2Size.sig),(257,spec_l2Copy.sig),(266,spec_l2Low.sig),(270,spec_l2Place.sig),(273,spec_l2Free.sig),(274,spec_l2Stand.sig)]
noncomputable def E:Env:={ TI:=lookN tl,G:=lookN gl }
noncomputable def W (k:Nat) (a:Arg):Option Out:=bodyK E k f223 ps rs [] [] a
noncomputable def sem (a:Arg):Option Out:=lift fun k=>W k a
noncomputable def sig:Sig:={ ps:=ps,rs:=rs,F:=sem }
noncomputable def p (a1:Arg):Option Out:=(spec_l2Size.sem (a1.1,a1.2.1,())).bind fun r2=>(spec_l2Copy.sem (a1.1,())).bind fun r3=>bif decide ((a1.2.2.1.length:Int)<=r2.1) then ((spec_l2Place.sem (a1.1,a1.2.1,())).bind fun r4=>(spec_l2Stand.sem (r3.1,a1.2.1,w64 ((w64 (r4.1+r2.1)) - (a1.2.2.1.length:Int)),a1.2.2.1,())).bind fun r5=>some (r5.1,(0:Int),())) else (spec_l2Free.sem (a1.1,())).bind fun r6=>bif decide (w64 (r6.1+r2.1) < (a1.2.2.1.length:Int)) then (some (([]:List UInt8),(9:Int),())) else (spec_l2Low.sem (a1.1,())).bind fun r7=>(spec_l2Count.sem (a1.1,())).bind fun r8=>bif decide (w64 (r7.1 - (a1.2.2.1.length:Int)) < w64 ((2:Int)+(w64 ((2:Int)*r8.1)))) then (some (([]:List UInt8),(8:Int),())) else if 0<=(1:Int)/\(1:Int) < (r3.1.length:Int) then ((r3.1[1]?).bind fun x9=>let y10:=r3.1.set 1 (UInt8.ofInt (w64 (r7.1 - (a1.2.2.1.length:Int))));(spec_l2Stand.sem (y10,a1.2.1,w64 (r7.1 - (a1.2.2.1.length:Int)),a1.2.2.1,())).bind fun r11=>some (r11.1,(0:Int),())) else none
noncomputable def raw (k:Nat) (a1:Arg):Option Out:=p a1
theorem raw_eq (k:Nat) (a1:Arg):W k a1=raw k a1:=by kernel_rfl
theorem ok:Ok prog 223 sig:=fn_ok func223 (tl:=tl) (gl:=gl) (es:=[]) (fr:=[]) rfl rfl (by kernel_rfl) (fc spec_l2Count.ok (fc spec_l2Size.ok (fc spec_l2Copy.ok (fc spec_l2Low.ok (fc spec_l2Place.ok (fc spec_l2Free.ok (fc spec_l2Stand.ok (fn_nil _)))))))) (fun _=>rfl)
end spec_l2Set
namespace spec_l7Set
abbrev Arg:Type:=L7Work×Int×Int×(List UInt8)×Unit
abbrev Out:Type:=Bool×L7Work×Unit
noncomputable def ps:PQ:=[(.mutp (ownMd tL7Work),tL7Work),(.ro,i64),(.ro,i64),(.ro,(.slc u8))]
noncomputable def rs:RQ:=[(.bool,(roMd .bool))]
noncomputable def tl:TL:=[(22,(.slc (.slc u8))),(46,(.slc u8)),(281,tL7Work)]
noncomputable def gl:GL:=[(214,spec_l7Turn.sig),(223,spec_l2Set.sig),(224,spec_l2Compact.sig)]
noncomputable def E:Env:={ TI:=lookN tl,G:=lookN gl }
noncomputable def W (k:Nat) (a:Arg):Option Out:=bodyK E k f141 ps rs [0] [] a
noncomputable def sem (a:Arg):Option Out:=lift fun k=>W k a
noncomputable def sig:Sig:={ ps:=ps,rs:=rs,F:=sem }
noncomputable def p (a1:Arg):Option Out:=if 0<=a1.2.1/\a1.2.1 < (a1.1.1.length:Int) then ((a1.1.1[a1.2.1.toNat]?).bind fun x2=>(a1.1.1[a1.2.1.toNat]?).bind fun x3=>(spec_l2Set.sem (x3,a1.2.2.1,a1.2.2.2.1,())).bind fun r4=>bif decide (r4.2.1=(8:Int)) then (if 0<=a1.2.1/\a1.2.1 < (a1.1.1.length:Int) then ((a1.1.1[a1.2.1.toNat]?).bind fun x5=>(a1.1.1[a1.2.1.toNat]?).bind fun x6=>(spec_l2Compact.sem (x6,())).bind fun r7=>(spec_l7Turn.sem (a1.1,a1.2.1,r7.1,())).bind fun r8=>if 0<=a1.2.1/\a1.2.1 < (r8.1.1.length:Int) then ((r8.1.1[a1.2.1.toNat]?).bind fun x9=>(r8.1.1[a1.2.1.toNat]?).bind fun x10=>(spec_l2Set.sem (x10,a1.2.2.1,a1.2.2.2.1,())).bind fun r11=>bif !decide (r11.2.1=(0:Int)) then (some (false,r8.1,())) else (spec_l7Turn.sem (r8.1,a1.2.1,r11.1,())).bind fun r13=>some (true,r13.1,())) else none) else none) else bif !decide (r4.2.1=(0:Int)) then (some (false,a1.1,())) else (spec_l7Turn.sem (a1.1,a1.2.1,r4.1,())).bind fun r14=>some (true,r14.1,())) else none
noncomputable def raw (k:Nat) (a1:Arg):Option Out:=p a1
theorem raw_eq (k:Nat) (a1:Arg):W k a1=raw k a1:=by kernel_rfl
theorem ok:Ok prog 141 sig:=fn_ok func141 (tl:=tl) (gl:=gl) (es:=[0]) (fr:=[]) rfl rfl (by kernel_rfl) (fc spec_l7Turn.ok (fc spec_l2Set.ok (fc spec_l2Compact.ok (fn_nil _)))) (fun _=>rfl)
end spec_l7Set
namespace spec_l1Stub
abbrev Arg:Type:=Int×Int×Unit
abbrev Out:Type:=(List UInt8)×Unit
noncomputable def ps:PQ:=[(.ro,i64),(.ro,i64)]
noncomputable def rs:RQ:=[((.slc u8),(ownMd (.slc u8)))]
noncomputable def tl:TL:=[(2,i64),(5,u8),(46,(.slc u8))]
noncomputable def gl:GL:=[]
noncomputable def E:Env:={ TI:=lookN tl,G:=lookN gl }
noncomputable def W (k:Nat) (a:Arg):Option Out:=bodyK E k f142 ps rs [] [] a
noncomputable def sem (a:Arg):Option Out:=lift fun k=>W k a
noncomputable def sig:Sig:={ ps:=ps,rs:=rs,F:=sem }
noncomputable def p (a1:Arg):Option Out:=some ([(1:UInt8),UInt8.ofInt a1.1,UInt8.ofInt a1.2.1],())
noncomputable def raw (k:Nat) (a1:Arg):Option Out:=p a1
theorem raw_eq (k:Nat) (a1:Arg):W k a1=raw k a1:=by kernel_rfl
theorem ok:Ok prog 142 sig:=fn_ok func142 (tl:=tl) (gl:=gl) (es:=[]) (fr:=[]) rfl rfl (by kernel_rfl) (fn_nil _) (fun _=>rfl)
end spec_l1Stub
namespace spec_l2Drop
abbrev Arg:Type:=(List UInt8)×Int×Unit
abbrev Out:Type:=(List UInt8)×Unit
noncomputable def ps:PQ:=[(.ro,(.slc u8)),(.ro,i64)]
noncomputable def rs:RQ:=[((.slc u8),(ownMd (.slc u8)))]
noncomputable def tl:TL:=[(3,i64),(5,u8),(46,(.slc u8))]
noncomputable def gl:GL:=[(207,spec_l2Size.sig),(257,spec_l2Copy.sig)]
noncomputable def E:Env:={ TI:=lookN tl,G:=lookN gl,lv:=[(4,[5])],lx:=[(0,[5])] }
noncomputable def W (k:Nat) (a:Arg):Option Out:=bodyK E k f281 ps rs [] [] a
noncomputable def sem (a:Arg):Option Out:=lift fun k=>W k a
noncomputable def sig:Sig:={ ps:=ps,rs:=rs,F:=sem }
noncomputable def C:Code:=bodyOf f281
noncomputable def fin:St->Option Out:=outK ps rs [] (Func.results f281).toList (mvs [])
noncomputable def K0:Ex->St->Option Out:=endK fin
noncomputable def T0 (a1:Arg) (v407:List UInt8):St:={ n:=38,sl:=[(5,.own (.slc u8) (ownMd (.slc u8)) [] v407)],vr:=[],lent:=[] }
noncomputable def N0 (k:Nat):St->(Ex->St->Option Out)->Option Out:=codeK E k fin (sub [1,1,1,1,0,0,0] C)
noncomputable def M0:St->St:=keepF [5] []
noncomputable def S0 (rec:RT Out) (a1:Arg):(List UInt8)->Option Out:=fun v407=>rec (T0 a1 v407)
noncomputable def X0_0 (K:KT Out) (a1:Arg):(List UInt8)->Option Out:=fun z=>K (.exit 0) ({ n:=38,sl:=[(5,.own (.slc u8) (ownMd (.slc u8)) [] z)],vr:=[],lent:=[] })
noncomputable def b0 (self:(List UInt8)->Option Out) (e0:(List UInt8)->Option Out) (a1:Arg) (v407:List UInt8):Option Out:=if 0<=(0:Int)/\(0:Int) < (v407.length:Int) then ((v407[0]?).bind fun x608=>bif decide ((0:Int) < (x608.toNat:Int)) then (if 0<=(0:Int)/\(0:Int) < (v407.length:Int) then ((v407[0]?).bind fun x609=>(spec_l2Size.sem (v407,w64 ((w64 (x609.toNat:Int)) - (1:Int)),())).bind fun r610=>bif decide (r610.1=(0:Int)) then (if 0<=(0:Int)/\(0:Int) < (v407.length:Int) then ((v407[0]?).bind fun x611=>if 0<=(0:Int)/\(0:Int) < (v407.length:Int) then ((v407[0]?).bind fun x612=>let y613:=v407.set 0 (UInt8.ofInt ((x611.toNat:Int) - (1:Int)));self y613) else none) else none) else e0 v407) else none) else e0 v407) else none
noncomputable def B0 (k:Nat) (self:(List UInt8)->Option Out) (e0:(List UInt8)->Option Out) (a1:Arg) (v407:List UInt8):Option Out:=b0 self e0 a1 v407
theorem B0_eq (k:Nat) (rec:RT Out) (K:KT Out) (a1:Arg) (v407:List UInt8):N0 k (T0 a1 v407) (loopC rec M0 K)=B0 k (S0 rec a1) (X0_0 K a1) a1 v407:=by kernel_rfl
noncomputable def l0 (k:Nat) (a1:Arg) (e0:(List UInt8)->Option Out) (v:List UInt8):Option Out:=rawIter (fun self v=>B0 k self e0 a1 v) k v
theorem l0_eq (k:Nat) (K:KT Out) (a1:Arg) (v407:List UInt8):iterK (N0 k) M0 K k (T0 a1 v407)=l0 k a1 (X0_0 K a1) v407:=
 iter_raw _ _ K (fun v407=>(T0 a1 v407)) (fun self v=>B0 k self (X0_0 K a1) a1 v) (fun rec v=>B0_eq k rec K a1 v) k v407
noncomputable def q0 (a1:Arg) (z614:(List UInt8)):Option Out:=some (z614,())
noncomputable def Q0 (k:Nat) (a1:Arg) (z614:(List UInt8)):Option Out:=q0 a1 z614
theorem Q0_eq (k:Nat) (a1:Arg) (z614:(List UInt8)):X0_0 (blockC 0 (seqC (codeK E k fin (sub [1,1,1,1,1] C)) K0)) a1 z614=Q0 k a1 z614:=by kernel_rfl
noncomputable def s0 (k:Nat) (a1:Arg):(List UInt8)->Option Out:=fun v407=>iterK (N0 k) M0 (blockC 0 (seqC (codeK E k fin (sub [1,1,1,1,1] C)) K0)) k (T0 a1 v407)
noncomputable def r0 (k:Nat) (a1:Arg):(List UInt8)->Option Out:=fun v407=>l0 k a1 (fun z=>Q0 k a1 z) v407
theorem s0_eq (k:Nat) (a1:Arg):s0 k a1=r0 k a1:=by
 funext v407;
 have h0:X0_0 ((blockC 0 (seqC (codeK E k fin (sub [1,1,1,1,1] C)) K0))) a1=fun z=>Q0 k a1 z:=funext fun z=>Q0_eq k a1 z
 refine (l0_eq k ((blockC 0 (seqC (codeK E k fin (sub [1,1,1,1,1] C)) K0))) a1 v407).trans ?_
 rw[h0]
 rfl
noncomputable def p (l0:(List UInt8)->Option Out) (a1:Arg):Option Out:=(spec_l2Copy.sem (a1.1,())).bind fun r2=>if 0<=w64 ((2:Int)+(w64 ((2:Int)*a1.2.1)))/\w64 ((2:Int)+(w64 ((2:Int)*a1.2.1))) < (r2.1.length:Int) then ((r2.1[(w64 ((2:Int)+(w64 ((2:Int)*a1.2.1)))).toNat]?).bind fun x3=>let y4:=r2.1.set (w64 ((2:Int)+(w64 ((2:Int)*a1.2.1)))).toNat (0:UInt8);if 0<=w64 ((3:Int)+(w64 ((2:Int)*a1.2.1)))/\w64 ((3:Int)+(w64 ((2:Int)*a1.2.1))) < (y4.length:Int) then ((y4[(w64 ((3:Int)+(w64 ((2:Int)*a1.2.1)))).toNat]?).bind fun x5=>let y6:=y4.set (w64 ((3:Int)+(w64 ((2:Int)*a1.2.1)))).toNat (0:UInt8);l0 y6) else none) else none
noncomputable def raw (k:Nat) (a1:Arg):Option Out:=p (r0 k a1) a1
theorem p_eq (k:Nat) (a1:Arg):W k a1=p (s0 k a1) a1:=by kernel_rfl
theorem raw_eq (k:Nat) (a1:Arg):W k a1=raw k a1:=(p_eq k a1).trans (by rw[s0_eq];rfl)
theorem ok:Ok prog 281 sig:=fn_ok func281 (tl:=tl) (gl:=gl) (es:=[]) (fr:=[]) rfl rfl (by kernel_rfl) (fc spec_l2Size.ok (fc spec_l2Copy.ok (fn_nil _))) (fun _=>rfl)
end spec_l2Drop
namespace spec_l7Drop
abbrev Arg:Type:=L7Work×Int×Int×Unit
abbrev Out:Type:=L7Work×Unit
noncomputable def ps:PQ:=[(.mutp (ownMd tL7Work),tL7Work),(.ro,i64),(.ro,i64)]
noncomputable def rs:RQ:=[]
noncomputable def tl:TL:=[(22,(.slc (.slc u8))),(46,(.slc u8)),(281,tL7Work)]
noncomputable def gl:GL:=[(214,spec_l7Turn.sig),(281,spec_l2Drop.sig)]
noncomputable def E:Env:={ TI:=lookN tl,G:=lookN gl }
noncomputable def W (k:Nat) (a:Arg):Option Out:=bodyK E k f222 ps rs [0] [] a
noncomputable def sem (a:Arg):Option Out:=lift fun k=>W k a
noncomputable def sig:Sig:={ ps:=ps,rs:=rs,F:=sem }
noncomputable def p (a1:Arg):Option Out:=if 0<=a1.2.1/\a1.2.1 < (a1.1.1.length:Int) then ((a1.1.1[a1.2.1.toNat]?).bind fun x2=>(a1.1.1[a1.2.1.toNat]?).bind fun x3=>(spec_l2Drop.sem (x3,a1.2.2.1,())).bind fun r4=>(spec_l7Turn.sem (a1.1,a1.2.1,r4.1,())).bind fun r5=>some (r5.1,())) else none
noncomputable def raw (k:Nat) (a1:Arg):Option Out:=p a1
theorem raw_eq (k:Nat) (a1:Arg):W k a1=raw k a1:=by kernel_rfl
theorem ok:Ok prog 222 sig:=fn_ok func222 (tl:=tl) (gl:=gl) (es:=[0]) (fr:=[]) rfl rfl (by kernel_rfl) (fc spec_l7Turn.ok (fc spec_l2Drop.ok (fn_nil _))) (fun _=>rfl)
end spec_l7Drop
namespace spec_l7Move
abbrev Arg:Type:=L7Work×L6Spot×Row×Unit
abbrev Out:Type:=Bool×L7Work×Unit
noncomputable def ps:PQ:=[(.mutp (ownMd tL7Work),tL7Work),(.ro,(.ptr tL6Spot)),(.ro,(.ptr tRow))]
noncomputable def rs:RQ:=[(.bool,(roMd .bool))]
noncomputable def tl:TL:=[(2,i64),(102,tCellResult),(104,tL6Spot)]
noncomputable def gl:GL:=[(126,spec_l7Place.sig),(127,spec_l1Cell.sig),(141,spec_l7Set.sig),(142,spec_l1Stub.sig),(222,spec_l7Drop.sig)]
noncomputable def E:Env:={ TI:=lookN tl,G:=lookN gl,od:=[(9,[0,1,2,3,4,5,6,7,8,9,10,11,12])] }
noncomputable def W (k:Nat) (a:Arg):Option Out:=bodyK E k f140 ps rs [0] [] a
noncomputable def sem (a:Arg):Option Out:=lift fun k=>W k a
noncomputable def sig:Sig:={ ps:=ps,rs:=rs,F:=sem }
noncomputable def p (a1:Arg):Option Out:=(spec_l1Cell.sem ((2:Int),a1.2.2.1,())).bind fun r2=>(spec_l7Set.sem (a1.1,a1.2.1.2.2.1.2.2.1,a1.2.1.2.2.1.2.2.2.1,r2.1,())).bind fun r3=>bif r3.1 then (some (true,r3.2.1,())) else (spec_l7Place.sem (r3.2.1,a1.2.1.2.2.1.2.2.1,r2.1,())).bind fun r4=>bif !r4.2.2.1 then (some (false,r4.2.2.2.1,())) else (spec_l1Stub.sem (r4.1,r4.2.1,())).bind fun r5=>(spec_l7Set.sem (r4.2.2.2.1,a1.2.1.1,a1.2.1.2.1,r5.1,())).bind fun r6=>(spec_l7Drop.sem (r6.2.1,a1.2.1.2.2.1.2.2.1,a1.2.1.2.2.1.2.2.2.1,())).bind fun r7=>some (true,r7.1,())
noncomputable def raw (k:Nat) (a1:Arg):Option Out:=p a1
theorem raw_eq (k:Nat) (a1:Arg):W k a1=raw k a1:=by kernel_rfl
theorem ok:Ok prog 140 sig:=fn_ok func140 (tl:=tl) (gl:=gl) (es:=[0]) (fr:=[]) rfl rfl (by kernel_rfl) (fc spec_l7Place.ok (fc spec_l1Cell.ok (fc spec_l7Set.ok (fc spec_l1Stub.ok (fc spec_l7Drop.ok (fn_nil _)))))) (fun _=>rfl)
end spec_l7Move
namespace spec_l7Update
abbrev Arg:Type:=(List (List UInt8))×L6Spot×Row×Unit
abbrev Out:Type:=EditsResult×Unit
noncomputable def ps:PQ:=[(.ro,(.slc (.slc u8))),(.ro,(.ptr tL6Spot)),(.ro,(.ptr tRow))]
noncomputable def rs:RQ:=[(tEditsResult,(ownMd tEditsResult))]
noncomputable def tl:TL:=[(2,i64),(29,tEditsResult),(32,tRow),(102,tCellResult),(104,tL6Spot)]
noncomputable def gl:GL:=[(54,spec_l7Bad.sig),(125,spec_l7Start.sig),(126,spec_l7Place.sig),(127,spec_l1Cell.sig),(128,spec_l7Done.sig),(140,spec_l7Move.sig),(141,spec_l7Set.sig),(142,spec_l1Stub.sig)]
noncomputable def E:Env:={ TI:=lookN tl,G:=lookN gl,od:=[(2,[0,1,2,3,4,5,6,7,8]),(8,[0,1,2,3,4,5,6,7,8,9,10,11]),(10,[0,1,2,3,4,5,6,7,8,9,10,11,12,13,14]),(13,[0,1,2,3,4,5,6,7,8,9,10,11,12])] }
noncomputable def W (k:Nat) (a:Arg):Option Out:=bodyK E k f71 ps rs [] [] a
noncomputable def sem (a:Arg):Option Out:=lift fun k=>W k a
noncomputable def sig:Sig:={ ps:=ps,rs:=rs,F:=sem }
noncomputable def p (a1:Arg):Option Out:=(spec_l7Start.sem (a1.1,())).bind fun r2=>bif (Ty.eq tRow a1.2.1.2.2.1.2.2.2.2.1 a1.2.2.1) then ((spec_l7Done.sem (r2.1,())).bind fun r3=>some (r3.1,())) else bif decide (a1.2.1.2.2.1.2.1=(1:Int)) then ((spec_l7Move.sem (r2.1,a1.2.1,a1.2.2.1,())).bind fun r4=>bif !r4.1 then ((spec_l7Bad.sem ((9:Int),())).bind fun r5=>some (r5.1,())) else (spec_l7Done.sem (r4.2.1,())).bind fun r6=>some (r6.1,())) else (spec_l1Cell.sem ((0:Int),a1.2.2.1,())).bind fun r7=>(spec_l7Set.sem (r2.1,a1.2.1.1,a1.2.1.2.1,r7.1,())).bind fun r8=>bif r8.1 then ((spec_l7Done.sem (r8.2.1,())).bind fun r9=>some (r9.1,())) else (spec_l1Cell.sem ((2:Int),a1.2.2.1,())).bind fun r10=>(spec_l7Place.sem (r8.2.1,a1.2.1.1,r10.1,())).bind fun r11=>bif !r11.2.2.1 then ((spec_l7Bad.sem ((9:Int),())).bind fun r12=>some (r12.1,())) else (spec_l1Stub.sem (r11.1,r11.2.1,())).bind fun r13=>(spec_l7Set.sem (r11.2.2.2.1,a1.2.1.1,a1.2.1.2.1,r13.1,())).bind fun r14=>(spec_l7Done.sem (r14.2.1,())).bind fun r15=>some (r15.1,())
noncomputable def raw (k:Nat) (a1:Arg):Option Out:=p a1
theorem raw_eq (k:Nat) (a1:Arg):W k a1=raw k a1:=by kernel_rfl
theorem ok:Ok prog 71 sig:=fn_ok func71 (tl:=tl) (gl:=gl) (es:=[]) (fr:=[]) rfl rfl (by kernel_rfl) (fc spec_l7Bad.ok (fc spec_l7Start.ok (fc spec_l7Place.ok (fc spec_l1Cell.ok (fc spec_l7Done.ok (fc spec_l7Move.ok (fc spec_l7Set.ok (fc spec_l1Stub.ok (fn_nil _))))))))) (fun _=>rfl)
end spec_l7Update
namespace spec_UpdateEdits
abbrev Arg:Type:=(List (List UInt8))×Row×Unit
abbrev Out:Type:=EditsResult×Unit
noncomputable def ps:PQ:=[(.ro,(.slc (.slc u8))),(.ro,tRow)]
noncomputable def rs:RQ:=[(tEditsResult,(ownMd tEditsResult))]
noncomputable def tl:TL:=[(2,i64),(29,tEditsResult),(32,tRow),(104,tL6Spot)]
noncomputable def gl:GL:=[(53,spec_l6Fault.sig),(54,spec_l7Bad.sig),(55,spec_l1Fault.sig),(56,spec_l6Find.sig),(71,spec_l7Update.sig)]
noncomputable def E:Env:={ TI:=lookN tl,G:=lookN gl }
noncomputable def W (k:Nat) (a:Arg):Option Out:=bodyK E k f22 ps rs [] [] a
noncomputable def sem (a:Arg):Option Out:=lift fun k=>W k a
noncomputable def sig:Sig:={ ps:=ps,rs:=rs,F:=sem }
noncomputable def p (a1:Arg):Option Out:=(spec_l6Fault.sem (a1.1,())).bind fun r2=>bif !decide (r2.1=(0:Int)) then ((spec_l7Bad.sem (r2.1,())).bind fun r3=>some (r3.1,())) else (spec_l1Fault.sem (a1.2.1,())).bind fun r4=>bif !decide (r4.1=(0:Int)) then ((spec_l7Bad.sem (r4.1,())).bind fun r5=>some (r5.1,())) else (spec_l6Find.sem (a1.1,a1.2.1.1,a1.2.1.2.1,())).bind fun r6=>bif !r6.2.1 then ((spec_l7Bad.sem ((4:Int),())).bind fun r7=>some (r7.1,())) else (spec_l7Update.sem (a1.1,r6.1,a1.2.1,())).bind fun r8=>some (r8.1,())
noncomputable def raw (k:Nat) (a1:Arg):Option Out:=p a1
theorem raw_eq (k:Nat) (a1:Arg):W k a1=raw k a1:=by kernel_rfl
theorem ok:Ok prog 22 sig:=fn_ok func22 (tl:=tl) (gl:=gl) (es:=[]) (fr:=[]) rfl rfl (by kernel_rfl) (fc spec_l6Fault.ok (fc spec_l7Bad.ok (fc spec_l1Fault.ok (fc spec_l6Find.ok (fc spec_l7Update.ok (fn_nil _)))))) (fun _=>rfl)
end spec_UpdateEdits
namespace impl_SetSlot
abbrev Arg:Type:=(List UInt8)×Int×(List UInt8)×Unit
abbrev Out:Type:=PageResult×Unit
noncomputable def ps:PQ:=[(.ro,(.slc u8)),(.ro,i64),(.ro,(.slc u8))]
noncomputable def rs:RQ:=[(tPageResult,(ownMd tPageResult))]
noncomputable def tl:TL:=[(3,i64),(5,u8),(46,(.slc u8)),(299,tPageResult)]
noncomputable def gl:GL:=[(130,impl_slots.sig),(131,impl_hasSlot.sig),(215,impl_spot.sig),(277,impl_cellFault.sig),(278,impl_freeIn.sig),(279,impl_write.sig)]
noncomputable def E:Env:={ TI:=lookN tl,G:=lookN gl }
noncomputable def W (k:Nat) (a:Arg):Option Out:=bodyK E k f225 ps rs [] [] a
noncomputable def sem (a:Arg):Option Out:=lift fun k=>W k a
noncomputable def sig:Sig:={ ps:=ps,rs:=rs,F:=sem }
noncomputable def p (a1:Arg):Option Out:=(impl_cellFault.sem (a1.1,a1.2.2.1,())).bind fun r2=>bif !decide (r2.1=(0:Int)) then (some ((r2.1,(0:Int),([]:List UInt8),()),())) else (impl_hasSlot.sem (a1.1,a1.2.1,())).bind fun r3=>bif !r3.1 then (some (((4:Int),(0:Int),([]:List UInt8),()),())) else (impl_spot.sem (a1.1,a1.2.1,())).bind fun r4=>bif decide ((a1.2.2.1.length:Int)<=r4.2.1) then ((impl_write.sem (a1.1,a1.2.1,w64 ((w64 (r4.1+r4.2.1)) - (a1.2.2.1.length:Int)),a1.2.2.1,())).bind fun r5=>some (((0:Int),a1.2.1,r5.1,()),())) else (impl_freeIn.sem (a1.1,())).bind fun r6=>bif decide (w64 (r6.1+r4.2.1) < (a1.2.2.1.length:Int)) then (some (((9:Int),(0:Int),([]:List UInt8),()),())) else (a1.1[1]?).bind fun x7=>(impl_slots.sem (a1.1,())).bind fun r8=>bif decide (w64 ((w64 (x7.toNat:Int)) - (w64 ((2:Int)+(w64 ((2:Int)*r8.1))))) < (a1.2.2.1.length:Int)) then (some (((8:Int),(0:Int),([]:List UInt8),()),())) else (impl_write.sem (a1.1,a1.2.1,w64 ((w64 (x7.toNat:Int)) - (a1.2.2.1.length:Int)),a1.2.2.1,())).bind fun r9=>if 0<=(1:Int)/\(1:Int) < (r9.1.length:Int) then ((r9.1[1]?).bind fun x10=>let y11:=r9.1.set 1 (UInt8.ofInt (w64 ((w64 (x7.toNat:Int)) - (a1.2.2.1.length:Int))));some (((0:Int),a1.2.1,y11,()),())) else none
noncomputable def raw (k:Nat) (a1:Arg):Option Out:=p a1
theorem raw_eq (k:Nat) (a1:Arg):W k a1=raw k a1:=by kernel_rfl
theorem ok:Ok prog 225 sig:=fn_ok func225 (tl:=tl) (gl:=gl) (es:=[]) (fr:=[]) rfl rfl (by kernel_rfl) (fc impl_slots.ok (fc impl_hasSlot.ok (fc impl_spot.ok (fc impl_cellFault.ok (fc impl_freeIn.ok (fc impl_write.ok (fn_nil _))))))) (fun _=>rfl)
end impl_SetSlot
namespace impl_desk_turn
abbrev Arg:Type:=L7Work×Int×Int×(List UInt8)×Unit
abbrev Out:Type:=Bool×L7Work×Unit
noncomputable def ps:PQ:=[(.mutp (ownMd tL7Work),tL7Work),(.ro,i64),(.ro,i64),(.ro,(.slc u8))]
noncomputable def rs:RQ:=[(.bool,(roMd .bool))]
noncomputable def tl:TL:=[(2,i64),(22,(.slc (.slc u8))),(46,(.slc u8)),(203,tL7Work),(299,tPageResult)]
noncomputable def gl:GL:=[(219,impl_desk_compact.sig),(220,impl_desk_edit.sig),(225,impl_SetSlot.sig)]
noncomputable def E:Env:={ TI:=lookN tl,G:=lookN gl }
noncomputable def W (k:Nat) (a:Arg):Option Out:=bodyK E k f143 ps rs [0] [] a
noncomputable def sem (a:Arg):Option Out:=lift fun k=>W k a
noncomputable def sig:Sig:={ ps:=ps,rs:=rs,F:=sem }
noncomputable def p (a1:Arg):Option Out:=if 0<=a1.2.1/\a1.2.1 < (a1.1.1.length:Int) then ((a1.1.1[a1.2.1.toNat]?).bind fun x2=>(a1.1.1[a1.2.1.toNat]?).bind fun x3=>(impl_SetSlot.sem (x3,a1.2.2.1,a1.2.2.2.1,())).bind fun r4=>bif decide (r4.1.1=(8:Int)) then ((impl_desk_compact.sem (a1.1,a1.2.1,())).bind fun r5=>if 0<=a1.2.1/\a1.2.1 < (r5.1.1.length:Int) then ((r5.1.1[a1.2.1.toNat]?).bind fun x6=>(r5.1.1[a1.2.1.toNat]?).bind fun x7=>(impl_SetSlot.sem (x7,a1.2.2.1,a1.2.2.2.1,())).bind fun r8=>bif !decide (r8.1.1=(0:Int)) then (some (false,r5.1,())) else (impl_desk_edit.sem (r5.1,a1.2.1,r8.1.2.2.1,())).bind fun r10=>some (true,r10.1,())) else none) else bif !decide (r4.1.1=(0:Int)) then (some (false,a1.1,())) else (impl_desk_edit.sem (a1.1,a1.2.1,r4.1.2.2.1,())).bind fun r11=>some (true,r11.1,())) else none
noncomputable def raw (k:Nat) (a1:Arg):Option Out:=p a1
theorem raw_eq (k:Nat) (a1:Arg):W k a1=raw k a1:=by kernel_rfl
theorem ok:Ok prog 143 sig:=fn_ok func143 (tl:=tl) (gl:=gl) (es:=[0]) (fr:=[]) rfl rfl (by kernel_rfl) (fc impl_desk_compact.ok (fc impl_desk_edit.ok (fc impl_SetSlot.ok (fn_nil _)))) (fun _=>rfl)
end impl_desk_turn
namespace impl_stub
abbrev Arg:Type:=Int×Int×Unit
abbrev Out:Type:=(List UInt8)×Unit
noncomputable def ps:PQ:=[(.ro,i64),(.ro,i64)]
noncomputable def rs:RQ:=[((.slc u8),(ownMd (.slc u8)))]
noncomputable def tl:TL:=[(2,i64),(5,u8),(46,(.slc u8))]
noncomputable def gl:GL:=[]
noncomputable def E:Env:={ TI:=lookN tl,G:=lookN gl }
noncomputable def W (k:Nat) (a:Arg):Option Out:=bodyK E k f144 ps rs [] [] a
noncomputable def sem (a:Arg):Option Out:=lift fun k=>W k a
noncomputable def sig:Sig:={ ps:=ps,rs:=rs,F:=sem }
noncomputable def p (a1:Arg):Option Out:=some ([(1:UInt8),UInt8.ofInt a1.1,UInt8.ofInt a1.2.1],())
noncomputable def raw (k:Nat) (a1:Arg):Option Out:=p a1
theorem raw_eq (k:Nat) (a1:Arg):W k a1=raw k a1:=by kernel_rfl
theorem ok:Ok prog 144 sig:=fn_ok func144 (tl:=tl) (gl:=gl) (es:=[]) (fr:=[]) rfl rfl (by kernel_rfl) (fn_nil _) (fun _=>rfl)
end impl_stub
namespace impl_DropSlot
abbrev Arg:Type:=(List UInt8)×Int×Unit
abbrev Out:Type:=PageResult×Unit
noncomputable def ps:PQ:=[(.ro,(.slc u8)),(.ro,i64)]
noncomputable def rs:RQ:=[(tPageResult,(ownMd tPageResult))]
noncomputable def tl:TL:=[(3,i64),(5,u8),(46,(.slc u8)),(299,tPageResult)]
noncomputable def gl:GL:=[(129,impl_PageFault.sig),(131,impl_hasSlot.sig),(189,impl_copied.sig)]
noncomputable def E:Env:={ TI:=lookN tl,G:=lookN gl,lv:=[(9,[1,4,6])],lx:=[(0,[1,4,6])] }
noncomputable def W (k:Nat) (a:Arg):Option Out:=bodyK E k f226 ps rs [] [] a
noncomputable def sem (a:Arg):Option Out:=lift fun k=>W k a
noncomputable def sig:Sig:={ ps:=ps,rs:=rs,F:=sem }
noncomputable def C:Code:=bodyOf f226
noncomputable def fin:St->Option Out:=outK ps rs [] (Func.results f226).toList (mvs [])
noncomputable def K0:Ex->St->Option Out:=endK fin
noncomputable def T0 (a1:Arg) (v409:List UInt8):St:={ n:=54,sl:=[(1,.val i64 a1.2.1),(4,.box tPageResult (ownMd tPageResult) [] ((0:Int),(0:Int),([]:List UInt8),())),(6,.own (.slc u8) (ownMd (.slc u8)) [] v409)],vr:=[],lent:=[] }
noncomputable def N0 (k:Nat):St->(Ex->St->Option Out)->Option Out:=codeK E k fin (sub [1,1,1,1,1,1,0,0,0] C)
noncomputable def M0:St->St:=keepF [1,4,6] []
noncomputable def S0 (rec:RT Out) (a1:Arg):(List UInt8)->Option Out:=fun v409=>rec (T0 a1 v409)
noncomputable def X0_0 (K:KT Out) (a1:Arg):(List UInt8)->Option Out:=fun z=>K (.exit 0) ({ n:=54,sl:=[(1,.val i64 a1.2.1),(4,.box tPageResult (ownMd tPageResult) [] ((0:Int),(0:Int),([]:List UInt8),())),(6,.own (.slc u8) (ownMd (.slc u8)) [] z)],vr:=[],lent:=[] })
noncomputable def b0 (self:(List UInt8)->Option Out) (e0:(List UInt8)->Option Out) (a1:Arg) (v409:List UInt8):Option Out:=if 0<=(0:Int)/\(0:Int) < (v409.length:Int) then ((v409[0]?).bind fun x610=>bif decide ((0:Int) < (x610.toNat:Int)) then (if 0<=(0:Int)/\(0:Int) < (v409.length:Int) then ((v409[0]?).bind fun x611=>if 0<=w64 ((w64 ((2:Int)*(w64 (x611.toNat:Int))))+(1:Int))/\w64 ((w64 ((2:Int)*(w64 (x611.toNat:Int))))+(1:Int)) < (v409.length:Int) then ((v409[(w64 ((w64 ((2:Int)*(w64 (x611.toNat:Int))))+(1:Int))).toNat]?).bind fun x612=>bif decide ((x612.toNat:Int)=(0:Int)) then (if 0<=(0:Int)/\(0:Int) < (v409.length:Int) then ((v409[0]?).bind fun x613=>if 0<=(0:Int)/\(0:Int) < (v409.length:Int) then ((v409[0]?).bind fun x614=>let y615:=v409.set 0 (UInt8.ofInt ((x613.toNat:Int) - (1:Int)));self y615) else none) else none) else e0 v409) else none) else none) else e0 v409) else none
noncomputable def B0 (k:Nat) (self:(List UInt8)->Option Out) (e0:(List UInt8)->Option Out) (a1:Arg) (v409:List UInt8):Option Out:=b0 self e0 a1 v409
theorem B0_eq (k:Nat) (rec:RT Out) (K:KT Out) (a1:Arg) (v409:List UInt8):N0 k (T0 a1 v409) (loopC rec M0 K)=B0 k (S0 rec a1) (X0_0 K a1) a1 v409:=by kernel_rfl
noncomputable def l0 (k:Nat) (a1:Arg) (e0:(List UInt8)->Option Out) (v:List UInt8):Option Out:=rawIter (fun self v=>B0 k self e0 a1 v) k v
theorem l0_eq (k:Nat) (K:KT Out) (a1:Arg) (v409:List UInt8):iterK (N0 k) M0 K k (T0 a1 v409)=l0 k a1 (X0_0 K a1) v409:=
 iter_raw _ _ K (fun v409=>(T0 a1 v409)) (fun self v=>B0 k self (X0_0 K a1) a1 v) (fun rec v=>B0_eq k rec K a1 v) k v409
noncomputable def q0 (a1:Arg) (z616:(List UInt8)):Option Out:=some (((0:Int),a1.2.1,z616,()),())
noncomputable def Q0 (k:Nat) (a1:Arg) (z616:(List UInt8)):Option Out:=q0 a1 z616
theorem Q0_eq (k:Nat) (a1:Arg) (z616:(List UInt8)):X0_0 (blockC 0 (seqC (codeK E k fin (sub [1,1,1,1,1,1,1] C)) K0)) a1 z616=Q0 k a1 z616:=by kernel_rfl
noncomputable def s0 (k:Nat) (a1:Arg):(List UInt8)->Option Out:=fun v409=>iterK (N0 k) M0 (blockC 0 (seqC (codeK E k fin (sub [1,1,1,1,1,1,1] C)) K0)) k (T0 a1 v409)
noncomputable def r0 (k:Nat) (a1:Arg):(List UInt8)->Option Out:=fun v409=>l0 k a1 (fun z=>Q0 k a1 z) v409
theorem s0_eq (k:Nat) (a1:Arg):s0 k a1=r0 k a1:=by
 funext v409;
 have h0:X0_0 ((blockC 0 (seqC (codeK E k fin (sub [1,1,1,1,1,1,1] C)) K0))) a1=fun z=>Q0 k a1 z:=funext fun z=>Q0_eq k a1 z
 refine (l0_eq k ((blockC 0 (seqC (codeK E k fin (sub [1,1,1,1,1,1,1] C)) K0))) a1 v409).trans ?_
 rw[h0]
 rfl
noncomputable def p (l0:(List UInt8)->Option Out) (a1:Arg):Option Out:=(impl_PageFault.sem (a1.1,())).bind fun r2=>bif !decide (r2.1=(0:Int)) then (some ((r2.1,(0:Int),([]:List UInt8),()),())) else (impl_hasSlot.sem (a1.1,a1.2.1,())).bind fun r3=>bif !r3.1 then (some (((4:Int),(0:Int),([]:List UInt8),()),())) else (impl_copied.sem (a1.1,())).bind fun r4=>if 0<=w64 ((2:Int)+(w64 ((2:Int)*a1.2.1)))/\w64 ((2:Int)+(w64 ((2:Int)*a1.2.1))) < (r4.1.length:Int) then ((r4.1[(w64 ((2:Int)+(w64 ((2:Int)*a1.2.1)))).toNat]?).bind fun x5=>let y6:=r4.1.set (w64 ((2:Int)+(w64 ((2:Int)*a1.2.1)))).toNat (0:UInt8);if 0<=w64 ((3:Int)+(w64 ((2:Int)*a1.2.1)))/\w64 ((3:Int)+(w64 ((2:Int)*a1.2.1))) < (y6.length:Int) then ((y6[(w64 ((3:Int)+(w64 ((2:Int)*a1.2.1)))).toNat]?).bind fun x7=>let y8:=y6.set (w64 ((3:Int)+(w64 ((2:Int)*a1.2.1)))).toNat (0:UInt8);l0 y8) else none) else none
noncomputable def raw (k:Nat) (a1:Arg):Option Out:=p (r0 k a1) a1
theorem p_eq (k:Nat) (a1:Arg):W k a1=p (s0 k a1) a1:=by kernel_rfl
theorem raw_eq (k:Nat) (a1:Arg):W k a1=raw k a1:=(p_eq k a1).trans (by rw[s0_eq];rfl)
theorem ok:Ok prog 226 sig:=fn_ok func226 (tl:=tl) (gl:=gl) (es:=[]) (fr:=[]) rfl rfl (by kernel_rfl) (fc impl_PageFault.ok (fc impl_hasSlot.ok (fc impl_copied.ok (fn_nil _)))) (fun _=>rfl)
end impl_DropSlot
namespace impl_desk_drop
abbrev Arg:Type:=L7Work×Int×Int×Unit
abbrev Out:Type:=L7Work×Unit
noncomputable def ps:PQ:=[(.mutp (ownMd tL7Work),tL7Work),(.ro,i64),(.ro,i64)]
noncomputable def rs:RQ:=[]
noncomputable def tl:TL:=[(22,(.slc (.slc u8))),(46,(.slc u8)),(203,tL7Work),(299,tPageResult)]
noncomputable def gl:GL:=[(220,impl_desk_edit.sig),(226,impl_DropSlot.sig)]
noncomputable def E:Env:={ TI:=lookN tl,G:=lookN gl }
noncomputable def W (k:Nat) (a:Arg):Option Out:=bodyK E k f145 ps rs [0] [] a
noncomputable def sem (a:Arg):Option Out:=lift fun k=>W k a
noncomputable def sig:Sig:={ ps:=ps,rs:=rs,F:=sem }
noncomputable def p (a1:Arg):Option Out:=if 0<=a1.2.1/\a1.2.1 < (a1.1.1.length:Int) then ((a1.1.1[a1.2.1.toNat]?).bind fun x2=>(a1.1.1[a1.2.1.toNat]?).bind fun x3=>(impl_DropSlot.sem (x3,a1.2.2.1,())).bind fun r4=>(impl_desk_edit.sem (a1.1,a1.2.1,r4.1.2.2.1,())).bind fun r5=>some (r5.1,())) else none
noncomputable def raw (k:Nat) (a1:Arg):Option Out:=p a1
theorem raw_eq (k:Nat) (a1:Arg):W k a1=raw k a1:=by kernel_rfl
theorem ok:Ok prog 145 sig:=fn_ok func145 (tl:=tl) (gl:=gl) (es:=[0]) (fr:=[]) rfl rfl (by kernel_rfl) (fc impl_desk_edit.ok (fc impl_DropSlot.ok (fn_nil _))) (fun _=>rfl)
end impl_desk_drop
namespace impl_desk_update
abbrev Arg:Type:=L7Work×Seen×Row×Unit
abbrev Out:Type:=Bool×L7Work×Unit
noncomputable def ps:PQ:=[(.mutp (ownMd tL7Work),tL7Work),(.ro,tSeen),(.ro,tRow)]
noncomputable def rs:RQ:=[(.bool,(roMd .bool))]
noncomputable def tl:TL:=[(3,i64),(4,.bool),(32,tRow),(114,tSeen)]
noncomputable def gl:GL:=[(136,impl_desk_place.sig),(137,impl_cell.sig),(143,impl_desk_turn.sig),(144,impl_stub.sig),(145,impl_desk_drop.sig)]
noncomputable def E:Env:={ TI:=lookN tl,G:=lookN gl,od:=[(6,[0,1,2,3,4,5,6,7,8]),(8,[0,1,3,4,2,5,6,7,8,9,10,11,12]),(11,[0,1,2,3,4,5,6,7,8])] }
noncomputable def W (k:Nat) (a:Arg):Option Out:=bodyK E k f72 ps rs [0] [] a
noncomputable def sem (a:Arg):Option Out:=lift fun k=>W k a
noncomputable def sig:Sig:={ ps:=ps,rs:=rs,F:=sem }
noncomputable def p (a1:Arg):Option Out:=bif (Ty.eq tRow a1.2.1.1 a1.2.2.1) then (some (true,a1.1,())) else let j10:=fun (p9:Int)=>((impl_cell.sem (p9,a1.2.2.1,())).bind fun r11=>(impl_desk_turn.sem (a1.1,a1.2.1.2.2.2.2.1,a1.2.1.2.2.2.2.2.1,r11.1,())).bind fun r12=>bif r12.1 then (some (true,r12.2.1,())) else (impl_cell.sem ((2:Int),a1.2.2.1,())).bind fun r13=>(impl_desk_place.sem (r12.2.1,r13.1,a1.2.1.2.2.2.2.1,())).bind fun r14=>bif !r14.2.2.1 then (some (false,r14.2.2.2.1,())) else (impl_stub.sem (r14.1,r14.2.1,())).bind fun r15=>(impl_desk_turn.sem (r14.2.2.2.1,a1.2.1.2.1,a1.2.1.2.2.1,r15.1,())).bind fun r16=>bif a1.2.1.2.2.2.1 then ((impl_desk_drop.sem (r16.2.1,a1.2.1.2.2.2.2.1,a1.2.1.2.2.2.2.2.1,())).bind fun r17=>some (true,r17.1,())) else some (true,r16.2.1,()):Option Out);bif a1.2.1.2.2.2.1 then (j10 (2:Int)) else j10 (0:Int)
noncomputable def raw (k:Nat) (a1:Arg):Option Out:=p a1
theorem raw_eq (k:Nat) (a1:Arg):W k a1=raw k a1:=by kernel_rfl
theorem ok:Ok prog 72 sig:=fn_ok func72 (tl:=tl) (gl:=gl) (es:=[0]) (fr:=[]) rfl rfl (by kernel_rfl) (fc impl_desk_place.ok (fc impl_cell.ok (fc impl_desk_turn.ok (fc impl_stub.ok (fc impl_desk_drop.ok (fn_nil _)))))) (fun _=>rfl)
end impl_desk_update
namespace impl_UpdateEdits
abbrev Arg:Type:=(List (List UInt8))×Row×Unit
abbrev Out:Type:=EditsResult×Unit
noncomputable def ps:PQ:=[(.ro,(.slc (.slc u8))),(.ro,tRow)]
noncomputable def rs:RQ:=[(tEditsResult,(ownMd tEditsResult))]
noncomputable def tl:TL:=[(2,i64),(29,tEditsResult),(32,tRow),(114,tSeen)]
noncomputable def gl:GL:=[(59,impl_view.sig),(60,impl_RowFault.sig),(61,impl_find.sig),(62,impl_deskOf.sig),(63,impl_desk_done.sig),(72,impl_desk_update.sig)]
noncomputable def E:Env:={ TI:=lookN tl,G:=lookN gl }
noncomputable def W (k:Nat) (a:Arg):Option Out:=bodyK E k f23 ps rs [] [] a
noncomputable def sem (a:Arg):Option Out:=lift fun k=>W k a
noncomputable def sig:Sig:={ ps:=ps,rs:=rs,F:=sem }
noncomputable def p (a1:Arg):Option Out:=(impl_view.sem (a1.1,())).bind fun r2=>let j9:=fun (p8:Int)=>(bif !decide (p8=(0:Int)) then (some ((p8,([]:List Edit),([]:List (List UInt8)),()),())) else (impl_find.sem (r2.1,a1.2.1.1,a1.2.1.2.1,())).bind fun r10=>bif !r10.2.1 then (some (((4:Int),([]:List Edit),([]:List (List UInt8)),()),())) else (impl_deskOf.sem (a1.1,())).bind fun r11=>(impl_desk_update.sem (r11.1,r10.1,a1.2.1,())).bind fun r12=>(impl_desk_done.sem (r12.2.1,r12.1,())).bind fun r13=>some (r13.1,()):Option Out);bif decide (r2.2.1=(0:Int)) then ((impl_RowFault.sem (a1.2.1,())).bind fun r3=>j9 r3.1) else j9 r2.2.1
noncomputable def raw (k:Nat) (a1:Arg):Option Out:=p a1
theorem raw_eq (k:Nat) (a1:Arg):W k a1=raw k a1:=by kernel_rfl
theorem ok:Ok prog 23 sig:=fn_ok func23 (tl:=tl) (gl:=gl) (es:=[]) (fr:=[]) rfl rfl (by kernel_rfl) (fc impl_view.ok (fc impl_RowFault.ok (fc impl_find.ok (fc impl_deskOf.ok (fc impl_desk_done.ok (fc impl_desk_update.ok (fn_nil _))))))) (fun _=>rfl)
end impl_UpdateEdits
namespace laws_FnExactUpdateEdits
abbrev Arg:Type:=(List (List UInt8))×Row×Unit
abbrev Out:Type:=Bool×Unit
noncomputable def ps:PQ:=[(.ro,(.slc (.slc u8))),(.ro,tRow)]
noncomputable def rs:RQ:=[(.bool,(roMd .bool))]
noncomputable def tl:TL:=[(24,tRow),(29,tEditsResult)]
noncomputable def gl:GL:=[(11,laws_szByteSS.sig),(12,laws_szRow.sig),(14,laws_toByteSS.sig),(15,laws_toRow.sig),(17,laws_eqEditsResult.sig),(18,laws_eqByteSS.sig),(19,laws_markByteSS.sig),(20,laws_markEditsResult.sig),(21,laws_heldEditsResult.sig),(22,spec_UpdateEdits.sig),(23,impl_UpdateEdits.sig)]
noncomputable def E:Env:={ TI:=lookN tl,G:=lookN gl,od:=[(8,[0,2,1,3,4,5,6]),(27,[0,2,1,3,4,5,6])],ar:=[(8,[2]),(27,[2])],bx:=[(8,[3])],pd:=[(8,[5]),(27,[5])] }
noncomputable def W (k:Nat) (a:Arg):Option Out:=bodyK E k f4 ps rs [] [] a
noncomputable def sem (a:Arg):Option Out:=lift fun k=>W k a
noncomputable def sig:Sig:={ ps:=ps,rs:=rs,F:=sem }
noncomputable def p (a1:Arg):Option Out:=(laws_szByteSS.sem (a1.1,(1048576:Int),())).bind fun r2=>bif decide (r2.1 < (0:Int)) then (some (true,())) else (laws_szRow.sem (a1.2.1,r2.1,())).bind fun r3=>bif decide (r3.1 < (0:Int)) then (some (true,())) else (laws_toByteSS.sem (a1.1,())).bind fun r4=>(laws_toRow.sem (a1.2.1,())).bind fun r5=>(spec_UpdateEdits.sem (r4.1,r5.1,())).bind fun r6=>(laws_toByteSS.sem (a1.1,())).bind fun r7=>(laws_toRow.sem (a1.2.1,())).bind fun r8=>(impl_UpdateEdits.sem (r7.1,r8.1,())).bind fun r9=>(laws_eqEditsResult.sem (r9.1,r6.1,())).bind fun r10=>bif !r10.1 then (some (false,())) else (laws_toByteSS.sem (a1.1,())).bind fun r11=>(laws_eqByteSS.sem (r7.1,r11.1,())).bind fun r12=>bif !r12.1 then (some (false,())) else (laws_markByteSS.sem (r7.1,(1:Int),())).bind fun r13=>bif decide (r13.1 < (0:Int)) then (some (false,())) else (laws_eqEditsResult.sem (r9.1,r6.1,())).bind fun r14=>bif !r14.1 then (some (false,())) else (laws_markEditsResult.sem (r9.1,(1:Int),())).bind fun r15=>(laws_heldEditsResult.sem (r15.2.1,(1:Int),())).bind fun r16=>bif decide (r16.1 < (0:Int)) then (some (false,())) else bif !decide (r16.1=r15.1) then (some (false,())) else (laws_toByteSS.sem (a1.1,())).bind fun r17=>(laws_toRow.sem (a1.2.1,())).bind fun r18=>(impl_UpdateEdits.sem (r17.1,r18.1,())).bind fun r19=>(laws_eqEditsResult.sem (r19.1,r6.1,())).bind fun r20=>bif !r20.1 then (some (false,())) else (laws_heldEditsResult.sem (r15.2.1,(1:Int),())).bind fun r21=>bif decide (r21.1 < (0:Int)) then (some (false,())) else bif !decide (r21.1=r15.1) then (some (false,())) else some (true,())
noncomputable def raw (k:Nat) (a1:Arg):Option Out:=p a1
theorem raw_eq (k:Nat) (a1:Arg):W k a1=raw k a1:=by kernel_rfl
theorem ok:Ok prog 4 sig:=fn_ok func4 (tl:=tl) (gl:=gl) (es:=[]) (fr:=[]) rfl rfl (by kernel_rfl) (fc laws_szByteSS.ok (fc laws_szRow.ok (fc laws_toByteSS.ok (fc laws_toRow.ok (fc laws_eqEditsResult.ok (fc laws_eqByteSS.ok (fc laws_markByteSS.ok (fc laws_markEditsResult.ok (fc laws_heldEditsResult.ok (fc spec_UpdateEdits.ok (fc impl_UpdateEdits.ok (fn_nil _)))))))))))) (fun _=>rfl)
end laws_FnExactUpdateEdits
end OT
set_option linter.unusedVariables false
set_option linter.unusedSimpArgs false
namespace OT
open Go
theorem szByteS_eq (x:List UInt8) (n:Int) (hx:okD (.slc u8) x) (h0:0<=n) (h1:n<=1048576):laws_szByteS.sem (x,n,())=some (lft n (zz (.slc u8) x),()):=by
 obtain ⟨hl,hel⟩:=hx
 have hl':=hl
 rw[maxLen_val] at hl'
 have hl':List.length x<=9223372036854775807:=hl'
 have hw:w64 (n - (List.length x:Int))=n - (List.length x:Int):=w64_in (by omega)
 have hz:zz (.slc u8) x=List.length x+0:=by show List.length x+sumW _ _=_;exact congrArg (List.length x+·) (sumW_zero _ (fun _=>rfl) x)
 refine lift_eq (k:=0) fun k _=>(laws_szByteS.raw_eq k _).trans ?_
 show laws_szByteS.p _=_
 unfold laws_szByteS.p
 simp only[hw,hz,Nat.add_zero]
 by_cases hc:(List.length x:Int)<=n
 ·have e1:lft n (List.length x)=n - (List.length x:Int):=if_pos hc
  have n1:¬ (n - (List.length x:Int) < 0):=by omega
  simp[e1,n1]
 ·have e1:lft n (List.length x)=-1:=if_neg hc
  have n1:n - (List.length x:Int) < 0:=by omega
  simp[e1,n1]
theorem szByteSS_eq (x:List (List UInt8)) (n:Int) (hx:okD (.slc (.slc u8)) x) (h0:0<=n) (h1:n<=1048576):laws_szByteSS.sem (x,n,())=some (lft n (zz (.slc (.slc u8)) x),()):=by
 obtain ⟨hl,hel⟩:=hx
 have hl':=hl
 rw[maxLen_val] at hl'
 have hl':List.length x<=9223372036854775807:=hl'
 have hw:w64 (n - (List.length x:Int))=n - (List.length x:Int):=w64_in (by omega)
 have hz:zz (.slc (.slc u8)) x=List.length x+sumW (zz (.slc u8)) x:=rfl
 by_cases hc:n - (List.length x:Int) < 0
 ·have e1:lft n (zz (.slc (.slc u8)) x)=-1:=if_neg (by omega)
  rw[e1]
  refine lift_eq (k:=0) fun k _=>(laws_szByteSS.raw_eq k _).trans ?_
  unfold laws_szByteSS.raw laws_szByteSS.p
  simp only[hw,hc,decide_true,cond_true]
  try rfl
 ·have e1:lft n (zz (.slc (.slc u8)) x)=lft (n - (List.length x:Int)) (sumW (zz (.slc u8)) x):=by rw[hz,lft_add (by omega)]
  rw[e1]
  refine lift_eq (k:=List.length x+1) fun k hk=>(laws_szByteSS.raw_eq k _).trans ?_
  unfold laws_szByteSS.raw laws_szByteSS.p
  simp only[hw,hc,decide_false,cond_false]
  exact sz_loop (B:=fun self v=>laws_szByteSS.B0 0 self (fun z=>laws_szByteSS.Q0 0 (x,n,()) z) (x,n,()) v) (xs:=x) hl (zz (.slc u8)) (fun i hi m self hm0 hm1=>by
    show laws_szByteSS.b0 _ _ _ _=_
    unfold laws_szByteSS.b0
    have hlt:(i:Int) < (List.length x:Int):=by omega
    simp only[hlt,decide_true,cond_true,Int.natCast_nonneg,if_true,Int.toNat_natCast,List.getElem?_eq_getElem hi,Option.bind_some,szByteS_eq x[i] m (hel _ (List.getElem_mem hi)) hm0 hm1]
    by_cases hs:lft m (zz (.slc u8) x[i]) < 0 <;> simp[hs]) (fun m self=>by
    show laws_szByteSS.b0 _ _ _ _=_
    unfold laws_szByteSS.b0
    simp[laws_szByteSS.Q0,laws_szByteSS.q0]) _ (by omega) (by omega) k (by omega)
theorem szRow_eq (x:Row) (n:Int) (hx:okD tRow x) (h0:0<=n) (h1:n<=1048576):laws_szRow.sem (x,n,())=some (lft n (zz tRow x),()):=by
 have hz:zz tRow x=(0+(0+(0+(List.length x.2.2.2.1+0)))):=rfl
 refine lift_eq (k:=0) fun k _=>(laws_szRow.raw_eq k _).trans ?_
 show laws_szRow.p _=_
 unfold laws_szRow.p
 have hw:w64 (n - (List.length x.2.2.2.1:Int))=n - (List.length x.2.2.2.1:Int):=w64_in (by have h9:=hx.2.2.2.1;simp only[okD] at h9;rw[maxLen_val] at h9;omega)
 simp only[hw]
 by_cases hc:((List.length x.2.2.2.1:Nat):Int)<=n
 rotate_left
 ·have n1:n - ((List.length x.2.2.2.1:Nat):Int) < 0:=by omega
  have e2:lft n (zz tRow x)=-1:=if_neg (by omega)
  rw[e2];simp only[n1,decide_true,cond_true]
 have n1:¬ (n - ((List.length x.2.2.2.1:Nat):Int) < 0):=by omega
 simp only[n1,decide_false,cond_false]
 clear n1 hw
 have e2:lft n (zz tRow x)=(n - ((List.length x.2.2.2.1:Nat):Int)):=by unfold lft;rw[if_pos (by omega)];omega
 rw[e2]
theorem toByteS_eq (x:List UInt8) (h:zz (.slc u8) x<=1048576):laws_toByteS.sem (x,())=some (x,()):=by
 have hl:x.length<=1048576:=Nat.le_trans (zz_len (e:=u8) x) h
 refine lift_eq (k:=x.length+1) fun k hk=>(laws_toByteS.raw_eq k _).trans ?_
 unfold laws_toByteS.raw laws_toByteS.p
 have hc:0<=(x.length:Int)/\(x.length:Int)<=(x.length:Int)/\(x.length:Int)<=(CAP:Int):=by simp only[CAP];omega
 simp only[hc,and_self,if_true,Int.toNat_natCast]
 exact copy_loop (B:=fun self v=>laws_toByteS.B0 k self (fun z=>laws_toByteS.Q0 k (x,()) z) (x,()) v) (xs:=x) (by rw[maxLen_val];omega) (fun i hi acc self ha=>by
  show laws_toByteS.b0 _ _ _ _=_
  unfold laws_toByteS.b0
  have hlt:(i:Int) < (x.length:Int):=by omega
  have hlt2:(i:Int) < (acc.length:Int):=by omega
  simp only[hlt,hlt2,decide_true,cond_true,Int.natCast_nonneg,and_self,if_true,Int.toNat_natCast,List.getElem?_eq_getElem hi,List.getElem?_eq_getElem (show i < acc.length by omega),Option.bind_some]) (fun acc self=>by
  show laws_toByteS.b0 _ _ _ _=_
  unfold laws_toByteS.b0
  simp[laws_toByteS.Q0,laws_toByteS.q0]) _ k (by omega)
theorem toByteSS_eq (x:List (List UInt8)) (h:zz (.slc (.slc u8)) x<=1048576):laws_toByteSS.sem (x,())=some (x,()):=by
 have hl:x.length<=1048576:=Nat.le_trans (zz_len (e:=(.slc u8)) x) h
 refine lift_eq (k:=x.length+1) fun k hk=>(laws_toByteSS.raw_eq k _).trans ?_
 unfold laws_toByteSS.raw laws_toByteSS.p
 have hc:0<=(x.length:Int)/\(x.length:Int)<=(x.length:Int)/\(x.length:Int)<=(CAP:Int):=by simp only[CAP];omega
 simp only[hc,and_self,if_true,Int.toNat_natCast]
 exact copy_loop (B:=fun self v=>laws_toByteSS.B0 k self (fun z=>laws_toByteSS.Q0 k (x,()) z) (x,()) v) (xs:=x) (by rw[maxLen_val];omega) (fun i hi acc self ha=>by
  show laws_toByteSS.b0 _ _ _ _=_
  unfold laws_toByteSS.b0
  have hlt:(i:Int) < (x.length:Int):=by omega
  have hlt2:(i:Int) < (acc.length:Int):=by omega
  simp only[hlt,hlt2,decide_true,cond_true,Int.natCast_nonneg,and_self,if_true,Int.toNat_natCast,List.getElem?_eq_getElem hi,List.getElem?_eq_getElem (show i < acc.length by omega),Option.bind_some,toByteS_eq x[i] (by have:=zz_mem (e:=(.slc u8)) (List.getElem_mem hi);omega)]) (fun acc self=>by
  show laws_toByteSS.b0 _ _ _ _=_
  unfold laws_toByteSS.b0
  simp[laws_toByteSS.Q0,laws_toByteSS.q0]) _ k (by omega)
theorem toRow_eq (x:Row) (h:zz tRow x<=1048576):laws_toRow.sem (x,())=some (x,()):=by
 have hz:zz tRow x=(0+(0+(0+(List.length x.2.2.2.1+0)))):=rfl
 refine lift_eq (k:=0) fun k _=>(laws_toRow.raw_eq k _).trans ?_
 show laws_toRow.p _=_
 unfold laws_toRow.p
 rfl
theorem eqByteS_self (x:List UInt8) (h:zz (.slc u8) x<=4611686018427387904):laws_eqByteS.sem (x,x,())=some (true,()):=by
 have hl:x.length<=4611686018427387904:=Nat.le_trans (zz_len (e:=u8) x) h
 refine lift_eq (k:=x.length+1) fun k hk=>(laws_eqByteS.raw_eq k _).trans ?_
 unfold laws_eqByteS.raw laws_eqByteS.p
 simp only[decide_true,Bool.not_true,cond_false]
 have:=all_loop (B:=fun self v=>laws_eqByteS.B0 k self (fun z=>laws_eqByteS.Q0 k (x,x,()) z) (x,x,()) v) (xs:=x) (ys:=x) (fun _ _=>true) rfl (by rw[maxLen_val];omega) (fun i hi hj self=>by
   show laws_eqByteS.b0 _ _ _ _=_
   unfold laws_eqByteS.b0
   have hlt:(i:Int) < (x.length:Int):=by omega
   simp only[hlt,decide_true,cond_true,Int.natCast_nonneg,if_true,Int.toNat_natCast,List.getElem?_eq_getElem hi,Option.bind_some,Bool.not_true,cond_false]) (fun self=>by
   show laws_eqByteS.b0 _ _ _ _=_
   unfold laws_eqByteS.b0
   simp[laws_eqByteS.Q0,laws_eqByteS.q0]) k (by omega)
 rw[show allB (fun _ _=>true) x x=true by simp[allB]] at this
 exact this
theorem eqByteSS_self (x:List (List UInt8)) (h:zz (.slc (.slc u8)) x<=4611686018427387904):laws_eqByteSS.sem (x,x,())=some (true,()):=by
 have hl:x.length<=4611686018427387904:=Nat.le_trans (zz_len (e:=(.slc u8)) x) h
 refine lift_eq (k:=x.length+1) fun k hk=>(laws_eqByteSS.raw_eq k _).trans ?_
 unfold laws_eqByteSS.raw laws_eqByteSS.p
 simp only[decide_true,Bool.not_true,cond_false]
 have:=all_loop (B:=fun self v=>laws_eqByteSS.B0 k self (fun z=>laws_eqByteSS.Q0 k (x,x,()) z) (x,x,()) v) (xs:=x) (ys:=x) (fun _ _=>true) rfl (by rw[maxLen_val];omega) (fun i hi hj self=>by
   show laws_eqByteSS.b0 _ _ _ _=_
   unfold laws_eqByteSS.b0
   have hlt:(i:Int) < (x.length:Int):=by omega
   simp only[hlt,decide_true,cond_true,Int.natCast_nonneg,if_true,Int.toNat_natCast,List.getElem?_eq_getElem hi,Option.bind_some,Bool.not_true,cond_false,eqByteS_self x[i] (by have:=zz_mem (e:=(.slc u8)) (List.getElem_mem hi);omega)]) (fun self=>by
   show laws_eqByteSS.b0 _ _ _ _=_
   unfold laws_eqByteSS.b0
   simp[laws_eqByteSS.Q0,laws_eqByteSS.q0]) k (by omega)
 rw[show allB (fun _ _=>true) x x=true by simp[allB]] at this
 exact this
theorem eqEdit_self (x:Edit) (h:zz tEdit x<=4611686018427387904):laws_eqEdit.sem (x,x,())=some (true,()):=by
 have hz:zz tEdit x=(0+(zz (.slc u8) x.2.1+0)):=rfl
 refine lift_eq (k:=0) fun k _=>(laws_eqEdit.raw_eq k _).trans ?_
 show laws_eqEdit.p _=_
 unfold laws_eqEdit.p
 have q0:=eqByteS_self x.2.1 (by omega)
 simp[q0]
theorem eqEditS_self (x:List Edit) (h:zz (.slc tEdit) x<=4611686018427387904):laws_eqEditS.sem (x,x,())=some (true,()):=by
 have hl:x.length<=4611686018427387904:=Nat.le_trans (zz_len (e:=tEdit) x) h
 refine lift_eq (k:=x.length+1) fun k hk=>(laws_eqEditS.raw_eq k _).trans ?_
 unfold laws_eqEditS.raw laws_eqEditS.p
 simp only[decide_true,Bool.not_true,cond_false]
 have:=all_loop (B:=fun self v=>laws_eqEditS.B0 k self (fun z=>laws_eqEditS.Q0 k (x,x,()) z) (x,x,()) v) (xs:=x) (ys:=x) (fun _ _=>true) rfl (by rw[maxLen_val];omega) (fun i hi hj self=>by
   show laws_eqEditS.b0 _ _ _ _=_
   unfold laws_eqEditS.b0
   have hlt:(i:Int) < (x.length:Int):=by omega
   simp only[hlt,decide_true,cond_true,Int.natCast_nonneg,if_true,Int.toNat_natCast,List.getElem?_eq_getElem hi,Option.bind_some,Bool.not_true,cond_false,eqEdit_self x[i] (by have:=zz_mem (e:=tEdit) (List.getElem_mem hi);omega)]) (fun self=>by
   show laws_eqEditS.b0 _ _ _ _=_
   unfold laws_eqEditS.b0
   simp[laws_eqEditS.Q0,laws_eqEditS.q0]) k (by omega)
 rw[show allB (fun _ _=>true) x x=true by simp[allB]] at this
 exact this
theorem eqEditsResult_self (x:EditsResult) (h:zz tEditsResult x<=4611686018427387904):laws_eqEditsResult.sem (x,x,())=some (true,()):=by
 have hz:zz tEditsResult x=(0+(zz (.slc tEdit) x.2.1+(zz (.slc (.slc u8)) x.2.2.1+0))):=rfl
 refine lift_eq (k:=0) fun k _=>(laws_eqEditsResult.raw_eq k _).trans ?_
 show laws_eqEditsResult.p _=_
 unfold laws_eqEditsResult.p
 have q0:=eqEditS_self x.2.1 (by omega)
 have q1:=eqByteSS_self x.2.2.1 (by omega)
 simp[q0,q1]
def KByteS (x:UInt8) (k:Int) (y:UInt8) (k':Int):Prop:=y=(UInt8.ofInt (k))/\k+1=k'
theorem mkByteS (x:List UInt8) (k:Int) (h0:0<=k) (h1:k+32*((zz (.slc u8) x:Nat):Int)<=BIG):∃ (k':Int) (y:List UInt8),laws_markByteS.sem (x,k,())=some (k',y,())/\k<=k'/\k'<=k+32*((zz (.slc u8) x:Nat):Int):=by
 have hB:BIG=4611686018427387904:=rfl
 have hl:List.length x<=zz (.slc u8) x:=zz_len (e:=u8) x
 have hs:sumW (fun x:UInt8=>32*(zz u8 x+1)) x=32*zz (.slc u8) x:=sumW_32 (zz u8) x
 obtain ⟨ys,k',g1,g2,g3,g4,g5⟩:=mark_loop (B:=fun self v=>laws_markByteS.B0 0 self (fun z=>laws_markByteS.Q0 0 (x,k,()) z) (x,k,()) v) (xs:=x) (by rw[maxLen_val];omega) KByteS (fun x:UInt8=>32*(zz u8 x+1)) (fun x hx k h0 h1=>by
   exact ⟨_,_,by omega,by omega,⟨rfl,rfl⟩⟩) (fun i acc k self x y k' hi hx h0 h1 h2 h3 hE=>by
   obtain ⟨rfl,rfl⟩:=hE
   show laws_markByteS.b0 _ _ _ _=_
   unfold laws_markByteS.b0
   have hlt:(i:Int) < (acc.length:Int):=by omega
   simp (disch:=omega) only [hlt,decide_true,cond_true,Int.natCast_nonneg,and_self,if_true,Int.toNat_natCast,hx,Option.bind_some,List.length_set,get_self_set,List.set_set,w64_in]) (fun acc k self=>by
   show laws_markByteS.b0 _ _ _ _=_
   unfold laws_markByteS.b0
   simp[laws_markByteS.Q0,laws_markByteS.q0]) k h0 (by rw[hs];omega)
 refine ⟨k',ys,lift_eq (k:=x.length+1) fun f hf=>(laws_markByteS.raw_eq f _).trans (g5 f (by omega)),g1,by rw[hs] at g2;omega⟩
def KByteSS (x:List UInt8) (k:Int) (y:List UInt8) (k':Int):Prop:=∃ (r1:Int) (y1:List UInt8),laws_markByteS.sem (x,k,())=some (r1,y1,())/\k<=r1/\r1<=k+32*((zz (.slc u8) x:Nat):Int)/\y=y1/\r1=k'
theorem mkByteSS (x:List (List UInt8)) (k:Int) (h0:0<=k) (h1:k+32*((zz (.slc (.slc u8)) x:Nat):Int)<=BIG):∃ (k':Int) (y:List (List UInt8)),laws_markByteSS.sem (x,k,())=some (k',y,())/\k<=k'/\k'<=k+32*((zz (.slc (.slc u8)) x:Nat):Int):=by
 have hB:BIG=4611686018427387904:=rfl
 have hl:List.length x<=zz (.slc (.slc u8)) x:=zz_len (e:=(.slc u8)) x
 have hs:sumW (fun x:List UInt8=>32*(zz (.slc u8) x+1)) x=32*zz (.slc (.slc u8)) x:=sumW_32 (zz (.slc u8)) x
 obtain ⟨ys,k',g1,g2,g3,g4,g5⟩:=mark_loop (B:=fun self v=>laws_markByteSS.B0 0 self (fun z=>laws_markByteSS.Q0 0 (x,k,()) z) (x,k,()) v) (xs:=x) (by rw[maxLen_val];omega) KByteSS (fun x:List UInt8=>32*(zz (.slc u8) x+1)) (fun x hx k h0 h1=>by
   obtain ⟨r1,y1,e1,g1,i1⟩:=mkByteS x (k) (by omega) (by omega)
   exact ⟨_,_,by omega,by omega,⟨r1,y1,e1,g1,i1,rfl,rfl⟩⟩) (fun i acc k self x y k' hi hx h0 h1 h2 h3 hE=>by
   obtain ⟨r1,y1,e1,g1,i1,rfl,rfl⟩:=hE
   show laws_markByteSS.b0 _ _ _ _=_
   unfold laws_markByteSS.b0
   have hlt:(i:Int) < (acc.length:Int):=by omega
   simp (disch:=omega) only [hlt,decide_true,cond_true,Int.natCast_nonneg,and_self,if_true,Int.toNat_natCast,hx,Option.bind_some,List.length_set,get_self_set,List.set_set,w64_in,e1]) (fun acc k self=>by
   show laws_markByteSS.b0 _ _ _ _=_
   unfold laws_markByteSS.b0
   simp[laws_markByteSS.Q0,laws_markByteSS.q0]) k h0 (by rw[hs];omega)
 refine ⟨k',ys,lift_eq (k:=x.length+1) fun f hf=>(laws_markByteSS.raw_eq f _).trans (g5 f (by omega)),g1,by rw[hs] at g2;omega⟩
def EByteS (x:UInt8) (k:Int) (y:UInt8) (k':Int):Prop:=y=(UInt8.ofInt (k))/\k+1=k'
theorem mhByteS (x:List UInt8) (k:Int) (h0:0<=k) (h1:k+32*((zz (.slc u8) x:Nat):Int)<=BIG):∃ (k':Int) (y:List UInt8),laws_markByteS.sem (x,k,())=some (k',y,())/\laws_heldByteS.sem (y,k,())=some (k',())/\k<=k'/\k'<=k+32*((zz (.slc u8) x:Nat):Int):=by
 have hB:BIG=4611686018427387904:=rfl
 have hl:List.length x<=zz (.slc u8) x:=zz_len (e:=u8) x
 have hs:sumW (fun x:UInt8=>32*(zz u8 x+1)) x=32*zz (.slc u8) x:=sumW_32 (zz u8) x
 obtain ⟨ys,k',g1,g2,g3,g4,g5⟩:=mark_loop (B:=fun self v=>laws_markByteS.B0 0 self (fun z=>laws_markByteS.Q0 0 (x,k,()) z) (x,k,()) v) (xs:=x) (by rw[maxLen_val];omega) EByteS (fun x:UInt8=>32*(zz u8 x+1)) (fun x hx k h0 h1=>by
   exact ⟨_,_,by omega,by omega,⟨rfl,rfl⟩⟩) (fun i acc k self x y k' hi hx h0 h1 h2 h3 hE=>by
   obtain ⟨rfl,rfl⟩:=hE
   show laws_markByteS.b0 _ _ _ _=_
   unfold laws_markByteS.b0
   have hlt:(i:Int) < (acc.length:Int):=by omega
   simp (disch:=omega) only [hlt,decide_true,cond_true,Int.natCast_nonneg,and_self,if_true,Int.toNat_natCast,hx,Option.bind_some,List.length_set,get_self_set,List.set_set,w64_in]) (fun acc k self=>by
   show laws_markByteS.b0 _ _ _ _=_
   unfold laws_markByteS.b0
   simp[laws_markByteS.Q0,laws_markByteS.q0]) k h0 (by rw[hs];omega)
 refine ⟨k',ys,lift_eq (k:=x.length+1) fun f hf=>(laws_markByteS.raw_eq f _).trans (g5 f (by omega)),?_,g1,by rw[hs] at g2;omega⟩
 refine lift_eq (k:=ys.length+1) fun f hf=>(laws_heldByteS.raw_eq f _).trans ?_
 exact held_loop (B:=fun self v=>laws_heldByteS.B0 0 self (fun z=>laws_heldByteS.Q0 0 (ys,k,()) z) (ys,k,()) v) (by rw[maxLen_val];omega) g4 (fun i k self x y k' hi hx h0 h1 h2 h3 hE=>by
   obtain ⟨rfl,rfl⟩:=hE
   show laws_heldByteS.b0 _ _ _ _=_
   unfold laws_heldByteS.b0
   have hlt:(i:Int) < (ys.length:Int):=by omega
   simp (disch:=omega) only [hlt,decide_true,cond_true,Int.natCast_nonneg,and_self,if_true,Int.toNat_natCast,hx,Option.bind_some,w64_in,beq_self_eq_true,Bool.not_true,cond_false,decide_false]) (fun k self=>by
   show laws_heldByteS.b0 _ _ _ _=_
   unfold laws_heldByteS.b0
   simp[laws_heldByteS.Q0,laws_heldByteS.q0]) f (by omega)
def EEditS (x:Edit) (k:Int) (y:Edit) (k':Int):Prop:=∃ (r1:Int) (y1:List UInt8),laws_markByteS.sem (x.2.1,k+1,())=some (r1,y1,())/\laws_heldByteS.sem (y1,k+1,())=some (r1,())/\k+1<=r1/\r1<=k+1+32*((zz (.slc u8) x.2.1:Nat):Int)/\y=((k),y1,x.2.2)/\r1=k'
theorem mhEditS (x:List Edit) (k:Int) (h0:0<=k) (h1:k+32*((zz (.slc tEdit) x:Nat):Int)<=BIG):∃ (k':Int) (y:List Edit),laws_markEditS.sem (x,k,())=some (k',y,())/\laws_heldEditS.sem (y,k,())=some (k',())/\k<=k'/\k'<=k+32*((zz (.slc tEdit) x:Nat):Int):=by
 have hB:BIG=4611686018427387904:=rfl
 have hl:List.length x<=zz (.slc tEdit) x:=zz_len (e:=tEdit) x
 have hs:sumW (fun x:Edit=>32*(zz tEdit x+1)) x=32*zz (.slc tEdit) x:=sumW_32 (zz tEdit) x
 obtain ⟨ys,k',g1,g2,g3,g4,g5⟩:=mark_loop (B:=fun self v=>laws_markEditS.B0 0 self (fun z=>laws_markEditS.Q0 0 (x,k,()) z) (x,k,()) v) (xs:=x) (by rw[maxLen_val];omega) EEditS (fun x:Edit=>32*(zz tEdit x+1)) (fun x hx k h0 h1=>by
   have hz:zz tEdit x=(0+(zz (.slc u8) x.2.1+0)):=rfl
   obtain ⟨r1,y1,e1,f1,g1,i1⟩:=mhByteS x.2.1 (k+1) (by omega) (by omega)
   exact ⟨_,_,by omega,by omega,⟨r1,y1,e1,f1,g1,i1,rfl,rfl⟩⟩) (fun i acc k self x y k' hi hx h0 h1 h2 h3 hE=>by
   have hz:zz tEdit x=(0+(zz (.slc u8) x.2.1+0)):=rfl
   obtain ⟨r1,y1,e1,f1,g1,i1,rfl,rfl⟩:=hE
   show laws_markEditS.b0 _ _ _ _=_
   unfold laws_markEditS.b0
   have hlt:(i:Int) < (acc.length:Int):=by omega
   simp (disch:=omega) only [hlt,decide_true,cond_true,Int.natCast_nonneg,and_self,if_true,Int.toNat_natCast,hx,Option.bind_some,List.length_set,get_self_set,List.set_set,w64_in,e1]) (fun acc k self=>by
   show laws_markEditS.b0 _ _ _ _=_
   unfold laws_markEditS.b0
   simp[laws_markEditS.Q0,laws_markEditS.q0]) k h0 (by rw[hs];omega)
 refine ⟨k',ys,lift_eq (k:=x.length+1) fun f hf=>(laws_markEditS.raw_eq f _).trans (g5 f (by omega)),?_,g1,by rw[hs] at g2;omega⟩
 refine lift_eq (k:=ys.length+1) fun f hf=>(laws_heldEditS.raw_eq f _).trans ?_
 exact held_loop (B:=fun self v=>laws_heldEditS.B0 0 self (fun z=>laws_heldEditS.Q0 0 (ys,k,()) z) (ys,k,()) v) (by rw[maxLen_val];omega) g4 (fun i k self x y k' hi hx h0 h1 h2 h3 hE=>by
   have hz:zz tEdit x=(0+(zz (.slc u8) x.2.1+0)):=rfl
   obtain ⟨r1,y1,e1,f1,g1,i1,rfl,rfl⟩:=hE
   show laws_heldEditS.b0 _ _ _ _=_
   unfold laws_heldEditS.b0
   have hlt:(i:Int) < (ys.length:Int):=by omega
   have n1:¬ r1 < 0:=by omega
   simp (disch:=omega) only [hlt,decide_true,cond_true,Int.natCast_nonneg,and_self,if_true,Int.toNat_natCast,hx,Option.bind_some,w64_in,beq_self_eq_true,Bool.not_true,cond_false,decide_false,f1,n1]) (fun k self=>by
   show laws_heldEditS.b0 _ _ _ _=_
   unfold laws_heldEditS.b0
   simp[laws_heldEditS.Q0,laws_heldEditS.q0]) f (by omega)
def EByteSS (x:List UInt8) (k:Int) (y:List UInt8) (k':Int):Prop:=∃ (r1:Int) (y1:List UInt8),laws_markByteS.sem (x,k,())=some (r1,y1,())/\laws_heldByteS.sem (y1,k,())=some (r1,())/\k<=r1/\r1<=k+32*((zz (.slc u8) x:Nat):Int)/\y=y1/\r1=k'
theorem mhByteSS (x:List (List UInt8)) (k:Int) (h0:0<=k) (h1:k+32*((zz (.slc (.slc u8)) x:Nat):Int)<=BIG):∃ (k':Int) (y:List (List UInt8)),laws_markByteSS.sem (x,k,())=some (k',y,())/\laws_heldByteSS.sem (y,k,())=some (k',())/\k<=k'/\k'<=k+32*((zz (.slc (.slc u8)) x:Nat):Int):=by
 have hB:BIG=4611686018427387904:=rfl
 have hl:List.length x<=zz (.slc (.slc u8)) x:=zz_len (e:=(.slc u8)) x
 have hs:sumW (fun x:List UInt8=>32*(zz (.slc u8) x+1)) x=32*zz (.slc (.slc u8)) x:=sumW_32 (zz (.slc u8)) x
 obtain ⟨ys,k',g1,g2,g3,g4,g5⟩:=mark_loop (B:=fun self v=>laws_markByteSS.B0 0 self (fun z=>laws_markByteSS.Q0 0 (x,k,()) z) (x,k,()) v) (xs:=x) (by rw[maxLen_val];omega) EByteSS (fun x:List UInt8=>32*(zz (.slc u8) x+1)) (fun x hx k h0 h1=>by
   obtain ⟨r1,y1,e1,f1,g1,i1⟩:=mhByteS x (k) (by omega) (by omega)
   exact ⟨_,_,by omega,by omega,⟨r1,y1,e1,f1,g1,i1,rfl,rfl⟩⟩) (fun i acc k self x y k' hi hx h0 h1 h2 h3 hE=>by
   obtain ⟨r1,y1,e1,f1,g1,i1,rfl,rfl⟩:=hE
   show laws_markByteSS.b0 _ _ _ _=_
   unfold laws_markByteSS.b0
   have hlt:(i:Int) < (acc.length:Int):=by omega
   simp (disch:=omega) only [hlt,decide_true,cond_true,Int.natCast_nonneg,and_self,if_true,Int.toNat_natCast,hx,Option.bind_some,List.length_set,get_self_set,List.set_set,w64_in,e1]) (fun acc k self=>by
   show laws_markByteSS.b0 _ _ _ _=_
   unfold laws_markByteSS.b0
   simp[laws_markByteSS.Q0,laws_markByteSS.q0]) k h0 (by rw[hs];omega)
 refine ⟨k',ys,lift_eq (k:=x.length+1) fun f hf=>(laws_markByteSS.raw_eq f _).trans (g5 f (by omega)),?_,g1,by rw[hs] at g2;omega⟩
 refine lift_eq (k:=ys.length+1) fun f hf=>(laws_heldByteSS.raw_eq f _).trans ?_
 exact held_loop (B:=fun self v=>laws_heldByteSS.B0 0 self (fun z=>laws_heldByteSS.Q0 0 (ys,k,()) z) (ys,k,()) v) (by rw[maxLen_val];omega) g4 (fun i k self x y k' hi hx h0 h1 h2 h3 hE=>by
   obtain ⟨r1,y1,e1,f1,g1,i1,rfl,rfl⟩:=hE
   show laws_heldByteSS.b0 _ _ _ _=_
   unfold laws_heldByteSS.b0
   have hlt:(i:Int) < (ys.length:Int):=by omega
   have n1:¬ r1 < 0:=by omega
   simp (disch:=omega) only [hlt,decide_true,cond_true,Int.natCast_nonneg,and_self,if_true,Int.toNat_natCast,hx,Option.bind_some,w64_in,beq_self_eq_true,Bool.not_true,cond_false,decide_false,f1,n1]) (fun k self=>by
   show laws_heldByteSS.b0 _ _ _ _=_
   unfold laws_heldByteSS.b0
   simp[laws_heldByteSS.Q0,laws_heldByteSS.q0]) f (by omega)
theorem mhEditsResult (x:EditsResult) (k:Int) (h0:0<=k) (h1:k+32*((zz tEditsResult x:Nat):Int)<=BIG):∃ (k':Int) (y:EditsResult),laws_markEditsResult.sem (x,k,())=some (k',y,())/\laws_heldEditsResult.sem (y,k,())=some (k',())/\k<=k'/\k'<=k+32*((zz tEditsResult x:Nat):Int):=by
 have hB:BIG=4611686018427387904:=rfl
 have hz:zz tEditsResult x=(0+(zz (.slc tEdit) x.2.1+(zz (.slc (.slc u8)) x.2.2.1+0))):=rfl
 obtain ⟨k1,y1,e1,f1,g1,i1⟩:=mhEditS x.2.1 k (by omega) (by omega)
 have n1:¬ k1 < 0:=by omega
 obtain ⟨k2,y2,e2,f2,g2,i2⟩:=mhByteSS x.2.2.1 k1 (by omega) (by omega)
 have n2:¬ k2 < 0:=by omega
 refine ⟨k2,(x.1,y1,y2,x.2.2.2),lift_eq (k:=0) fun f _=>(laws_markEditsResult.raw_eq f _).trans ?_,lift_eq (k:=0) fun f _=>(laws_heldEditsResult.raw_eq f _).trans ?_,by omega,by omega⟩
 ·show laws_markEditsResult.p _=_
  unfold laws_markEditsResult.p
  simp only[e1,e2,Option.bind_some]
 ·show laws_heldEditsResult.p _=_
  unfold laws_heldEditsResult.p
  simp only[f1,f2,n1,n2,Option.bind_some,decide_false,cond_false]
end OT
set_option linter.unusedVariables false
set_option linter.unusedSimpArgs false
namespace OT
open Go
theorem specIn_eq (a b c:Int):spec_l1In.sem (a,b,c,())=some (decide (b<=a)&&decide (a<=c),()):=by
 refine lift_eq (k:=0) fun k _=>(spec_l1In.raw_eq k _).trans ?_
 show spec_l1In.p _=_
 unfold spec_l1In.p
 by_cases h:b<=a <;> simp[h]
theorem implIn_eq (a b c:Int):impl_in.sem (a,b,c,())=some (decide (b<=a)&&decide (a<=c),()):=by
 refine lift_eq (k:=0) fun k _=>(impl_in.raw_eq k _).trans ?_
 show impl_in.p _=_
 unfold impl_in.p
 by_cases h:b<=a <;> simp[h]
def inB (a b c:Int):Bool:=decide (b<=a)&&decide (a<=c)
theorem implCopied_eq (s:List UInt8) (h:s.length<=200000000000):impl_copied.sem (s,())=some (s,()):=by
 refine lift_eq (k:=0) fun k _=>(impl_copied.raw_eq k _).trans ?_
 show impl_copied.p _=_
 unfold impl_copied.p
 have:([]:List UInt8).length+s.length<=CAP:=cap_ok (by simpa using h)
 rw[if_pos this,List.nil_append]
theorem specCopy_eq (s:List UInt8) (h:s.length<=200000000000):spec_l2Copy.sem (s,())=some (s,()):=by
 refine lift_eq (k:=0) fun k _=>(spec_l2Copy.raw_eq k _).trans ?_
 show spec_l2Copy.p _=_
 unfold spec_l2Copy.p
 have:([]:List UInt8).length+s.length<=CAP:=cap_ok (by simpa using h)
 rw[if_pos this,List.nil_append]
theorem forI_fold {S O α:Type} {g:S->α->S} {fin:S->O}:∀ (xs:List α) (i:Nat) (s:S),forI (fun _ s x=>.inr (g s x)) fin i xs s=fin (xs.foldl g s)
 | [],_,_=>rfl
 | x::xs,i,s=>by simp only[forI,List.foldl_cons];exact forI_fold xs _ _
theorem fold_self {α:Type}:∀ (xs s:List α),xs.foldl (fun s x=>s++[x]) s=s++xs
 | [],s=>by simp
 | x::xs,s=>by rw[List.foldl_cons,fold_self];simp
abbrev Pages:Type:=List (List UInt8)
def gp (ps:Pages):Prop:=ps.length<=12/\∀ p ∈ ps,p.length=64
def newF:List UInt8:=((List.replicate 64 (0:UInt8)).set 0 0).set 1 64
theorem implCopies_eq (ps:Pages) (h:gp ps):impl_copies.sem (ps,())=some (ps,()):=by
 obtain ⟨h1,h2⟩:=h
 refine lift_eq (k:=14) fun k hk=>(impl_copies.raw_eq k _).trans ?_
 have:=for_loop (B:=fun self v=>impl_copies.B0 0 self (fun z=>impl_copies.Q0 0 (ps,()) z) (ps,()) v) ps (fun (s:Pages) (i:Int)=>(s,i)) (fun _ s x=>.inr (s++[x])) (fun s=>(s,())) (fun i s=>s.length=i) (by rw[maxLen_val];omega)
  (fun i hi s self hI=>by
   show impl_copies.b0 _ _ _ _=_
   unfold impl_copies.b0
   have hlt:(i:Int) < (ps.length:Int):=by omega
   have hx:=h2 ps[i] (List.getElem_mem hi)
   simp only[hlt,decide_true,cond_true,Int.natCast_nonneg,if_true,Int.toNat_natCast,List.getElem?_eq_getElem hi,Option.bind_some]
   rw[implCopied_eq _ (by omega)]
   have hc:s.length+[ps[i]].length<=CAP:=cap_ok (by simp only[List.length_cons,List.length_nil];omega)
   simp only[Option.bind_some,hc,if_true])
  (fun i hi s s' hI hs=>by injection hs with hs;rw[<-hs];simp[hI]) (fun s self hI=>by
   show impl_copies.b0 _ _ _ _=_
   unfold impl_copies.b0
   simp only[Int.lt_irrefl,decide_false,cond_false]
   rfl) [] rfl k (by omega)
 rw[forI_fold,fold_self] at this
 exact this
theorem specCopies_eq (ps:Pages) (h:gp ps):spec_l7Copy.sem (ps,())=some (ps,()):=by
 obtain ⟨h1,h2⟩:=h
 refine lift_eq (k:=14) fun k hk=>(spec_l7Copy.raw_eq k _).trans ?_
 have:=for_loop (B:=fun self v=>spec_l7Copy.B0 0 self (fun z=>spec_l7Copy.Q0 0 (ps,()) z) (ps,()) v) ps (fun (s:Pages) (i:Int)=>(s,i)) (fun _ s x=>.inr (s++[x])) (fun s=>(s,())) (fun i s=>s.length=i) (by rw[maxLen_val];omega)
  (fun i hi s self hI=>by
   show spec_l7Copy.b0 _ _ _ _=_
   unfold spec_l7Copy.b0
   have hlt:(i:Int) < (ps.length:Int):=by omega
   have hx:=h2 ps[i] (List.getElem_mem hi)
   simp only[hlt,decide_true,cond_true,Int.natCast_nonneg,if_true,Int.toNat_natCast,List.getElem?_eq_getElem hi,Option.bind_some]
   rw[specCopy_eq _ (by omega)]
   have hc:s.length+[ps[i]].length<=CAP:=cap_ok (by simp only[List.length_cons,List.length_nil];omega)
   simp only[Option.bind_some,hc,if_true])
  (fun i hi s s' hI hs=>by injection hs with hs;rw[<-hs];simp[hI]) (fun s self hI=>by
   show spec_l7Copy.b0 _ _ _ _=_
   unfold spec_l7Copy.b0
   simp only[Int.lt_irrefl,decide_false,cond_false]
   rfl) [] rfl k (by omega)
 rw[forI_fold,fold_self] at this
 exact this
end OT
set_option linter.unusedVariables false
set_option linter.unusedSimpArgs false
namespace OT
open Go
def letter (c:UInt8):Bool:=!decide ((c.toNat:Int) < 97)&&!decide ((122:Int) < (c.toNat:Int))
def textB (s:List UInt8):Bool:=s.all letter&&decide (s.length<=8)
def rowF (x:Row):Int:=if inB x.1 0 3&&(inB x.2.1 1 99&&inB x.2.2.1 0 999) then (if textB x.2.2.2.1 then 0 else 5) else 3
theorem len8 (s:List UInt8):decide ((s.length:Int)<=8)=decide (s.length<=8):=by
 by_cases h:s.length<=8
 ·have:(s.length:Int)<=8:=by omega
  simp[h,this]
 ·have:¬ (s.length:Int)<=8:=by omega
  simp[h,this]
theorem specText_eq (s:List UInt8) (h:s.length<=maxLen):spec_l1Text.sem (s,())=some (textB s,()):=by
 refine lift_eq (k:=s.length+1) fun k hk=>(spec_l1Text.raw_eq k _).trans ?_
 have:=for_loop (B:=fun self v=>spec_l1Text.B0 0 self (fun z=>spec_l1Text.Q0 0 (s,()) z) (s,()) v) s (fun (_:Unit) (i:Int)=>i) (fun _ _ x=>if letter x then .inr () else .inl (false,())) (fun _=>(decide (s.length<=8),())) (fun _ _=>True) h
  (fun i hi _ self _=>by
   show spec_l1Text.b0 _ _ _ _=_
   unfold spec_l1Text.b0
   have hlt:(i:Int) < (s.length:Int):=by omega
   simp only[hlt,decide_true,cond_true,Int.natCast_nonneg,if_true,Int.toNat_natCast,List.getElem?_eq_getElem hi,Option.bind_some]
   unfold letter
   by_cases h1:((s[i].toNat:Int) < 97) <;> by_cases h2:((122:Int) < (s[i].toNat:Int)) <;> simp[h1,h2]) (fun _ _ _ _ _ _=>trivial) (fun _ self _=>by
   show spec_l1Text.b0 _ _ _ _=_
   unfold spec_l1Text.b0
   simp[spec_l1Text.Q0,spec_l1Text.q0,len8]) () trivial k (by omega)
 refine this.trans ?_
 rw[forI_check letter (false,()) (fun _=>(decide (s.length<=8),()))]
 unfold textB
 cases s.all letter <;> rfl
theorem specRow_eq (x:Row) (h:List.length x.2.2.2.1<=maxLen):spec_l1Fault.sem (x,())=some (rowF x,()):=by
 refine lift_eq (k:=0) fun k _=>(spec_l1Fault.raw_eq k _).trans ?_
 show spec_l1Fault.p _=_
 unfold spec_l1Fault.p rowF inB
 simp only[specIn_eq,specText_eq _ h,Option.bind_some]
 cases decide ((0:Int)<=x.1) <;> cases decide (x.1<=3) <;> cases decide ((1:Int)<=x.2.1) <;> cases decide (x.2.1<=99) <;> cases decide ((0:Int)<=x.2.2.1) <;> cases decide (x.2.2.1<=999) <;> cases textB x.2.2.2.1 <;> rfl
theorem implRow_eq (x:Row) (h:List.length x.2.2.2.1<=maxLen):impl_RowFault.sem (x,())=some (rowF x,()):=by
 refine lift_eq (k:=List.length x.2.2.2.1+1) fun k hk=>(impl_RowFault.raw_eq k _).trans ?_
 have:=for_loop (B:=fun self v=>impl_RowFault.B0 0 self (fun z=>impl_RowFault.Q0 0 (x,()) z) (x,()) v) x.2.2.2.1 (fun (_:Unit) (i:Int)=>i) (fun _ _ c=>if letter c then .inr () else .inl (5,())) (fun _=>(0,())) (fun _ _=>True) h
  (fun i hi _ self _=>by
   show impl_RowFault.b0 _ _ _ _=_
   unfold impl_RowFault.b0
   have hlt:(i:Int) < (List.length x.2.2.2.1:Int):=by omega
   simp only[hlt,decide_true,cond_true,Int.natCast_nonneg,if_true,Int.toNat_natCast,List.getElem?_eq_getElem hi,Option.bind_some]
   unfold letter
   by_cases h1:(((x.2.2.2.1)[i].toNat:Int) < 97) <;> by_cases h2:((122:Int) < ((x.2.2.2.1)[i].toNat:Int)) <;> simp[h1,h2]) (fun _ _ _ _ _ _=>trivial) (fun _ self _=>by
   show impl_RowFault.b0 _ _ _ _=_
   unfold impl_RowFault.b0
   simp[impl_RowFault.Q0,impl_RowFault.q0]) () trivial k (by omega)
 rw[forI_check letter (5,()) (fun _=>(0,()))] at this
 have this:impl_RowFault.r0 k (x,()) 0=_:=this
 unfold impl_RowFault.raw impl_RowFault.p rowF inB textB
 simp only[implIn_eq,this,Option.bind_some]
 have h8:decide ((8:Int) < (List.length x.2.2.2.1:Int))=!decide (List.length x.2.2.2.1<=8):=by
  by_cases hc:List.length x.2.2.2.1<=8
  ·have:¬ (8:Int) < (List.length x.2.2.2.1:Int):=by omega
   simp[hc,this]
  ·have:(8:Int) < (List.length x.2.2.2.1:Int):=by omega
   simp[hc,this]
 rw[h8]
 cases decide ((0:Int)<=x.1) <;> cases decide (x.1<=3) <;> cases decide ((1:Int)<=x.2.1) <;> cases decide (x.2.1<=99) <;> cases decide ((0:Int)<=x.2.2.1) <;> cases decide (x.2.2.1<=999) <;> cases decide (List.length x.2.2.2.1<=8) <;> cases (x.2.2.2.1).all letter <;> rfl
def rl (x:Row):Prop:=List.length x.2.2.2.1<=maxLen
def cl (c:Change):Prop:=rl c.2.1/\rl c.2.2.2.1
def befB (a b:Int×Int):Bool:=decide (a.1 < b.1)||(decide (a.1=b.1)&&decide (a.2 < b.2))
theorem isBefore_eq (a b:Row):impl_IsBefore.sem (a,b,())=some (befB (a.1,a.2.1) (b.1,b.2.1),()):=by
 refine lift_eq (k:=0) fun k _=>(impl_IsBefore.raw_eq k _).trans ?_
 show impl_IsBefore.p _=_
 unfold impl_IsBefore.p befB
 by_cases h1:a.1 < b.1 <;> by_cases h2:a.1=b.1 <;> simp[h1,h2]
theorem order_eq (a b:Row):impl_order.sem (a,b,())=some (if befB (a.1,a.2.1) (b.1,b.2.1) then -1 else if befB (b.1,b.2.1) (a.1,a.2.1) then 1 else 0,()):=by
 refine lift_eq (k:=0) fun k _=>(impl_order.raw_eq k _).trans ?_
 show impl_order.p _=_
 unfold impl_order.p
 simp only[isBefore_eq,Option.bind_some]
 cases befB (a.1,a.2.1) (b.1,b.2.1) <;> cases befB (b.1,b.2.1) (a.1,a.2.1) <;> rfl
end OT
set_option linter.unusedVariables false
set_option linter.unusedSimpArgs false
namespace OT
open Go
theorem for_loopE {V S O α:Type} {B:(V->Option O)->V->Option O} (xs:List α) (enc:S->Int->V) (f:Nat->S->α->Sum (Option O) S) (fin:S->Option O) (I:Nat->S->Prop) (hmax:xs.length<=maxLen)
  (hin:∀ (i:Nat) (hi:i < xs.length) (s:S) self,I i s->B self (enc s (i:Int))=match f i s xs[i] with | .inl o=>o | .inr s'=>self (enc s' (w64 ((i:Int)+1))))
  (hI:∀ (i:Nat) (hi:i < xs.length) (s s':S),I i s->f i s xs[i]=.inr s'->I (i+1) s')
  (hout:∀ (s:S) self,I xs.length s->B self (enc s (xs.length:Int))=fin s) (s:S) (h0:I 0 s):∀ k,xs.length < k->rawIter B k (enc s 0)=forI f fin 0 xs s:=by
 have main:∀ (m i:Nat) (s:S),xs.length - i=m->i<=xs.length->I i s->∀ k,m < k->rawIter B k (enc s (i:Int))=forI f fin i (xs.drop i) s:=by
  intro m
  induction m with
  | zero=>
   intro i s hm hi hs k hk
   have hi':i=xs.length:=by omega
   subst hi'
   cases k with
   | zero=>omega
   | succ k=>
    show B (rawIter B k) _=_
    rw[hout s _ hs]
    simp[forI]
  | succ m ih=>
   intro i s hm hi hs k hk
   have hlt:i < xs.length:=by omega
   cases k with
   | zero=>omega
   | succ k=>
    show B (rawIter B k) _=_
    rw[hin i hlt s _ hs,List.drop_eq_getElem_cons hlt]
    simp only[forI]
    cases hf:f i s xs[i] with
    | inl o=>rfl
    | inr s'=>
     have hw:w64 ((i:Int)+1)=((i+1:Nat):Int):=by rw[w64_in (by rw[maxLen_val] at hmax;omega)];omega
     simp only[hw]
     exact ih (i+1) s' (by omega) (by omega) (hI i hlt s s' hs hf) k (by omega)
 intro k hk
 simpa using main xs.length 0 s (by omega) (by omega) h0 k hk
theorem forI_any {O α:Type} (p:α->Bool) (a:O) (fin:Unit->O):∀ (xs:List α) (i:Nat),forI (fun _ _ x=>if p x then .inl a else .inr ()) fin i xs ()=if xs.any p then a else fin ()
 | [],_=>rfl
 | x::xs,i=>by
  simp only[forI,List.any_cons]
  by_cases h:p x=true
  ·simp[h]
  ·simp[h,forI_any p a fin xs (i+1)]
def tl (x:Tx):Prop:=List.length x.2.1<=1048576/\List.length x.2.2.1<=1048576/\List.length x.2.2.2.1<=1048576/\∀ c ∈ x.2.1,cl c
end OT
set_option linter.unusedVariables false
set_option linter.unusedSimpArgs false
namespace OT
open Go
def pb (D:List UInt8) (i:Nat):Nat:=(D.getD i 0).toNat
theorem pb_lt (D:List UInt8) (i:Nat):pb D i < 256:=UInt8.toNat_lt _
theorem pb_get {D:List UInt8} {i:Nat} (h:i < D.length):D[i]?=some D[i]/\(D[i]).toNat=pb D i:=⟨List.getElem?_eq_getElem h,by simp[pb,h]⟩
theorem pb_set (D:List UInt8) (i j:Nat) (v:UInt8):pb (D.set i v) j=if i=j/\i < D.length then v.toNat else pb D j:=by
 unfold pb
 simp only[List.getD_eq_getElem?_getD,List.getElem?_set]
 by_cases h:i=j
 ·subst h
  by_cases h2:i < D.length
  ·simp[h2]
  ·simp[h2,List.getElem?_eq_none (Nat.le_of_not_lt h2)]
 ·simp[h]
theorem pb_over {D c:List UInt8} {a:Nat} (h:a+c.length<=D.length) (j:Nat):pb (over D a c.length c) j=if a<=j/\j < a+c.length then pb c (j - a) else pb D j:=by
 unfold pb
 simp only[List.getD_eq_getElem?_getD,over_get D c h (Nat.le_refl _)]
 split <;> rfl
theorem pb_ext {A B:List UInt8} (h:A.length=B.length) (h2:∀ j,j < A.length->pb A j=pb B j):A=B:=by
 refine List.ext_getElem h fun i h1 h3=>?_
 have:=h2 i h1
 rw[<-(pb_get h1).2,<- (pb_get h3).2] at this
 exact UInt8.toNat_inj.1 this
theorem ofNat_toNat {n:Nat} (h:n < 256):(UInt8.ofNat n).toNat=n:=by
 rw[UInt8.toNat_ofNat'];omega
theorem pb_piece (D:List UInt8) (a n j:Nat) (h:j < n):pb ((D.drop a).take n) j=pb D (a+j):=by
 unfold pb
 simp only[List.getD_eq_getElem?_getD,List.getElem?_take,h,if_true,List.getElem?_drop]
def pn (p:List UInt8):Nat:=pb p 0
def plo (p:List UInt8):Nat:=pb p 1
def pat (p:List UInt8) (i:Nat):Nat:=pb p (2+2*i)
def psz (p:List UInt8) (i:Nat):Nat:=pb p (3+2*i)
def slotB (p:List UInt8) (i:Nat):Bool:=if pat p i=0\/psz p i=0 then decide (pat p i=psz p i) else decide (plo p<=pat p i)&&decide (pat p i+psz p i<=64)
def apartP (p:List UInt8) (i k:Nat):Bool:=(decide (psz p i=0)||decide (psz p k=0))||(decide (pat p i+psz p i<=pat p k)||decide (pat p k+psz p k<=pat p i))
def pageF (p:List UInt8):Int:=
 if p.length=64 then
  if pn p<=16/\2+2*pn p<=plo p/\plo p<=64 then
   if (List.range (pn p)).all (slotB p) then
    if (List.range (pn p)).all (fun i=>(List.range i).all (apartP p i)) then
     if 0 < pn p/\psz p (pn p - 1)=0 then 8 else 0
    else 8
   else 3
  else 3
 else 1
structure PageOk (p:List UInt8):Prop where
 len:p.length=64
 n:pn p<=16
 lo:2+2*pn p<=plo p
 hi:plo p<=64
 slot:∀ i,i < pn p->psz p i≠0->plo p<=pat p i/\pat p i+psz p i<=64
 zero:∀ i,i < pn p->psz p i=0->pat p i=0
 apart:∀ i k,i < pn p->k < pn p->i≠k->psz p i≠0->psz p k≠0->pat p i+psz p i<=pat p k\/pat p k+psz p k<=pat p i
 last:0 < pn p->psz p (pn p - 1)≠0
theorem slotB_iff {p:List UInt8} {i:Nat} (hlo:2<=plo p):slotB p i=true↔(psz p i≠0->plo p<=pat p i/\pat p i+psz p i<=64)/\(psz p i=0->pat p i=0):=by
 unfold slotB
 by_cases h1:psz p i=0
 ·simp[h1]
 ·by_cases h2:pat p i=0
  ·simp[h1,h2]
   omega
  ·simp[h1,h2]
theorem apartP_iff {p:List UInt8} {i k:Nat}:apartP p i k=true↔(psz p i≠0->psz p k≠0->pat p i+psz p i<=pat p k\/pat p k+psz p k<=pat p i):=by
 unfold apartP
 by_cases h1:psz p i=0
 ·simp[h1]
 ·by_cases h2:psz p k=0
  ·simp[h2]
  ·simp[h1,h2]
theorem pageF_iff {p:List UInt8}:pageF p=0↔PageOk p:=by
 constructor
 ·intro h
  unfold pageF at h
  split at h
  ·rename_i h1
   split at h
   ·rename_i h2
    split at h
    ·rename_i h3
     split at h
     ·rename_i h4
      split at h
      ·cases h
      ·rename_i h5
       have hs:∀ i,i < pn p->(psz p i≠0->plo p<=pat p i/\pat p i+psz p i<=64)/\(psz p i=0->pat p i=0):=fun i hi=>(slotB_iff (by omega)).1 (List.all_eq_true.1 h3 i (List.mem_range.2 hi))
       have ha:∀ i k,i < pn p->k < i->psz p i≠0->psz p k≠0->pat p i+psz p i<=pat p k\/pat p k+psz p k<=pat p i:=fun i k hi hk=>apartP_iff.1 (List.all_eq_true.1 (List.all_eq_true.1 h4 i (List.mem_range.2 hi)) k (List.mem_range.2 hk))
       refine ⟨h1,h2.1,h2.2.1,h2.2.2,fun i hi=>(hs i hi).1,fun i hi=>(hs i hi).2,fun i k hi hk hik z1 z2=>?_,fun hn hz=>h5 ⟨hn,hz⟩⟩
       rcases Nat.lt_or_gt_of_ne hik with h6 | h6
       ·exact (ha k i hk h6 z2 z1).symm
       ·exact ha i k hi h6 z1 z2
     ·cases h
    ·cases h
   ·cases h
  ·cases h
 ·intro h
  unfold pageF
  rw[if_pos h.len,if_pos ⟨h.n,h.lo,h.hi⟩,if_pos,if_pos,if_neg]
  ·intro ⟨h1,h2⟩
   exact h.last h1 h2
  ·refine List.all_eq_true.2 fun i hi=>List.all_eq_true.2 fun k hk=>apartP_iff.2 ?_
   have:=List.mem_range.1 hi
   have:=List.mem_range.1 hk
   exact h.apart i k (by omega) (by omega) (by omega)
  ·exact List.all_eq_true.2 fun i hi=>(slotB_iff (by have:=h.lo;omega)).2 ⟨h.slot i (List.mem_range.1 hi),h.zero i (List.mem_range.1 hi)⟩
def cellP (p:List UInt8) (i:Nat):List UInt8:=(p.drop (pat p i)).take (psz p i)
def cellOf (p:List UInt8) (i:Nat):List UInt8:=if i < pn p then cellP p i else []
theorem cellP_len {p:List UInt8} (h:PageOk p) {i:Nat} (hi:i < pn p):(cellP p i).length=psz p i:=by
 unfold cellP
 by_cases hz:psz p i=0
 ·simp[hz]
 ·have:=h.slot i hi hz
  have:=h.len
  simp only[List.length_take,List.length_drop]
  omega
theorem cellP_pb (p:List UInt8) (i j:Nat) (h:j < psz p i):pb (cellP p i) j=pb p (pat p i+j):=pb_piece p _ _ j h
theorem cellP_eq {p q:List UInt8} {i k:Nat} (hp:(cellP p i).length=psz p i) (hq:(cellP q k).length=psz q k) (hs:psz p i=psz q k) (hb:∀ j,j < psz p i->pb p (pat p i+j)=pb q (pat q k+j)):cellP p i=cellP q k:=by
 refine pb_ext (by omega) fun j hj=>?_
 rw[cellP_pb p i j (by omega),cellP_pb q k j (by omega)]
 exact hb j (by omega)
theorem cellP_is {p c:List UInt8} {i:Nat} (hp:(cellP p i).length=psz p i) (hs:psz p i=c.length) (hb:∀ j,j < c.length->pb p (pat p i+j)=pb c j):cellP p i=c:=by
 refine pb_ext (by omega) fun j hj=>?_
 rw[cellP_pb p i j (by omega)]
 exact hb j (by omega)
def stand (p:List UInt8) (s a:Nat) (c:List UInt8):List UInt8:=((over p a c.length c).set (2+2*s) (UInt8.ofNat a)).set (3+2*s) (UInt8.ofNat c.length)
theorem stand_len {p:List UInt8} (hp:p.length=64) (s:Nat) {a:Nat} {c:List UInt8} (h:a+c.length<=64):(stand p s a c).length=64:=by
 unfold stand
 rw[List.length_set,List.length_set,over_length _ _ (by omega) (Nat.le_refl _),hp]
theorem stand_pb {p:List UInt8} (hp:p.length=64) {s a:Nat} {c:List UInt8} (h:a+c.length<=64) (hs:s < 16) (j:Nat):pb (stand p s a c) j=if j=3+2*s then c.length else if j=2+2*s then a else if a<=j/\j < a+c.length then pb c (j - a) else pb p j:=by
 unfold stand
 have hl:(over p a c.length c).length=64:=by rw[over_length _ _ (by omega) (Nat.le_refl _),hp]
 rw[pb_set,pb_set,pb_over (by omega),List.length_set,hl]
 by_cases h1:j=3+2*s
 ·subst h1
  rw[if_pos ⟨rfl,by omega⟩,if_pos rfl,ofNat_toNat (by omega)]
 ·rw[if_neg (fun h=>h1 h.1.symm),if_neg h1]
  by_cases h2:j=2+2*s
  ·subst h2
   rw[if_pos ⟨rfl,by omega⟩,if_pos rfl,ofNat_toNat (by omega)]
  ·rw[if_neg (fun h=>h2 h.1.symm),if_neg h2]
structure Turned (p q:List UInt8) (s a m:Nat):Prop where
 len:q.length=64
 n:pn q=pn p\/(pn q=pn p+1/\s=pn p)
 s_lt:s < pn q
 n16:pn q<=16
 lo:2+2*pn q<=plo q
 lo2:plo q<=plo p
 at_:pat q s=a
 sz:psz q s=m
 pos:0 < m
 a_lo:plo q<=a
 a_hi:a+m<=64
 oth:∀ i,i < pn q->i≠s->pat q i=pat p i/\psz q i=psz p i
 free:∀ i,i < pn p->i≠s->psz p i≠0->a+m<=pat p i\/pat p i+psz p i<=a
 same:∀ j,plo p<=j->j < 64->(j < a\/a+m<=j)->pb q j=pb p j
theorem Turned.ok {p q:List UInt8} {s a m:Nat} (t:Turned p q s a m) (h:PageOk p):PageOk q:=by
 have hlt:∀ i,i < pn q->i≠s->i < pn p:=fun i hi hs=>by rcases t.n with h1 | ⟨h1,h2⟩ <;> omega
 have ha:=t.at_
 have hm:=t.sz
 have hpos:=t.pos
 have hlo:=t.a_lo
 have hhi:=t.a_hi
 have hlo2:=t.lo2
 have hh:=h.hi
 refine ⟨t.len,t.n16,t.lo,by omega,fun i hi hz=>?_,fun i hi hz=>?_,fun i k hi hk hik z1 z2=>?_,fun hn=>?_⟩
 ·by_cases hs:i=s
  ·subst hs;omega
  ·obtain ⟨h1,h2⟩:=t.oth i hi hs
   have:=h.slot i (hlt i hi hs) (by omega)
   omega
 ·by_cases hs:i=s
  ·subst hs;omega
  ·obtain ⟨h1,h2⟩:=t.oth i hi hs
   have:=h.zero i (hlt i hi hs) (by omega)
   omega
 ·by_cases hs:i=s
  ·subst hs
   have hks:k≠i:=fun e=>hik e.symm
   obtain ⟨h1,h2⟩:=t.oth k hk hks
   have:=t.free k (hlt k hk hks) hks (by omega)
   omega
  ·obtain ⟨h1,h2⟩:=t.oth i hi hs
   by_cases hs2:k=s
   ·subst hs2
    have:=t.free i (hlt i hi hs) hs (by omega)
    omega
   ·obtain ⟨h3,h4⟩:=t.oth k hk hs2
    have:=h.apart i k (hlt i hi hs) (hlt k hk hs2) hik (by omega) (by omega)
    omega
 ·by_cases hs:pn q - 1=s
  ·rw[hs];omega
  ·obtain ⟨h1,h2⟩:=t.oth (pn q - 1) (by omega) hs
   have hq:pn q=pn p:=by
    rcases t.n with h3 | ⟨h3,h4⟩
    ·exact h3
    ·omega
   rw[h2,hq]
   exact h.last (by omega)
theorem Turned.cell_other {p q:List UInt8} {s a m:Nat} (t:Turned p q s a m) (h:PageOk p) {i:Nat} (hi:i < pn q) (hs:i≠s):cellP q i=cellP p i:=by
 have hip:i < pn p:=by rcases t.n with h1 | ⟨h1,h2⟩ <;> omega
 obtain ⟨h1,h2⟩:=t.oth i hi hs
 refine cellP_eq (cellP_len (t.ok h) hi) (cellP_len h hip) h2 fun j hj=>?_
 have hz:psz p i≠0:=by omega
 have h3:=h.slot i hip hz
 have h4:=t.free i hip hs hz
 rw[h1]
 exact t.same _ (by omega) (by omega) (by omega)
theorem Turned.cell_this {p q:List UInt8} {s a:Nat} {c:List UInt8} (t:Turned p q s a c.length) (h:PageOk p) (hc:∀ j,j < c.length->pb q (a+j)=pb c j):cellP q s=c:=
 cellP_is (cellP_len (t.ok h) t.s_lt) t.sz fun j hj=>by rw[t.at_];exact hc j hj
theorem Turned.cells {p q:List UInt8} {s a:Nat} {c:List UInt8} (t:Turned p q s a c.length) (h:PageOk p) (hc:∀ j,j < c.length->pb q (a+j)=pb c j) (i:Nat):cellOf q i=if i=s then c else cellOf p i:=by
 have hs:=t.s_lt
 unfold cellOf
 by_cases his:i=s
 ·subst his
  rw[if_pos hs,if_pos rfl,t.cell_this h hc]
 ·rw[if_neg his]
  by_cases hi:i < pn q
  ·have hip:i < pn p:=by rcases t.n with h1 | ⟨h1,h2⟩ <;> omega
   rw[if_pos hi,if_pos hip,t.cell_other h hi his]
  ·have hip:¬ i < pn p:=by rcases t.n with h1 | ⟨h1,h2⟩ <;> omega
   rw[if_neg hi,if_neg hip]
theorem cellOf_nil {p:List UInt8} (h:PageOk p) {i:Nat} (hi:i < pn p):cellOf p i=[]↔psz p i=0:=by
 unfold cellOf
 rw[if_pos hi]
 have:=cellP_len h hi
 constructor
 ·intro e;rw[e] at this;simpa using this.symm
 ·intro e;rw[e] at this;exact List.eq_nil_of_length_eq_zero this
end OT
set_option linter.unusedVariables false
set_option linter.unusedSimpArgs false
namespace OT
open Go
def emptyG (p:List UInt8):Nat->Nat->Nat
 | 0,i=>i
 | m+1,i=>if psz p i=0 then i else emptyG p m (i+1)
def emptyF (p:List UInt8):Nat:=emptyG p (pn p) 0
theorem emptyG_spec (p:List UInt8):∀ (m i:Nat),i<=emptyG p m i/\emptyG p m i<=i+m/\(∀ j,i<=j->j < emptyG p m i->psz p j≠0)/\(emptyG p m i < i+m->psz p (emptyG p m i)=0)
 | 0,i=>by simp only[emptyG];exact ⟨by omega,by omega,fun j h1 h2=>by omega,fun h=>by omega⟩
 | m+1,i=>by
  simp only[emptyG]
  split
  ·rename_i h
   exact ⟨by omega,by omega,fun j h1 h2=>by omega,fun _=>h⟩
  ·rename_i h
   obtain ⟨h1,h2,h3,h4⟩:=emptyG_spec p m (i+1)
   refine ⟨by omega,by omega,fun j g1 g2=>?_,fun g=>h4 (by omega)⟩
   by_cases hj:j=i
   ·subst hj;exact h
   ·exact h3 j (by omega) g2
theorem emptyF_spec (p:List UInt8):emptyF p<=pn p/\(∀ j,j < emptyF p->psz p j≠0)/\(emptyF p < pn p->psz p (emptyF p)=0):=by
 obtain ⟨h1,h2,h3,h4⟩:=emptyG_spec p (pn p) 0
 exact ⟨by unfold emptyF;omega,fun j hj=>h3 j (by omega) hj,fun h=>h4 (by unfold emptyF at h;omega)⟩
def sumZ (p:List UInt8):Nat->Nat
 | 0=>0
 | m+1=>sumZ p m+psz p m
def freeF (p:List UInt8):Int:=62 - 2*(pn p:Int) - (sumZ p (pn p):Int)
theorem sumZ_mono (p:List UInt8) {a b:Nat} (h:a<=b):sumZ p a<=sumZ p b:=by
 induction b with
 | zero =>have:a=0:=by omega
          subst this;exact Nat.le_refl _
 | succ b ih=>
  by_cases hb:a=b+1
  ·subst hb;exact Nat.le_refl _
  ·have:=ih (by omega)
   simp only[sumZ];omega
theorem countP_or {α:Type} {a b:α->Bool}:∀ {l:List α},(∀ x ∈ l,a x=true->b x=true->False)->l.countP (fun x=>a x||b x)=l.countP a+l.countP b
 | [],_=>rfl
 | x::l,h=>by
  have ih:=countP_or (l:=l) fun y hy=>h y (List.mem_cons_of_mem _ hy)
  have hx:=h x List.mem_cons_self
  simp only[List.countP_cons,ih]
  cases ha:a x <;> cases hb:b x
  ·simp
  ·simp;omega
  ·simp;omega
  ·exact (hx ha hb).elim
theorem countP_seg (a m:Nat):∀ N,(List.range N).countP (fun j=>decide (a<=j/\j < a+m))=min N (a+m) - min N a
 | 0=>by simp
 | N+1=>by
  rw[List.range_succ,List.countP_append,countP_seg a m N]
  simp only[List.countP_cons,List.countP_nil,Nat.zero_add]
  by_cases h:a<=N/\N < a+m
  ·simp only[h,and_self,decide_true,if_true];omega
  ·simp only[h,decide_false,Bool.false_eq_true,if_false];omega
def covP (p:List UInt8):Nat->Nat->Bool
 | 0,_=>false
 | k+1,j=>covP p k j||decide (pat p k<=j/\j < pat p k+psz p k)
theorem covP_ex {p:List UInt8}:∀ {k j:Nat},covP p k j=true->∃ i,i < k/\pat p i<=j/\j < pat p i+psz p i
 | k+1,j,h=>by
  simp only[covP,Bool.or_eq_true,decide_eq_true_eq] at h
  rcases h with h | h
  ·obtain ⟨i,h1,h2⟩:=covP_ex h
   exact ⟨i,by omega,h2⟩
  ·exact ⟨k,by omega,h⟩
theorem covP_count {p:List UInt8} (h:PageOk p):∀ k,k<=pn p->(List.range 64).countP (covP p k)=sumZ p k
 | 0,_=>by
  have:covP p 0=fun _=>false:=rfl
  rw[this];simp[sumZ]
 | k+1,hk=>by
  have ih:=covP_count h k (by omega)
  show (List.range 64).countP (fun j=>covP p k j||decide (pat p k<=j/\j < pat p k+psz p k))=sumZ p k+psz p k
  rw[countP_or,ih,countP_seg]
  ·by_cases hz:psz p k=0
   ·omega
   ·have:=h.slot k (by omega) hz
    omega
  ·intro j _ h1 h2
   obtain ⟨i,h3,h4⟩:=covP_ex h1
   simp only[decide_eq_true_eq] at h2
   have:=h.apart i k (by omega) (by omega) (by omega) (by omega) (by omega)
   omega
theorem sum_room {p:List UInt8} (h:PageOk p):sumZ p (pn p)+plo p<=64:=by
 rw[<-covP_count h (pn p) (Nat.le_refl _)]
 have h1:(List.range 64).countP (covP p (pn p))<=(List.range 64).countP (fun j=>decide (plo p<=j/\j < plo p+(64 - plo p))):=by
  refine List.countP_mono_left fun j hj hc=>?_
  obtain ⟨i,h3,h4,h5⟩:=covP_ex hc
  have:=h.slot i h3 (by omega)
  have:=List.mem_range.1 hj
  simp only[decide_eq_true_eq]
  omega
 rw[countP_seg] at h1
 have:=h.hi
 omega
theorem free_ok {p:List UInt8} (h:PageOk p):0<=freeF p/\freeF p<=62:=by
 have:=sum_room h
 have:=h.lo
 unfold freeF
 omega
def moreF (p:List UInt8):Nat:=if emptyF p=pn p then 1 else 0
def putQ (p:List UInt8) (c:List UInt8):List UInt8:=((stand p (emptyF p) (plo p - c.length) c).set 0 (UInt8.ofNat (pn p+moreF p))).set 1 (UInt8.ofNat (plo p - c.length))
def putF (p:List UInt8) (c:List UInt8):Int:=
 if emptyF p=pn p/\16<=pn p then 2
 else if freeF p < (c.length:Int)+2*(moreF p:Int) then 9
 else if plo p < 2+2*(pn p+moreF p)+c.length then 8
 else 0
theorem put_pb {p c:List UInt8} (h:PageOk p) (hc:putF p c=0) (j:Nat):pb (putQ p c) j=if j=1 then plo p - c.length else if j=0 then pn p+moreF p else pb (stand p (emptyF p) (plo p - c.length) c) j:=by
 unfold putF at hc
 split at hc
 ·cases hc
 ·split at hc
  ·cases hc
  ·split at hc
   ·cases hc
   ·have hl:(stand p (emptyF p) (plo p - c.length) c).length=64:=stand_len h.len _ (by have:=h.hi;omega)
    have hhi:=h.hi
    have hn:=h.n
    have hm:moreF p<=1:=by unfold moreF;split <;> omega
    unfold putQ
    rw[pb_set,pb_set,List.length_set,hl,ofNat_toNat (by omega),ofNat_toNat (by omega)]
    by_cases h1:j=1
    ·subst h1;simp
    ·by_cases h0:j=0
     ·subst h0;simp
     ·rw[if_neg (by omega),if_neg (by omega),if_neg h1,if_neg h0]
theorem put_turned {p c:List UInt8} (h:PageOk p) (hc1:1<=c.length) (hc:putF p c=0):Turned p (putQ p c) (emptyF p) (plo p - c.length) c.length/\∀ j,j < c.length->pb (putQ p c) (plo p - c.length+j)=pb c j:=by
 have hb:=put_pb h hc
 obtain ⟨e1,e2,e3⟩:=emptyF_spec p
 unfold putF at hc
 split at hc
 ·cases hc
 rename_i c1
 split at hc
 ·cases hc
 split at hc
 ·cases hc
 rename_i c3
 have hhi:=h.hi
 have hlo:=h.lo
 have hn:=h.n
 have hm:(emptyF p=pn p/\moreF p=1)\/(emptyF p < pn p/\moreF p=0):=by unfold moreF;split <;> omega
 have hs:emptyF p < 16:=by omega
 have hlen:(putQ p c).length=64:=by
  unfold putQ
  rw[List.length_set,List.length_set,stand_len h.len _ (by omega)]
 have hsp:∀ j,pb (stand p (emptyF p) (plo p - c.length) c) j=_:=stand_pb h.len (a:=plo p - c.length) (c:=c) (by omega) hs
 have hpn:pn (putQ p c)=pn p+moreF p:=by show pb _ 0=_;rw[hb];simp
 have hpl:plo (putQ p c)=plo p - c.length:=by show pb _ 1=_;rw[hb];simp
 refine ⟨⟨hlen,by omega,by omega,by omega,by omega,by omega,?_,?_,by omega,by omega,by omega,fun i hi his=>?_,fun i hi his hz=>?_,fun j j1 j2 j3=>?_⟩,fun j hj=>?_⟩
 ·show pb _ _=_
  rw[hb,if_neg (by omega),if_neg (by omega),hsp,if_neg (by omega),if_pos rfl]
 ·show pb _ _=_
  rw[hb,if_neg (by omega),if_neg (by omega),hsp,if_pos rfl]
 ·constructor
  ·show pb _ _=pb _ _
   rw[hb,if_neg (by omega),if_neg (by omega),hsp,if_neg (by omega),if_neg (by omega),if_neg (by omega)]
  ·show pb _ _=pb _ _
   rw[hb,if_neg (by omega),if_neg (by omega),hsp,if_neg (by omega),if_neg (by omega),if_neg (by omega)]
 ·have:=h.slot i hi hz
  omega
 ·rw[hb,if_neg (by omega),if_neg (by omega),hsp,if_neg (by omega),if_neg (by omega),if_neg (by omega)]
 ·rw[hb,if_neg (by omega),if_neg (by omega),hsp,if_neg (by omega),if_neg (by omega),if_pos (by omega)]
  congr 1
  omega
theorem putQ_ok {p c:List UInt8} (h:PageOk p) (hc1:1<=c.length) (hc:putF p c=0):PageOk (putQ p c)/\(∀ i,cellOf (putQ p c) i=if i=emptyF p then c else cellOf p i)/\cellOf p (emptyF p)=[]:=by
 obtain ⟨t,hb⟩:=put_turned h hc1 hc
 refine ⟨t.ok h,t.cells h hb,?_⟩
 obtain ⟨e1,e2,e3⟩:=emptyF_spec p
 by_cases he:emptyF p < pn p
 ·exact (cellOf_nil h he).2 (e3 he)
 ·unfold cellOf;rw[if_neg he]
def setQ (p:List UInt8) (s:Nat) (c:List UInt8):List UInt8:=if c.length<=psz p s then stand p s (pat p s+psz p s - c.length) c else (stand p s (plo p - c.length) c).set 1 (UInt8.ofNat (plo p - c.length))
def setF (p:List UInt8) (s:Nat) (c:List UInt8):Int:=
 if c.length<=psz p s then 0
 else if freeF p+(psz p s:Int) < (c.length:Int) then 9
 else if plo p < 2+2*pn p+c.length then 8
 else 0
theorem set_turned {p c:List UInt8} {s:Nat} (h:PageOk p) (hs:s < pn p) (hz:psz p s≠0) (hc1:1<=c.length) (hc:setF p s c=0):∃ a,Turned p (setQ p s c) s a c.length/\∀ j,j < c.length->pb (setQ p s c) (a+j)=pb c j:=by
 have hhi:=h.hi
 have hlo:=h.lo
 have hn:=h.n
 have hsl:=h.slot s hs hz
 unfold setF at hc
 split at hc
 ·rename_i c1
  unfold setQ
  rw[if_pos c1]
  have hsp:∀ j,pb (stand p s (pat p s+psz p s - c.length) c) j=_:=stand_pb h.len (a:=pat p s+psz p s - c.length) (c:=c) (by omega) (by omega)
  have hpn:pn (stand p s (pat p s+psz p s - c.length) c)=pn p:=by
   show pb _ 0=pb p 0;rw[hsp,if_neg (by omega),if_neg (by omega),if_neg (by omega)]
  have hpl:plo (stand p s (pat p s+psz p s - c.length) c)=plo p:=by
   show pb _ 1=pb p 1;rw[hsp,if_neg (by omega),if_neg (by omega),if_neg (by omega)]
  refine ⟨pat p s+psz p s - c.length,⟨stand_len h.len _ (by omega),by omega,by omega,by omega,by omega,by omega,?_,?_,by omega,by omega,by omega,fun i hi his=>?_,fun i hi his hz2=>?_,fun j j1 j2 j3=>?_⟩,fun j hj=>?_⟩
  ·show pb _ _=_
   rw[hsp,if_neg (by omega),if_pos rfl]
  ·show pb _ _=_
   rw[hsp,if_pos rfl]
  ·constructor
   ·show pb _ _=pb _ _
    rw[hsp,if_neg (by omega),if_neg (by omega),if_neg (by omega)]
   ·show pb _ _=pb _ _
    rw[hsp,if_neg (by omega),if_neg (by omega),if_neg (by omega)]
  ·have:=h.apart i s hi hs his hz2 hz
   omega
  ·rw[hsp,if_neg (by omega),if_neg (by omega),if_neg (by omega)]
  ·rw[hsp,if_neg (by omega),if_neg (by omega),if_pos (by omega)]
   congr 1
   omega
 ·rename_i c1
  split at hc
  ·cases hc
  split at hc
  ·cases hc
  rename_i c3
  have hq:setQ p s c=(stand p s (plo p - c.length) c).set 1 (UInt8.ofNat (plo p - c.length)):=by unfold setQ;rw[if_neg c1]
  rw[hq]
  have hl:(stand p s (plo p - c.length) c).length=64:=stand_len h.len _ (by omega)
  have hsp:∀ j,pb (stand p s (plo p - c.length) c) j=_:=stand_pb h.len (a:=plo p - c.length) (c:=c) (by omega) (by omega)
  have hb:∀ j,pb ((stand p s (plo p - c.length) c).set 1 (UInt8.ofNat (plo p - c.length))) j=if j=1 then plo p - c.length else pb (stand p s (plo p - c.length) c) j:=fun j=>by
   rw[pb_set,hl,ofNat_toNat (by omega)]
   by_cases h1:j=1
   ·subst h1;simp
   ·rw[if_neg (by omega),if_neg h1]
  have hpn:pn ((stand p s (plo p - c.length) c).set 1 (UInt8.ofNat (plo p - c.length)))=pn p:=by
   show pb _ 0=pb p 0;rw[hb,if_neg (by omega),hsp,if_neg (by omega),if_neg (by omega),if_neg (by omega)]
  have hpl:plo ((stand p s (plo p - c.length) c).set 1 (UInt8.ofNat (plo p - c.length)))=plo p - c.length:=by
   show pb _ 1=_;rw[hb,if_pos rfl]
  refine ⟨plo p - c.length,⟨by rw[List.length_set];exact hl,by omega,by omega,by omega,by omega,by omega,?_,?_,by omega,by omega,by omega,fun i hi his=>?_,fun i hi his hz2=>?_,fun j j1 j2 j3=>?_⟩,fun j hj=>?_⟩
  ·show pb _ _=_
   rw[hb,if_neg (by omega),hsp,if_neg (by omega),if_pos rfl]
  ·show pb _ _=_
   rw[hb,if_neg (by omega),hsp,if_pos rfl]
  ·constructor
   ·show pb _ _=pb _ _
    rw[hb,if_neg (by omega),hsp,if_neg (by omega),if_neg (by omega),if_neg (by omega)]
   ·show pb _ _=pb _ _
    rw[hb,if_neg (by omega),hsp,if_neg (by omega),if_neg (by omega),if_neg (by omega)]
  ·have:=h.slot i hi hz2
   omega
  ·rw[hb,if_neg (by omega),hsp,if_neg (by omega),if_neg (by omega),if_neg (by omega)]
  ·rw[hb,if_neg (by omega),hsp,if_neg (by omega),if_neg (by omega),if_pos (by omega)]
   congr 1
   omega
theorem setQ_ok {p c:List UInt8} {s:Nat} (h:PageOk p) (hs:s < pn p) (hz:psz p s≠0) (hc1:1<=c.length) (hc:setF p s c=0):PageOk (setQ p s c)/\(∀ i,cellOf (setQ p s c) i=if i=s then c else cellOf p i):=by
 obtain ⟨a,t,hb⟩:=set_turned h hs hz hc1 hc
 exact ⟨t.ok h,t.cells h hb⟩
def trimN (q:List UInt8):Nat->Nat
 | 0=>0
 | m+1=>if psz q m=0 then trimN q m else m+1
def drop0 (p:List UInt8) (s:Nat):List UInt8:=(p.set (2+2*s) 0).set (3+2*s) 0
def dropQ (p:List UInt8) (s:Nat):List UInt8:=(drop0 p s).set 0 (UInt8.ofNat (trimN (drop0 p s) (pn p)))
theorem trimN_spec (q:List UInt8):∀ m,trimN q m<=m/\(∀ i,trimN q m<=i->i < m->psz q i=0)/\(0 < trimN q m->psz q (trimN q m - 1)≠0)
 | 0=>by simp only[trimN];exact ⟨by omega,fun i h1 h2=>by omega,fun h=>by omega⟩
 | m+1=>by
  simp only[trimN]
  obtain ⟨h1,h2,h3⟩:=trimN_spec q m
  split
  ·rename_i h
   refine ⟨by omega,fun i g1 g2=>?_,h3⟩
   by_cases hi:i=m
   ·subst hi;exact h
   ·exact h2 i g1 (by omega)
  ·rename_i h
   exact ⟨by omega,fun i g1 g2=>by omega,fun _=>by simpa using h⟩
theorem dropQ_ok {p:List UInt8} {s:Nat} (h:PageOk p) (hs:s < pn p):PageOk (dropQ p s)/\(∀ i,cellOf (dropQ p s) i=if i=s then [] else cellOf p i):=by
 have hhi:=h.hi
 have hlo:=h.lo
 have hn:=h.n
 have hlen:=h.len
 have hb0:∀ j,pb (drop0 p s) j=if j=3+2*s\/j=2+2*s then 0 else pb p j:=fun j=>by
  unfold drop0
  rw[pb_set,pb_set,List.length_set,hlen]
  by_cases h1:j=3+2*s
  ·subst h1;rw[if_pos ⟨rfl,by omega⟩,if_pos (Or.inl rfl)];rfl
  ·by_cases h2:j=2+2*s
   ·subst h2;rw[if_neg (by omega),if_pos ⟨rfl,by omega⟩,if_pos (Or.inr rfl)];rfl
   ·rw[if_neg (by omega),if_neg (by omega),if_neg (by omega)]
 have hl0:(drop0 p s).length=64:=by unfold drop0;rw[List.length_set,List.length_set,hlen]
 obtain ⟨t1,t2,t3⟩:=trimN_spec (drop0 p s) (pn p)
 have hb:∀ j,pb (dropQ p s) j=if j=0 then trimN (drop0 p s) (pn p) else if j=3+2*s\/j=2+2*s then 0 else pb p j:=fun j=>by
  unfold dropQ
  rw[pb_set,hl0,ofNat_toNat (by omega),hb0]
  by_cases h1:j=0
  ·subst h1;simp
  ·rw[if_neg (by omega),if_neg h1]
 have hpn:pn (dropQ p s)=trimN (drop0 p s) (pn p):=by show pb _ 0=_;rw[hb,if_pos rfl]
 have hpl:plo (dropQ p s)=plo p:=by show pb _ 1=pb p 1;rw[hb,if_neg (by omega),if_neg (by omega)]
 have hz0:∀ i,psz (dropQ p s) i=psz (drop0 p s) i:=fun i=>by
  show pb _ _=pb _ _
  rw[hb,hb0,if_neg (by omega)]
 have hzs:psz (dropQ p s) s=0/\pat (dropQ p s) s=0:=by
  constructor
  ·show pb _ _=_;rw[hb,if_neg (by omega),if_pos (Or.inl rfl)]
  ·show pb _ _=_;rw[hb,if_neg (by omega),if_pos (Or.inr rfl)]
 have hzo:∀ i,i≠s->psz (dropQ p s) i=psz p i/\pat (dropQ p s) i=pat p i:=fun i hi=>by
  constructor
  ·show pb _ _=pb _ _;rw[hb,if_neg (by omega),if_neg (by omega)]
  ·show pb _ _=pb _ _;rw[hb,if_neg (by omega),if_neg (by omega)]
 have hok:PageOk (dropQ p s):=by
  refine ⟨by unfold dropQ;rw[List.length_set,hl0],by omega,by omega,by omega,fun i hi hz=>?_,fun i hi hz=>?_,fun i k hi hk hik z1 z2=>?_,fun hn=>?_⟩
  ·by_cases his:i=s
   ·subst his;omega
   ·obtain ⟨g1,g2⟩:=hzo i his
    have:=h.slot i (by omega) (by omega)
    omega
  ·by_cases his:i=s
   ·subst his;omega
   ·obtain ⟨g1,g2⟩:=hzo i his
    have:=h.zero i (by omega) (by omega)
    omega
  ·have his:i≠s:=fun e=>by subst e;omega
   have hks:k≠s:=fun e=>by subst e;omega
   obtain ⟨g1,g2⟩:=hzo i his
   obtain ⟨g3,g4⟩:=hzo k hks
   have:=h.apart i k (by omega) (by omega) hik (by omega) (by omega)
   omega
  ·rw[hz0,hpn]
   exact t3 (by omega)
 refine ⟨hok,fun i=>?_⟩
 by_cases his:i=s
 ·subst his
  rw[if_pos rfl]
  by_cases hi:i < pn (dropQ p i)
  ·exact (cellOf_nil hok hi).2 hzs.1
  ·unfold cellOf;rw[if_neg hi]
 ·rw[if_neg his]
  obtain ⟨g1,g2⟩:=hzo i his
  by_cases hi:i < pn (dropQ p s)
  ·have hip:i < pn p:=by omega
   unfold cellOf
   rw[if_pos hi,if_pos hip]
   refine cellP_eq (cellP_len hok hi) (cellP_len h hip) g1 fun j hj=>?_
   have:=h.slot i hip (by omega)
   rw[g2,hb,if_neg (by omega),if_neg (by omega)]
  ·have e1:cellOf (dropQ p s) i=[]:=by unfold cellOf;rw[if_neg hi]
   rw[e1]
   by_cases hip:i < pn p
   ·refine ((cellOf_nil h hip).2 ?_).symm
    rw[<-g1,hz0]
    exact t2 i (by omega) hip
   ·unfold cellOf;rw[if_neg hip]
def compS (p:List UInt8) (s:List UInt8×Nat) (i:Nat):List UInt8×Nat:=if psz p i=0 then s else (stand s.1 i (s.2 - psz p i) (cellP p i),s.2 - psz p i)
def comp0 (p:List UInt8):List UInt8:=p.take (2+2*pn p)++List.replicate (62 - 2*pn p) (0:UInt8)
def compL (p:List UInt8) (k:Nat):List UInt8×Nat:=(List.range k).foldl (compS p) (comp0 p,64)
def compQ (p:List UInt8):List UInt8:=(compL p (pn p)).1.set 1 (UInt8.ofNat (compL p (pn p)).2)
theorem compL_succ (p:List UInt8) (k:Nat):compL p (k+1)=compS p (compL p k) k:=by
 unfold compL
 rw[List.range_succ,List.foldl_append]
 rfl
structure CompI (p:List UInt8) (k:Nat) (o:List UInt8) (a:Nat):Prop where
 len:o.length=64
 n:pb o 0=pn p
 a:a=64 - sumZ p k
 sz:∀ i,i < pn p->psz o i=psz p i
 old:∀ i,i < pn p->(k<=i\/psz p i=0)->pat o i=pat p i
 new:∀ i,i < k->psz p i≠0->pat o i=64 - sumZ p (i+1)/\∀ j,j < psz p i->pb o (64 - sumZ p (i+1)+j)=pb p (pat p i+j)
theorem comp_inv {p:List UInt8} (h:PageOk p):∀ k,k<=pn p->CompI p k (compL p k).1 (compL p k).2
 | 0,_=>by
  have hn:=h.n
  have hlen:=h.len
  have hl:(comp0 p).length=64:=by unfold comp0;simp only[List.length_append,List.length_take,List.length_replicate];omega
  have hb:∀ j,j < 2+2*pn p->pb (comp0 p) j=pb p j:=fun j hj=>by
   unfold pb comp0
   simp only[List.getD_eq_getElem?_getD]
   rw[List.getElem?_append_left (by simp only[List.length_take];omega),List.getElem?_take,if_pos hj]
  refine ⟨hl,hb 0 (by omega),by simp only[sumZ];rfl,fun i hi=>?_,fun i hi _=>?_,fun i hi=>by omega⟩
  ·exact hb _ (by omega)
  ·exact hb _ (by omega)
 | k+1,hk=>by
  have ih:=comp_inv h k (by omega)
  rw[compL_succ]
  unfold compS
  have hroom:=sum_room h
  have hmono:=sumZ_mono p (show k+1<=pn p from hk)
  have hlo:=h.lo
  have hn:=h.n
  simp only[sumZ] at hmono
  by_cases hz:psz p k=0
  ·rw[if_pos hz]
   refine ⟨ih.len,ih.n,?_,ih.sz,fun i hi ho=>ih.old i hi (by rcases ho with ho | ho <;> omega),fun i hi hzi=>?_⟩
   ·rw[ih.a];simp only[sumZ];omega
   ·have:i≠k:=fun e=>by subst e;exact hzi hz
    exact ih.new i (by omega) hzi
  ·rw[if_neg hz]
   have hcl:(cellP p k).length=psz p k:=cellP_len h (by omega)
   have ha:=ih.a
   have hfit:(compL p k).2 - psz p k+(cellP p k).length<=64:=by omega
   have hsp:∀ j,pb (stand (compL p k).1 k ((compL p k).2 - psz p k) (cellP p k)) j=_:=stand_pb ih.len (a:=(compL p k).2 - psz p k) (c:=cellP p k) hfit (by omega)
   refine ⟨stand_len ih.len _ hfit,?_,by simp only[sumZ];omega,fun i hi=>?_,fun i hi ho=>?_,fun i hi hzi=>?_⟩
   ·rw[hsp,if_neg (by omega),if_neg (by omega),if_neg (by omega)];exact ih.n
   ·show pb _ _=_
    rw[hsp]
    by_cases hik:i=k
    ·subst hik;rw[if_pos rfl];exact hcl
    ·rw[if_neg (by omega),if_neg (by omega),if_neg (by omega)]
     exact ih.sz i hi
   ·have hik:i≠k:=fun e=>by subst e;rcases ho with ho | ho <;> omega
    show pb _ _=_
    rw[hsp,if_neg (by omega),if_neg (by omega),if_neg (by omega)]
    exact ih.old i hi (by rcases ho with ho | ho <;> omega)
   ·by_cases hik:i=k
    ·subst hik
     constructor
     ·show pb _ _=_
      rw[hsp,if_neg (by omega),if_pos rfl]
      simp only[sumZ];omega
     ·intro j hj
      simp only[sumZ]
      rw[hsp,if_neg (by omega),if_neg (by omega),if_pos (by omega)]
      rw[show 64 - (sumZ p i+psz p i)+j - ((compL p i).2 - psz p i)=j by omega]
      exact cellP_pb p i j hj
    ·have hm2:=sumZ_mono p (show i+1<=k by omega)
     have hm3:=sumZ_mono p (show i+1<=pn p by omega)
     obtain ⟨g1,g2⟩:=ih.new i (by omega) hzi
     constructor
     ·show pb _ _=_
      rw[hsp,if_neg (by omega),if_neg (by omega),if_neg (by omega)]
      exact g1
     ·intro j hj
      rw[hsp,if_neg (by omega),if_neg (by omega),if_neg (by omega)]
      exact g2 j hj
theorem compQ_ok {p:List UInt8} (h:PageOk p):PageOk (compQ p)/\(∀ i,cellOf (compQ p) i=cellOf p i)/\pn (compQ p)=pn p:=by
 have I:=comp_inv h (pn p) (Nat.le_refl _)
 have hroom:=sum_room h
 have hlo:=h.lo
 have hn:=h.n
 have ha:=I.a
 have hb:∀ j,pb (compQ p) j=if j=1 then (compL p (pn p)).2 else pb (compL p (pn p)).1 j:=fun j=>by
  unfold compQ
  rw[pb_set,I.len,ofNat_toNat (by omega)]
  by_cases h1:j=1
  ·subst h1;simp
  ·rw[if_neg (by omega),if_neg h1]
 have hpn:pn (compQ p)=pn p:=by show pb _ 0=_;rw[hb,if_neg (by omega)];exact I.n
 have hpl:plo (compQ p)=64 - sumZ p (pn p):=by show pb _ 1=_;rw[hb,if_pos rfl];exact ha
 have hz:∀ i,i < pn p->psz (compQ p) i=psz p i:=fun i hi=>by show pb _ _=_;rw[hb,if_neg (by omega)];exact I.sz i hi
 have hat:∀ i,i < pn p->psz p i≠0->pat (compQ p) i=64 - sumZ p (i+1):=fun i hi hzi=>by show pb _ _=_;rw[hb,if_neg (by omega)];exact (I.new i hi hzi).1
 have hok:PageOk (compQ p):=by
  refine ⟨by unfold compQ;rw[List.length_set];exact I.len,by omega,by omega,by omega,fun i hi hzi=>?_,fun i hi hzi=>?_,fun i k hi hk hik z1 z2=>?_,fun hn=>?_⟩
  ·have h1:=hz i (by omega)
   have h2:=hat i (by omega) (by omega)
   have h3:=sumZ_mono p (show i+1<=pn p by omega)
   have h4:sumZ p (i+1)=sumZ p i+psz p i:=rfl
   omega
  ·have h1:=hz i (by omega)
   show pb _ _=_
   rw[hb,if_neg (by omega)]
   exact (I.old i (by omega) (Or.inr (by omega))).trans (h.zero i (by omega) (by omega))
  ·have h1:=hz i (by omega)
   have h2:=hat i (by omega) (by omega)
   have h3:=hz k (by omega)
   have h4:=hat k (by omega) (by omega)
   have e1:sumZ p (i+1)=sumZ p i+psz p i:=rfl
   have e2:sumZ p (k+1)=sumZ p k+psz p k:=rfl
   have m1:=sumZ_mono p (show i+1<=pn p by omega)
   have m2:=sumZ_mono p (show k+1<=pn p by omega)
   rcases Nat.lt_or_gt_of_ne hik with h6 | h6
   ·have:=sumZ_mono p (show i+1<=k from h6)
    omega
   ·have:=sumZ_mono p (show k+1<=i from h6)
    omega
  ·rw[hpn,hz _ (by omega)]
   exact h.last (by omega)
 refine ⟨hok,fun i=>?_,hpn⟩
 unfold cellOf
 rw[hpn]
 by_cases hi:i < pn p
 ·rw[if_pos hi,if_pos hi]
  refine cellP_eq (cellP_len hok (by omega)) (cellP_len h hi) (hz i hi) fun j hj=>?_
  have h1:=hz i hi
  have hzi:psz p i≠0:=by omega
  rw[hat i hi hzi,hb,if_neg (by
   have:=sumZ_mono p (show i+1<=pn p by omega)
   omega)]
  exact (I.new i hi hzi).2 j (by omega)
 ·rw[if_neg hi,if_neg hi]
def newPg:List UInt8:=((List.replicate 64 (0:UInt8)).set 0 0).set 1 64
theorem newPg_ok:PageOk newPg/\∀ i,cellOf newPg i=[]:=by
 refine ⟨pageF_iff.1 (by decide +kernel),fun i=>?_⟩
 unfold cellOf
 rw[if_neg (by show ¬ i < 0;omega)]
end OT
