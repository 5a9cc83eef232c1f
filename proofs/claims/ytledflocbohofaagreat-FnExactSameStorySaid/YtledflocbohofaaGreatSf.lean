/- The proof's parts, merged: Printed by gen.py, a program of this claim  what each Go function computes.. No conditions but those that each states. -/
import Derived.Test.YtledflocbohofaaGreatSe
set_option maxRecDepth 100000
set_option linter.unusedVariables false
namespace OT
open Go Go.Proofs.Tryz
namespace impl_packed
abbrev Arg:Type:=Record×Unit
abbrev Out:Type:=(List UInt8)×Unit
abbrev ps:PQ:=[(.ro,tRecord)]
noncomputable def D:FD:={ fn:=f238,tl:=TL0,ps:=ps,rs:=[((.slc u8),(ownMd (.slc u8)))],lv:=[(3,[3,24,25,26]),(11,[3,6,51,52,53])],lx:=[(0,[3]),(2,[3,6])] }
noncomputable def sem (a:Arg):Option Out:=@lift Out fun k=>D.W k a
noncomputable def T0 (a1:Arg) (v402:(List UInt8)×Int):St:={ n:=72,sl:=[(3,.own (.slc u8) (ownMd (.slc u8)) [] v402.1),(24,.val (.slc tRun) a1.1.2.2.2.1),(25,.val i64 (a1.1.2.2.2.1.length:Int)),(26,.val i64 v402.2)],vr:=[],lent:=[] }
noncomputable def S0 (rec:RT Out) (a1:Arg):((List UInt8)×Int)->Option Out:=fun v402=>rec (T0 a1 v402)
noncomputable def X0_0 (K:KT Out) (a1:Arg):(List UInt8)->Option Out:=fun z=>K (.exit 0) ({ n:=72,sl:=[(3,.own (.slc u8) (ownMd (.slc u8)) [] z)],vr:=[],lent:=[] })
noncomputable def b0 (self:((List UInt8)×Int)->Option Out) (e0:(List UInt8)->Option Out) (a1:Arg) (v402:(List UInt8)×Int):Option Out:=bif decide (v402.2 < (a1.1.2.2.2.1.length:Int)) then (if 0<=v402.2 then ((a1.1.2.2.2.1[v402.2.toNat]?).bind fun x603=>if v402.1.length+[UInt8.ofInt x603.1,UInt8.ofInt (x603.2.1.length:Int)].length<=CAP then (let y604:=v402.1++[UInt8.ofInt x603.1,UInt8.ofInt (x603.2.1.length:Int)];if y604.length+x603.2.1.length<=CAP then (self (y604++x603.2.1,w64 (v402.2+(1:Int)))) else none) else none) else none) else e0 v402.1
noncomputable abbrev B0 (_:Nat):=b0
theorem B0_eq (k:Nat) (rec:RT Out) (K:KT Out) (a1:Arg) (v402:(List UInt8)×Int):D.N k [1,1,0,1,0,0] (T0 a1 v402) (loopC rec (keepF [3,24,25,26] []) K)=b0 (S0 rec a1) (X0_0 K a1) a1 v402:=by kernel_rfl
noncomputable def T1 (a1:Arg) (c1009:List UInt8) (c1010:Int) (v1008:Int×Int):St:={ n:=72,sl:=[(3,.own (.slc u8) (ownMd (.slc u8)) [] c1009),(6,.val i64 v1008.1),(51,.ref 3 [] [0,0]),(52,.val i64 c1010),(53,.val i64 v1008.2)],vr:=[],lent:=[] }
noncomputable def b1 (self:(Int×Int)->Option Out) (e2:Int->Option Out) (a1:Arg) (c1009:List UInt8) (c1010:Int) (v1008:Int×Int):Option Out:=bif decide (v1008.2 < c1010) then (if 0<=v1008.2/\v1008.2 < (c1009.length:Int) then ((c1009[v1008.2.toNat]?).bind fun x1211=>self ((w64 ((w64 (v1008.1*(31:Int)))+(w64 (x1211.toNat:Int)))).tmod (65521:Int),w64 (v1008.2+(1:Int)))) else none) else e2 v1008.1
noncomputable abbrev B1 (_:Nat):=b1
noncomputable def q1 (a1:Arg) (c1009:List UInt8) (c1010:Int) (z1212:Int):Option Out:=if c1009.length+[UInt8.ofInt (z1212.fdiv (2 ^ 8)),UInt8.ofInt z1212].length<=CAP then (let y1213:=c1009++[UInt8.ofInt (z1212.fdiv (2 ^ 8)),UInt8.ofInt z1212];some (y1213,())) else none
noncomputable abbrev Q1 (_:Nat):=q1
noncomputable def s1 (k:Nat) (a1:Arg):(List UInt8)->Int->(Int×Int)->Option Out:=fun c1009 c1010=>fun v1008=>D.L k [1,1,1,1,1,0,1,0,0] [3,6,51,52,53] [] (blockC 2 (seqC (D.N k [1,1,1,1,1,1]) D.K0)) (T1 a1 c1009 c1010 v1008)
noncomputable def r1 (k:Nat) (a1:Arg):(List UInt8)->Int->(Int×Int)->Option Out:=fun c1009 c1010=>rawIter (fun w v=>B1 k w (Q1 k a1 c1009 c1010) a1 c1009 c1010 v) k
theorem s1_eq (k:Nat) (a1:Arg):s1 k a1=r1 k a1:=
 funext fun c1009=>funext fun c1010=>funext fun v1008=>iter_raw _ _ _ (T1 a1 c1009 c1010) _ (fun rec v=>by kernel_rfl) k v1008
noncomputable def q0 (l1:(List UInt8)->Int->(Int×Int)->Option Out) (a1:Arg) (z605:(List UInt8)):Option Out:=if 0<=(0:Int)/\(0:Int) < (z605.length:Int) then ((z605[0]?).bind fun x606=>let y607:=z605.set 0 (UInt8.ofInt (w64 ((z605.length:Int)+(2:Int))));l1 y607 (y607.length:Int) ((1:Int),(0:Int))) else none
noncomputable def Q0 (k:Nat) (a1:Arg) (z605:(List UInt8)):Option Out:=q0 (r1 k a1) a1 z605
theorem Q0_eq (k:Nat) (a1:Arg) (z605:(List UInt8)):X0_0 (blockC 0 (seqC (D.N k [1,1,1]) D.K0)) a1 z605=Q0 k a1 z605:=
 Eq.trans (b:=q0 (s1 k a1) a1 z605) (by kernel_rfl) (by rw[s1_eq];rfl)
noncomputable def s0 (k:Nat) (a1:Arg):((List UInt8)×Int)->Option Out:=fun v402=>D.L k [1,1,0,1,0,0] [3,24,25,26] [] (blockC 0 (seqC (D.N k [1,1,1]) D.K0)) (T0 a1 v402)
noncomputable def r0 (k:Nat) (a1:Arg):((List UInt8)×Int)->Option Out:=rawIter (fun w v=>B0 k w (Q0 k a1) a1 v) k
theorem s0_eq (k:Nat) (a1:Arg):s0 k a1=r0 k a1:=by
 funext v402;
 have h0:X0_0 (blockC 0 (seqC (D.N k [1,1,1]) D.K0)) a1=Q0 k a1:=funext fun z=>Q0_eq k a1 z
 refine (iter_raw _ _ _ (T0 a1) (fun self v=>B0 k self (X0_0 (blockC 0 (seqC (D.N k [1,1,1]) D.K0)) a1) a1 v) (fun rec v=>B0_eq k rec (blockC 0 (seqC (D.N k [1,1,1]) D.K0)) a1 v) k v402).trans ?_
 rw[h0]
 rfl
noncomputable def p (l0:((List UInt8)×Int)->Option Out) (a1:Arg):Option Out:=l0 ([(0:UInt8),UInt8.ofInt a1.1.1,UInt8.ofInt a1.1.2.1,UInt8.ofInt a1.1.2.2.1,UInt8.ofInt (a1.1.2.2.2.1.length:Int)],(0:Int))
theorem raw_eq (k:Nat) (a1:Arg):@Eq (Option Out) (D.W k a1) (p (r0 k a1) a1):=
 Eq.trans (b:=p (s0 k a1) a1) (by kernel_rfl) (by rw[s0_eq])
theorem ok:Ok prog 238 D.sig:=fd_ok func238 tlOk (by kernel_rfl) (fn_nil _)
end impl_packed
namespace impl_read
abbrev Arg:Type:=(List UInt8)×Unit
abbrev Out:Type:=Record×Int×Unit
abbrev ps:PQ:=[(.ro,(.slc u8))]
noncomputable def D:FD:={ fn:=f170,tl:=TL0,ps:=ps,rs:=[(tRecord,(ownMd tRecord)),(i64,(roMd i64))],gl:=[(135,impl_RecordFault.D.sig),(138,slices_Equal_byte.D.sig),(159,impl_copied.D.sig),(238,impl_packed.D.sig)],lv:=[(7,[2,4,5,6,7,52,53])],lx:=[(0,[2,4,5,6,7])],od:=[(4,[0,1,2,3,4,5,6,7,8,9,10,11,12,13,14]),(11,[0,1,2,3,4,5,6,7,8,9,10,11,12,13,14,15,16,17,18,19,20])] }
noncomputable def sem (a:Arg):Option Out:=@lift Out fun k=>D.W k a
noncomputable def T0 (a1:Arg) (c410:List UInt8) (c411:Int) (c412:Int) (v409:Record×Int×Int):St:={ n:=123,sl:=[(2,.box tRecord (ownMd tRecord) [] ((0:Int),(0:Int),(0:Int),([]:List Run),())),(4,.val (.slc u8) c410),(5,.box tRecord (ownMd tRecord) [] v409.1),(6,.val i64 v409.2.1),(7,.val i64 c411),(52,.val i64 c412),(53,.val i64 v409.2.2)],vr:=[],lent:=[] }
noncomputable def b0 (self:(Record×Int×Int)->Option Out) (e0:(Record×Int)->Option Out) (a1:Arg) (c410:List UInt8) (c411:Int) (c412:Int) (v409:Record×Int×Int):Option Out:=bif decide (v409.2.2 < c412) then (bif decide (c411 < w64 (v409.2.1+(2:Int))) then (some (((0:Int),(0:Int),(0:Int),([]:List Run),()),(0:Int),())) else if 0<=w64 (v409.2.1+(1:Int)) then ((c410[(w64 (v409.2.1+(1:Int))).toNat]?).bind fun x613=>bif decide (c411 < w64 ((w64 (v409.2.1+(2:Int)))+(w64 (x613.toNat:Int)))) then (some (((0:Int),(0:Int),(0:Int),([]:List Run),()),(0:Int),())) else if 0<=w64 (v409.2.1+(1:Int)) then ((c410[(w64 (v409.2.1+(1:Int))).toNat]?).bind fun x614=>if 0<=v409.2.1 then ((c410[v409.2.1.toNat]?).bind fun x615=>if 0<=w64 (v409.2.1+(2:Int))/\w64 (v409.2.1+(2:Int))<=w64 ((w64 (v409.2.1+(2:Int)))+(w64 (x614.toNat:Int)))/\w64 ((w64 (v409.2.1+(2:Int)))+(w64 (x614.toNat:Int)))<=(c410.length:Int) then ((impl_copied.sem ((c410.take (w64 ((w64 (v409.2.1+(2:Int)))+(w64 (x614.toNat:Int)))).toNat).drop (w64 (v409.2.1+(2:Int))).toNat,())).bind fun r616=>if v409.1.2.2.2.1.length+[(w64 (x615.toNat:Int),r616.1,())].length<=CAP then (let y617:=v409.1.2.2.2.1++[(w64 (x615.toNat:Int),r616.1,())];self ((v409.1.1,v409.1.2.1,v409.1.2.2.1,y617,v409.1.2.2.2.2),w64 (v409.2.1+(w64 ((2:Int)+(w64 (x614.toNat:Int))))),w64 (v409.2.2+(1:Int)))) else none) else none) else none) else none) else none) else e0 (v409.1,v409.2.1)
noncomputable abbrev B0 (_:Nat):=b0
noncomputable def q0 (a1:Arg) (c410:List UInt8) (c411:Int) (c412:Int) (z618:(Record×Int)):Option Out:=bif !decide (z618.2=c411) then (some (((0:Int),(0:Int),(0:Int),([]:List Run),()),(0:Int),())) else (impl_RecordFault.sem (z618.1,())).bind fun r619=>bif !decide (r619.1=(0:Int)) then (some (((0:Int),(0:Int),(0:Int),([]:List Run),()),(0:Int),())) else (impl_packed.sem (z618.1,())).bind fun r620=>(slices_Equal_byte.sem (r620.1,c410,())).bind fun r621=>bif !r621.1 then (some (((0:Int),(0:Int),(0:Int),([]:List Run),()),(0:Int),())) else some (z618.1,(c410.length:Int),())
noncomputable abbrev Q0 (_:Nat):=q0
noncomputable def s0 (k:Nat) (a1:Arg):(List UInt8)->Int->Int->(Record×Int×Int)->Option Out:=fun c410 c411 c412=>fun v409=>D.L k [1,1,1,1,1,0,1,0,0] [2,4,5,6,7,52,53] [] (blockC 0 (seqC (D.N k [1,1,1,1,1,1]) D.K0)) (T0 a1 c410 c411 c412 v409)
noncomputable def r0 (k:Nat) (a1:Arg):(List UInt8)->Int->Int->(Record×Int×Int)->Option Out:=fun c410 c411 c412=>rawIter (fun w v=>B0 k w (Q0 k a1 c410 c411 c412) a1 c410 c411 c412 v) k
theorem s0_eq (k:Nat) (a1:Arg):s0 k a1=r0 k a1:=
 funext fun c410=>funext fun c411=>funext fun c412=>funext fun v409=>iter_raw _ _ _ (T0 a1 c410 c411 c412) _ (fun rec v=>by kernel_rfl) k v409
noncomputable def p (l0:(List UInt8)->Int->Int->(Record×Int×Int)->Option Out) (a1:Arg):Option Out:=bif decide ((a1.1.length:Int) < (7:Int)) then (some (((0:Int),(0:Int),(0:Int),([]:List Run),()),(0:Int),())) else (a1.1[0]?).bind fun x2=>bif decide ((a1.1.length:Int) < w64 (x2.toNat:Int)) then (some (((0:Int),(0:Int),(0:Int),([]:List Run),()),(0:Int),())) else (a1.1[0]?).bind fun x3=>bif decide ((x3.toNat:Int) < (7:Int)) then (some (((0:Int),(0:Int),(0:Int),([]:List Run),()),(0:Int),())) else (a1.1[0]?).bind fun x4=>if 0<=(x4.toNat:Int)/\(x4.toNat:Int)<=(a1.1.length:Int) then ((((a1.1.take (x4.toNat:Int).toNat).drop 0)[1]?).bind fun x5=>(((a1.1.take (x4.toNat:Int).toNat).drop 0)[2]?).bind fun x6=>(((a1.1.take (x4.toNat:Int).toNat).drop 0)[3]?).bind fun x7=>(((a1.1.take (x4.toNat:Int).toNat).drop 0)[4]?).bind fun x8=>l0 ((a1.1.take (x4.toNat:Int).toNat).drop 0) (w64 ((((a1.1.take (x4.toNat:Int).toNat).drop 0).length:Int) - (2:Int))) (w64 (x8.toNat:Int)) ((w64 (x5.toNat:Int),w64 (x6.toNat:Int),w64 (x7.toNat:Int),([]:List Run),()),(5:Int),(0:Int))) else none
theorem raw_eq (k:Nat) (a1:Arg):@Eq (Option Out) (D.W k a1) (p (r0 k a1) a1):=
 Eq.trans (b:=p (s0 k a1) a1) (by kernel_rfl) (by rw[s0_eq])
theorem ok:Ok prog 170 D.sig:=fd_ok func170 tlOk (by kernel_rfl) (fc impl_RecordFault.ok (fc slices_Equal_byte.ok (fc impl_copied.ok (fc impl_packed.ok (fn_nil _)))))
end impl_read
namespace impl_readAll
abbrev Arg:Type:=(List UInt8)×Unit
abbrev Out:Type:=(List Record)×Int×Unit
abbrev ps:PQ:=[(.ro,(.slc u8))]
noncomputable def D:FD:={ fn:=f125,tl:=TL0,ps:=ps,rs:=[((.slc tRecord),(ownMd (.slc tRecord))),(i64,(roMd i64))],gl:=[(170,impl_read.D.sig)],lv:=[(3,[0,4,5])] }
noncomputable def sem (a:Arg):Option Out:=@lift Out fun k=>D.W k a
noncomputable def T0 (a1:Arg) (v402:(List Record)×Int):St:={ n:=26,sl:=[(0,.val (.slc u8) a1.1),(4,.own (.slc tRecord) (ownMd (.slc tRecord)) [] v402.1),(5,.val i64 v402.2)],vr:=[],lent:=[] }
noncomputable def b0 (self:((List Record)×Int)->Option Out) (a1:Arg) (v402:(List Record)×Int):Option Out:=if 0<=v402.2/\v402.2<=(a1.1.length:Int) then ((impl_read.sem ((a1.1.take a1.1.length).drop v402.2.toNat,())).bind fun r603=>bif decide (r603.2.1=(0:Int)) then (some (v402.1,v402.2,())) else if v402.1.length+[r603.1].length<=CAP then (self (v402.1++[r603.1],w64 (v402.2+r603.2.1))) else none) else none
noncomputable abbrev B0 (_:Nat):=b0
noncomputable def s0 (k:Nat) (a1:Arg):((List Record)×Int)->Option Out:=fun v402=>D.L k [1,1,1,0,0] [0,4,5] [] (blockC 0 D.K0) (T0 a1 v402)
noncomputable def r0 (k:Nat) (a1:Arg):((List Record)×Int)->Option Out:=rawIter (fun w v=>B0 k w a1 v) k
theorem s0_eq (k:Nat) (a1:Arg):s0 k a1=r0 k a1:=
 funext fun v402=>iter_raw _ _ _ (T0 a1) _ (fun rec v=>by kernel_rfl) k v402
noncomputable def p (l0:((List Record)×Int)->Option Out) (a1:Arg):Option Out:=l0 (([]:List Record),(0:Int))
theorem raw_eq (k:Nat) (a1:Arg):@Eq (Option Out) (D.W k a1) (p (r0 k a1) a1):=
 Eq.trans (b:=p (s0 k a1) a1) (by kernel_rfl) (by rw[s0_eq])
theorem ok:Ok prog 125 D.sig:=fd_ok func125 tlOk (by kernel_rfl) (fc impl_read.ok (fn_nil _))
end impl_readAll
namespace impl_LogFault
abbrev Arg:Type:=Log×Unit
abbrev Out:Type:=Int×Unit
abbrev ps:PQ:=[(.ro,tLog)]
noncomputable def D:FD:={ fn:=f60,tl:=TL0,ps:=ps,rs:=[(i64,(roMd i64))],gl:=[(124,impl_Log_size.D.sig),(125,impl_readAll.D.sig)],lv:=[(4,[14,15,16])],lx:=[(0,[])] }
noncomputable def sem (a:Arg):Option Out:=@lift Out fun k=>D.W k a
noncomputable def T0 (a1:Arg) (v403:Int):St:={ n:=30,sl:=[(14,.own (.slc (.slc u8)) (.slc true (roMd (.slc u8))) [] [a1.1.1,a1.1.2.1]),(15,.val i64 ([a1.1.1,a1.1.2.1].length:Int)),(16,.val i64 v403)],vr:=[],lent:=[] }
noncomputable def b0 (self:Int->Option Out) (e0:(Unit)->Option Out) (a1:Arg) (v403:Int):Option Out:=bif decide (v403 < ([a1.1.1,a1.1.2.1].length:Int)) then (if 0<=v403/\v403 < ([a1.1.1,a1.1.2.1].length:Int) then (([a1.1.1,a1.1.2.1][v403.toNat]?).bind fun x604=>(impl_readAll.sem (x604,())).bind fun r605=>bif !decide (r605.2.1=(x604.length:Int)) then (some ((5:Int),())) else self (w64 (v403+(1:Int)))) else none) else e0 ()
noncomputable abbrev B0 (_:Nat):=b0
noncomputable def q0 (a1:Arg) (z606:(Unit)):Option Out:=some ((0:Int),())
noncomputable abbrev Q0 (_:Nat):=q0
noncomputable def s0 (k:Nat) (a1:Arg):(Int)->Option Out:=fun v403=>D.L k [1,1,0,1,0,0] [14,15,16] [] (blockC 0 (seqC (D.N k [1,1,1]) D.K0)) (T0 a1 v403)
noncomputable def r0 (k:Nat) (a1:Arg):(Int)->Option Out:=rawIter (fun w v=>B0 k w (Q0 k a1) a1 v) k
theorem s0_eq (k:Nat) (a1:Arg):s0 k a1=r0 k a1:=
 funext fun v403=>iter_raw _ _ _ (T0 a1) _ (fun rec v=>by kernel_rfl) k v403
noncomputable def p (l0:(Int)->Option Out) (a1:Arg):Option Out:=(impl_Log_size.sem (a1.1,())).bind fun r2=>bif decide ((16000:Int) < r2.1) then (some ((2:Int),())) else l0 (0:Int)
theorem raw_eq (k:Nat) (a1:Arg):@Eq (Option Out) (D.W k a1) (p (r0 k a1) a1):=
 Eq.trans (b:=p (s0 k a1) a1) (by kernel_rfl) (by rw[s0_eq])
theorem ok:Ok prog 60 D.sig:=fd_ok func60 tlOk (by kernel_rfl) (fc impl_Log_size.ok (fc impl_readAll.ok (fn_nil _)))
end impl_LogFault
namespace impl_slots
abbrev Arg:Type:=(List UInt8)×Unit
abbrev Out:Type:=Int×Unit
abbrev ps:PQ:=[(.ro,(.slc u8))]
noncomputable def D:FD:={ fn:=f127,tl:=TL0,ps:=ps,rs:=[(i64,(roMd i64))] }
noncomputable def sem (a:Arg):Option Out:=@lift Out fun k=>D.W k a
noncomputable def p (a1:Arg):Option Out:=(a1.1[0]?).bind fun x2=>some (w64 (x2.toNat:Int),())
theorem raw_eq (k:Nat) (a1:Arg):@Eq (Option Out) (D.W k a1) (p a1):=by kernel_rfl
theorem ok:Ok prog 127 D.sig:=fd_ok func127 tlOk (by kernel_rfl) (fn_nil _)
end impl_slots
namespace impl_spot
abbrev Arg:Type:=(List UInt8)×Int×Unit
abbrev Out:Type:=Int×Int×Unit
abbrev ps:PQ:=[(.ro,(.slc u8)),(.ro,i64)]
noncomputable def D:FD:={ fn:=f197,tl:=TL0,ps:=ps,rs:=[(i64,(roMd i64)),(i64,(roMd i64))],od:=[(1,[0,1,2,3,4,5,6,7,8,9,10,11,12,13,14,15])] }
noncomputable def sem (a:Arg):Option Out:=@lift Out fun k=>D.W k a
noncomputable def p (a1:Arg):Option Out:=if 0<=w64 ((2:Int)+(w64 ((2:Int)*a1.2.1))) then ((a1.1[(w64 ((2:Int)+(w64 ((2:Int)*a1.2.1)))).toNat]?).bind fun x2=>if 0<=w64 ((3:Int)+(w64 ((2:Int)*a1.2.1))) then ((a1.1[(w64 ((3:Int)+(w64 ((2:Int)*a1.2.1)))).toNat]?).bind fun x3=>some (w64 (x2.toNat:Int),w64 (x3.toNat:Int),())) else none) else none
theorem raw_eq (k:Nat) (a1:Arg):@Eq (Option Out) (D.W k a1) (p a1):=by kernel_rfl
theorem ok:Ok prog 197 D.sig:=fd_ok func197 tlOk (by kernel_rfl) (fn_nil _)
end impl_spot
namespace impl_PageFault
abbrev Arg:Type:=(List UInt8)×Unit
abbrev Out:Type:=Int×Unit
abbrev ps:PQ:=[(.ro,(.slc u8))]
noncomputable def D:FD:={ fn:=f126,tl:=TL0,ps:=ps,rs:=[(i64,(roMd i64))],gl:=[(127,impl_slots.D.sig),(197,impl_spot.D.sig)],lv:=[(7,[0,3,4,35,36]),(15,[0,3,8,66,67]),(19,[0,3,8,10,11,12,66,67])],lx:=[(0,[0,3]),(2,[0,3]),(4,[0,3,8,66,67])],od:=[(3,[0,2,3,4,5,1,6,7])] }
noncomputable def sem (a:Arg):Option Out:=@lift Out fun k=>D.W k a
noncomputable def T0 (a1:Arg) (c405:Int) (c406:Int) (v404:Int):St:={ n:=101,sl:=[(0,.val (.slc u8) a1.1),(3,.val i64 c405),(4,.val i64 c406),(35,.val i64 c405),(36,.val i64 v404)],vr:=[],lent:=[] }
noncomputable def S0 (rec:RT Out) (a1:Arg) (c405:Int) (c406:Int):(Int)->Option Out:=fun v404=>rec (T0 a1 c405 c406 v404)
noncomputable def X0_0 (K:KT Out) (a1:Arg) (c405:Int) (c406:Int):(Unit)->Option Out:=fun z=>K (.exit 0) ({ n:=101,sl:=[(0,.val (.slc u8) a1.1),(3,.val i64 c405)],vr:=[],lent:=[] })
noncomputable def b0 (self:Int->Option Out) (e0:(Unit)->Option Out) (a1:Arg) (c405:Int) (c406:Int) (v404:Int):Option Out:=bif decide (v404 < c405) then ((impl_spot.sem (a1.1,v404,())).bind fun r607=>bif !((decide (r607.1=(0:Int))) == (decide (r607.2.1=(0:Int)))) then (some ((3:Int),())) else bif !decide (r607.1=(0:Int)) then (bif decide (r607.1 < c406) then (some ((3:Int),())) else bif decide ((64:Int) < w64 (r607.1+r607.2.1)) then (some ((3:Int),())) else self (w64 (v404+(1:Int)))) else bif decide ((64:Int) < w64 (r607.1+r607.2.1)) then (some ((3:Int),())) else self (w64 (v404+(1:Int)))) else e0 ()
noncomputable abbrev B0 (_:Nat):=b0
theorem B0_eq (k:Nat) (rec:RT Out) (K:KT Out) (a1:Arg) (c405:Int) (c406:Int) (v404:Int):D.N k [1,1,1,1,0,1,0,0] (T0 a1 c405 c406 v404) (loopC rec (keepF [0,3,4,35,36] []) K)=b0 (S0 rec a1 c405 c406) (X0_0 K a1 c405 c406) a1 c405 c406 v404:=by kernel_rfl
noncomputable def T1 (a1:Arg) (v1009:(List UInt8)×Int×(List Bool)×Int×Int):St:={ n:=101,sl:=[(0,.val (.slc u8) v1009.1),(3,.val i64 v1009.2.1),(8,.box (.arr 64 .bool) (roMd (.arr 64 .bool)) [] v1009.2.2.1),(66,.val i64 v1009.2.2.2.1),(67,.val i64 v1009.2.2.2.2)],vr:=[],lent:=[] }
noncomputable def S1 (rec:RT Out) (a1:Arg):((List UInt8)×Int×(List Bool)×Int×Int)->Option Out:=fun v1009=>rec (T1 a1 v1009)
noncomputable def X1_2 (K:KT Out) (a1:Arg):((List UInt8)×Int)->Option Out:=fun z=>K (.exit 2) ({ n:=101,sl:=[(0,.val (.slc u8) z.1),(3,.val i64 z.2)],vr:=[],lent:=[] })
noncomputable def T2 (a1:Arg) (c1612:List UInt8) (c1613:Int) (c1614:Int) (c1615:Int) (c1616:Int) (c1617:Int) (v1611:(List Bool)×Int):St:={ n:=101,sl:=[(0,.val (.slc u8) c1612),(3,.val i64 c1613),(8,.box (.arr 64 .bool) (roMd (.arr 64 .bool)) [] v1611.1),(10,.val i64 c1614),(11,.val i64 c1615),(12,.val i64 v1611.2),(66,.val i64 c1616),(67,.val i64 c1617)],vr:=[],lent:=[] }
noncomputable def b2 (self:((List Bool)×Int)->Option Out) (e4:(List Bool)->Option Out) (a1:Arg) (c1612:List UInt8) (c1613:Int) (c1614:Int) (c1615:Int) (c1616:Int) (c1617:Int) (v1611:(List Bool)×Int):Option Out:=bif decide (v1611.2 < w64 (c1614+c1615)) then (if 0<=v1611.2/\v1611.2 < (v1611.1.length:Int) then ((v1611.1[v1611.2.toNat]?).bind fun x1818=>bif x1818 then (some ((8:Int),())) else if 0<=v1611.2/\v1611.2 < (v1611.1.length:Int) then ((v1611.1[v1611.2.toNat]?).bind fun x1819=>self (v1611.1.set v1611.2.toNat true,w64 (v1611.2+(1:Int)))) else none) else none) else e4 v1611.1
noncomputable abbrev B2 (_:Nat):=b2
noncomputable def q1 (self:((List UInt8)×Int×(List Bool)×Int×Int)->Option Out) (e2:((List UInt8)×Int)->Option Out) (a1:Arg) (c1612:List UInt8) (c1613:Int) (c1614:Int) (c1615:Int) (c1616:Int) (c1617:Int) (z1820:(List Bool)):Option Out:=self (c1612,c1613,z1820,c1616,w64 (c1617+(1:Int)))
noncomputable abbrev Q1 (_:Nat):=q1
noncomputable def s2 (k:Nat) (rec:RT Out) (K:KT Out) (a1:Arg):(List UInt8)->Int->Int->Int->Int->Int->((List Bool)×Int)->Option Out:=fun c1612 c1613 c1614 c1615 c1616 c1617=>fun v1611=>D.L k [1,1,1,1,1,1,0,1,0,0,1,1,0,0,1,1,1,0,0] [0,3,8,10,11,12,66,67] [] (blockC 4 (blockC 3 (seqC (D.N k [1,1,1,1,1,1,0,1,0,0,1,1,1]) (loopC rec (keepF [0,3,8,66,67] []) K)))) (T2 a1 c1612 c1613 c1614 c1615 c1616 c1617 v1611)
noncomputable def r2 (k:Nat) (self:((List UInt8)×Int×(List Bool)×Int×Int)->Option Out) (e2:((List UInt8)×Int)->Option Out) (a1:Arg):(List UInt8)->Int->Int->Int->Int->Int->((List Bool)×Int)->Option Out:=fun c1612 c1613 c1614 c1615 c1616 c1617=>rawIter (fun w v=>B2 k w (Q1 k self e2 a1 c1612 c1613 c1614 c1615 c1616 c1617) a1 c1612 c1613 c1614 c1615 c1616 c1617 v) k
theorem s2_eq (k:Nat) (rec:RT Out) (K:KT Out) (a1:Arg):s2 k rec K a1=r2 k (S1 rec a1) (X1_2 K a1) a1:=
 funext fun c1612=>funext fun c1613=>funext fun c1614=>funext fun c1615=>funext fun c1616=>funext fun c1617=>funext fun v1611=>iter_raw _ _ _ (T2 a1 c1612 c1613 c1614 c1615 c1616 c1617) _ (fun rec v=>by kernel_rfl) k v1611
noncomputable def b1 (self:((List UInt8)×Int×(List Bool)×Int×Int)->Option Out) (e2:((List UInt8)×Int)->Option Out) (l2:(List UInt8)->Int->Int->Int->Int->Int->((List Bool)×Int)->Option Out) (a1:Arg) (v1009:(List UInt8)×Int×(List Bool)×Int×Int):Option Out:=bif decide (v1009.2.2.2.2 < v1009.2.2.2.1) then ((impl_spot.sem (v1009.1,v1009.2.2.2.2,())).bind fun r1210=>l2 v1009.1 v1009.2.1 r1210.1 r1210.2.1 v1009.2.2.2.1 v1009.2.2.2.2 (v1009.2.2.1,r1210.1)) else e2 (v1009.1,v1009.2.1)
noncomputable def B1 (k:Nat) (self:((List UInt8)×Int×(List Bool)×Int×Int)->Option Out) (e2:((List UInt8)×Int)->Option Out) (a1:Arg) (v1009:(List UInt8)×Int×(List Bool)×Int×Int):Option Out:=b1 self e2 (r2 k self e2 a1) a1 v1009
theorem B1_eq (k:Nat) (rec:RT Out) (K:KT Out) (a1:Arg) (v1009:(List UInt8)×Int×(List Bool)×Int×Int):D.N k [1,1,1,1,1,1,0,1,0,0] (T1 a1 v1009) (loopC rec (keepF [0,3,8,66,67] []) K)=B1 k (S1 rec a1) (X1_2 K a1) a1 v1009:=
 Eq.trans (b:=b1 (S1 rec a1) (X1_2 K a1) (s2 k rec K a1) a1 v1009) (by kernel_rfl) (by rw[s2_eq];rfl)
noncomputable def q2 (a1:Arg) (z1821:((List UInt8)×Int)):Option Out:=bif decide ((0:Int) < z1821.2) then (if 0<=w64 ((w64 ((2:Int)*z1821.2))+(1:Int)) then ((z1821.1[(w64 ((w64 ((2:Int)*z1821.2))+(1:Int))).toNat]?).bind fun x1822=>bif decide ((x1822.toNat:Int)=(0:Int)) then (some ((8:Int),())) else some ((0:Int),())) else none) else some ((0:Int),())
noncomputable abbrev Q2 (_:Nat):=q2
theorem Q2_eq (k:Nat) (a1:Arg) (z1821:((List UInt8)×Int)):X1_2 (blockC 2 (seqC (D.N k [1,1,1,1,1,1,1]) D.K0)) a1 z1821=q2 a1 z1821:=by kernel_rfl
noncomputable def s1 (k:Nat) (a1:Arg) (c405:Int) (c406:Int):((List UInt8)×Int×(List Bool)×Int×Int)->Option Out:=fun v1009=>D.L k [1,1,1,1,1,1,0,1,0,0] [0,3,8,66,67] [] (blockC 2 (seqC (D.N k [1,1,1,1,1,1,1]) D.K0)) (T1 a1 v1009)
noncomputable def r1 (k:Nat) (a1:Arg) (c405:Int) (c406:Int):((List UInt8)×Int×(List Bool)×Int×Int)->Option Out:=rawIter (fun w v=>B1 k w (Q2 k a1) a1 v) k
theorem s1_eq (k:Nat) (a1:Arg) (c405:Int) (c406:Int):s1 k a1 c405 c406=r1 k a1 c405 c406:=by
 funext v1009;
 have h2:X1_2 (blockC 2 (seqC (D.N k [1,1,1,1,1,1,1]) D.K0)) a1=Q2 k a1:=funext fun z=>Q2_eq k a1 z
 refine (iter_raw _ _ _ (T1 a1) (fun self v=>B1 k self (X1_2 (blockC 2 (seqC (D.N k [1,1,1,1,1,1,1]) D.K0)) a1) a1 v) (fun rec v=>B1_eq k rec (blockC 2 (seqC (D.N k [1,1,1,1,1,1,1]) D.K0)) a1 v) k v1009).trans ?_
 rw[h2]
 rfl
noncomputable def q0 (l1:((List UInt8)×Int×(List Bool)×Int×Int)->Option Out) (a1:Arg) (c405:Int) (c406:Int) (z608:(Unit)):Option Out:=l1 (a1.1,c405,List.replicate 64 false,c405,(0:Int))
noncomputable def Q0 (k:Nat) (a1:Arg) (c405:Int) (c406:Int) (z608:(Unit)):Option Out:=q0 (r1 k a1 c405 c406) a1 c405 c406 z608
theorem Q0_eq (k:Nat) (a1:Arg) (c405:Int) (c406:Int) (z608:(Unit)):X0_0 (blockC 0 (seqC (D.N k [1,1,1,1,1]) D.K0)) a1 c405 c406 z608=Q0 k a1 c405 c406 z608:=
 Eq.trans (b:=q0 (s1 k a1 c405 c406) a1 c405 c406 z608) (by kernel_rfl) (by rw[s1_eq];rfl)
noncomputable def s0 (k:Nat) (a1:Arg):Int->Int->(Int)->Option Out:=fun c405 c406=>fun v404=>D.L k [1,1,1,1,0,1,0,0] [0,3,4,35,36] [] (blockC 0 (seqC (D.N k [1,1,1,1,1]) D.K0)) (T0 a1 c405 c406 v404)
noncomputable def r0 (k:Nat) (a1:Arg):Int->Int->(Int)->Option Out:=fun c405 c406=>rawIter (fun w v=>B0 k w (Q0 k a1 c405 c406) a1 c405 c406 v) k
theorem s0_eq (k:Nat) (a1:Arg):s0 k a1=r0 k a1:=by
 funext c405;funext c406;funext v404;
 have h0:X0_0 (blockC 0 (seqC (D.N k [1,1,1,1,1]) D.K0)) a1 c405 c406=Q0 k a1 c405 c406:=funext fun z=>Q0_eq k a1 c405 c406 z
 refine (iter_raw _ _ _ (T0 a1 c405 c406) (fun self v=>B0 k self (X0_0 (blockC 0 (seqC (D.N k [1,1,1,1,1]) D.K0)) a1 c405 c406) a1 c405 c406 v) (fun rec v=>B0_eq k rec (blockC 0 (seqC (D.N k [1,1,1,1,1]) D.K0)) a1 c405 c406 v) k v404).trans ?_
 rw[h0]
 rfl
noncomputable def p (l0:Int->Int->(Int)->Option Out) (a1:Arg):Option Out:=bif !decide ((a1.1.length:Int)=(64:Int)) then (some ((1:Int),())) else (a1.1[1]?).bind fun x2=>(impl_slots.sem (a1.1,())).bind fun r3=>bif decide ((16:Int) < r3.1) then (some ((3:Int),())) else bif decide (w64 (x2.toNat:Int) < w64 ((2:Int)+(w64 ((2:Int)*r3.1)))) then (some ((3:Int),())) else bif decide ((64:Int) < w64 (x2.toNat:Int)) then (some ((3:Int),())) else l0 r3.1 (w64 (x2.toNat:Int)) (0:Int)
theorem raw_eq (k:Nat) (a1:Arg):@Eq (Option Out) (D.W k a1) (p (r0 k a1) a1):=
 Eq.trans (b:=p (s0 k a1) a1) (by kernel_rfl) (by rw[s0_eq])
theorem ok:Ok prog 126 D.sig:=fd_ok func126 tlOk (by kernel_rfl) (fc impl_slots.ok (fc impl_spot.ok (fn_nil _)))
end impl_PageFault
namespace impl_hasSlot
abbrev Arg:Type:=(List UInt8)×Int×Unit
abbrev Out:Type:=Bool×Unit
abbrev ps:PQ:=[(.ro,(.slc u8)),(.ro,i64)]
noncomputable def D:FD:={ fn:=f128,tl:=TL0,ps:=ps,rs:=[(.bool,(roMd .bool))],gl:=[(127,impl_slots.D.sig)] }
noncomputable def sem (a:Arg):Option Out:=@lift Out fun k=>D.W k a
noncomputable def p (a1:Arg):Option Out:=bif decide ((0:Int)<=a1.2.1) then ((impl_slots.sem (a1.1,())).bind fun r2=>bif decide (a1.2.1 < r2.1) then (if 0<=w64 ((3:Int)+(w64 ((2:Int)*a1.2.1))) then ((a1.1[(w64 ((3:Int)+(w64 ((2:Int)*a1.2.1)))).toNat]?).bind fun x3=>some (!decide ((x3.toNat:Int)=(0:Int)),())) else none) else some (false,())) else some (false,())
theorem raw_eq (k:Nat) (a1:Arg):@Eq (Option Out) (D.W k a1) (p a1):=by kernel_rfl
theorem ok:Ok prog 128 D.sig:=fd_ok func128 tlOk (by kernel_rfl) (fc impl_slots.ok (fn_nil _))
end impl_hasSlot
namespace impl_RowFault
abbrev Arg:Type:=Row×Unit
abbrev Out:Type:=Int×Unit
abbrev ps:PQ:=[(.ro,tRow)]
noncomputable def D:FD:={ fn:=f198,tl:=TL0,ps:=ps,rs:=[(i64,(roMd i64))],gl:=[(61,impl_in.D.sig)],lv:=[(6,[1,26,27])],lx:=[(0,[])] }
noncomputable def sem (a:Arg):Option Out:=@lift Out fun k=>D.W k a
noncomputable def T0 (a1:Arg) (v405:Int):St:={ n:=43,sl:=[(1,.box tRow (roMd tRow) [] a1.1),(26,.val i64 (a1.1.2.2.2.1.length:Int)),(27,.val i64 v405)],vr:=[],lent:=[] }
noncomputable def b0 (self:Int->Option Out) (e0:(Unit)->Option Out) (a1:Arg) (v405:Int):Option Out:=bif decide (v405 < (a1.1.2.2.2.1.length:Int)) then (if 0<=v405 then ((a1.1.2.2.2.1[v405.toNat]?).bind fun x606=>bif decide ((x606.toNat:Int) < (97:Int)) then (some ((5:Int),())) else if 0<=v405 then ((a1.1.2.2.2.1[v405.toNat]?).bind fun x607=>bif decide ((122:Int) < (x607.toNat:Int)) then (some ((5:Int),())) else self (w64 (v405+(1:Int)))) else none) else none) else e0 ()
noncomputable abbrev B0 (_:Nat):=b0
noncomputable def q0 (a1:Arg) (z608:(Unit)):Option Out:=some ((0:Int),())
noncomputable abbrev Q0 (_:Nat):=q0
noncomputable def s0 (k:Nat) (a1:Arg):(Int)->Option Out:=fun v405=>D.L k [1,1,1,0,1,0,0] [1,26,27] [] (blockC 0 (seqC (D.N k [1,1,1,1]) D.K0)) (T0 a1 v405)
noncomputable def r0 (k:Nat) (a1:Arg):(Int)->Option Out:=rawIter (fun w v=>B0 k w (Q0 k a1) a1 v) k
theorem s0_eq (k:Nat) (a1:Arg):s0 k a1=r0 k a1:=
 funext fun v405=>iter_raw _ _ _ (T0 a1) _ (fun rec v=>by kernel_rfl) k v405
noncomputable def p (l0:(Int)->Option Out) (a1:Arg):Option Out:=(impl_in.sem (a1.1.1,(0:Int),(3:Int),())).bind fun r2=>bif !r2.1 then (some ((3:Int),())) else (impl_in.sem (a1.1.2.1,(1:Int),(99:Int),())).bind fun r3=>bif !r3.1 then (some ((3:Int),())) else (impl_in.sem (a1.1.2.2.1,(0:Int),(999:Int),())).bind fun r4=>bif !r4.1 then (some ((3:Int),())) else bif decide ((8:Int) < (a1.1.2.2.2.1.length:Int)) then (some ((5:Int),())) else l0 (0:Int)
theorem raw_eq (k:Nat) (a1:Arg):@Eq (Option Out) (D.W k a1) (p (r0 k a1) a1):=
 Eq.trans (b:=p (s0 k a1) a1) (by kernel_rfl) (by rw[s0_eq])
theorem ok:Ok prog 198 D.sig:=fd_ok func198 tlOk (by kernel_rfl) (fc impl_in.ok (fn_nil _))
end impl_RowFault
namespace impl_UnpackCell
abbrev Arg:Type:=(List UInt8)×Unit
abbrev Out:Type:=CellResult×Unit
abbrev ps:PQ:=[(.ro,(.slc u8))]
noncomputable def D:FD:={ fn:=f129,tl:=TL0,ps:=ps,rs:=[(tCellResult,(roMd tCellResult))],gl:=[(198,impl_RowFault.D.sig)],od:=[(2,[0,1,2,3,4,5,6,7,8,9]),(5,[0,1,2,3,4,5,6,7,8,9,10,11,12,13,14,15,16,17,18,19,20,21,22,23]),(8,[0,1,2,3,4,5,6])] }
noncomputable def sem (a:Arg):Option Out:=@lift Out fun k=>D.W k a
noncomputable def p (a1:Arg):Option Out:=let j25:Option Out:=let j37:Option Out:=(a1.1[1]?).bind fun x38=>(a1.1[2]?).bind fun x39=>(a1.1[3]?).bind fun x40=>(a1.1[4]?).bind fun x41=>if 0<=(6:Int)/\(6:Int)<=(a1.1.length:Int) then (let y42:=w64 ((BitVec.ofInt 64 (w64 ((w64 (x40.toNat:Int))*2 ^ 8)) ||| BitVec.ofInt 64 (w64 (x41.toNat:Int))).toNat:Int);(impl_RowFault.sem ((w64 (x38.toNat:Int),w64 (x39.toNat:Int),y42,(a1.1.take a1.1.length).drop 6,()),())).bind fun r43=>bif !decide (r43.1=(0:Int)) then (some (((5:Int),(0:Int),(0:Int),(0:Int),((0:Int),(0:Int),(0:Int),([]:List UInt8),()),()),())) else (a1.1[0]?).bind fun x44=>some (((0:Int),w64 (x44.toNat:Int),(0:Int),(0:Int),(w64 (x38.toNat:Int),w64 (x39.toNat:Int),y42,(a1.1.take a1.1.length).drop 6,()),()),())) else none;bif decide ((a1.1.length:Int) < (6:Int)) then (some (((5:Int),(0:Int),(0:Int),(0:Int),((0:Int),(0:Int),(0:Int),([]:List UInt8),()),()),())) else (a1.1[0]?).bind fun x26=>bif !decide ((x26.toNat:Int)=(0:Int)) then ((a1.1[0]?).bind fun x27=>bif !decide ((x27.toNat:Int)=(2:Int)) then (some (((5:Int),(0:Int),(0:Int),(0:Int),((0:Int),(0:Int),(0:Int),([]:List UInt8),()),()),())) else (a1.1[5]?).bind fun x28=>bif !decide ((a1.1.length:Int)=w64 ((6:Int)+(w64 (x28.toNat:Int)))) then (some (((5:Int),(0:Int),(0:Int),(0:Int),((0:Int),(0:Int),(0:Int),([]:List UInt8),()),()),())) else j37) else (a1.1[5]?).bind fun x29=>bif !decide ((a1.1.length:Int)=w64 ((6:Int)+(w64 (x29.toNat:Int)))) then (some (((5:Int),(0:Int),(0:Int),(0:Int),((0:Int),(0:Int),(0:Int),([]:List UInt8),()),()),())) else j37;bif decide ((a1.1.length:Int)=(3:Int)) then ((a1.1[0]?).bind fun x2=>bif decide ((x2.toNat:Int)=(1:Int)) then ((a1.1[1]?).bind fun x3=>bif decide ((x3.toNat:Int) < (12:Int)) then ((a1.1[2]?).bind fun x4=>bif decide ((x4.toNat:Int) < (16:Int)) then ((a1.1[1]?).bind fun x5=>(a1.1[2]?).bind fun x6=>some (((0:Int),(1:Int),w64 (x5.toNat:Int),w64 (x6.toNat:Int),((0:Int),(0:Int),(0:Int),([]:List UInt8),()),()),())) else j25) else j25) else j25) else j25
theorem raw_eq (k:Nat) (a1:Arg):@Eq (Option Out) (D.W k a1) (p a1):=by kernel_rfl
theorem ok:Ok prog 129 D.sig:=fd_ok func129 tlOk (by kernel_rfl) (fc impl_RowFault.ok (fn_nil _))
end impl_UnpackCell
namespace impl_cellAt
abbrev Arg:Type:=(List UInt8)×Int×Unit
abbrev Out:Type:=(List UInt8)×Unit
abbrev ps:PQ:=[(.ro,(.slc u8)),(.ro,i64)]
noncomputable def D:FD:={ fn:=f130,tl:=TL0,ps:=ps,rs:=[((.slc u8),(roMd (.slc u8)))],gl:=[(197,impl_spot.D.sig)] }
noncomputable def sem (a:Arg):Option Out:=@lift Out fun k=>D.W k a
noncomputable def p (a1:Arg):Option Out:=(impl_spot.sem (a1.1,a1.2.1,())).bind fun r2=>if 0<=r2.1/\r2.1<=w64 (r2.1+r2.2.1)/\w64 (r2.1+r2.2.1)<=(a1.1.length:Int) then (some ((a1.1.take (w64 (r2.1+r2.2.1)).toNat).drop r2.1.toNat,())) else none
theorem raw_eq (k:Nat) (a1:Arg):@Eq (Option Out) (D.W k a1) (p a1):=by kernel_rfl
theorem ok:Ok prog 130 D.sig:=fd_ok func130 tlOk (by kernel_rfl) (fc impl_spot.ok (fn_nil _))
end impl_cellAt
namespace impl_IsBefore
abbrev Arg:Type:=Row×Row×Unit
abbrev Out:Type:=Bool×Unit
abbrev ps:PQ:=[(.ro,tRow),(.ro,tRow)]
noncomputable def D:FD:={ fn:=f202,tl:=TL0,ps:=ps,rs:=[(.bool,(roMd .bool))] }
noncomputable def sem (a:Arg):Option Out:=@lift Out fun k=>D.W k a
noncomputable def p (a1:Arg):Option Out:=bif decide (a1.1.1 < a1.2.1.1) then (some (true,())) else bif decide (a1.1.1=a1.2.1.1) then (some (decide (a1.1.2.1 < a1.2.1.2.1),())) else some (false,())
theorem raw_eq (k:Nat) (a1:Arg):@Eq (Option Out) (D.W k a1) (p a1):=by kernel_rfl
theorem ok:Ok prog 202 D.sig:=fd_ok func202 tlOk (by kernel_rfl) (fn_nil _)
end impl_IsBefore
namespace impl_order
abbrev Arg:Type:=Row×Row×Unit
abbrev Out:Type:=Int×Unit
abbrev ps:PQ:=[(.ro,tRow),(.ro,tRow)]
noncomputable def D:FD:={ fn:=f201,tl:=TL0,ps:=ps,rs:=[(i64,(roMd i64))],gl:=[(202,impl_IsBefore.D.sig)] }
noncomputable def sem (a:Arg):Option Out:=@lift Out fun k=>D.W k a
noncomputable def p (a1:Arg):Option Out:=(impl_IsBefore.sem (a1.1,a1.2.1,())).bind fun r2=>bif r2.1 then (some ((-1:Int),())) else (impl_IsBefore.sem (a1.2.1,a1.1,())).bind fun r3=>bif r3.1 then (some ((1:Int),())) else some ((0:Int),())
theorem raw_eq (k:Nat) (a1:Arg):@Eq (Option Out) (D.W k a1) (p a1):=by kernel_rfl
theorem ok:Ok prog 201 D.sig:=fd_ok func201 tlOk (by kernel_rfl) (fc impl_IsBefore.ok (fn_nil _))
end impl_order
namespace impl_look_1
abbrev Arg:Type:=Seen×Seen×Unit
abbrev Out:Type:=Int×Unit
abbrev ps:PQ:=[(.ro,tSeen),(.ro,tSeen)]
noncomputable def D:FD:={ fn:=f200,tl:=TL0,ps:=ps,rs:=[(i64,(roMd i64))],gl:=[(201,impl_order.D.sig)] }
noncomputable def sem (a:Arg):Option Out:=@lift Out fun k=>D.W k a
noncomputable def p (a1:Arg):Option Out:=(impl_order.sem (a1.1.1,a1.2.1.1,())).bind fun r2=>some (r2.1,())
theorem raw_eq (k:Nat) (a1:Arg):@Eq (Option Out) (D.W k a1) (p a1):=by kernel_rfl
theorem ok:Ok prog 200 D.sig:=fd_ok func200 tlOk (by kernel_rfl) (fc impl_order.ok (fn_nil _))
end impl_look_1
namespace slices_SortFunc_seen
open Go.Proofs
abbrev Arg:Type:=(List Seen)×(Nat×Int)×Unit
abbrev Out:Type:=(List Seen)×Unit
noncomputable def sem (a:Arg):Option Out:=(sortF tSeen impl_look_1.sem a.1).map fun r=>(r,())
noncomputable def sig:Sig:={ ps:=[(.muts (ownMd (.slc tSeen)),.slc tSeen),(.fix 200,.fn)],rs:=[],F:=sem }
def sortlay_ren:Go.Shelf.Ren:=⟨fun | 6=>199 | 15=>266 | 14=>265 | 28=>308 | 29=>309 | 20=>300 | 21=>301 | 22=>302 | 23=>303 | 24=>304 | 25=>305 | 26=>306 | 27=>307 | 46=>314 | 47=>315 | 48=>316 | 49=>317 | 50=>318 | 57=>320 | n=>n,fun | 22=>104 | 24=>187 | 25=>266 | 3=>3 | 39=>258 | 0=>0 | 53=>355 | 55=>357 | 4=>4 | 46=>349 | 45=>348 | 50=>336 | 5=>5 | 9=>9 | 66=>362 | 70=>366 | 76=>368 | 77=>255 | n=>n,fun | n=>n⟩
theorem sortlay:Go.Proofs.SlLaysF0.n6 Tryz.prog sortlay_ren:={
 mixed:=by kernel_rfl
 f6:=⟨Tryz.f199.name,by decide,Tryz.func199.trans (congrArg some (by kernel_rfl))⟩
 f14:=⟨Tryz.f265.name,by decide,Tryz.func265.trans (congrArg some (by kernel_rfl))⟩
 f15:=Tryz.func266.trans (congrArg some (by kernel_rfl))
 f20:=⟨Tryz.f300.name,by decide,Tryz.func300.trans (congrArg some (by kernel_rfl))⟩
 f21:=⟨Tryz.f301.name,by decide,Tryz.func301.trans (congrArg some (by kernel_rfl))⟩
 f22:=⟨Tryz.f302.name,by decide,Tryz.func302.trans (congrArg some (by kernel_rfl))⟩
 f23:=⟨Tryz.f303.name,by decide,Tryz.func303.trans (congrArg some (by kernel_rfl))⟩
 f24:=⟨Tryz.f304.name,by decide,Tryz.func304.trans (congrArg some (by kernel_rfl))⟩
 f25:=⟨Tryz.f305.name,by decide,Tryz.func305.trans (congrArg some (by kernel_rfl))⟩
 f26:=⟨Tryz.f306.name,by decide,Tryz.func306.trans (congrArg some (by kernel_rfl))⟩
 f27:=⟨Tryz.f307.name,by decide,Tryz.func307.trans (congrArg some (by kernel_rfl))⟩
 f28:=Tryz.func308.trans (congrArg some (by kernel_rfl))
 f29:=Tryz.func309.trans (congrArg some (by kernel_rfl))
 f46:=⟨Tryz.f314.name,by decide,Tryz.func314.trans (congrArg some (by kernel_rfl))⟩
 f47:=Tryz.func315.trans (congrArg some (by kernel_rfl))
 f48:=Tryz.func316.trans (congrArg some (by kernel_rfl))
 f49:=⟨Tryz.f317.name,by decide,Tryz.func317.trans (congrArg some (by kernel_rfl))⟩
 f50:=⟨Tryz.f318.name,by decide,Tryz.func318.trans (congrArg some (by kernel_rfl))⟩
 f57:=⟨Tryz.f320.name,by decide,Tryz.func320.trans (congrArg some (by kernel_rfl))⟩
 t0:=Tryz.underlying0
 a0:=Tryz.isAgg0
 z0:=Tryz.sizeOf0
 v0:=Tryz.zeroValue0
 t3:=Tryz.underlying3
 a3:=Tryz.isAgg3
 z3:=Tryz.sizeOf3
 v3:=Tryz.zeroValue3
 t4:=Tryz.underlying4
 a4:=Tryz.isAgg4
 z4:=Tryz.sizeOf4
 v4:=Tryz.zeroValue4
 t5:=Tryz.underlying5
 a5:=Tryz.isAgg5
 z5:=Tryz.sizeOf5
 v5:=Tryz.zeroValue5
 t9:=Tryz.underlying9
 a9:=Tryz.isAgg9
 z9:=Tryz.sizeOf9
 v9:=Tryz.zeroValue9
 t22:=Tryz.underlying104
 a22:=Tryz.isAgg104
 z22:=Tryz.sizeOf104
 v22:=Tryz.zeroValue104
 t25:=Tryz.underlying266
 a25:=Tryz.isAgg266
 z25:=Tryz.sizeOf266
 v25:=Tryz.zeroValue266
 t39:=Tryz.underlying258
 a39:=Tryz.isAgg258
 z39:=Tryz.sizeOf258
 v39:=Tryz.zeroValue258
 t45:=Tryz.underlying348
 a45:=Tryz.isAgg348
 z45:=Tryz.sizeOf348
 v45:=Tryz.zeroValue348
 t46:=Tryz.underlying349
 a46:=Tryz.isAgg349
 z46:=Tryz.sizeOf349
 v46:=Tryz.zeroValue349
 t50:=Tryz.underlying336
 a50:=Tryz.isAgg336
 z50:=Tryz.sizeOf336
 v50:=Tryz.zeroValue336
 t53:=Tryz.underlying355
 a53:=Tryz.isAgg355
 z53:=Tryz.sizeOf355
 v53:=Tryz.zeroValue355
 t55:=Tryz.underlying357
 a55:=Tryz.isAgg357
 z55:=Tryz.sizeOf357
 v55:=Tryz.zeroValue357
 t66:=Tryz.underlying362
 a66:=Tryz.isAgg362
 z66:=Tryz.sizeOf362
 v66:=Tryz.zeroValue362
 t70:=Tryz.underlying366
 a70:=Tryz.isAgg366
 z70:=Tryz.sizeOf366
 v70:=Tryz.zeroValue366
 t76:=Tryz.underlying368
 a76:=Tryz.isAgg368
 z76:=Tryz.sizeOf368
 v76:=Tryz.zeroValue368
 t77:=Tryz.underlying255
 a77:=Tryz.isAgg255
 z77:=Tryz.sizeOf255
 v77:=Tryz.zeroValue255 }
theorem ok:Ok prog 199 sig:=sort_ok (e:=tSeen) sortlay rfl rfl (by kernel_rfl) (by decide) (g:=200) (cF:=impl_look_1.sem) impl_look_1.ok ⟨f199,func199,by kernel_rfl,by kernel_rfl,by kernel_rfl⟩
end slices_SortFunc_seen
namespace impl_look
abbrev Arg:Type:=(List (List UInt8))×Unit
abbrev Out:Type:=(List Seen)×Int×Unit
abbrev ps:PQ:=[(.ro,(.slc (.slc u8)))]
noncomputable def D:FD:={ fn:=f131,tl:=TL0,ps:=ps,rs:=[((.slc tSeen),(ownMd (.slc tSeen))),(i64,(roMd i64))],gl:=[(127,impl_slots.D.sig),(128,impl_hasSlot.D.sig),(129,impl_UnpackCell.D.sig),(130,impl_cellAt.D.sig),(199,slices_SortFunc_seen.sig),(202,impl_IsBefore.D.sig)],lv:=[(4,[4,5,6,21,22,23]),(7,[4,5,6,7,8,21,22,23,29,30]),(21,[4,5,6,81,82,83]),(29,[4,5,6,15,101,102,103]),(40,[4,19])],lx:=[(0,[4,5,6]),(2,[4,5,6,21,22,23]),(3,[4,5,6,7,8,21,22,23,29,30]),(5,[4,5,6]),(7,[4]),(9,[4])],od:=[(42,[0,1,2,3,4,5,6,7,8,9,10,11,12])] }
noncomputable def sem (a:Arg):Option Out:=@lift Out fun k=>D.W k a
noncomputable def T0 (a1:Arg) (v402:(List Seen)×(List Seen)×(List ((List Int)×Row))×(List (List UInt8))×Int×Int):St:={ n:=148,sl:=[(4,.own (.slc tSeen) (ownMd (.slc tSeen)) [] v402.1),(5,.own (.slc tSeen) (ownMd (.slc tSeen)) [] v402.2.1),(6,.own (.map (.arr 2 i64) tRow) (ownMd (.map (.arr 2 i64) tRow)) [] v402.2.2.1),(21,.val (.slc (.slc u8)) v402.2.2.2.1),(22,.val i64 v402.2.2.2.2.1),(23,.val i64 v402.2.2.2.2.2)],vr:=[],lent:=[] }
noncomputable def S0 (rec:RT Out) (a1:Arg):((List Seen)×(List Seen)×(List ((List Int)×Row))×(List (List UInt8))×Int×Int)->Option Out:=fun v402=>rec (T0 a1 v402)
noncomputable def X0_0 (K:KT Out) (a1:Arg):((List Seen)×(List Seen)×(List ((List Int)×Row)))->Option Out:=fun z=>K (.exit 0) ({ n:=148,sl:=[(4,.own (.slc tSeen) (ownMd (.slc tSeen)) [] z.1),(5,.own (.slc tSeen) (ownMd (.slc tSeen)) [] z.2.1),(6,.own (.map (.arr 2 i64) tRow) (ownMd (.map (.arr 2 i64) tRow)) [] z.2.2)],vr:=[],lent:=[] })
noncomputable def T1 (a1:Arg) (c1006:Int) (c1007:List UInt8) (c1008:List (List UInt8)) (c1009:Int) (c1010:Int) (v1005:(List Seen)×(List Seen)×(List ((List Int)×Row))×Int):St:={ n:=148,sl:=[(4,.own (.slc tSeen) (ownMd (.slc tSeen)) [] v1005.1),(5,.own (.slc tSeen) (ownMd (.slc tSeen)) [] v1005.2.1),(6,.own (.map (.arr 2 i64) tRow) (ownMd (.map (.arr 2 i64) tRow)) [] v1005.2.2.1),(7,.val i64 c1006),(8,.val (.slc u8) c1007),(21,.val (.slc (.slc u8)) c1008),(22,.val i64 c1009),(23,.val i64 c1006),(29,.val i64 c1010),(30,.val i64 v1005.2.2.2)],vr:=[],lent:=[] }
noncomputable def b1 (self:((List Seen)×(List Seen)×(List ((List Int)×Row))×Int)->Option Out) (e2:((List Seen)×(List Seen)×(List ((List Int)×Row)))->Option Out) (a1:Arg) (c1006:Int) (c1007:List UInt8) (c1008:List (List UInt8)) (c1009:Int) (c1010:Int) (v1005:(List Seen)×(List Seen)×(List ((List Int)×Row))×Int):Option Out:=bif decide (v1005.2.2.2 < c1010) then ((impl_hasSlot.sem (c1007,v1005.2.2.2,())).bind fun r1211=>bif !r1211.1 then (self (v1005.1,v1005.2.1,v1005.2.2.1,w64 (v1005.2.2.2+(1:Int)))) else (impl_cellAt.sem (c1007,v1005.2.2.2,())).bind fun r1212=>(impl_UnpackCell.sem (r1212.1,())).bind fun r1213=>bif !decide (r1213.1.1=(0:Int)) then (some (([]:List Seen),(5:Int),())) else bif decide (r1213.1.2.1=(0:Int)) then (if v1005.1.length+[(r1213.1.2.2.2.2.1,c1006,v1005.2.2.2,false,c1006,v1005.2.2.2,())].length<=CAP then (let y1214:=v1005.1++[(r1213.1.2.2.2.2.1,c1006,v1005.2.2.2,false,c1006,v1005.2.2.2,())];self (y1214,v1005.2.1,v1005.2.2.1,w64 (v1005.2.2.2+(1:Int)))) else none) else bif decide (r1213.1.2.1=(2:Int)) then (if 0 < (List.replicate 2 (0:Int)).length then (if 1 < ((List.replicate 2 (0:Int)).set 0 c1006).length then (let y1215:=mapPut (.arr 2 i64) v1005.2.2.1 (((List.replicate 2 (0:Int)).set 0 c1006).set 1 v1005.2.2.2) r1213.1.2.2.2.2.1;self (v1005.1,v1005.2.1,y1215,w64 (v1005.2.2.2+(1:Int)))) else none) else none) else if v1005.2.1.length+[(((0:Int),(0:Int),(0:Int),([]:List UInt8),()),c1006,v1005.2.2.2,true,r1213.1.2.2.1,r1213.1.2.2.2.1,())].length<=CAP then (let y1216:=v1005.2.1++[(((0:Int),(0:Int),(0:Int),([]:List UInt8),()),c1006,v1005.2.2.2,true,r1213.1.2.2.1,r1213.1.2.2.2.1,())];self (v1005.1,y1216,v1005.2.2.1,w64 (v1005.2.2.2+(1:Int)))) else none) else e2 (v1005.1,v1005.2.1,v1005.2.2.1)
noncomputable abbrev B1 (_:Nat):=b1
noncomputable def q0 (self:((List Seen)×(List Seen)×(List ((List Int)×Row))×(List (List UInt8))×Int×Int)->Option Out) (e0:((List Seen)×(List Seen)×(List ((List Int)×Row)))->Option Out) (a1:Arg) (c1006:Int) (c1007:List UInt8) (c1008:List (List UInt8)) (c1009:Int) (c1010:Int) (z1217:((List Seen)×(List Seen)×(List ((List Int)×Row)))):Option Out:=self (z1217.1,z1217.2.1,z1217.2.2,c1008,c1009,w64 (c1006+(1:Int)))
noncomputable abbrev Q0 (_:Nat):=q0
noncomputable def s1 (k:Nat) (rec:RT Out) (K:KT Out) (a1:Arg):Int->(List UInt8)->(List (List UInt8))->Int->Int->((List Seen)×(List Seen)×(List ((List Int)×Row))×Int)->Option Out:=fun c1006 c1007 c1008 c1009 c1010=>fun v1005=>D.L k [1,1,1,0,1,0,0,1,1,0,0,1,1,0,0] [4,5,6,7,8,21,22,23,29,30] [] (blockC 2 (blockC 1 (seqC (D.N k [1,1,1,0,1,0,0,1,1,1]) (loopC rec (keepF [4,5,6,21,22,23] []) K)))) (T1 a1 c1006 c1007 c1008 c1009 c1010 v1005)
noncomputable def r1 (k:Nat) (self:((List Seen)×(List Seen)×(List ((List Int)×Row))×(List (List UInt8))×Int×Int)->Option Out) (e0:((List Seen)×(List Seen)×(List ((List Int)×Row)))->Option Out) (a1:Arg):Int->(List UInt8)->(List (List UInt8))->Int->Int->((List Seen)×(List Seen)×(List ((List Int)×Row))×Int)->Option Out:=fun c1006 c1007 c1008 c1009 c1010=>rawIter (fun w v=>B1 k w (Q0 k self e0 a1 c1006 c1007 c1008 c1009 c1010) a1 c1006 c1007 c1008 c1009 c1010 v) k
theorem s1_eq (k:Nat) (rec:RT Out) (K:KT Out) (a1:Arg):s1 k rec K a1=r1 k (S0 rec a1) (X0_0 K a1) a1:=
 funext fun c1006=>funext fun c1007=>funext fun c1008=>funext fun c1009=>funext fun c1010=>funext fun v1005=>iter_raw _ _ _ (T1 a1 c1006 c1007 c1008 c1009 c1010) _ (fun rec v=>by kernel_rfl) k v1005
noncomputable def b0 (self:((List Seen)×(List Seen)×(List ((List Int)×Row))×(List (List UInt8))×Int×Int)->Option Out) (e0:((List Seen)×(List Seen)×(List ((List Int)×Row)))->Option Out) (l1:Int->(List UInt8)->(List (List UInt8))->Int->Int->((List Seen)×(List Seen)×(List ((List Int)×Row))×Int)->Option Out) (a1:Arg) (v402:(List Seen)×(List Seen)×(List ((List Int)×Row))×(List (List UInt8))×Int×Int):Option Out:=bif decide (v402.2.2.2.2.2 < v402.2.2.2.2.1) then (if 0<=v402.2.2.2.2.2 then ((v402.2.2.2.1[v402.2.2.2.2.2.toNat]?).bind fun x603=>(impl_slots.sem (x603,())).bind fun r604=>l1 v402.2.2.2.2.2 x603 v402.2.2.2.1 v402.2.2.2.2.1 r604.1 (v402.1,v402.2.1,v402.2.2.1,(0:Int))) else none) else e0 (v402.1,v402.2.1,v402.2.2.1)
noncomputable def B0 (k:Nat) (self:((List Seen)×(List Seen)×(List ((List Int)×Row))×(List (List UInt8))×Int×Int)->Option Out) (e0:((List Seen)×(List Seen)×(List ((List Int)×Row)))->Option Out) (a1:Arg) (v402:(List Seen)×(List Seen)×(List ((List Int)×Row))×(List (List UInt8))×Int×Int):Option Out:=b0 self e0 (r1 k self e0 a1) a1 v402
theorem B0_eq (k:Nat) (rec:RT Out) (K:KT Out) (a1:Arg) (v402:(List Seen)×(List Seen)×(List ((List Int)×Row))×(List (List UInt8))×Int×Int):D.N k [1,1,1,0,1,0,0] (T0 a1 v402) (loopC rec (keepF [4,5,6,21,22,23] []) K)=B0 k (S0 rec a1) (X0_0 K a1) a1 v402:=
 Eq.trans (b:=b0 (S0 rec a1) (X0_0 K a1) (s1 k rec K a1) a1 v402) (by kernel_rfl) (by rw[s1_eq];rfl)
noncomputable def T2 (a1:Arg) (c1620:List Seen) (c1621:List Seen) (c1622:List ((List Int)×Row)) (c1623:Int) (v1619:Int):St:={ n:=148,sl:=[(4,.own (.slc tSeen) (ownMd (.slc tSeen)) [] c1620),(5,.own (.slc tSeen) (ownMd (.slc tSeen)) [] c1621),(6,.own (.map (.arr 2 i64) tRow) (ownMd (.map (.arr 2 i64) tRow)) [] c1622),(81,.ref 5 [] [0,0]),(82,.val i64 c1623),(83,.val i64 v1619)],vr:=[],lent:=[] }
noncomputable def S2 (rec:RT Out) (a1:Arg) (c1620:List Seen) (c1621:List Seen) (c1622:List ((List Int)×Row)) (c1623:Int):(Int)->Option Out:=fun v1619=>rec (T2 a1 c1620 c1621 c1622 c1623 v1619)
noncomputable def X2_5 (K:KT Out) (a1:Arg) (c1620:List Seen) (c1621:List Seen) (c1622:List ((List Int)×Row)) (c1623:Int):(Unit)->Option Out:=fun z=>K (.exit 5) ({ n:=148,sl:=[(4,.own (.slc tSeen) (ownMd (.slc tSeen)) [] c1620),(5,.own (.slc tSeen) (ownMd (.slc tSeen)) [] c1621),(6,.own (.map (.arr 2 i64) tRow) (ownMd (.map (.arr 2 i64) tRow)) [] c1622)],vr:=[],lent:=[] })
noncomputable def b2 (self:Int->Option Out) (e5:(Unit)->Option Out) (a1:Arg) (c1620:List Seen) (c1621:List Seen) (c1622:List ((List Int)×Row)) (c1623:Int) (v1619:Int):Option Out:=bif decide (v1619 < c1623) then (if 0<=v1619/\v1619 < (c1621.length:Int) then ((c1621[v1619.toNat]?).bind fun x1824=>if 0 < (List.replicate 2 (0:Int)).length then (if 1 < ((List.replicate 2 (0:Int)).set 0 x1824.2.2.2.2.1).length then (let y1825:=orZ (mapGet (.arr 2 i64) c1622 (((List.replicate 2 (0:Int)).set 0 x1824.2.2.2.2.1).set 1 x1824.2.2.2.2.2.1)) ((0:Int),(0:Int),(0:Int),([]:List UInt8),());bif !(mapGet (.arr 2 i64) c1622 (((List.replicate 2 (0:Int)).set 0 x1824.2.2.2.2.1).set 1 x1824.2.2.2.2.2.1)).isSome then (some (([]:List Seen),(4:Int),())) else self (w64 (v1619+(1:Int)))) else none) else none) else none) else e5 ()
noncomputable abbrev B2 (_:Nat):=b2
theorem B2_eq (k:Nat) (rec:RT Out) (K:KT Out) (a1:Arg) (c1620:List Seen) (c1621:List Seen) (c1622:List ((List Int)×Row)) (c1623:Int) (v1619:Int):D.N k [1,1,1,1,0,1,0,0] (T2 a1 c1620 c1621 c1622 c1623 v1619) (loopC rec (keepF [4,5,6,81,82,83] []) K)=b2 (S2 rec a1 c1620 c1621 c1622 c1623) (X2_5 K a1 c1620 c1621 c1622 c1623) a1 c1620 c1621 c1622 c1623 v1619:=by kernel_rfl
noncomputable def T3 (a1:Arg) (c2228:List Seen) (c2229:List ((List Int)×Row)) (c2230:Int) (v2227:(List Seen)×(List ((List Int)×Bool))×Int):St:={ n:=148,sl:=[(4,.own (.slc tSeen) (ownMd (.slc tSeen)) [] v2227.1),(5,.own (.slc tSeen) (ownMd (.slc tSeen)) [] c2228),(6,.own (.map (.arr 2 i64) tRow) (ownMd (.map (.arr 2 i64) tRow)) [] c2229),(15,.own (.map (.arr 2 i64) .bool) (ownMd (.map (.arr 2 i64) .bool)) [] v2227.2.1),(101,.ref 5 [] [0,0]),(102,.val i64 c2230),(103,.val i64 v2227.2.2)],vr:=[],lent:=[] }
noncomputable def S3 (rec:RT Out) (a1:Arg) (c2228:List Seen) (c2229:List ((List Int)×Row)) (c2230:Int):((List Seen)×(List ((List Int)×Bool))×Int)->Option Out:=fun v2227=>rec (T3 a1 c2228 c2229 c2230 v2227)
noncomputable def X3_7 (K:KT Out) (a1:Arg) (c2228:List Seen) (c2229:List ((List Int)×Row)) (c2230:Int):(List Seen)->Option Out:=fun z=>K (.exit 7) ({ n:=148,sl:=[(4,.own (.slc tSeen) (ownMd (.slc tSeen)) [] z)],vr:=[],lent:=[] })
noncomputable def b3 (self:((List Seen)×(List ((List Int)×Bool))×Int)->Option Out) (e7:(List Seen)->Option Out) (a1:Arg) (c2228:List Seen) (c2229:List ((List Int)×Row)) (c2230:Int) (v2227:(List Seen)×(List ((List Int)×Bool))×Int):Option Out:=bif decide (v2227.2.2 < c2230) then (if 0<=v2227.2.2/\v2227.2.2 < (c2228.length:Int) then ((c2228[v2227.2.2.toNat]?).bind fun x2431=>if 0 < (List.replicate 2 (0:Int)).length then (if 1 < ((List.replicate 2 (0:Int)).set 0 x2431.2.2.2.2.1).length then (let y2432:=((List.replicate 2 (0:Int)).set 0 x2431.2.2.2.2.1).set 1 x2431.2.2.2.2.2.1;bif orZ (mapGet (.arr 2 i64) v2227.2.1 y2432) false then (some (([]:List Seen),(6:Int),())) else let y2433:=orZ (mapGet (.arr 2 i64) c2229 y2432) ((0:Int),(0:Int),(0:Int),([]:List UInt8),());if v2227.1.length+[(y2433,x2431.2)].length<=CAP then (self (v2227.1++[(y2433,x2431.2)],mapPut (.arr 2 i64) v2227.2.1 y2432 true,w64 (v2227.2.2+(1:Int)))) else none) else none) else none) else none) else e7 v2227.1
noncomputable abbrev B3 (_:Nat):=b3
theorem B3_eq (k:Nat) (rec:RT Out) (K:KT Out) (a1:Arg) (c2228:List Seen) (c2229:List ((List Int)×Row)) (c2230:Int) (v2227:(List Seen)×(List ((List Int)×Bool))×Int):D.N k [1,1,1,1,1,1,0,1,0,0] (T3 a1 c2228 c2229 c2230 v2227) (loopC rec (keepF [4,5,6,15,101,102,103] []) K)=b3 (S3 rec a1 c2228 c2229 c2230) (X3_7 K a1 c2228 c2229 c2230) a1 c2228 c2229 c2230 v2227:=by kernel_rfl
noncomputable def T4 (a1:Arg) (c2837:List Seen) (v2836:Int):St:={ n:=148,sl:=[(4,.own (.slc tSeen) (ownMd (.slc tSeen)) [] c2837),(19,.val i64 v2836)],vr:=[],lent:=[] }
noncomputable def b4 (self:Int->Option Out) (e9:(Unit)->Option Out) (a1:Arg) (c2837:List Seen) (v2836:Int):Option Out:=bif decide (v2836 < (c2837.length:Int)) then (if 0<=w64 (v2836 - (1:Int))/\w64 (v2836 - (1:Int)) < (c2837.length:Int) then ((c2837[(w64 (v2836 - (1:Int))).toNat]?).bind fun x3038=>if 0<=v2836/\v2836 < (c2837.length:Int) then ((c2837[v2836.toNat]?).bind fun x3039=>(impl_IsBefore.sem (x3038.1,x3039.1,())).bind fun r3040=>bif !r3040.1 then (some (([]:List Seen),(8:Int),())) else self (w64 (v2836+(1:Int)))) else none) else none) else e9 ()
noncomputable abbrev B4 (_:Nat):=b4
noncomputable def q4 (a1:Arg) (c2837:List Seen) (z3041:(Unit)):Option Out:=some (c2837,(0:Int),())
noncomputable abbrev Q4 (_:Nat):=q4
noncomputable def s4 (k:Nat) (a1:Arg) (c2228:List Seen) (c2229:List ((List Int)×Row)) (c2230:Int):(List Seen)->(Int)->Option Out:=fun c2837=>fun v2836=>D.L k [1,1,1,1,1,1,1,1,0,1,0,0] [4,19] [] (blockC 9 (seqC (D.N k [1,1,1,1,1,1,1,1,1]) D.K0)) (T4 a1 c2837 v2836)
noncomputable def r4 (k:Nat) (a1:Arg) (c2228:List Seen) (c2229:List ((List Int)×Row)) (c2230:Int):(List Seen)->(Int)->Option Out:=fun c2837=>rawIter (fun w v=>B4 k w (Q4 k a1 c2837) a1 c2837 v) k
theorem s4_eq (k:Nat) (a1:Arg) (c2228:List Seen) (c2229:List ((List Int)×Row)) (c2230:Int):s4 k a1 c2228 c2229 c2230=r4 k a1 c2228 c2229 c2230:=
 funext fun c2837=>funext fun v2836=>iter_raw _ _ _ (T4 a1 c2837) _ (fun rec v=>by kernel_rfl) k v2836
noncomputable def q3 (l4:(List Seen)->(Int)->Option Out) (a1:Arg) (c2228:List Seen) (c2229:List ((List Int)×Row)) (c2230:Int) (z2434:(List Seen)):Option Out:=(slices_SortFunc_seen.sem (z2434,((200,0):Nat×Int),())).bind fun r2435=>l4 r2435.1 (1:Int)
noncomputable def Q3 (k:Nat) (a1:Arg) (c2228:List Seen) (c2229:List ((List Int)×Row)) (c2230:Int) (z2434:(List Seen)):Option Out:=q3 (r4 k a1 c2228 c2229 c2230) a1 c2228 c2229 c2230 z2434
theorem Q3_eq (k:Nat) (a1:Arg) (c2228:List Seen) (c2229:List ((List Int)×Row)) (c2230:Int) (z2434:(List Seen)):X3_7 (blockC 7 (seqC (D.N k [1,1,1,1,1,1,1]) D.K0)) a1 c2228 c2229 c2230 z2434=Q3 k a1 c2228 c2229 c2230 z2434:=
 Eq.trans (b:=q3 (s4 k a1 c2228 c2229 c2230) a1 c2228 c2229 c2230 z2434) (by kernel_rfl) (by rw[s4_eq];rfl)
noncomputable def s3 (k:Nat) (a1:Arg) (c1620:List Seen) (c1621:List Seen) (c1622:List ((List Int)×Row)) (c1623:Int):(List Seen)->(List ((List Int)×Row))->Int->((List Seen)×(List ((List Int)×Bool))×Int)->Option Out:=fun c2228 c2229 c2230=>fun v2227=>D.L k [1,1,1,1,1,1,0,1,0,0] [4,5,6,15,101,102,103] [] (blockC 7 (seqC (D.N k [1,1,1,1,1,1,1]) D.K0)) (T3 a1 c2228 c2229 c2230 v2227)
noncomputable def r3 (k:Nat) (a1:Arg) (c1620:List Seen) (c1621:List Seen) (c1622:List ((List Int)×Row)) (c1623:Int):(List Seen)->(List ((List Int)×Row))->Int->((List Seen)×(List ((List Int)×Bool))×Int)->Option Out:=fun c2228 c2229 c2230=>rawIter (fun w v=>B3 k w (Q3 k a1 c2228 c2229 c2230) a1 c2228 c2229 c2230 v) k
theorem s3_eq (k:Nat) (a1:Arg) (c1620:List Seen) (c1621:List Seen) (c1622:List ((List Int)×Row)) (c1623:Int):s3 k a1 c1620 c1621 c1622 c1623=r3 k a1 c1620 c1621 c1622 c1623:=by
 funext c2228;funext c2229;funext c2230;funext v2227;
 have h7:X3_7 (blockC 7 (seqC (D.N k [1,1,1,1,1,1,1]) D.K0)) a1 c2228 c2229 c2230=Q3 k a1 c2228 c2229 c2230:=funext fun z=>Q3_eq k a1 c2228 c2229 c2230 z
 refine (iter_raw _ _ _ (T3 a1 c2228 c2229 c2230) (fun self v=>B3 k self (X3_7 (blockC 7 (seqC (D.N k [1,1,1,1,1,1,1]) D.K0)) a1 c2228 c2229 c2230) a1 c2228 c2229 c2230 v) (fun rec v=>B3_eq k rec (blockC 7 (seqC (D.N k [1,1,1,1,1,1,1]) D.K0)) a1 c2228 c2229 c2230 v) k v2227).trans ?_
 rw[h7]
 rfl
noncomputable def q2 (l3:(List Seen)->(List ((List Int)×Row))->Int->((List Seen)×(List ((List Int)×Bool))×Int)->Option Out) (a1:Arg) (c1620:List Seen) (c1621:List Seen) (c1622:List ((List Int)×Row)) (c1623:Int) (z1826:(Unit)):Option Out:=l3 c1621 c1622 (c1621.length:Int) (c1620,([]:List ((List Int)×Bool)),(0:Int))
noncomputable def Q2 (k:Nat) (a1:Arg) (c1620:List Seen) (c1621:List Seen) (c1622:List ((List Int)×Row)) (c1623:Int) (z1826:(Unit)):Option Out:=q2 (r3 k a1 c1620 c1621 c1622 c1623) a1 c1620 c1621 c1622 c1623 z1826
theorem Q2_eq (k:Nat) (a1:Arg) (c1620:List Seen) (c1621:List Seen) (c1622:List ((List Int)×Row)) (c1623:Int) (z1826:(Unit)):X2_5 (blockC 5 (seqC (D.N k [1,1,1,1,1]) D.K0)) a1 c1620 c1621 c1622 c1623 z1826=Q2 k a1 c1620 c1621 c1622 c1623 z1826:=
 Eq.trans (b:=q2 (s3 k a1 c1620 c1621 c1622 c1623) a1 c1620 c1621 c1622 c1623 z1826) (by kernel_rfl) (by rw[s3_eq];rfl)
noncomputable def s2 (k:Nat) (a1:Arg):(List Seen)->(List Seen)->(List ((List Int)×Row))->Int->(Int)->Option Out:=fun c1620 c1621 c1622 c1623=>fun v1619=>D.L k [1,1,1,1,0,1,0,0] [4,5,6,81,82,83] [] (blockC 5 (seqC (D.N k [1,1,1,1,1]) D.K0)) (T2 a1 c1620 c1621 c1622 c1623 v1619)
noncomputable def r2 (k:Nat) (a1:Arg):(List Seen)->(List Seen)->(List ((List Int)×Row))->Int->(Int)->Option Out:=fun c1620 c1621 c1622 c1623=>rawIter (fun w v=>B2 k w (Q2 k a1 c1620 c1621 c1622 c1623) a1 c1620 c1621 c1622 c1623 v) k
theorem s2_eq (k:Nat) (a1:Arg):s2 k a1=r2 k a1:=by
 funext c1620;funext c1621;funext c1622;funext c1623;funext v1619;
 have h5:X2_5 (blockC 5 (seqC (D.N k [1,1,1,1,1]) D.K0)) a1 c1620 c1621 c1622 c1623=Q2 k a1 c1620 c1621 c1622 c1623:=funext fun z=>Q2_eq k a1 c1620 c1621 c1622 c1623 z
 refine (iter_raw _ _ _ (T2 a1 c1620 c1621 c1622 c1623) (fun self v=>B2 k self (X2_5 (blockC 5 (seqC (D.N k [1,1,1,1,1]) D.K0)) a1 c1620 c1621 c1622 c1623) a1 c1620 c1621 c1622 c1623 v) (fun rec v=>B2_eq k rec (blockC 5 (seqC (D.N k [1,1,1,1,1]) D.K0)) a1 c1620 c1621 c1622 c1623 v) k v1619).trans ?_
 rw[h5]
 rfl
noncomputable def q1 (l2:(List Seen)->(List Seen)->(List ((List Int)×Row))->Int->(Int)->Option Out) (a1:Arg) (z1218:((List Seen)×(List Seen)×(List ((List Int)×Row)))):Option Out:=l2 z1218.1 z1218.2.1 z1218.2.2 (z1218.2.1.length:Int) (0:Int)
noncomputable def Q1 (k:Nat) (a1:Arg) (z1218:((List Seen)×(List Seen)×(List ((List Int)×Row)))):Option Out:=q1 (r2 k a1) a1 z1218
theorem Q1_eq (k:Nat) (a1:Arg) (z1218:((List Seen)×(List Seen)×(List ((List Int)×Row)))):X0_0 (blockC 0 (seqC (D.N k [1,1,1,1]) D.K0)) a1 z1218=Q1 k a1 z1218:=
 Eq.trans (b:=q1 (s2 k a1) a1 z1218) (by kernel_rfl) (by rw[s2_eq];rfl)
noncomputable def s0 (k:Nat) (a1:Arg):((List Seen)×(List Seen)×(List ((List Int)×Row))×(List (List UInt8))×Int×Int)->Option Out:=fun v402=>D.L k [1,1,1,0,1,0,0] [4,5,6,21,22,23] [] (blockC 0 (seqC (D.N k [1,1,1,1]) D.K0)) (T0 a1 v402)
noncomputable def r0 (k:Nat) (a1:Arg):((List Seen)×(List Seen)×(List ((List Int)×Row))×(List (List UInt8))×Int×Int)->Option Out:=rawIter (fun w v=>B0 k w (Q1 k a1) a1 v) k
theorem s0_eq (k:Nat) (a1:Arg):s0 k a1=r0 k a1:=by
 funext v402;
 have h0:X0_0 (blockC 0 (seqC (D.N k [1,1,1,1]) D.K0)) a1=Q1 k a1:=funext fun z=>Q1_eq k a1 z
 refine (iter_raw _ _ _ (T0 a1) (fun self v=>B0 k self (X0_0 (blockC 0 (seqC (D.N k [1,1,1,1]) D.K0)) a1) a1 v) (fun rec v=>B0_eq k rec (blockC 0 (seqC (D.N k [1,1,1,1]) D.K0)) a1 v) k v402).trans ?_
 rw[h0]
 rfl
noncomputable def p (l0:((List Seen)×(List Seen)×(List ((List Int)×Row))×(List (List UInt8))×Int×Int)->Option Out) (a1:Arg):Option Out:=l0 (([]:List Seen),([]:List Seen),([]:List ((List Int)×Row)),a1.1,(a1.1.length:Int),(0:Int))
theorem raw_eq (k:Nat) (a1:Arg):@Eq (Option Out) (D.W k a1) (p (r0 k a1) a1):=
 Eq.trans (b:=p (s0 k a1) a1) (by kernel_rfl) (by rw[s0_eq])
theorem ok:Ok prog 131 D.sig:=fd_ok func131 tlOk (by kernel_rfl) (fc impl_slots.ok (fc impl_hasSlot.ok (fc impl_UnpackCell.ok (fc impl_cellAt.ok (fc slices_SortFunc_seen.ok (fc impl_IsBefore.ok (fn_nil _)))))))
end impl_look
namespace impl_view
abbrev Arg:Type:=(List (List UInt8))×Unit
abbrev Out:Type:=(List Seen)×Int×Unit
abbrev ps:PQ:=[(.ro,(.slc (.slc u8)))]
noncomputable def D:FD:={ fn:=f62,tl:=TL0,ps:=ps,rs:=[((.slc tSeen),(ownMd (.slc tSeen))),(i64,(roMd i64))],gl:=[(126,impl_PageFault.D.sig),(127,impl_slots.D.sig),(128,impl_hasSlot.D.sig),(129,impl_UnpackCell.D.sig),(130,impl_cellAt.D.sig),(131,impl_look.D.sig)],lv:=[(4,[0,11,12,13]),(10,[0,5,11,12,13,23,24])],lx:=[(0,[0]),(2,[0,11,12,13])] }
noncomputable def sem (a:Arg):Option Out:=@lift Out fun k=>D.W k a
noncomputable def T0 (a1:Arg) (v402:(List (List UInt8))×(List (List UInt8))×Int×Int):St:={ n:=44,sl:=[(0,.val (.slc (.slc u8)) v402.1),(11,.val (.slc (.slc u8)) v402.2.1),(12,.val i64 v402.2.2.1),(13,.val i64 v402.2.2.2)],vr:=[],lent:=[] }
noncomputable def S0 (rec:RT Out) (a1:Arg):((List (List UInt8))×(List (List UInt8))×Int×Int)->Option Out:=fun v402=>rec (T0 a1 v402)
noncomputable def X0_0 (K:KT Out) (a1:Arg):(List (List UInt8))->Option Out:=fun z=>K (.exit 0) ({ n:=44,sl:=[(0,.val (.slc (.slc u8)) z)],vr:=[],lent:=[] })
noncomputable def T1 (a1:Arg) (c1007:List (List UInt8)) (c1008:List UInt8) (c1009:List (List UInt8)) (c1010:Int) (c1011:Int) (c1012:Int) (v1006:Int):St:={ n:=44,sl:=[(0,.val (.slc (.slc u8)) c1007),(5,.val (.slc u8) c1008),(11,.val (.slc (.slc u8)) c1009),(12,.val i64 c1010),(13,.val i64 c1011),(23,.val i64 c1012),(24,.val i64 v1006)],vr:=[],lent:=[] }
noncomputable def b1 (self:Int->Option Out) (e2:(Unit)->Option Out) (a1:Arg) (c1007:List (List UInt8)) (c1008:List UInt8) (c1009:List (List UInt8)) (c1010:Int) (c1011:Int) (c1012:Int) (v1006:Int):Option Out:=bif decide (v1006 < c1012) then ((impl_hasSlot.sem (c1008,v1006,())).bind fun r1213=>bif r1213.1 then ((impl_cellAt.sem (c1008,v1006,())).bind fun r1214=>(impl_UnpackCell.sem (r1214.1,())).bind fun r1215=>bif !decide (r1215.1.1=(0:Int)) then (some (([]:List Seen),(5:Int),())) else self (w64 (v1006+(1:Int)))) else self (w64 (v1006+(1:Int)))) else e2 ()
noncomputable abbrev B1 (_:Nat):=b1
noncomputable def q0 (self:((List (List UInt8))×(List (List UInt8))×Int×Int)->Option Out) (e0:(List (List UInt8))->Option Out) (a1:Arg) (c1007:List (List UInt8)) (c1008:List UInt8) (c1009:List (List UInt8)) (c1010:Int) (c1011:Int) (c1012:Int) (z1216:(Unit)):Option Out:=self (c1007,c1009,c1010,w64 (c1011+(1:Int)))
noncomputable abbrev Q0 (_:Nat):=q0
noncomputable def s1 (k:Nat) (rec:RT Out) (K:KT Out) (a1:Arg):(List (List UInt8))->(List UInt8)->(List (List UInt8))->Int->Int->Int->(Int)->Option Out:=fun c1007 c1008 c1009 c1010 c1011 c1012=>fun v1006=>D.L k [1,1,0,1,0,0,1,1,0,0,1,1,1,0,0] [0,5,11,12,13,23,24] [] (blockC 2 (blockC 1 (seqC (D.N k [1,1,0,1,0,0,1,1,1]) (loopC rec (keepF [0,11,12,13] []) K)))) (T1 a1 c1007 c1008 c1009 c1010 c1011 c1012 v1006)
noncomputable def r1 (k:Nat) (self:((List (List UInt8))×(List (List UInt8))×Int×Int)->Option Out) (e0:(List (List UInt8))->Option Out) (a1:Arg):(List (List UInt8))->(List UInt8)->(List (List UInt8))->Int->Int->Int->(Int)->Option Out:=fun c1007 c1008 c1009 c1010 c1011 c1012=>rawIter (fun w v=>B1 k w (Q0 k self e0 a1 c1007 c1008 c1009 c1010 c1011 c1012) a1 c1007 c1008 c1009 c1010 c1011 c1012 v) k
theorem s1_eq (k:Nat) (rec:RT Out) (K:KT Out) (a1:Arg):s1 k rec K a1=r1 k (S0 rec a1) (X0_0 K a1) a1:=
 funext fun c1007=>funext fun c1008=>funext fun c1009=>funext fun c1010=>funext fun c1011=>funext fun c1012=>funext fun v1006=>iter_raw _ _ _ (T1 a1 c1007 c1008 c1009 c1010 c1011 c1012) _ (fun rec v=>by kernel_rfl) k v1006
noncomputable def b0 (self:((List (List UInt8))×(List (List UInt8))×Int×Int)->Option Out) (e0:(List (List UInt8))->Option Out) (l1:(List (List UInt8))->(List UInt8)->(List (List UInt8))->Int->Int->Int->(Int)->Option Out) (a1:Arg) (v402:(List (List UInt8))×(List (List UInt8))×Int×Int):Option Out:=bif decide (v402.2.2.2 < v402.2.2.1) then (if 0<=v402.2.2.2 then ((v402.2.1[v402.2.2.2.toNat]?).bind fun x603=>(impl_PageFault.sem (x603,())).bind fun r604=>bif !decide (r604.1=(0:Int)) then (some (([]:List Seen),r604.1,())) else (impl_slots.sem (x603,())).bind fun r605=>l1 v402.1 x603 v402.2.1 v402.2.2.1 v402.2.2.2 r605.1 (0:Int)) else none) else e0 v402.1
noncomputable def B0 (k:Nat) (self:((List (List UInt8))×(List (List UInt8))×Int×Int)->Option Out) (e0:(List (List UInt8))->Option Out) (a1:Arg) (v402:(List (List UInt8))×(List (List UInt8))×Int×Int):Option Out:=b0 self e0 (r1 k self e0 a1) a1 v402
theorem B0_eq (k:Nat) (rec:RT Out) (K:KT Out) (a1:Arg) (v402:(List (List UInt8))×(List (List UInt8))×Int×Int):D.N k [1,1,0,1,0,0] (T0 a1 v402) (loopC rec (keepF [0,11,12,13] []) K)=B0 k (S0 rec a1) (X0_0 K a1) a1 v402:=
 Eq.trans (b:=b0 (S0 rec a1) (X0_0 K a1) (s1 k rec K a1) a1 v402) (by kernel_rfl) (by rw[s1_eq];rfl)
noncomputable def q1 (a1:Arg) (z1217:(List (List UInt8))):Option Out:=(impl_look.sem (z1217,())).bind fun r1218=>some (r1218.1,r1218.2.1,())
noncomputable abbrev Q1 (_:Nat):=q1
theorem Q1_eq (k:Nat) (a1:Arg) (z1217:(List (List UInt8))):X0_0 (blockC 0 (seqC (D.N k [1,1,1]) D.K0)) a1 z1217=q1 a1 z1217:=by kernel_rfl
noncomputable def s0 (k:Nat) (a1:Arg):((List (List UInt8))×(List (List UInt8))×Int×Int)->Option Out:=fun v402=>D.L k [1,1,0,1,0,0] [0,11,12,13] [] (blockC 0 (seqC (D.N k [1,1,1]) D.K0)) (T0 a1 v402)
noncomputable def r0 (k:Nat) (a1:Arg):((List (List UInt8))×(List (List UInt8))×Int×Int)->Option Out:=rawIter (fun w v=>B0 k w (Q1 k a1) a1 v) k
theorem s0_eq (k:Nat) (a1:Arg):s0 k a1=r0 k a1:=by
 funext v402;
 have h0:X0_0 (blockC 0 (seqC (D.N k [1,1,1]) D.K0)) a1=Q1 k a1:=funext fun z=>Q1_eq k a1 z
 refine (iter_raw _ _ _ (T0 a1) (fun self v=>B0 k self (X0_0 (blockC 0 (seqC (D.N k [1,1,1]) D.K0)) a1) a1 v) (fun rec v=>B0_eq k rec (blockC 0 (seqC (D.N k [1,1,1]) D.K0)) a1 v) k v402).trans ?_
 rw[h0]
 rfl
noncomputable def p (l0:((List (List UInt8))×(List (List UInt8))×Int×Int)->Option Out) (a1:Arg):Option Out:=bif decide ((12:Int) < (a1.1.length:Int)) then (some (([]:List Seen),(2:Int),())) else l0 (a1.1,a1.1,(a1.1.length:Int),(0:Int))
theorem raw_eq (k:Nat) (a1:Arg):@Eq (Option Out) (D.W k a1) (p (r0 k a1) a1):=
 Eq.trans (b:=p (s0 k a1) a1) (by kernel_rfl) (by rw[s0_eq])
theorem ok:Ok prog 62 D.sig:=fd_ok func62 tlOk (by kernel_rfl) (fc impl_PageFault.ok (fc impl_slots.ok (fc impl_hasSlot.ok (fc impl_UnpackCell.ok (fc impl_cellAt.ok (fc impl_look.ok (fn_nil _)))))))
end impl_view
namespace slices_Clone_Row
abbrev Arg:Type:=(List Row)×Unit
abbrev Out:Type:=(List Row)×Unit
abbrev ps:PQ:=[(.ro,(.slc tRow))]
noncomputable def D:FD:={ fn:=f183,tl:=TL0,ps:=ps,rs:=[((.slc tRow),(ownMd (.slc tRow)))] }
noncomputable def sem (a:Arg):Option Out:=@lift Out fun k=>D.W k a
noncomputable def p (a1:Arg):Option Out:=nilB a1.1 (some (([]:List Row),())) (if ([]:List Row).length+a1.1.length<=CAP then (some (([]:List Row)++a1.1,())) else none)
theorem raw_eq (k:Nat) (a1:Arg):@Eq (Option Out) (D.W k a1) (p a1):=by kernel_rfl
theorem ok:Ok prog 183 D.sig:=fd_ok func183 tlOk (by kernel_rfl) (fn_nil _)
end slices_Clone_Row
namespace impl_RowsFault
abbrev Arg:Type:=(List Row)×Unit
abbrev Out:Type:=Int×Unit
abbrev ps:PQ:=[(.ro,(.slc tRow))]
noncomputable def D:FD:={ fn:=f132,tl:=TL0,ps:=ps,rs:=[(i64,(roMd i64))],gl:=[(198,impl_RowFault.D.sig),(202,impl_IsBefore.D.sig)],lv:=[(4,[0,9,10,11])],lx:=[(0,[])],od:=[(9,[0,1,2,3,4,5,6,7,8,9,10,11])] }
noncomputable def sem (a:Arg):Option Out:=@lift Out fun k=>D.W k a
noncomputable def T0 (a1:Arg) (v402:Int):St:={ n:=34,sl:=[(0,.val (.slc tRow) a1.1),(9,.val (.slc tRow) a1.1),(10,.val i64 (a1.1.length:Int)),(11,.val i64 v402)],vr:=[],lent:=[] }
noncomputable def b0 (self:Int->Option Out) (e0:(Unit)->Option Out) (a1:Arg) (v402:Int):Option Out:=bif decide (v402 < (a1.1.length:Int)) then (if 0<=v402 then ((a1.1[v402.toNat]?).bind fun x603=>(impl_RowFault.sem (x603,())).bind fun r604=>bif !decide (r604.1=(0:Int)) then (some (r604.1,())) else bif decide ((0:Int) < v402) then (if 0<=w64 (v402 - (1:Int)) then ((a1.1[(w64 (v402 - (1:Int))).toNat]?).bind fun x605=>(impl_IsBefore.sem (x605,x603,())).bind fun r606=>bif !r606.1 then (some ((1:Int),())) else self (w64 (v402+(1:Int)))) else none) else self (w64 (v402+(1:Int)))) else none) else e0 ()
noncomputable abbrev B0 (_:Nat):=b0
noncomputable def q0 (a1:Arg) (z607:(Unit)):Option Out:=some ((0:Int),())
noncomputable abbrev Q0 (_:Nat):=q0
noncomputable def s0 (k:Nat) (a1:Arg):(Int)->Option Out:=fun v402=>D.L k [1,1,0,1,0,0] [0,9,10,11] [] (blockC 0 (seqC (D.N k [1,1,1]) D.K0)) (T0 a1 v402)
noncomputable def r0 (k:Nat) (a1:Arg):(Int)->Option Out:=rawIter (fun w v=>B0 k w (Q0 k a1) a1 v) k
theorem s0_eq (k:Nat) (a1:Arg):s0 k a1=r0 k a1:=
 funext fun v402=>iter_raw _ _ _ (T0 a1) _ (fun rec v=>by kernel_rfl) k v402
noncomputable def p (l0:(Int)->Option Out) (a1:Arg):Option Out:=bif decide ((60:Int) < (a1.1.length:Int)) then (some ((2:Int),())) else l0 (0:Int)
theorem raw_eq (k:Nat) (a1:Arg):@Eq (Option Out) (D.W k a1) (p (r0 k a1) a1):=
 Eq.trans (b:=p (s0 k a1) a1) (by kernel_rfl) (by rw[s0_eq])
theorem ok:Ok prog 132 D.sig:=fd_ok func132 tlOk (by kernel_rfl) (fc impl_RowFault.ok (fc impl_IsBefore.ok (fn_nil _)))
end impl_RowsFault
namespace impl_changeFault
abbrev Arg:Type:=Change×Unit
abbrev Out:Type:=Int×Unit
abbrev ps:PQ:=[(.ro,tChange)]
noncomputable def D:FD:={ fn:=f250,tl:=TL0,ps:=ps,rs:=[(i64,(roMd i64))],gl:=[(198,impl_RowFault.D.sig),(201,impl_order.D.sig)] }
noncomputable def sem (a:Arg):Option Out:=@lift Out fun k=>D.W k a
noncomputable def p (a1:Arg):Option Out:=let j7:Option Out:=bif a1.1.1 then ((impl_RowFault.sem (a1.1.2.1,())).bind fun r8=>bif !decide (r8.1=(0:Int)) then (some (r8.1,())) else bif a1.1.2.2.1 then ((impl_RowFault.sem (a1.1.2.2.2.1,())).bind fun r10=>some (r10.1,())) else some ((0:Int),())) else bif a1.1.2.2.1 then ((impl_RowFault.sem (a1.1.2.2.2.1,())).bind fun r11=>some (r11.1,())) else some ((0:Int),());bif !a1.1.1 then (bif !a1.1.2.2.1 then (some ((1:Int),())) else bif a1.1.1 then (bif a1.1.2.2.1 then ((impl_order.sem (a1.1.2.1,a1.1.2.2.2.1,())).bind fun r2=>bif !decide (r2.1=(0:Int)) then (some ((1:Int),())) else j7) else j7) else j7) else bif a1.1.1 then (bif a1.1.2.2.1 then ((impl_order.sem (a1.1.2.1,a1.1.2.2.2.1,())).bind fun r3=>bif !decide (r3.1=(0:Int)) then (some ((1:Int),())) else j7) else j7) else j7
theorem raw_eq (k:Nat) (a1:Arg):@Eq (Option Out) (D.W k a1) (p a1):=by kernel_rfl
theorem ok:Ok prog 250 D.sig:=fd_ok func250 tlOk (by kernel_rfl) (fc impl_RowFault.ok (fc impl_order.ok (fn_nil _)))
end impl_changeFault
namespace impl_Change_key
abbrev Arg:Type:=Change×Unit
abbrev Out:Type:=Row×Unit
abbrev ps:PQ:=[(.ro,tChange)]
noncomputable def D:FD:={ fn:=f284,tl:=TL0,ps:=ps,rs:=[(tRow,(roMd tRow))] }
noncomputable def sem (a:Arg):Option Out:=@lift Out fun k=>D.W k a
noncomputable def p (a1:Arg):Option Out:=bif a1.1.2.2.1 then (some (a1.1.2.2.2.1,())) else some (a1.1.2.1,())
theorem raw_eq (k:Nat) (a1:Arg):@Eq (Option Out) (D.W k a1) (p a1):=by kernel_rfl
theorem ok:Ok prog 284 D.sig:=fd_ok func284 tlOk (by kernel_rfl) (fn_nil _)
end impl_Change_key
namespace slices_BinarySearchFunc_Row
abbrev Arg:Type:=(List Row)×Row×(Nat×Int)×Unit
abbrev Out:Type:=Int×Bool×Unit
abbrev ps:PQ:=[(.ro,(.slc tRow)),(.ro,tRow),(.fix 201,.fn)]
noncomputable def D:FD:={ fn:=f294,tl:=TL0,ps:=ps,rs:=[(i64,(roMd i64)),(.bool,(roMd .bool))],gl:=[(201,impl_order.D.sig)],lv:=[(3,[0,2,4,8,9,10])],lx:=[(0,[0,2,4,8,9])],od:=[(5,[0,1,2,3,4,5,6,7]),(8,[0,1,2,3,4,5,6,7,8,9,10,11,12,13,14,15])] }
noncomputable def sem (a:Arg):Option Out:=@lift Out fun k=>D.W k a
noncomputable def T0 (a1:Arg) (v402:Int×Int):St:={ n:=49,sl:=[(0,.val (.slc tRow) a1.1),(2,.val .fn ((201,a1.2.2.1.2):Nat×Int)),(4,.box tRow (roMd tRow) [] a1.2.1),(8,.val i64 (a1.1.length:Int)),(9,.val i64 v402.1),(10,.val i64 v402.2)],vr:=[],lent:=[] }
noncomputable def b0 (self:(Int×Int)->Option Out) (e0:Int->Option Out) (a1:Arg) (v402:Int×Int):Option Out:=bif decide (v402.1 < v402.2) then (if 0<=w64 ((IntKind.wrap .u64 (w64 (v402.1+v402.2))).fdiv (2 ^ 1)) then ((a1.1[(w64 ((IntKind.wrap .u64 (w64 (v402.1+v402.2))).fdiv (2 ^ 1))).toNat]?).bind fun x603=>(impl_order.sem (x603,a1.2.1,())).bind fun r604=>bif decide (r604.1 < (0:Int)) then (self (w64 ((w64 ((IntKind.wrap .u64 (w64 (v402.1+v402.2))).fdiv (2 ^ 1)))+(1:Int)),v402.2)) else self (v402.1,w64 ((IntKind.wrap .u64 (w64 (v402.1+v402.2))).fdiv (2 ^ 1)))) else none) else e0 v402.1
noncomputable abbrev B0 (_:Nat):=b0
noncomputable def q0 (a1:Arg) (z605:Int):Option Out:=bif decide (z605 < (a1.1.length:Int)) then (if 0<=z605 then ((a1.1[z605.toNat]?).bind fun x606=>(impl_order.sem (x606,a1.2.1,())).bind fun r607=>some (z605,decide (r607.1=(0:Int)),())) else none) else some (z605,false,())
noncomputable abbrev Q0 (_:Nat):=q0
noncomputable def s0 (k:Nat) (a1:Arg):(Int×Int)->Option Out:=fun v402=>D.L k [1,1,1,0,0,0] [0,2,4,8,9,10] [] (blockC 0 (seqC (D.N k [1,1,1,1]) D.K0)) (T0 a1 v402)
noncomputable def r0 (k:Nat) (a1:Arg):(Int×Int)->Option Out:=rawIter (fun w v=>B0 k w (Q0 k a1) a1 v) k
theorem s0_eq (k:Nat) (a1:Arg):s0 k a1=r0 k a1:=
 funext fun v402=>iter_raw _ _ _ (T0 a1) _ (fun rec v=>by kernel_rfl) k v402
noncomputable def p (l0:(Int×Int)->Option Out) (a1:Arg):Option Out:=l0 ((0:Int),(a1.1.length:Int))
theorem raw_eq (k:Nat) (a1:Arg):@Eq (Option Out) (D.W k a1) (p (r0 k a1) a1):=
 Eq.trans (b:=p (s0 k a1) a1) (by kernel_rfl) (by rw[s0_eq])
theorem ok:Ok prog 294 D.sig:=fd_ok func294 tlOk (by kernel_rfl) (fc impl_order.ok (fn_nil _))
end slices_BinarySearchFunc_Row
namespace impl_Change_fitsTo
abbrev Arg:Type:=Change×(List Row)×Unit
abbrev Out:Type:=Bool×Unit
abbrev ps:PQ:=[(.ro,tChange),(.ro,(.slc tRow))]
noncomputable def D:FD:={ fn:=f251,tl:=TL0,ps:=ps,rs:=[(.bool,(roMd .bool))],gl:=[(284,impl_Change_key.D.sig),(294,slices_BinarySearchFunc_Row.D.sig)],od:=[(2,[0,1,2,3,4,5,6,7,8,9,10,11,12,13,14,15,16,17])] }
noncomputable def sem (a:Arg):Option Out:=@lift Out fun k=>D.W k a
noncomputable def p (a1:Arg):Option Out:=(impl_Change_key.sem (a1.1,())).bind fun r2=>(slices_BinarySearchFunc_Row.sem (a1.2.1,r2.1,((201,0):Nat×Int),())).bind fun r3=>bif (r3.2.1 == a1.1.1) then (bif !r3.2.1 then (some (true,())) else if 0<=r3.1 then ((a1.2.1[r3.1.toNat]?).bind fun x4=>some ((Ty.eq tRow x4 a1.1.2.1),())) else none) else some (false,())
theorem raw_eq (k:Nat) (a1:Arg):@Eq (Option Out) (D.W k a1) (p a1):=by kernel_rfl
theorem ok:Ok prog 251 D.sig:=fd_ok func251 tlOk (by kernel_rfl) (fc impl_Change_key.ok (fc slices_BinarySearchFunc_Row.ok (fn_nil _)))
end impl_Change_fitsTo
namespace impl_changed
abbrev Arg:Type:=(List Row)×Change×Unit
abbrev Out:Type:=(List Row)×Unit
abbrev ps:PQ:=[(.ro,(.slc tRow)),(.ro,tChange)]
noncomputable def D:FD:={ fn:=f252,tl:=TL0,ps:=ps,rs:=[((.slc tRow),(ownMd (.slc tRow)))],gl:=[(284,impl_Change_key.D.sig),(294,slices_BinarySearchFunc_Row.D.sig)] }
noncomputable def sem (a:Arg):Option Out:=@lift Out fun k=>D.W k a
noncomputable def p (a1:Arg):Option Out:=(impl_Change_key.sem (a1.2.1,())).bind fun r2=>(slices_BinarySearchFunc_Row.sem (a1.1,r2.1,((201,0):Nat×Int),())).bind fun r3=>if 0<=r3.1/\r3.1<=(a1.1.length:Int) then (if ([]:List Row).length+((a1.1.take r3.1.toNat).drop 0).length<=CAP then (let y4:=([]:List Row)++((a1.1.take r3.1.toNat).drop 0);let j8:=fun (p7:List Row)=>(let j11:=fun (p10:Int)=>(if 0<=p10/\p10<=(a1.1.length:Int) then (if p7.length+((a1.1.take a1.1.length).drop p10.toNat).length<=CAP then (let y12:=p7++((a1.1.take a1.1.length).drop p10.toNat);some (y12,())) else none) else none:Option Out);bif r3.2.1 then (j11 (w64 (r3.1+(1:Int)))) else j11 r3.1:Option Out);bif a1.2.1.2.2.1 then (if y4.length+[a1.2.1.2.2.2.1].length<=CAP then (j8 (y4++[a1.2.1.2.2.2.1])) else none) else j8 y4) else none) else none
theorem raw_eq (k:Nat) (a1:Arg):@Eq (Option Out) (D.W k a1) (p a1):=by kernel_rfl
theorem ok:Ok prog 252 D.sig:=fd_ok func252 tlOk (by kernel_rfl) (fc impl_Change_key.ok (fc slices_BinarySearchFunc_Row.ok (fn_nil _)))
end impl_changed
namespace impl_ApplyChanges
abbrev Arg:Type:=(List Row)×(List Change)×Unit
abbrev Out:Type:=RowsResult×Unit
abbrev ps:PQ:=[(.ro,(.slc tRow)),(.ro,(.slc tChange))]
noncomputable def D:FD:={ fn:=f184,tl:=TL0,ps:=ps,rs:=[(tRowsResult,(ownMd tRowsResult))],gl:=[(132,impl_RowsFault.D.sig),(183,slices_Clone_Row.D.sig),(250,impl_changeFault.D.sig),(251,impl_Change_fitsTo.D.sig),(252,impl_changed.D.sig)],lv:=[(6,[4,6,18,19,20])],lx:=[(0,[4,6])] }
noncomputable def sem (a:Arg):Option Out:=@lift Out fun k=>D.W k a
noncomputable def T0 (a1:Arg) (v404:(List Row)×Int):St:={ n:=45,sl:=[(4,.box tRowsResult (ownMd tRowsResult) [] ((0:Int),([]:List Row),())),(6,.own (.slc tRow) (ownMd (.slc tRow)) [] v404.1),(18,.val (.slc tChange) a1.2.1),(19,.val i64 (a1.2.1.length:Int)),(20,.val i64 v404.2)],vr:=[],lent:=[] }
noncomputable def b0 (self:((List Row)×Int)->Option Out) (e0:(List Row)->Option Out) (a1:Arg) (v404:(List Row)×Int):Option Out:=bif decide (v404.2 < (a1.2.1.length:Int)) then (if 0<=v404.2 then ((a1.2.1[v404.2.toNat]?).bind fun x605=>(impl_changeFault.sem (x605,())).bind fun r606=>bif !decide (r606.1=(0:Int)) then (some ((r606.1,([]:List Row),()),())) else (impl_Change_fitsTo.sem (x605,v404.1,())).bind fun r607=>bif !r607.1 then (some (((8:Int),([]:List Row),()),())) else (impl_changed.sem (v404.1,x605,())).bind fun r608=>self (r608.1,w64 (v404.2+(1:Int)))) else none) else e0 v404.1
noncomputable abbrev B0 (_:Nat):=b0
noncomputable def q0 (a1:Arg) (z609:(List Row)):Option Out:=bif decide ((60:Int) < (z609.length:Int)) then (some (((2:Int),([]:List Row),()),())) else some (((0:Int),z609,()),())
noncomputable abbrev Q0 (_:Nat):=q0
noncomputable def s0 (k:Nat) (a1:Arg):((List Row)×Int)->Option Out:=fun v404=>D.L k [1,1,1,0,1,0,0] [4,6,18,19,20] [] (blockC 0 (seqC (D.N k [1,1,1,1]) D.K0)) (T0 a1 v404)
noncomputable def r0 (k:Nat) (a1:Arg):((List Row)×Int)->Option Out:=rawIter (fun w v=>B0 k w (Q0 k a1) a1 v) k
theorem s0_eq (k:Nat) (a1:Arg):s0 k a1=r0 k a1:=
 funext fun v404=>iter_raw _ _ _ (T0 a1) _ (fun rec v=>by kernel_rfl) k v404
noncomputable def p (l0:((List Row)×Int)->Option Out) (a1:Arg):Option Out:=(impl_RowsFault.sem (a1.1,())).bind fun r2=>bif !decide (r2.1=(0:Int)) then (some ((r2.1,([]:List Row),()),())) else (slices_Clone_Row.sem (a1.1,())).bind fun r3=>l0 (r3.1,(0:Int))
theorem raw_eq (k:Nat) (a1:Arg):@Eq (Option Out) (D.W k a1) (p (r0 k a1) a1):=
 Eq.trans (b:=p (s0 k a1) a1) (by kernel_rfl) (by rw[s0_eq])
theorem ok:Ok prog 184 D.sig:=fd_ok func184 tlOk (by kernel_rfl) (fc impl_RowsFault.ok (fc slices_Clone_Row.ok (fc impl_changeFault.ok (fc impl_Change_fitsTo.ok (fc impl_changed.ok (fn_nil _))))))
end impl_ApplyChanges
namespace impl_inverse
abbrev Arg:Type:=(List Change)×Unit
abbrev Out:Type:=(List Change)×Unit
abbrev ps:PQ:=[(.ro,(.slc tChange))]
noncomputable def D:FD:={ fn:=f185,tl:=TL0,ps:=ps,rs:=[((.slc tChange),(ownMd (.slc tChange)))],lv:=[(3,[0,3,4])],lx:=[(0,[3])] }
noncomputable def sem (a:Arg):Option Out:=@lift Out fun k=>D.W k a
noncomputable def T0 (a1:Arg) (v402:(List Change)×Int):St:={ n:=30,sl:=[(0,.val (.slc tChange) a1.1),(3,.own (.slc tChange) (ownMd (.slc tChange)) [] v402.1),(4,.val i64 v402.2)],vr:=[],lent:=[] }
noncomputable def b0 (self:((List Change)×Int)->Option Out) (e0:(List Change)->Option Out) (a1:Arg) (v402:(List Change)×Int):Option Out:=bif decide ((0:Int)<=v402.2) then (if 0<=v402.2 then ((a1.1[v402.2.toNat]?).bind fun x603=>if v402.1.length+[(x603.2.2.1,x603.2.2.2.1,x603.1,x603.2.1,())].length<=CAP then (let y604:=v402.1++[(x603.2.2.1,x603.2.2.2.1,x603.1,x603.2.1,())];self (y604,w64 (v402.2 - (1:Int)))) else none) else none) else e0 v402.1
noncomputable abbrev B0 (_:Nat):=b0
noncomputable def q0 (a1:Arg) (z605:(List Change)):Option Out:=some (z605,())
noncomputable abbrev Q0 (_:Nat):=q0
noncomputable def s0 (k:Nat) (a1:Arg):((List Change)×Int)->Option Out:=fun v402=>D.L k [1,1,0,1,0,0] [0,3,4] [] (blockC 0 (seqC (D.N k [1,1,1]) D.K0)) (T0 a1 v402)
noncomputable def r0 (k:Nat) (a1:Arg):((List Change)×Int)->Option Out:=rawIter (fun w v=>B0 k w (Q0 k a1) a1 v) k
theorem s0_eq (k:Nat) (a1:Arg):s0 k a1=r0 k a1:=
 funext fun v402=>iter_raw _ _ _ (T0 a1) _ (fun rec v=>by kernel_rfl) k v402
noncomputable def p (l0:((List Change)×Int)->Option Out) (a1:Arg):Option Out:=l0 (([]:List Change),w64 ((a1.1.length:Int) - (1:Int)))
theorem raw_eq (k:Nat) (a1:Arg):@Eq (Option Out) (D.W k a1) (p (r0 k a1) a1):=
 Eq.trans (b:=p (s0 k a1) a1) (by kernel_rfl) (by rw[s0_eq])
theorem ok:Ok prog 185 D.sig:=fd_ok func185 tlOk (by kernel_rfl) (fn_nil _)
end impl_inverse
namespace impl_committed
abbrev Arg:Type:=(List Row)×(List Tx)×Unit
abbrev Out:Type:=(List Row)×Int×Unit
abbrev ps:PQ:=[(.ro,(.slc tRow)),(.ro,(.slc tTx))]
noncomputable def D:FD:={ fn:=f114,tl:=TL0,ps:=ps,rs:=[((.slc tRow),(ownMd (.slc tRow))),(i64,(roMd i64))],gl:=[(183,slices_Clone_Row.D.sig),(184,impl_ApplyChanges.D.sig),(185,impl_inverse.D.sig)],lv:=[(2,[0,9,10,11])],lx:=[(0,[0])],lf:=[(2,[(0,(.slc false (.pair .leaf (.pair .leaf (.pair .leaf (.pair .leaf .leaf))))))])],od:=[(6,[0,1,2,3])] }
noncomputable def sem (a:Arg):Option Out:=@lift Out fun k=>D.W k a
noncomputable def T0 (a1:Arg) (v402:(List Row)×Int):St:={ n:=30,sl:=[(0,.val (.slc tRow) v402.1),(9,.val (.slc tTx) a1.2.1),(10,.val i64 (a1.2.1.length:Int)),(11,.val i64 v402.2)],vr:=[],lent:=[] }
noncomputable def b0 (self:((List Row)×Int)->Option Out) (e0:(List Row)->Option Out) (a1:Arg) (v402:(List Row)×Int):Option Out:=bif decide (v402.2 < (a1.2.1.length:Int)) then (if 0<=v402.2 then ((a1.2.1[v402.2.toNat]?).bind fun x603=>(impl_inverse.sem (x603.2.1,())).bind fun r604=>(impl_ApplyChanges.sem (v402.1,r604.1,())).bind fun r605=>bif !decide (r605.1.1=(0:Int)) then (some (([]:List Row),r605.1.1,())) else self (r605.1.2.1,w64 (v402.2+(1:Int)))) else none) else e0 v402.1
noncomputable abbrev B0 (_:Nat):=b0
noncomputable def q0 (a1:Arg) (z606:(List Row)):Option Out:=(slices_Clone_Row.sem (z606,())).bind fun r607=>some (r607.1,(0:Int),())
noncomputable abbrev Q0 (_:Nat):=q0
noncomputable def s0 (k:Nat) (a1:Arg):((List Row)×Int)->Option Out:=fun v402=>D.L k [1,0,1,0,0] [0,9,10,11] [(0,(.slc false (.pair .leaf (.pair .leaf (.pair .leaf (.pair .leaf .leaf))))))] (blockC 0 (seqC (D.N k [1,1]) D.K0)) (T0 a1 v402)
noncomputable def r0 (k:Nat) (a1:Arg):((List Row)×Int)->Option Out:=rawIter (fun w v=>B0 k w (Q0 k a1) a1 v) k
theorem s0_eq (k:Nat) (a1:Arg):s0 k a1=r0 k a1:=
 funext fun v402=>iter_raw _ _ _ (T0 a1) _ (fun rec v=>by kernel_rfl) k v402
noncomputable def p (l0:((List Row)×Int)->Option Out) (a1:Arg):Option Out:=l0 (a1.1,(0:Int))
theorem raw_eq (k:Nat) (a1:Arg):@Eq (Option Out) (D.W k a1) (p (r0 k a1) a1):=
 Eq.trans (b:=p (s0 k a1) a1) (by kernel_rfl) (by rw[s0_eq])
theorem ok:Ok prog 114 D.sig:=fd_ok func114 tlOk (by kernel_rfl) (fc slices_Clone_Row.ok (fc impl_ApplyChanges.ok (fc impl_inverse.ok (fn_nil _))))
end impl_committed
namespace impl_singleFault
abbrev Arg:Type:=Change×Unit
abbrev Out:Type:=Int×Unit
abbrev ps:PQ:=[(.ro,tChange)]
noncomputable def D:FD:={ fn:=f267,tl:=TL0,ps:=ps,rs:=[(i64,(roMd i64))],gl:=[(250,impl_changeFault.D.sig)] }
noncomputable def sem (a:Arg):Option Out:=@lift Out fun k=>D.W k a
noncomputable def p (a1:Arg):Option Out:=(impl_changeFault.sem (a1.1,())).bind fun r2=>bif !decide (r2.1=(0:Int)) then (some (r2.1,())) else bif a1.1.1 then (bif a1.1.2.2.1 then (bif (Ty.eq tRow a1.1.2.1 a1.1.2.2.2.1) then (some ((1:Int),())) else some ((0:Int),())) else some ((0:Int),())) else some ((0:Int),())
theorem raw_eq (k:Nat) (a1:Arg):@Eq (Option Out) (D.W k a1) (p a1):=by kernel_rfl
theorem ok:Ok prog 267 D.sig:=fd_ok func267 tlOk (by kernel_rfl) (fc impl_changeFault.ok (fn_nil _))
end impl_singleFault
namespace slices_Index_Key
abbrev Arg:Type:=(List Key)×Key×Unit
abbrev Out:Type:=Int×Unit
abbrev ps:PQ:=[(.ro,(.slc tKey)),(.ro,tKey)]
noncomputable def D:FD:={ fn:=f310,tl:=TL0,ps:=ps,rs:=[(i64,(roMd i64))],lv:=[(2,[0,3,7,8])],lx:=[(0,[])],od:=[(4,[0,1,2,3,4,5])] }
noncomputable def sem (a:Arg):Option Out:=@lift Out fun k=>D.W k a
noncomputable def T0 (a1:Arg) (v402:Int):St:={ n:=19,sl:=[(0,.val (.slc tKey) a1.1),(3,.box tKey (roMd tKey) [] a1.2.1),(7,.val i64 (a1.1.length:Int)),(8,.val i64 v402)],vr:=[],lent:=[] }
noncomputable def b0 (self:Int->Option Out) (e0:(Unit)->Option Out) (a1:Arg) (v402:Int):Option Out:=bif decide (v402 < (a1.1.length:Int)) then (if 0<=v402 then ((a1.1[v402.toNat]?).bind fun x603=>bif (Ty.eq tKey a1.2.1 x603) then (some (v402,())) else self (w64 (v402+(1:Int)))) else none) else e0 ()
noncomputable abbrev B0 (_:Nat):=b0
noncomputable def q0 (a1:Arg) (z604:(Unit)):Option Out:=some ((-1:Int),())
noncomputable abbrev Q0 (_:Nat):=q0
noncomputable def s0 (k:Nat) (a1:Arg):(Int)->Option Out:=fun v402=>D.L k [1,0,1,0,0] [0,3,7,8] [] (blockC 0 (seqC (D.N k [1,1]) D.K0)) (T0 a1 v402)
noncomputable def r0 (k:Nat) (a1:Arg):(Int)->Option Out:=rawIter (fun w v=>B0 k w (Q0 k a1) a1 v) k
theorem s0_eq (k:Nat) (a1:Arg):s0 k a1=r0 k a1:=
 funext fun v402=>iter_raw _ _ _ (T0 a1) _ (fun rec v=>by kernel_rfl) k v402
noncomputable def p (l0:(Int)->Option Out) (a1:Arg):Option Out:=l0 (0:Int)
theorem raw_eq (k:Nat) (a1:Arg):@Eq (Option Out) (D.W k a1) (p (r0 k a1) a1):=
 Eq.trans (b:=p (s0 k a1) a1) (by kernel_rfl) (by rw[s0_eq])
theorem ok:Ok prog 310 D.sig:=fd_ok func310 tlOk (by kernel_rfl) (fn_nil _)
end slices_Index_Key
namespace slices_Contains_Key
abbrev Arg:Type:=(List Key)×Key×Unit
abbrev Out:Type:=Bool×Unit
abbrev ps:PQ:=[(.ro,(.slc tKey)),(.ro,tKey)]
noncomputable def D:FD:={ fn:=f268,tl:=TL0,ps:=ps,rs:=[(.bool,(roMd .bool))],gl:=[(310,slices_Index_Key.D.sig)] }
noncomputable def sem (a:Arg):Option Out:=@lift Out fun k=>D.W k a
noncomputable def p (a1:Arg):Option Out:=(slices_Index_Key.sem (a1.1,a1.2.1,())).bind fun r2=>some (decide ((0:Int)<=r2.1),())
theorem raw_eq (k:Nat) (a1:Arg):@Eq (Option Out) (D.W k a1) (p a1):=by kernel_rfl
theorem ok:Ok prog 268 D.sig:=fd_ok func268 tlOk (by kernel_rfl) (fc slices_Index_Key.ok (fn_nil _))
end slices_Contains_Key
namespace impl_Change_lock
abbrev Arg:Type:=Change×Unit
abbrev Out:Type:=Key×Unit
abbrev ps:PQ:=[(.ro,tChange)]
noncomputable def D:FD:={ fn:=f269,tl:=TL0,ps:=ps,rs:=[(tKey,(roMd tKey))],gl:=[(284,impl_Change_key.D.sig)],od:=[(1,[0,3,1,2,4,5,6,7])] }
noncomputable def sem (a:Arg):Option Out:=@lift Out fun k=>D.W k a
noncomputable def p (a1:Arg):Option Out:=(impl_Change_key.sem (a1.1,())).bind fun r2=>(impl_Change_key.sem (a1.1,())).bind fun r3=>some ((r2.1.1,r3.1.2.1,()),())
theorem raw_eq (k:Nat) (a1:Arg):@Eq (Option Out) (D.W k a1) (p a1):=by kernel_rfl
theorem ok:Ok prog 269 D.sig:=fd_ok func269 tlOk (by kernel_rfl) (fc impl_Change_key.ok (fn_nil _))
end impl_Change_lock
namespace impl_isKey
abbrev Arg:Type:=Int×Int×Unit
abbrev Out:Type:=Bool×Unit
abbrev ps:PQ:=[(.ro,i64),(.ro,i64)]
noncomputable def D:FD:={ fn:=f270,tl:=TL0,ps:=ps,rs:=[(.bool,(roMd .bool))],gl:=[(61,impl_in.D.sig)] }
noncomputable def sem (a:Arg):Option Out:=@lift Out fun k=>D.W k a
noncomputable def p (a1:Arg):Option Out:=(impl_in.sem (a1.1,(0:Int),(3:Int),())).bind fun r2=>bif r2.1 then ((impl_in.sem (a1.2.1,(1:Int),(99:Int),())).bind fun r3=>some (r3.1,())) else some (false,())
theorem raw_eq (k:Nat) (a1:Arg):@Eq (Option Out) (D.W k a1) (p a1):=by kernel_rfl
theorem ok:Ok prog 270 D.sig:=fd_ok func270 tlOk (by kernel_rfl) (fc impl_in.ok (fn_nil _))
end impl_isKey
namespace impl_txFault
abbrev Arg:Type:=Tx×Unit
abbrev Out:Type:=Int×Unit
abbrev ps:PQ:=[(.ro,tTx)]
noncomputable def D:FD:={ fn:=f204,tl:=TL0,ps:=ps,rs:=[(i64,(roMd i64))],gl:=[(61,impl_in.D.sig),(267,impl_singleFault.D.sig),(268,slices_Contains_Key.D.sig),(269,impl_Change_lock.D.sig),(270,impl_isKey.D.sig)],lv:=[(2,[1,12,13,14]),(14,[1,6,41,42,43]),(21,[1,57,58,59])],lx:=[(0,[1]),(2,[1]),(4,[])],od:=[(7,[0,1,2,3,4,5]),(25,[0,1,2,3,4,5])] }
noncomputable def sem (a:Arg):Option Out:=@lift Out fun k=>D.W k a
noncomputable def T0 (a1:Arg) (v402:Int):St:={ n:=77,sl:=[(1,.box tTx (roMd tTx) [] a1.1),(12,.val (.slc tChange) a1.1.2.1),(13,.val i64 (a1.1.2.1.length:Int)),(14,.val i64 v402)],vr:=[],lent:=[] }
noncomputable def S0 (rec:RT Out) (a1:Arg):(Int)->Option Out:=fun v402=>rec (T0 a1 v402)
noncomputable def X0_0 (K:KT Out) (a1:Arg):(Unit)->Option Out:=fun z=>K (.exit 0) ({ n:=77,sl:=[(1,.box tTx (roMd tTx) [] a1.1)],vr:=[],lent:=[] })
noncomputable def b0 (self:Int->Option Out) (e0:(Unit)->Option Out) (a1:Arg) (v402:Int):Option Out:=bif decide (v402 < (a1.1.2.1.length:Int)) then (if 0<=v402 then ((a1.1.2.1[v402.toNat]?).bind fun x603=>(impl_singleFault.sem (x603,())).bind fun r604=>bif !decide (r604.1=(0:Int)) then (some (r604.1,())) else (impl_Change_lock.sem (x603,())).bind fun r605=>(slices_Contains_Key.sem (a1.1.2.2.2.1,r605.1,())).bind fun r606=>bif !r606.1 then (some ((8:Int),())) else self (w64 (v402+(1:Int)))) else none) else e0 ()
noncomputable abbrev B0 (_:Nat):=b0
theorem B0_eq (k:Nat) (rec:RT Out) (K:KT Out) (a1:Arg) (v402:Int):D.N k [1,0,1,0,0] (T0 a1 v402) (loopC rec (keepF [1,12,13,14] []) K)=b0 (S0 rec a1) (X0_0 K a1) a1 v402:=by kernel_rfl
noncomputable def T1 (a1:Arg) (v1008:Int×Int):St:={ n:=77,sl:=[(1,.box tTx (roMd tTx) [] a1.1),(6,.val i64 v1008.1),(41,.val (.slc i64) a1.1.2.2.1),(42,.val i64 (a1.1.2.2.1.length:Int)),(43,.val i64 v1008.2)],vr:=[],lent:=[] }
noncomputable def S1 (rec:RT Out) (a1:Arg):(Int×Int)->Option Out:=fun v1008=>rec (T1 a1 v1008)
noncomputable def X1_2 (K:KT Out) (a1:Arg):(Unit)->Option Out:=fun z=>K (.exit 2) ({ n:=77,sl:=[(1,.box tTx (roMd tTx) [] a1.1)],vr:=[],lent:=[] })
noncomputable def b1 (self:(Int×Int)->Option Out) (e2:(Unit)->Option Out) (a1:Arg) (v1008:Int×Int):Option Out:=bif decide (v1008.2 < (a1.1.2.2.1.length:Int)) then (if 0<=v1008.2 then ((a1.1.2.2.1[v1008.2.toNat]?).bind fun x1209=>(impl_in.sem (x1209,v1008.1,(a1.1.2.1.length:Int),())).bind fun r1210=>bif !r1210.1 then (some ((3:Int),())) else self (x1209,w64 (v1008.2+(1:Int)))) else none) else e2 ()
noncomputable abbrev B1 (_:Nat):=b1
theorem B1_eq (k:Nat) (rec:RT Out) (K:KT Out) (a1:Arg) (v1008:Int×Int):D.N k [1,1,1,1,0,1,0,0] (T1 a1 v1008) (loopC rec (keepF [1,6,41,42,43] []) K)=b1 (S1 rec a1) (X1_2 K a1) a1 v1008:=by kernel_rfl
noncomputable def T2 (a1:Arg) (v1612:Int):St:={ n:=77,sl:=[(1,.box tTx (roMd tTx) [] a1.1),(57,.val (.slc tKey) a1.1.2.2.2.1),(58,.val i64 (a1.1.2.2.2.1.length:Int)),(59,.val i64 v1612)],vr:=[],lent:=[] }
noncomputable def b2 (self:Int->Option Out) (e4:(Unit)->Option Out) (a1:Arg) (v1612:Int):Option Out:=bif decide (v1612 < (a1.1.2.2.2.1.length:Int)) then (if 0<=v1612 then ((a1.1.2.2.2.1[v1612.toNat]?).bind fun x1813=>(impl_isKey.sem (x1813.1,x1813.2.1,())).bind fun r1814=>bif !r1814.1 then (some ((3:Int),())) else if 0<=v1612/\v1612<=(a1.1.2.2.2.1.length:Int) then ((slices_Contains_Key.sem ((a1.1.2.2.2.1.take v1612.toNat).drop 0,x1813,())).bind fun r1815=>bif r1815.1 then (some ((6:Int),())) else self (w64 (v1612+(1:Int)))) else none) else none) else e4 ()
noncomputable abbrev B2 (_:Nat):=b2
noncomputable def q2 (a1:Arg) (z1816:(Unit)):Option Out:=some ((0:Int),())
noncomputable abbrev Q2 (_:Nat):=q2
noncomputable def s2 (k:Nat) (a1:Arg):(Int)->Option Out:=fun v1612=>D.L k [1,1,1,1,1,0,1,0,0] [1,57,58,59] [] (blockC 4 (seqC (D.N k [1,1,1,1,1,1]) D.K0)) (T2 a1 v1612)
noncomputable def r2 (k:Nat) (a1:Arg):(Int)->Option Out:=rawIter (fun w v=>B2 k w (Q2 k a1) a1 v) k
theorem s2_eq (k:Nat) (a1:Arg):s2 k a1=r2 k a1:=
 funext fun v1612=>iter_raw _ _ _ (T2 a1) _ (fun rec v=>by kernel_rfl) k v1612
noncomputable def q1 (l2:(Int)->Option Out) (a1:Arg) (z1211:(Unit)):Option Out:=l2 (0:Int)
noncomputable def Q1 (k:Nat) (a1:Arg) (z1211:(Unit)):Option Out:=q1 (r2 k a1) a1 z1211
theorem Q1_eq (k:Nat) (a1:Arg) (z1211:(Unit)):X1_2 (blockC 2 (seqC (D.N k [1,1,1,1,1]) D.K0)) a1 z1211=Q1 k a1 z1211:=
 Eq.trans (b:=q1 (s2 k a1) a1 z1211) (by kernel_rfl) (by rw[s2_eq];rfl)
noncomputable def s1 (k:Nat) (a1:Arg):(Int×Int)->Option Out:=fun v1008=>D.L k [1,1,1,1,0,1,0,0] [1,6,41,42,43] [] (blockC 2 (seqC (D.N k [1,1,1,1,1]) D.K0)) (T1 a1 v1008)
noncomputable def r1 (k:Nat) (a1:Arg):(Int×Int)->Option Out:=rawIter (fun w v=>B1 k w (Q1 k a1) a1 v) k
theorem s1_eq (k:Nat) (a1:Arg):s1 k a1=r1 k a1:=by
 funext v1008;
 have h2:X1_2 (blockC 2 (seqC (D.N k [1,1,1,1,1]) D.K0)) a1=Q1 k a1:=funext fun z=>Q1_eq k a1 z
 refine (iter_raw _ _ _ (T1 a1) (fun self v=>B1 k self (X1_2 (blockC 2 (seqC (D.N k [1,1,1,1,1]) D.K0)) a1) a1 v) (fun rec v=>B1_eq k rec (blockC 2 (seqC (D.N k [1,1,1,1,1]) D.K0)) a1 v) k v1008).trans ?_
 rw[h2]
 rfl
noncomputable def q0 (l1:(Int×Int)->Option Out) (a1:Arg) (z607:(Unit)):Option Out:=bif decide ((8:Int) < (a1.1.2.2.1.length:Int)) then (some ((2:Int),())) else bif decide ((12:Int) < (a1.1.2.2.2.1.length:Int)) then (some ((2:Int),())) else l1 ((0:Int),(0:Int))
noncomputable def Q0 (k:Nat) (a1:Arg) (z607:(Unit)):Option Out:=q0 (r1 k a1) a1 z607
theorem Q0_eq (k:Nat) (a1:Arg) (z607:(Unit)):X0_0 (blockC 0 (seqC (D.N k [1,1]) D.K0)) a1 z607=Q0 k a1 z607:=
 Eq.trans (b:=q0 (s1 k a1) a1 z607) (by kernel_rfl) (by rw[s1_eq];rfl)
noncomputable def s0 (k:Nat) (a1:Arg):(Int)->Option Out:=fun v402=>D.L k [1,0,1,0,0] [1,12,13,14] [] (blockC 0 (seqC (D.N k [1,1]) D.K0)) (T0 a1 v402)
noncomputable def r0 (k:Nat) (a1:Arg):(Int)->Option Out:=rawIter (fun w v=>B0 k w (Q0 k a1) a1 v) k
theorem s0_eq (k:Nat) (a1:Arg):s0 k a1=r0 k a1:=by
 funext v402;
 have h0:X0_0 (blockC 0 (seqC (D.N k [1,1]) D.K0)) a1=Q0 k a1:=funext fun z=>Q0_eq k a1 z
 refine (iter_raw _ _ _ (T0 a1) (fun self v=>B0 k self (X0_0 (blockC 0 (seqC (D.N k [1,1]) D.K0)) a1) a1 v) (fun rec v=>B0_eq k rec (blockC 0 (seqC (D.N k [1,1]) D.K0)) a1 v) k v402).trans ?_
 rw[h0]
 rfl
noncomputable def p (l0:(Int)->Option Out) (a1:Arg):Option Out:=l0 (0:Int)
theorem raw_eq (k:Nat) (a1:Arg):@Eq (Option Out) (D.W k a1) (p (r0 k a1) a1):=
 Eq.trans (b:=p (s0 k a1) a1) (by kernel_rfl) (by rw[s0_eq])
theorem ok:Ok prog 204 D.sig:=fd_ok func204 tlOk (by kernel_rfl) (fc impl_in.ok (fc impl_singleFault.ok (fc slices_Contains_Key.ok (fc impl_Change_lock.ok (fc impl_isKey.ok (fn_nil _))))))
end impl_txFault
namespace impl_undone
abbrev Arg:Type:=(List Tx)×Unit
abbrev Out:Type:=Int×Unit
abbrev ps:PQ:=[(.ro,(.slc tTx))]
noncomputable def D:FD:={ fn:=f205,tl:=TL0,ps:=ps,rs:=[(i64,(roMd i64))],lv:=[(3,[3,6,7,8])],lx:=[(0,[3])] }
noncomputable def sem (a:Arg):Option Out:=@lift Out fun k=>D.W k a
noncomputable def T0 (a1:Arg) (v402:Int×Int):St:={ n:=19,sl:=[(3,.val i64 v402.1),(6,.val (.slc tTx) a1.1),(7,.val i64 (a1.1.length:Int)),(8,.val i64 v402.2)],vr:=[],lent:=[] }
noncomputable def b0 (self:(Int×Int)->Option Out) (e0:Int->Option Out) (a1:Arg) (v402:Int×Int):Option Out:=bif decide (v402.2 < (a1.1.length:Int)) then (if 0<=v402.2 then ((a1.1[v402.2.toNat]?).bind fun x603=>self (w64 (v402.1+(x603.2.1.length:Int)),w64 (v402.2+(1:Int)))) else none) else e0 v402.1
noncomputable abbrev B0 (_:Nat):=b0
noncomputable def q0 (a1:Arg) (z604:Int):Option Out:=some (z604,())
noncomputable abbrev Q0 (_:Nat):=q0
noncomputable def s0 (k:Nat) (a1:Arg):(Int×Int)->Option Out:=fun v402=>D.L k [1,1,0,1,0,0] [3,6,7,8] [] (blockC 0 (seqC (D.N k [1,1,1]) D.K0)) (T0 a1 v402)
noncomputable def r0 (k:Nat) (a1:Arg):(Int×Int)->Option Out:=rawIter (fun w v=>B0 k w (Q0 k a1) a1 v) k
theorem s0_eq (k:Nat) (a1:Arg):s0 k a1=r0 k a1:=
 funext fun v402=>iter_raw _ _ _ (T0 a1) _ (fun rec v=>by kernel_rfl) k v402
noncomputable def p (l0:(Int×Int)->Option Out) (a1:Arg):Option Out:=l0 ((0:Int),(0:Int))
theorem raw_eq (k:Nat) (a1:Arg):@Eq (Option Out) (D.W k a1) (p (r0 k a1) a1):=
 Eq.trans (b:=p (s0 k a1) a1) (by kernel_rfl) (by rw[s0_eq])
theorem ok:Ok prog 205 D.sig:=fd_ok func205 tlOk (by kernel_rfl) (fn_nil _)
end impl_undone
namespace impl_TxsFault
abbrev Arg:Type:=(List Tx)×Unit
abbrev Out:Type:=Int×Unit
abbrev ps:PQ:=[(.ro,(.slc tTx))]
noncomputable def D:FD:={ fn:=f133,tl:=TL0,ps:=ps,rs:=[(i64,(roMd i64))],gl:=[(203,impl_isTx.D.sig),(204,impl_txFault.D.sig),(205,impl_undone.D.sig)],lv:=[(4,[0,14,15,16]),(16,[0,6,45,46,47]),(19,[0,6,45,46,47,52,53,54])],lx:=[(0,[0]),(2,[0]),(4,[0,6,45,46,47])],od:=[(8,[0,1,2,3,4,5,6,7,8,9,10,11,12])] }
noncomputable def sem (a:Arg):Option Out:=@lift Out fun k=>D.W k a
noncomputable def T0 (a1:Arg) (v402:Int):St:={ n:=68,sl:=[(0,.val (.slc tTx) a1.1),(14,.val (.slc tTx) a1.1),(15,.val i64 (a1.1.length:Int)),(16,.val i64 v402)],vr:=[],lent:=[] }
noncomputable def S0 (rec:RT Out) (a1:Arg):(Int)->Option Out:=fun v402=>rec (T0 a1 v402)
noncomputable def X0_0 (K:KT Out) (a1:Arg):(Unit)->Option Out:=fun z=>K (.exit 0) ({ n:=68,sl:=[(0,.val (.slc tTx) a1.1)],vr:=[],lent:=[] })
noncomputable def b0 (self:Int->Option Out) (e0:(Unit)->Option Out) (a1:Arg) (v402:Int):Option Out:=bif decide (v402 < (a1.1.length:Int)) then (if 0<=v402 then ((a1.1[v402.toNat]?).bind fun x603=>(impl_isTx.sem (x603.1,())).bind fun r604=>bif !r604.1 then (some ((3:Int),())) else bif decide ((0:Int) < v402) then (if 0<=w64 (v402 - (1:Int)) then ((a1.1[(w64 (v402 - (1:Int))).toNat]?).bind fun x605=>bif decide (x603.1<=x605.1) then (some ((1:Int),())) else (impl_txFault.sem (x603,())).bind fun r607=>bif !decide (r607.1=(0:Int)) then (some (r607.1,())) else self (w64 (v402+(1:Int)))) else none) else (impl_txFault.sem (x603,())).bind fun r608=>bif !decide (r608.1=(0:Int)) then (some (r608.1,())) else self (w64 (v402+(1:Int)))) else none) else e0 ()
noncomputable abbrev B0 (_:Nat):=b0
theorem B0_eq (k:Nat) (rec:RT Out) (K:KT Out) (a1:Arg) (v402:Int):D.N k [1,1,0,1,0,0] (T0 a1 v402) (loopC rec (keepF [0,14,15,16] []) K)=b0 (S0 rec a1) (X0_0 K a1) a1 v402:=by kernel_rfl
noncomputable def T1 (a1:Arg) (v1010:(List Tx)×(List (Key×Bool))×(List Tx)×Int×Int):St:={ n:=68,sl:=[(0,.val (.slc tTx) v1010.1),(6,.own (.map tKey .bool) (ownMd (.map tKey .bool)) [] v1010.2.1),(45,.val (.slc tTx) v1010.2.2.1),(46,.val i64 v1010.2.2.2.1),(47,.val i64 v1010.2.2.2.2)],vr:=[],lent:=[] }
noncomputable def S1 (rec:RT Out) (a1:Arg):((List Tx)×(List (Key×Bool))×(List Tx)×Int×Int)->Option Out:=fun v1010=>rec (T1 a1 v1010)
noncomputable def X1_2 (K:KT Out) (a1:Arg):(List Tx)->Option Out:=fun z=>K (.exit 2) ({ n:=68,sl:=[(0,.val (.slc tTx) z)],vr:=[],lent:=[] })
noncomputable def T2 (a1:Arg) (c1613:List Tx) (c1614:List Tx) (c1615:Int) (c1616:Int) (c1617:List Key) (c1618:Int) (v1612:(List (Key×Bool))×Int):St:={ n:=68,sl:=[(0,.val (.slc tTx) c1613),(6,.own (.map tKey .bool) (ownMd (.map tKey .bool)) [] v1612.1),(45,.val (.slc tTx) c1614),(46,.val i64 c1615),(47,.val i64 c1616),(52,.val (.slc tKey) c1617),(53,.val i64 c1618),(54,.val i64 v1612.2)],vr:=[],lent:=[] }
noncomputable def b2 (self:((List (Key×Bool))×Int)->Option Out) (e4:(List (Key×Bool))->Option Out) (a1:Arg) (c1613:List Tx) (c1614:List Tx) (c1615:Int) (c1616:Int) (c1617:List Key) (c1618:Int) (v1612:(List (Key×Bool))×Int):Option Out:=bif decide (v1612.2 < c1618) then (if 0<=v1612.2 then ((c1617[v1612.2.toNat]?).bind fun x1819=>bif orZ (mapGet tKey v1612.1 x1819) false then (some ((7:Int),())) else self (mapPut tKey v1612.1 x1819 true,w64 (v1612.2+(1:Int)))) else none) else e4 v1612.1
noncomputable abbrev B2 (_:Nat):=b2
noncomputable def q1 (self:((List Tx)×(List (Key×Bool))×(List Tx)×Int×Int)->Option Out) (e2:(List Tx)->Option Out) (a1:Arg) (c1613:List Tx) (c1614:List Tx) (c1615:Int) (c1616:Int) (c1617:List Key) (c1618:Int) (z1820:(List (Key×Bool))):Option Out:=self (c1613,z1820,c1614,c1615,w64 (c1616+(1:Int)))
noncomputable abbrev Q1 (_:Nat):=q1
noncomputable def s2 (k:Nat) (rec:RT Out) (K:KT Out) (a1:Arg):(List Tx)->(List Tx)->Int->Int->(List Key)->Int->((List (Key×Bool))×Int)->Option Out:=fun c1613 c1614 c1615 c1616 c1617 c1618=>fun v1612=>D.L k [1,1,1,1,0,1,0,0,1,1,0,0,1,1,0,0] [0,6,45,46,47,52,53,54] [] (blockC 4 (blockC 3 (seqC (D.N k [1,1,1,1,0,1,0,0,1,1,1]) (loopC rec (keepF [0,6,45,46,47] []) K)))) (T2 a1 c1613 c1614 c1615 c1616 c1617 c1618 v1612)
noncomputable def r2 (k:Nat) (self:((List Tx)×(List (Key×Bool))×(List Tx)×Int×Int)->Option Out) (e2:(List Tx)->Option Out) (a1:Arg):(List Tx)->(List Tx)->Int->Int->(List Key)->Int->((List (Key×Bool))×Int)->Option Out:=fun c1613 c1614 c1615 c1616 c1617 c1618=>rawIter (fun w v=>B2 k w (Q1 k self e2 a1 c1613 c1614 c1615 c1616 c1617 c1618) a1 c1613 c1614 c1615 c1616 c1617 c1618 v) k
theorem s2_eq (k:Nat) (rec:RT Out) (K:KT Out) (a1:Arg):s2 k rec K a1=r2 k (S1 rec a1) (X1_2 K a1) a1:=
 funext fun c1613=>funext fun c1614=>funext fun c1615=>funext fun c1616=>funext fun c1617=>funext fun c1618=>funext fun v1612=>iter_raw _ _ _ (T2 a1 c1613 c1614 c1615 c1616 c1617 c1618) _ (fun rec v=>by kernel_rfl) k v1612
noncomputable def b1 (self:((List Tx)×(List (Key×Bool))×(List Tx)×Int×Int)->Option Out) (e2:(List Tx)->Option Out) (l2:(List Tx)->(List Tx)->Int->Int->(List Key)->Int->((List (Key×Bool))×Int)->Option Out) (a1:Arg) (v1010:(List Tx)×(List (Key×Bool))×(List Tx)×Int×Int):Option Out:=bif decide (v1010.2.2.2.2 < v1010.2.2.2.1) then (if 0<=v1010.2.2.2.2 then ((v1010.2.2.1[v1010.2.2.2.2.toNat]?).bind fun x1211=>l2 v1010.1 v1010.2.2.1 v1010.2.2.2.1 v1010.2.2.2.2 x1211.2.2.2.1 (x1211.2.2.2.1.length:Int) (v1010.2.1,(0:Int))) else none) else e2 v1010.1
noncomputable def B1 (k:Nat) (self:((List Tx)×(List (Key×Bool))×(List Tx)×Int×Int)->Option Out) (e2:(List Tx)->Option Out) (a1:Arg) (v1010:(List Tx)×(List (Key×Bool))×(List Tx)×Int×Int):Option Out:=b1 self e2 (r2 k self e2 a1) a1 v1010
theorem B1_eq (k:Nat) (rec:RT Out) (K:KT Out) (a1:Arg) (v1010:(List Tx)×(List (Key×Bool))×(List Tx)×Int×Int):D.N k [1,1,1,1,0,1,0,0] (T1 a1 v1010) (loopC rec (keepF [0,6,45,46,47] []) K)=B1 k (S1 rec a1) (X1_2 K a1) a1 v1010:=
 Eq.trans (b:=b1 (S1 rec a1) (X1_2 K a1) (s2 k rec K a1) a1 v1010) (by kernel_rfl) (by rw[s2_eq];rfl)
noncomputable def q2 (a1:Arg) (z1821:(List Tx)):Option Out:=(impl_undone.sem (z1821,())).bind fun r1822=>bif decide ((12:Int) < r1822.1) then (some ((2:Int),())) else some ((0:Int),())
noncomputable abbrev Q2 (_:Nat):=q2
theorem Q2_eq (k:Nat) (a1:Arg) (z1821:(List Tx)):X1_2 (blockC 2 (seqC (D.N k [1,1,1,1,1]) D.K0)) a1 z1821=q2 a1 z1821:=by kernel_rfl
noncomputable def s1 (k:Nat) (a1:Arg):((List Tx)×(List (Key×Bool))×(List Tx)×Int×Int)->Option Out:=fun v1010=>D.L k [1,1,1,1,0,1,0,0] [0,6,45,46,47] [] (blockC 2 (seqC (D.N k [1,1,1,1,1]) D.K0)) (T1 a1 v1010)
noncomputable def r1 (k:Nat) (a1:Arg):((List Tx)×(List (Key×Bool))×(List Tx)×Int×Int)->Option Out:=rawIter (fun w v=>B1 k w (Q2 k a1) a1 v) k
theorem s1_eq (k:Nat) (a1:Arg):s1 k a1=r1 k a1:=by
 funext v1010;
 have h2:X1_2 (blockC 2 (seqC (D.N k [1,1,1,1,1]) D.K0)) a1=Q2 k a1:=funext fun z=>Q2_eq k a1 z
 refine (iter_raw _ _ _ (T1 a1) (fun self v=>B1 k self (X1_2 (blockC 2 (seqC (D.N k [1,1,1,1,1]) D.K0)) a1) a1 v) (fun rec v=>B1_eq k rec (blockC 2 (seqC (D.N k [1,1,1,1,1]) D.K0)) a1 v) k v1010).trans ?_
 rw[h2]
 rfl
noncomputable def q0 (l1:((List Tx)×(List (Key×Bool))×(List Tx)×Int×Int)->Option Out) (a1:Arg) (z609:(Unit)):Option Out:=l1 (a1.1,([]:List (Key×Bool)),a1.1,(a1.1.length:Int),(0:Int))
noncomputable def Q0 (k:Nat) (a1:Arg) (z609:(Unit)):Option Out:=q0 (r1 k a1) a1 z609
theorem Q0_eq (k:Nat) (a1:Arg) (z609:(Unit)):X0_0 (blockC 0 (seqC (D.N k [1,1,1]) D.K0)) a1 z609=Q0 k a1 z609:=
 Eq.trans (b:=q0 (s1 k a1) a1 z609) (by kernel_rfl) (by rw[s1_eq];rfl)
noncomputable def s0 (k:Nat) (a1:Arg):(Int)->Option Out:=fun v402=>D.L k [1,1,0,1,0,0] [0,14,15,16] [] (blockC 0 (seqC (D.N k [1,1,1]) D.K0)) (T0 a1 v402)
noncomputable def r0 (k:Nat) (a1:Arg):(Int)->Option Out:=rawIter (fun w v=>B0 k w (Q0 k a1) a1 v) k
theorem s0_eq (k:Nat) (a1:Arg):s0 k a1=r0 k a1:=by
 funext v402;
 have h0:X0_0 (blockC 0 (seqC (D.N k [1,1,1]) D.K0)) a1=Q0 k a1:=funext fun z=>Q0_eq k a1 z
 refine (iter_raw _ _ _ (T0 a1) (fun self v=>B0 k self (X0_0 (blockC 0 (seqC (D.N k [1,1,1]) D.K0)) a1) a1 v) (fun rec v=>B0_eq k rec (blockC 0 (seqC (D.N k [1,1,1]) D.K0)) a1 v) k v402).trans ?_
 rw[h0]
 rfl
noncomputable def p (l0:(Int)->Option Out) (a1:Arg):Option Out:=bif decide ((4:Int) < (a1.1.length:Int)) then (some ((2:Int),())) else l0 (0:Int)
theorem raw_eq (k:Nat) (a1:Arg):@Eq (Option Out) (D.W k a1) (p (r0 k a1) a1):=
 Eq.trans (b:=p (s0 k a1) a1) (by kernel_rfl) (by rw[s0_eq])
theorem ok:Ok prog 133 D.sig:=fd_ok func133 tlOk (by kernel_rfl) (fc impl_isTx.ok (fc impl_txFault.ok (fc impl_undone.ok (fn_nil _))))
end impl_TxsFault
namespace impl_keysOf
abbrev Arg:Type:=(List Row)×(List Tx)×Unit
abbrev Out:Type:=(List (Key×Bool))×Unit
abbrev ps:PQ:=[(.ro,(.slc tRow)),(.ro,(.slc tTx))]
noncomputable def D:FD:={ fn:=f134,tl:=TL0,ps:=ps,rs:=[((.map tKey .bool),(ownMd (.map tKey .bool)))],lv:=[(3,[1,5,13,14,15]),(8,[5,26,27,28]),(11,[5,26,27,28,33,34,35])],lx:=[(0,[1,5]),(2,[5]),(4,[5,26,27,28])] }
noncomputable def sem (a:Arg):Option Out:=@lift Out fun k=>D.W k a
noncomputable def T0 (a1:Arg) (v402:(List (Key×Bool))×Int):St:={ n:=44,sl:=[(1,.val (.slc tTx) a1.2.1),(5,.own (.map tKey .bool) (ownMd (.map tKey .bool)) [] v402.1),(13,.val (.slc tRow) a1.1),(14,.val i64 (a1.1.length:Int)),(15,.val i64 v402.2)],vr:=[],lent:=[] }
noncomputable def S0 (rec:RT Out) (a1:Arg):((List (Key×Bool))×Int)->Option Out:=fun v402=>rec (T0 a1 v402)
noncomputable def X0_0 (K:KT Out) (a1:Arg):(List (Key×Bool))->Option Out:=fun z=>K (.exit 0) ({ n:=44,sl:=[(1,.val (.slc tTx) a1.2.1),(5,.own (.map tKey .bool) (ownMd (.map tKey .bool)) [] z)],vr:=[],lent:=[] })
noncomputable def b0 (self:((List (Key×Bool))×Int)->Option Out) (e0:(List (Key×Bool))->Option Out) (a1:Arg) (v402:(List (Key×Bool))×Int):Option Out:=bif decide (v402.2 < (a1.1.length:Int)) then (if 0<=v402.2 then ((a1.1[v402.2.toNat]?).bind fun x603=>let y604:=mapPut tKey v402.1 (x603.1,x603.2.1,()) true;self (y604,w64 (v402.2+(1:Int)))) else none) else e0 v402.1
noncomputable abbrev B0 (_:Nat):=b0
theorem B0_eq (k:Nat) (rec:RT Out) (K:KT Out) (a1:Arg) (v402:(List (Key×Bool))×Int):D.N k [1,1,0,1,0,0] (T0 a1 v402) (loopC rec (keepF [1,5,13,14,15] []) K)=b0 (S0 rec a1) (X0_0 K a1) a1 v402:=by kernel_rfl
noncomputable def T1 (a1:Arg) (v1006:(List (Key×Bool))×(List Tx)×Int×Int):St:={ n:=44,sl:=[(5,.own (.map tKey .bool) (ownMd (.map tKey .bool)) [] v1006.1),(26,.val (.slc tTx) v1006.2.1),(27,.val i64 v1006.2.2.1),(28,.val i64 v1006.2.2.2)],vr:=[],lent:=[] }
noncomputable def S1 (rec:RT Out) (a1:Arg):((List (Key×Bool))×(List Tx)×Int×Int)->Option Out:=fun v1006=>rec (T1 a1 v1006)
noncomputable def X1_2 (K:KT Out) (a1:Arg):(List (Key×Bool))->Option Out:=fun z=>K (.exit 2) ({ n:=44,sl:=[(5,.own (.map tKey .bool) (ownMd (.map tKey .bool)) [] z)],vr:=[],lent:=[] })
noncomputable def T2 (a1:Arg) (c1609:List Tx) (c1610:Int) (c1611:Int) (c1612:List Key) (c1613:Int) (v1608:(List (Key×Bool))×Int):St:={ n:=44,sl:=[(5,.own (.map tKey .bool) (ownMd (.map tKey .bool)) [] v1608.1),(26,.val (.slc tTx) c1609),(27,.val i64 c1610),(28,.val i64 c1611),(33,.val (.slc tKey) c1612),(34,.val i64 c1613),(35,.val i64 v1608.2)],vr:=[],lent:=[] }
noncomputable def b2 (self:((List (Key×Bool))×Int)->Option Out) (e4:(List (Key×Bool))->Option Out) (a1:Arg) (c1609:List Tx) (c1610:Int) (c1611:Int) (c1612:List Key) (c1613:Int) (v1608:(List (Key×Bool))×Int):Option Out:=bif decide (v1608.2 < c1613) then (if 0<=v1608.2 then ((c1612[v1608.2.toNat]?).bind fun x1814=>self (mapPut tKey v1608.1 x1814 true,w64 (v1608.2+(1:Int)))) else none) else e4 v1608.1
noncomputable abbrev B2 (_:Nat):=b2
noncomputable def q1 (self:((List (Key×Bool))×(List Tx)×Int×Int)->Option Out) (e2:(List (Key×Bool))->Option Out) (a1:Arg) (c1609:List Tx) (c1610:Int) (c1611:Int) (c1612:List Key) (c1613:Int) (z1815:(List (Key×Bool))):Option Out:=self (z1815,c1609,c1610,w64 (c1611+(1:Int)))
noncomputable abbrev Q1 (_:Nat):=q1
noncomputable def s2 (k:Nat) (rec:RT Out) (K:KT Out) (a1:Arg):(List Tx)->Int->Int->(List Key)->Int->((List (Key×Bool))×Int)->Option Out:=fun c1609 c1610 c1611 c1612 c1613=>fun v1608=>D.L k [1,1,1,0,1,0,0,1,1,0,0,1,1,0,0] [5,26,27,28,33,34,35] [] (blockC 4 (blockC 3 (seqC (D.N k [1,1,1,0,1,0,0,1,1,1]) (loopC rec (keepF [5,26,27,28] []) K)))) (T2 a1 c1609 c1610 c1611 c1612 c1613 v1608)
noncomputable def r2 (k:Nat) (self:((List (Key×Bool))×(List Tx)×Int×Int)->Option Out) (e2:(List (Key×Bool))->Option Out) (a1:Arg):(List Tx)->Int->Int->(List Key)->Int->((List (Key×Bool))×Int)->Option Out:=fun c1609 c1610 c1611 c1612 c1613=>rawIter (fun w v=>B2 k w (Q1 k self e2 a1 c1609 c1610 c1611 c1612 c1613) a1 c1609 c1610 c1611 c1612 c1613 v) k
theorem s2_eq (k:Nat) (rec:RT Out) (K:KT Out) (a1:Arg):s2 k rec K a1=r2 k (S1 rec a1) (X1_2 K a1) a1:=
 funext fun c1609=>funext fun c1610=>funext fun c1611=>funext fun c1612=>funext fun c1613=>funext fun v1608=>iter_raw _ _ _ (T2 a1 c1609 c1610 c1611 c1612 c1613) _ (fun rec v=>by kernel_rfl) k v1608
noncomputable def b1 (self:((List (Key×Bool))×(List Tx)×Int×Int)->Option Out) (e2:(List (Key×Bool))->Option Out) (l2:(List Tx)->Int->Int->(List Key)->Int->((List (Key×Bool))×Int)->Option Out) (a1:Arg) (v1006:(List (Key×Bool))×(List Tx)×Int×Int):Option Out:=bif decide (v1006.2.2.2 < v1006.2.2.1) then (if 0<=v1006.2.2.2 then ((v1006.2.1[v1006.2.2.2.toNat]?).bind fun x1207=>l2 v1006.2.1 v1006.2.2.1 v1006.2.2.2 x1207.2.2.2.1 (x1207.2.2.2.1.length:Int) (v1006.1,(0:Int))) else none) else e2 v1006.1
noncomputable def B1 (k:Nat) (self:((List (Key×Bool))×(List Tx)×Int×Int)->Option Out) (e2:(List (Key×Bool))->Option Out) (a1:Arg) (v1006:(List (Key×Bool))×(List Tx)×Int×Int):Option Out:=b1 self e2 (r2 k self e2 a1) a1 v1006
theorem B1_eq (k:Nat) (rec:RT Out) (K:KT Out) (a1:Arg) (v1006:(List (Key×Bool))×(List Tx)×Int×Int):D.N k [1,1,1,0,1,0,0] (T1 a1 v1006) (loopC rec (keepF [5,26,27,28] []) K)=B1 k (S1 rec a1) (X1_2 K a1) a1 v1006:=
 Eq.trans (b:=b1 (S1 rec a1) (X1_2 K a1) (s2 k rec K a1) a1 v1006) (by kernel_rfl) (by rw[s2_eq];rfl)
noncomputable def q2 (a1:Arg) (z1816:(List (Key×Bool))):Option Out:=some (z1816,())
noncomputable abbrev Q2 (_:Nat):=q2
theorem Q2_eq (k:Nat) (a1:Arg) (z1816:(List (Key×Bool))):X1_2 (blockC 2 (seqC (D.N k [1,1,1,1]) D.K0)) a1 z1816=q2 a1 z1816:=by kernel_rfl
noncomputable def s1 (k:Nat) (a1:Arg):((List (Key×Bool))×(List Tx)×Int×Int)->Option Out:=fun v1006=>D.L k [1,1,1,0,1,0,0] [5,26,27,28] [] (blockC 2 (seqC (D.N k [1,1,1,1]) D.K0)) (T1 a1 v1006)
noncomputable def r1 (k:Nat) (a1:Arg):((List (Key×Bool))×(List Tx)×Int×Int)->Option Out:=rawIter (fun w v=>B1 k w (Q2 k a1) a1 v) k
theorem s1_eq (k:Nat) (a1:Arg):s1 k a1=r1 k a1:=by
 funext v1006;
 have h2:X1_2 (blockC 2 (seqC (D.N k [1,1,1,1]) D.K0)) a1=Q2 k a1:=funext fun z=>Q2_eq k a1 z
 refine (iter_raw _ _ _ (T1 a1) (fun self v=>B1 k self (X1_2 (blockC 2 (seqC (D.N k [1,1,1,1]) D.K0)) a1) a1 v) (fun rec v=>B1_eq k rec (blockC 2 (seqC (D.N k [1,1,1,1]) D.K0)) a1 v) k v1006).trans ?_
 rw[h2]
 rfl
noncomputable def q0 (l1:((List (Key×Bool))×(List Tx)×Int×Int)->Option Out) (a1:Arg) (z605:(List (Key×Bool))):Option Out:=l1 (z605,a1.2.1,(a1.2.1.length:Int),(0:Int))
noncomputable def Q0 (k:Nat) (a1:Arg) (z605:(List (Key×Bool))):Option Out:=q0 (r1 k a1) a1 z605
theorem Q0_eq (k:Nat) (a1:Arg) (z605:(List (Key×Bool))):X0_0 (blockC 0 (seqC (D.N k [1,1,1]) D.K0)) a1 z605=Q0 k a1 z605:=
 Eq.trans (b:=q0 (s1 k a1) a1 z605) (by kernel_rfl) (by rw[s1_eq];rfl)
noncomputable def s0 (k:Nat) (a1:Arg):((List (Key×Bool))×Int)->Option Out:=fun v402=>D.L k [1,1,0,1,0,0] [1,5,13,14,15] [] (blockC 0 (seqC (D.N k [1,1,1]) D.K0)) (T0 a1 v402)
noncomputable def r0 (k:Nat) (a1:Arg):((List (Key×Bool))×Int)->Option Out:=rawIter (fun w v=>B0 k w (Q0 k a1) a1 v) k
theorem s0_eq (k:Nat) (a1:Arg):s0 k a1=r0 k a1:=by
 funext v402;
 have h0:X0_0 (blockC 0 (seqC (D.N k [1,1,1]) D.K0)) a1=Q0 k a1:=funext fun z=>Q0_eq k a1 z
 refine (iter_raw _ _ _ (T0 a1) (fun self v=>B0 k self (X0_0 (blockC 0 (seqC (D.N k [1,1,1]) D.K0)) a1) a1 v) (fun rec v=>B0_eq k rec (blockC 0 (seqC (D.N k [1,1,1]) D.K0)) a1 v) k v402).trans ?_
 rw[h0]
 rfl
noncomputable def p (l0:((List (Key×Bool))×Int)->Option Out) (a1:Arg):Option Out:=l0 (([]:List (Key×Bool)),(0:Int))
theorem raw_eq (k:Nat) (a1:Arg):@Eq (Option Out) (D.W k a1) (p (r0 k a1) a1):=
 Eq.trans (b:=p (s0 k a1) a1) (by kernel_rfl) (by rw[s0_eq])
theorem ok:Ok prog 134 D.sig:=fd_ok func134 tlOk (by kernel_rfl) (fn_nil _)
end impl_keysOf
namespace impl_PlainFault
abbrev Arg:Type:=Plain×Unit
abbrev Out:Type:=Int×Unit
abbrev ps:PQ:=[(.ro,tPlain)]
noncomputable def D:FD:={ fn:=f63,tl:=TL0,ps:=ps,rs:=[(i64,(roMd i64))],gl:=[(61,impl_in.D.sig),(114,impl_committed.D.sig),(132,impl_RowsFault.D.sig),(133,impl_TxsFault.D.sig),(134,impl_keysOf.D.sig)],od:=[(7,[0,1,2,3,4,5,6,7,8,9,10,11,12,13,14,15,16,17,18,19,20,21,22,23])],ar:=[(7,[1,6,11,13,18,20])],bx:=[(7,[1])] }
noncomputable def sem (a:Arg):Option Out:=@lift Out fun k=>D.W k a
noncomputable def p (a1:Arg):Option Out:=(impl_RowsFault.sem (a1.1.1,())).bind fun r2=>bif !decide (r2.1=(0:Int)) then (some (r2.1,())) else (impl_TxsFault.sem (a1.1.2.1,())).bind fun r3=>bif !decide (r3.1=(0:Int)) then (some (r3.1,())) else let j8:Option Out:=(impl_keysOf.sem (a1.1.1,a1.1.2.1,())).bind fun r9=>bif decide ((12:Int) < (r9.1.length:Int)) then (some ((2:Int),())) else (impl_committed.sem (a1.1.1,a1.1.2.1,())).bind fun r10=>bif !decide (r10.2.1=(0:Int)) then (some ((8:Int),())) else some ((0:Int),());(impl_in.sem (a1.1.2.2.1,(1:Int),(100:Int),())).bind fun r4=>bif !r4.1 then (some ((3:Int),())) else bif decide ((0:Int) < (a1.1.2.1.length:Int)) then (if 0<=w64 ((a1.1.2.1.length:Int) - (1:Int)) then ((a1.1.2.1[(w64 ((a1.1.2.1.length:Int) - (1:Int))).toNat]?).bind fun x5=>bif decide (a1.1.2.2.1<=x5.1) then (some ((3:Int),())) else j8) else none) else j8
theorem raw_eq (k:Nat) (a1:Arg):@Eq (Option Out) (D.W k a1) (p a1):=by kernel_rfl
theorem ok:Ok prog 63 D.sig:=fd_ok func63 tlOk (by kernel_rfl) (fc impl_in.ok (fc impl_committed.ok (fc impl_RowsFault.ok (fc impl_TxsFault.ok (fc impl_keysOf.ok (fn_nil _))))))
end impl_PlainFault
namespace impl_plain
abbrev Arg:Type:=(List Seen)×Unit
abbrev Out:Type:=(List Row)×Unit
abbrev ps:PQ:=[(.ro,(.slc tSeen))]
noncomputable def D:FD:={ fn:=f64,tl:=TL0,ps:=ps,rs:=[((.slc tRow),(ownMd (.slc tRow)))],lv:=[(3,[3,6,7,8])],lx:=[(0,[3])] }
noncomputable def sem (a:Arg):Option Out:=@lift Out fun k=>D.W k a
noncomputable def T0 (a1:Arg) (v402:(List Row)×Int):St:={ n:=19,sl:=[(3,.own (.slc tRow) (ownMd (.slc tRow)) [] v402.1),(6,.val (.slc tSeen) a1.1),(7,.val i64 (a1.1.length:Int)),(8,.val i64 v402.2)],vr:=[],lent:=[] }
noncomputable def b0 (self:((List Row)×Int)->Option Out) (e0:(List Row)->Option Out) (a1:Arg) (v402:(List Row)×Int):Option Out:=bif decide (v402.2 < (a1.1.length:Int)) then (if 0<=v402.2 then ((a1.1[v402.2.toNat]?).bind fun x603=>if v402.1.length+[x603.1].length<=CAP then (self (v402.1++[x603.1],w64 (v402.2+(1:Int)))) else none) else none) else e0 v402.1
noncomputable abbrev B0 (_:Nat):=b0
noncomputable def q0 (a1:Arg) (z604:(List Row)):Option Out:=some (z604,())
noncomputable abbrev Q0 (_:Nat):=q0
noncomputable def s0 (k:Nat) (a1:Arg):((List Row)×Int)->Option Out:=fun v402=>D.L k [1,1,0,1,0,0] [3,6,7,8] [] (blockC 0 (seqC (D.N k [1,1,1]) D.K0)) (T0 a1 v402)
noncomputable def r0 (k:Nat) (a1:Arg):((List Row)×Int)->Option Out:=rawIter (fun w v=>B0 k w (Q0 k a1) a1 v) k
theorem s0_eq (k:Nat) (a1:Arg):s0 k a1=r0 k a1:=
 funext fun v402=>iter_raw _ _ _ (T0 a1) _ (fun rec v=>by kernel_rfl) k v402
noncomputable def p (l0:((List Row)×Int)->Option Out) (a1:Arg):Option Out:=l0 (([]:List Row),(0:Int))
theorem raw_eq (k:Nat) (a1:Arg):@Eq (Option Out) (D.W k a1) (p (r0 k a1) a1):=
 Eq.trans (b:=p (s0 k a1) a1) (by kernel_rfl) (by rw[s0_eq])
theorem ok:Ok prog 64 D.sig:=fd_ok func64 tlOk (by kernel_rfl) (fn_nil _)
end impl_plain
namespace slices_Clone_bytes
abbrev Arg:Type:=(List (List UInt8))×Unit
abbrev Out:Type:=(List (List UInt8))×Unit
abbrev ps:PQ:=[(.ro,(.slc (.slc u8)))]
noncomputable def D:FD:={ fn:=f208,tl:=TL0,ps:=ps,rs:=[((.slc (.slc u8)),(.slc true (roMd (.slc u8))))] }
noncomputable def sem (a:Arg):Option Out:=@lift Out fun k=>D.W k a
noncomputable def p (a1:Arg):Option Out:=nilB a1.1 (some (([]:List (List UInt8)),())) (if ([]:List (List UInt8)).length+a1.1.length<=CAP then (some (([]:List (List UInt8))++a1.1,())) else none)
theorem raw_eq (k:Nat) (a1:Arg):@Eq (Option Out) (D.W k a1) (p a1):=by kernel_rfl
theorem ok:Ok prog 208 D.sig:=fd_ok func208 tlOk (by kernel_rfl) (fn_nil _)
end slices_Clone_bytes
namespace impl_newPage
abbrev Arg:Type:=UInt8×Unit
abbrev Out:Type:=(List UInt8)×Unit
abbrev ps:PQ:=[(.ro,u8)]
noncomputable def D:FD:={ fn:=f209,tl:=TL0,ps:=ps,rs:=[((.slc u8),(ownMd (.slc u8)))],lv:=[(3,[0,3,7,8])],lx:=[(0,[3])] }
noncomputable def sem (a:Arg):Option Out:=@lift Out fun k=>D.W k a
noncomputable def T0 (a1:Arg) (v402:(List UInt8)×Int):St:={ n:=21,sl:=[(0,.val u8 a1.1),(3,.own (.slc u8) (ownMd (.slc u8)) [] v402.1),(7,.val i64 ((List.replicate 64 (0:UInt8)).length:Int)),(8,.val i64 v402.2)],vr:=[],lent:=[] }
noncomputable def b0 (self:((List UInt8)×Int)->Option Out) (e0:(List UInt8)->Option Out) (a1:Arg) (v402:(List UInt8)×Int):Option Out:=bif decide (v402.2 < ((List.replicate 64 (0:UInt8)).length:Int)) then (if 0<=v402.2/\v402.2 < (v402.1.length:Int) then ((v402.1[v402.2.toNat]?).bind fun x603=>self (v402.1.set v402.2.toNat a1.1,w64 (v402.2+(1:Int)))) else none) else e0 v402.1
noncomputable abbrev B0 (_:Nat):=b0
noncomputable def q0 (a1:Arg) (z604:(List UInt8)):Option Out:=if 0<=(0:Int)/\(0:Int) < (z604.length:Int) then ((z604[0]?).bind fun x605=>if 0<=(1:Int)/\(1:Int) < ((z604.set 0 (0:UInt8)).length:Int) then (((z604.set 0 (0:UInt8))[1]?).bind fun x606=>let y607:=(z604.set 0 (0:UInt8)).set 1 (64:UInt8);some (y607,())) else none) else none
noncomputable abbrev Q0 (_:Nat):=q0
noncomputable def s0 (k:Nat) (a1:Arg):((List UInt8)×Int)->Option Out:=fun v402=>D.L k [1,1,0,1,0,0] [0,3,7,8] [] (blockC 0 (seqC (D.N k [1,1,1]) D.K0)) (T0 a1 v402)
noncomputable def r0 (k:Nat) (a1:Arg):((List UInt8)×Int)->Option Out:=rawIter (fun w v=>B0 k w (Q0 k a1) a1 v) k
theorem s0_eq (k:Nat) (a1:Arg):s0 k a1=r0 k a1:=
 funext fun v402=>iter_raw _ _ _ (T0 a1) _ (fun rec v=>by kernel_rfl) k v402
noncomputable def p (l0:((List UInt8)×Int)->Option Out) (a1:Arg):Option Out:=if 0<=(64:Int)/\(64:Int)<=(64:Int)/\(64:Int)<=(CAP:Int) then (l0 (List.replicate 64 (0:UInt8),(0:Int))) else none
theorem raw_eq (k:Nat) (a1:Arg):@Eq (Option Out) (D.W k a1) (p (r0 k a1) a1):=
 Eq.trans (b:=p (s0 k a1) a1) (by kernel_rfl) (by rw[s0_eq])
theorem ok:Ok prog 209 D.sig:=fd_ok func209 tlOk (by kernel_rfl) (fn_nil _)
end impl_newPage
namespace impl_applied
abbrev Arg:Type:=(List UInt8)×(List Run)×Unit
abbrev Out:Type:=(List UInt8)×Unit
abbrev ps:PQ:=[(.ro,(.slc u8)),(.ro,(.slc tRun))]
noncomputable def D:FD:={ fn:=f210,tl:=TL0,ps:=ps,rs:=[((.slc u8),(ownMd (.slc u8)))],gl:=[(159,impl_copied.D.sig)],lv:=[(3,[5,10,11,12])],lx:=[(0,[5])],od:=[(5,[0,1,2,3,4,5,6])] }
noncomputable def sem (a:Arg):Option Out:=@lift Out fun k=>D.W k a
noncomputable def T0 (a1:Arg) (v403:(List UInt8)×Int):St:={ n:=25,sl:=[(5,.own (.slc u8) (ownMd (.slc u8)) [] v403.1),(10,.val (.slc tRun) a1.2.1),(11,.val i64 (a1.2.1.length:Int)),(12,.val i64 v403.2)],vr:=[],lent:=[] }
noncomputable def b0 (self:((List UInt8)×Int)->Option Out) (e0:(List UInt8)->Option Out) (a1:Arg) (v403:(List UInt8)×Int):Option Out:=bif decide (v403.2 < (a1.2.1.length:Int)) then (if 0<=v403.2 then ((a1.2.1[v403.2.toNat]?).bind fun x604=>if 0<=x604.1/\x604.1<=(v403.1.length:Int) then (let y605:=over v403.1 x604.1.toNat (min x604.2.1.length (v403.1.length - x604.1.toNat)) x604.2.1;self (y605,w64 (v403.2+(1:Int)))) else none) else none) else e0 v403.1
noncomputable abbrev B0 (_:Nat):=b0
noncomputable def q0 (a1:Arg) (z606:(List UInt8)):Option Out:=some (z606,())
noncomputable abbrev Q0 (_:Nat):=q0
noncomputable def s0 (k:Nat) (a1:Arg):((List UInt8)×Int)->Option Out:=fun v403=>D.L k [1,1,0,1,0,0] [5,10,11,12] [] (blockC 0 (seqC (D.N k [1,1,1]) D.K0)) (T0 a1 v403)
noncomputable def r0 (k:Nat) (a1:Arg):((List UInt8)×Int)->Option Out:=rawIter (fun w v=>B0 k w (Q0 k a1) a1 v) k
theorem s0_eq (k:Nat) (a1:Arg):s0 k a1=r0 k a1:=
 funext fun v403=>iter_raw _ _ _ (T0 a1) _ (fun rec v=>by kernel_rfl) k v403
noncomputable def p (l0:((List UInt8)×Int)->Option Out) (a1:Arg):Option Out:=(impl_copied.sem (a1.1,())).bind fun r2=>l0 (r2.1,(0:Int))
theorem raw_eq (k:Nat) (a1:Arg):@Eq (Option Out) (D.W k a1) (p (r0 k a1) a1):=
 Eq.trans (b:=p (s0 k a1) a1) (by kernel_rfl) (by rw[s0_eq])
theorem ok:Ok prog 210 D.sig:=fd_ok func210 tlOk (by kernel_rfl) (fc impl_copied.ok (fn_nil _))
end impl_applied
namespace impl_recorded
abbrev Arg:Type:=(List (List UInt8))×Record×Unit
abbrev Out:Type:=(List (List UInt8))×Int×Unit
abbrev ps:PQ:=[(.ro,(.slc (.slc u8))),(.ro,tRecord)]
noncomputable def D:FD:={ fn:=f136,tl:=TL0,ps:=ps,rs:=[((.slc (.slc u8)),(roMd (.slc (.slc u8)))),(i64,(roMd i64))],gl:=[(206,impl_turns.D.sig),(208,slices_Clone_bytes.D.sig),(209,impl_newPage.D.sig),(210,impl_applied.D.sig)],od:=[(10,[0,1,2,3,4,5,6,7,8,9,10,11,12])] }
noncomputable def sem (a:Arg):Option Out:=@lift Out fun k=>D.W k a
noncomputable def p (a1:Arg):Option Out:=(impl_turns.sem (a1.2.1.1,())).bind fun r2=>bif !r2.1 then (some (a1.1,(0:Int),())) else bif decide ((a1.1.length:Int) < a1.2.1.2.2.1) then (some (([]:List (List UInt8)),(1:Int),())) else bif decide (a1.2.1.2.2.1=(12:Int)) then (some (([]:List (List UInt8)),(2:Int),())) else (slices_Clone_bytes.sem (a1.1,())).bind fun r3=>let j10:=fun (p9:List (List UInt8))=>(if 0<=a1.2.1.2.2.1/\a1.2.1.2.2.1 < (p9.length:Int) then ((p9[a1.2.1.2.2.1.toNat]?).bind fun x11=>(impl_applied.sem (x11,a1.2.1.2.2.2.1,())).bind fun r12=>if 0<=a1.2.1.2.2.1/\a1.2.1.2.2.1 < (p9.length:Int) then ((p9[a1.2.1.2.2.1.toNat]?).bind fun x13=>some (p9.set a1.2.1.2.2.1.toNat r12.1,(0:Int),())) else none) else none:Option Out);bif decide (a1.2.1.2.2.1=(a1.1.length:Int)) then ((impl_newPage.sem ((0:UInt8),())).bind fun r4=>if r3.1.length+[r4.1].length<=CAP then (j10 (r3.1++[r4.1])) else none) else j10 r3.1
theorem raw_eq (k:Nat) (a1:Arg):@Eq (Option Out) (D.W k a1) (p a1):=by kernel_rfl
theorem ok:Ok prog 136 D.sig:=fd_ok func136 tlOk (by kernel_rfl) (fc impl_turns.ok (fc slices_Clone_bytes.ok (fc impl_newPage.ok (fc impl_applied.ok (fn_nil _)))))
end impl_recorded
namespace impl_redo
abbrev Arg:Type:=(List Record)×Unit
abbrev Out:Type:=(List (List UInt8))×Int×Unit
abbrev ps:PQ:=[(.ro,(.slc tRecord))]
noncomputable def D:FD:={ fn:=f65,tl:=TL0,ps:=ps,rs:=[((.slc (.slc u8)),(roMd (.slc (.slc u8)))),(i64,(roMd i64))],gl:=[(135,impl_RecordFault.D.sig),(136,impl_recorded.D.sig)],lv:=[(3,[4,10,11,12])],lx:=[(0,[4])],lf:=[(3,[(4,(.slc false (.slc false .leaf)))])] }
noncomputable def sem (a:Arg):Option Out:=@lift Out fun k=>D.W k a
noncomputable def T0 (a1:Arg) (v402:(List (List UInt8))×Int):St:={ n:=33,sl:=[(4,.val (.slc (.slc u8)) v402.1),(10,.val (.slc tRecord) a1.1),(11,.val i64 (a1.1.length:Int)),(12,.val i64 v402.2)],vr:=[],lent:=[] }
noncomputable def b0 (self:((List (List UInt8))×Int)->Option Out) (e0:(List (List UInt8))->Option Out) (a1:Arg) (v402:(List (List UInt8))×Int):Option Out:=bif decide (v402.2 < (a1.1.length:Int)) then (if 0<=v402.2 then ((a1.1[v402.2.toNat]?).bind fun x603=>(impl_RecordFault.sem (x603,())).bind fun r604=>bif !decide (r604.1=(0:Int)) then (some (([]:List (List UInt8)),r604.1,())) else (impl_recorded.sem (v402.1,x603,())).bind fun r605=>bif !decide (r605.2.1=(0:Int)) then (some (([]:List (List UInt8)),r605.2.1,())) else self (r605.1,w64 (v402.2+(1:Int)))) else none) else e0 v402.1
noncomputable abbrev B0 (_:Nat):=b0
noncomputable def q0 (a1:Arg) (z606:(List (List UInt8))):Option Out:=some (z606,(0:Int),())
noncomputable abbrev Q0 (_:Nat):=q0
noncomputable def s0 (k:Nat) (a1:Arg):((List (List UInt8))×Int)->Option Out:=fun v402=>D.L k [1,1,0,1,0,0] [4,10,11,12] [(4,(.slc false (.slc false .leaf)))] (blockC 0 (seqC (D.N k [1,1,1]) D.K0)) (T0 a1 v402)
noncomputable def r0 (k:Nat) (a1:Arg):((List (List UInt8))×Int)->Option Out:=rawIter (fun w v=>B0 k w (Q0 k a1) a1 v) k
theorem s0_eq (k:Nat) (a1:Arg):s0 k a1=r0 k a1:=
 funext fun v402=>iter_raw _ _ _ (T0 a1) _ (fun rec v=>by kernel_rfl) k v402
noncomputable def p (l0:((List (List UInt8))×Int)->Option Out) (a1:Arg):Option Out:=l0 (([]:List (List UInt8)),(0:Int))
theorem raw_eq (k:Nat) (a1:Arg):@Eq (Option Out) (D.W k a1) (p (r0 k a1) a1):=
 Eq.trans (b:=p (s0 k a1) a1) (by kernel_rfl) (by rw[s0_eq])
theorem ok:Ok prog 65 D.sig:=fd_ok func65 tlOk (by kernel_rfl) (fc impl_RecordFault.ok (fc impl_recorded.ok (fn_nil _)))
end impl_redo
namespace impl_Log_records
abbrev Arg:Type:=Log×Unit
abbrev Out:Type:=(List Record)×Unit
abbrev ps:PQ:=[(.ro,tLog)]
noncomputable def D:FD:={ fn:=f66,tl:=TL0,ps:=ps,rs:=[((.slc tRecord),(ownMd (.slc tRecord)))],gl:=[(125,impl_readAll.D.sig)] }
noncomputable def sem (a:Arg):Option Out:=@lift Out fun k=>D.W k a
noncomputable def p (a1:Arg):Option Out:=(impl_readAll.sem (a1.1.1,())).bind fun r2=>(impl_readAll.sem (a1.1.2.1,())).bind fun r3=>if r2.1.length+r3.1.length<=CAP then (some (r2.1++r3.1,())) else none
theorem raw_eq (k:Nat) (a1:Arg):@Eq (Option Out) (D.W k a1) (p a1):=by kernel_rfl
theorem ok:Ok prog 66 D.sig:=fd_ok func66 tlOk (by kernel_rfl) (fc impl_readAll.ok (fn_nil _))
end impl_Log_records
namespace slices_EqualFunc_bytes
abbrev Arg:Type:=(List (List UInt8))×(List (List UInt8))×(Nat×Int)×Unit
abbrev Out:Type:=Bool×Unit
abbrev ps:PQ:=[(.ro,(.slc (.slc u8))),(.ro,(.slc (.slc u8))),(.fix 138,.fn)]
noncomputable def D:FD:={ fn:=f137,tl:=TL0,ps:=ps,rs:=[(.bool,(roMd .bool))],gl:=[(138,slices_Equal_byte.D.sig)],lv:=[(4,[1,2,15,16,17])],lx:=[(0,[])] }
noncomputable def sem (a:Arg):Option Out:=@lift Out fun k=>D.W k a
noncomputable def T0 (a1:Arg) (v402:Int):St:={ n:=32,sl:=[(1,.val (.slc (.slc u8)) a1.2.1),(2,.val .fn ((138,a1.2.2.1.2):Nat×Int)),(15,.val (.slc (.slc u8)) a1.1),(16,.val i64 (a1.1.length:Int)),(17,.val i64 v402)],vr:=[],lent:=[] }
noncomputable def b0 (self:Int->Option Out) (e0:(Unit)->Option Out) (a1:Arg) (v402:Int):Option Out:=bif decide (v402 < (a1.1.length:Int)) then (if 0<=v402 then ((a1.1[v402.toNat]?).bind fun x603=>if 0<=v402 then ((a1.2.1[v402.toNat]?).bind fun x604=>(slices_Equal_byte.sem (x603,x604,())).bind fun r605=>bif !r605.1 then (some (false,())) else self (w64 (v402+(1:Int)))) else none) else none) else e0 ()
noncomputable abbrev B0 (_:Nat):=b0
noncomputable def q0 (a1:Arg) (z606:(Unit)):Option Out:=some (true,())
noncomputable abbrev Q0 (_:Nat):=q0
noncomputable def s0 (k:Nat) (a1:Arg):(Int)->Option Out:=fun v402=>D.L k [1,1,0,1,0,0] [1,2,15,16,17] [] (blockC 0 (seqC (D.N k [1,1,1]) D.K0)) (T0 a1 v402)
noncomputable def r0 (k:Nat) (a1:Arg):(Int)->Option Out:=rawIter (fun w v=>B0 k w (Q0 k a1) a1 v) k
theorem s0_eq (k:Nat) (a1:Arg):s0 k a1=r0 k a1:=
 funext fun v402=>iter_raw _ _ _ (T0 a1) _ (fun rec v=>by kernel_rfl) k v402
noncomputable def p (l0:(Int)->Option Out) (a1:Arg):Option Out:=bif !decide ((a1.1.length:Int)=(a1.2.1.length:Int)) then (some (false,())) else l0 (0:Int)
theorem raw_eq (k:Nat) (a1:Arg):@Eq (Option Out) (D.W k a1) (p (r0 k a1) a1):=
 Eq.trans (b:=p (s0 k a1) a1) (by kernel_rfl) (by rw[s0_eq])
theorem ok:Ok prog 137 D.sig:=fd_ok func137 tlOk (by kernel_rfl) (fc slices_Equal_byte.ok (fn_nil _))
end slices_EqualFunc_bytes
namespace impl_samePages
abbrev Arg:Type:=(List (List UInt8))×(List (List UInt8))×Unit
abbrev Out:Type:=Bool×Unit
abbrev ps:PQ:=[(.ro,(.slc (.slc u8))),(.ro,(.slc (.slc u8)))]
noncomputable def D:FD:={ fn:=f67,tl:=TL0,ps:=ps,rs:=[(.bool,(roMd .bool))],gl:=[(137,slices_EqualFunc_bytes.D.sig)] }
noncomputable def sem (a:Arg):Option Out:=@lift Out fun k=>D.W k a
noncomputable def p (a1:Arg):Option Out:=(slices_EqualFunc_bytes.sem (a1.1,a1.2.1,((138,0):Nat×Int),())).bind fun r2=>some (r2.1,())
theorem raw_eq (k:Nat) (a1:Arg):@Eq (Option Out) (D.W k a1) (p a1):=by kernel_rfl
theorem ok:Ok prog 67 D.sig:=fd_ok func67 tlOk (by kernel_rfl) (fc slices_EqualFunc_bytes.ok (fn_nil _))
end impl_samePages
namespace impl_StoreFault
abbrev Arg:Type:=Store×Unit
abbrev Out:Type:=Int×Unit
abbrev ps:PQ:=[(.ro,tStore)]
noncomputable def D:FD:={ fn:=f14,tl:=TL0,ps:=ps,rs:=[(i64,(roMd i64))],gl:=[(60,impl_LogFault.D.sig),(61,impl_in.D.sig),(62,impl_view.D.sig),(63,impl_PlainFault.D.sig),(64,impl_plain.D.sig),(65,impl_redo.D.sig),(66,impl_Log_records.D.sig),(67,impl_samePages.D.sig)],od:=[(13,[0,2,3,4,5,1,6,7,8])] }
noncomputable def sem (a:Arg):Option Out:=@lift Out fun k=>D.W k a
noncomputable def p (a1:Arg):Option Out:=(impl_LogFault.sem (a1.1.2.2.1,())).bind fun r2=>bif !decide (r2.1=(0:Int)) then (some (r2.1,())) else bif !a1.1.1 then (bif decide ((0:Int) < (a1.1.2.1.length:Int)) then (some ((1:Int),())) else bif decide ((0:Int) < (a1.1.2.2.2.1.length:Int)) then (some ((1:Int),())) else bif decide ((0:Int) < (a1.1.2.2.1.2.1.length:Int)) then (some ((1:Int),())) else (impl_in.sem (a1.1.2.2.2.2.1,(1:Int),(100:Int),())).bind fun r3=>bif !r3.1 then (some ((3:Int),())) else some ((0:Int),())) else (impl_view.sem (a1.1.2.1,())).bind fun r4=>bif !decide (r4.2.1=(0:Int)) then (some (r4.2.1,())) else (impl_plain.sem (r4.1,())).bind fun r5=>(impl_PlainFault.sem ((r5.1,a1.1.2.2.2.1,a1.1.2.2.2.2.1,()),())).bind fun r6=>bif !decide (r6.1=(0:Int)) then (some (r6.1,())) else (impl_Log_records.sem (a1.1.2.2.1,())).bind fun r7=>(impl_redo.sem (r7.1,())).bind fun r8=>bif !decide (r8.2.1=(0:Int)) then (some ((8:Int),())) else (impl_samePages.sem (r8.1,a1.1.2.1,())).bind fun r9=>bif !r9.1 then (some ((8:Int),())) else some ((0:Int),())
theorem raw_eq (k:Nat) (a1:Arg):@Eq (Option Out) (D.W k a1) (p a1):=by kernel_rfl
theorem ok:Ok prog 14 D.sig:=fd_ok func14 tlOk (by kernel_rfl) (fc impl_LogFault.ok (fc impl_in.ok (fc impl_view.ok (fc impl_PlainFault.ok (fc impl_plain.ok (fc impl_redo.ok (fc impl_Log_records.ok (fc impl_samePages.ok (fn_nil _)))))))))
end impl_StoreFault
namespace laws_eqByteS
abbrev Arg:Type:=(List UInt8)×(List UInt8)×Unit
abbrev Out:Type:=Bool×Unit
abbrev ps:PQ:=[(.ro,(.slc u8)),(.ro,(.slc u8))]
noncomputable def D:FD:={ fn:=f39,tl:=TL0,ps:=ps,rs:=[(.bool,(roMd .bool))],lv:=[(4,[0,1,5])],lx:=[(0,[])],od:=[(6,[0,1,2,3,4,5,6,7,8])] }
noncomputable def sem (a:Arg):Option Out:=@lift Out fun k=>D.W k a
noncomputable def T0 (a1:Arg) (v402:Int):St:={ n:=26,sl:=[(0,.val (.slc u8) a1.1),(1,.val (.slc u8) a1.2.1),(5,.val i64 v402)],vr:=[],lent:=[] }
noncomputable def b0 (self:Int->Option Out) (e0:(Unit)->Option Out) (a1:Arg) (v402:Int):Option Out:=bif decide (v402 < (a1.1.length:Int)) then (if 0<=v402 then ((a1.1[v402.toNat]?).bind fun x603=>if 0<=v402 then ((a1.2.1[v402.toNat]?).bind fun x604=>bif !decide ((x603.toNat:Int)=(x604.toNat:Int)) then (some (false,())) else self (w64 (v402+(1:Int)))) else none) else none) else e0 ()
noncomputable abbrev B0 (_:Nat):=b0
noncomputable def q0 (a1:Arg) (z605:(Unit)):Option Out:=some (true,())
noncomputable abbrev Q0 (_:Nat):=q0
noncomputable def s0 (k:Nat) (a1:Arg):(Int)->Option Out:=fun v402=>D.L k [1,1,0,1,0,0] [0,1,5] [] (blockC 0 (seqC (D.N k [1,1,1]) D.K0)) (T0 a1 v402)
noncomputable def r0 (k:Nat) (a1:Arg):(Int)->Option Out:=rawIter (fun w v=>B0 k w (Q0 k a1) a1 v) k
theorem s0_eq (k:Nat) (a1:Arg):s0 k a1=r0 k a1:=
 funext fun v402=>iter_raw _ _ _ (T0 a1) _ (fun rec v=>by kernel_rfl) k v402
noncomputable def p (l0:(Int)->Option Out) (a1:Arg):Option Out:=bif !decide ((a1.1.length:Int)=(a1.2.1.length:Int)) then (some (false,())) else l0 (0:Int)
theorem raw_eq (k:Nat) (a1:Arg):@Eq (Option Out) (D.W k a1) (p (r0 k a1) a1):=
 Eq.trans (b:=p (s0 k a1) a1) (by kernel_rfl) (by rw[s0_eq])
theorem ok:Ok prog 39 D.sig:=fd_ok func39 tlOk (by kernel_rfl) (fn_nil _)
end laws_eqByteS
namespace laws_eqByteSS
abbrev Arg:Type:=(List (List UInt8))×(List (List UInt8))×Unit
abbrev Out:Type:=Bool×Unit
abbrev ps:PQ:=[(.ro,(.slc (.slc u8))),(.ro,(.slc (.slc u8)))]
noncomputable def D:FD:={ fn:=f68,tl:=TL0,ps:=ps,rs:=[(.bool,(roMd .bool))],gl:=[(39,laws_eqByteS.D.sig)],lv:=[(4,[0,1,5])],lx:=[(0,[])],od:=[(6,[0,1,2,3,4,5,6,7,8,9])] }
noncomputable def sem (a:Arg):Option Out:=@lift Out fun k=>D.W k a
noncomputable def T0 (a1:Arg) (v402:Int):St:={ n:=27,sl:=[(0,.val (.slc (.slc u8)) a1.1),(1,.val (.slc (.slc u8)) a1.2.1),(5,.val i64 v402)],vr:=[],lent:=[] }
noncomputable def b0 (self:Int->Option Out) (e0:(Unit)->Option Out) (a1:Arg) (v402:Int):Option Out:=bif decide (v402 < (a1.1.length:Int)) then (if 0<=v402 then ((a1.1[v402.toNat]?).bind fun x603=>if 0<=v402 then ((a1.2.1[v402.toNat]?).bind fun x604=>(laws_eqByteS.sem (x603,x604,())).bind fun r605=>bif !r605.1 then (some (false,())) else self (w64 (v402+(1:Int)))) else none) else none) else e0 ()
noncomputable abbrev B0 (_:Nat):=b0
noncomputable def q0 (a1:Arg) (z606:(Unit)):Option Out:=some (true,())
noncomputable abbrev Q0 (_:Nat):=q0
noncomputable def s0 (k:Nat) (a1:Arg):(Int)->Option Out:=fun v402=>D.L k [1,1,0,1,0,0] [0,1,5] [] (blockC 0 (seqC (D.N k [1,1,1]) D.K0)) (T0 a1 v402)
noncomputable def r0 (k:Nat) (a1:Arg):(Int)->Option Out:=rawIter (fun w v=>B0 k w (Q0 k a1) a1 v) k
theorem s0_eq (k:Nat) (a1:Arg):s0 k a1=r0 k a1:=
 funext fun v402=>iter_raw _ _ _ (T0 a1) _ (fun rec v=>by kernel_rfl) k v402
noncomputable def p (l0:(Int)->Option Out) (a1:Arg):Option Out:=bif !decide ((a1.1.length:Int)=(a1.2.1.length:Int)) then (some (false,())) else l0 (0:Int)
theorem raw_eq (k:Nat) (a1:Arg):@Eq (Option Out) (D.W k a1) (p (r0 k a1) a1):=
 Eq.trans (b:=p (s0 k a1) a1) (by kernel_rfl) (by rw[s0_eq])
theorem ok:Ok prog 68 D.sig:=fd_ok func68 tlOk (by kernel_rfl) (fc laws_eqByteS.ok (fn_nil _))
end laws_eqByteSS
namespace laws_eqLog
abbrev Arg:Type:=Log×Log×Unit
abbrev Out:Type:=Bool×Unit
abbrev ps:PQ:=[(.ro,tLog),(.ro,tLog)]
noncomputable def D:FD:={ fn:=f69,tl:=TL0,ps:=ps,rs:=[(.bool,(roMd .bool))],gl:=[(39,laws_eqByteS.D.sig)] }
noncomputable def sem (a:Arg):Option Out:=@lift Out fun k=>D.W k a
noncomputable def p (a1:Arg):Option Out:=(laws_eqByteS.sem (a1.1.1,a1.2.1.1,())).bind fun r2=>bif !r2.1 then (some (false,())) else (laws_eqByteS.sem (a1.1.2.1,a1.2.1.2.1,())).bind fun r3=>bif !r3.1 then (some (false,())) else some (true,())
theorem raw_eq (k:Nat) (a1:Arg):@Eq (Option Out) (D.W k a1) (p a1):=by kernel_rfl
theorem ok:Ok prog 69 D.sig:=fd_ok func69 tlOk (by kernel_rfl) (fc laws_eqByteS.ok (fn_nil _))
end laws_eqLog
namespace laws_eqRow
abbrev Arg:Type:=Row×Row×Unit
abbrev Out:Type:=Bool×Unit
abbrev ps:PQ:=[(.ro,tRow),(.ro,tRow)]
noncomputable def D:FD:={ fn:=f153,tl:=TL0,ps:=ps,rs:=[(.bool,(roMd .bool))] }
noncomputable def sem (a:Arg):Option Out:=@lift Out fun k=>D.W k a
noncomputable def p (a1:Arg):Option Out:=bif !decide (a1.1.1=a1.2.1.1) then (some (false,())) else bif !decide (a1.1.2.1=a1.2.1.2.1) then (some (false,())) else bif !decide (a1.1.2.2.1=a1.2.1.2.2.1) then (some (false,())) else bif !decide (a1.1.2.2.2.1=a1.2.1.2.2.2.1) then (some (false,())) else some (true,())
theorem raw_eq (k:Nat) (a1:Arg):@Eq (Option Out) (D.W k a1) (p a1):=by kernel_rfl
theorem ok:Ok prog 153 D.sig:=fd_ok func153 tlOk (by kernel_rfl) (fn_nil _)
end laws_eqRow
namespace laws_eqChange
abbrev Arg:Type:=Change×Change×Unit
abbrev Out:Type:=Bool×Unit
abbrev ps:PQ:=[(.ro,tChange),(.ro,tChange)]
noncomputable def D:FD:={ fn:=f244,tl:=TL0,ps:=ps,rs:=[(.bool,(roMd .bool))],gl:=[(153,laws_eqRow.D.sig)] }
noncomputable def sem (a:Arg):Option Out:=@lift Out fun k=>D.W k a
noncomputable def p (a1:Arg):Option Out:=bif !(a1.1.1 == a1.2.1.1) then (some (false,())) else (laws_eqRow.sem (a1.1.2.1,a1.2.1.2.1,())).bind fun r2=>bif !r2.1 then (some (false,())) else bif !(a1.1.2.2.1 == a1.2.1.2.2.1) then (some (false,())) else (laws_eqRow.sem (a1.1.2.2.2.1,a1.2.1.2.2.2.1,())).bind fun r3=>bif !r3.1 then (some (false,())) else some (true,())
theorem raw_eq (k:Nat) (a1:Arg):@Eq (Option Out) (D.W k a1) (p a1):=by kernel_rfl
theorem ok:Ok prog 244 D.sig:=fd_ok func244 tlOk (by kernel_rfl) (fc laws_eqRow.ok (fn_nil _))
end laws_eqChange
namespace laws_eqChangeS
abbrev Arg:Type:=(List Change)×(List Change)×Unit
abbrev Out:Type:=Bool×Unit
abbrev ps:PQ:=[(.ro,(.slc tChange)),(.ro,(.slc tChange))]
noncomputable def D:FD:={ fn:=f173,tl:=TL0,ps:=ps,rs:=[(.bool,(roMd .bool))],gl:=[(244,laws_eqChange.D.sig)],lv:=[(4,[0,1,5])],lx:=[(0,[])],od:=[(6,[0,1,2,3,4,5,6,7,8,9])] }
noncomputable def sem (a:Arg):Option Out:=@lift Out fun k=>D.W k a
noncomputable def T0 (a1:Arg) (v402:Int):St:={ n:=27,sl:=[(0,.val (.slc tChange) a1.1),(1,.val (.slc tChange) a1.2.1),(5,.val i64 v402)],vr:=[],lent:=[] }
noncomputable def b0 (self:Int->Option Out) (e0:(Unit)->Option Out) (a1:Arg) (v402:Int):Option Out:=bif decide (v402 < (a1.1.length:Int)) then (if 0<=v402 then ((a1.1[v402.toNat]?).bind fun x603=>if 0<=v402 then ((a1.2.1[v402.toNat]?).bind fun x604=>(laws_eqChange.sem (x603,x604,())).bind fun r605=>bif !r605.1 then (some (false,())) else self (w64 (v402+(1:Int)))) else none) else none) else e0 ()
noncomputable abbrev B0 (_:Nat):=b0
noncomputable def q0 (a1:Arg) (z606:(Unit)):Option Out:=some (true,())
noncomputable abbrev Q0 (_:Nat):=q0
noncomputable def s0 (k:Nat) (a1:Arg):(Int)->Option Out:=fun v402=>D.L k [1,1,0,1,0,0] [0,1,5] [] (blockC 0 (seqC (D.N k [1,1,1]) D.K0)) (T0 a1 v402)
noncomputable def r0 (k:Nat) (a1:Arg):(Int)->Option Out:=rawIter (fun w v=>B0 k w (Q0 k a1) a1 v) k
theorem s0_eq (k:Nat) (a1:Arg):s0 k a1=r0 k a1:=
 funext fun v402=>iter_raw _ _ _ (T0 a1) _ (fun rec v=>by kernel_rfl) k v402
noncomputable def p (l0:(Int)->Option Out) (a1:Arg):Option Out:=bif !decide ((a1.1.length:Int)=(a1.2.1.length:Int)) then (some (false,())) else l0 (0:Int)
theorem raw_eq (k:Nat) (a1:Arg):@Eq (Option Out) (D.W k a1) (p (r0 k a1) a1):=
 Eq.trans (b:=p (s0 k a1) a1) (by kernel_rfl) (by rw[s0_eq])
theorem ok:Ok prog 173 D.sig:=fd_ok func173 tlOk (by kernel_rfl) (fc laws_eqChange.ok (fn_nil _))
end laws_eqChangeS
namespace laws_eqInt64S
abbrev Arg:Type:=(List Int)×(List Int)×Unit
abbrev Out:Type:=Bool×Unit
abbrev ps:PQ:=[(.ro,(.slc i64)),(.ro,(.slc i64))]
noncomputable def D:FD:={ fn:=f211,tl:=TL0,ps:=ps,rs:=[(.bool,(roMd .bool))],lv:=[(4,[0,1,5])],lx:=[(0,[])],od:=[(6,[0,1,2,3,4,5,6,7,8])] }
noncomputable def sem (a:Arg):Option Out:=@lift Out fun k=>D.W k a
noncomputable def T0 (a1:Arg) (v402:Int):St:={ n:=26,sl:=[(0,.val (.slc i64) a1.1),(1,.val (.slc i64) a1.2.1),(5,.val i64 v402)],vr:=[],lent:=[] }
noncomputable def b0 (self:Int->Option Out) (e0:(Unit)->Option Out) (a1:Arg) (v402:Int):Option Out:=bif decide (v402 < (a1.1.length:Int)) then (if 0<=v402 then ((a1.1[v402.toNat]?).bind fun x603=>if 0<=v402 then ((a1.2.1[v402.toNat]?).bind fun x604=>bif !decide (x603=x604) then (some (false,())) else self (w64 (v402+(1:Int)))) else none) else none) else e0 ()
noncomputable abbrev B0 (_:Nat):=b0
noncomputable def q0 (a1:Arg) (z605:(Unit)):Option Out:=some (true,())
noncomputable abbrev Q0 (_:Nat):=q0
noncomputable def s0 (k:Nat) (a1:Arg):(Int)->Option Out:=fun v402=>D.L k [1,1,0,1,0,0] [0,1,5] [] (blockC 0 (seqC (D.N k [1,1,1]) D.K0)) (T0 a1 v402)
noncomputable def r0 (k:Nat) (a1:Arg):(Int)->Option Out:=rawIter (fun w v=>B0 k w (Q0 k a1) a1 v) k
theorem s0_eq (k:Nat) (a1:Arg):s0 k a1=r0 k a1:=
 funext fun v402=>iter_raw _ _ _ (T0 a1) _ (fun rec v=>by kernel_rfl) k v402
noncomputable def p (l0:(Int)->Option Out) (a1:Arg):Option Out:=bif !decide ((a1.1.length:Int)=(a1.2.1.length:Int)) then (some (false,())) else l0 (0:Int)
theorem raw_eq (k:Nat) (a1:Arg):@Eq (Option Out) (D.W k a1) (p (r0 k a1) a1):=
 Eq.trans (b:=p (s0 k a1) a1) (by kernel_rfl) (by rw[s0_eq])
theorem ok:Ok prog 211 D.sig:=fd_ok func211 tlOk (by kernel_rfl) (fn_nil _)
end laws_eqInt64S
namespace laws_eqKey
abbrev Arg:Type:=Key×Key×Unit
abbrev Out:Type:=Bool×Unit
abbrev ps:PQ:=[(.ro,tKey),(.ro,tKey)]
noncomputable def D:FD:={ fn:=f271,tl:=TL0,ps:=ps,rs:=[(.bool,(roMd .bool))] }
noncomputable def sem (a:Arg):Option Out:=@lift Out fun k=>D.W k a
noncomputable def p (a1:Arg):Option Out:=bif !decide (a1.1.1=a1.2.1.1) then (some (false,())) else bif !decide (a1.1.2.1=a1.2.1.2.1) then (some (false,())) else some (true,())
theorem raw_eq (k:Nat) (a1:Arg):@Eq (Option Out) (D.W k a1) (p a1):=by kernel_rfl
theorem ok:Ok prog 271 D.sig:=fd_ok func271 tlOk (by kernel_rfl) (fn_nil _)
end laws_eqKey
namespace laws_eqKeyS
abbrev Arg:Type:=(List Key)×(List Key)×Unit
abbrev Out:Type:=Bool×Unit
abbrev ps:PQ:=[(.ro,(.slc tKey)),(.ro,(.slc tKey))]
noncomputable def D:FD:={ fn:=f212,tl:=TL0,ps:=ps,rs:=[(.bool,(roMd .bool))],gl:=[(271,laws_eqKey.D.sig)],lv:=[(4,[0,1,5])],lx:=[(0,[])],od:=[(6,[0,1,2,3,4,5,6,7,8,9])] }
noncomputable def sem (a:Arg):Option Out:=@lift Out fun k=>D.W k a
noncomputable def T0 (a1:Arg) (v402:Int):St:={ n:=27,sl:=[(0,.val (.slc tKey) a1.1),(1,.val (.slc tKey) a1.2.1),(5,.val i64 v402)],vr:=[],lent:=[] }
noncomputable def b0 (self:Int->Option Out) (e0:(Unit)->Option Out) (a1:Arg) (v402:Int):Option Out:=bif decide (v402 < (a1.1.length:Int)) then (if 0<=v402 then ((a1.1[v402.toNat]?).bind fun x603=>if 0<=v402 then ((a1.2.1[v402.toNat]?).bind fun x604=>(laws_eqKey.sem (x603,x604,())).bind fun r605=>bif !r605.1 then (some (false,())) else self (w64 (v402+(1:Int)))) else none) else none) else e0 ()
noncomputable abbrev B0 (_:Nat):=b0
noncomputable def q0 (a1:Arg) (z606:(Unit)):Option Out:=some (true,())
noncomputable abbrev Q0 (_:Nat):=q0
noncomputable def s0 (k:Nat) (a1:Arg):(Int)->Option Out:=fun v402=>D.L k [1,1,0,1,0,0] [0,1,5] [] (blockC 0 (seqC (D.N k [1,1,1]) D.K0)) (T0 a1 v402)
noncomputable def r0 (k:Nat) (a1:Arg):(Int)->Option Out:=rawIter (fun w v=>B0 k w (Q0 k a1) a1 v) k
theorem s0_eq (k:Nat) (a1:Arg):s0 k a1=r0 k a1:=
 funext fun v402=>iter_raw _ _ _ (T0 a1) _ (fun rec v=>by kernel_rfl) k v402
noncomputable def p (l0:(Int)->Option Out) (a1:Arg):Option Out:=bif !decide ((a1.1.length:Int)=(a1.2.1.length:Int)) then (some (false,())) else l0 (0:Int)
theorem raw_eq (k:Nat) (a1:Arg):@Eq (Option Out) (D.W k a1) (p (r0 k a1) a1):=
 Eq.trans (b:=p (s0 k a1) a1) (by kernel_rfl) (by rw[s0_eq])
theorem ok:Ok prog 212 D.sig:=fd_ok func212 tlOk (by kernel_rfl) (fc laws_eqKey.ok (fn_nil _))
end laws_eqKeyS
namespace laws_eqTx
abbrev Arg:Type:=Tx×Tx×Unit
abbrev Out:Type:=Bool×Unit
abbrev ps:PQ:=[(.ro,tTx),(.ro,tTx)]
noncomputable def D:FD:={ fn:=f139,tl:=TL0,ps:=ps,rs:=[(.bool,(roMd .bool))],gl:=[(173,laws_eqChangeS.D.sig),(211,laws_eqInt64S.D.sig),(212,laws_eqKeyS.D.sig)] }
noncomputable def sem (a:Arg):Option Out:=@lift Out fun k=>D.W k a
noncomputable def p (a1:Arg):Option Out:=bif !decide (a1.1.1=a1.2.1.1) then (some (false,())) else (laws_eqChangeS.sem (a1.1.2.1,a1.2.1.2.1,())).bind fun r2=>bif !r2.1 then (some (false,())) else (laws_eqInt64S.sem (a1.1.2.2.1,a1.2.1.2.2.1,())).bind fun r3=>bif !r3.1 then (some (false,())) else (laws_eqKeyS.sem (a1.1.2.2.2.1,a1.2.1.2.2.2.1,())).bind fun r4=>bif !r4.1 then (some (false,())) else some (true,())
theorem raw_eq (k:Nat) (a1:Arg):@Eq (Option Out) (D.W k a1) (p a1):=by kernel_rfl
theorem ok:Ok prog 139 D.sig:=fd_ok func139 tlOk (by kernel_rfl) (fc laws_eqChangeS.ok (fc laws_eqInt64S.ok (fc laws_eqKeyS.ok (fn_nil _))))
end laws_eqTx
namespace laws_eqTxS
abbrev Arg:Type:=(List Tx)×(List Tx)×Unit
abbrev Out:Type:=Bool×Unit
abbrev ps:PQ:=[(.ro,(.slc tTx)),(.ro,(.slc tTx))]
noncomputable def D:FD:={ fn:=f70,tl:=TL0,ps:=ps,rs:=[(.bool,(roMd .bool))],gl:=[(139,laws_eqTx.D.sig)],lv:=[(4,[0,1,5])],lx:=[(0,[])],od:=[(6,[0,1,2,3,4,5,6,7,8,9])] }
noncomputable def sem (a:Arg):Option Out:=@lift Out fun k=>D.W k a
noncomputable def T0 (a1:Arg) (v402:Int):St:={ n:=27,sl:=[(0,.val (.slc tTx) a1.1),(1,.val (.slc tTx) a1.2.1),(5,.val i64 v402)],vr:=[],lent:=[] }
noncomputable def b0 (self:Int->Option Out) (e0:(Unit)->Option Out) (a1:Arg) (v402:Int):Option Out:=bif decide (v402 < (a1.1.length:Int)) then (if 0<=v402 then ((a1.1[v402.toNat]?).bind fun x603=>if 0<=v402 then ((a1.2.1[v402.toNat]?).bind fun x604=>(laws_eqTx.sem (x603,x604,())).bind fun r605=>bif !r605.1 then (some (false,())) else self (w64 (v402+(1:Int)))) else none) else none) else e0 ()
noncomputable abbrev B0 (_:Nat):=b0
noncomputable def q0 (a1:Arg) (z606:(Unit)):Option Out:=some (true,())
noncomputable abbrev Q0 (_:Nat):=q0
noncomputable def s0 (k:Nat) (a1:Arg):(Int)->Option Out:=fun v402=>D.L k [1,1,0,1,0,0] [0,1,5] [] (blockC 0 (seqC (D.N k [1,1,1]) D.K0)) (T0 a1 v402)
noncomputable def r0 (k:Nat) (a1:Arg):(Int)->Option Out:=rawIter (fun w v=>B0 k w (Q0 k a1) a1 v) k
theorem s0_eq (k:Nat) (a1:Arg):s0 k a1=r0 k a1:=
 funext fun v402=>iter_raw _ _ _ (T0 a1) _ (fun rec v=>by kernel_rfl) k v402
noncomputable def p (l0:(Int)->Option Out) (a1:Arg):Option Out:=bif !decide ((a1.1.length:Int)=(a1.2.1.length:Int)) then (some (false,())) else l0 (0:Int)
theorem raw_eq (k:Nat) (a1:Arg):@Eq (Option Out) (D.W k a1) (p (r0 k a1) a1):=
 Eq.trans (b:=p (s0 k a1) a1) (by kernel_rfl) (by rw[s0_eq])
theorem ok:Ok prog 70 D.sig:=fd_ok func70 tlOk (by kernel_rfl) (fc laws_eqTx.ok (fn_nil _))
end laws_eqTxS
namespace laws_eqStore
abbrev Arg:Type:=Store×Store×Unit
abbrev Out:Type:=Bool×Unit
abbrev ps:PQ:=[(.ro,tStore),(.ro,tStore)]
noncomputable def D:FD:={ fn:=f15,tl:=TL0,ps:=ps,rs:=[(.bool,(roMd .bool))],gl:=[(68,laws_eqByteSS.D.sig),(69,laws_eqLog.D.sig),(70,laws_eqTxS.D.sig)] }
noncomputable def sem (a:Arg):Option Out:=@lift Out fun k=>D.W k a
noncomputable def p (a1:Arg):Option Out:=bif !(a1.1.1 == a1.2.1.1) then (some (false,())) else (laws_eqByteSS.sem (a1.1.2.1,a1.2.1.2.1,())).bind fun r2=>bif !r2.1 then (some (false,())) else (laws_eqLog.sem (a1.1.2.2.1,a1.2.1.2.2.1,())).bind fun r3=>bif !r3.1 then (some (false,())) else (laws_eqTxS.sem (a1.1.2.2.2.1,a1.2.1.2.2.2.1,())).bind fun r4=>bif !r4.1 then (some (false,())) else bif !decide (a1.1.2.2.2.2.1=a1.2.1.2.2.2.2.1) then (some (false,())) else some (true,())
theorem raw_eq (k:Nat) (a1:Arg):@Eq (Option Out) (D.W k a1) (p a1):=by kernel_rfl
theorem ok:Ok prog 15 D.sig:=fd_ok func15 tlOk (by kernel_rfl) (fc laws_eqByteSS.ok (fc laws_eqLog.ok (fc laws_eqTxS.ok (fn_nil _))))
end laws_eqStore
namespace laws_szRowS
abbrev Arg:Type:=(List Row)×Int×Unit
abbrev Out:Type:=Int×Unit
abbrev ps:PQ:=[(.ro,(.slc tRow)),(.ro,i64)]
noncomputable def D:FD:={ fn:=f71,tl:=TL0,ps:=ps,rs:=[(i64,(roMd i64))],gl:=[(140,laws_szRow.D.sig)],lv:=[(5,[0,1,5])],lx:=[(0,[1])] }
noncomputable def sem (a:Arg):Option Out:=@lift Out fun k=>D.W k a
noncomputable def T0 (a1:Arg) (v402:Int×Int):St:={ n:=27,sl:=[(0,.val (.slc tRow) a1.1),(1,.val i64 v402.1),(5,.val i64 v402.2)],vr:=[],lent:=[] }
noncomputable def b0 (self:(Int×Int)->Option Out) (e0:Int->Option Out) (a1:Arg) (v402:Int×Int):Option Out:=bif decide (v402.2 < (a1.1.length:Int)) then (if 0<=v402.2 then ((a1.1[v402.2.toNat]?).bind fun x603=>(laws_szRow.sem (x603,v402.1,())).bind fun r604=>bif decide (r604.1 < (0:Int)) then (some ((-1:Int),())) else self (r604.1,w64 (v402.2+(1:Int)))) else none) else e0 v402.1
noncomputable abbrev B0 (_:Nat):=b0
noncomputable def q0 (a1:Arg) (z605:Int):Option Out:=some (z605,())
noncomputable abbrev Q0 (_:Nat):=q0
noncomputable def s0 (k:Nat) (a1:Arg):(Int×Int)->Option Out:=fun v402=>D.L k [1,1,1,0,1,0,0] [0,1,5] [] (blockC 0 (seqC (D.N k [1,1,1,1]) D.K0)) (T0 a1 v402)
noncomputable def r0 (k:Nat) (a1:Arg):(Int×Int)->Option Out:=rawIter (fun w v=>B0 k w (Q0 k a1) a1 v) k
theorem s0_eq (k:Nat) (a1:Arg):s0 k a1=r0 k a1:=
 funext fun v402=>iter_raw _ _ _ (T0 a1) _ (fun rec v=>by kernel_rfl) k v402
noncomputable def p (l0:(Int×Int)->Option Out) (a1:Arg):Option Out:=bif decide (w64 (a1.2.1 - (a1.1.length:Int)) < (0:Int)) then (some ((-1:Int),())) else l0 (w64 (a1.2.1 - (a1.1.length:Int)),(0:Int))
theorem raw_eq (k:Nat) (a1:Arg):@Eq (Option Out) (D.W k a1) (p (r0 k a1) a1):=
 Eq.trans (b:=p (s0 k a1) a1) (by kernel_rfl) (by rw[s0_eq])
theorem ok:Ok prog 71 D.sig:=fd_ok func71 tlOk (by kernel_rfl) (fc laws_szRow.ok (fn_nil _))
end laws_szRowS
namespace laws_szPlain
abbrev Arg:Type:=Plain×Int×Unit
abbrev Out:Type:=Int×Unit
abbrev ps:PQ:=[(.ro,tPlain),(.ro,i64)]
noncomputable def D:FD:={ fn:=f16,tl:=TL0,ps:=ps,rs:=[(i64,(roMd i64))],gl:=[(55,laws_szTxS.D.sig),(71,laws_szRowS.D.sig)] }
noncomputable def sem (a:Arg):Option Out:=@lift Out fun k=>D.W k a
noncomputable def p (a1:Arg):Option Out:=(laws_szRowS.sem (a1.1.1,a1.2.1,())).bind fun r2=>bif decide (r2.1 < (0:Int)) then (some ((-1:Int),())) else (laws_szTxS.sem (a1.1.2.1,r2.1,())).bind fun r3=>bif decide (r3.1 < (0:Int)) then (some ((-1:Int),())) else some (r3.1,())
theorem raw_eq (k:Nat) (a1:Arg):@Eq (Option Out) (D.W k a1) (p a1):=by kernel_rfl
theorem ok:Ok prog 16 D.sig:=fd_ok func16 tlOk (by kernel_rfl) (fc laws_szTxS.ok (fc laws_szRowS.ok (fn_nil _)))
end laws_szPlain
namespace spec_l15Changes
abbrev Arg:Type:=(List Change)×(List Change)×Unit
abbrev Out:Type:=Bool×Unit
abbrev ps:PQ:=[(.ro,(.slc tChange)),(.ro,(.slc tChange))]
noncomputable def D:FD:={ fn:=f144,tl:=TL0,ps:=ps,rs:=[(.bool,(roMd .bool))],lv:=[(4,[0,1,5])],lx:=[(0,[])],od:=[(6,[0,1,2,3,4,5,6,7,8])] }
noncomputable def sem (a:Arg):Option Out:=@lift Out fun k=>D.W k a
noncomputable def T0 (a1:Arg) (v402:Int):St:={ n:=26,sl:=[(0,.val (.slc tChange) a1.1),(1,.val (.slc tChange) a1.2.1),(5,.val i64 v402)],vr:=[],lent:=[] }
noncomputable def b0 (self:Int->Option Out) (e0:(Unit)->Option Out) (a1:Arg) (v402:Int):Option Out:=bif decide (v402 < (a1.1.length:Int)) then (if 0<=v402 then ((a1.1[v402.toNat]?).bind fun x603=>if 0<=v402 then ((a1.2.1[v402.toNat]?).bind fun x604=>bif !(Ty.eq tChange x603 x604) then (some (false,())) else self (w64 (v402+(1:Int)))) else none) else none) else e0 ()
noncomputable abbrev B0 (_:Nat):=b0
noncomputable def q0 (a1:Arg) (z605:(Unit)):Option Out:=some (true,())
noncomputable abbrev Q0 (_:Nat):=q0
noncomputable def s0 (k:Nat) (a1:Arg):(Int)->Option Out:=fun v402=>D.L k [1,1,0,1,0,0] [0,1,5] [] (blockC 0 (seqC (D.N k [1,1,1]) D.K0)) (T0 a1 v402)
noncomputable def r0 (k:Nat) (a1:Arg):(Int)->Option Out:=rawIter (fun w v=>B0 k w (Q0 k a1) a1 v) k
theorem s0_eq (k:Nat) (a1:Arg):s0 k a1=r0 k a1:=
 funext fun v402=>iter_raw _ _ _ (T0 a1) _ (fun rec v=>by kernel_rfl) k v402
noncomputable def p (l0:(Int)->Option Out) (a1:Arg):Option Out:=bif !decide ((a1.1.length:Int)=(a1.2.1.length:Int)) then (some (false,())) else l0 (0:Int)
theorem raw_eq (k:Nat) (a1:Arg):@Eq (Option Out) (D.W k a1) (p (r0 k a1) a1):=
 Eq.trans (b:=p (s0 k a1) a1) (by kernel_rfl) (by rw[s0_eq])
theorem ok:Ok prog 144 D.sig:=fd_ok func144 tlOk (by kernel_rfl) (fn_nil _)
end spec_l15Changes
namespace spec_l15Tx
abbrev Arg:Type:=Tx×Tx×Unit
abbrev Out:Type:=Bool×Unit
abbrev ps:PQ:=[(.ro,(.ptr tTx)),(.ro,(.ptr tTx))]
noncomputable def D:FD:={ fn:=f73,tl:=TL0,ps:=ps,rs:=[(.bool,(roMd .bool))],gl:=[(144,spec_l15Changes.D.sig)],lv:=[(4,[0,1,5]),(9,[0,1,6])],lx:=[(0,[0,1]),(2,[])],od:=[(1,[0,1,2,3,4,5,6,7,8,9,10,11,12,13,14,15,16,17,18,19,20,21,22,23,24,25,26,27,28,29,30,31,32,33,34,35,36,37,38,39,40,41,42,43,44,45,46]),(6,[0,1,2,3,4,5,6,7,8,9,10,11,12,13,14]),(11,[0,1,2,3,4,5,6,7,8,9,10,11,12,13,14])],ar:=[(1,[3,7,13,17,25,30,38,43])] }
noncomputable def sem (a:Arg):Option Out:=@lift Out fun k=>D.W k a
noncomputable def T0 (a1:Arg) (v403:Int):St:={ n:=102,sl:=[(0,.cp tTx a1.1),(1,.cp tTx a1.2.1),(5,.val i64 v403)],vr:=[],lent:=[] }
noncomputable def S0 (rec:RT Out) (a1:Arg):(Int)->Option Out:=fun v403=>rec (T0 a1 v403)
noncomputable def X0_0 (K:KT Out) (a1:Arg):(Unit)->Option Out:=fun z=>K (.exit 0) ({ n:=102,sl:=[(0,.cp tTx a1.1),(1,.cp tTx a1.2.1)],vr:=[],lent:=[] })
noncomputable def b0 (self:Int->Option Out) (e0:(Unit)->Option Out) (a1:Arg) (v403:Int):Option Out:=bif decide (v403 < (a1.1.2.2.1.length:Int)) then (if 0<=v403 then ((a1.1.2.2.1[v403.toNat]?).bind fun x604=>if 0<=v403 then ((a1.2.1.2.2.1[v403.toNat]?).bind fun x605=>bif !decide (x604=x605) then (some (false,())) else self (w64 (v403+(1:Int)))) else none) else none) else e0 ()
noncomputable abbrev B0 (_:Nat):=b0
theorem B0_eq (k:Nat) (rec:RT Out) (K:KT Out) (a1:Arg) (v403:Int):D.N k [1,1,0,1,0,0] (T0 a1 v403) (loopC rec (keepF [0,1,5] []) K)=b0 (S0 rec a1) (X0_0 K a1) a1 v403:=by kernel_rfl
noncomputable def T1 (a1:Arg) (v1007:Int):St:={ n:=102,sl:=[(0,.cp tTx a1.1),(1,.cp tTx a1.2.1),(6,.val i64 v1007)],vr:=[],lent:=[] }
noncomputable def b1 (self:Int->Option Out) (e2:(Unit)->Option Out) (a1:Arg) (v1007:Int):Option Out:=bif decide (v1007 < (a1.1.2.2.2.1.length:Int)) then (if 0<=v1007 then ((a1.1.2.2.2.1[v1007.toNat]?).bind fun x1208=>if 0<=v1007 then ((a1.2.1.2.2.2.1[v1007.toNat]?).bind fun x1209=>bif !(Ty.eq tKey x1208 x1209) then (some (false,())) else self (w64 (v1007+(1:Int)))) else none) else none) else e2 ()
noncomputable abbrev B1 (_:Nat):=b1
noncomputable def q1 (a1:Arg) (z1210:(Unit)):Option Out:=some (true,())
noncomputable abbrev Q1 (_:Nat):=q1
noncomputable def s1 (k:Nat) (a1:Arg):(Int)->Option Out:=fun v1007=>D.L k [1,1,1,0,1,0,0] [0,1,6] [] (blockC 2 (seqC (D.N k [1,1,1,1]) D.K0)) (T1 a1 v1007)
noncomputable def r1 (k:Nat) (a1:Arg):(Int)->Option Out:=rawIter (fun w v=>B1 k w (Q1 k a1) a1 v) k
theorem s1_eq (k:Nat) (a1:Arg):s1 k a1=r1 k a1:=
 funext fun v1007=>iter_raw _ _ _ (T1 a1) _ (fun rec v=>by kernel_rfl) k v1007
noncomputable def q0 (l1:(Int)->Option Out) (a1:Arg) (z606:(Unit)):Option Out:=l1 (0:Int)
noncomputable def Q0 (k:Nat) (a1:Arg) (z606:(Unit)):Option Out:=q0 (r1 k a1) a1 z606
theorem Q0_eq (k:Nat) (a1:Arg) (z606:(Unit)):X0_0 (blockC 0 (seqC (D.N k [1,1,1]) D.K0)) a1 z606=Q0 k a1 z606:=
 Eq.trans (b:=q0 (s1 k a1) a1 z606) (by kernel_rfl) (by rw[s1_eq];rfl)
noncomputable def s0 (k:Nat) (a1:Arg):(Int)->Option Out:=fun v403=>D.L k [1,1,0,1,0,0] [0,1,5] [] (blockC 0 (seqC (D.N k [1,1,1]) D.K0)) (T0 a1 v403)
noncomputable def r0 (k:Nat) (a1:Arg):(Int)->Option Out:=rawIter (fun w v=>B0 k w (Q0 k a1) a1 v) k
theorem s0_eq (k:Nat) (a1:Arg):s0 k a1=r0 k a1:=by
 funext v403;
 have h0:X0_0 (blockC 0 (seqC (D.N k [1,1,1]) D.K0)) a1=Q0 k a1:=funext fun z=>Q0_eq k a1 z
 refine (iter_raw _ _ _ (T0 a1) (fun self v=>B0 k self (X0_0 (blockC 0 (seqC (D.N k [1,1,1]) D.K0)) a1) a1 v) (fun rec v=>B0_eq k rec (blockC 0 (seqC (D.N k [1,1,1]) D.K0)) a1 v) k v403).trans ?_
 rw[h0]
 rfl
noncomputable def p (l0:(Int)->Option Out) (a1:Arg):Option Out:=bif !decide (a1.1.1=a1.2.1.1) then (some (false,())) else (spec_l15Changes.sem (a1.1.2.1,a1.2.1.2.1,())).bind fun r2=>bif !r2.1 then (some (false,())) else bif !decide ((a1.1.2.2.1.length:Int)=(a1.2.1.2.2.1.length:Int)) then (some (false,())) else bif !decide ((a1.1.2.2.2.1.length:Int)=(a1.2.1.2.2.2.1.length:Int)) then (some (false,())) else l0 (0:Int)
theorem raw_eq (k:Nat) (a1:Arg):@Eq (Option Out) (D.W k a1) (p (r0 k a1) a1):=
 Eq.trans (b:=p (s0 k a1) a1) (by kernel_rfl) (by rw[s0_eq])
theorem ok:Ok prog 73 D.sig:=fd_ok func73 tlOk (by kernel_rfl) (fc spec_l15Changes.ok (fn_nil _))
end spec_l15Tx
namespace spec_l15Rows
abbrev Arg:Type:=(List Row)×(List Row)×Unit
abbrev Out:Type:=Bool×Unit
abbrev ps:PQ:=[(.ro,(.slc tRow)),(.ro,(.slc tRow))]
noncomputable def D:FD:={ fn:=f74,tl:=TL0,ps:=ps,rs:=[(.bool,(roMd .bool))],lv:=[(4,[0,1,5])],lx:=[(0,[])],od:=[(6,[0,1,2,3,4,5,6,7,8])] }
noncomputable def sem (a:Arg):Option Out:=@lift Out fun k=>D.W k a
noncomputable def T0 (a1:Arg) (v402:Int):St:={ n:=26,sl:=[(0,.val (.slc tRow) a1.1),(1,.val (.slc tRow) a1.2.1),(5,.val i64 v402)],vr:=[],lent:=[] }
noncomputable def b0 (self:Int->Option Out) (e0:(Unit)->Option Out) (a1:Arg) (v402:Int):Option Out:=bif decide (v402 < (a1.1.length:Int)) then (if 0<=v402 then ((a1.1[v402.toNat]?).bind fun x603=>if 0<=v402 then ((a1.2.1[v402.toNat]?).bind fun x604=>bif !(Ty.eq tRow x603 x604) then (some (false,())) else self (w64 (v402+(1:Int)))) else none) else none) else e0 ()
noncomputable abbrev B0 (_:Nat):=b0
noncomputable def q0 (a1:Arg) (z605:(Unit)):Option Out:=some (true,())
noncomputable abbrev Q0 (_:Nat):=q0
noncomputable def s0 (k:Nat) (a1:Arg):(Int)->Option Out:=fun v402=>D.L k [1,1,0,1,0,0] [0,1,5] [] (blockC 0 (seqC (D.N k [1,1,1]) D.K0)) (T0 a1 v402)
noncomputable def r0 (k:Nat) (a1:Arg):(Int)->Option Out:=rawIter (fun w v=>B0 k w (Q0 k a1) a1 v) k
theorem s0_eq (k:Nat) (a1:Arg):s0 k a1=r0 k a1:=
 funext fun v402=>iter_raw _ _ _ (T0 a1) _ (fun rec v=>by kernel_rfl) k v402
noncomputable def p (l0:(Int)->Option Out) (a1:Arg):Option Out:=bif !decide ((a1.1.length:Int)=(a1.2.1.length:Int)) then (some (false,())) else l0 (0:Int)
theorem raw_eq (k:Nat) (a1:Arg):@Eq (Option Out) (D.W k a1) (p (r0 k a1) a1):=
 Eq.trans (b:=p (s0 k a1) a1) (by kernel_rfl) (by rw[s0_eq])
theorem ok:Ok prog 74 D.sig:=fd_ok func74 tlOk (by kernel_rfl) (fn_nil _)
end spec_l15Rows
namespace spec_SameStory
abbrev Arg:Type:=Store×Plain×Unit
abbrev Out:Type:=Bool×Unit
abbrev ps:PQ:=[(.ro,tStore),(.ro,tPlain)]
noncomputable def D:FD:={ fn:=f17,tl:=TL0,ps:=ps,rs:=[(.bool,(roMd .bool))],gl:=[(56,spec_l12Fault.D.sig),(72,spec_l11Fault.D.sig),(73,spec_l15Tx.D.sig),(74,spec_l15Rows.D.sig),(75,spec_l6RowsIn.D.sig)],lv:=[(4,[2,3,5])],lx:=[(0,[2,3])],od:=[(6,[0,1,2,3,4,5,6,7,8,9]),(8,[0,1,3,4,2,5,6])] }
noncomputable def sem (a:Arg):Option Out:=@lift Out fun k=>D.W k a
noncomputable def T0 (a1:Arg) (v404:Int):St:={ n:=56,sl:=[(2,.box tStore (roMd tStore) [] a1.1),(3,.box tPlain (roMd tPlain) [] a1.2.1),(5,.val i64 v404)],vr:=[],lent:=[] }
noncomputable def b0 (self:Int->Option Out) (e0:(Unit)->Option Out) (a1:Arg) (v404:Int):Option Out:=bif decide (v404 < (a1.1.2.2.2.1.length:Int)) then (if 0<=v404 then ((a1.1.2.2.2.1[v404.toNat]?).bind fun x605=>if 0<=v404 then ((a1.2.1.2.1[v404.toNat]?).bind fun x606=>(spec_l15Tx.sem (x605,x606,())).bind fun r607=>bif !r607.1 then (some (false,())) else self (w64 (v404+(1:Int)))) else none) else none) else e0 ()
noncomputable abbrev B0 (_:Nat):=b0
noncomputable def q0 (a1:Arg) (z608:(Unit)):Option Out:=(spec_l6RowsIn.sem (a1.1.2.1,())).bind fun r609=>(spec_l15Rows.sem (r609.1,a1.2.1.1,())).bind fun r610=>some (r610.1,())
noncomputable abbrev Q0 (_:Nat):=q0
noncomputable def s0 (k:Nat) (a1:Arg):(Int)->Option Out:=fun v404=>D.L k [1,1,0,1,0,0] [2,3,5] [] (blockC 0 (seqC (D.N k [1,1,1]) D.K0)) (T0 a1 v404)
noncomputable def r0 (k:Nat) (a1:Arg):(Int)->Option Out:=rawIter (fun w v=>B0 k w (Q0 k a1) a1 v) k
theorem s0_eq (k:Nat) (a1:Arg):s0 k a1=r0 k a1:=
 funext fun v404=>iter_raw _ _ _ (T0 a1) _ (fun rec v=>by kernel_rfl) k v404
noncomputable def p (l0:(Int)->Option Out) (a1:Arg):Option Out:=(spec_l12Fault.sem (a1.1,())).bind fun r2=>bif !decide (r2.1=(0:Int)) then (some (false,())) else (spec_l11Fault.sem (a1.2.1,())).bind fun r3=>bif !decide (r3.1=(0:Int)) then (some (false,())) else bif !a1.1.1 then (some (false,())) else bif !decide (a1.1.2.2.2.2.1=a1.2.1.2.2.1) then (some (false,())) else bif !decide ((a1.1.2.2.2.1.length:Int)=(a1.2.1.2.1.length:Int)) then (some (false,())) else l0 (0:Int)
theorem raw_eq (k:Nat) (a1:Arg):@Eq (Option Out) (D.W k a1) (p (r0 k a1) a1):=
 Eq.trans (b:=p (s0 k a1) a1) (by kernel_rfl) (by rw[s0_eq])
theorem ok:Ok prog 17 D.sig:=fd_ok func17 tlOk (by kernel_rfl) (fc spec_l12Fault.ok (fc spec_l11Fault.ok (fc spec_l15Tx.ok (fc spec_l15Rows.ok (fc spec_l6RowsIn.ok (fn_nil _))))))
end spec_SameStory
namespace laws_toRowS
abbrev Arg:Type:=(List Row)×Unit
abbrev Out:Type:=(List Row)×Unit
abbrev ps:PQ:=[(.ro,(.slc tRow))]
noncomputable def D:FD:={ fn:=f76,tl:=TL0,ps:=ps,rs:=[((.slc tRow),(ownMd (.slc tRow)))],gl:=[(147,laws_toRow.D.sig)],lv:=[(3,[0,3,4])],lx:=[(0,[3])] }
noncomputable def sem (a:Arg):Option Out:=@lift Out fun k=>D.W k a
noncomputable def T0 (a1:Arg) (v402:(List Row)×Int):St:={ n:=23,sl:=[(0,.val (.slc tRow) a1.1),(3,.own (.slc tRow) (ownMd (.slc tRow)) [] v402.1),(4,.val i64 v402.2)],vr:=[],lent:=[] }
noncomputable def b0 (self:((List Row)×Int)->Option Out) (e0:(List Row)->Option Out) (a1:Arg) (v402:(List Row)×Int):Option Out:=bif decide (v402.2 < (a1.1.length:Int)) then (if 0<=v402.2 then ((a1.1[v402.2.toNat]?).bind fun x603=>(laws_toRow.sem (x603,())).bind fun r604=>if 0<=v402.2/\v402.2 < (v402.1.length:Int) then ((v402.1[v402.2.toNat]?).bind fun x605=>self (v402.1.set v402.2.toNat r604.1,w64 (v402.2+(1:Int)))) else none) else none) else e0 v402.1
noncomputable abbrev B0 (_:Nat):=b0
noncomputable def q0 (a1:Arg) (z606:(List Row)):Option Out:=some (z606,())
noncomputable abbrev Q0 (_:Nat):=q0
noncomputable def s0 (k:Nat) (a1:Arg):((List Row)×Int)->Option Out:=fun v402=>D.L k [1,1,0,1,0,0] [0,3,4] [] (blockC 0 (seqC (D.N k [1,1,1]) D.K0)) (T0 a1 v402)
noncomputable def r0 (k:Nat) (a1:Arg):((List Row)×Int)->Option Out:=rawIter (fun w v=>B0 k w (Q0 k a1) a1 v) k
theorem s0_eq (k:Nat) (a1:Arg):s0 k a1=r0 k a1:=
 funext fun v402=>iter_raw _ _ _ (T0 a1) _ (fun rec v=>by kernel_rfl) k v402
noncomputable def p (l0:((List Row)×Int)->Option Out) (a1:Arg):Option Out:=if 0<=(a1.1.length:Int)/\(a1.1.length:Int)<=(a1.1.length:Int)/\(a1.1.length:Int)<=(CAP:Int) then (l0 (List.replicate (a1.1.length:Int).toNat ((0:Int),(0:Int),(0:Int),([]:List UInt8),()),(0:Int))) else none
theorem raw_eq (k:Nat) (a1:Arg):@Eq (Option Out) (D.W k a1) (p (r0 k a1) a1):=
 Eq.trans (b:=p (s0 k a1) a1) (by kernel_rfl) (by rw[s0_eq])
theorem ok:Ok prog 76 D.sig:=fd_ok func76 tlOk (by kernel_rfl) (fc laws_toRow.ok (fn_nil _))
end laws_toRowS
namespace laws_toPlain
abbrev Arg:Type:=Plain×Unit
abbrev Out:Type:=Plain×Unit
abbrev ps:PQ:=[(.ro,tPlain)]
noncomputable def D:FD:={ fn:=f18,tl:=TL0,ps:=ps,rs:=[(tPlain,(ownMd tPlain))],gl:=[(59,laws_toTxS.D.sig),(76,laws_toRowS.D.sig)] }
noncomputable def sem (a:Arg):Option Out:=@lift Out fun k=>D.W k a
noncomputable def p (a1:Arg):Option Out:=(laws_toRowS.sem (a1.1.1,())).bind fun r2=>(laws_toTxS.sem (a1.1.2.1,())).bind fun r3=>some ((r2.1,r3.1,a1.1.2.2.1,()),())
theorem raw_eq (k:Nat) (a1:Arg):@Eq (Option Out) (D.W k a1) (p a1):=by kernel_rfl
theorem ok:Ok prog 18 D.sig:=fd_ok func18 tlOk (by kernel_rfl) (fc laws_toTxS.ok (fc laws_toRowS.ok (fn_nil _)))
end laws_toPlain
namespace slices_Equal_Row
abbrev Arg:Type:=(List Row)×(List Row)×Unit
abbrev Out:Type:=Bool×Unit
abbrev ps:PQ:=[(.ro,(.slc tRow)),(.ro,(.slc tRow))]
noncomputable def D:FD:={ fn:=f77,tl:=TL0,ps:=ps,rs:=[(.bool,(roMd .bool))],lv:=[(4,[0,1,12,13])],lx:=[(0,[])],od:=[(6,[0,1,2,3,4,5,6,7,8])] }
noncomputable def sem (a:Arg):Option Out:=@lift Out fun k=>D.W k a
noncomputable def T0 (a1:Arg) (v402:Int):St:={ n:=26,sl:=[(0,.val (.slc tRow) a1.1),(1,.val (.slc tRow) a1.2.1),(12,.val i64 (a1.1.length:Int)),(13,.val i64 v402)],vr:=[],lent:=[] }
noncomputable def b0 (self:Int->Option Out) (e0:(Unit)->Option Out) (a1:Arg) (v402:Int):Option Out:=bif decide (v402 < (a1.1.length:Int)) then (if 0<=v402 then ((a1.1[v402.toNat]?).bind fun x603=>if 0<=v402 then ((a1.2.1[v402.toNat]?).bind fun x604=>bif !(Ty.eq tRow x603 x604) then (some (false,())) else self (w64 (v402+(1:Int)))) else none) else none) else e0 ()
noncomputable abbrev B0 (_:Nat):=b0
noncomputable def q0 (a1:Arg) (z605:(Unit)):Option Out:=some (true,())
noncomputable abbrev Q0 (_:Nat):=q0
noncomputable def s0 (k:Nat) (a1:Arg):(Int)->Option Out:=fun v402=>D.L k [1,1,0,1,0,0] [0,1,12,13] [] (blockC 0 (seqC (D.N k [1,1,1]) D.K0)) (T0 a1 v402)
noncomputable def r0 (k:Nat) (a1:Arg):(Int)->Option Out:=rawIter (fun w v=>B0 k w (Q0 k a1) a1 v) k
theorem s0_eq (k:Nat) (a1:Arg):s0 k a1=r0 k a1:=
 funext fun v402=>iter_raw _ _ _ (T0 a1) _ (fun rec v=>by kernel_rfl) k v402
noncomputable def p (l0:(Int)->Option Out) (a1:Arg):Option Out:=bif !decide ((a1.1.length:Int)=(a1.2.1.length:Int)) then (some (false,())) else l0 (0:Int)
theorem raw_eq (k:Nat) (a1:Arg):@Eq (Option Out) (D.W k a1) (p (r0 k a1) a1):=
 Eq.trans (b:=p (s0 k a1) a1) (by kernel_rfl) (by rw[s0_eq])
theorem ok:Ok prog 77 D.sig:=fd_ok func77 tlOk (by kernel_rfl) (fn_nil _)
end slices_Equal_Row
namespace impl_Store_rows
abbrev Arg:Type:=Store×Unit
abbrev Out:Type:=(List Row)×Unit
abbrev ps:PQ:=[(.ro,tStore)]
noncomputable def D:FD:={ fn:=f78,tl:=TL0,ps:=ps,rs:=[((.slc tRow),(ownMd (.slc tRow)))],gl:=[(62,impl_view.D.sig),(64,impl_plain.D.sig)] }
noncomputable def sem (a:Arg):Option Out:=@lift Out fun k=>D.W k a
noncomputable def p (a1:Arg):Option Out:=(impl_view.sem (a1.1.2.1,())).bind fun r2=>(impl_plain.sem (r2.1,())).bind fun r3=>some (r3.1,())
theorem raw_eq (k:Nat) (a1:Arg):@Eq (Option Out) (D.W k a1) (p a1):=by kernel_rfl
theorem ok:Ok prog 78 D.sig:=fd_ok func78 tlOk (by kernel_rfl) (fc impl_view.ok (fc impl_plain.ok (fn_nil _)))
end impl_Store_rows
namespace slices_Equal_Change
abbrev Arg:Type:=(List Change)×(List Change)×Unit
abbrev Out:Type:=Bool×Unit
abbrev ps:PQ:=[(.ro,(.slc tChange)),(.ro,(.slc tChange))]
noncomputable def D:FD:={ fn:=f150,tl:=TL0,ps:=ps,rs:=[(.bool,(roMd .bool))],lv:=[(4,[0,1,12,13])],lx:=[(0,[])],od:=[(6,[0,1,2,3,4,5,6,7,8])] }
noncomputable def sem (a:Arg):Option Out:=@lift Out fun k=>D.W k a
noncomputable def T0 (a1:Arg) (v402:Int):St:={ n:=26,sl:=[(0,.val (.slc tChange) a1.1),(1,.val (.slc tChange) a1.2.1),(12,.val i64 (a1.1.length:Int)),(13,.val i64 v402)],vr:=[],lent:=[] }
noncomputable def b0 (self:Int->Option Out) (e0:(Unit)->Option Out) (a1:Arg) (v402:Int):Option Out:=bif decide (v402 < (a1.1.length:Int)) then (if 0<=v402 then ((a1.1[v402.toNat]?).bind fun x603=>if 0<=v402 then ((a1.2.1[v402.toNat]?).bind fun x604=>bif !(Ty.eq tChange x603 x604) then (some (false,())) else self (w64 (v402+(1:Int)))) else none) else none) else e0 ()
noncomputable abbrev B0 (_:Nat):=b0
noncomputable def q0 (a1:Arg) (z605:(Unit)):Option Out:=some (true,())
noncomputable abbrev Q0 (_:Nat):=q0
noncomputable def s0 (k:Nat) (a1:Arg):(Int)->Option Out:=fun v402=>D.L k [1,1,0,1,0,0] [0,1,12,13] [] (blockC 0 (seqC (D.N k [1,1,1]) D.K0)) (T0 a1 v402)
noncomputable def r0 (k:Nat) (a1:Arg):(Int)->Option Out:=rawIter (fun w v=>B0 k w (Q0 k a1) a1 v) k
theorem s0_eq (k:Nat) (a1:Arg):s0 k a1=r0 k a1:=
 funext fun v402=>iter_raw _ _ _ (T0 a1) _ (fun rec v=>by kernel_rfl) k v402
noncomputable def p (l0:(Int)->Option Out) (a1:Arg):Option Out:=bif !decide ((a1.1.length:Int)=(a1.2.1.length:Int)) then (some (false,())) else l0 (0:Int)
theorem raw_eq (k:Nat) (a1:Arg):@Eq (Option Out) (D.W k a1) (p (r0 k a1) a1):=
 Eq.trans (b:=p (s0 k a1) a1) (by kernel_rfl) (by rw[s0_eq])
theorem ok:Ok prog 150 D.sig:=fd_ok func150 tlOk (by kernel_rfl) (fn_nil _)
end slices_Equal_Change
namespace slices_Equal_int64
abbrev Arg:Type:=(List Int)×(List Int)×Unit
abbrev Out:Type:=Bool×Unit
abbrev ps:PQ:=[(.ro,(.slc i64)),(.ro,(.slc i64))]
noncomputable def D:FD:={ fn:=f151,tl:=TL0,ps:=ps,rs:=[(.bool,(roMd .bool))],lv:=[(4,[0,1,12,13])],lx:=[(0,[])],od:=[(6,[0,1,2,3,4,5,6,7,8])] }
noncomputable def sem (a:Arg):Option Out:=@lift Out fun k=>D.W k a
noncomputable def T0 (a1:Arg) (v402:Int):St:={ n:=26,sl:=[(0,.val (.slc i64) a1.1),(1,.val (.slc i64) a1.2.1),(12,.val i64 (a1.1.length:Int)),(13,.val i64 v402)],vr:=[],lent:=[] }
noncomputable def b0 (self:Int->Option Out) (e0:(Unit)->Option Out) (a1:Arg) (v402:Int):Option Out:=bif decide (v402 < (a1.1.length:Int)) then (if 0<=v402 then ((a1.1[v402.toNat]?).bind fun x603=>if 0<=v402 then ((a1.2.1[v402.toNat]?).bind fun x604=>bif !decide (x603=x604) then (some (false,())) else self (w64 (v402+(1:Int)))) else none) else none) else e0 ()
noncomputable abbrev B0 (_:Nat):=b0
noncomputable def q0 (a1:Arg) (z605:(Unit)):Option Out:=some (true,())
noncomputable abbrev Q0 (_:Nat):=q0
noncomputable def s0 (k:Nat) (a1:Arg):(Int)->Option Out:=fun v402=>D.L k [1,1,0,1,0,0] [0,1,12,13] [] (blockC 0 (seqC (D.N k [1,1,1]) D.K0)) (T0 a1 v402)
noncomputable def r0 (k:Nat) (a1:Arg):(Int)->Option Out:=rawIter (fun w v=>B0 k w (Q0 k a1) a1 v) k
theorem s0_eq (k:Nat) (a1:Arg):s0 k a1=r0 k a1:=
 funext fun v402=>iter_raw _ _ _ (T0 a1) _ (fun rec v=>by kernel_rfl) k v402
noncomputable def p (l0:(Int)->Option Out) (a1:Arg):Option Out:=bif !decide ((a1.1.length:Int)=(a1.2.1.length:Int)) then (some (false,())) else l0 (0:Int)
theorem raw_eq (k:Nat) (a1:Arg):@Eq (Option Out) (D.W k a1) (p (r0 k a1) a1):=
 Eq.trans (b:=p (s0 k a1) a1) (by kernel_rfl) (by rw[s0_eq])
theorem ok:Ok prog 151 D.sig:=fd_ok func151 tlOk (by kernel_rfl) (fn_nil _)
end slices_Equal_int64
namespace slices_Equal_Key
abbrev Arg:Type:=(List Key)×(List Key)×Unit
abbrev Out:Type:=Bool×Unit
abbrev ps:PQ:=[(.ro,(.slc tKey)),(.ro,(.slc tKey))]
noncomputable def D:FD:={ fn:=f152,tl:=TL0,ps:=ps,rs:=[(.bool,(roMd .bool))],lv:=[(4,[0,1,12,13])],lx:=[(0,[])],od:=[(6,[0,1,2,3,4,5,6,7,8])] }
noncomputable def sem (a:Arg):Option Out:=@lift Out fun k=>D.W k a
noncomputable def T0 (a1:Arg) (v402:Int):St:={ n:=26,sl:=[(0,.val (.slc tKey) a1.1),(1,.val (.slc tKey) a1.2.1),(12,.val i64 (a1.1.length:Int)),(13,.val i64 v402)],vr:=[],lent:=[] }
noncomputable def b0 (self:Int->Option Out) (e0:(Unit)->Option Out) (a1:Arg) (v402:Int):Option Out:=bif decide (v402 < (a1.1.length:Int)) then (if 0<=v402 then ((a1.1[v402.toNat]?).bind fun x603=>if 0<=v402 then ((a1.2.1[v402.toNat]?).bind fun x604=>bif !(Ty.eq tKey x603 x604) then (some (false,())) else self (w64 (v402+(1:Int)))) else none) else none) else e0 ()
noncomputable abbrev B0 (_:Nat):=b0
noncomputable def q0 (a1:Arg) (z605:(Unit)):Option Out:=some (true,())
noncomputable abbrev Q0 (_:Nat):=q0
noncomputable def s0 (k:Nat) (a1:Arg):(Int)->Option Out:=fun v402=>D.L k [1,1,0,1,0,0] [0,1,12,13] [] (blockC 0 (seqC (D.N k [1,1,1]) D.K0)) (T0 a1 v402)
noncomputable def r0 (k:Nat) (a1:Arg):(Int)->Option Out:=rawIter (fun w v=>B0 k w (Q0 k a1) a1 v) k
theorem s0_eq (k:Nat) (a1:Arg):s0 k a1=r0 k a1:=
 funext fun v402=>iter_raw _ _ _ (T0 a1) _ (fun rec v=>by kernel_rfl) k v402
noncomputable def p (l0:(Int)->Option Out) (a1:Arg):Option Out:=bif !decide ((a1.1.length:Int)=(a1.2.1.length:Int)) then (some (false,())) else l0 (0:Int)
theorem raw_eq (k:Nat) (a1:Arg):@Eq (Option Out) (D.W k a1) (p (r0 k a1) a1):=
 Eq.trans (b:=p (s0 k a1) a1) (by kernel_rfl) (by rw[s0_eq])
theorem ok:Ok prog 152 D.sig:=fd_ok func152 tlOk (by kernel_rfl) (fn_nil _)
end slices_Equal_Key
namespace impl_sameTxs_1
abbrev Arg:Type:=Tx×Tx×Unit
abbrev Out:Type:=Bool×Unit
abbrev ps:PQ:=[(.ro,tTx),(.ro,tTx)]
noncomputable def D:FD:={ fn:=f149,tl:=TL0,ps:=ps,rs:=[(.bool,(roMd .bool))],gl:=[(150,slices_Equal_Change.D.sig),(151,slices_Equal_int64.D.sig),(152,slices_Equal_Key.D.sig)] }
noncomputable def sem (a:Arg):Option Out:=@lift Out fun k=>D.W k a
noncomputable def p (a1:Arg):Option Out:=bif decide (a1.1.1=a1.2.1.1) then ((slices_Equal_Change.sem (a1.1.2.1,a1.2.1.2.1,())).bind fun r2=>bif r2.1 then ((slices_Equal_int64.sem (a1.1.2.2.1,a1.2.1.2.2.1,())).bind fun r3=>bif r3.1 then ((slices_Equal_Key.sem (a1.1.2.2.2.1,a1.2.1.2.2.2.1,())).bind fun r4=>some (r4.1,())) else some (false,())) else some (false,())) else some (false,())
theorem raw_eq (k:Nat) (a1:Arg):@Eq (Option Out) (D.W k a1) (p a1):=by kernel_rfl
theorem ok:Ok prog 149 D.sig:=fd_ok func149 tlOk (by kernel_rfl) (fc slices_Equal_Change.ok (fc slices_Equal_int64.ok (fc slices_Equal_Key.ok (fn_nil _))))
end impl_sameTxs_1
namespace slices_EqualFunc_Tx
abbrev Arg:Type:=(List Tx)×(List Tx)×(Nat×Int)×Unit
abbrev Out:Type:=Bool×Unit
abbrev ps:PQ:=[(.ro,(.slc tTx)),(.ro,(.slc tTx)),(.fix 149,.fn)]
noncomputable def D:FD:={ fn:=f148,tl:=TL0,ps:=ps,rs:=[(.bool,(roMd .bool))],gl:=[(149,impl_sameTxs_1.D.sig)],lv:=[(4,[1,2,15,16,17])],lx:=[(0,[])] }
noncomputable def sem (a:Arg):Option Out:=@lift Out fun k=>D.W k a
noncomputable def T0 (a1:Arg) (v402:Int):St:={ n:=32,sl:=[(1,.val (.slc tTx) a1.2.1),(2,.val .fn ((149,a1.2.2.1.2):Nat×Int)),(15,.val (.slc tTx) a1.1),(16,.val i64 (a1.1.length:Int)),(17,.val i64 v402)],vr:=[],lent:=[] }
noncomputable def b0 (self:Int->Option Out) (e0:(Unit)->Option Out) (a1:Arg) (v402:Int):Option Out:=bif decide (v402 < (a1.1.length:Int)) then (if 0<=v402 then ((a1.1[v402.toNat]?).bind fun x603=>if 0<=v402 then ((a1.2.1[v402.toNat]?).bind fun x604=>(impl_sameTxs_1.sem (x603,x604,())).bind fun r605=>bif !r605.1 then (some (false,())) else self (w64 (v402+(1:Int)))) else none) else none) else e0 ()
noncomputable abbrev B0 (_:Nat):=b0
noncomputable def q0 (a1:Arg) (z606:(Unit)):Option Out:=some (true,())
noncomputable abbrev Q0 (_:Nat):=q0
noncomputable def s0 (k:Nat) (a1:Arg):(Int)->Option Out:=fun v402=>D.L k [1,1,0,1,0,0] [1,2,15,16,17] [] (blockC 0 (seqC (D.N k [1,1,1]) D.K0)) (T0 a1 v402)
noncomputable def r0 (k:Nat) (a1:Arg):(Int)->Option Out:=rawIter (fun w v=>B0 k w (Q0 k a1) a1 v) k
theorem s0_eq (k:Nat) (a1:Arg):s0 k a1=r0 k a1:=
 funext fun v402=>iter_raw _ _ _ (T0 a1) _ (fun rec v=>by kernel_rfl) k v402
noncomputable def p (l0:(Int)->Option Out) (a1:Arg):Option Out:=bif !decide ((a1.1.length:Int)=(a1.2.1.length:Int)) then (some (false,())) else l0 (0:Int)
theorem raw_eq (k:Nat) (a1:Arg):@Eq (Option Out) (D.W k a1) (p (r0 k a1) a1):=
 Eq.trans (b:=p (s0 k a1) a1) (by kernel_rfl) (by rw[s0_eq])
theorem ok:Ok prog 148 D.sig:=fd_ok func148 tlOk (by kernel_rfl) (fc impl_sameTxs_1.ok (fn_nil _))
end slices_EqualFunc_Tx
namespace impl_sameTxs
abbrev Arg:Type:=(List Tx)×(List Tx)×Unit
abbrev Out:Type:=Bool×Unit
abbrev ps:PQ:=[(.ro,(.slc tTx)),(.ro,(.slc tTx))]
noncomputable def D:FD:={ fn:=f79,tl:=TL0,ps:=ps,rs:=[(.bool,(roMd .bool))],gl:=[(148,slices_EqualFunc_Tx.D.sig)] }
noncomputable def sem (a:Arg):Option Out:=@lift Out fun k=>D.W k a
noncomputable def p (a1:Arg):Option Out:=(slices_EqualFunc_Tx.sem (a1.1,a1.2.1,((149,0):Nat×Int),())).bind fun r2=>some (r2.1,())
theorem raw_eq (k:Nat) (a1:Arg):@Eq (Option Out) (D.W k a1) (p a1):=by kernel_rfl
theorem ok:Ok prog 79 D.sig:=fd_ok func79 tlOk (by kernel_rfl) (fc slices_EqualFunc_Tx.ok (fn_nil _))
end impl_sameTxs
namespace impl_SameStory
abbrev Arg:Type:=Store×Plain×Unit
abbrev Out:Type:=Bool×Unit
abbrev ps:PQ:=[(.ro,tStore),(.ro,tPlain)]
noncomputable def D:FD:={ fn:=f19,tl:=TL0,ps:=ps,rs:=[(.bool,(roMd .bool))],gl:=[(14,impl_StoreFault.D.sig),(63,impl_PlainFault.D.sig),(77,slices_Equal_Row.D.sig),(78,impl_Store_rows.D.sig),(79,impl_sameTxs.D.sig)],od:=[(3,[0,2,3,1,4,5,6,7,8,9,10,11,12,13,14,15,16,17,18,19])],ar:=[(3,[0,3,7,9,14,16])],bx:=[(3,[2,3])] }
noncomputable def sem (a:Arg):Option Out:=@lift Out fun k=>D.W k a
noncomputable def p (a1:Arg):Option Out:=(impl_StoreFault.sem (a1.1,())).bind fun r2=>bif !decide (r2.1=(0:Int)) then (some (false,())) else (impl_PlainFault.sem (a1.2.1,())).bind fun r3=>bif !decide (r3.1=(0:Int)) then (some (false,())) else bif !a1.1.1 then (some (false,())) else (impl_Store_rows.sem (a1.1,())).bind fun r4=>(slices_Equal_Row.sem (r4.1,a1.2.1.1,())).bind fun r5=>bif r5.1 then ((impl_sameTxs.sem (a1.1.2.2.2.1,a1.2.1.2.1,())).bind fun r6=>bif r6.1 then (some (decide (a1.1.2.2.2.2.1=a1.2.1.2.2.1),())) else some (false,())) else some (false,())
theorem raw_eq (k:Nat) (a1:Arg):@Eq (Option Out) (D.W k a1) (p a1):=by kernel_rfl
theorem ok:Ok prog 19 D.sig:=fd_ok func19 tlOk (by kernel_rfl) (fc impl_StoreFault.ok (fc impl_PlainFault.ok (fc slices_Equal_Row.ok (fc impl_Store_rows.ok (fc impl_sameTxs.ok (fn_nil _))))))
end impl_SameStory
namespace laws_eqRowS
abbrev Arg:Type:=(List Row)×(List Row)×Unit
abbrev Out:Type:=Bool×Unit
abbrev ps:PQ:=[(.ro,(.slc tRow)),(.ro,(.slc tRow))]
noncomputable def D:FD:={ fn:=f80,tl:=TL0,ps:=ps,rs:=[(.bool,(roMd .bool))],gl:=[(153,laws_eqRow.D.sig)],lv:=[(4,[0,1,5])],lx:=[(0,[])],od:=[(6,[0,1,2,3,4,5,6,7,8,9])] }
noncomputable def sem (a:Arg):Option Out:=@lift Out fun k=>D.W k a
noncomputable def T0 (a1:Arg) (v402:Int):St:={ n:=27,sl:=[(0,.val (.slc tRow) a1.1),(1,.val (.slc tRow) a1.2.1),(5,.val i64 v402)],vr:=[],lent:=[] }
noncomputable def b0 (self:Int->Option Out) (e0:(Unit)->Option Out) (a1:Arg) (v402:Int):Option Out:=bif decide (v402 < (a1.1.length:Int)) then (if 0<=v402 then ((a1.1[v402.toNat]?).bind fun x603=>if 0<=v402 then ((a1.2.1[v402.toNat]?).bind fun x604=>(laws_eqRow.sem (x603,x604,())).bind fun r605=>bif !r605.1 then (some (false,())) else self (w64 (v402+(1:Int)))) else none) else none) else e0 ()
noncomputable abbrev B0 (_:Nat):=b0
noncomputable def q0 (a1:Arg) (z606:(Unit)):Option Out:=some (true,())
noncomputable abbrev Q0 (_:Nat):=q0
noncomputable def s0 (k:Nat) (a1:Arg):(Int)->Option Out:=fun v402=>D.L k [1,1,0,1,0,0] [0,1,5] [] (blockC 0 (seqC (D.N k [1,1,1]) D.K0)) (T0 a1 v402)
noncomputable def r0 (k:Nat) (a1:Arg):(Int)->Option Out:=rawIter (fun w v=>B0 k w (Q0 k a1) a1 v) k
theorem s0_eq (k:Nat) (a1:Arg):s0 k a1=r0 k a1:=
 funext fun v402=>iter_raw _ _ _ (T0 a1) _ (fun rec v=>by kernel_rfl) k v402
noncomputable def p (l0:(Int)->Option Out) (a1:Arg):Option Out:=bif !decide ((a1.1.length:Int)=(a1.2.1.length:Int)) then (some (false,())) else l0 (0:Int)
theorem raw_eq (k:Nat) (a1:Arg):@Eq (Option Out) (D.W k a1) (p (r0 k a1) a1):=
 Eq.trans (b:=p (s0 k a1) a1) (by kernel_rfl) (by rw[s0_eq])
theorem ok:Ok prog 80 D.sig:=fd_ok func80 tlOk (by kernel_rfl) (fc laws_eqRow.ok (fn_nil _))
end laws_eqRowS
namespace laws_eqPlain
abbrev Arg:Type:=Plain×Plain×Unit
abbrev Out:Type:=Bool×Unit
abbrev ps:PQ:=[(.ro,tPlain),(.ro,tPlain)]
noncomputable def D:FD:={ fn:=f20,tl:=TL0,ps:=ps,rs:=[(.bool,(roMd .bool))],gl:=[(70,laws_eqTxS.D.sig),(80,laws_eqRowS.D.sig)] }
noncomputable def sem (a:Arg):Option Out:=@lift Out fun k=>D.W k a
noncomputable def p (a1:Arg):Option Out:=(laws_eqRowS.sem (a1.1.1,a1.2.1.1,())).bind fun r2=>bif !r2.1 then (some (false,())) else (laws_eqTxS.sem (a1.1.2.1,a1.2.1.2.1,())).bind fun r3=>bif !r3.1 then (some (false,())) else bif !decide (a1.1.2.2.1=a1.2.1.2.2.1) then (some (false,())) else some (true,())
theorem raw_eq (k:Nat) (a1:Arg):@Eq (Option Out) (D.W k a1) (p a1):=by kernel_rfl
theorem ok:Ok prog 20 D.sig:=fd_ok func20 tlOk (by kernel_rfl) (fc laws_eqTxS.ok (fc laws_eqRowS.ok (fn_nil _)))
end laws_eqPlain
namespace laws_FnExactSameStory
abbrev Arg:Type:=Store×Plain×Unit
abbrev Out:Type:=Bool×Unit
abbrev ps:PQ:=[(.ro,tStore),(.ro,tPlain)]
noncomputable def D:FD:={ fn:=f4,tl:=TL0,ps:=ps,rs:=[(.bool,(roMd .bool))],gl:=[(11,laws_szStore.D.sig),(13,laws_toStore.D.sig),(15,laws_eqStore.D.sig),(16,laws_szPlain.D.sig),(17,spec_SameStory.D.sig),(18,laws_toPlain.D.sig),(19,impl_SameStory.D.sig),(20,laws_eqPlain.D.sig)],od:=[(8,[0,2,1,3,4,5]),(14,[0,1,2,3,4]),(16,[0,1,2,3,4])] }
noncomputable def sem (a:Arg):Option Out:=@lift Out fun k=>D.W k a
noncomputable def p (a1:Arg):Option Out:=(laws_szStore.sem (a1.1,(1048576:Int),())).bind fun r2=>bif decide (r2.1 < (0:Int)) then (some (true,())) else (laws_szPlain.sem (a1.2.1,r2.1,())).bind fun r3=>bif decide (r3.1 < (0:Int)) then (some (true,())) else (laws_toStore.sem (a1.1,())).bind fun r4=>(laws_toPlain.sem (a1.2.1,())).bind fun r5=>(spec_SameStory.sem (r4.1,r5.1,())).bind fun r6=>(laws_toStore.sem (a1.1,())).bind fun r7=>(laws_toPlain.sem (a1.2.1,())).bind fun r8=>(impl_SameStory.sem (r7.1,r8.1,())).bind fun r9=>bif !(r9.1 == r6.1) then (some (false,())) else (laws_toStore.sem (a1.1,())).bind fun r10=>(laws_eqStore.sem (r7.1,r10.1,())).bind fun r11=>bif !r11.1 then (some (false,())) else (laws_toPlain.sem (a1.2.1,())).bind fun r12=>(laws_eqPlain.sem (r8.1,r12.1,())).bind fun r13=>bif !r13.1 then (some (false,())) else some (true,())
theorem raw_eq (k:Nat) (a1:Arg):@Eq (Option Out) (D.W k a1) (p a1):=by kernel_rfl
theorem ok:Ok prog 4 D.sig:=fd_ok func4 tlOk (by kernel_rfl) (fc laws_szStore.ok (fc laws_toStore.ok (fc laws_eqStore.ok (fc laws_szPlain.ok (fc spec_SameStory.ok (fc laws_toPlain.ok (fc impl_SameStory.ok (fc laws_eqPlain.ok (fn_nil _)))))))))
end laws_FnExactSameStory
end OT
set_option linter.unusedVariables false
set_option linter.unusedSimpArgs false
namespace OT
open Go
theorem szByteS_eq (x:List UInt8) (n:Int) (hx:okD (.slc u8) x) (h0:0<=n) (h1:n<=1048576):laws_szByteS.sem (x,n,())=some (lft n (zz (.slc u8) x),()):=by
 obtain ⟨hl,hel⟩:=hx
 have hl':=hl
 rw[maxLen_val] at hl'
 have hl':List.length x<=9223372036854775807:=hl'
 have hw:w64 (n - (List.length x:Int))=n - (List.length x:Int):=w64_in (by omega)
 have hz:zz (.slc u8) x=List.length x+0:=by show List.length x+sumW _ _=_;exact congrArg (List.length x+·) (sumW_zero _ (fun _=>rfl) x)
 refine lift_eq (k:=0) fun k _=>(laws_szByteS.raw_eq k _).trans ?_
 show laws_szByteS.p _=_
 unfold laws_szByteS.p
 simp only[hw,hz,Nat.add_zero]
 by_cases hc:(List.length x:Int)<=n
 ·have e1:lft n (List.length x)=n - (List.length x:Int):=if_pos hc
  have n1:¬ (n - (List.length x:Int) < 0):=by omega
  simp[e1,n1]
 ·have e1:lft n (List.length x)=-1:=if_neg hc
  have n1:n - (List.length x:Int) < 0:=by omega
  simp[e1,n1]
theorem szByteSS_eq (x:List (List UInt8)) (n:Int) (hx:okD (.slc (.slc u8)) x) (h0:0<=n) (h1:n<=1048576):laws_szByteSS.sem (x,n,())=some (lft n (zz (.slc (.slc u8)) x),()):=by
 obtain ⟨hl,hel⟩:=hx
 have hl':=hl
 rw[maxLen_val] at hl'
 have hl':List.length x<=9223372036854775807:=hl'
 have hw:w64 (n - (List.length x:Int))=n - (List.length x:Int):=w64_in (by omega)
 have hz:zz (.slc (.slc u8)) x=List.length x+sumW (zz (.slc u8)) x:=rfl
 by_cases hc:n - (List.length x:Int) < 0
 ·have e1:lft n (zz (.slc (.slc u8)) x)=-1:=if_neg (by omega)
  rw[e1]
  refine lift_eq (k:=0) fun k _=>(laws_szByteSS.raw_eq k _).trans ?_
  unfold laws_szByteSS.p
  simp only[hw,hc,decide_true,cond_true]
  try rfl
 ·have e1:lft n (zz (.slc (.slc u8)) x)=lft (n - (List.length x:Int)) (sumW (zz (.slc u8)) x):=by rw[hz,lft_add (by omega)]
  rw[e1]
  refine lift_eq (k:=List.length x+1) fun k hk=>(laws_szByteSS.raw_eq k _).trans ?_
  unfold laws_szByteSS.p
  simp only[hw,hc,decide_false,cond_false]
  exact sz_loop (B:=fun self v=>laws_szByteSS.B0 0 self (fun z=>laws_szByteSS.Q0 0 (x,n,()) z) (x,n,()) v) (xs:=x) hl (zz (.slc u8)) (fun i hi m self hm0 hm1=>by
    show laws_szByteSS.b0 _ _ _ _=_
    unfold laws_szByteSS.b0
    have hlt:(i:Int) < (List.length x:Int):=by omega
    simp only[hlt,decide_true,cond_true,Int.natCast_nonneg,if_true,Int.toNat_natCast,List.getElem?_eq_getElem hi,Option.bind_some,szByteS_eq x[i] m (hel _ (List.getElem_mem hi)) hm0 hm1]
    by_cases hs:lft m (zz (.slc u8) x[i]) < 0 <;> simp[hs]) (fun m self=>by
    show laws_szByteSS.b0 _ _ _ _=_
    unfold laws_szByteSS.b0
    simp[laws_szByteSS.Q0,laws_szByteSS.q0]) _ (by omega) (by omega) k (by omega)
theorem szLog_eq (x:Log) (n:Int) (hx:okD tLog x) (h0:0<=n) (h1:n<=1048576):laws_szLog.sem (x,n,())=some (lft n (zz tLog x),()):=by
 have hz:zz tLog x=(zz (.slc u8) x.1+(zz (.slc u8) x.2.1+0)):=rfl
 refine lift_eq (k:=0) fun k _=>(laws_szLog.raw_eq k _).trans ?_
 show laws_szLog.p _=_
 unfold laws_szLog.p
 simp only[szByteS_eq x.1 (n) hx.1 (by omega) (by omega),Option.bind_some]
 by_cases hc:((zz (.slc u8) x.1:Nat):Int)<=n
 rotate_left
 ·have e1:lft (n) (zz (.slc u8) x.1)=-1:=if_neg hc
  have e2:lft n (zz tLog x)=-1:=if_neg (by omega)
  rw[e1,e2];rfl
 have e1:lft (n) (zz (.slc u8) x.1)=n - ((zz (.slc u8) x.1:Nat):Int):=if_pos hc
 have n1:¬ (n - ((zz (.slc u8) x.1:Nat):Int) < 0):=by omega
 simp only[e1,n1,decide_false,cond_false]
 clear e1 n1
 simp only[szByteS_eq x.2.1 ((n - ((zz (.slc u8) x.1:Nat):Int))) hx.2.1 (by omega) (by omega),Option.bind_some]
 by_cases hc:((zz (.slc u8) x.2.1:Nat):Int)<=(n - ((zz (.slc u8) x.1:Nat):Int))
 rotate_left
 ·have e1:lft ((n - ((zz (.slc u8) x.1:Nat):Int))) (zz (.slc u8) x.2.1)=-1:=if_neg hc
  have e2:lft n (zz tLog x)=-1:=if_neg (by omega)
  rw[e1,e2];rfl
 have e1:lft ((n - ((zz (.slc u8) x.1:Nat):Int))) (zz (.slc u8) x.2.1)=(n - ((zz (.slc u8) x.1:Nat):Int)) - ((zz (.slc u8) x.2.1:Nat):Int):=if_pos hc
 have n1:¬ ((n - ((zz (.slc u8) x.1:Nat):Int)) - ((zz (.slc u8) x.2.1:Nat):Int) < 0):=by omega
 simp only[e1,n1,decide_false,cond_false]
 clear e1 n1
 have e2:lft n (zz tLog x)=((n - ((zz (.slc u8) x.1:Nat):Int)) - ((zz (.slc u8) x.2.1:Nat):Int)):=by unfold lft;rw[if_pos (by omega)];omega
 rw[e2]
theorem szRow_eq (x:Row) (n:Int) (hx:okD tRow x) (h0:0<=n) (h1:n<=1048576):laws_szRow.sem (x,n,())=some (lft n (zz tRow x),()):=by
 have hz:zz tRow x=(0+(0+(0+(List.length x.2.2.2.1+0)))):=rfl
 refine lift_eq (k:=0) fun k _=>(laws_szRow.raw_eq k _).trans ?_
 show laws_szRow.p _=_
 unfold laws_szRow.p
 have hw:w64 (n - (List.length x.2.2.2.1:Int))=n - (List.length x.2.2.2.1:Int):=w64_in (by have h9:=hx.2.2.2.1;simp only[okD] at h9;rw[maxLen_val] at h9;omega)
 simp only[hw]
 by_cases hc:((List.length x.2.2.2.1:Nat):Int)<=n
 rotate_left
 ·have n1:n - ((List.length x.2.2.2.1:Nat):Int) < 0:=by omega
  have e2:lft n (zz tRow x)=-1:=if_neg (by omega)
  rw[e2];simp only[n1,decide_true,cond_true]
 have n1:¬ (n - ((List.length x.2.2.2.1:Nat):Int) < 0):=by omega
 simp only[n1,decide_false,cond_false]
 clear n1 hw
 have e2:lft n (zz tRow x)=(n - ((List.length x.2.2.2.1:Nat):Int)):=by unfold lft;rw[if_pos (by omega)];omega
 rw[e2]
theorem szChange_eq (x:Change) (n:Int) (hx:okD tChange x) (h0:0<=n) (h1:n<=1048576):laws_szChange.sem (x,n,())=some (lft n (zz tChange x),()):=by
 have hz:zz tChange x=(0+((0+(0+(0+(List.length x.2.1.2.2.2.1+0))))+(0+((0+(0+(0+(List.length x.2.2.2.1.2.2.2.1+0))))+0)))):=rfl
 refine lift_eq (k:=0) fun k _=>(laws_szChange.raw_eq k _).trans ?_
 show laws_szChange.p _=_
 unfold laws_szChange.p
 have hz1:zz tRow x.2.1=(0+(0+(0+(List.length x.2.1.2.2.2.1+0)))):=rfl
 simp only[szRow_eq x.2.1 (n) hx.2.1 (by omega) (by omega),Option.bind_some]
 by_cases hc:((zz tRow x.2.1:Nat):Int)<=n
 rotate_left
 ·have e1:lft (n) (zz tRow x.2.1)=-1:=if_neg hc
  have e2:lft n (zz tChange x)=-1:=if_neg (by omega)
  rw[e1,e2];rfl
 have e1:lft (n) (zz tRow x.2.1)=n - ((zz tRow x.2.1:Nat):Int):=if_pos hc
 have n1:¬ (n - ((zz tRow x.2.1:Nat):Int) < 0):=by omega
 simp only[e1,n1,decide_false,cond_false]
 clear e1 n1
 have hz3:zz tRow x.2.2.2.1=(0+(0+(0+(List.length x.2.2.2.1.2.2.2.1+0)))):=rfl
 simp only[szRow_eq x.2.2.2.1 ((n - ((zz tRow x.2.1:Nat):Int))) hx.2.2.2.1 (by omega) (by omega),Option.bind_some]
 by_cases hc:((zz tRow x.2.2.2.1:Nat):Int)<=(n - ((zz tRow x.2.1:Nat):Int))
 rotate_left
 ·have e1:lft ((n - ((zz tRow x.2.1:Nat):Int))) (zz tRow x.2.2.2.1)=-1:=if_neg hc
  have e2:lft n (zz tChange x)=-1:=if_neg (by omega)
  rw[e1,e2];rfl
 have e1:lft ((n - ((zz tRow x.2.1:Nat):Int))) (zz tRow x.2.2.2.1)=(n - ((zz tRow x.2.1:Nat):Int)) - ((zz tRow x.2.2.2.1:Nat):Int):=if_pos hc
 have n1:¬ ((n - ((zz tRow x.2.1:Nat):Int)) - ((zz tRow x.2.2.2.1:Nat):Int) < 0):=by omega
 simp only[e1,n1,decide_false,cond_false]
 clear e1 n1
 have e2:lft n (zz tChange x)=((n - ((zz tRow x.2.1:Nat):Int)) - ((zz tRow x.2.2.2.1:Nat):Int)):=by unfold lft;rw[if_pos (by omega)];omega
 rw[e2]
theorem szChangeS_eq (x:List Change) (n:Int) (hx:okD (.slc tChange) x) (h0:0<=n) (h1:n<=1048576):laws_szChangeS.sem (x,n,())=some (lft n (zz (.slc tChange) x),()):=by
 obtain ⟨hl,hel⟩:=hx
 have hl':=hl
 rw[maxLen_val] at hl'
 have hl':List.length x<=9223372036854775807:=hl'
 have hw:w64 (n - (List.length x:Int))=n - (List.length x:Int):=w64_in (by omega)
 have hz:zz (.slc tChange) x=List.length x+sumW (zz tChange) x:=rfl
 by_cases hc:n - (List.length x:Int) < 0
 ·have e1:lft n (zz (.slc tChange) x)=-1:=if_neg (by omega)
  rw[e1]
  refine lift_eq (k:=0) fun k _=>(laws_szChangeS.raw_eq k _).trans ?_
  unfold laws_szChangeS.p
  simp only[hw,hc,decide_true,cond_true]
  try rfl
 ·have e1:lft n (zz (.slc tChange) x)=lft (n - (List.length x:Int)) (sumW (zz tChange) x):=by rw[hz,lft_add (by omega)]
  rw[e1]
  refine lift_eq (k:=List.length x+1) fun k hk=>(laws_szChangeS.raw_eq k _).trans ?_
  unfold laws_szChangeS.p
  simp only[hw,hc,decide_false,cond_false]
  exact sz_loop (B:=fun self v=>laws_szChangeS.B0 0 self (fun z=>laws_szChangeS.Q0 0 (x,n,()) z) (x,n,()) v) (xs:=x) hl (zz tChange) (fun i hi m self hm0 hm1=>by
    show laws_szChangeS.b0 _ _ _ _=_
    unfold laws_szChangeS.b0
    have hlt:(i:Int) < (List.length x:Int):=by omega
    simp only[hlt,decide_true,cond_true,Int.natCast_nonneg,if_true,Int.toNat_natCast,List.getElem?_eq_getElem hi,Option.bind_some,szChange_eq x[i] m (hel _ (List.getElem_mem hi)) hm0 hm1]
    by_cases hs:lft m (zz tChange x[i]) < 0 <;> simp[hs]) (fun m self=>by
    show laws_szChangeS.b0 _ _ _ _=_
    unfold laws_szChangeS.b0
    simp[laws_szChangeS.Q0,laws_szChangeS.q0]) _ (by omega) (by omega) k (by omega)
theorem szInt64S_eq (x:List Int) (n:Int) (hx:okD (.slc i64) x) (h0:0<=n) (h1:n<=1048576):laws_szInt64S.sem (x,n,())=some (lft n (zz (.slc i64) x),()):=by
 obtain ⟨hl,hel⟩:=hx
 have hl':=hl
 rw[maxLen_val] at hl'
 have hl':List.length x<=9223372036854775807:=hl'
 have hw:w64 (n - (List.length x:Int))=n - (List.length x:Int):=w64_in (by omega)
 have hz:zz (.slc i64) x=List.length x+0:=by show List.length x+sumW _ _=_;exact congrArg (List.length x+·) (sumW_zero _ (fun _=>rfl) x)
 refine lift_eq (k:=0) fun k _=>(laws_szInt64S.raw_eq k _).trans ?_
 show laws_szInt64S.p _=_
 unfold laws_szInt64S.p
 simp only[hw,hz,Nat.add_zero]
 by_cases hc:(List.length x:Int)<=n
 ·have e1:lft n (List.length x)=n - (List.length x:Int):=if_pos hc
  have n1:¬ (n - (List.length x:Int) < 0):=by omega
  simp[e1,n1]
 ·have e1:lft n (List.length x)=-1:=if_neg hc
  have n1:n - (List.length x:Int) < 0:=by omega
  simp[e1,n1]
theorem szKeyS_eq (x:List Key) (n:Int) (hx:okD (.slc tKey) x) (h0:0<=n) (h1:n<=1048576):laws_szKeyS.sem (x,n,())=some (lft n (zz (.slc tKey) x),()):=by
 obtain ⟨hl,hel⟩:=hx
 have hl':=hl
 rw[maxLen_val] at hl'
 have hl':List.length x<=9223372036854775807:=hl'
 have hw:w64 (n - (List.length x:Int))=n - (List.length x:Int):=w64_in (by omega)
 have hz:zz (.slc tKey) x=List.length x+0:=by show List.length x+sumW _ _=_;exact congrArg (List.length x+·) (sumW_zero _ (fun _=>rfl) x)
 refine lift_eq (k:=0) fun k _=>(laws_szKeyS.raw_eq k _).trans ?_
 show laws_szKeyS.p _=_
 unfold laws_szKeyS.p
 simp only[hw,hz,Nat.add_zero]
 by_cases hc:(List.length x:Int)<=n
 ·have e1:lft n (List.length x)=n - (List.length x:Int):=if_pos hc
  have n1:¬ (n - (List.length x:Int) < 0):=by omega
  simp[e1,n1]
 ·have e1:lft n (List.length x)=-1:=if_neg hc
  have n1:n - (List.length x:Int) < 0:=by omega
  simp[e1,n1]
theorem szTx_eq (x:Tx) (n:Int) (hx:okD tTx x) (h0:0<=n) (h1:n<=1048576):laws_szTx.sem (x,n,())=some (lft n (zz tTx x),()):=by
 have hz:zz tTx x=(0+(zz (.slc tChange) x.2.1+(zz (.slc i64) x.2.2.1+(zz (.slc tKey) x.2.2.2.1+0)))):=rfl
 refine lift_eq (k:=0) fun k _=>(laws_szTx.raw_eq k _).trans ?_
 show laws_szTx.p _=_
 unfold laws_szTx.p
 simp only[szChangeS_eq x.2.1 (n) hx.2.1 (by omega) (by omega),Option.bind_some]
 by_cases hc:((zz (.slc tChange) x.2.1:Nat):Int)<=n
 rotate_left
 ·have e1:lft (n) (zz (.slc tChange) x.2.1)=-1:=if_neg hc
  have e2:lft n (zz tTx x)=-1:=if_neg (by omega)
  rw[e1,e2];rfl
 have e1:lft (n) (zz (.slc tChange) x.2.1)=n - ((zz (.slc tChange) x.2.1:Nat):Int):=if_pos hc
 have n1:¬ (n - ((zz (.slc tChange) x.2.1:Nat):Int) < 0):=by omega
 simp only[e1,n1,decide_false,cond_false]
 clear e1 n1
 simp only[szInt64S_eq x.2.2.1 ((n - ((zz (.slc tChange) x.2.1:Nat):Int))) hx.2.2.1 (by omega) (by omega),Option.bind_some]
 by_cases hc:((zz (.slc i64) x.2.2.1:Nat):Int)<=(n - ((zz (.slc tChange) x.2.1:Nat):Int))
 rotate_left
 ·have e1:lft ((n - ((zz (.slc tChange) x.2.1:Nat):Int))) (zz (.slc i64) x.2.2.1)=-1:=if_neg hc
  have e2:lft n (zz tTx x)=-1:=if_neg (by omega)
  rw[e1,e2];rfl
 have e1:lft ((n - ((zz (.slc tChange) x.2.1:Nat):Int))) (zz (.slc i64) x.2.2.1)=(n - ((zz (.slc tChange) x.2.1:Nat):Int)) - ((zz (.slc i64) x.2.2.1:Nat):Int):=if_pos hc
 have n1:¬ ((n - ((zz (.slc tChange) x.2.1:Nat):Int)) - ((zz (.slc i64) x.2.2.1:Nat):Int) < 0):=by omega
 simp only[e1,n1,decide_false,cond_false]
 clear e1 n1
 simp only[szKeyS_eq x.2.2.2.1 (((n - ((zz (.slc tChange) x.2.1:Nat):Int)) - ((zz (.slc i64) x.2.2.1:Nat):Int))) hx.2.2.2.1 (by omega) (by omega),Option.bind_some]
 by_cases hc:((zz (.slc tKey) x.2.2.2.1:Nat):Int)<=((n - ((zz (.slc tChange) x.2.1:Nat):Int)) - ((zz (.slc i64) x.2.2.1:Nat):Int))
 rotate_left
 ·have e1:lft (((n - ((zz (.slc tChange) x.2.1:Nat):Int)) - ((zz (.slc i64) x.2.2.1:Nat):Int))) (zz (.slc tKey) x.2.2.2.1)=-1:=if_neg hc
  have e2:lft n (zz tTx x)=-1:=if_neg (by omega)
  rw[e1,e2];rfl
 have e1:lft (((n - ((zz (.slc tChange) x.2.1:Nat):Int)) - ((zz (.slc i64) x.2.2.1:Nat):Int))) (zz (.slc tKey) x.2.2.2.1)=((n - ((zz (.slc tChange) x.2.1:Nat):Int)) - ((zz (.slc i64) x.2.2.1:Nat):Int)) - ((zz (.slc tKey) x.2.2.2.1:Nat):Int):=if_pos hc
 have n1:¬ (((n - ((zz (.slc tChange) x.2.1:Nat):Int)) - ((zz (.slc i64) x.2.2.1:Nat):Int)) - ((zz (.slc tKey) x.2.2.2.1:Nat):Int) < 0):=by omega
 simp only[e1,n1,decide_false,cond_false]
 clear e1 n1
 have e2:lft n (zz tTx x)=(((n - ((zz (.slc tChange) x.2.1:Nat):Int)) - ((zz (.slc i64) x.2.2.1:Nat):Int)) - ((zz (.slc tKey) x.2.2.2.1:Nat):Int)):=by unfold lft;rw[if_pos (by omega)];omega
 rw[e2]
theorem szTxS_eq (x:List Tx) (n:Int) (hx:okD (.slc tTx) x) (h0:0<=n) (h1:n<=1048576):laws_szTxS.sem (x,n,())=some (lft n (zz (.slc tTx) x),()):=by
 obtain ⟨hl,hel⟩:=hx
 have hl':=hl
 rw[maxLen_val] at hl'
 have hl':List.length x<=9223372036854775807:=hl'
 have hw:w64 (n - (List.length x:Int))=n - (List.length x:Int):=w64_in (by omega)
 have hz:zz (.slc tTx) x=List.length x+sumW (zz tTx) x:=rfl
 by_cases hc:n - (List.length x:Int) < 0
 ·have e1:lft n (zz (.slc tTx) x)=-1:=if_neg (by omega)
  rw[e1]
  refine lift_eq (k:=0) fun k _=>(laws_szTxS.raw_eq k _).trans ?_
  unfold laws_szTxS.p
  simp only[hw,hc,decide_true,cond_true]
  try rfl
 ·have e1:lft n (zz (.slc tTx) x)=lft (n - (List.length x:Int)) (sumW (zz tTx) x):=by rw[hz,lft_add (by omega)]
  rw[e1]
  refine lift_eq (k:=List.length x+1) fun k hk=>(laws_szTxS.raw_eq k _).trans ?_
  unfold laws_szTxS.p
  simp only[hw,hc,decide_false,cond_false]
  exact sz_loop (B:=fun self v=>laws_szTxS.B0 0 self (fun z=>laws_szTxS.Q0 0 (x,n,()) z) (x,n,()) v) (xs:=x) hl (zz tTx) (fun i hi m self hm0 hm1=>by
    show laws_szTxS.b0 _ _ _ _=_
    unfold laws_szTxS.b0
    have hlt:(i:Int) < (List.length x:Int):=by omega
    simp only[hlt,decide_true,cond_true,Int.natCast_nonneg,if_true,Int.toNat_natCast,List.getElem?_eq_getElem hi,Option.bind_some,szTx_eq x[i] m (hel _ (List.getElem_mem hi)) hm0 hm1]
    by_cases hs:lft m (zz tTx x[i]) < 0 <;> simp[hs]) (fun m self=>by
    show laws_szTxS.b0 _ _ _ _=_
    unfold laws_szTxS.b0
    simp[laws_szTxS.Q0,laws_szTxS.q0]) _ (by omega) (by omega) k (by omega)
theorem szStore_eq (x:Store) (n:Int) (hx:okD tStore x) (h0:0<=n) (h1:n<=1048576):laws_szStore.sem (x,n,())=some (lft n (zz tStore x),()):=by
 have hz:zz tStore x=(0+(zz (.slc (.slc u8)) x.2.1+((zz (.slc u8) x.2.2.1.1+(zz (.slc u8) x.2.2.1.2.1+0))+(zz (.slc tTx) x.2.2.2.1+(0+0))))):=rfl
 refine lift_eq (k:=0) fun k _=>(laws_szStore.raw_eq k _).trans ?_
 show laws_szStore.p _=_
 unfold laws_szStore.p
 simp only[szByteSS_eq x.2.1 (n) hx.2.1 (by omega) (by omega),Option.bind_some]
 by_cases hc:((zz (.slc (.slc u8)) x.2.1:Nat):Int)<=n
 rotate_left
 ·have e1:lft (n) (zz (.slc (.slc u8)) x.2.1)=-1:=if_neg hc
  have e2:lft n (zz tStore x)=-1:=if_neg (by omega)
  rw[e1,e2];rfl
 have e1:lft (n) (zz (.slc (.slc u8)) x.2.1)=n - ((zz (.slc (.slc u8)) x.2.1:Nat):Int):=if_pos hc
 have n1:¬ (n - ((zz (.slc (.slc u8)) x.2.1:Nat):Int) < 0):=by omega
 simp only[e1,n1,decide_false,cond_false]
 clear e1 n1
 have hz2:zz tLog x.2.2.1=(zz (.slc u8) x.2.2.1.1+(zz (.slc u8) x.2.2.1.2.1+0)):=rfl
 simp only[szLog_eq x.2.2.1 ((n - ((zz (.slc (.slc u8)) x.2.1:Nat):Int))) hx.2.2.1 (by omega) (by omega),Option.bind_some]
 by_cases hc:((zz tLog x.2.2.1:Nat):Int)<=(n - ((zz (.slc (.slc u8)) x.2.1:Nat):Int))
 rotate_left
 ·have e1:lft ((n - ((zz (.slc (.slc u8)) x.2.1:Nat):Int))) (zz tLog x.2.2.1)=-1:=if_neg hc
  have e2:lft n (zz tStore x)=-1:=if_neg (by omega)
  rw[e1,e2];rfl
 have e1:lft ((n - ((zz (.slc (.slc u8)) x.2.1:Nat):Int))) (zz tLog x.2.2.1)=(n - ((zz (.slc (.slc u8)) x.2.1:Nat):Int)) - ((zz tLog x.2.2.1:Nat):Int):=if_pos hc
 have n1:¬ ((n - ((zz (.slc (.slc u8)) x.2.1:Nat):Int)) - ((zz tLog x.2.2.1:Nat):Int) < 0):=by omega
 simp only[e1,n1,decide_false,cond_false]
 clear e1 n1
 simp only[szTxS_eq x.2.2.2.1 (((n - ((zz (.slc (.slc u8)) x.2.1:Nat):Int)) - ((zz tLog x.2.2.1:Nat):Int))) hx.2.2.2.1 (by omega) (by omega),Option.bind_some]
 by_cases hc:((zz (.slc tTx) x.2.2.2.1:Nat):Int)<=((n - ((zz (.slc (.slc u8)) x.2.1:Nat):Int)) - ((zz tLog x.2.2.1:Nat):Int))
 rotate_left
 ·have e1:lft (((n - ((zz (.slc (.slc u8)) x.2.1:Nat):Int)) - ((zz tLog x.2.2.1:Nat):Int))) (zz (.slc tTx) x.2.2.2.1)=-1:=if_neg hc
  have e2:lft n (zz tStore x)=-1:=if_neg (by omega)
  rw[e1,e2];rfl
 have e1:lft (((n - ((zz (.slc (.slc u8)) x.2.1:Nat):Int)) - ((zz tLog x.2.2.1:Nat):Int))) (zz (.slc tTx) x.2.2.2.1)=((n - ((zz (.slc (.slc u8)) x.2.1:Nat):Int)) - ((zz tLog x.2.2.1:Nat):Int)) - ((zz (.slc tTx) x.2.2.2.1:Nat):Int):=if_pos hc
 have n1:¬ (((n - ((zz (.slc (.slc u8)) x.2.1:Nat):Int)) - ((zz tLog x.2.2.1:Nat):Int)) - ((zz (.slc tTx) x.2.2.2.1:Nat):Int) < 0):=by omega
 simp only[e1,n1,decide_false,cond_false]
 clear e1 n1
 have e2:lft n (zz tStore x)=(((n - ((zz (.slc (.slc u8)) x.2.1:Nat):Int)) - ((zz tLog x.2.2.1:Nat):Int)) - ((zz (.slc tTx) x.2.2.2.1:Nat):Int)):=by unfold lft;rw[if_pos (by omega)];omega
 rw[e2]
theorem toByteS_eq (x:List UInt8) (h:zz (.slc u8) x<=1048576):laws_toByteS.sem (x,())=some (x,()):=by
 have hl:x.length<=1048576:=Nat.le_trans (zz_len (e:=u8) x) h
 refine lift_eq (k:=x.length+1) fun k hk=>(laws_toByteS.raw_eq k _).trans ?_
 unfold laws_toByteS.p
 have hc:0<=(x.length:Int)/\(x.length:Int)<=(x.length:Int)/\(x.length:Int)<=(CAP:Int):=by simp only[CAP];omega
 simp only[hc,and_self,if_true,Int.toNat_natCast]
 exact copy_loop (B:=fun self v=>laws_toByteS.B0 k self (fun z=>laws_toByteS.Q0 k (x,()) z) (x,()) v) (xs:=x) (by rw[maxLen_val];omega) (fun i hi acc self ha=>by
  show laws_toByteS.b0 _ _ _ _=_
  unfold laws_toByteS.b0
  have hlt:(i:Int) < (x.length:Int):=by omega
  have hlt2:(i:Int) < (acc.length:Int):=by omega
  simp only[hlt,hlt2,decide_true,cond_true,Int.natCast_nonneg,and_self,if_true,Int.toNat_natCast,List.getElem?_eq_getElem hi,List.getElem?_eq_getElem (show i < acc.length by omega),Option.bind_some]) (fun acc self=>by
  show laws_toByteS.b0 _ _ _ _=_
  unfold laws_toByteS.b0
  simp[laws_toByteS.Q0,laws_toByteS.q0]) _ k (by omega)
theorem toByteSS_eq (x:List (List UInt8)) (h:zz (.slc (.slc u8)) x<=1048576):laws_toByteSS.sem (x,())=some (x,()):=by
 have hl:x.length<=1048576:=Nat.le_trans (zz_len (e:=(.slc u8)) x) h
 refine lift_eq (k:=x.length+1) fun k hk=>(laws_toByteSS.raw_eq k _).trans ?_
 unfold laws_toByteSS.p
 have hc:0<=(x.length:Int)/\(x.length:Int)<=(x.length:Int)/\(x.length:Int)<=(CAP:Int):=by simp only[CAP];omega
 simp only[hc,and_self,if_true,Int.toNat_natCast]
 exact copy_loop (B:=fun self v=>laws_toByteSS.B0 k self (fun z=>laws_toByteSS.Q0 k (x,()) z) (x,()) v) (xs:=x) (by rw[maxLen_val];omega) (fun i hi acc self ha=>by
  show laws_toByteSS.b0 _ _ _ _=_
  unfold laws_toByteSS.b0
  have hlt:(i:Int) < (x.length:Int):=by omega
  have hlt2:(i:Int) < (acc.length:Int):=by omega
  simp only[hlt,hlt2,decide_true,cond_true,Int.natCast_nonneg,and_self,if_true,Int.toNat_natCast,List.getElem?_eq_getElem hi,List.getElem?_eq_getElem (show i < acc.length by omega),Option.bind_some,toByteS_eq x[i] (by have:=zz_mem (e:=(.slc u8)) (List.getElem_mem hi);omega)]) (fun acc self=>by
  show laws_toByteSS.b0 _ _ _ _=_
  unfold laws_toByteSS.b0
  simp[laws_toByteSS.Q0,laws_toByteSS.q0]) _ k (by omega)
theorem toLog_eq (x:Log) (h:zz tLog x<=1048576):laws_toLog.sem (x,())=some (x,()):=by
 have hz:zz tLog x=(zz (.slc u8) x.1+(zz (.slc u8) x.2.1+0)):=rfl
 refine lift_eq (k:=0) fun k _=>(laws_toLog.raw_eq k _).trans ?_
 show laws_toLog.p _=_
 unfold laws_toLog.p
 simp only[toByteS_eq x.1 (by omega),toByteS_eq x.2.1 (by omega),Option.bind_some]
theorem toRow_eq (x:Row) (h:zz tRow x<=1048576):laws_toRow.sem (x,())=some (x,()):=by
 have hz:zz tRow x=(0+(0+(0+(List.length x.2.2.2.1+0)))):=rfl
 refine lift_eq (k:=0) fun k _=>(laws_toRow.raw_eq k _).trans ?_
 show laws_toRow.p _=_
 unfold laws_toRow.p
 rfl
theorem toChange_eq (x:Change) (h:zz tChange x<=1048576):laws_toChange.sem (x,())=some (x,()):=by
 have hz:zz tChange x=(0+((0+(0+(0+(List.length x.2.1.2.2.2.1+0))))+(0+((0+(0+(0+(List.length x.2.2.2.1.2.2.2.1+0))))+0)))):=rfl
 have hz1:zz tRow x.2.1=(0+(0+(0+(List.length x.2.1.2.2.2.1+0)))):=rfl
 have hz3:zz tRow x.2.2.2.1=(0+(0+(0+(List.length x.2.2.2.1.2.2.2.1+0)))):=rfl
 refine lift_eq (k:=0) fun k _=>(laws_toChange.raw_eq k _).trans ?_
 show laws_toChange.p _=_
 unfold laws_toChange.p
 simp only[toRow_eq x.2.1 (by omega),toRow_eq x.2.2.2.1 (by omega),Option.bind_some]
theorem toChangeS_eq (x:List Change) (h:zz (.slc tChange) x<=1048576):laws_toChangeS.sem (x,())=some (x,()):=by
 have hl:x.length<=1048576:=Nat.le_trans (zz_len (e:=tChange) x) h
 refine lift_eq (k:=x.length+1) fun k hk=>(laws_toChangeS.raw_eq k _).trans ?_
 unfold laws_toChangeS.p
 have hc:0<=(x.length:Int)/\(x.length:Int)<=(x.length:Int)/\(x.length:Int)<=(CAP:Int):=by simp only[CAP];omega
 simp only[hc,and_self,if_true,Int.toNat_natCast]
 exact copy_loop (B:=fun self v=>laws_toChangeS.B0 k self (fun z=>laws_toChangeS.Q0 k (x,()) z) (x,()) v) (xs:=x) (by rw[maxLen_val];omega) (fun i hi acc self ha=>by
  show laws_toChangeS.b0 _ _ _ _=_
  unfold laws_toChangeS.b0
  have hlt:(i:Int) < (x.length:Int):=by omega
  have hlt2:(i:Int) < (acc.length:Int):=by omega
  simp only[hlt,hlt2,decide_true,cond_true,Int.natCast_nonneg,and_self,if_true,Int.toNat_natCast,List.getElem?_eq_getElem hi,List.getElem?_eq_getElem (show i < acc.length by omega),Option.bind_some,toChange_eq x[i] (by have:=zz_mem (e:=tChange) (List.getElem_mem hi);omega)]) (fun acc self=>by
  show laws_toChangeS.b0 _ _ _ _=_
  unfold laws_toChangeS.b0
  simp[laws_toChangeS.Q0,laws_toChangeS.q0]) _ k (by omega)
theorem toInt64S_eq (x:List Int) (h:zz (.slc i64) x<=1048576):laws_toInt64S.sem (x,())=some (x,()):=by
 have hl:x.length<=1048576:=Nat.le_trans (zz_len (e:=i64) x) h
 refine lift_eq (k:=x.length+1) fun k hk=>(laws_toInt64S.raw_eq k _).trans ?_
 unfold laws_toInt64S.p
 have hc:0<=(x.length:Int)/\(x.length:Int)<=(x.length:Int)/\(x.length:Int)<=(CAP:Int):=by simp only[CAP];omega
 simp only[hc,and_self,if_true,Int.toNat_natCast]
 exact copy_loop (B:=fun self v=>laws_toInt64S.B0 k self (fun z=>laws_toInt64S.Q0 k (x,()) z) (x,()) v) (xs:=x) (by rw[maxLen_val];omega) (fun i hi acc self ha=>by
  show laws_toInt64S.b0 _ _ _ _=_
  unfold laws_toInt64S.b0
  have hlt:(i:Int) < (x.length:Int):=by omega
  have hlt2:(i:Int) < (acc.length:Int):=by omega
  simp only[hlt,hlt2,decide_true,cond_true,Int.natCast_nonneg,and_self,if_true,Int.toNat_natCast,List.getElem?_eq_getElem hi,List.getElem?_eq_getElem (show i < acc.length by omega),Option.bind_some]) (fun acc self=>by
  show laws_toInt64S.b0 _ _ _ _=_
  unfold laws_toInt64S.b0
  simp[laws_toInt64S.Q0,laws_toInt64S.q0]) _ k (by omega)
theorem toKey_eq (x:Key) (h:zz tKey x<=1048576):laws_toKey.sem (x,())=some (x,()):=by
 have hz:zz tKey x=(0+(0+0)):=rfl
 refine lift_eq (k:=0) fun k _=>(laws_toKey.raw_eq k _).trans ?_
 show laws_toKey.p _=_
 unfold laws_toKey.p
 rfl
theorem toKeyS_eq (x:List Key) (h:zz (.slc tKey) x<=1048576):laws_toKeyS.sem (x,())=some (x,()):=by
 have hl:x.length<=1048576:=Nat.le_trans (zz_len (e:=tKey) x) h
 refine lift_eq (k:=x.length+1) fun k hk=>(laws_toKeyS.raw_eq k _).trans ?_
 unfold laws_toKeyS.p
 have hc:0<=(x.length:Int)/\(x.length:Int)<=(x.length:Int)/\(x.length:Int)<=(CAP:Int):=by simp only[CAP];omega
 simp only[hc,and_self,if_true,Int.toNat_natCast]
 exact copy_loop (B:=fun self v=>laws_toKeyS.B0 k self (fun z=>laws_toKeyS.Q0 k (x,()) z) (x,()) v) (xs:=x) (by rw[maxLen_val];omega) (fun i hi acc self ha=>by
  show laws_toKeyS.b0 _ _ _ _=_
  unfold laws_toKeyS.b0
  have hlt:(i:Int) < (x.length:Int):=by omega
  have hlt2:(i:Int) < (acc.length:Int):=by omega
  simp only[hlt,hlt2,decide_true,cond_true,Int.natCast_nonneg,and_self,if_true,Int.toNat_natCast,List.getElem?_eq_getElem hi,List.getElem?_eq_getElem (show i < acc.length by omega),Option.bind_some,toKey_eq x[i] (by have:=zz_mem (e:=tKey) (List.getElem_mem hi);omega)]) (fun acc self=>by
  show laws_toKeyS.b0 _ _ _ _=_
  unfold laws_toKeyS.b0
  simp[laws_toKeyS.Q0,laws_toKeyS.q0]) _ k (by omega)
theorem toTx_eq (x:Tx) (h:zz tTx x<=1048576):laws_toTx.sem (x,())=some (x,()):=by
 have hz:zz tTx x=(0+(zz (.slc tChange) x.2.1+(zz (.slc i64) x.2.2.1+(zz (.slc tKey) x.2.2.2.1+0)))):=rfl
 refine lift_eq (k:=0) fun k _=>(laws_toTx.raw_eq k _).trans ?_
 show laws_toTx.p _=_
 unfold laws_toTx.p
 simp only[toChangeS_eq x.2.1 (by omega),toInt64S_eq x.2.2.1 (by omega),toKeyS_eq x.2.2.2.1 (by omega),Option.bind_some]
theorem toTxS_eq (x:List Tx) (h:zz (.slc tTx) x<=1048576):laws_toTxS.sem (x,())=some (x,()):=by
 have hl:x.length<=1048576:=Nat.le_trans (zz_len (e:=tTx) x) h
 refine lift_eq (k:=x.length+1) fun k hk=>(laws_toTxS.raw_eq k _).trans ?_
 unfold laws_toTxS.p
 have hc:0<=(x.length:Int)/\(x.length:Int)<=(x.length:Int)/\(x.length:Int)<=(CAP:Int):=by simp only[CAP];omega
 simp only[hc,and_self,if_true,Int.toNat_natCast]
 exact copy_loop (B:=fun self v=>laws_toTxS.B0 k self (fun z=>laws_toTxS.Q0 k (x,()) z) (x,()) v) (xs:=x) (by rw[maxLen_val];omega) (fun i hi acc self ha=>by
  show laws_toTxS.b0 _ _ _ _=_
  unfold laws_toTxS.b0
  have hlt:(i:Int) < (x.length:Int):=by omega
  have hlt2:(i:Int) < (acc.length:Int):=by omega
  simp only[hlt,hlt2,decide_true,cond_true,Int.natCast_nonneg,and_self,if_true,Int.toNat_natCast,List.getElem?_eq_getElem hi,List.getElem?_eq_getElem (show i < acc.length by omega),Option.bind_some,toTx_eq x[i] (by have:=zz_mem (e:=tTx) (List.getElem_mem hi);omega)]) (fun acc self=>by
  show laws_toTxS.b0 _ _ _ _=_
  unfold laws_toTxS.b0
  simp[laws_toTxS.Q0,laws_toTxS.q0]) _ k (by omega)
theorem toStore_eq (x:Store) (h:zz tStore x<=1048576):laws_toStore.sem (x,())=some (x,()):=by
 have hz:zz tStore x=(0+(zz (.slc (.slc u8)) x.2.1+((zz (.slc u8) x.2.2.1.1+(zz (.slc u8) x.2.2.1.2.1+0))+(zz (.slc tTx) x.2.2.2.1+(0+0))))):=rfl
 have hz2:zz tLog x.2.2.1=(zz (.slc u8) x.2.2.1.1+(zz (.slc u8) x.2.2.1.2.1+0)):=rfl
 refine lift_eq (k:=0) fun k _=>(laws_toStore.raw_eq k _).trans ?_
 show laws_toStore.p _=_
 unfold laws_toStore.p
 simp only[toByteSS_eq x.2.1 (by omega),toLog_eq x.2.2.1 (by omega),toTxS_eq x.2.2.2.1 (by omega),Option.bind_some]
theorem eqByteS_self (x:List UInt8) (h:zz (.slc u8) x<=4611686018427387904):laws_eqByteS.sem (x,x,())=some (true,()):=by
 have hl:x.length<=4611686018427387904:=Nat.le_trans (zz_len (e:=u8) x) h
 refine lift_eq (k:=x.length+1) fun k hk=>(laws_eqByteS.raw_eq k _).trans ?_
 unfold laws_eqByteS.p
 simp only[decide_true,Bool.not_true,cond_false]
 have:=all_loop (B:=fun self v=>laws_eqByteS.B0 k self (fun z=>laws_eqByteS.Q0 k (x,x,()) z) (x,x,()) v) (xs:=x) (ys:=x) (fun _ _=>true) rfl (by rw[maxLen_val];omega) (fun i hi hj self=>by
   show laws_eqByteS.b0 _ _ _ _=_
   unfold laws_eqByteS.b0
   have hlt:(i:Int) < (x.length:Int):=by omega
   simp only[hlt,decide_true,cond_true,Int.natCast_nonneg,if_true,Int.toNat_natCast,List.getElem?_eq_getElem hi,Option.bind_some,Bool.not_true,cond_false]) (fun self=>by
   show laws_eqByteS.b0 _ _ _ _=_
   unfold laws_eqByteS.b0
   simp[laws_eqByteS.Q0,laws_eqByteS.q0]) k (by omega)
 rw[show allB (fun _ _=>true) x x=true by simp[allB]] at this
 exact this
theorem eqByteSS_self (x:List (List UInt8)) (h:zz (.slc (.slc u8)) x<=4611686018427387904):laws_eqByteSS.sem (x,x,())=some (true,()):=by
 have hl:x.length<=4611686018427387904:=Nat.le_trans (zz_len (e:=(.slc u8)) x) h
 refine lift_eq (k:=x.length+1) fun k hk=>(laws_eqByteSS.raw_eq k _).trans ?_
 unfold laws_eqByteSS.p
 simp only[decide_true,Bool.not_true,cond_false]
 have:=all_loop (B:=fun self v=>laws_eqByteSS.B0 k self (fun z=>laws_eqByteSS.Q0 k (x,x,()) z) (x,x,()) v) (xs:=x) (ys:=x) (fun _ _=>true) rfl (by rw[maxLen_val];omega) (fun i hi hj self=>by
   show laws_eqByteSS.b0 _ _ _ _=_
   unfold laws_eqByteSS.b0
   have hlt:(i:Int) < (x.length:Int):=by omega
   simp only[hlt,decide_true,cond_true,Int.natCast_nonneg,if_true,Int.toNat_natCast,List.getElem?_eq_getElem hi,Option.bind_some,Bool.not_true,cond_false,eqByteS_self x[i] (by have:=zz_mem (e:=(.slc u8)) (List.getElem_mem hi);omega)]) (fun self=>by
   show laws_eqByteSS.b0 _ _ _ _=_
   unfold laws_eqByteSS.b0
   simp[laws_eqByteSS.Q0,laws_eqByteSS.q0]) k (by omega)
 rw[show allB (fun _ _=>true) x x=true by simp[allB]] at this
 exact this
theorem eqLog_self (x:Log) (h:zz tLog x<=4611686018427387904):laws_eqLog.sem (x,x,())=some (true,()):=by
 have hz:zz tLog x=(zz (.slc u8) x.1+(zz (.slc u8) x.2.1+0)):=rfl
 refine lift_eq (k:=0) fun k _=>(laws_eqLog.raw_eq k _).trans ?_
 show laws_eqLog.p _=_
 unfold laws_eqLog.p
 have q0:=eqByteS_self x.1 (by omega)
 have q1:=eqByteS_self x.2.1 (by omega)
 simp[q0,q1]
theorem eqRow_self (x:Row) (h:zz tRow x<=4611686018427387904):laws_eqRow.sem (x,x,())=some (true,()):=by
 have hz:zz tRow x=(0+(0+(0+(List.length x.2.2.2.1+0)))):=rfl
 refine lift_eq (k:=0) fun k _=>(laws_eqRow.raw_eq k _).trans ?_
 show laws_eqRow.p _=_
 unfold laws_eqRow.p
 simp[]
theorem eqChange_self (x:Change) (h:zz tChange x<=4611686018427387904):laws_eqChange.sem (x,x,())=some (true,()):=by
 have hz:zz tChange x=(0+((0+(0+(0+(List.length x.2.1.2.2.2.1+0))))+(0+((0+(0+(0+(List.length x.2.2.2.1.2.2.2.1+0))))+0)))):=rfl
 have hz1:zz tRow x.2.1=(0+(0+(0+(List.length x.2.1.2.2.2.1+0)))):=rfl
 have hz3:zz tRow x.2.2.2.1=(0+(0+(0+(List.length x.2.2.2.1.2.2.2.1+0)))):=rfl
 refine lift_eq (k:=0) fun k _=>(laws_eqChange.raw_eq k _).trans ?_
 show laws_eqChange.p _=_
 unfold laws_eqChange.p
 have q0:=eqRow_self x.2.1 (by omega)
 have q1:=eqRow_self x.2.2.2.1 (by omega)
 simp[q0,q1]
theorem eqChangeS_self (x:List Change) (h:zz (.slc tChange) x<=4611686018427387904):laws_eqChangeS.sem (x,x,())=some (true,()):=by
 have hl:x.length<=4611686018427387904:=Nat.le_trans (zz_len (e:=tChange) x) h
 refine lift_eq (k:=x.length+1) fun k hk=>(laws_eqChangeS.raw_eq k _).trans ?_
 unfold laws_eqChangeS.p
 simp only[decide_true,Bool.not_true,cond_false]
 have:=all_loop (B:=fun self v=>laws_eqChangeS.B0 k self (fun z=>laws_eqChangeS.Q0 k (x,x,()) z) (x,x,()) v) (xs:=x) (ys:=x) (fun _ _=>true) rfl (by rw[maxLen_val];omega) (fun i hi hj self=>by
   show laws_eqChangeS.b0 _ _ _ _=_
   unfold laws_eqChangeS.b0
   have hlt:(i:Int) < (x.length:Int):=by omega
   simp only[hlt,decide_true,cond_true,Int.natCast_nonneg,if_true,Int.toNat_natCast,List.getElem?_eq_getElem hi,Option.bind_some,Bool.not_true,cond_false,eqChange_self x[i] (by have:=zz_mem (e:=tChange) (List.getElem_mem hi);omega)]) (fun self=>by
   show laws_eqChangeS.b0 _ _ _ _=_
   unfold laws_eqChangeS.b0
   simp[laws_eqChangeS.Q0,laws_eqChangeS.q0]) k (by omega)
 rw[show allB (fun _ _=>true) x x=true by simp[allB]] at this
 exact this
theorem eqInt64S_self (x:List Int) (h:zz (.slc i64) x<=4611686018427387904):laws_eqInt64S.sem (x,x,())=some (true,()):=by
 have hl:x.length<=4611686018427387904:=Nat.le_trans (zz_len (e:=i64) x) h
 refine lift_eq (k:=x.length+1) fun k hk=>(laws_eqInt64S.raw_eq k _).trans ?_
 unfold laws_eqInt64S.p
 simp only[decide_true,Bool.not_true,cond_false]
 have:=all_loop (B:=fun self v=>laws_eqInt64S.B0 k self (fun z=>laws_eqInt64S.Q0 k (x,x,()) z) (x,x,()) v) (xs:=x) (ys:=x) (fun _ _=>true) rfl (by rw[maxLen_val];omega) (fun i hi hj self=>by
   show laws_eqInt64S.b0 _ _ _ _=_
   unfold laws_eqInt64S.b0
   have hlt:(i:Int) < (x.length:Int):=by omega
   simp only[hlt,decide_true,cond_true,Int.natCast_nonneg,if_true,Int.toNat_natCast,List.getElem?_eq_getElem hi,Option.bind_some,Bool.not_true,cond_false]) (fun self=>by
   show laws_eqInt64S.b0 _ _ _ _=_
   unfold laws_eqInt64S.b0
   simp[laws_eqInt64S.Q0,laws_eqInt64S.q0]) k (by omega)
 rw[show allB (fun _ _=>true) x x=true by simp[allB]] at this
 exact this
theorem eqKey_self (x:Key) (h:zz tKey x<=4611686018427387904):laws_eqKey.sem (x,x,())=some (true,()):=by
 have hz:zz tKey x=(0+(0+0)):=rfl
 refine lift_eq (k:=0) fun k _=>(laws_eqKey.raw_eq k _).trans ?_
 show laws_eqKey.p _=_
 unfold laws_eqKey.p
 simp[]
theorem eqKeyS_self (x:List Key) (h:zz (.slc tKey) x<=4611686018427387904):laws_eqKeyS.sem (x,x,())=some (true,()):=by
 have hl:x.length<=4611686018427387904:=Nat.le_trans (zz_len (e:=tKey) x) h
 refine lift_eq (k:=x.length+1) fun k hk=>(laws_eqKeyS.raw_eq k _).trans ?_
 unfold laws_eqKeyS.p
 simp only[decide_true,Bool.not_true,cond_false]
 have:=all_loop (B:=fun self v=>laws_eqKeyS.B0 k self (fun z=>laws_eqKeyS.Q0 k (x,x,()) z) (x,x,()) v) (xs:=x) (ys:=x) (fun _ _=>true) rfl (by rw[maxLen_val];omega) (fun i hi hj self=>by
   show laws_eqKeyS.b0 _ _ _ _=_
   unfold laws_eqKeyS.b0
   have hlt:(i:Int) < (x.length:Int):=by omega
   simp only[hlt,decide_true,cond_true,Int.natCast_nonneg,if_true,Int.toNat_natCast,List.getElem?_eq_getElem hi,Option.bind_some,Bool.not_true,cond_false,eqKey_self x[i] (by have:=zz_mem (e:=tKey) (List.getElem_mem hi);omega)]) (fun self=>by
   show laws_eqKeyS.b0 _ _ _ _=_
   unfold laws_eqKeyS.b0
   simp[laws_eqKeyS.Q0,laws_eqKeyS.q0]) k (by omega)
 rw[show allB (fun _ _=>true) x x=true by simp[allB]] at this
 exact this
theorem eqTx_self (x:Tx) (h:zz tTx x<=4611686018427387904):laws_eqTx.sem (x,x,())=some (true,()):=by
 have hz:zz tTx x=(0+(zz (.slc tChange) x.2.1+(zz (.slc i64) x.2.2.1+(zz (.slc tKey) x.2.2.2.1+0)))):=rfl
 refine lift_eq (k:=0) fun k _=>(laws_eqTx.raw_eq k _).trans ?_
 show laws_eqTx.p _=_
 unfold laws_eqTx.p
 have q0:=eqChangeS_self x.2.1 (by omega)
 have q1:=eqInt64S_self x.2.2.1 (by omega)
 have q2:=eqKeyS_self x.2.2.2.1 (by omega)
 simp[q0,q1,q2]
theorem eqTxS_self (x:List Tx) (h:zz (.slc tTx) x<=4611686018427387904):laws_eqTxS.sem (x,x,())=some (true,()):=by
 have hl:x.length<=4611686018427387904:=Nat.le_trans (zz_len (e:=tTx) x) h
 refine lift_eq (k:=x.length+1) fun k hk=>(laws_eqTxS.raw_eq k _).trans ?_
 unfold laws_eqTxS.p
 simp only[decide_true,Bool.not_true,cond_false]
 have:=all_loop (B:=fun self v=>laws_eqTxS.B0 k self (fun z=>laws_eqTxS.Q0 k (x,x,()) z) (x,x,()) v) (xs:=x) (ys:=x) (fun _ _=>true) rfl (by rw[maxLen_val];omega) (fun i hi hj self=>by
   show laws_eqTxS.b0 _ _ _ _=_
   unfold laws_eqTxS.b0
   have hlt:(i:Int) < (x.length:Int):=by omega
   simp only[hlt,decide_true,cond_true,Int.natCast_nonneg,if_true,Int.toNat_natCast,List.getElem?_eq_getElem hi,Option.bind_some,Bool.not_true,cond_false,eqTx_self x[i] (by have:=zz_mem (e:=tTx) (List.getElem_mem hi);omega)]) (fun self=>by
   show laws_eqTxS.b0 _ _ _ _=_
   unfold laws_eqTxS.b0
   simp[laws_eqTxS.Q0,laws_eqTxS.q0]) k (by omega)
 rw[show allB (fun _ _=>true) x x=true by simp[allB]] at this
 exact this
theorem eqStore_self (x:Store) (h:zz tStore x<=4611686018427387904):laws_eqStore.sem (x,x,())=some (true,()):=by
 have hz:zz tStore x=(0+(zz (.slc (.slc u8)) x.2.1+((zz (.slc u8) x.2.2.1.1+(zz (.slc u8) x.2.2.1.2.1+0))+(zz (.slc tTx) x.2.2.2.1+(0+0))))):=rfl
 have hz2:zz tLog x.2.2.1=(zz (.slc u8) x.2.2.1.1+(zz (.slc u8) x.2.2.1.2.1+0)):=rfl
 refine lift_eq (k:=0) fun k _=>(laws_eqStore.raw_eq k _).trans ?_
 show laws_eqStore.p _=_
 unfold laws_eqStore.p
 have q0:=eqByteSS_self x.2.1 (by omega)
 have q1:=eqLog_self x.2.2.1 (by omega)
 have q2:=eqTxS_self x.2.2.2.1 (by omega)
 simp[q0,q1,q2]
theorem szRowS_eq (x:List Row) (n:Int) (hx:okD (.slc tRow) x) (h0:0<=n) (h1:n<=1048576):laws_szRowS.sem (x,n,())=some (lft n (zz (.slc tRow) x),()):=by
 obtain ⟨hl,hel⟩:=hx
 have hl':=hl
 rw[maxLen_val] at hl'
 have hl':List.length x<=9223372036854775807:=hl'
 have hw:w64 (n - (List.length x:Int))=n - (List.length x:Int):=w64_in (by omega)
 have hz:zz (.slc tRow) x=List.length x+sumW (zz tRow) x:=rfl
 by_cases hc:n - (List.length x:Int) < 0
 ·have e1:lft n (zz (.slc tRow) x)=-1:=if_neg (by omega)
  rw[e1]
  refine lift_eq (k:=0) fun k _=>(laws_szRowS.raw_eq k _).trans ?_
  unfold laws_szRowS.p
  simp only[hw,hc,decide_true,cond_true]
  try rfl
 ·have e1:lft n (zz (.slc tRow) x)=lft (n - (List.length x:Int)) (sumW (zz tRow) x):=by rw[hz,lft_add (by omega)]
  rw[e1]
  refine lift_eq (k:=List.length x+1) fun k hk=>(laws_szRowS.raw_eq k _).trans ?_
  unfold laws_szRowS.p
  simp only[hw,hc,decide_false,cond_false]
  exact sz_loop (B:=fun self v=>laws_szRowS.B0 0 self (fun z=>laws_szRowS.Q0 0 (x,n,()) z) (x,n,()) v) (xs:=x) hl (zz tRow) (fun i hi m self hm0 hm1=>by
    show laws_szRowS.b0 _ _ _ _=_
    unfold laws_szRowS.b0
    have hlt:(i:Int) < (List.length x:Int):=by omega
    simp only[hlt,decide_true,cond_true,Int.natCast_nonneg,if_true,Int.toNat_natCast,List.getElem?_eq_getElem hi,Option.bind_some,szRow_eq x[i] m (hel _ (List.getElem_mem hi)) hm0 hm1]
    by_cases hs:lft m (zz tRow x[i]) < 0 <;> simp[hs]) (fun m self=>by
    show laws_szRowS.b0 _ _ _ _=_
    unfold laws_szRowS.b0
    simp[laws_szRowS.Q0,laws_szRowS.q0]) _ (by omega) (by omega) k (by omega)
theorem szPlain_eq (x:Plain) (n:Int) (hx:okD tPlain x) (h0:0<=n) (h1:n<=1048576):laws_szPlain.sem (x,n,())=some (lft n (zz tPlain x),()):=by
 have hz:zz tPlain x=(zz (.slc tRow) x.1+(zz (.slc tTx) x.2.1+(0+0))):=rfl
 refine lift_eq (k:=0) fun k _=>(laws_szPlain.raw_eq k _).trans ?_
 show laws_szPlain.p _=_
 unfold laws_szPlain.p
 simp only[szRowS_eq x.1 (n) hx.1 (by omega) (by omega),Option.bind_some]
 by_cases hc:((zz (.slc tRow) x.1:Nat):Int)<=n
 rotate_left
 ·have e1:lft (n) (zz (.slc tRow) x.1)=-1:=if_neg hc
  have e2:lft n (zz tPlain x)=-1:=if_neg (by omega)
  rw[e1,e2];rfl
 have e1:lft (n) (zz (.slc tRow) x.1)=n - ((zz (.slc tRow) x.1:Nat):Int):=if_pos hc
 have n1:¬ (n - ((zz (.slc tRow) x.1:Nat):Int) < 0):=by omega
 simp only[e1,n1,decide_false,cond_false]
 clear e1 n1
 simp only[szTxS_eq x.2.1 ((n - ((zz (.slc tRow) x.1:Nat):Int))) hx.2.1 (by omega) (by omega),Option.bind_some]
 by_cases hc:((zz (.slc tTx) x.2.1:Nat):Int)<=(n - ((zz (.slc tRow) x.1:Nat):Int))
 rotate_left
 ·have e1:lft ((n - ((zz (.slc tRow) x.1:Nat):Int))) (zz (.slc tTx) x.2.1)=-1:=if_neg hc
  have e2:lft n (zz tPlain x)=-1:=if_neg (by omega)
  rw[e1,e2];rfl
 have e1:lft ((n - ((zz (.slc tRow) x.1:Nat):Int))) (zz (.slc tTx) x.2.1)=(n - ((zz (.slc tRow) x.1:Nat):Int)) - ((zz (.slc tTx) x.2.1:Nat):Int):=if_pos hc
 have n1:¬ ((n - ((zz (.slc tRow) x.1:Nat):Int)) - ((zz (.slc tTx) x.2.1:Nat):Int) < 0):=by omega
 simp only[e1,n1,decide_false,cond_false]
 clear e1 n1
 have e2:lft n (zz tPlain x)=((n - ((zz (.slc tRow) x.1:Nat):Int)) - ((zz (.slc tTx) x.2.1:Nat):Int)):=by unfold lft;rw[if_pos (by omega)];omega
 rw[e2]
theorem toRowS_eq (x:List Row) (h:zz (.slc tRow) x<=1048576):laws_toRowS.sem (x,())=some (x,()):=by
 have hl:x.length<=1048576:=Nat.le_trans (zz_len (e:=tRow) x) h
 refine lift_eq (k:=x.length+1) fun k hk=>(laws_toRowS.raw_eq k _).trans ?_
 unfold laws_toRowS.p
 have hc:0<=(x.length:Int)/\(x.length:Int)<=(x.length:Int)/\(x.length:Int)<=(CAP:Int):=by simp only[CAP];omega
 simp only[hc,and_self,if_true,Int.toNat_natCast]
 exact copy_loop (B:=fun self v=>laws_toRowS.B0 k self (fun z=>laws_toRowS.Q0 k (x,()) z) (x,()) v) (xs:=x) (by rw[maxLen_val];omega) (fun i hi acc self ha=>by
  show laws_toRowS.b0 _ _ _ _=_
  unfold laws_toRowS.b0
  have hlt:(i:Int) < (x.length:Int):=by omega
  have hlt2:(i:Int) < (acc.length:Int):=by omega
  simp only[hlt,hlt2,decide_true,cond_true,Int.natCast_nonneg,and_self,if_true,Int.toNat_natCast,List.getElem?_eq_getElem hi,List.getElem?_eq_getElem (show i < acc.length by omega),Option.bind_some,toRow_eq x[i] (by have:=zz_mem (e:=tRow) (List.getElem_mem hi);omega)]) (fun acc self=>by
  show laws_toRowS.b0 _ _ _ _=_
  unfold laws_toRowS.b0
  simp[laws_toRowS.Q0,laws_toRowS.q0]) _ k (by omega)
theorem toPlain_eq (x:Plain) (h:zz tPlain x<=1048576):laws_toPlain.sem (x,())=some (x,()):=by
 have hz:zz tPlain x=(zz (.slc tRow) x.1+(zz (.slc tTx) x.2.1+(0+0))):=rfl
 refine lift_eq (k:=0) fun k _=>(laws_toPlain.raw_eq k _).trans ?_
 show laws_toPlain.p _=_
 unfold laws_toPlain.p
 simp only[toRowS_eq x.1 (by omega),toTxS_eq x.2.1 (by omega),Option.bind_some]
theorem eqRowS_self (x:List Row) (h:zz (.slc tRow) x<=4611686018427387904):laws_eqRowS.sem (x,x,())=some (true,()):=by
 have hl:x.length<=4611686018427387904:=Nat.le_trans (zz_len (e:=tRow) x) h
 refine lift_eq (k:=x.length+1) fun k hk=>(laws_eqRowS.raw_eq k _).trans ?_
 unfold laws_eqRowS.p
 simp only[decide_true,Bool.not_true,cond_false]
 have:=all_loop (B:=fun self v=>laws_eqRowS.B0 k self (fun z=>laws_eqRowS.Q0 k (x,x,()) z) (x,x,()) v) (xs:=x) (ys:=x) (fun _ _=>true) rfl (by rw[maxLen_val];omega) (fun i hi hj self=>by
   show laws_eqRowS.b0 _ _ _ _=_
   unfold laws_eqRowS.b0
   have hlt:(i:Int) < (x.length:Int):=by omega
   simp only[hlt,decide_true,cond_true,Int.natCast_nonneg,if_true,Int.toNat_natCast,List.getElem?_eq_getElem hi,Option.bind_some,Bool.not_true,cond_false,eqRow_self x[i] (by have:=zz_mem (e:=tRow) (List.getElem_mem hi);omega)]) (fun self=>by
   show laws_eqRowS.b0 _ _ _ _=_
   unfold laws_eqRowS.b0
   simp[laws_eqRowS.Q0,laws_eqRowS.q0]) k (by omega)
 rw[show allB (fun _ _=>true) x x=true by simp[allB]] at this
 exact this
theorem eqPlain_self (x:Plain) (h:zz tPlain x<=4611686018427387904):laws_eqPlain.sem (x,x,())=some (true,()):=by
 have hz:zz tPlain x=(zz (.slc tRow) x.1+(zz (.slc tTx) x.2.1+(0+0))):=rfl
 refine lift_eq (k:=0) fun k _=>(laws_eqPlain.raw_eq k _).trans ?_
 show laws_eqPlain.p _=_
 unfold laws_eqPlain.p
 have q0:=eqRowS_self x.1 (by omega)
 have q1:=eqTxS_self x.2.1 (by omega)
 simp[q0,q1]
end OT
set_option linter.unusedVariables false
set_option linter.unusedSimpArgs false
namespace OT
open Go
theorem specIn_eq (a b c:Int):spec_l1In.sem (a,b,c,())=some (decide (b<=a)&&decide (a<=c),()):=by
 refine lift_eq (k:=0) fun k _=>(spec_l1In.raw_eq k _).trans ?_
 show spec_l1In.p _=_
 unfold spec_l1In.p
 by_cases h:b<=a <;> simp[h]
theorem implIn_eq (a b c:Int):impl_in.sem (a,b,c,())=some (decide (b<=a)&&decide (a<=c),()):=by
 refine lift_eq (k:=0) fun k _=>(impl_in.raw_eq k _).trans ?_
 show impl_in.p _=_
 unfold impl_in.p
 by_cases h:b<=a <;> simp[h]
theorem isTx_eq (a:Int):impl_isTx.sem (a,())=some (decide (1<=a)&&decide (a<=99),()):=by
 refine lift_eq (k:=0) fun k _=>(impl_isTx.raw_eq k _).trans ?_
 show impl_isTx.p _=_
 unfold impl_isTx.p
 simp[implIn_eq]
def inB (a b c:Int):Bool:=decide (b<=a)&&decide (a<=c)
theorem implCopied_eq (s:List UInt8) (h:s.length<=200000000000):impl_copied.sem (s,())=some (s,()):=by
 refine lift_eq (k:=0) fun k _=>(impl_copied.raw_eq k _).trans ?_
 show impl_copied.p _=_
 unfold impl_copied.p
 have:([]:List UInt8).length+s.length<=CAP:=cap_ok (by simpa using h)
 rw[if_pos this,List.nil_append]
theorem specCopy_eq (s:List UInt8) (h:s.length<=200000000000):spec_l2Copy.sem (s,())=some (s,()):=by
 refine lift_eq (k:=0) fun k _=>(spec_l2Copy.raw_eq k _).trans ?_
 show spec_l2Copy.p _=_
 unfold spec_l2Copy.p
 have:([]:List UInt8).length+s.length<=CAP:=cap_ok (by simpa using h)
 rw[if_pos this,List.nil_append]
theorem forI_fold {S O α:Type} {g:S->α->S} {fin:S->O}:∀ (xs:List α) (i:Nat) (s:S),forI (fun _ s x=>.inr (g s x)) fin i xs s=fin (xs.foldl g s)
 | [],_,_=>rfl
 | x::xs,i,s=>by simp only[forI,List.foldl_cons];exact forI_fold xs _ _
theorem fold_self {α:Type}:∀ (xs s:List α),xs.foldl (fun s x=>s++[x]) s=s++xs
 | [],s=>by simp
 | x::xs,s=>by rw[List.foldl_cons,fold_self];simp
abbrev Pages:Type:=List (List UInt8)
def gp (ps:Pages):Prop:=ps.length<=12/\∀ p ∈ ps,p.length=64
def newF:List UInt8:=((List.replicate 64 (0:UInt8)).set 0 0).set 1 64
theorem newF_len:newF.length=64:=by simp[newF]
theorem specCopies_eq (ps:Pages) (h:gp ps):spec_l7Copy.sem (ps,())=some (ps,()):=by
 obtain ⟨h1,h2⟩:=h
 refine lift_eq (k:=14) fun k hk=>(spec_l7Copy.raw_eq k _).trans ?_
 have:=for_loop (B:=fun self v=>spec_l7Copy.B0 0 self (fun z=>spec_l7Copy.Q0 0 (ps,()) z) (ps,()) v) ps (fun (s:Pages) (i:Int)=>(s,i)) (fun _ s x=>.inr (s++[x])) (fun s=>(s,())) (fun i s=>s.length=i) (by rw[maxLen_val];omega)
  (fun i hi s self hI=>by
   show spec_l7Copy.b0 _ _ _ _=_
   unfold spec_l7Copy.b0
   have hlt:(i:Int) < (ps.length:Int):=by omega
   have hx:=h2 ps[i] (List.getElem_mem hi)
   simp only[hlt,decide_true,cond_true,Int.natCast_nonneg,if_true,Int.toNat_natCast,List.getElem?_eq_getElem hi,Option.bind_some]
   rw[specCopy_eq _ (by omega)]
   have hc:s.length+[ps[i]].length<=CAP:=cap_ok (by simp only[List.length_cons,List.length_nil];omega)
   simp only[Option.bind_some,hc,if_true])
  (fun i hi s s' hI hs=>by injection hs with hs;rw[<-hs];simp[hI]) (fun s self hI=>by
   show spec_l7Copy.b0 _ _ _ _=_
   unfold spec_l7Copy.b0
   simp only[Int.lt_irrefl,decide_false,cond_false]
   rfl) [] rfl k (by omega)
 rw[forI_fold,fold_self] at this
 exact this
end OT
set_option linter.unusedVariables false
set_option linter.unusedSimpArgs false
namespace OT
open Go
def letter (c:UInt8):Bool:=!decide ((c.toNat:Int) < 97)&&!decide ((122:Int) < (c.toNat:Int))
def textB (s:List UInt8):Bool:=s.all letter&&decide (s.length<=8)
def rowF (x:Row):Int:=if inB x.1 0 3&&(inB x.2.1 1 99&&inB x.2.2.1 0 999) then (if textB x.2.2.2.1 then 0 else 5) else 3
theorem len8 (s:List UInt8):decide ((s.length:Int)<=8)=decide (s.length<=8):=by
 by_cases h:s.length<=8
 ·have:(s.length:Int)<=8:=by omega
  simp[h,this]
 ·have:¬ (s.length:Int)<=8:=by omega
  simp[h,this]
theorem specText_eq (s:List UInt8) (h:s.length<=maxLen):spec_l1Text.sem (s,())=some (textB s,()):=by
 refine lift_eq (k:=s.length+1) fun k hk=>(spec_l1Text.raw_eq k _).trans ?_
 have:=for_loop (B:=fun self v=>spec_l1Text.B0 0 self (fun z=>spec_l1Text.Q0 0 (s,()) z) (s,()) v) s (fun (_:Unit) (i:Int)=>i) (fun _ _ x=>if letter x then .inr () else .inl (false,())) (fun _=>(decide (s.length<=8),())) (fun _ _=>True) h
  (fun i hi _ self _=>by
   show spec_l1Text.b0 _ _ _ _=_
   unfold spec_l1Text.b0
   have hlt:(i:Int) < (s.length:Int):=by omega
   simp only[hlt,decide_true,cond_true,Int.natCast_nonneg,if_true,Int.toNat_natCast,List.getElem?_eq_getElem hi,Option.bind_some]
   unfold letter
   by_cases h1:((s[i].toNat:Int) < 97) <;> by_cases h2:((122:Int) < (s[i].toNat:Int)) <;> simp[h1,h2]) (fun _ _ _ _ _ _=>trivial) (fun _ self _=>by
   show spec_l1Text.b0 _ _ _ _=_
   unfold spec_l1Text.b0
   simp[spec_l1Text.Q0,spec_l1Text.q0,len8]) () trivial k (by omega)
 refine this.trans ?_
 rw[forI_check letter (false,()) (fun _=>(decide (s.length<=8),()))]
 unfold textB
 cases s.all letter <;> rfl
theorem specRow_eq (x:Row) (h:List.length x.2.2.2.1<=maxLen):spec_l1Fault.sem (x,())=some (rowF x,()):=by
 refine lift_eq (k:=0) fun k _=>(spec_l1Fault.raw_eq k _).trans ?_
 show spec_l1Fault.p _=_
 unfold spec_l1Fault.p rowF inB
 simp only[specIn_eq,specText_eq _ h,Option.bind_some]
 cases decide ((0:Int)<=x.1) <;> cases decide (x.1<=3) <;> cases decide ((1:Int)<=x.2.1) <;> cases decide (x.2.1<=99) <;> cases decide ((0:Int)<=x.2.2.1) <;> cases decide (x.2.2.1<=999) <;> cases textB x.2.2.2.1 <;> rfl
theorem implRow_eq (x:Row) (h:List.length x.2.2.2.1<=maxLen):impl_RowFault.sem (x,())=some (rowF x,()):=by
 refine lift_eq (k:=List.length x.2.2.2.1+1) fun k hk=>(impl_RowFault.raw_eq k _).trans ?_
 have:=for_loop (B:=fun self v=>impl_RowFault.B0 0 self (fun z=>impl_RowFault.Q0 0 (x,()) z) (x,()) v) x.2.2.2.1 (fun (_:Unit) (i:Int)=>i) (fun _ _ c=>if letter c then .inr () else .inl (5,())) (fun _=>(0,())) (fun _ _=>True) h
  (fun i hi _ self _=>by
   show impl_RowFault.b0 _ _ _ _=_
   unfold impl_RowFault.b0
   have hlt:(i:Int) < (List.length x.2.2.2.1:Int):=by omega
   simp only[hlt,decide_true,cond_true,Int.natCast_nonneg,if_true,Int.toNat_natCast,List.getElem?_eq_getElem hi,Option.bind_some]
   unfold letter
   by_cases h1:(((x.2.2.2.1)[i].toNat:Int) < 97) <;> by_cases h2:((122:Int) < ((x.2.2.2.1)[i].toNat:Int)) <;> simp[h1,h2]) (fun _ _ _ _ _ _=>trivial) (fun _ self _=>by
   show impl_RowFault.b0 _ _ _ _=_
   unfold impl_RowFault.b0
   simp[impl_RowFault.Q0,impl_RowFault.q0]) () trivial k (by omega)
 rw[forI_check letter (5,()) (fun _=>(0,()))] at this
 have this:impl_RowFault.r0 k (x,()) 0=_:=this
 unfold impl_RowFault.p rowF inB textB
 simp only[implIn_eq,this,Option.bind_some]
 have h8:decide ((8:Int) < (List.length x.2.2.2.1:Int))=!decide (List.length x.2.2.2.1<=8):=by
  by_cases hc:List.length x.2.2.2.1<=8
  ·have:¬ (8:Int) < (List.length x.2.2.2.1:Int):=by omega
   simp[hc,this]
  ·have:(8:Int) < (List.length x.2.2.2.1:Int):=by omega
   simp[hc,this]
 rw[h8]
 cases decide ((0:Int)<=x.1) <;> cases decide (x.1<=3) <;> cases decide ((1:Int)<=x.2.1) <;> cases decide (x.2.1<=99) <;> cases decide ((0:Int)<=x.2.2.1) <;> cases decide (x.2.2.1<=999) <;> cases decide (List.length x.2.2.2.1<=8) <;> cases (x.2.2.2.1).all letter <;> rfl
def rl (x:Row):Prop:=List.length x.2.2.2.1<=maxLen
def cl (c:Change):Prop:=rl c.2.1/\rl c.2.2.2.1
def sameKey (a b:Row):Bool:=decide (a.1=b.1)&&decide (a.2.1=b.2.1)
def befB (a b:Int×Int):Bool:=decide (a.1 < b.1)||(decide (a.1=b.1)&&decide (a.2 < b.2))
def chF (c:Change):Int:=if (!c.1&&!c.2.2.1)||(c.1&&c.2.2.1&&!sameKey c.2.1 c.2.2.2.1) then 1 else if c.1&&!decide (rowF c.2.1=0) then rowF c.2.1 else if c.2.2.1 then rowF c.2.2.2.1 else 0
def chS (c:Change):Int:=if chF c=0 then (if c.1&&c.2.2.1&&Ty.eq tRow c.2.1 c.2.2.2.1 then 1 else 0) else chF c
def ck (c:Change):Int×Int:=if c.2.2.1 then (c.2.2.2.1.1,c.2.2.2.1.2.1) else (c.2.1.1,c.2.1.2.1)
theorem specChange_eq (c:Change) (h:cl c):spec_l6Change.sem (c,())=some (chF c,()):=by
 refine lift_eq (k:=0) fun k _=>(spec_l6Change.raw_eq k _).trans ?_
 show spec_l6Change.p _=_
 unfold spec_l6Change.p chF sameKey
 simp only[specRow_eq _ h.1,specRow_eq _ h.2,Option.bind_some]
 cases c.1 <;> cases c.2.2.1 <;> by_cases h1:c.2.1.1=c.2.2.2.1.1 <;> by_cases h2:c.2.1.2.1=c.2.2.2.1.2.1 <;> by_cases h3:rowF c.2.1=0 <;> simp[h1,h2,h3]
theorem isBefore_eq (a b:Row):impl_IsBefore.sem (a,b,())=some (befB (a.1,a.2.1) (b.1,b.2.1),()):=by
 refine lift_eq (k:=0) fun k _=>(impl_IsBefore.raw_eq k _).trans ?_
 show impl_IsBefore.p _=_
 unfold impl_IsBefore.p befB
 by_cases h1:a.1 < b.1 <;> by_cases h2:a.1=b.1 <;> simp[h1,h2]
theorem order_eq (a b:Row):impl_order.sem (a,b,())=some (if befB (a.1,a.2.1) (b.1,b.2.1) then -1 else if befB (b.1,b.2.1) (a.1,a.2.1) then 1 else 0,()):=by
 refine lift_eq (k:=0) fun k _=>(impl_order.raw_eq k _).trans ?_
 show impl_order.p _=_
 unfold impl_order.p
 simp only[isBefore_eq,Option.bind_some]
 cases befB (a.1,a.2.1) (b.1,b.2.1) <;> cases befB (b.1,b.2.1) (a.1,a.2.1) <;> rfl
theorem order_zero (a b:Row):decide ((if befB (a.1,a.2.1) (b.1,b.2.1) then (-1:Int) else if befB (b.1,b.2.1) (a.1,a.2.1) then 1 else 0)=0)=sameKey a b:=by
 unfold befB sameKey
 by_cases h1:a.1 < b.1
 ·have:¬ a.1=b.1:=by omega
  simp[h1,this]
 ·by_cases h2:a.1=b.1
  ·by_cases h3:a.2.1 < b.2.1
   ·have:¬ a.2.1=b.2.1:=by omega
    simp[h2,h3,this]
   ·by_cases h4:b.2.1 < a.2.1
    ·have:¬ a.2.1=b.2.1:=by omega
     simp[h2,h3,h4,this]
    ·have:a.2.1=b.2.1:=by omega
     simp[h2,this]
  ·have:b.1 < a.1:=by omega
   simp[h1,h2,this]
theorem implChange_eq (c:Change) (h:cl c):impl_changeFault.sem (c,())=some (chF c,()):=by
 refine lift_eq (k:=0) fun k _=>(impl_changeFault.raw_eq k _).trans ?_
 show impl_changeFault.p _=_
 unfold impl_changeFault.p chF
 simp only[implRow_eq _ h.1,implRow_eq _ h.2,order_eq,Option.bind_some,order_zero]
 cases c.1 <;> cases c.2.2.1 <;> cases sameKey c.2.1 c.2.2.2.1 <;> by_cases h3:rowF c.2.1=0 <;> simp[h3]
theorem specChangeS_eq (c:Change) (h:cl c):spec_l9Change.sem (c,())=some (chS c,()):=by
 refine lift_eq (k:=0) fun k _=>(spec_l9Change.raw_eq k _).trans ?_
 show spec_l9Change.p _=_
 unfold spec_l9Change.p chS
 simp only[specChange_eq c h,Option.bind_some]
 by_cases h1:chF c=0
 ·simp only[h1,decide_true,Bool.not_true,cond_false,if_true]
  cases c.1 <;> cases c.2.2.1 <;> cases Ty.eq tRow c.2.1 c.2.2.2.1 <;> rfl
 ·simp[h1]
theorem single_eq (c:Change) (h:cl c):impl_singleFault.sem (c,())=some (chS c,()):=by
 refine lift_eq (k:=0) fun k _=>(impl_singleFault.raw_eq k _).trans ?_
 show impl_singleFault.p _=_
 unfold impl_singleFault.p chS
 simp only[implChange_eq c h,Option.bind_some]
 by_cases h1:chF c=0
 ·simp only[h1,decide_true,Bool.not_true,cond_false,if_true]
  cases c.1 <;> cases c.2.2.1 <;> cases Ty.eq tRow c.2.1 c.2.2.2.1 <;> rfl
 ·simp[h1]
theorem specKey_eq (c:Change):spec_l6Key.sem (c,())=some ((ck c).1,(ck c).2,()):=by
 refine lift_eq (k:=0) fun k _=>(spec_l6Key.raw_eq k _).trans ?_
 show spec_l6Key.p _=_
 unfold spec_l6Key.p ck
 cases c.2.2.1 <;> rfl
def keyRow (c:Change):Row:=if c.2.2.1 then c.2.2.2.1 else c.2.1
theorem keyRow_ck (c:Change):((keyRow c).1,(keyRow c).2.1)=ck c:=by unfold keyRow ck;cases c.2.2.1 <;> rfl
theorem implKey_eq (c:Change):impl_Change_key.sem (c,())=some (keyRow c,()):=by
 refine lift_eq (k:=0) fun k _=>(impl_Change_key.raw_eq k _).trans ?_
 show impl_Change_key.p _=_
 unfold impl_Change_key.p keyRow
 cases c.2.2.1 <;> rfl
theorem len60 (n:Nat) (m:Nat):decide ((m:Int) < (n:Int))=decide (m < n):=by
 by_cases h:m < n
 ·have:(m:Int) < (n:Int):=by omega
  simp[h,this]
 ·have:¬ (m:Int) < (n:Int):=by omega
  simp[h,this]
theorem wprev {i:Nat} (hi:0 < i) (h:i<=maxLen):w64 ((i:Int) - 1)=((i - 1:Nat):Int):=by
 rw[maxLen_val] at h
 rw[w64_in (by omega)];omega
theorem rl_ok {x:Row} (h:okD tRow x):rl x:=h.2.2.2.1
theorem cl_ok {c:Change} (h:okD tChange c):cl c:=⟨rl_ok h.2.1,rl_ok h.2.2.2.1⟩
end OT
