/- The proof's parts, merged: Printed by gen.py, a program of this claim  what each Go function computes.. No conditions but those that each states. -/
import Derived.Test.YtledflocbohofaaGreatSe
set_option maxRecDepth 100000
set_option linter.unusedVariables false
namespace OT
open Go Go.Proofs.Tryz
namespace fF
abbrev Arg:Type:=(List UInt8)×Unit
abbrev Out:Type:=aM×Int×Unit
abbrev ps:PQ:=[(.ro,(.U u8))]
noncomputable def D:FD:={ fn:=f170,tl:=aK,ps:=ps,rs:=[(bV,(ao bV)),(i64,(ax i64))],gl:=[(135,eh.D.sig),(138,bG.D.sig),(159,eX.D.sig),(238,cr.D.sig)],lv:=[(7,[2,4,5,6,7,52,53])],lx:=[(0,[2,4,5,6,7])],od:=[(4,[0,1,2,3,4,5,6,7,8,9,10,11,12,13,14]),(11,[0,1,2,3,4,5,6,7,8,9,10,11,12,13,14,15,16,17,18,19,20])] }
noncomputable def ab (a:Arg):Option Out:=@lift Out fun k=>D.W k a
noncomputable def T0 (a1:Arg) (nf:List UInt8) (pG:Int) (rX:Int) (gJ:aM×Int×Int):St:={ n:=123,sl:=[(2,.box bV (ao bV) [] ((0:Int),(0:Int),(0:Int),([]:List cP),())),(4,.val (.U u8) nf),(5,.box bV (ao bV) [] gJ.1),(6,.val i64 gJ.2.1),(7,.val i64 pG),(52,.val i64 rX),(53,.val i64 gJ.2.2)],vr:=[],av:=[] }
noncomputable def b0 (self:(aM×Int×Int)->Option Out) (e0:(aM×Int)->Option Out) (a1:Arg) (nf:List UInt8) (pG:Int) (rX:Int) (gJ:aM×Int×Int):Option Out:=bif decide (gJ.2.2 < rX) then (bif decide (pG < ae (gJ.2.1+(2:Int))) then (some (((0:Int),(0:Int),(0:Int),([]:List cP),()),(0:Int),())) else if 0<=ae (gJ.2.1+(1:Int)) then ((nf[(ae (gJ.2.1+(1:Int))).toNat]?).bind fun C8=>bif decide (pG < ae ((ae (gJ.2.1+(2:Int)))+(ae (C8.toNat:Int)))) then (some (((0:Int),(0:Int),(0:Int),([]:List cP),()),(0:Int),())) else if 0<=ae (gJ.2.1+(1:Int)) then ((nf[(ae (gJ.2.1+(1:Int))).toNat]?).bind fun vN=>if 0<=gJ.2.1 then ((nf[gJ.2.1.toNat]?).bind fun zS=>if 0<=ae (gJ.2.1+(2:Int))/\ae (gJ.2.1+(2:Int))<=ae ((ae (gJ.2.1+(2:Int)))+(ae (vN.toNat:Int)))/\ae ((ae (gJ.2.1+(2:Int)))+(ae (vN.toNat:Int)))<=(nf.length:Int) then ((eX.ab ((nf.take (ae ((ae (gJ.2.1+(2:Int)))+(ae (vN.toNat:Int)))).toNat).drop (ae (gJ.2.1+(2:Int))).toNat,())).bind fun Ow=>if gJ.1.2.2.2.1.length+[(ae (zS.toNat:Int),Ow.1,())].length<=bf then (let C9:=gJ.1.2.2.2.1++[(ae (zS.toNat:Int),Ow.1,())];self ((gJ.1.1,gJ.1.2.1,gJ.1.2.2.1,C9,gJ.1.2.2.2.2),ae (gJ.2.1+(ae ((2:Int)+(ae (vN.toNat:Int))))),ae (gJ.2.2+(1:Int)))) else none) else none) else none) else none) else none) else e0 (gJ.1,gJ.2.1)
noncomputable abbrev B0 (_:Nat):=b0
noncomputable def q0 (a1:Arg) (nf:List UInt8) (pG:Int) (rX:Int) (GP:(aM×Int)):Option Out:=bif !decide (GP.2=pG) then (some (((0:Int),(0:Int),(0:Int),([]:List cP),()),(0:Int),())) else (eh.ab (GP.1,())).bind fun RG=>bif !decide (RG.1=(0:Int)) then (some (((0:Int),(0:Int),(0:Int),([]:List cP),()),(0:Int),())) else (cr.ab (GP.1,())).bind fun GQ=>(bG.ab (GQ.1,nf,())).bind fun RH=>bif !RH.1 then (some (((0:Int),(0:Int),(0:Int),([]:List cP),()),(0:Int),())) else some (GP.1,(nf.length:Int),())
noncomputable abbrev Q0 (_:Nat):=q0
noncomputable def s0 (k:Nat) (a1:Arg):(List UInt8)->Int->Int->(aM×Int×Int)->Option Out:=fun nf pG rX=>fun gJ=>D.L k [1,1,1,1,1,0,1,0,0] [2,4,5,6,7,52,53] [] (af 0 (aq (D.N k [1,1,1,1,1,1]) D.K0)) (T0 a1 nf pG rX gJ)
noncomputable def r0 (k:Nat) (a1:Arg):(List UInt8)->Int->Int->(aM×Int×Int)->Option Out:=fun nf pG rX=>ak (fun w v=>B0 k w (Q0 k a1 nf pG rX) a1 nf pG rX v) k
theorem au (k:Nat) (a1:Arg):s0 k a1=r0 k a1:=
 funext fun nf=>funext fun pG=>funext fun rX=>funext fun gJ=>an _ _ _ (T0 a1 nf pG rX) _ (fun rec v=>by kernel_rfl) k gJ
noncomputable def p (l0:(List UInt8)->Int->Int->(aM×Int×Int)->Option Out) (a1:Arg):Option Out:=bif decide ((a1.1.length:Int) < (7:Int)) then (some (((0:Int),(0:Int),(0:Int),([]:List cP),()),(0:Int),())) else (a1.1[0]?).bind fun x2=>bif decide ((a1.1.length:Int) < ae (x2.toNat:Int)) then (some (((0:Int),(0:Int),(0:Int),([]:List cP),()),(0:Int),())) else (a1.1[0]?).bind fun x3=>bif decide ((x3.toNat:Int) < (7:Int)) then (some (((0:Int),(0:Int),(0:Int),([]:List cP),()),(0:Int),())) else (a1.1[0]?).bind fun x4=>if 0<=(x4.toNat:Int)/\(x4.toNat:Int)<=(a1.1.length:Int) then ((((a1.1.take (x4.toNat:Int).toNat).drop 0)[1]?).bind fun x5=>(((a1.1.take (x4.toNat:Int).toNat).drop 0)[2]?).bind fun x6=>(((a1.1.take (x4.toNat:Int).toNat).drop 0)[3]?).bind fun x7=>(((a1.1.take (x4.toNat:Int).toNat).drop 0)[4]?).bind fun x8=>l0 ((a1.1.take (x4.toNat:Int).toNat).drop 0) (ae ((((a1.1.take (x4.toNat:Int).toNat).drop 0).length:Int) - (2:Int))) (ae (x8.toNat:Int)) ((ae (x5.toNat:Int),ae (x6.toNat:Int),ae (x7.toNat:Int),([]:List cP),()),(5:Int),(0:Int))) else none
theorem aa (k:Nat) (a1:Arg):@Eq (Option Out) (D.W k a1) (p (r0 k a1) a1):=
 Eq.trans (b:=p (s0 k a1) a1) (by kernel_rfl) (by rw[au])
theorem ok:Ok prog 170 D.sig:=ap func170 aA (by kernel_rfl) (fc eh.ok (fc bG.ok (fc eX.ok (fc cr.ok (al _)))))
end fF
namespace dQ
abbrev Arg:Type:=(List UInt8)×Unit
abbrev Out:Type:=(List aM)×Int×Unit
abbrev ps:PQ:=[(.ro,(.U u8))]
noncomputable def D:FD:={ fn:=f125,tl:=aK,ps:=ps,rs:=[((.U bV),(ao (.U bV))),(i64,(ax i64))],gl:=[(170,fF.D.sig)],lv:=[(3,[0,4,5])] }
noncomputable def ab (a:Arg):Option Out:=@lift Out fun k=>D.W k a
noncomputable def T0 (a1:Arg) (J:(List aM)×Int):St:={ n:=26,sl:=[(0,.val (.U u8) a1.1),(4,.own (.U bV) (ao (.U bV)) [] J.1),(5,.val i64 J.2)],vr:=[],av:=[] }
noncomputable def b0 (self:((List aM)×Int)->Option Out) (a1:Arg) (J:(List aM)×Int):Option Out:=if 0<=J.2/\J.2<=(a1.1.length:Int) then ((fF.ab ((a1.1.take a1.1.length).drop J.2.toNat,())).bind fun ua=>bif decide (ua.2.1=(0:Int)) then (some (J.1,J.2,())) else if J.1.length+[ua.1].length<=bf then (self (J.1++[ua.1],ae (J.2+ua.2.1))) else none) else none
noncomputable abbrev B0 (_:Nat):=b0
noncomputable def s0 (k:Nat) (a1:Arg):((List aM)×Int)->Option Out:=fun J=>D.L k [1,1,1,0,0] [0,4,5] [] (af 0 D.K0) (T0 a1 J)
noncomputable def r0 (k:Nat) (a1:Arg):((List aM)×Int)->Option Out:=ak (fun w v=>B0 k w a1 v) k
theorem au (k:Nat) (a1:Arg):s0 k a1=r0 k a1:=
 funext fun J=>an _ _ _ (T0 a1) _ (fun rec v=>by kernel_rfl) k J
noncomputable def p (l0:((List aM)×Int)->Option Out) (a1:Arg):Option Out:=l0 (([]:List aM),(0:Int))
theorem aa (k:Nat) (a1:Arg):@Eq (Option Out) (D.W k a1) (p (r0 k a1) a1):=
 Eq.trans (b:=p (s0 k a1) a1) (by kernel_rfl) (by rw[au])
theorem ok:Ok prog 125 D.sig:=ap func125 aA (by kernel_rfl) (fc fF.ok (al _))
end dQ
namespace cv
abbrev Arg:Type:=Log×Unit
abbrev Out:Type:=Int×Unit
abbrev ps:PQ:=[(.ro,cD)]
noncomputable def D:FD:={ fn:=f60,tl:=aK,ps:=ps,rs:=[(i64,(ax i64))],gl:=[(124,iZ.D.sig),(125,dQ.D.sig)],lv:=[(4,[14,15,16])],lx:=[(0,[])] }
noncomputable def ab (a:Arg):Option Out:=@lift Out fun k=>D.W k a
noncomputable def T0 (a1:Arg) (a7:Int):St:={ n:=30,sl:=[(14,.own (.U (.U u8)) (.U true (ax (.U u8))) [] [a1.1.1,a1.1.2.1]),(15,.val i64 ([a1.1.1,a1.1.2.1].length:Int)),(16,.val i64 a7)],vr:=[],av:=[] }
noncomputable def b0 (self:Int->Option Out) (e0:(Unit)->Option Out) (a1:Arg) (a7:Int):Option Out:=bif decide (a7 < ([a1.1.1,a1.1.2.1].length:Int)) then (if 0<=a7/\a7 < ([a1.1.1,a1.1.2.1].length:Int) then (([a1.1.1,a1.1.2.1][a7.toNat]?).bind fun cY=>(dQ.ab (cY,())).bind fun gQ=>bif !decide (gQ.2.1=(cY.length:Int)) then (some ((5:Int),())) else self (ae (a7+(1:Int)))) else none) else e0 ()
noncomputable abbrev B0 (_:Nat):=b0
noncomputable def q0 (a1:Arg) (kS:(Unit)):Option Out:=some ((0:Int),())
noncomputable abbrev Q0 (_:Nat):=q0
noncomputable def s0 (k:Nat) (a1:Arg):(Int)->Option Out:=fun a7=>D.L k [1,1,0,1,0,0] [14,15,16] [] (af 0 (aq (D.N k [1,1,1]) D.K0)) (T0 a1 a7)
noncomputable def r0 (k:Nat) (a1:Arg):(Int)->Option Out:=ak (fun w v=>B0 k w (Q0 k a1) a1 v) k
theorem au (k:Nat) (a1:Arg):s0 k a1=r0 k a1:=
 funext fun a7=>an _ _ _ (T0 a1) _ (fun rec v=>by kernel_rfl) k a7
noncomputable def p (l0:(Int)->Option Out) (a1:Arg):Option Out:=(iZ.ab (a1.1,())).bind fun r2=>bif decide ((16000:Int) < r2.1) then (some ((2:Int),())) else l0 (0:Int)
theorem aa (k:Nat) (a1:Arg):@Eq (Option Out) (D.W k a1) (p (r0 k a1) a1):=
 Eq.trans (b:=p (s0 k a1) a1) (by kernel_rfl) (by rw[au])
theorem ok:Ok prog 60 D.sig:=ap func60 aA (by kernel_rfl) (fc iZ.ok (fc dQ.ok (al _)))
end cv
namespace eN
abbrev Arg:Type:=(List UInt8)×Unit
abbrev Out:Type:=Int×Unit
abbrev ps:PQ:=[(.ro,(.U u8))]
noncomputable def D:FD:={ fn:=f127,tl:=aK,ps:=ps,rs:=[(i64,(ax i64))] }
noncomputable def ab (a:Arg):Option Out:=@lift Out fun k=>D.W k a
noncomputable def p (a1:Arg):Option Out:=(a1.1[0]?).bind fun x2=>some (ae (x2.toNat:Int),())
theorem aa (k:Nat) (a1:Arg):@Eq (Option Out) (D.W k a1) (p a1):=by kernel_rfl
theorem ok:Ok prog 127 D.sig:=ap func127 aA (by kernel_rfl) (al _)
end eN
namespace i6
abbrev Arg:Type:=(List UInt8)×Int×Unit
abbrev Out:Type:=Int×Int×Unit
abbrev ps:PQ:=[(.ro,(.U u8)),(.ro,i64)]
noncomputable def D:FD:={ fn:=f197,tl:=aK,ps:=ps,rs:=[(i64,(ax i64)),(i64,(ax i64))],od:=[(1,[0,1,2,3,4,5,6,7,8,9,10,11,12,13,14,15])] }
noncomputable def ab (a:Arg):Option Out:=@lift Out fun k=>D.W k a
noncomputable def p (a1:Arg):Option Out:=if 0<=ae ((2:Int)+(ae ((2:Int)*a1.2.1))) then ((a1.1[(ae ((2:Int)+(ae ((2:Int)*a1.2.1)))).toNat]?).bind fun x2=>if 0<=ae ((3:Int)+(ae ((2:Int)*a1.2.1))) then ((a1.1[(ae ((3:Int)+(ae ((2:Int)*a1.2.1)))).toNat]?).bind fun x3=>some (ae (x2.toNat:Int),ae (x3.toNat:Int),())) else none) else none
theorem aa (k:Nat) (a1:Arg):@Eq (Option Out) (D.W k a1) (p a1):=by kernel_rfl
theorem ok:Ok prog 197 D.sig:=ap func197 aA (by kernel_rfl) (al _)
end i6
namespace aJ
abbrev Arg:Type:=(List UInt8)×Unit
abbrev Out:Type:=Int×Unit
abbrev ps:PQ:=[(.ro,(.U u8))]
noncomputable def D:FD:={ fn:=f126,tl:=aK,ps:=ps,rs:=[(i64,(ax i64))],gl:=[(127,eN.D.sig),(197,i6.D.sig)],lv:=[(7,[0,3,4,35,36]),(15,[0,3,8,66,67]),(19,[0,3,8,10,11,12,66,67])],lx:=[(0,[0,3]),(2,[0,3]),(4,[0,3,8,66,67])],od:=[(3,[0,2,3,4,5,1,6,7])] }
noncomputable def ab (a:Arg):Option Out:=@lift Out fun k=>D.W k a
noncomputable def T0 (a1:Arg) (fb:Int) (bI:Int) (iu:Int):St:={ n:=101,sl:=[(0,.val (.U u8) a1.1),(3,.val i64 fb),(4,.val i64 bI),(35,.val i64 fb),(36,.val i64 iu)],vr:=[],av:=[] }
noncomputable def S0 (rec:RT Out) (a1:Arg) (fb:Int) (bI:Int):(Int)->Option Out:=fun iu=>rec (T0 a1 fb bI iu)
noncomputable def bt (K:KT Out) (a1:Arg) (fb:Int) (bI:Int):(Unit)->Option Out:=fun z=>K (.exit 0) ({ n:=101,sl:=[(0,.val (.U u8) a1.1),(3,.val i64 fb)],vr:=[],av:=[] })
noncomputable def b0 (self:Int->Option Out) (e0:(Unit)->Option Out) (a1:Arg) (fb:Int) (bI:Int) (iu:Int):Option Out:=bif decide (iu < fb) then ((i6.ab (a1.1,iu,())).bind fun iB=>bif !((decide (iB.1=(0:Int))) == (decide (iB.2.1=(0:Int)))) then (some ((3:Int),())) else bif !decide (iB.1=(0:Int)) then (bif decide (iB.1 < bI) then (some ((3:Int),())) else bif decide ((64:Int) < ae (iB.1+iB.2.1)) then (some ((3:Int),())) else self (ae (iu+(1:Int)))) else bif decide ((64:Int) < ae (iB.1+iB.2.1)) then (some ((3:Int),())) else self (ae (iu+(1:Int)))) else e0 ()
noncomputable abbrev B0 (_:Nat):=b0
theorem f9 (k:Nat) (rec:RT Out) (K:KT Out) (a1:Arg) (fb:Int) (bI:Int) (iu:Int):D.N k [1,1,1,1,0,1,0,0] (T0 a1 fb bI iu) (dw rec (cj [0,3,4,35,36] []) K)=b0 (S0 rec a1 fb bI) (bt K a1 fb bI) a1 fb bI iu:=by kernel_rfl
noncomputable def T1 (a1:Arg) (cg:(List UInt8)×Int×(List Bool)×Int×Int):St:={ n:=101,sl:=[(0,.val (.U u8) cg.1),(3,.val i64 cg.2.1),(8,.box (.arr 64 .bool) (ax (.arr 64 .bool)) [] cg.2.2.1),(66,.val i64 cg.2.2.2.1),(67,.val i64 cg.2.2.2.2)],vr:=[],av:=[] }
noncomputable def S1 (rec:RT Out) (a1:Arg):((List UInt8)×Int×(List Bool)×Int×Int)->Option Out:=fun cg=>rec (T1 a1 cg)
noncomputable def dG (K:KT Out) (a1:Arg):((List UInt8)×Int)->Option Out:=fun z=>K (.exit 2) ({ n:=101,sl:=[(0,.val (.U u8) z.1),(3,.val i64 z.2)],vr:=[],av:=[] })
noncomputable def T2 (a1:Arg) (cC:List UInt8) (bF:Int) (iD:Int) (iE:Int) (iF:Int) (iG:Int) (fd:(List Bool)×Int):St:={ n:=101,sl:=[(0,.val (.U u8) cC),(3,.val i64 bF),(8,.box (.arr 64 .bool) (ax (.arr 64 .bool)) [] fd.1),(10,.val i64 iD),(11,.val i64 iE),(12,.val i64 fd.2),(66,.val i64 iF),(67,.val i64 iG)],vr:=[],av:=[] }
noncomputable def b2 (self:((List Bool)×Int)->Option Out) (e4:(List Bool)->Option Out) (a1:Arg) (cC:List UInt8) (bF:Int) (iD:Int) (iE:Int) (iF:Int) (iG:Int) (fd:(List Bool)×Int):Option Out:=bif decide (fd.2 < ae (iD+iE)) then (if 0<=fd.2/\fd.2 < (fd.1.length:Int) then ((fd.1[fd.2.toNat]?).bind fun Pw=>bif Pw then (some ((8:Int),())) else if 0<=fd.2/\fd.2 < (fd.1.length:Int) then ((fd.1[fd.2.toNat]?).bind fun GS=>self (fd.1.set fd.2.toNat true,ae (fd.2+(1:Int)))) else none) else none) else e4 fd.1
noncomputable abbrev B2 (_:Nat):=b2
noncomputable def q1 (self:((List UInt8)×Int×(List Bool)×Int×Int)->Option Out) (e2:((List UInt8)×Int)->Option Out) (a1:Arg) (cC:List UInt8) (bF:Int) (iD:Int) (iE:Int) (iF:Int) (iG:Int) (GT:(List Bool)):Option Out:=self (cC,bF,GT,iF,ae (iG+(1:Int)))
noncomputable abbrev Q1 (_:Nat):=q1
noncomputable def s2 (k:Nat) (rec:RT Out) (K:KT Out) (a1:Arg):(List UInt8)->Int->Int->Int->Int->Int->((List Bool)×Int)->Option Out:=fun cC bF iD iE iF iG=>fun fd=>D.L k [1,1,1,1,1,1,0,1,0,0,1,1,0,0,1,1,1,0,0] [0,3,8,10,11,12,66,67] [] (af 4 (af 3 (aq (D.N k [1,1,1,1,1,1,0,1,0,0,1,1,1]) (dw rec (cj [0,3,8,66,67] []) K)))) (T2 a1 cC bF iD iE iF iG fd)
noncomputable def r2 (k:Nat) (self:((List UInt8)×Int×(List Bool)×Int×Int)->Option Out) (e2:((List UInt8)×Int)->Option Out) (a1:Arg):(List UInt8)->Int->Int->Int->Int->Int->((List Bool)×Int)->Option Out:=fun cC bF iD iE iF iG=>ak (fun w v=>B2 k w (Q1 k self e2 a1 cC bF iD iE iF iG) a1 cC bF iD iE iF iG v) k
theorem k9 (k:Nat) (rec:RT Out) (K:KT Out) (a1:Arg):s2 k rec K a1=r2 k (S1 rec a1) (dG K a1) a1:=
 funext fun cC=>funext fun bF=>funext fun iD=>funext fun iE=>funext fun iF=>funext fun iG=>funext fun fd=>an _ _ _ (T2 a1 cC bF iD iE iF iG) _ (fun rec v=>by kernel_rfl) k fd
noncomputable def b1 (self:((List UInt8)×Int×(List Bool)×Int×Int)->Option Out) (e2:((List UInt8)×Int)->Option Out) (l2:(List UInt8)->Int->Int->Int->Int->Int->((List Bool)×Int)->Option Out) (a1:Arg) (cg:(List UInt8)×Int×(List Bool)×Int×Int):Option Out:=bif decide (cg.2.2.2.2 < cg.2.2.2.1) then ((i6.ab (cg.1,cg.2.2.2.2,())).bind fun qK=>l2 cg.1 cg.2.1 qK.1 qK.2.1 cg.2.2.2.1 cg.2.2.2.2 (cg.2.2.1,qK.1)) else e2 (cg.1,cg.2.1)
noncomputable def B1 (k:Nat) (self:((List UInt8)×Int×(List Bool)×Int×Int)->Option Out) (e2:((List UInt8)×Int)->Option Out) (a1:Arg) (cg:(List UInt8)×Int×(List Bool)×Int×Int):Option Out:=b1 self e2 (r2 k self e2 a1) a1 cg
theorem l9 (k:Nat) (rec:RT Out) (K:KT Out) (a1:Arg) (cg:(List UInt8)×Int×(List Bool)×Int×Int):D.N k [1,1,1,1,1,1,0,1,0,0] (T1 a1 cg) (dw rec (cj [0,3,8,66,67] []) K)=B1 k (S1 rec a1) (dG K a1) a1 cg:=
 Eq.trans (b:=b1 (S1 rec a1) (dG K a1) (s2 k rec K a1) a1 cg) (by kernel_rfl) (by rw[k9];rfl)
noncomputable def q2 (a1:Arg) (nX:((List UInt8)×Int)):Option Out:=bif decide ((0:Int) < nX.2) then (if 0<=ae ((ae ((2:Int)*nX.2))+(1:Int)) then ((nX.1[(ae ((ae ((2:Int)*nX.2))+(1:Int))).toNat]?).bind fun Px=>bif decide ((Px.toNat:Int)=(0:Int)) then (some ((8:Int),())) else some ((0:Int),())) else none) else some ((0:Int),())
noncomputable abbrev Q2 (_:Nat):=q2
theorem ny (k:Nat) (a1:Arg) (nX:((List UInt8)×Int)):dG (af 2 (aq (D.N k [1,1,1,1,1,1,1]) D.K0)) a1 nX=q2 a1 nX:=by kernel_rfl
noncomputable def s1 (k:Nat) (a1:Arg) (fb:Int) (bI:Int):((List UInt8)×Int×(List Bool)×Int×Int)->Option Out:=fun cg=>D.L k [1,1,1,1,1,1,0,1,0,0] [0,3,8,66,67] [] (af 2 (aq (D.N k [1,1,1,1,1,1,1]) D.K0)) (T1 a1 cg)
noncomputable def r1 (k:Nat) (a1:Arg) (fb:Int) (bI:Int):((List UInt8)×Int×(List Bool)×Int×Int)->Option Out:=ak (fun w v=>B1 k w (Q2 k a1) a1 v) k
theorem f_ (k:Nat) (a1:Arg) (fb:Int) (bI:Int):s1 k a1 fb bI=r1 k a1 fb bI:=by
 funext cg;
 have Y:dG (af 2 (aq (D.N k [1,1,1,1,1,1,1]) D.K0)) a1=Q2 k a1:=funext fun z=>ny k a1 z
 refine (an _ _ _ (T1 a1) (fun self v=>B1 k self (dG (af 2 (aq (D.N k [1,1,1,1,1,1,1]) D.K0)) a1) a1 v) (fun rec v=>l9 k rec (af 2 (aq (D.N k [1,1,1,1,1,1,1]) D.K0)) a1 v) k cg).trans ?_
 rw[Y]
 rfl
noncomputable def q0 (l1:((List UInt8)×Int×(List Bool)×Int×Int)->Option Out) (a1:Arg) (fb:Int) (bI:Int) (l8:(Unit)):Option Out:=l1 (a1.1,fb,List.replicate 64 false,fb,(0:Int))
noncomputable def Q0 (k:Nat) (a1:Arg) (fb:Int) (bI:Int) (l8:(Unit)):Option Out:=q0 (r1 k a1 fb bI) a1 fb bI l8
theorem k_ (k:Nat) (a1:Arg) (fb:Int) (bI:Int) (l8:(Unit)):bt (af 0 (aq (D.N k [1,1,1,1,1]) D.K0)) a1 fb bI l8=Q0 k a1 fb bI l8:=
 Eq.trans (b:=q0 (s1 k a1 fb bI) a1 fb bI l8) (by kernel_rfl) (by rw[f_];rfl)
noncomputable def s0 (k:Nat) (a1:Arg):Int->Int->(Int)->Option Out:=fun fb bI=>fun iu=>D.L k [1,1,1,1,0,1,0,0] [0,3,4,35,36] [] (af 0 (aq (D.N k [1,1,1,1,1]) D.K0)) (T0 a1 fb bI iu)
noncomputable def r0 (k:Nat) (a1:Arg):Int->Int->(Int)->Option Out:=fun fb bI=>ak (fun w v=>B0 k w (Q0 k a1 fb bI) a1 fb bI v) k
theorem au (k:Nat) (a1:Arg):s0 k a1=r0 k a1:=by
 funext fb;funext bI;funext iu;
 have h0:bt (af 0 (aq (D.N k [1,1,1,1,1]) D.K0)) a1 fb bI=Q0 k a1 fb bI:=funext fun z=>k_ k a1 fb bI z
 refine (an _ _ _ (T0 a1 fb bI) (fun self v=>B0 k self (bt (af 0 (aq (D.N k [1,1,1,1,1]) D.K0)) a1 fb bI) a1 fb bI v) (fun rec v=>f9 k rec (af 0 (aq (D.N k [1,1,1,1,1]) D.K0)) a1 fb bI v) k iu).trans ?_
 rw[h0]
 rfl
noncomputable def p (l0:Int->Int->(Int)->Option Out) (a1:Arg):Option Out:=bif !decide ((a1.1.length:Int)=(64:Int)) then (some ((1:Int),())) else (a1.1[1]?).bind fun x2=>(eN.ab (a1.1,())).bind fun r3=>bif decide ((16:Int) < r3.1) then (some ((3:Int),())) else bif decide (ae (x2.toNat:Int) < ae ((2:Int)+(ae ((2:Int)*r3.1)))) then (some ((3:Int),())) else bif decide ((64:Int) < ae (x2.toNat:Int)) then (some ((3:Int),())) else l0 r3.1 (ae (x2.toNat:Int)) (0:Int)
theorem aa (k:Nat) (a1:Arg):@Eq (Option Out) (D.W k a1) (p (r0 k a1) a1):=
 Eq.trans (b:=p (s0 k a1) a1) (by kernel_rfl) (by rw[au])
theorem ok:Ok prog 126 D.sig:=ap func126 aA (by kernel_rfl) (fc eN.ok (fc i6.ok (al _)))
end aJ
namespace gv
abbrev Arg:Type:=(List UInt8)×Int×Unit
abbrev Out:Type:=Bool×Unit
abbrev ps:PQ:=[(.ro,(.U u8)),(.ro,i64)]
noncomputable def D:FD:={ fn:=f128,tl:=aK,ps:=ps,rs:=[(.bool,(ax .bool))],gl:=[(127,eN.D.sig)] }
noncomputable def ab (a:Arg):Option Out:=@lift Out fun k=>D.W k a
noncomputable def p (a1:Arg):Option Out:=bif decide ((0:Int)<=a1.2.1) then ((eN.ab (a1.1,())).bind fun r2=>bif decide (a1.2.1 < r2.1) then (if 0<=ae ((3:Int)+(ae ((2:Int)*a1.2.1))) then ((a1.1[(ae ((3:Int)+(ae ((2:Int)*a1.2.1)))).toNat]?).bind fun x3=>some (!decide ((x3.toNat:Int)=(0:Int)),())) else none) else some (false,())) else some (false,())
theorem aa (k:Nat) (a1:Arg):@Eq (Option Out) (D.W k a1) (p a1):=by kernel_rfl
theorem ok:Ok prog 128 D.sig:=ap func128 aA (by kernel_rfl) (fc eN.ok (al _))
end gv
namespace bv
abbrev Arg:Type:=Row×Unit
abbrev Out:Type:=Int×Unit
abbrev ps:PQ:=[(.ro,aF)]
noncomputable def D:FD:={ fn:=f198,tl:=aK,ps:=ps,rs:=[(i64,(ax i64))],gl:=[(61,b_.D.sig)],lv:=[(6,[1,26,27])],lx:=[(0,[])] }
noncomputable def ab (a:Arg):Option Out:=@lift Out fun k=>D.W k a
noncomputable def T0 (a1:Arg) (cK:Int):St:={ n:=43,sl:=[(1,.box aF (ax aF) [] a1.1),(26,.val i64 (a1.1.2.2.2.1.length:Int)),(27,.val i64 cK)],vr:=[],av:=[] }
noncomputable def b0 (self:Int->Option Out) (e0:(Unit)->Option Out) (a1:Arg) (cK:Int):Option Out:=bif decide (cK < (a1.1.2.2.2.1.length:Int)) then (if 0<=cK then ((a1.1.2.2.2.1[cK.toNat]?).bind fun ne=>bif decide ((ne.toNat:Int) < (97:Int)) then (some ((5:Int),())) else if 0<=cK then ((a1.1.2.2.2.1[cK.toNat]?).bind fun mb=>bif decide ((122:Int) < (mb.toNat:Int)) then (some ((5:Int),())) else self (ae (cK+(1:Int)))) else none) else none) else e0 ()
noncomputable abbrev B0 (_:Nat):=b0
noncomputable def q0 (a1:Arg) (l8:(Unit)):Option Out:=some ((0:Int),())
noncomputable abbrev Q0 (_:Nat):=q0
noncomputable def s0 (k:Nat) (a1:Arg):(Int)->Option Out:=fun cK=>D.L k [1,1,1,0,1,0,0] [1,26,27] [] (af 0 (aq (D.N k [1,1,1,1]) D.K0)) (T0 a1 cK)
noncomputable def r0 (k:Nat) (a1:Arg):(Int)->Option Out:=ak (fun w v=>B0 k w (Q0 k a1) a1 v) k
theorem au (k:Nat) (a1:Arg):s0 k a1=r0 k a1:=
 funext fun cK=>an _ _ _ (T0 a1) _ (fun rec v=>by kernel_rfl) k cK
noncomputable def p (l0:(Int)->Option Out) (a1:Arg):Option Out:=(b_.ab (a1.1.1,(0:Int),(3:Int),())).bind fun r2=>bif !r2.1 then (some ((3:Int),())) else (b_.ab (a1.1.2.1,(1:Int),(99:Int),())).bind fun r3=>bif !r3.1 then (some ((3:Int),())) else (b_.ab (a1.1.2.2.1,(0:Int),(999:Int),())).bind fun r4=>bif !r4.1 then (some ((3:Int),())) else bif decide ((8:Int) < (a1.1.2.2.2.1.length:Int)) then (some ((5:Int),())) else l0 (0:Int)
theorem aa (k:Nat) (a1:Arg):@Eq (Option Out) (D.W k a1) (p (r0 k a1) a1):=
 Eq.trans (b:=p (s0 k a1) a1) (by kernel_rfl) (by rw[au])
theorem ok:Ok prog 198 D.sig:=ap func198 aA (by kernel_rfl) (fc b_.ok (al _))
end bv
namespace ec
abbrev Arg:Type:=(List UInt8)×Unit
abbrev Out:Type:=kZ×Unit
abbrev ps:PQ:=[(.ro,(.U u8))]
noncomputable def D:FD:={ fn:=f129,tl:=aK,ps:=ps,rs:=[(kj,(ax kj))],gl:=[(198,bv.D.sig)],od:=[(2,[0,1,2,3,4,5,6,7,8,9]),(5,[0,1,2,3,4,5,6,7,8,9,10,11,12,13,14,15,16,17,18,19,20,21,22,23]),(8,[0,1,2,3,4,5,6])] }
noncomputable def ab (a:Arg):Option Out:=@lift Out fun k=>D.W k a
noncomputable def p (a1:Arg):Option Out:=let L4:Option Out:=let QO:Option Out:=(a1.1[1]?).bind fun QP=>(a1.1[2]?).bind fun QQ=>(a1.1[3]?).bind fun TE=>(a1.1[4]?).bind fun TF=>if 0<=(6:Int)/\(6:Int)<=(a1.1.length:Int) then (let QR:=ae ((BitVec.ofInt 64 (ae ((ae (TE.toNat:Int))*2 ^ 8)) ||| BitVec.ofInt 64 (ae (TF.toNat:Int))).toNat:Int);(bv.ab ((ae (QP.toNat:Int),ae (QQ.toNat:Int),QR,(a1.1.take a1.1.length).drop 6,()),())).bind fun TG=>bif !decide (TG.1=(0:Int)) then (some (((5:Int),(0:Int),(0:Int),(0:Int),((0:Int),(0:Int),(0:Int),([]:List UInt8),()),()),())) else (a1.1[0]?).bind fun TH=>some (((0:Int),ae (TH.toNat:Int),(0:Int),(0:Int),(ae (QP.toNat:Int),ae (QQ.toNat:Int),QR,(a1.1.take a1.1.length).drop 6,()),()),())) else none;bif decide ((a1.1.length:Int) < (6:Int)) then (some (((5:Int),(0:Int),(0:Int),(0:Int),((0:Int),(0:Int),(0:Int),([]:List UInt8),()),()),())) else (a1.1[0]?).bind fun Ou=>bif !decide ((Ou.toNat:Int)=(0:Int)) then ((a1.1[0]?).bind fun Ov=>bif !decide ((Ov.toNat:Int)=(2:Int)) then (some (((5:Int),(0:Int),(0:Int),(0:Int),((0:Int),(0:Int),(0:Int),([]:List UInt8),()),()),())) else (a1.1[5]?).bind fun TJ=>bif !decide ((a1.1.length:Int)=ae ((6:Int)+(ae (TJ.toNat:Int)))) then (some (((5:Int),(0:Int),(0:Int),(0:Int),((0:Int),(0:Int),(0:Int),([]:List UInt8),()),()),())) else QO) else (a1.1[5]?).bind fun TK=>bif !decide ((a1.1.length:Int)=ae ((6:Int)+(ae (TK.toNat:Int)))) then (some (((5:Int),(0:Int),(0:Int),(0:Int),((0:Int),(0:Int),(0:Int),([]:List UInt8),()),()),())) else QO;bif decide ((a1.1.length:Int)=(3:Int)) then ((a1.1[0]?).bind fun x2=>bif decide ((x2.toNat:Int)=(1:Int)) then ((a1.1[1]?).bind fun x3=>bif decide ((x3.toNat:Int) < (12:Int)) then ((a1.1[2]?).bind fun x4=>bif decide ((x4.toNat:Int) < (16:Int)) then ((a1.1[1]?).bind fun x5=>(a1.1[2]?).bind fun x6=>some (((0:Int),(1:Int),ae (x5.toNat:Int),ae (x6.toNat:Int),((0:Int),(0:Int),(0:Int),([]:List UInt8),()),()),())) else L4) else L4) else L4) else L4
theorem aa (k:Nat) (a1:Arg):@Eq (Option Out) (D.W k a1) (p a1):=by kernel_rfl
theorem ok:Ok prog 129 D.sig:=ap func129 aA (by kernel_rfl) (fc bv.ok (al _))
end ec
namespace gR
abbrev Arg:Type:=(List UInt8)×Int×Unit
abbrev Out:Type:=(List UInt8)×Unit
abbrev ps:PQ:=[(.ro,(.U u8)),(.ro,i64)]
noncomputable def D:FD:={ fn:=f130,tl:=aK,ps:=ps,rs:=[((.U u8),(ax (.U u8)))],gl:=[(197,i6.D.sig)] }
noncomputable def ab (a:Arg):Option Out:=@lift Out fun k=>D.W k a
noncomputable def p (a1:Arg):Option Out:=(i6.ab (a1.1,a1.2.1,())).bind fun r2=>if 0<=r2.1/\r2.1<=ae (r2.1+r2.2.1)/\ae (r2.1+r2.2.1)<=(a1.1.length:Int) then (some ((a1.1.take (ae (r2.1+r2.2.1)).toNat).drop r2.1.toNat,())) else none
theorem aa (k:Nat) (a1:Arg):@Eq (Option Out) (D.W k a1) (p a1):=by kernel_rfl
theorem ok:Ok prog 130 D.sig:=ap func130 aA (by kernel_rfl) (fc i6.ok (al _))
end gR
namespace dJ
abbrev Arg:Type:=Row×Row×Unit
abbrev Out:Type:=Bool×Unit
abbrev ps:PQ:=[(.ro,aF),(.ro,aF)]
noncomputable def D:FD:={ fn:=f202,tl:=aK,ps:=ps,rs:=[(.bool,(ax .bool))] }
noncomputable def ab (a:Arg):Option Out:=@lift Out fun k=>D.W k a
noncomputable def p (a1:Arg):Option Out:=bif decide (a1.1.1 < a1.2.1.1) then (some (true,())) else bif decide (a1.1.1=a1.2.1.1) then (some (decide (a1.1.2.1 < a1.2.1.2.1),())) else some (false,())
theorem aa (k:Nat) (a1:Arg):@Eq (Option Out) (D.W k a1) (p a1):=by kernel_rfl
theorem ok:Ok prog 202 D.sig:=ap func202 aA (by kernel_rfl) (al _)
end dJ
namespace fe
abbrev Arg:Type:=Row×Row×Unit
abbrev Out:Type:=Int×Unit
abbrev ps:PQ:=[(.ro,aF),(.ro,aF)]
noncomputable def D:FD:={ fn:=f201,tl:=aK,ps:=ps,rs:=[(i64,(ax i64))],gl:=[(202,dJ.D.sig)] }
noncomputable def ab (a:Arg):Option Out:=@lift Out fun k=>D.W k a
noncomputable def p (a1:Arg):Option Out:=(dJ.ab (a1.1,a1.2.1,())).bind fun r2=>bif r2.1 then (some ((-1:Int),())) else (dJ.ab (a1.2.1,a1.1,())).bind fun r3=>bif r3.1 then (some ((1:Int),())) else some ((0:Int),())
theorem aa (k:Nat) (a1:Arg):@Eq (Option Out) (D.W k a1) (p a1):=by kernel_rfl
theorem ok:Ok prog 201 D.sig:=ap func201 aA (by kernel_rfl) (fc dJ.ok (al _))
end fe
namespace iy
abbrev Arg:Type:=Seen×Seen×Unit
abbrev Out:Type:=Int×Unit
abbrev ps:PQ:=[(.ro,c7),(.ro,c7)]
noncomputable def D:FD:={ fn:=f200,tl:=aK,ps:=ps,rs:=[(i64,(ax i64))],gl:=[(201,fe.D.sig)] }
noncomputable def ab (a:Arg):Option Out:=@lift Out fun k=>D.W k a
noncomputable def p (a1:Arg):Option Out:=(fe.ab (a1.1.1,a1.2.1.1,())).bind fun r2=>some (r2.1,())
theorem aa (k:Nat) (a1:Arg):@Eq (Option Out) (D.W k a1) (p a1):=by kernel_rfl
theorem ok:Ok prog 200 D.sig:=ap func200 aA (by kernel_rfl) (fc fe.ok (al _))
end iy
namespace iH
open Go.Proofs
abbrev Arg:Type:=(List Seen)×(Nat×Int)×Unit
abbrev Out:Type:=(List Seen)×Unit
noncomputable def ab (a:Arg):Option Out:=(pQ c7 iy.ab a.1).map fun r=>(r,())
noncomputable def sig:mO:={ ps:=[(.fi (ao (.U c7)),.U c7),(.fix 200,.fn)],rs:=[],F:=ab }
def Ec:Go.Shelf.Ren:=⟨fun | 6=>199 | 15=>266 | 14=>265 | 28=>308 | 29=>309 | 20=>300 | 21=>301 | 22=>302 | 23=>303 | 24=>304 | 25=>305 | 26=>306 | 27=>307 | 46=>314 | 47=>315 | 48=>316 | 49=>317 | 50=>318 | 57=>320 | n=>n,fun | 22=>104 | 24=>187 | 25=>266 | 3=>3 | 39=>258 | 0=>0 | 53=>355 | 55=>357 | 4=>4 | 46=>349 | 45=>348 | 50=>336 | 5=>5 | 9=>9 | 66=>362 | 70=>366 | 76=>368 | 77=>255 | n=>n,fun | n=>n⟩
theorem MN:Go.Proofs.SlLaysF0.n6 Tryz.prog Ec:={
 mixed:=by kernel_rfl
 f6:=⟨Tryz.f199.name,by decide,Tryz.func199.trans (congrArg some (by kernel_rfl))⟩
 f14:=⟨Tryz.f265.name,by decide,Tryz.func265.trans (congrArg some (by kernel_rfl))⟩
 f15:=Tryz.func266.trans (congrArg some (by kernel_rfl))
 f20:=⟨Tryz.f300.name,by decide,Tryz.func300.trans (congrArg some (by kernel_rfl))⟩
 f21:=⟨Tryz.f301.name,by decide,Tryz.func301.trans (congrArg some (by kernel_rfl))⟩
 f22:=⟨Tryz.f302.name,by decide,Tryz.func302.trans (congrArg some (by kernel_rfl))⟩
 f23:=⟨Tryz.f303.name,by decide,Tryz.func303.trans (congrArg some (by kernel_rfl))⟩
 f24:=⟨Tryz.f304.name,by decide,Tryz.func304.trans (congrArg some (by kernel_rfl))⟩
 f25:=⟨Tryz.f305.name,by decide,Tryz.func305.trans (congrArg some (by kernel_rfl))⟩
 f26:=⟨Tryz.f306.name,by decide,Tryz.func306.trans (congrArg some (by kernel_rfl))⟩
 f27:=⟨Tryz.f307.name,by decide,Tryz.func307.trans (congrArg some (by kernel_rfl))⟩
 f28:=Tryz.func308.trans (congrArg some (by kernel_rfl))
 f29:=Tryz.func309.trans (congrArg some (by kernel_rfl))
 f46:=⟨Tryz.f314.name,by decide,Tryz.func314.trans (congrArg some (by kernel_rfl))⟩
 f47:=Tryz.func315.trans (congrArg some (by kernel_rfl))
 f48:=Tryz.func316.trans (congrArg some (by kernel_rfl))
 f49:=⟨Tryz.f317.name,by decide,Tryz.func317.trans (congrArg some (by kernel_rfl))⟩
 f50:=⟨Tryz.f318.name,by decide,Tryz.func318.trans (congrArg some (by kernel_rfl))⟩
 f57:=⟨Tryz.f320.name,by decide,Tryz.func320.trans (congrArg some (by kernel_rfl))⟩
 t0:=Tryz.underlying0
 a0:=Tryz.isAgg0
 z0:=Tryz.sizeOf0
 v0:=Tryz.zeroValue0
 t3:=Tryz.underlying3
 a3:=Tryz.isAgg3
 z3:=Tryz.sizeOf3
 v3:=Tryz.zeroValue3
 t4:=Tryz.underlying4
 a4:=Tryz.isAgg4
 z4:=Tryz.sizeOf4
 v4:=Tryz.zeroValue4
 t5:=Tryz.underlying5
 a5:=Tryz.isAgg5
 z5:=Tryz.sizeOf5
 v5:=Tryz.zeroValue5
 t9:=Tryz.underlying9
 a9:=Tryz.isAgg9
 z9:=Tryz.sizeOf9
 v9:=Tryz.zeroValue9
 t22:=Tryz.underlying104
 a22:=Tryz.isAgg104
 z22:=Tryz.sizeOf104
 v22:=Tryz.zeroValue104
 t25:=Tryz.underlying266
 a25:=Tryz.isAgg266
 z25:=Tryz.sizeOf266
 v25:=Tryz.zeroValue266
 t39:=Tryz.underlying258
 a39:=Tryz.isAgg258
 z39:=Tryz.sizeOf258
 v39:=Tryz.zeroValue258
 t45:=Tryz.underlying348
 a45:=Tryz.isAgg348
 z45:=Tryz.sizeOf348
 v45:=Tryz.zeroValue348
 t46:=Tryz.underlying349
 a46:=Tryz.isAgg349
 z46:=Tryz.sizeOf349
 v46:=Tryz.zeroValue349
 t50:=Tryz.underlying336
 a50:=Tryz.isAgg336
 z50:=Tryz.sizeOf336
 v50:=Tryz.zeroValue336
 t53:=Tryz.underlying355
 a53:=Tryz.isAgg355
 z53:=Tryz.sizeOf355
 v53:=Tryz.zeroValue355
 t55:=Tryz.underlying357
 a55:=Tryz.isAgg357
 z55:=Tryz.sizeOf357
 v55:=Tryz.zeroValue357
 t66:=Tryz.underlying362
 a66:=Tryz.isAgg362
 z66:=Tryz.sizeOf362
 v66:=Tryz.zeroValue362
 t70:=Tryz.underlying366
 a70:=Tryz.isAgg366
 z70:=Tryz.sizeOf366
 v70:=Tryz.zeroValue366
 t76:=Tryz.underlying368
 a76:=Tryz.isAgg368
 z76:=Tryz.sizeOf368
 v76:=Tryz.zeroValue368
 t77:=Tryz.underlying255
 a77:=Tryz.isAgg255
 z77:=Tryz.sizeOf255
 v77:=Tryz.zeroValue255 }
theorem ok:Ok prog 199 sig:=ML (e:=c7) MN rfl rfl (by kernel_rfl) (by decide) (g:=200) (cF:=iy.ab) iy.ok ⟨f199,func199,by kernel_rfl,by kernel_rfl,by kernel_rfl⟩
end iH
namespace aI
abbrev Arg:Type:=(List (List UInt8))×Unit
abbrev Out:Type:=(List Seen)×Int×Unit
abbrev ps:PQ:=[(.ro,(.U (.U u8)))]
noncomputable def D:FD:={ fn:=f131,tl:=aK,ps:=ps,rs:=[((.U c7),(ao (.U c7))),(i64,(ax i64))],gl:=[(127,eN.D.sig),(128,gv.D.sig),(129,ec.D.sig),(130,gR.D.sig),(199,iH.sig),(202,dJ.D.sig)],lv:=[(4,[4,5,6,21,22,23]),(7,[4,5,6,7,8,21,22,23,29,30]),(21,[4,5,6,81,82,83]),(29,[4,5,6,15,101,102,103]),(40,[4,19])],lx:=[(0,[4,5,6]),(2,[4,5,6,21,22,23]),(3,[4,5,6,7,8,21,22,23,29,30]),(5,[4,5,6]),(7,[4]),(9,[4])],od:=[(42,[0,1,2,3,4,5,6,7,8,9,10,11,12])] }
noncomputable def ab (a:Arg):Option Out:=@lift Out fun k=>D.W k a
noncomputable def T0 (a1:Arg) (J:(List Seen)×(List Seen)×(List ((List Int)×Row))×(List (List UInt8))×Int×Int):St:={ n:=148,sl:=[(4,.own (.U c7) (ao (.U c7)) [] J.1),(5,.own (.U c7) (ao (.U c7)) [] J.2.1),(6,.own (.map (.arr 2 i64) aF) (ao (.map (.arr 2 i64) aF)) [] J.2.2.1),(21,.val (.U (.U u8)) J.2.2.2.1),(22,.val i64 J.2.2.2.2.1),(23,.val i64 J.2.2.2.2.2)],vr:=[],av:=[] }
noncomputable def S0 (rec:RT Out) (a1:Arg):((List Seen)×(List Seen)×(List ((List Int)×Row))×(List (List UInt8))×Int×Int)->Option Out:=fun J=>rec (T0 a1 J)
noncomputable def bt (K:KT Out) (a1:Arg):((List Seen)×(List Seen)×(List ((List Int)×Row)))->Option Out:=fun z=>K (.exit 0) ({ n:=148,sl:=[(4,.own (.U c7) (ao (.U c7)) [] z.1),(5,.own (.U c7) (ao (.U c7)) [] z.2.1),(6,.own (.map (.arr 2 i64) aF) (ao (.map (.arr 2 i64) aF)) [] z.2.2)],vr:=[],av:=[] })
noncomputable def T1 (a1:Arg) (eK:Int) (dz:List UInt8) (c_:List (List UInt8)) (bS:Int) (eM:Int) (cm:(List Seen)×(List Seen)×(List ((List Int)×Row))×Int):St:={ n:=148,sl:=[(4,.own (.U c7) (ao (.U c7)) [] cm.1),(5,.own (.U c7) (ao (.U c7)) [] cm.2.1),(6,.own (.map (.arr 2 i64) aF) (ao (.map (.arr 2 i64) aF)) [] cm.2.2.1),(7,.val i64 eK),(8,.val (.U u8) dz),(21,.val (.U (.U u8)) c_),(22,.val i64 bS),(23,.val i64 eK),(29,.val i64 eM),(30,.val i64 cm.2.2.2)],vr:=[],av:=[] }
noncomputable def b1 (self:((List Seen)×(List Seen)×(List ((List Int)×Row))×Int)->Option Out) (e2:((List Seen)×(List Seen)×(List ((List Int)×Row)))->Option Out) (a1:Arg) (eK:Int) (dz:List UInt8) (c_:List (List UInt8)) (bS:Int) (eM:Int) (cm:(List Seen)×(List Seen)×(List ((List Int)×Row))×Int):Option Out:=bif decide (cm.2.2.2 < eM) then ((gv.ab (dz,cm.2.2.2,())).bind fun yI=>bif !yI.1 then (self (cm.1,cm.2.1,cm.2.2.1,ae (cm.2.2.2+(1:Int)))) else (gR.ab (dz,cm.2.2.2,())).bind fun Bx=>(ec.ab (Bx.1,())).bind fun mJ=>bif !decide (mJ.1.1=(0:Int)) then (some (([]:List Seen),(5:Int),())) else bif decide (mJ.1.2.1=(0:Int)) then (if cm.1.length+[(mJ.1.2.2.2.2.1,eK,cm.2.2.2,false,eK,cm.2.2.2,())].length<=bf then (let Py:=cm.1++[(mJ.1.2.2.2.2.1,eK,cm.2.2.2,false,eK,cm.2.2.2,())];self (Py,cm.2.1,cm.2.2.1,ae (cm.2.2.2+(1:Int)))) else none) else bif decide (mJ.1.2.1=(2:Int)) then (if 0 < (List.replicate 2 (0:Int)).length then (if 1 < ((List.replicate 2 (0:Int)).set 0 eK).length then (let Pz:=gP (.arr 2 i64) cm.2.2.1 (((List.replicate 2 (0:Int)).set 0 eK).set 1 cm.2.2.2) mJ.1.2.2.2.2.1;self (cm.1,cm.2.1,Pz,ae (cm.2.2.2+(1:Int)))) else none) else none) else if cm.2.1.length+[(((0:Int),(0:Int),(0:Int),([]:List UInt8),()),eK,cm.2.2.2,true,mJ.1.2.2.1,mJ.1.2.2.2.1,())].length<=bf then (let PA:=cm.2.1++[(((0:Int),(0:Int),(0:Int),([]:List UInt8),()),eK,cm.2.2.2,true,mJ.1.2.2.1,mJ.1.2.2.2.1,())];self (cm.1,PA,cm.2.2.1,ae (cm.2.2.2+(1:Int)))) else none) else e2 (cm.1,cm.2.1,cm.2.2.1)
noncomputable abbrev B1 (_:Nat):=b1
noncomputable def q0 (self:((List Seen)×(List Seen)×(List ((List Int)×Row))×(List (List UInt8))×Int×Int)->Option Out) (e0:((List Seen)×(List Seen)×(List ((List Int)×Row)))->Option Out) (a1:Arg) (eK:Int) (dz:List UInt8) (c_:List (List UInt8)) (bS:Int) (eM:Int) (st:((List Seen)×(List Seen)×(List ((List Int)×Row)))):Option Out:=self (st.1,st.2.1,st.2.2,c_,bS,ae (eK+(1:Int)))
noncomputable abbrev Q0 (_:Nat):=q0
noncomputable def s1 (k:Nat) (rec:RT Out) (K:KT Out) (a1:Arg):Int->(List UInt8)->(List (List UInt8))->Int->Int->((List Seen)×(List Seen)×(List ((List Int)×Row))×Int)->Option Out:=fun eK dz c_ bS eM=>fun cm=>D.L k [1,1,1,0,1,0,0,1,1,0,0,1,1,0,0] [4,5,6,7,8,21,22,23,29,30] [] (af 2 (af 1 (aq (D.N k [1,1,1,0,1,0,0,1,1,1]) (dw rec (cj [4,5,6,21,22,23] []) K)))) (T1 a1 eK dz c_ bS eM cm)
noncomputable def r1 (k:Nat) (self:((List Seen)×(List Seen)×(List ((List Int)×Row))×(List (List UInt8))×Int×Int)->Option Out) (e0:((List Seen)×(List Seen)×(List ((List Int)×Row)))->Option Out) (a1:Arg):Int->(List UInt8)->(List (List UInt8))->Int->Int->((List Seen)×(List Seen)×(List ((List Int)×Row))×Int)->Option Out:=fun eK dz c_ bS eM=>ak (fun w v=>B1 k w (Q0 k self e0 a1 eK dz c_ bS eM) a1 eK dz c_ bS eM v) k
theorem f_ (k:Nat) (rec:RT Out) (K:KT Out) (a1:Arg):s1 k rec K a1=r1 k (S0 rec a1) (bt K a1) a1:=
 funext fun eK=>funext fun dz=>funext fun c_=>funext fun bS=>funext fun eM=>funext fun cm=>an _ _ _ (T1 a1 eK dz c_ bS eM) _ (fun rec v=>by kernel_rfl) k cm
noncomputable def b0 (self:((List Seen)×(List Seen)×(List ((List Int)×Row))×(List (List UInt8))×Int×Int)->Option Out) (e0:((List Seen)×(List Seen)×(List ((List Int)×Row)))->Option Out) (l1:Int->(List UInt8)->(List (List UInt8))->Int->Int->((List Seen)×(List Seen)×(List ((List Int)×Row))×Int)->Option Out) (a1:Arg) (J:(List Seen)×(List Seen)×(List ((List Int)×Row))×(List (List UInt8))×Int×Int):Option Out:=bif decide (J.2.2.2.2.2 < J.2.2.2.2.1) then (if 0<=J.2.2.2.2.2 then ((J.2.2.2.1[J.2.2.2.2.2.toNat]?).bind fun aB=>(eN.ab (aB,())).bind fun bZ=>l1 J.2.2.2.2.2 aB J.2.2.2.1 J.2.2.2.2.1 bZ.1 (J.1,J.2.1,J.2.2.1,(0:Int))) else none) else e0 (J.1,J.2.1,J.2.2.1)
noncomputable def B0 (k:Nat) (self:((List Seen)×(List Seen)×(List ((List Int)×Row))×(List (List UInt8))×Int×Int)->Option Out) (e0:((List Seen)×(List Seen)×(List ((List Int)×Row)))->Option Out) (a1:Arg) (J:(List Seen)×(List Seen)×(List ((List Int)×Row))×(List (List UInt8))×Int×Int):Option Out:=b0 self e0 (r1 k self e0 a1) a1 J
theorem f9 (k:Nat) (rec:RT Out) (K:KT Out) (a1:Arg) (J:(List Seen)×(List Seen)×(List ((List Int)×Row))×(List (List UInt8))×Int×Int):D.N k [1,1,1,0,1,0,0] (T0 a1 J) (dw rec (cj [4,5,6,21,22,23] []) K)=B0 k (S0 rec a1) (bt K a1) a1 J:=
 Eq.trans (b:=b0 (S0 rec a1) (bt K a1) (s1 k rec K a1) a1 J) (by kernel_rfl) (by rw[f_];rfl)
noncomputable def T2 (a1:Arg) (dU:List Seen) (dA:List Seen) (dC:List ((List Int)×Row)) (ed:Int) (lF:Int):St:={ n:=148,sl:=[(4,.own (.U c7) (ao (.U c7)) [] dU),(5,.own (.U c7) (ao (.U c7)) [] dA),(6,.own (.map (.arr 2 i64) aF) (ao (.map (.arr 2 i64) aF)) [] dC),(81,.ref 5 [] [0,0]),(82,.val i64 ed),(83,.val i64 lF)],vr:=[],av:=[] }
noncomputable def S2 (rec:RT Out) (a1:Arg) (dU:List Seen) (dA:List Seen) (dC:List ((List Int)×Row)) (ed:Int):(Int)->Option Out:=fun lF=>rec (T2 a1 dU dA dC ed lF)
noncomputable def GU (K:KT Out) (a1:Arg) (dU:List Seen) (dA:List Seen) (dC:List ((List Int)×Row)) (ed:Int):(Unit)->Option Out:=fun z=>K (.exit 5) ({ n:=148,sl:=[(4,.own (.U c7) (ao (.U c7)) [] dU),(5,.own (.U c7) (ao (.U c7)) [] dA),(6,.own (.map (.arr 2 i64) aF) (ao (.map (.arr 2 i64) aF)) [] dC)],vr:=[],av:=[] })
noncomputable def b2 (self:Int->Option Out) (e5:(Unit)->Option Out) (a1:Arg) (dU:List Seen) (dA:List Seen) (dC:List ((List Int)×Row)) (ed:Int) (lF:Int):Option Out:=bif decide (lF < ed) then (if 0<=lF/\lF < (dA.length:Int) then ((dA[lF.toNat]?).bind fun yJ=>if 0 < (List.replicate 2 (0:Int)).length then (if 1 < ((List.replicate 2 (0:Int)).set 0 yJ.2.2.2.2.1).length then (let Ud:=rn (dB (.arr 2 i64) dC (((List.replicate 2 (0:Int)).set 0 yJ.2.2.2.2.1).set 1 yJ.2.2.2.2.2.1)) ((0:Int),(0:Int),(0:Int),([]:List UInt8),());bif !(dB (.arr 2 i64) dC (((List.replicate 2 (0:Int)).set 0 yJ.2.2.2.2.1).set 1 yJ.2.2.2.2.2.1)).isSome then (some (([]:List Seen),(4:Int),())) else self (ae (lF+(1:Int)))) else none) else none) else none) else e5 ()
noncomputable abbrev B2 (_:Nat):=b2
theorem GH (k:Nat) (rec:RT Out) (K:KT Out) (a1:Arg) (dU:List Seen) (dA:List Seen) (dC:List ((List Int)×Row)) (ed:Int) (lF:Int):D.N k [1,1,1,1,0,1,0,0] (T2 a1 dU dA dC ed lF) (dw rec (cj [4,5,6,81,82,83] []) K)=b2 (S2 rec a1 dU dA dC ed) (GU K a1 dU dA dC ed) a1 dU dA dC ed lF:=by kernel_rfl
noncomputable def T3 (a1:Arg) (dV:List Seen) (ee:List ((List Int)×Row)) (ef:Int) (iI:(List Seen)×(List ((List Int)×Bool))×Int):St:={ n:=148,sl:=[(4,.own (.U c7) (ao (.U c7)) [] iI.1),(5,.own (.U c7) (ao (.U c7)) [] dV),(6,.own (.map (.arr 2 i64) aF) (ao (.map (.arr 2 i64) aF)) [] ee),(15,.own (.map (.arr 2 i64) .bool) (ao (.map (.arr 2 i64) .bool)) [] iI.2.1),(101,.ref 5 [] [0,0]),(102,.val i64 ef),(103,.val i64 iI.2.2)],vr:=[],av:=[] }
noncomputable def S3 (rec:RT Out) (a1:Arg) (dV:List Seen) (ee:List ((List Int)×Row)) (ef:Int):((List Seen)×(List ((List Int)×Bool))×Int)->Option Out:=fun iI=>rec (T3 a1 dV ee ef iI)
noncomputable def GV (K:KT Out) (a1:Arg) (dV:List Seen) (ee:List ((List Int)×Row)) (ef:Int):(List Seen)->Option Out:=fun z=>K (.exit 7) ({ n:=148,sl:=[(4,.own (.U c7) (ao (.U c7)) [] z)],vr:=[],av:=[] })
noncomputable def b3 (self:((List Seen)×(List ((List Int)×Bool))×Int)->Option Out) (e7:(List Seen)->Option Out) (a1:Arg) (dV:List Seen) (ee:List ((List Int)×Row)) (ef:Int) (iI:(List Seen)×(List ((List Int)×Bool))×Int):Option Out:=bif decide (iI.2.2 < ef) then (if 0<=iI.2.2/\iI.2.2 < (dV.length:Int) then ((dV[iI.2.2.toNat]?).bind fun yK=>if 0 < (List.replicate 2 (0:Int)).length then (if 1 < ((List.replicate 2 (0:Int)).set 0 yK.2.2.2.2.1).length then (let GW:=((List.replicate 2 (0:Int)).set 0 yK.2.2.2.2.1).set 1 yK.2.2.2.2.2.1;bif rn (dB (.arr 2 i64) iI.2.1 GW) false then (some (([]:List Seen),(6:Int),())) else let L5:=rn (dB (.arr 2 i64) ee GW) ((0:Int),(0:Int),(0:Int),([]:List UInt8),());if iI.1.length+[(L5,yK.2)].length<=bf then (self (iI.1++[(L5,yK.2)],gP (.arr 2 i64) iI.2.1 GW true,ae (iI.2.2+(1:Int)))) else none) else none) else none) else none) else e7 iI.1
noncomputable abbrev B3 (_:Nat):=b3
theorem PB (k:Nat) (rec:RT Out) (K:KT Out) (a1:Arg) (dV:List Seen) (ee:List ((List Int)×Row)) (ef:Int) (iI:(List Seen)×(List ((List Int)×Bool))×Int):D.N k [1,1,1,1,1,1,0,1,0,0] (T3 a1 dV ee ef iI) (dw rec (cj [4,5,6,15,101,102,103] []) K)=b3 (S3 rec a1 dV ee ef) (GV K a1 dV ee ef) a1 dV ee ef iI:=by kernel_rfl
noncomputable def T4 (a1:Arg) (lG:List Seen) (mK:Int):St:={ n:=148,sl:=[(4,.own (.U c7) (ao (.U c7)) [] lG),(19,.val i64 mK)],vr:=[],av:=[] }
noncomputable def b4 (self:Int->Option Out) (e9:(Unit)->Option Out) (a1:Arg) (lG:List Seen) (mK:Int):Option Out:=bif decide (mK < (lG.length:Int)) then (if 0<=ae (mK - (1:Int))/\ae (mK - (1:Int)) < (lG.length:Int) then ((lG[(ae (mK - (1:Int))).toNat]?).bind fun PC=>if 0<=mK/\mK < (lG.length:Int) then ((lG[mK.toNat]?).bind fun PD=>(dJ.ab (PC.1,PD.1,())).bind fun PE=>bif !PE.1 then (some (([]:List Seen),(8:Int),())) else self (ae (mK+(1:Int)))) else none) else none) else e9 ()
noncomputable abbrev B4 (_:Nat):=b4
noncomputable def q4 (a1:Arg) (lG:List Seen) (Ue:(Unit)):Option Out:=some (lG,(0:Int),())
noncomputable abbrev Q4 (_:Nat):=q4
noncomputable def s4 (k:Nat) (a1:Arg) (dV:List Seen) (ee:List ((List Int)×Row)) (ef:Int):(List Seen)->(Int)->Option Out:=fun lG=>fun mK=>D.L k [1,1,1,1,1,1,1,1,0,1,0,0] [4,19] [] (af 9 (aq (D.N k [1,1,1,1,1,1,1,1,1]) D.K0)) (T4 a1 lG mK)
noncomputable def r4 (k:Nat) (a1:Arg) (dV:List Seen) (ee:List ((List Int)×Row)) (ef:Int):(List Seen)->(Int)->Option Out:=fun lG=>ak (fun w v=>B4 k w (Q4 k a1 lG) a1 lG v) k
theorem PG (k:Nat) (a1:Arg) (dV:List Seen) (ee:List ((List Int)×Row)) (ef:Int):s4 k a1 dV ee ef=r4 k a1 dV ee ef:=
 funext fun lG=>funext fun mK=>an _ _ _ (T4 a1 lG) _ (fun rec v=>by kernel_rfl) k mK
noncomputable def q3 (l4:(List Seen)->(Int)->Option Out) (a1:Arg) (dV:List Seen) (ee:List ((List Int)×Row)) (ef:Int) (ue:(List Seen)):Option Out:=(iH.ab (ue,((200,0):Nat×Int),())).bind fun PH=>l4 PH.1 (1:Int)
noncomputable def Q3 (k:Nat) (a1:Arg) (dV:List Seen) (ee:List ((List Int)×Row)) (ef:Int) (ue:(List Seen)):Option Out:=q3 (r4 k a1 dV ee ef) a1 dV ee ef ue
theorem GI (k:Nat) (a1:Arg) (dV:List Seen) (ee:List ((List Int)×Row)) (ef:Int) (ue:(List Seen)):GV (af 7 (aq (D.N k [1,1,1,1,1,1,1]) D.K0)) a1 dV ee ef ue=Q3 k a1 dV ee ef ue:=
 Eq.trans (b:=q3 (s4 k a1 dV ee ef) a1 dV ee ef ue) (by kernel_rfl) (by rw[PG];rfl)
noncomputable def s3 (k:Nat) (a1:Arg) (dU:List Seen) (dA:List Seen) (dC:List ((List Int)×Row)) (ed:Int):(List Seen)->(List ((List Int)×Row))->Int->((List Seen)×(List ((List Int)×Bool))×Int)->Option Out:=fun dV ee ef=>fun iI=>D.L k [1,1,1,1,1,1,0,1,0,0] [4,5,6,15,101,102,103] [] (af 7 (aq (D.N k [1,1,1,1,1,1,1]) D.K0)) (T3 a1 dV ee ef iI)
noncomputable def r3 (k:Nat) (a1:Arg) (dU:List Seen) (dA:List Seen) (dC:List ((List Int)×Row)) (ed:Int):(List Seen)->(List ((List Int)×Row))->Int->((List Seen)×(List ((List Int)×Bool))×Int)->Option Out:=fun dV ee ef=>ak (fun w v=>B3 k w (Q3 k a1 dV ee ef) a1 dV ee ef v) k
theorem GG (k:Nat) (a1:Arg) (dU:List Seen) (dA:List Seen) (dC:List ((List Int)×Row)) (ed:Int):s3 k a1 dU dA dC ed=r3 k a1 dU dA dC ed:=by
 funext dV;funext ee;funext ef;funext iI;
 have h7:GV (af 7 (aq (D.N k [1,1,1,1,1,1,1]) D.K0)) a1 dV ee ef=Q3 k a1 dV ee ef:=funext fun z=>GI k a1 dV ee ef z
 refine (an _ _ _ (T3 a1 dV ee ef) (fun self v=>B3 k self (GV (af 7 (aq (D.N k [1,1,1,1,1,1,1]) D.K0)) a1 dV ee ef) a1 dV ee ef v) (fun rec v=>PB k rec (af 7 (aq (D.N k [1,1,1,1,1,1,1]) D.K0)) a1 dV ee ef v) k iI).trans ?_
 rw[h7]
 rfl
noncomputable def q2 (l3:(List Seen)->(List ((List Int)×Row))->Int->((List Seen)×(List ((List Int)×Bool))×Int)->Option Out) (a1:Arg) (dU:List Seen) (dA:List Seen) (dC:List ((List Int)×Row)) (ed:Int) (wB:(Unit)):Option Out:=l3 dA dC (dA.length:Int) (dU,([]:List ((List Int)×Bool)),(0:Int))
noncomputable def Q2 (k:Nat) (a1:Arg) (dU:List Seen) (dA:List Seen) (dC:List ((List Int)×Row)) (ed:Int) (wB:(Unit)):Option Out:=q2 (r3 k a1 dU dA dC ed) a1 dU dA dC ed wB
theorem ny (k:Nat) (a1:Arg) (dU:List Seen) (dA:List Seen) (dC:List ((List Int)×Row)) (ed:Int) (wB:(Unit)):GU (af 5 (aq (D.N k [1,1,1,1,1]) D.K0)) a1 dU dA dC ed wB=Q2 k a1 dU dA dC ed wB:=
 Eq.trans (b:=q2 (s3 k a1 dU dA dC ed) a1 dU dA dC ed wB) (by kernel_rfl) (by rw[GG];rfl)
noncomputable def s2 (k:Nat) (a1:Arg):(List Seen)->(List Seen)->(List ((List Int)×Row))->Int->(Int)->Option Out:=fun dU dA dC ed=>fun lF=>D.L k [1,1,1,1,0,1,0,0] [4,5,6,81,82,83] [] (af 5 (aq (D.N k [1,1,1,1,1]) D.K0)) (T2 a1 dU dA dC ed lF)
noncomputable def r2 (k:Nat) (a1:Arg):(List Seen)->(List Seen)->(List ((List Int)×Row))->Int->(Int)->Option Out:=fun dU dA dC ed=>ak (fun w v=>B2 k w (Q2 k a1 dU dA dC ed) a1 dU dA dC ed v) k
theorem k9 (k:Nat) (a1:Arg):s2 k a1=r2 k a1:=by
 funext dU;funext dA;funext dC;funext ed;funext lF;
 have h5:GU (af 5 (aq (D.N k [1,1,1,1,1]) D.K0)) a1 dU dA dC ed=Q2 k a1 dU dA dC ed:=funext fun z=>ny k a1 dU dA dC ed z
 refine (an _ _ _ (T2 a1 dU dA dC ed) (fun self v=>B2 k self (GU (af 5 (aq (D.N k [1,1,1,1,1]) D.K0)) a1 dU dA dC ed) a1 dU dA dC ed v) (fun rec v=>GH k rec (af 5 (aq (D.N k [1,1,1,1,1]) D.K0)) a1 dU dA dC ed v) k lF).trans ?_
 rw[h5]
 rfl
noncomputable def q1 (l2:(List Seen)->(List Seen)->(List ((List Int)×Row))->Int->(Int)->Option Out) (a1:Arg) (pR:((List Seen)×(List Seen)×(List ((List Int)×Row)))):Option Out:=l2 pR.1 pR.2.1 pR.2.2 (pR.2.1.length:Int) (0:Int)
noncomputable def Q1 (k:Nat) (a1:Arg) (pR:((List Seen)×(List Seen)×(List ((List Int)×Row)))):Option Out:=q1 (r2 k a1) a1 pR
theorem l_ (k:Nat) (a1:Arg) (pR:((List Seen)×(List Seen)×(List ((List Int)×Row)))):bt (af 0 (aq (D.N k [1,1,1,1]) D.K0)) a1 pR=Q1 k a1 pR:=
 Eq.trans (b:=q1 (s2 k a1) a1 pR) (by kernel_rfl) (by rw[k9];rfl)
noncomputable def s0 (k:Nat) (a1:Arg):((List Seen)×(List Seen)×(List ((List Int)×Row))×(List (List UInt8))×Int×Int)->Option Out:=fun J=>D.L k [1,1,1,0,1,0,0] [4,5,6,21,22,23] [] (af 0 (aq (D.N k [1,1,1,1]) D.K0)) (T0 a1 J)
noncomputable def r0 (k:Nat) (a1:Arg):((List Seen)×(List Seen)×(List ((List Int)×Row))×(List (List UInt8))×Int×Int)->Option Out:=ak (fun w v=>B0 k w (Q1 k a1) a1 v) k
theorem au (k:Nat) (a1:Arg):s0 k a1=r0 k a1:=by
 funext J;
 have h0:bt (af 0 (aq (D.N k [1,1,1,1]) D.K0)) a1=Q1 k a1:=funext fun z=>l_ k a1 z
 refine (an _ _ _ (T0 a1) (fun self v=>B0 k self (bt (af 0 (aq (D.N k [1,1,1,1]) D.K0)) a1) a1 v) (fun rec v=>f9 k rec (af 0 (aq (D.N k [1,1,1,1]) D.K0)) a1 v) k J).trans ?_
 rw[h0]
 rfl
noncomputable def p (l0:((List Seen)×(List Seen)×(List ((List Int)×Row))×(List (List UInt8))×Int×Int)->Option Out) (a1:Arg):Option Out:=l0 (([]:List Seen),([]:List Seen),([]:List ((List Int)×Row)),a1.1,(a1.1.length:Int),(0:Int))
theorem aa (k:Nat) (a1:Arg):@Eq (Option Out) (D.W k a1) (p (r0 k a1) a1):=
 Eq.trans (b:=p (s0 k a1) a1) (by kernel_rfl) (by rw[au])
theorem ok:Ok prog 131 D.sig:=ap func131 aA (by kernel_rfl) (fc eN.ok (fc gv.ok (fc ec.ok (fc gR.ok (fc iH.ok (fc dJ.ok (al _)))))))
end aI
namespace cu
abbrev Arg:Type:=(List (List UInt8))×Unit
abbrev Out:Type:=(List Seen)×Int×Unit
abbrev ps:PQ:=[(.ro,(.U (.U u8)))]
noncomputable def D:FD:={ fn:=f62,tl:=aK,ps:=ps,rs:=[((.U c7),(ao (.U c7))),(i64,(ax i64))],gl:=[(126,aJ.D.sig),(127,eN.D.sig),(128,gv.D.sig),(129,ec.D.sig),(130,gR.D.sig),(131,aI.D.sig)],lv:=[(4,[0,11,12,13]),(10,[0,5,11,12,13,23,24])],lx:=[(0,[0]),(2,[0,11,12,13])] }
noncomputable def ab (a:Arg):Option Out:=@lift Out fun k=>D.W k a
noncomputable def T0 (a1:Arg) (J:(List (List UInt8))×(List (List UInt8))×Int×Int):St:={ n:=44,sl:=[(0,.val (.U (.U u8)) J.1),(11,.val (.U (.U u8)) J.2.1),(12,.val i64 J.2.2.1),(13,.val i64 J.2.2.2)],vr:=[],av:=[] }
noncomputable def S0 (rec:RT Out) (a1:Arg):((List (List UInt8))×(List (List UInt8))×Int×Int)->Option Out:=fun J=>rec (T0 a1 J)
noncomputable def bt (K:KT Out) (a1:Arg):(List (List UInt8))->Option Out:=fun z=>K (.exit 0) ({ n:=44,sl:=[(0,.val (.U (.U u8)) z)],vr:=[],av:=[] })
noncomputable def T1 (a1:Arg) (dz:List (List UInt8)) (c_:List UInt8) (bS:List (List UInt8)) (eM:Int) (iA:Int) (o9:Int) (bO:Int):St:={ n:=44,sl:=[(0,.val (.U (.U u8)) dz),(5,.val (.U u8) c_),(11,.val (.U (.U u8)) bS),(12,.val i64 eM),(13,.val i64 iA),(23,.val i64 o9),(24,.val i64 bO)],vr:=[],av:=[] }
noncomputable def b1 (self:Int->Option Out) (e2:(Unit)->Option Out) (a1:Arg) (dz:List (List UInt8)) (c_:List UInt8) (bS:List (List UInt8)) (eM:Int) (iA:Int) (o9:Int) (bO:Int):Option Out:=bif decide (bO < o9) then ((gv.ab (c_,bO,())).bind fun mJ=>bif mJ.1 then ((gR.ab (c_,bO,())).bind fun yF=>(ec.ab (yF.1,())).bind fun PI=>bif !decide (PI.1.1=(0:Int)) then (some (([]:List Seen),(5:Int),())) else self (ae (bO+(1:Int)))) else self (ae (bO+(1:Int)))) else e2 ()
noncomputable abbrev B1 (_:Nat):=b1
noncomputable def q0 (self:((List (List UInt8))×(List (List UInt8))×Int×Int)->Option Out) (e0:(List (List UInt8))->Option Out) (a1:Arg) (dz:List (List UInt8)) (c_:List UInt8) (bS:List (List UInt8)) (eM:Int) (iA:Int) (o9:Int) (By:(Unit)):Option Out:=self (dz,bS,eM,ae (iA+(1:Int)))
noncomputable abbrev Q0 (_:Nat):=q0
noncomputable def s1 (k:Nat) (rec:RT Out) (K:KT Out) (a1:Arg):(List (List UInt8))->(List UInt8)->(List (List UInt8))->Int->Int->Int->(Int)->Option Out:=fun dz c_ bS eM iA o9=>fun bO=>D.L k [1,1,0,1,0,0,1,1,0,0,1,1,1,0,0] [0,5,11,12,13,23,24] [] (af 2 (af 1 (aq (D.N k [1,1,0,1,0,0,1,1,1]) (dw rec (cj [0,11,12,13] []) K)))) (T1 a1 dz c_ bS eM iA o9 bO)
noncomputable def r1 (k:Nat) (self:((List (List UInt8))×(List (List UInt8))×Int×Int)->Option Out) (e0:(List (List UInt8))->Option Out) (a1:Arg):(List (List UInt8))->(List UInt8)->(List (List UInt8))->Int->Int->Int->(Int)->Option Out:=fun dz c_ bS eM iA o9=>ak (fun w v=>B1 k w (Q0 k self e0 a1 dz c_ bS eM iA o9) a1 dz c_ bS eM iA o9 v) k
theorem f_ (k:Nat) (rec:RT Out) (K:KT Out) (a1:Arg):s1 k rec K a1=r1 k (S0 rec a1) (bt K a1) a1:=
 funext fun dz=>funext fun c_=>funext fun bS=>funext fun eM=>funext fun iA=>funext fun o9=>funext fun bO=>an _ _ _ (T1 a1 dz c_ bS eM iA o9) _ (fun rec v=>by kernel_rfl) k bO
noncomputable def b0 (self:((List (List UInt8))×(List (List UInt8))×Int×Int)->Option Out) (e0:(List (List UInt8))->Option Out) (l1:(List (List UInt8))->(List UInt8)->(List (List UInt8))->Int->Int->Int->(Int)->Option Out) (a1:Arg) (J:(List (List UInt8))×(List (List UInt8))×Int×Int):Option Out:=bif decide (J.2.2.2 < J.2.2.1) then (if 0<=J.2.2.2 then ((J.2.1[J.2.2.2.toNat]?).bind fun aB=>(aJ.ab (aB,())).bind fun bZ=>bif !decide (bZ.1=(0:Int)) then (some (([]:List Seen),bZ.1,())) else (eN.ab (aB,())).bind fun gQ=>l1 J.1 aB J.2.1 J.2.2.1 J.2.2.2 gQ.1 (0:Int)) else none) else e0 J.1
noncomputable def B0 (k:Nat) (self:((List (List UInt8))×(List (List UInt8))×Int×Int)->Option Out) (e0:(List (List UInt8))->Option Out) (a1:Arg) (J:(List (List UInt8))×(List (List UInt8))×Int×Int):Option Out:=b0 self e0 (r1 k self e0 a1) a1 J
theorem f9 (k:Nat) (rec:RT Out) (K:KT Out) (a1:Arg) (J:(List (List UInt8))×(List (List UInt8))×Int×Int):D.N k [1,1,0,1,0,0] (T0 a1 J) (dw rec (cj [0,11,12,13] []) K)=B0 k (S0 rec a1) (bt K a1) a1 J:=
 Eq.trans (b:=b0 (S0 rec a1) (bt K a1) (s1 k rec K a1) a1 J) (by kernel_rfl) (by rw[f_];rfl)
noncomputable def q1 (a1:Arg) (st:(List (List UInt8))):Option Out:=(aI.ab (st,())).bind fun L6=>some (L6.1,L6.2.1,())
noncomputable abbrev Q1 (_:Nat):=q1
theorem l_ (k:Nat) (a1:Arg) (st:(List (List UInt8))):bt (af 0 (aq (D.N k [1,1,1]) D.K0)) a1 st=q1 a1 st:=by kernel_rfl
noncomputable def s0 (k:Nat) (a1:Arg):((List (List UInt8))×(List (List UInt8))×Int×Int)->Option Out:=fun J=>D.L k [1,1,0,1,0,0] [0,11,12,13] [] (af 0 (aq (D.N k [1,1,1]) D.K0)) (T0 a1 J)
noncomputable def r0 (k:Nat) (a1:Arg):((List (List UInt8))×(List (List UInt8))×Int×Int)->Option Out:=ak (fun w v=>B0 k w (Q1 k a1) a1 v) k
theorem au (k:Nat) (a1:Arg):s0 k a1=r0 k a1:=by
 funext J;
 have h0:bt (af 0 (aq (D.N k [1,1,1]) D.K0)) a1=Q1 k a1:=funext fun z=>l_ k a1 z
 refine (an _ _ _ (T0 a1) (fun self v=>B0 k self (bt (af 0 (aq (D.N k [1,1,1]) D.K0)) a1) a1 v) (fun rec v=>f9 k rec (af 0 (aq (D.N k [1,1,1]) D.K0)) a1 v) k J).trans ?_
 rw[h0]
 rfl
noncomputable def p (l0:((List (List UInt8))×(List (List UInt8))×Int×Int)->Option Out) (a1:Arg):Option Out:=bif decide ((12:Int) < (a1.1.length:Int)) then (some (([]:List Seen),(2:Int),())) else l0 (a1.1,a1.1,(a1.1.length:Int),(0:Int))
theorem aa (k:Nat) (a1:Arg):@Eq (Option Out) (D.W k a1) (p (r0 k a1) a1):=
 Eq.trans (b:=p (s0 k a1) a1) (by kernel_rfl) (by rw[au])
theorem ok:Ok prog 62 D.sig:=ap func62 aA (by kernel_rfl) (fc aJ.ok (fc eN.ok (fc gv.ok (fc ec.ok (fc gR.ok (fc aI.ok (al _)))))))
end cu
namespace ei
abbrev Arg:Type:=(List Row)×Unit
abbrev Out:Type:=(List Row)×Unit
abbrev ps:PQ:=[(.ro,(.U aF))]
noncomputable def D:FD:={ fn:=f183,tl:=aK,ps:=ps,rs:=[((.U aF),(ao (.U aF)))] }
noncomputable def ab (a:Arg):Option Out:=@lift Out fun k=>D.W k a
noncomputable def p (a1:Arg):Option Out:=uX a1.1 (some (([]:List Row),())) (if ([]:List Row).length+a1.1.length<=bf then (some (([]:List Row)++a1.1,())) else none)
theorem aa (k:Nat) (a1:Arg):@Eq (Option Out) (D.W k a1) (p a1):=by kernel_rfl
theorem ok:Ok prog 183 D.sig:=ap func183 aA (by kernel_rfl) (al _)
end ei
namespace bX
abbrev Arg:Type:=(List Row)×Unit
abbrev Out:Type:=Int×Unit
abbrev ps:PQ:=[(.ro,(.U aF))]
noncomputable def D:FD:={ fn:=f132,tl:=aK,ps:=ps,rs:=[(i64,(ax i64))],gl:=[(198,bv.D.sig),(202,dJ.D.sig)],lv:=[(4,[0,9,10,11])],lx:=[(0,[])],od:=[(9,[0,1,2,3,4,5,6,7,8,9,10,11])] }
noncomputable def ab (a:Arg):Option Out:=@lift Out fun k=>D.W k a
noncomputable def T0 (a1:Arg) (J:Int):St:={ n:=34,sl:=[(0,.val (.U aF) a1.1),(9,.val (.U aF) a1.1),(10,.val i64 (a1.1.length:Int)),(11,.val i64 J)],vr:=[],av:=[] }
noncomputable def b0 (self:Int->Option Out) (e0:(Unit)->Option Out) (a1:Arg) (J:Int):Option Out:=bif decide (J < (a1.1.length:Int)) then (if 0<=J then ((a1.1[J.toNat]?).bind fun aB=>(bv.ab (aB,())).bind fun bZ=>bif !decide (bZ.1=(0:Int)) then (some (bZ.1,())) else bif decide ((0:Int) < J) then (if 0<=ae (J - (1:Int)) then ((a1.1[(ae (J - (1:Int))).toNat]?).bind fun cE=>(dJ.ab (cE,aB,())).bind fun kE=>bif !kE.1 then (some ((1:Int),())) else self (ae (J+(1:Int)))) else none) else self (ae (J+(1:Int)))) else none) else e0 ()
noncomputable abbrev B0 (_:Nat):=b0
noncomputable def q0 (a1:Arg) (gq:(Unit)):Option Out:=some ((0:Int),())
noncomputable abbrev Q0 (_:Nat):=q0
noncomputable def s0 (k:Nat) (a1:Arg):(Int)->Option Out:=fun J=>D.L k [1,1,0,1,0,0] [0,9,10,11] [] (af 0 (aq (D.N k [1,1,1]) D.K0)) (T0 a1 J)
noncomputable def r0 (k:Nat) (a1:Arg):(Int)->Option Out:=ak (fun w v=>B0 k w (Q0 k a1) a1 v) k
theorem au (k:Nat) (a1:Arg):s0 k a1=r0 k a1:=
 funext fun J=>an _ _ _ (T0 a1) _ (fun rec v=>by kernel_rfl) k J
noncomputable def p (l0:(Int)->Option Out) (a1:Arg):Option Out:=bif decide ((60:Int) < (a1.1.length:Int)) then (some ((2:Int),())) else l0 (0:Int)
theorem aa (k:Nat) (a1:Arg):@Eq (Option Out) (D.W k a1) (p (r0 k a1) a1):=
 Eq.trans (b:=p (s0 k a1) a1) (by kernel_rfl) (by rw[au])
theorem ok:Ok prog 132 D.sig:=ap func132 aA (by kernel_rfl) (fc bv.ok (fc dJ.ok (al _)))
end bX
namespace ej
abbrev Arg:Type:=Change×Unit
abbrev Out:Type:=Int×Unit
abbrev ps:PQ:=[(.ro,am)]
noncomputable def D:FD:={ fn:=f250,tl:=aK,ps:=ps,rs:=[(i64,(ax i64))],gl:=[(198,bv.D.sig),(201,fe.D.sig)] }
noncomputable def ab (a:Arg):Option Out:=@lift Out fun k=>D.W k a
noncomputable def p (a1:Arg):Option Out:=let j7:Option Out:=bif a1.1.1 then ((bv.ab (a1.1.2.1,())).bind fun r8=>bif !decide (r8.1=(0:Int)) then (some (r8.1,())) else bif a1.1.2.2.1 then ((bv.ab (a1.1.2.2.2.1,())).bind fun C6=>some (C6.1,())) else some ((0:Int),())) else bif a1.1.2.2.1 then ((bv.ab (a1.1.2.2.2.1,())).bind fun Ox=>some (Ox.1,())) else some ((0:Int),());bif !a1.1.1 then (bif !a1.1.2.2.1 then (some ((1:Int),())) else bif a1.1.1 then (bif a1.1.2.2.1 then ((fe.ab (a1.1.2.1,a1.1.2.2.2.1,())).bind fun r2=>bif !decide (r2.1=(0:Int)) then (some ((1:Int),())) else j7) else j7) else j7) else bif a1.1.1 then (bif a1.1.2.2.1 then ((fe.ab (a1.1.2.1,a1.1.2.2.2.1,())).bind fun r3=>bif !decide (r3.1=(0:Int)) then (some ((1:Int),())) else j7) else j7) else j7
theorem aa (k:Nat) (a1:Arg):@Eq (Option Out) (D.W k a1) (p a1):=by kernel_rfl
theorem ok:Ok prog 250 D.sig:=ap func250 aA (by kernel_rfl) (fc bv.ok (fc fe.ok (al _)))
end ej
namespace cT
abbrev Arg:Type:=Change×Unit
abbrev Out:Type:=Row×Unit
abbrev ps:PQ:=[(.ro,am)]
noncomputable def D:FD:={ fn:=f284,tl:=aK,ps:=ps,rs:=[(aF,(ax aF))] }
noncomputable def ab (a:Arg):Option Out:=@lift Out fun k=>D.W k a
noncomputable def p (a1:Arg):Option Out:=bif a1.1.2.2.1 then (some (a1.1.2.2.2.1,())) else some (a1.1.2.1,())
theorem aa (k:Nat) (a1:Arg):@Eq (Option Out) (D.W k a1) (p a1):=by kernel_rfl
theorem ok:Ok prog 284 D.sig:=ap func284 aA (by kernel_rfl) (al _)
end cT
namespace aG
abbrev Arg:Type:=(List Row)×Row×(Nat×Int)×Unit
abbrev Out:Type:=Int×Bool×Unit
abbrev ps:PQ:=[(.ro,(.U aF)),(.ro,aF),(.fix 201,.fn)]
noncomputable def D:FD:={ fn:=f294,tl:=aK,ps:=ps,rs:=[(i64,(ax i64)),(.bool,(ax .bool))],gl:=[(201,fe.D.sig)],lv:=[(3,[0,2,4,8,9,10])],lx:=[(0,[0,2,4,8,9])],od:=[(5,[0,1,2,3,4,5,6,7]),(8,[0,1,2,3,4,5,6,7,8,9,10,11,12,13,14,15])] }
noncomputable def ab (a:Arg):Option Out:=@lift Out fun k=>D.W k a
noncomputable def T0 (a1:Arg) (J:Int×Int):St:={ n:=49,sl:=[(0,.val (.U aF) a1.1),(2,.val .fn ((201,a1.2.2.1.2):Nat×Int)),(4,.box aF (ax aF) [] a1.2.1),(8,.val i64 (a1.1.length:Int)),(9,.val i64 J.1),(10,.val i64 J.2)],vr:=[],av:=[] }
noncomputable def b0 (self:(Int×Int)->Option Out) (e0:Int->Option Out) (a1:Arg) (J:Int×Int):Option Out:=bif decide (J.1 < J.2) then (if 0<=ae ((IntKind.wrap .u64 (ae (J.1+J.2))).fdiv (2 ^ 1)) then ((a1.1[(ae ((IntKind.wrap .u64 (ae (J.1+J.2))).fdiv (2 ^ 1))).toNat]?).bind fun aB=>(fe.ab (aB,a1.2.1,())).bind fun bZ=>bif decide (bZ.1 < (0:Int)) then (self (ae ((ae ((IntKind.wrap .u64 (ae (J.1+J.2))).fdiv (2 ^ 1)))+(1:Int)),J.2)) else self (J.1,ae ((IntKind.wrap .u64 (ae (J.1+J.2))).fdiv (2 ^ 1)))) else none) else e0 J.1
noncomputable abbrev B0 (_:Nat):=b0
noncomputable def q0 (a1:Arg) (bN:Int):Option Out:=bif decide (bN < (a1.1.length:Int)) then (if 0<=bN then ((a1.1[bN.toNat]?).bind fun ne=>(fe.ab (ne,a1.2.1,())).bind fun iB=>some (bN,decide (iB.1=(0:Int)),())) else none) else some (bN,false,())
noncomputable abbrev Q0 (_:Nat):=q0
noncomputable def s0 (k:Nat) (a1:Arg):(Int×Int)->Option Out:=fun J=>D.L k [1,1,1,0,0,0] [0,2,4,8,9,10] [] (af 0 (aq (D.N k [1,1,1,1]) D.K0)) (T0 a1 J)
noncomputable def r0 (k:Nat) (a1:Arg):(Int×Int)->Option Out:=ak (fun w v=>B0 k w (Q0 k a1) a1 v) k
theorem au (k:Nat) (a1:Arg):s0 k a1=r0 k a1:=
 funext fun J=>an _ _ _ (T0 a1) _ (fun rec v=>by kernel_rfl) k J
noncomputable def p (l0:(Int×Int)->Option Out) (a1:Arg):Option Out:=l0 ((0:Int),(a1.1.length:Int))
theorem aa (k:Nat) (a1:Arg):@Eq (Option Out) (D.W k a1) (p (r0 k a1) a1):=
 Eq.trans (b:=p (s0 k a1) a1) (by kernel_rfl) (by rw[au])
theorem ok:Ok prog 294 D.sig:=ap func294 aA (by kernel_rfl) (fc fe.ok (al _))
end aG
namespace fG
abbrev Arg:Type:=Change×(List Row)×Unit
abbrev Out:Type:=Bool×Unit
abbrev ps:PQ:=[(.ro,am),(.ro,(.U aF))]
noncomputable def D:FD:={ fn:=f251,tl:=aK,ps:=ps,rs:=[(.bool,(ax .bool))],gl:=[(284,cT.D.sig),(294,aG.D.sig)],od:=[(2,[0,1,2,3,4,5,6,7,8,9,10,11,12,13,14,15,16,17])] }
noncomputable def ab (a:Arg):Option Out:=@lift Out fun k=>D.W k a
noncomputable def p (a1:Arg):Option Out:=(cT.ab (a1.1,())).bind fun r2=>(aG.ab (a1.2.1,r2.1,((201,0):Nat×Int),())).bind fun r3=>bif (r3.2.1 == a1.1.1) then (bif !r3.2.1 then (some (true,())) else if 0<=r3.1 then ((a1.2.1[r3.1.toNat]?).bind fun x4=>some ((Ty.eq aF x4 a1.1.2.1),())) else none) else some (false,())
theorem aa (k:Nat) (a1:Arg):@Eq (Option Out) (D.W k a1) (p a1):=by kernel_rfl
theorem ok:Ok prog 251 D.sig:=ap func251 aA (by kernel_rfl) (fc cT.ok (fc aG.ok (al _)))
end fG
namespace jD
abbrev Arg:Type:=(List Row)×Change×Unit
abbrev Out:Type:=(List Row)×Unit
abbrev ps:PQ:=[(.ro,(.U aF)),(.ro,am)]
noncomputable def D:FD:={ fn:=f252,tl:=aK,ps:=ps,rs:=[((.U aF),(ao (.U aF)))],gl:=[(284,cT.D.sig),(294,aG.D.sig)] }
noncomputable def ab (a:Arg):Option Out:=@lift Out fun k=>D.W k a
noncomputable def p (a1:Arg):Option Out:=(cT.ab (a1.2.1,())).bind fun r2=>(aG.ab (a1.1,r2.1,((201,0):Nat×Int),())).bind fun r3=>if 0<=r3.1/\r3.1<=(a1.1.length:Int) then (if ([]:List Row).length+((a1.1.take r3.1.toNat).drop 0).length<=bf then (let y4:=([]:List Row)++((a1.1.take r3.1.toNat).drop 0);let j8:=fun (p7:List Row)=>(let QS:=fun (L7:Int)=>(if 0<=L7/\L7<=(a1.1.length:Int) then (if p7.length+((a1.1.take a1.1.length).drop L7.toNat).length<=bf then (let TM:=p7++((a1.1.take a1.1.length).drop L7.toNat);some (TM,())) else none) else none:Option Out);bif r3.2.1 then (QS (ae (r3.1+(1:Int)))) else QS r3.1:Option Out);bif a1.2.1.2.2.1 then (if y4.length+[a1.2.1.2.2.2.1].length<=bf then (j8 (y4++[a1.2.1.2.2.2.1])) else none) else j8 y4) else none) else none
theorem aa (k:Nat) (a1:Arg):@Eq (Option Out) (D.W k a1) (p a1):=by kernel_rfl
theorem ok:Ok prog 252 D.sig:=ap func252 aA (by kernel_rfl) (fc cT.ok (fc aG.ok (al _)))
end jD
namespace cb
abbrev Arg:Type:=(List Row)×(List Change)×Unit
abbrev Out:Type:=qJ×Unit
abbrev ps:PQ:=[(.ro,(.U aF)),(.ro,(.U am))]
noncomputable def D:FD:={ fn:=f184,tl:=aK,ps:=ps,rs:=[(nR,(ao nR))],gl:=[(132,bX.D.sig),(183,ei.D.sig),(250,ej.D.sig),(251,fG.D.sig),(252,jD.D.sig)],lv:=[(6,[4,6,18,19,20])],lx:=[(0,[4,6])] }
noncomputable def ab (a:Arg):Option Out:=@lift Out fun k=>D.W k a
noncomputable def T0 (a1:Arg) (iu:(List Row)×Int):St:={ n:=45,sl:=[(4,.box nR (ao nR) [] ((0:Int),([]:List Row),())),(6,.own (.U aF) (ao (.U aF)) [] iu.1),(18,.val (.U am) a1.2.1),(19,.val i64 (a1.2.1.length:Int)),(20,.val i64 iu.2)],vr:=[],av:=[] }
noncomputable def b0 (self:((List Row)×Int)->Option Out) (e0:(List Row)->Option Out) (a1:Arg) (iu:(List Row)×Int):Option Out:=bif decide (iu.2 < (a1.2.1.length:Int)) then (if 0<=iu.2 then ((a1.2.1[iu.2.toNat]?).bind fun cE=>(ej.ab (cE,())).bind fun kE=>bif !decide (kE.1=(0:Int)) then (some ((kE.1,([]:List Row),()),())) else (fG.ab (cE,iu.1,())).bind fun iB=>bif !iB.1 then (some (((8:Int),([]:List Row),()),())) else (jD.ab (iu.1,cE,())).bind fun rW=>self (rW.1,ae (iu.2+(1:Int)))) else none) else e0 iu.1
noncomputable abbrev B0 (_:Nat):=b0
noncomputable def q0 (a1:Arg) (uf:(List Row)):Option Out:=bif decide ((60:Int) < (uf.length:Int)) then (some (((2:Int),([]:List Row),()),())) else some (((0:Int),uf,()),())
noncomputable abbrev Q0 (_:Nat):=q0
noncomputable def s0 (k:Nat) (a1:Arg):((List Row)×Int)->Option Out:=fun iu=>D.L k [1,1,1,0,1,0,0] [4,6,18,19,20] [] (af 0 (aq (D.N k [1,1,1,1]) D.K0)) (T0 a1 iu)
noncomputable def r0 (k:Nat) (a1:Arg):((List Row)×Int)->Option Out:=ak (fun w v=>B0 k w (Q0 k a1) a1 v) k
theorem au (k:Nat) (a1:Arg):s0 k a1=r0 k a1:=
 funext fun iu=>an _ _ _ (T0 a1) _ (fun rec v=>by kernel_rfl) k iu
noncomputable def p (l0:((List Row)×Int)->Option Out) (a1:Arg):Option Out:=(bX.ab (a1.1,())).bind fun r2=>bif !decide (r2.1=(0:Int)) then (some ((r2.1,([]:List Row),()),())) else (ei.ab (a1.1,())).bind fun r3=>l0 (r3.1,(0:Int))
theorem aa (k:Nat) (a1:Arg):@Eq (Option Out) (D.W k a1) (p (r0 k a1) a1):=
 Eq.trans (b:=p (s0 k a1) a1) (by kernel_rfl) (by rw[au])
theorem ok:Ok prog 184 D.sig:=ap func184 aA (by kernel_rfl) (fc bX.ok (fc ei.ok (fc ej.ok (fc fG.ok (fc jD.ok (al _))))))
end cb
namespace fT
abbrev Arg:Type:=(List Change)×Unit
abbrev Out:Type:=(List Change)×Unit
abbrev ps:PQ:=[(.ro,(.U am))]
noncomputable def D:FD:={ fn:=f185,tl:=aK,ps:=ps,rs:=[((.U am),(ao (.U am)))],lv:=[(3,[0,3,4])],lx:=[(0,[3])] }
noncomputable def ab (a:Arg):Option Out:=@lift Out fun k=>D.W k a
noncomputable def T0 (a1:Arg) (J:(List Change)×Int):St:={ n:=30,sl:=[(0,.val (.U am) a1.1),(3,.own (.U am) (ao (.U am)) [] J.1),(4,.val i64 J.2)],vr:=[],av:=[] }
noncomputable def b0 (self:((List Change)×Int)->Option Out) (e0:(List Change)->Option Out) (a1:Arg) (J:(List Change)×Int):Option Out:=bif decide ((0:Int)<=J.2) then (if 0<=J.2 then ((a1.1[J.2.toNat]?).bind fun aB=>if J.1.length+[(aB.2.2.1,aB.2.2.2.1,aB.1,aB.2.1,())].length<=bf then (let jP:=J.1++[(aB.2.2.1,aB.2.2.2.1,aB.1,aB.2.1,())];self (jP,ae (J.2 - (1:Int)))) else none) else none) else e0 J.1
noncomputable abbrev B0 (_:Nat):=b0
noncomputable def q0 (a1:Arg) (bN:(List Change)):Option Out:=some (bN,())
noncomputable abbrev Q0 (_:Nat):=q0
noncomputable def s0 (k:Nat) (a1:Arg):((List Change)×Int)->Option Out:=fun J=>D.L k [1,1,0,1,0,0] [0,3,4] [] (af 0 (aq (D.N k [1,1,1]) D.K0)) (T0 a1 J)
noncomputable def r0 (k:Nat) (a1:Arg):((List Change)×Int)->Option Out:=ak (fun w v=>B0 k w (Q0 k a1) a1 v) k
theorem au (k:Nat) (a1:Arg):s0 k a1=r0 k a1:=
 funext fun J=>an _ _ _ (T0 a1) _ (fun rec v=>by kernel_rfl) k J
noncomputable def p (l0:((List Change)×Int)->Option Out) (a1:Arg):Option Out:=l0 (([]:List Change),ae ((a1.1.length:Int) - (1:Int)))
theorem aa (k:Nat) (a1:Arg):@Eq (Option Out) (D.W k a1) (p (r0 k a1) a1):=
 Eq.trans (b:=p (s0 k a1) a1) (by kernel_rfl) (by rw[au])
theorem ok:Ok prog 185 D.sig:=ap func185 aA (by kernel_rfl) (al _)
end fT
namespace dg
abbrev Arg:Type:=(List Row)×(List Tx)×Unit
abbrev Out:Type:=(List Row)×Int×Unit
abbrev ps:PQ:=[(.ro,(.U aF)),(.ro,(.U aR))]
noncomputable def D:FD:={ fn:=f114,tl:=aK,ps:=ps,rs:=[((.U aF),(ao (.U aF))),(i64,(ax i64))],gl:=[(183,ei.D.sig),(184,cb.D.sig),(185,fT.D.sig)],lv:=[(2,[0,9,10,11])],lx:=[(0,[0])],lf:=[(2,[(0,(.U false (.pair .leaf (.pair .leaf (.pair .leaf (.pair .leaf .leaf))))))])],od:=[(6,[0,1,2,3])] }
noncomputable def ab (a:Arg):Option Out:=@lift Out fun k=>D.W k a
noncomputable def T0 (a1:Arg) (J:(List Row)×Int):St:={ n:=30,sl:=[(0,.val (.U aF) J.1),(9,.val (.U aR) a1.2.1),(10,.val i64 (a1.2.1.length:Int)),(11,.val i64 J.2)],vr:=[],av:=[] }
noncomputable def b0 (self:((List Row)×Int)->Option Out) (e0:(List Row)->Option Out) (a1:Arg) (J:(List Row)×Int):Option Out:=bif decide (J.2 < (a1.2.1.length:Int)) then (if 0<=J.2 then ((a1.2.1[J.2.toNat]?).bind fun aB=>(fT.ab (aB.2.1,())).bind fun bZ=>(cb.ab (J.1,bZ.1,())).bind fun gQ=>bif !decide (gQ.1.1=(0:Int)) then (some (([]:List Row),gQ.1.1,())) else self (gQ.1.2.1,ae (J.2+(1:Int)))) else none) else e0 J.1
noncomputable abbrev B0 (_:Nat):=b0
noncomputable def q0 (a1:Arg) (kS:(List Row)):Option Out:=(ei.ab (kS,())).bind fun iB=>some (iB.1,(0:Int),())
noncomputable abbrev Q0 (_:Nat):=q0
noncomputable def s0 (k:Nat) (a1:Arg):((List Row)×Int)->Option Out:=fun J=>D.L k [1,0,1,0,0] [0,9,10,11] [(0,(.U false (.pair .leaf (.pair .leaf (.pair .leaf (.pair .leaf .leaf))))))] (af 0 (aq (D.N k [1,1]) D.K0)) (T0 a1 J)
noncomputable def r0 (k:Nat) (a1:Arg):((List Row)×Int)->Option Out:=ak (fun w v=>B0 k w (Q0 k a1) a1 v) k
theorem au (k:Nat) (a1:Arg):s0 k a1=r0 k a1:=
 funext fun J=>an _ _ _ (T0 a1) _ (fun rec v=>by kernel_rfl) k J
noncomputable def p (l0:((List Row)×Int)->Option Out) (a1:Arg):Option Out:=l0 (a1.1,(0:Int))
theorem aa (k:Nat) (a1:Arg):@Eq (Option Out) (D.W k a1) (p (r0 k a1) a1):=
 Eq.trans (b:=p (s0 k a1) a1) (by kernel_rfl) (by rw[au])
theorem ok:Ok prog 114 D.sig:=ap func114 aA (by kernel_rfl) (fc ei.ok (fc cb.ok (fc fT.ok (al _))))
end dg
namespace gw
abbrev Arg:Type:=Change×Unit
abbrev Out:Type:=Int×Unit
abbrev ps:PQ:=[(.ro,am)]
noncomputable def D:FD:={ fn:=f267,tl:=aK,ps:=ps,rs:=[(i64,(ax i64))],gl:=[(250,ej.D.sig)] }
noncomputable def ab (a:Arg):Option Out:=@lift Out fun k=>D.W k a
noncomputable def p (a1:Arg):Option Out:=(ej.ab (a1.1,())).bind fun r2=>bif !decide (r2.1=(0:Int)) then (some (r2.1,())) else bif a1.1.1 then (bif a1.1.2.2.1 then (bif (Ty.eq aF a1.1.2.1 a1.1.2.2.2.1) then (some ((1:Int),())) else some ((0:Int),())) else some ((0:Int),())) else some ((0:Int),())
theorem aa (k:Nat) (a1:Arg):@Eq (Option Out) (D.W k a1) (p a1):=by kernel_rfl
theorem ok:Ok prog 267 D.sig:=ap func267 aA (by kernel_rfl) (fc ej.ok (al _))
end gw
namespace dK
abbrev Arg:Type:=(List Key)×Key×Unit
abbrev Out:Type:=Int×Unit
abbrev ps:PQ:=[(.ro,(.U aC)),(.ro,aC)]
noncomputable def D:FD:={ fn:=f310,tl:=aK,ps:=ps,rs:=[(i64,(ax i64))],lv:=[(2,[0,3,7,8])],lx:=[(0,[])],od:=[(4,[0,1,2,3,4,5])] }
noncomputable def ab (a:Arg):Option Out:=@lift Out fun k=>D.W k a
noncomputable def T0 (a1:Arg) (J:Int):St:={ n:=19,sl:=[(0,.val (.U aC) a1.1),(3,.box aC (ax aC) [] a1.2.1),(7,.val i64 (a1.1.length:Int)),(8,.val i64 J)],vr:=[],av:=[] }
noncomputable def b0 (self:Int->Option Out) (e0:(Unit)->Option Out) (a1:Arg) (J:Int):Option Out:=bif decide (J < (a1.1.length:Int)) then (if 0<=J then ((a1.1[J.toNat]?).bind fun aB=>bif (Ty.eq aC a1.2.1 aB) then (some (J,())) else self (ae (J+(1:Int)))) else none) else e0 ()
noncomputable abbrev B0 (_:Nat):=b0
noncomputable def q0 (a1:Arg) (hU:(Unit)):Option Out:=some ((-1:Int),())
noncomputable abbrev Q0 (_:Nat):=q0
noncomputable def s0 (k:Nat) (a1:Arg):(Int)->Option Out:=fun J=>D.L k [1,0,1,0,0] [0,3,7,8] [] (af 0 (aq (D.N k [1,1]) D.K0)) (T0 a1 J)
noncomputable def r0 (k:Nat) (a1:Arg):(Int)->Option Out:=ak (fun w v=>B0 k w (Q0 k a1) a1 v) k
theorem au (k:Nat) (a1:Arg):s0 k a1=r0 k a1:=
 funext fun J=>an _ _ _ (T0 a1) _ (fun rec v=>by kernel_rfl) k J
noncomputable def p (l0:(Int)->Option Out) (a1:Arg):Option Out:=l0 (0:Int)
theorem aa (k:Nat) (a1:Arg):@Eq (Option Out) (D.W k a1) (p (r0 k a1) a1):=
 Eq.trans (b:=p (s0 k a1) a1) (by kernel_rfl) (by rw[au])
theorem ok:Ok prog 310 D.sig:=ap func310 aA (by kernel_rfl) (al _)
end dK
namespace et
abbrev Arg:Type:=(List Key)×Key×Unit
abbrev Out:Type:=Bool×Unit
abbrev ps:PQ:=[(.ro,(.U aC)),(.ro,aC)]
noncomputable def D:FD:={ fn:=f268,tl:=aK,ps:=ps,rs:=[(.bool,(ax .bool))],gl:=[(310,dK.D.sig)] }
noncomputable def ab (a:Arg):Option Out:=@lift Out fun k=>D.W k a
noncomputable def p (a1:Arg):Option Out:=(dK.ab (a1.1,a1.2.1,())).bind fun r2=>some (decide ((0:Int)<=r2.1),())
theorem aa (k:Nat) (a1:Arg):@Eq (Option Out) (D.W k a1) (p a1):=by kernel_rfl
theorem ok:Ok prog 268 D.sig:=ap func268 aA (by kernel_rfl) (fc dK.ok (al _))
end et
namespace gx
abbrev Arg:Type:=Change×Unit
abbrev Out:Type:=Key×Unit
abbrev ps:PQ:=[(.ro,am)]
noncomputable def D:FD:={ fn:=f269,tl:=aK,ps:=ps,rs:=[(aC,(ax aC))],gl:=[(284,cT.D.sig)],od:=[(1,[0,3,1,2,4,5,6,7])] }
noncomputable def ab (a:Arg):Option Out:=@lift Out fun k=>D.W k a
noncomputable def p (a1:Arg):Option Out:=(cT.ab (a1.1,())).bind fun r2=>(cT.ab (a1.1,())).bind fun r3=>some ((r2.1.1,r3.1.2.1,()),())
theorem aa (k:Nat) (a1:Arg):@Eq (Option Out) (D.W k a1) (p a1):=by kernel_rfl
theorem ok:Ok prog 269 D.sig:=ap func269 aA (by kernel_rfl) (fc cT.ok (al _))
end gx
namespace lh
abbrev Arg:Type:=Int×Int×Unit
abbrev Out:Type:=Bool×Unit
abbrev ps:PQ:=[(.ro,i64),(.ro,i64)]
noncomputable def D:FD:={ fn:=f270,tl:=aK,ps:=ps,rs:=[(.bool,(ax .bool))],gl:=[(61,b_.D.sig)] }
noncomputable def ab (a:Arg):Option Out:=@lift Out fun k=>D.W k a
noncomputable def p (a1:Arg):Option Out:=(b_.ab (a1.1,(0:Int),(3:Int),())).bind fun r2=>bif r2.1 then ((b_.ab (a1.2.1,(1:Int),(99:Int),())).bind fun r3=>some (r3.1,())) else some (false,())
theorem aa (k:Nat) (a1:Arg):@Eq (Option Out) (D.W k a1) (p a1):=by kernel_rfl
theorem ok:Ok prog 270 D.sig:=ap func270 aA (by kernel_rfl) (fc b_.ok (al _))
end lh
namespace bj
abbrev Arg:Type:=Tx×Unit
abbrev Out:Type:=Int×Unit
abbrev ps:PQ:=[(.ro,aR)]
noncomputable def D:FD:={ fn:=f204,tl:=aK,ps:=ps,rs:=[(i64,(ax i64))],gl:=[(61,b_.D.sig),(267,gw.D.sig),(268,et.D.sig),(269,gx.D.sig),(270,lh.D.sig)],lv:=[(2,[1,12,13,14]),(14,[1,6,41,42,43]),(21,[1,57,58,59])],lx:=[(0,[1]),(2,[1]),(4,[])],od:=[(7,[0,1,2,3,4,5]),(25,[0,1,2,3,4,5])] }
noncomputable def ab (a:Arg):Option Out:=@lift Out fun k=>D.W k a
noncomputable def T0 (a1:Arg) (J:Int):St:={ n:=77,sl:=[(1,.box aR (ax aR) [] a1.1),(12,.val (.U am) a1.1.2.1),(13,.val i64 (a1.1.2.1.length:Int)),(14,.val i64 J)],vr:=[],av:=[] }
noncomputable def S0 (rec:RT Out) (a1:Arg):(Int)->Option Out:=fun J=>rec (T0 a1 J)
noncomputable def bt (K:KT Out) (a1:Arg):(Unit)->Option Out:=fun z=>K (.exit 0) ({ n:=77,sl:=[(1,.box aR (ax aR) [] a1.1)],vr:=[],av:=[] })
noncomputable def b0 (self:Int->Option Out) (e0:(Unit)->Option Out) (a1:Arg) (J:Int):Option Out:=bif decide (J < (a1.1.2.1.length:Int)) then (if 0<=J then ((a1.1.2.1[J.toNat]?).bind fun aB=>(gw.ab (aB,())).bind fun bZ=>bif !decide (bZ.1=(0:Int)) then (some (bZ.1,())) else (gx.ab (aB,())).bind fun gQ=>(et.ab (a1.1.2.2.2.1,gQ.1,())).bind fun kE=>bif !kE.1 then (some ((8:Int),())) else self (ae (J+(1:Int)))) else none) else e0 ()
noncomputable abbrev B0 (_:Nat):=b0
theorem f9 (k:Nat) (rec:RT Out) (K:KT Out) (a1:Arg) (J:Int):D.N k [1,0,1,0,0] (T0 a1 J) (dw rec (cj [1,12,13,14] []) K)=b0 (S0 rec a1) (bt K a1) a1 J:=by kernel_rfl
noncomputable def T1 (a1:Arg) (bd:Int×Int):St:={ n:=77,sl:=[(1,.box aR (ax aR) [] a1.1),(6,.val i64 bd.1),(41,.val (.U i64) a1.1.2.2.1),(42,.val i64 (a1.1.2.2.1.length:Int)),(43,.val i64 bd.2)],vr:=[],av:=[] }
noncomputable def S1 (rec:RT Out) (a1:Arg):(Int×Int)->Option Out:=fun bd=>rec (T1 a1 bd)
noncomputable def dG (K:KT Out) (a1:Arg):(Unit)->Option Out:=fun z=>K (.exit 2) ({ n:=77,sl:=[(1,.box aR (ax aR) [] a1.1)],vr:=[],av:=[] })
noncomputable def b1 (self:(Int×Int)->Option Out) (e2:(Unit)->Option Out) (a1:Arg) (bd:Int×Int):Option Out:=bif decide (bd.2 < (a1.1.2.2.1.length:Int)) then (if 0<=bd.2 then ((a1.1.2.2.1[bd.2.toNat]?).bind fun wy=>(b_.ab (wy,bd.1,(a1.1.2.1.length:Int),())).bind fun qK=>bif !qK.1 then (some ((3:Int),())) else self (wy,ae (bd.2+(1:Int)))) else none) else e2 ()
noncomputable abbrev B1 (_:Nat):=b1
theorem l9 (k:Nat) (rec:RT Out) (K:KT Out) (a1:Arg) (bd:Int×Int):D.N k [1,1,1,1,0,1,0,0] (T1 a1 bd) (dw rec (cj [1,6,41,42,43] []) K)=b1 (S1 rec a1) (dG K a1) a1 bd:=by kernel_rfl
noncomputable def T2 (a1:Arg) (gi:Int):St:={ n:=77,sl:=[(1,.box aR (ax aR) [] a1.1),(57,.val (.U aC) a1.1.2.2.2.1),(58,.val i64 (a1.1.2.2.2.1.length:Int)),(59,.val i64 gi)],vr:=[],av:=[] }
noncomputable def b2 (self:Int->Option Out) (e4:(Unit)->Option Out) (a1:Arg) (gi:Int):Option Out:=bif decide (gi < (a1.1.2.2.2.1.length:Int)) then (if 0<=gi then ((a1.1.2.2.2.1[gi.toNat]?).bind fun ub=>(lh.ab (ub.1,ub.2.1,())).bind fun GN=>bif !GN.1 then (some ((3:Int),())) else if 0<=gi/\gi<=(a1.1.2.2.2.1.length:Int) then ((et.ab ((a1.1.2.2.2.1.take gi.toNat).drop 0,ub,())).bind fun PJ=>bif PJ.1 then (some ((6:Int),())) else self (ae (gi+(1:Int)))) else none) else none) else e4 ()
noncomputable abbrev B2 (_:Nat):=b2
noncomputable def q2 (a1:Arg) (nx:(Unit)):Option Out:=some ((0:Int),())
noncomputable abbrev Q2 (_:Nat):=q2
noncomputable def s2 (k:Nat) (a1:Arg):(Int)->Option Out:=fun gi=>D.L k [1,1,1,1,1,0,1,0,0] [1,57,58,59] [] (af 4 (aq (D.N k [1,1,1,1,1,1]) D.K0)) (T2 a1 gi)
noncomputable def r2 (k:Nat) (a1:Arg):(Int)->Option Out:=ak (fun w v=>B2 k w (Q2 k a1) a1 v) k
theorem k9 (k:Nat) (a1:Arg):s2 k a1=r2 k a1:=
 funext fun gi=>an _ _ _ (T2 a1) _ (fun rec v=>by kernel_rfl) k gi
noncomputable def q1 (l2:(Int)->Option Out) (a1:Arg) (t8:(Unit)):Option Out:=l2 (0:Int)
noncomputable def Q1 (k:Nat) (a1:Arg) (t8:(Unit)):Option Out:=q1 (r2 k a1) a1 t8
theorem l_ (k:Nat) (a1:Arg) (t8:(Unit)):dG (af 2 (aq (D.N k [1,1,1,1,1]) D.K0)) a1 t8=Q1 k a1 t8:=
 Eq.trans (b:=q1 (s2 k a1) a1 t8) (by kernel_rfl) (by rw[k9];rfl)
noncomputable def s1 (k:Nat) (a1:Arg):(Int×Int)->Option Out:=fun bd=>D.L k [1,1,1,1,0,1,0,0] [1,6,41,42,43] [] (af 2 (aq (D.N k [1,1,1,1,1]) D.K0)) (T1 a1 bd)
noncomputable def r1 (k:Nat) (a1:Arg):(Int×Int)->Option Out:=ak (fun w v=>B1 k w (Q1 k a1) a1 v) k
theorem f_ (k:Nat) (a1:Arg):s1 k a1=r1 k a1:=by
 funext bd;
 have Y:dG (af 2 (aq (D.N k [1,1,1,1,1]) D.K0)) a1=Q1 k a1:=funext fun z=>l_ k a1 z
 refine (an _ _ _ (T1 a1) (fun self v=>B1 k self (dG (af 2 (aq (D.N k [1,1,1,1,1]) D.K0)) a1) a1 v) (fun rec v=>l9 k rec (af 2 (aq (D.N k [1,1,1,1,1]) D.K0)) a1 v) k bd).trans ?_
 rw[Y]
 rfl
noncomputable def q0 (l1:(Int×Int)->Option Out) (a1:Arg) (gq:(Unit)):Option Out:=bif decide ((8:Int) < (a1.1.2.2.1.length:Int)) then (some ((2:Int),())) else bif decide ((12:Int) < (a1.1.2.2.2.1.length:Int)) then (some ((2:Int),())) else l1 ((0:Int),(0:Int))
noncomputable def Q0 (k:Nat) (a1:Arg) (gq:(Unit)):Option Out:=q0 (r1 k a1) a1 gq
theorem k_ (k:Nat) (a1:Arg) (gq:(Unit)):bt (af 0 (aq (D.N k [1,1]) D.K0)) a1 gq=Q0 k a1 gq:=
 Eq.trans (b:=q0 (s1 k a1) a1 gq) (by kernel_rfl) (by rw[f_];rfl)
noncomputable def s0 (k:Nat) (a1:Arg):(Int)->Option Out:=fun J=>D.L k [1,0,1,0,0] [1,12,13,14] [] (af 0 (aq (D.N k [1,1]) D.K0)) (T0 a1 J)
noncomputable def r0 (k:Nat) (a1:Arg):(Int)->Option Out:=ak (fun w v=>B0 k w (Q0 k a1) a1 v) k
theorem au (k:Nat) (a1:Arg):s0 k a1=r0 k a1:=by
 funext J;
 have h0:bt (af 0 (aq (D.N k [1,1]) D.K0)) a1=Q0 k a1:=funext fun z=>k_ k a1 z
 refine (an _ _ _ (T0 a1) (fun self v=>B0 k self (bt (af 0 (aq (D.N k [1,1]) D.K0)) a1) a1 v) (fun rec v=>f9 k rec (af 0 (aq (D.N k [1,1]) D.K0)) a1 v) k J).trans ?_
 rw[h0]
 rfl
noncomputable def p (l0:(Int)->Option Out) (a1:Arg):Option Out:=l0 (0:Int)
theorem aa (k:Nat) (a1:Arg):@Eq (Option Out) (D.W k a1) (p (r0 k a1) a1):=
 Eq.trans (b:=p (s0 k a1) a1) (by kernel_rfl) (by rw[au])
theorem ok:Ok prog 204 D.sig:=ap func204 aA (by kernel_rfl) (fc b_.ok (fc gw.ok (fc et.ok (fc gx.ok (fc lh.ok (al _))))))
end bj
namespace gC
abbrev Arg:Type:=(List Tx)×Unit
abbrev Out:Type:=Int×Unit
abbrev ps:PQ:=[(.ro,(.U aR))]
noncomputable def D:FD:={ fn:=f205,tl:=aK,ps:=ps,rs:=[(i64,(ax i64))],lv:=[(3,[3,6,7,8])],lx:=[(0,[3])] }
noncomputable def ab (a:Arg):Option Out:=@lift Out fun k=>D.W k a
noncomputable def T0 (a1:Arg) (J:Int×Int):St:={ n:=19,sl:=[(3,.val i64 J.1),(6,.val (.U aR) a1.1),(7,.val i64 (a1.1.length:Int)),(8,.val i64 J.2)],vr:=[],av:=[] }
noncomputable def b0 (self:(Int×Int)->Option Out) (e0:Int->Option Out) (a1:Arg) (J:Int×Int):Option Out:=bif decide (J.2 < (a1.1.length:Int)) then (if 0<=J.2 then ((a1.1[J.2.toNat]?).bind fun aB=>self (ae (J.1+(aB.2.1.length:Int)),ae (J.2+(1:Int)))) else none) else e0 J.1
noncomputable abbrev B0 (_:Nat):=b0
noncomputable def q0 (a1:Arg) (hU:Int):Option Out:=some (hU,())
noncomputable abbrev Q0 (_:Nat):=q0
noncomputable def s0 (k:Nat) (a1:Arg):(Int×Int)->Option Out:=fun J=>D.L k [1,1,0,1,0,0] [3,6,7,8] [] (af 0 (aq (D.N k [1,1,1]) D.K0)) (T0 a1 J)
noncomputable def r0 (k:Nat) (a1:Arg):(Int×Int)->Option Out:=ak (fun w v=>B0 k w (Q0 k a1) a1 v) k
theorem au (k:Nat) (a1:Arg):s0 k a1=r0 k a1:=
 funext fun J=>an _ _ _ (T0 a1) _ (fun rec v=>by kernel_rfl) k J
noncomputable def p (l0:(Int×Int)->Option Out) (a1:Arg):Option Out:=l0 ((0:Int),(0:Int))
theorem aa (k:Nat) (a1:Arg):@Eq (Option Out) (D.W k a1) (p (r0 k a1) a1):=
 Eq.trans (b:=p (s0 k a1) a1) (by kernel_rfl) (by rw[au])
theorem ok:Ok prog 205 D.sig:=ap func205 aA (by kernel_rfl) (al _)
end gC
namespace aZ
abbrev Arg:Type:=(List Tx)×Unit
abbrev Out:Type:=Int×Unit
abbrev ps:PQ:=[(.ro,(.U aR))]
noncomputable def D:FD:={ fn:=f133,tl:=aK,ps:=ps,rs:=[(i64,(ax i64))],gl:=[(203,jC.D.sig),(204,bj.D.sig),(205,gC.D.sig)],lv:=[(4,[0,14,15,16]),(16,[0,6,45,46,47]),(19,[0,6,45,46,47,52,53,54])],lx:=[(0,[0]),(2,[0]),(4,[0,6,45,46,47])],od:=[(8,[0,1,2,3,4,5,6,7,8,9,10,11,12])] }
noncomputable def ab (a:Arg):Option Out:=@lift Out fun k=>D.W k a
noncomputable def T0 (a1:Arg) (J:Int):St:={ n:=68,sl:=[(0,.val (.U aR) a1.1),(14,.val (.U aR) a1.1),(15,.val i64 (a1.1.length:Int)),(16,.val i64 J)],vr:=[],av:=[] }
noncomputable def S0 (rec:RT Out) (a1:Arg):(Int)->Option Out:=fun J=>rec (T0 a1 J)
noncomputable def bt (K:KT Out) (a1:Arg):(Unit)->Option Out:=fun z=>K (.exit 0) ({ n:=68,sl:=[(0,.val (.U aR) a1.1)],vr:=[],av:=[] })
noncomputable def b0 (self:Int->Option Out) (e0:(Unit)->Option Out) (a1:Arg) (J:Int):Option Out:=bif decide (J < (a1.1.length:Int)) then (if 0<=J then ((a1.1[J.toNat]?).bind fun aB=>(jC.ab (aB.1,())).bind fun bZ=>bif !bZ.1 then (some ((3:Int),())) else bif decide ((0:Int) < J) then (if 0<=ae (J - (1:Int)) then ((a1.1[(ae (J - (1:Int))).toNat]?).bind fun cE=>bif decide (aB.1<=cE.1) then (some ((1:Int),())) else (bj.ab (aB,())).bind fun iB=>bif !decide (iB.1=(0:Int)) then (some (iB.1,())) else self (ae (J+(1:Int)))) else none) else (bj.ab (aB,())).bind fun rW=>bif !decide (rW.1=(0:Int)) then (some (rW.1,())) else self (ae (J+(1:Int)))) else none) else e0 ()
noncomputable abbrev B0 (_:Nat):=b0
theorem f9 (k:Nat) (rec:RT Out) (K:KT Out) (a1:Arg) (J:Int):D.N k [1,1,0,1,0,0] (T0 a1 J) (dw rec (cj [0,14,15,16] []) K)=b0 (S0 rec a1) (bt K a1) a1 J:=by kernel_rfl
noncomputable def T1 (a1:Arg) (cR:(List Tx)×(List (Key×Bool))×(List Tx)×Int×Int):St:={ n:=68,sl:=[(0,.val (.U aR) cR.1),(6,.own (.map aC .bool) (ao (.map aC .bool)) [] cR.2.1),(45,.val (.U aR) cR.2.2.1),(46,.val i64 cR.2.2.2.1),(47,.val i64 cR.2.2.2.2)],vr:=[],av:=[] }
noncomputable def S1 (rec:RT Out) (a1:Arg):((List Tx)×(List (Key×Bool))×(List Tx)×Int×Int)->Option Out:=fun cR=>rec (T1 a1 cR)
noncomputable def dG (K:KT Out) (a1:Arg):(List Tx)->Option Out:=fun z=>K (.exit 2) ({ n:=68,sl:=[(0,.val (.U aR) z)],vr:=[],av:=[] })
noncomputable def T2 (a1:Arg) (bF:List Tx) (iD:List Tx) (iE:Int) (iF:Int) (iG:List Key) (o_:Int) (gi:(List (Key×Bool))×Int):St:={ n:=68,sl:=[(0,.val (.U aR) bF),(6,.own (.map aC .bool) (ao (.map aC .bool)) [] gi.1),(45,.val (.U aR) iD),(46,.val i64 iE),(47,.val i64 iF),(52,.val (.U aC) iG),(53,.val i64 o_),(54,.val i64 gi.2)],vr:=[],av:=[] }
noncomputable def b2 (self:((List (Key×Bool))×Int)->Option Out) (e4:(List (Key×Bool))->Option Out) (a1:Arg) (bF:List Tx) (iD:List Tx) (iE:Int) (iF:Int) (iG:List Key) (o_:Int) (gi:(List (Key×Bool))×Int):Option Out:=bif decide (gi.2 < o_) then (if 0<=gi.2 then ((iG[gi.2.toNat]?).bind fun GS=>bif rn (dB aC gi.1 GS) false then (some ((7:Int),())) else self (gP aC gi.1 GS true,ae (gi.2+(1:Int)))) else none) else e4 gi.1
noncomputable abbrev B2 (_:Nat):=b2
noncomputable def q1 (self:((List Tx)×(List (Key×Bool))×(List Tx)×Int×Int)->Option Out) (e2:(List Tx)->Option Out) (a1:Arg) (bF:List Tx) (iD:List Tx) (iE:Int) (iF:Int) (iG:List Key) (o_:Int) (GT:(List (Key×Bool))):Option Out:=self (bF,GT,iD,iE,ae (iF+(1:Int)))
noncomputable abbrev Q1 (_:Nat):=q1
noncomputable def s2 (k:Nat) (rec:RT Out) (K:KT Out) (a1:Arg):(List Tx)->(List Tx)->Int->Int->(List Key)->Int->((List (Key×Bool))×Int)->Option Out:=fun bF iD iE iF iG o_=>fun gi=>D.L k [1,1,1,1,0,1,0,0,1,1,0,0,1,1,0,0] [0,6,45,46,47,52,53,54] [] (af 4 (af 3 (aq (D.N k [1,1,1,1,0,1,0,0,1,1,1]) (dw rec (cj [0,6,45,46,47] []) K)))) (T2 a1 bF iD iE iF iG o_ gi)
noncomputable def r2 (k:Nat) (self:((List Tx)×(List (Key×Bool))×(List Tx)×Int×Int)->Option Out) (e2:(List Tx)->Option Out) (a1:Arg):(List Tx)->(List Tx)->Int->Int->(List Key)->Int->((List (Key×Bool))×Int)->Option Out:=fun bF iD iE iF iG o_=>ak (fun w v=>B2 k w (Q1 k self e2 a1 bF iD iE iF iG o_) a1 bF iD iE iF iG o_ v) k
theorem k9 (k:Nat) (rec:RT Out) (K:KT Out) (a1:Arg):s2 k rec K a1=r2 k (S1 rec a1) (dG K a1) a1:=
 funext fun bF=>funext fun iD=>funext fun iE=>funext fun iF=>funext fun iG=>funext fun o_=>funext fun gi=>an _ _ _ (T2 a1 bF iD iE iF iG o_) _ (fun rec v=>by kernel_rfl) k gi
noncomputable def b1 (self:((List Tx)×(List (Key×Bool))×(List Tx)×Int×Int)->Option Out) (e2:(List Tx)->Option Out) (l2:(List Tx)->(List Tx)->Int->Int->(List Key)->Int->((List (Key×Bool))×Int)->Option Out) (a1:Arg) (cR:(List Tx)×(List (Key×Bool))×(List Tx)×Int×Int):Option Out:=bif decide (cR.2.2.2.2 < cR.2.2.2.1) then (if 0<=cR.2.2.2.2 then ((cR.2.2.1[cR.2.2.2.2.toNat]?).bind fun wA=>l2 cR.1 cR.2.2.1 cR.2.2.2.1 cR.2.2.2.2 wA.2.2.2.1 (wA.2.2.2.1.length:Int) (cR.2.1,(0:Int))) else none) else e2 cR.1
noncomputable def B1 (k:Nat) (self:((List Tx)×(List (Key×Bool))×(List Tx)×Int×Int)->Option Out) (e2:(List Tx)->Option Out) (a1:Arg) (cR:(List Tx)×(List (Key×Bool))×(List Tx)×Int×Int):Option Out:=b1 self e2 (r2 k self e2 a1) a1 cR
theorem l9 (k:Nat) (rec:RT Out) (K:KT Out) (a1:Arg) (cR:(List Tx)×(List (Key×Bool))×(List Tx)×Int×Int):D.N k [1,1,1,1,0,1,0,0] (T1 a1 cR) (dw rec (cj [0,6,45,46,47] []) K)=B1 k (S1 rec a1) (dG K a1) a1 cR:=
 Eq.trans (b:=b1 (S1 rec a1) (dG K a1) (s2 k rec K a1) a1 cR) (by kernel_rfl) (by rw[k9];rfl)
noncomputable def q2 (a1:Arg) (nX:(List Tx)):Option Out:=(gC.ab (nX,())).bind fun PK=>bif decide ((12:Int) < PK.1) then (some ((2:Int),())) else some ((0:Int),())
noncomputable abbrev Q2 (_:Nat):=q2
theorem ny (k:Nat) (a1:Arg) (nX:(List Tx)):dG (af 2 (aq (D.N k [1,1,1,1,1]) D.K0)) a1 nX=q2 a1 nX:=by kernel_rfl
noncomputable def s1 (k:Nat) (a1:Arg):((List Tx)×(List (Key×Bool))×(List Tx)×Int×Int)->Option Out:=fun cR=>D.L k [1,1,1,1,0,1,0,0] [0,6,45,46,47] [] (af 2 (aq (D.N k [1,1,1,1,1]) D.K0)) (T1 a1 cR)
noncomputable def r1 (k:Nat) (a1:Arg):((List Tx)×(List (Key×Bool))×(List Tx)×Int×Int)->Option Out:=ak (fun w v=>B1 k w (Q2 k a1) a1 v) k
theorem f_ (k:Nat) (a1:Arg):s1 k a1=r1 k a1:=by
 funext cR;
 have Y:dG (af 2 (aq (D.N k [1,1,1,1,1]) D.K0)) a1=Q2 k a1:=funext fun z=>ny k a1 z
 refine (an _ _ _ (T1 a1) (fun self v=>B1 k self (dG (af 2 (aq (D.N k [1,1,1,1,1]) D.K0)) a1) a1 v) (fun rec v=>l9 k rec (af 2 (aq (D.N k [1,1,1,1,1]) D.K0)) a1 v) k cR).trans ?_
 rw[Y]
 rfl
noncomputable def q0 (l1:((List Tx)×(List (Key×Bool))×(List Tx)×Int×Int)->Option Out) (a1:Arg) (uf:(Unit)):Option Out:=l1 (a1.1,([]:List (Key×Bool)),a1.1,(a1.1.length:Int),(0:Int))
noncomputable def Q0 (k:Nat) (a1:Arg) (uf:(Unit)):Option Out:=q0 (r1 k a1) a1 uf
theorem k_ (k:Nat) (a1:Arg) (uf:(Unit)):bt (af 0 (aq (D.N k [1,1,1]) D.K0)) a1 uf=Q0 k a1 uf:=
 Eq.trans (b:=q0 (s1 k a1) a1 uf) (by kernel_rfl) (by rw[f_];rfl)
noncomputable def s0 (k:Nat) (a1:Arg):(Int)->Option Out:=fun J=>D.L k [1,1,0,1,0,0] [0,14,15,16] [] (af 0 (aq (D.N k [1,1,1]) D.K0)) (T0 a1 J)
noncomputable def r0 (k:Nat) (a1:Arg):(Int)->Option Out:=ak (fun w v=>B0 k w (Q0 k a1) a1 v) k
theorem au (k:Nat) (a1:Arg):s0 k a1=r0 k a1:=by
 funext J;
 have h0:bt (af 0 (aq (D.N k [1,1,1]) D.K0)) a1=Q0 k a1:=funext fun z=>k_ k a1 z
 refine (an _ _ _ (T0 a1) (fun self v=>B0 k self (bt (af 0 (aq (D.N k [1,1,1]) D.K0)) a1) a1 v) (fun rec v=>f9 k rec (af 0 (aq (D.N k [1,1,1]) D.K0)) a1 v) k J).trans ?_
 rw[h0]
 rfl
noncomputable def p (l0:(Int)->Option Out) (a1:Arg):Option Out:=bif decide ((4:Int) < (a1.1.length:Int)) then (some ((2:Int),())) else l0 (0:Int)
theorem aa (k:Nat) (a1:Arg):@Eq (Option Out) (D.W k a1) (p (r0 k a1) a1):=
 Eq.trans (b:=p (s0 k a1) a1) (by kernel_rfl) (by rw[au])
theorem ok:Ok prog 133 D.sig:=ap func133 aA (by kernel_rfl) (fc jC.ok (fc bj.ok (fc gC.ok (al _))))
end aZ
namespace bJ
abbrev Arg:Type:=(List Row)×(List Tx)×Unit
abbrev Out:Type:=(List (Key×Bool))×Unit
abbrev ps:PQ:=[(.ro,(.U aF)),(.ro,(.U aR))]
noncomputable def D:FD:={ fn:=f134,tl:=aK,ps:=ps,rs:=[((.map aC .bool),(ao (.map aC .bool)))],lv:=[(3,[1,5,13,14,15]),(8,[5,26,27,28]),(11,[5,26,27,28,33,34,35])],lx:=[(0,[1,5]),(2,[5]),(4,[5,26,27,28])] }
noncomputable def ab (a:Arg):Option Out:=@lift Out fun k=>D.W k a
noncomputable def T0 (a1:Arg) (J:(List (Key×Bool))×Int):St:={ n:=44,sl:=[(1,.val (.U aR) a1.2.1),(5,.own (.map aC .bool) (ao (.map aC .bool)) [] J.1),(13,.val (.U aF) a1.1),(14,.val i64 (a1.1.length:Int)),(15,.val i64 J.2)],vr:=[],av:=[] }
noncomputable def S0 (rec:RT Out) (a1:Arg):((List (Key×Bool))×Int)->Option Out:=fun J=>rec (T0 a1 J)
noncomputable def bt (K:KT Out) (a1:Arg):(List (Key×Bool))->Option Out:=fun z=>K (.exit 0) ({ n:=44,sl:=[(1,.val (.U aR) a1.2.1),(5,.own (.map aC .bool) (ao (.map aC .bool)) [] z)],vr:=[],av:=[] })
noncomputable def b0 (self:((List (Key×Bool))×Int)->Option Out) (e0:(List (Key×Bool))->Option Out) (a1:Arg) (J:(List (Key×Bool))×Int):Option Out:=bif decide (J.2 < (a1.1.length:Int)) then (if 0<=J.2 then ((a1.1[J.2.toNat]?).bind fun aB=>let jP:=gP aC J.1 (aB.1,aB.2.1,()) true;self (jP,ae (J.2+(1:Int)))) else none) else e0 J.1
noncomputable abbrev B0 (_:Nat):=b0
theorem f9 (k:Nat) (rec:RT Out) (K:KT Out) (a1:Arg) (J:(List (Key×Bool))×Int):D.N k [1,1,0,1,0,0] (T0 a1 J) (dw rec (cj [1,5,13,14,15] []) K)=b0 (S0 rec a1) (bt K a1) a1 J:=by kernel_rfl
noncomputable def T1 (a1:Arg) (bO:(List (Key×Bool))×(List Tx)×Int×Int):St:={ n:=44,sl:=[(5,.own (.map aC .bool) (ao (.map aC .bool)) [] bO.1),(26,.val (.U aR) bO.2.1),(27,.val i64 bO.2.2.1),(28,.val i64 bO.2.2.2)],vr:=[],av:=[] }
noncomputable def S1 (rec:RT Out) (a1:Arg):((List (Key×Bool))×(List Tx)×Int×Int)->Option Out:=fun bO=>rec (T1 a1 bO)
noncomputable def dG (K:KT Out) (a1:Arg):(List (Key×Bool))->Option Out:=fun z=>K (.exit 2) ({ n:=44,sl:=[(5,.own (.map aC .bool) (ao (.map aC .bool)) [] z)],vr:=[],av:=[] })
noncomputable def T2 (a1:Arg) (pa:List Tx) (gT:Int) (dT:Int) (cC:List Key) (bF:Int) (nA:(List (Key×Bool))×Int):St:={ n:=44,sl:=[(5,.own (.map aC .bool) (ao (.map aC .bool)) [] nA.1),(26,.val (.U aR) pa),(27,.val i64 gT),(28,.val i64 dT),(33,.val (.U aC) cC),(34,.val i64 bF),(35,.val i64 nA.2)],vr:=[],av:=[] }
noncomputable def b2 (self:((List (Key×Bool))×Int)->Option Out) (e4:(List (Key×Bool))->Option Out) (a1:Arg) (pa:List Tx) (gT:Int) (dT:Int) (cC:List Key) (bF:Int) (nA:(List (Key×Bool))×Int):Option Out:=bif decide (nA.2 < bF) then (if 0<=nA.2 then ((cC[nA.2.toNat]?).bind fun GC=>self (gP aC nA.1 GC true,ae (nA.2+(1:Int)))) else none) else e4 nA.1
noncomputable abbrev B2 (_:Nat):=b2
noncomputable def q1 (self:((List (Key×Bool))×(List Tx)×Int×Int)->Option Out) (e2:(List (Key×Bool))->Option Out) (a1:Arg) (pa:List Tx) (gT:Int) (dT:Int) (cC:List Key) (bF:Int) (wz:(List (Key×Bool))):Option Out:=self (wz,pa,gT,ae (dT+(1:Int)))
noncomputable abbrev Q1 (_:Nat):=q1
noncomputable def s2 (k:Nat) (rec:RT Out) (K:KT Out) (a1:Arg):(List Tx)->Int->Int->(List Key)->Int->((List (Key×Bool))×Int)->Option Out:=fun pa gT dT cC bF=>fun nA=>D.L k [1,1,1,0,1,0,0,1,1,0,0,1,1,0,0] [5,26,27,28,33,34,35] [] (af 4 (af 3 (aq (D.N k [1,1,1,0,1,0,0,1,1,1]) (dw rec (cj [5,26,27,28] []) K)))) (T2 a1 pa gT dT cC bF nA)
noncomputable def r2 (k:Nat) (self:((List (Key×Bool))×(List Tx)×Int×Int)->Option Out) (e2:(List (Key×Bool))->Option Out) (a1:Arg):(List Tx)->Int->Int->(List Key)->Int->((List (Key×Bool))×Int)->Option Out:=fun pa gT dT cC bF=>ak (fun w v=>B2 k w (Q1 k self e2 a1 pa gT dT cC bF) a1 pa gT dT cC bF v) k
theorem k9 (k:Nat) (rec:RT Out) (K:KT Out) (a1:Arg):s2 k rec K a1=r2 k (S1 rec a1) (dG K a1) a1:=
 funext fun pa=>funext fun gT=>funext fun dT=>funext fun cC=>funext fun bF=>funext fun nA=>an _ _ _ (T2 a1 pa gT dT cC bF) _ (fun rec v=>by kernel_rfl) k nA
noncomputable def b1 (self:((List (Key×Bool))×(List Tx)×Int×Int)->Option Out) (e2:(List (Key×Bool))->Option Out) (l2:(List Tx)->Int->Int->(List Key)->Int->((List (Key×Bool))×Int)->Option Out) (a1:Arg) (bO:(List (Key×Bool))×(List Tx)×Int×Int):Option Out:=bif decide (bO.2.2.2 < bO.2.2.1) then (if 0<=bO.2.2.2 then ((bO.2.1[bO.2.2.2.toNat]?).bind fun t7=>l2 bO.2.1 bO.2.2.1 bO.2.2.2 t7.2.2.2.1 (t7.2.2.2.1.length:Int) (bO.1,(0:Int))) else none) else e2 bO.1
noncomputable def B1 (k:Nat) (self:((List (Key×Bool))×(List Tx)×Int×Int)->Option Out) (e2:(List (Key×Bool))->Option Out) (a1:Arg) (bO:(List (Key×Bool))×(List Tx)×Int×Int):Option Out:=b1 self e2 (r2 k self e2 a1) a1 bO
theorem l9 (k:Nat) (rec:RT Out) (K:KT Out) (a1:Arg) (bO:(List (Key×Bool))×(List Tx)×Int×Int):D.N k [1,1,1,0,1,0,0] (T1 a1 bO) (dw rec (cj [5,26,27,28] []) K)=B1 k (S1 rec a1) (dG K a1) a1 bO:=
 Eq.trans (b:=b1 (S1 rec a1) (dG K a1) (s2 k rec K a1) a1 bO) (by kernel_rfl) (by rw[k9];rfl)
noncomputable def q2 (a1:Arg) (nx:(List (Key×Bool))):Option Out:=some (nx,())
noncomputable abbrev Q2 (_:Nat):=q2
theorem ny (k:Nat) (a1:Arg) (nx:(List (Key×Bool))):dG (af 2 (aq (D.N k [1,1,1,1]) D.K0)) a1 nx=q2 a1 nx:=by kernel_rfl
noncomputable def s1 (k:Nat) (a1:Arg):((List (Key×Bool))×(List Tx)×Int×Int)->Option Out:=fun bO=>D.L k [1,1,1,0,1,0,0] [5,26,27,28] [] (af 2 (aq (D.N k [1,1,1,1]) D.K0)) (T1 a1 bO)
noncomputable def r1 (k:Nat) (a1:Arg):((List (Key×Bool))×(List Tx)×Int×Int)->Option Out:=ak (fun w v=>B1 k w (Q2 k a1) a1 v) k
theorem f_ (k:Nat) (a1:Arg):s1 k a1=r1 k a1:=by
 funext bO;
 have Y:dG (af 2 (aq (D.N k [1,1,1,1]) D.K0)) a1=Q2 k a1:=funext fun z=>ny k a1 z
 refine (an _ _ _ (T1 a1) (fun self v=>B1 k self (dG (af 2 (aq (D.N k [1,1,1,1]) D.K0)) a1) a1 v) (fun rec v=>l9 k rec (af 2 (aq (D.N k [1,1,1,1]) D.K0)) a1 v) k bO).trans ?_
 rw[Y]
 rfl
noncomputable def q0 (l1:((List (Key×Bool))×(List Tx)×Int×Int)->Option Out) (a1:Arg) (bN:(List (Key×Bool))):Option Out:=l1 (bN,a1.2.1,(a1.2.1.length:Int),(0:Int))
noncomputable def Q0 (k:Nat) (a1:Arg) (bN:(List (Key×Bool))):Option Out:=q0 (r1 k a1) a1 bN
theorem k_ (k:Nat) (a1:Arg) (bN:(List (Key×Bool))):bt (af 0 (aq (D.N k [1,1,1]) D.K0)) a1 bN=Q0 k a1 bN:=
 Eq.trans (b:=q0 (s1 k a1) a1 bN) (by kernel_rfl) (by rw[f_];rfl)
noncomputable def s0 (k:Nat) (a1:Arg):((List (Key×Bool))×Int)->Option Out:=fun J=>D.L k [1,1,0,1,0,0] [1,5,13,14,15] [] (af 0 (aq (D.N k [1,1,1]) D.K0)) (T0 a1 J)
noncomputable def r0 (k:Nat) (a1:Arg):((List (Key×Bool))×Int)->Option Out:=ak (fun w v=>B0 k w (Q0 k a1) a1 v) k
theorem au (k:Nat) (a1:Arg):s0 k a1=r0 k a1:=by
 funext J;
 have h0:bt (af 0 (aq (D.N k [1,1,1]) D.K0)) a1=Q0 k a1:=funext fun z=>k_ k a1 z
 refine (an _ _ _ (T0 a1) (fun self v=>B0 k self (bt (af 0 (aq (D.N k [1,1,1]) D.K0)) a1) a1 v) (fun rec v=>f9 k rec (af 0 (aq (D.N k [1,1,1]) D.K0)) a1 v) k J).trans ?_
 rw[h0]
 rfl
noncomputable def p (l0:((List (Key×Bool))×Int)->Option Out) (a1:Arg):Option Out:=l0 (([]:List (Key×Bool)),(0:Int))
theorem aa (k:Nat) (a1:Arg):@Eq (Option Out) (D.W k a1) (p (r0 k a1) a1):=
 Eq.trans (b:=p (s0 k a1) a1) (by kernel_rfl) (by rw[au])
theorem ok:Ok prog 134 D.sig:=ap func134 aA (by kernel_rfl) (al _)
end bJ
namespace gN
abbrev Arg:Type:=Plain×Unit
abbrev Out:Type:=Int×Unit
abbrev ps:PQ:=[(.ro,tc)]
noncomputable def D:FD:={ fn:=f63,tl:=aK,ps:=ps,rs:=[(i64,(ax i64))],gl:=[(61,b_.D.sig),(114,dg.D.sig),(132,bX.D.sig),(133,aZ.D.sig),(134,bJ.D.sig)],od:=[(7,[0,1,2,3,4,5,6,7,8,9,10,11,12,13,14,15,16,17,18,19,20,21,22,23])],ar:=[(7,[1,6,11,13,18,20])],bx:=[(7,[1])] }
noncomputable def ab (a:Arg):Option Out:=@lift Out fun k=>D.W k a
noncomputable def p (a1:Arg):Option Out:=(bX.ab (a1.1.1,())).bind fun r2=>bif !decide (r2.1=(0:Int)) then (some (r2.1,())) else (aZ.ab (a1.1.2.1,())).bind fun r3=>bif !decide (r3.1=(0:Int)) then (some (r3.1,())) else let j8:Option Out:=(bJ.ab (a1.1.1,a1.1.2.1,())).bind fun r9=>bif decide ((12:Int) < (r9.1.length:Int)) then (some ((2:Int),())) else (dg.ab (a1.1.1,a1.1.2.1,())).bind fun C6=>bif !decide (C6.2.1=(0:Int)) then (some ((8:Int),())) else some ((0:Int),());(b_.ab (a1.1.2.2.1,(1:Int),(100:Int),())).bind fun r4=>bif !r4.1 then (some ((3:Int),())) else bif decide ((0:Int) < (a1.1.2.1.length:Int)) then (if 0<=ae ((a1.1.2.1.length:Int) - (1:Int)) then ((a1.1.2.1[(ae ((a1.1.2.1.length:Int) - (1:Int))).toNat]?).bind fun x5=>bif decide (a1.1.2.2.1<=x5.1) then (some ((3:Int),())) else j8) else none) else j8
theorem aa (k:Nat) (a1:Arg):@Eq (Option Out) (D.W k a1) (p a1):=by kernel_rfl
theorem ok:Ok prog 63 D.sig:=ap func63 aA (by kernel_rfl) (fc b_.ok (fc dg.ok (fc bX.ok (fc aZ.ok (fc bJ.ok (al _))))))
end gN
namespace gV
abbrev Arg:Type:=(List Seen)×Unit
abbrev Out:Type:=(List Row)×Unit
abbrev ps:PQ:=[(.ro,(.U c7))]
noncomputable def D:FD:={ fn:=f64,tl:=aK,ps:=ps,rs:=[((.U aF),(ao (.U aF)))],lv:=[(3,[3,6,7,8])],lx:=[(0,[3])] }
noncomputable def ab (a:Arg):Option Out:=@lift Out fun k=>D.W k a
noncomputable def T0 (a1:Arg) (J:(List Row)×Int):St:={ n:=19,sl:=[(3,.own (.U aF) (ao (.U aF)) [] J.1),(6,.val (.U c7) a1.1),(7,.val i64 (a1.1.length:Int)),(8,.val i64 J.2)],vr:=[],av:=[] }
noncomputable def b0 (self:((List Row)×Int)->Option Out) (e0:(List Row)->Option Out) (a1:Arg) (J:(List Row)×Int):Option Out:=bif decide (J.2 < (a1.1.length:Int)) then (if 0<=J.2 then ((a1.1[J.2.toNat]?).bind fun aB=>if J.1.length+[aB.1].length<=bf then (self (J.1++[aB.1],ae (J.2+(1:Int)))) else none) else none) else e0 J.1
noncomputable abbrev B0 (_:Nat):=b0
noncomputable def q0 (a1:Arg) (hU:(List Row)):Option Out:=some (hU,())
noncomputable abbrev Q0 (_:Nat):=q0
noncomputable def s0 (k:Nat) (a1:Arg):((List Row)×Int)->Option Out:=fun J=>D.L k [1,1,0,1,0,0] [3,6,7,8] [] (af 0 (aq (D.N k [1,1,1]) D.K0)) (T0 a1 J)
noncomputable def r0 (k:Nat) (a1:Arg):((List Row)×Int)->Option Out:=ak (fun w v=>B0 k w (Q0 k a1) a1 v) k
theorem au (k:Nat) (a1:Arg):s0 k a1=r0 k a1:=
 funext fun J=>an _ _ _ (T0 a1) _ (fun rec v=>by kernel_rfl) k J
noncomputable def p (l0:((List Row)×Int)->Option Out) (a1:Arg):Option Out:=l0 (([]:List Row),(0:Int))
theorem aa (k:Nat) (a1:Arg):@Eq (Option Out) (D.W k a1) (p (r0 k a1) a1):=
 Eq.trans (b:=p (s0 k a1) a1) (by kernel_rfl) (by rw[au])
theorem ok:Ok prog 64 D.sig:=ap func64 aA (by kernel_rfl) (al _)
end gV
namespace fH
abbrev Arg:Type:=(List (List UInt8))×Unit
abbrev Out:Type:=(List (List UInt8))×Unit
abbrev ps:PQ:=[(.ro,(.U (.U u8)))]
noncomputable def D:FD:={ fn:=f208,tl:=aK,ps:=ps,rs:=[((.U (.U u8)),(.U true (ax (.U u8))))] }
noncomputable def ab (a:Arg):Option Out:=@lift Out fun k=>D.W k a
noncomputable def p (a1:Arg):Option Out:=uX a1.1 (some (([]:List (List UInt8)),())) (if ([]:List (List UInt8)).length+a1.1.length<=bf then (some (([]:List (List UInt8))++a1.1,())) else none)
theorem aa (k:Nat) (a1:Arg):@Eq (Option Out) (D.W k a1) (p a1):=by kernel_rfl
theorem ok:Ok prog 208 D.sig:=ap func208 aA (by kernel_rfl) (al _)
end fH
namespace fu
abbrev Arg:Type:=UInt8×Unit
abbrev Out:Type:=(List UInt8)×Unit
abbrev ps:PQ:=[(.ro,u8)]
noncomputable def D:FD:={ fn:=f209,tl:=aK,ps:=ps,rs:=[((.U u8),(ao (.U u8)))],lv:=[(3,[0,3,7,8])],lx:=[(0,[3])] }
noncomputable def ab (a:Arg):Option Out:=@lift Out fun k=>D.W k a
noncomputable def T0 (a1:Arg) (J:(List UInt8)×Int):St:={ n:=21,sl:=[(0,.val u8 a1.1),(3,.own (.U u8) (ao (.U u8)) [] J.1),(7,.val i64 ((List.replicate 64 (0:UInt8)).length:Int)),(8,.val i64 J.2)],vr:=[],av:=[] }
noncomputable def b0 (self:((List UInt8)×Int)->Option Out) (e0:(List UInt8)->Option Out) (a1:Arg) (J:(List UInt8)×Int):Option Out:=bif decide (J.2 < ((List.replicate 64 (0:UInt8)).length:Int)) then (if 0<=J.2/\J.2 < (J.1.length:Int) then ((J.1[J.2.toNat]?).bind fun aB=>self (J.1.set J.2.toNat a1.1,ae (J.2+(1:Int)))) else none) else e0 J.1
noncomputable abbrev B0 (_:Nat):=b0
noncomputable def q0 (a1:Arg) (hU:(List UInt8)):Option Out:=if 0<=(0:Int)/\(0:Int) < (hU.length:Int) then ((hU[0]?).bind fun cE=>if 0<=(1:Int)/\(1:Int) < ((hU.set 0 (0:UInt8)).length:Int) then (((hU.set 0 (0:UInt8))[1]?).bind fun ne=>let vM:=(hU.set 0 (0:UInt8)).set 1 (64:UInt8);some (vM,())) else none) else none
noncomputable abbrev Q0 (_:Nat):=q0
noncomputable def s0 (k:Nat) (a1:Arg):((List UInt8)×Int)->Option Out:=fun J=>D.L k [1,1,0,1,0,0] [0,3,7,8] [] (af 0 (aq (D.N k [1,1,1]) D.K0)) (T0 a1 J)
noncomputable def r0 (k:Nat) (a1:Arg):((List UInt8)×Int)->Option Out:=ak (fun w v=>B0 k w (Q0 k a1) a1 v) k
theorem au (k:Nat) (a1:Arg):s0 k a1=r0 k a1:=
 funext fun J=>an _ _ _ (T0 a1) _ (fun rec v=>by kernel_rfl) k J
noncomputable def p (l0:((List UInt8)×Int)->Option Out) (a1:Arg):Option Out:=if 0<=(64:Int)/\(64:Int)<=(64:Int)/\(64:Int)<=(bf:Int) then (l0 (List.replicate 64 (0:UInt8),(0:Int))) else none
theorem aa (k:Nat) (a1:Arg):@Eq (Option Out) (D.W k a1) (p (r0 k a1) a1):=
 Eq.trans (b:=p (s0 k a1) a1) (by kernel_rfl) (by rw[au])
theorem ok:Ok prog 209 D.sig:=ap func209 aA (by kernel_rfl) (al _)
end fu
namespace eO
abbrev Arg:Type:=(List UInt8)×(List cP)×Unit
abbrev Out:Type:=(List UInt8)×Unit
abbrev ps:PQ:=[(.ro,(.U u8)),(.ro,(.U pE))]
noncomputable def D:FD:={ fn:=f210,tl:=aK,ps:=ps,rs:=[((.U u8),(ao (.U u8)))],gl:=[(159,eX.D.sig)],lv:=[(3,[5,10,11,12])],lx:=[(0,[5])],od:=[(5,[0,1,2,3,4,5,6])] }
noncomputable def ab (a:Arg):Option Out:=@lift Out fun k=>D.W k a
noncomputable def T0 (a1:Arg) (a7:(List UInt8)×Int):St:={ n:=25,sl:=[(5,.own (.U u8) (ao (.U u8)) [] a7.1),(10,.val (.U pE) a1.2.1),(11,.val i64 (a1.2.1.length:Int)),(12,.val i64 a7.2)],vr:=[],av:=[] }
noncomputable def b0 (self:((List UInt8)×Int)->Option Out) (e0:(List UInt8)->Option Out) (a1:Arg) (a7:(List UInt8)×Int):Option Out:=bif decide (a7.2 < (a1.2.1.length:Int)) then (if 0<=a7.2 then ((a1.2.1[a7.2.toNat]?).bind fun cY=>if 0<=cY.1/\cY.1<=(a7.1.length:Int) then (let RI:=lu a7.1 cY.1.toNat (min cY.2.1.length (a7.1.length - cY.1.toNat)) cY.2.1;self (RI,ae (a7.2+(1:Int)))) else none) else none) else e0 a7.1
noncomputable abbrev B0 (_:Nat):=b0
noncomputable def q0 (a1:Arg) (kS:(List UInt8)):Option Out:=some (kS,())
noncomputable abbrev Q0 (_:Nat):=q0
noncomputable def s0 (k:Nat) (a1:Arg):((List UInt8)×Int)->Option Out:=fun a7=>D.L k [1,1,0,1,0,0] [5,10,11,12] [] (af 0 (aq (D.N k [1,1,1]) D.K0)) (T0 a1 a7)
noncomputable def r0 (k:Nat) (a1:Arg):((List UInt8)×Int)->Option Out:=ak (fun w v=>B0 k w (Q0 k a1) a1 v) k
theorem au (k:Nat) (a1:Arg):s0 k a1=r0 k a1:=
 funext fun a7=>an _ _ _ (T0 a1) _ (fun rec v=>by kernel_rfl) k a7
noncomputable def p (l0:((List UInt8)×Int)->Option Out) (a1:Arg):Option Out:=(eX.ab (a1.1,())).bind fun r2=>l0 (r2.1,(0:Int))
theorem aa (k:Nat) (a1:Arg):@Eq (Option Out) (D.W k a1) (p (r0 k a1) a1):=
 Eq.trans (b:=p (s0 k a1) a1) (by kernel_rfl) (by rw[au])
theorem ok:Ok prog 210 D.sig:=ap func210 aA (by kernel_rfl) (fc eX.ok (al _))
end eO
namespace gW
abbrev Arg:Type:=(List (List UInt8))×aM×Unit
abbrev Out:Type:=(List (List UInt8))×Int×Unit
abbrev ps:PQ:=[(.ro,(.U (.U u8))),(.ro,bV)]
noncomputable def D:FD:={ fn:=f136,tl:=aK,ps:=ps,rs:=[((.U (.U u8)),(ax (.U (.U u8)))),(i64,(ax i64))],gl:=[(206,gU.D.sig),(208,fH.D.sig),(209,fu.D.sig),(210,eO.D.sig)],od:=[(10,[0,1,2,3,4,5,6,7,8,9,10,11,12])] }
noncomputable def ab (a:Arg):Option Out:=@lift Out fun k=>D.W k a
noncomputable def p (a1:Arg):Option Out:=(gU.ab (a1.2.1.1,())).bind fun r2=>bif !r2.1 then (some (a1.1,(0:Int),())) else bif decide ((a1.1.length:Int) < a1.2.1.2.2.1) then (some (([]:List (List UInt8)),(1:Int),())) else bif decide (a1.2.1.2.2.1=(12:Int)) then (some (([]:List (List UInt8)),(2:Int),())) else (fH.ab (a1.1,())).bind fun r3=>let QT:=fun (p9:List (List UInt8))=>(if 0<=a1.2.1.2.2.1/\a1.2.1.2.2.1 < (p9.length:Int) then ((p9[a1.2.1.2.2.1.toNat]?).bind fun Oy=>(eO.ab (Oy,a1.2.1.2.2.2.1,())).bind fun Ay=>if 0<=a1.2.1.2.2.1/\a1.2.1.2.2.1 < (p9.length:Int) then ((p9[a1.2.1.2.2.1.toNat]?).bind fun TN=>some (p9.set a1.2.1.2.2.1.toNat Ay.1,(0:Int),())) else none) else none:Option Out);bif decide (a1.2.1.2.2.1=(a1.1.length:Int)) then ((fu.ab ((0:UInt8),())).bind fun r4=>if r3.1.length+[r4.1].length<=bf then (QT (r3.1++[r4.1])) else none) else QT r3.1
theorem aa (k:Nat) (a1:Arg):@Eq (Option Out) (D.W k a1) (p a1):=by kernel_rfl
theorem ok:Ok prog 136 D.sig:=ap func136 aA (by kernel_rfl) (fc gU.ok (fc fH.ok (fc fu.ok (fc eO.ok (al _)))))
end gW
namespace i7
abbrev Arg:Type:=(List aM)×Unit
abbrev Out:Type:=(List (List UInt8))×Int×Unit
abbrev ps:PQ:=[(.ro,(.U bV))]
noncomputable def D:FD:={ fn:=f65,tl:=aK,ps:=ps,rs:=[((.U (.U u8)),(ax (.U (.U u8)))),(i64,(ax i64))],gl:=[(135,eh.D.sig),(136,gW.D.sig)],lv:=[(3,[4,10,11,12])],lx:=[(0,[4])],lf:=[(3,[(4,(.U false (.U false .leaf)))])] }
noncomputable def ab (a:Arg):Option Out:=@lift Out fun k=>D.W k a
noncomputable def T0 (a1:Arg) (J:(List (List UInt8))×Int):St:={ n:=33,sl:=[(4,.val (.U (.U u8)) J.1),(10,.val (.U bV) a1.1),(11,.val i64 (a1.1.length:Int)),(12,.val i64 J.2)],vr:=[],av:=[] }
noncomputable def b0 (self:((List (List UInt8))×Int)->Option Out) (e0:(List (List UInt8))->Option Out) (a1:Arg) (J:(List (List UInt8))×Int):Option Out:=bif decide (J.2 < (a1.1.length:Int)) then (if 0<=J.2 then ((a1.1[J.2.toNat]?).bind fun aB=>(eh.ab (aB,())).bind fun bZ=>bif !decide (bZ.1=(0:Int)) then (some (([]:List (List UInt8)),bZ.1,())) else (gW.ab (J.1,aB,())).bind fun gQ=>bif !decide (gQ.2.1=(0:Int)) then (some (([]:List (List UInt8)),gQ.2.1,())) else self (gQ.1,ae (J.2+(1:Int)))) else none) else e0 J.1
noncomputable abbrev B0 (_:Nat):=b0
noncomputable def q0 (a1:Arg) (kS:(List (List UInt8))):Option Out:=some (kS,(0:Int),())
noncomputable abbrev Q0 (_:Nat):=q0
noncomputable def s0 (k:Nat) (a1:Arg):((List (List UInt8))×Int)->Option Out:=fun J=>D.L k [1,1,0,1,0,0] [4,10,11,12] [(4,(.U false (.U false .leaf)))] (af 0 (aq (D.N k [1,1,1]) D.K0)) (T0 a1 J)
noncomputable def r0 (k:Nat) (a1:Arg):((List (List UInt8))×Int)->Option Out:=ak (fun w v=>B0 k w (Q0 k a1) a1 v) k
theorem au (k:Nat) (a1:Arg):s0 k a1=r0 k a1:=
 funext fun J=>an _ _ _ (T0 a1) _ (fun rec v=>by kernel_rfl) k J
noncomputable def p (l0:((List (List UInt8))×Int)->Option Out) (a1:Arg):Option Out:=l0 (([]:List (List UInt8)),(0:Int))
theorem aa (k:Nat) (a1:Arg):@Eq (Option Out) (D.W k a1) (p (r0 k a1) a1):=
 Eq.trans (b:=p (s0 k a1) a1) (by kernel_rfl) (by rw[au])
theorem ok:Ok prog 65 D.sig:=ap func65 aA (by kernel_rfl) (fc eh.ok (fc gW.ok (al _)))
end i7
namespace hY
abbrev Arg:Type:=Log×Unit
abbrev Out:Type:=(List aM)×Unit
abbrev ps:PQ:=[(.ro,cD)]
noncomputable def D:FD:={ fn:=f66,tl:=aK,ps:=ps,rs:=[((.U bV),(ao (.U bV)))],gl:=[(125,dQ.D.sig)] }
noncomputable def ab (a:Arg):Option Out:=@lift Out fun k=>D.W k a
noncomputable def p (a1:Arg):Option Out:=(dQ.ab (a1.1.1,())).bind fun r2=>(dQ.ab (a1.1.2.1,())).bind fun r3=>if r2.1.length+r3.1.length<=bf then (some (r2.1++r3.1,())) else none
theorem aa (k:Nat) (a1:Arg):@Eq (Option Out) (D.W k a1) (p a1):=by kernel_rfl
theorem ok:Ok prog 66 D.sig:=ap func66 aA (by kernel_rfl) (fc dQ.ok (al _))
end hY
namespace bL
abbrev Arg:Type:=(List (List UInt8))×(List (List UInt8))×(Nat×Int)×Unit
abbrev Out:Type:=Bool×Unit
abbrev ps:PQ:=[(.ro,(.U (.U u8))),(.ro,(.U (.U u8))),(.fix 138,.fn)]
noncomputable def D:FD:={ fn:=f137,tl:=aK,ps:=ps,rs:=[(.bool,(ax .bool))],gl:=[(138,bG.D.sig)],lv:=[(4,[1,2,15,16,17])],lx:=[(0,[])] }
noncomputable def ab (a:Arg):Option Out:=@lift Out fun k=>D.W k a
noncomputable def T0 (a1:Arg) (J:Int):St:={ n:=32,sl:=[(1,.val (.U (.U u8)) a1.2.1),(2,.val .fn ((138,a1.2.2.1.2):Nat×Int)),(15,.val (.U (.U u8)) a1.1),(16,.val i64 (a1.1.length:Int)),(17,.val i64 J)],vr:=[],av:=[] }
noncomputable def b0 (self:Int->Option Out) (e0:(Unit)->Option Out) (a1:Arg) (J:Int):Option Out:=bif decide (J < (a1.1.length:Int)) then (if 0<=J then ((a1.1[J.toNat]?).bind fun aB=>if 0<=J then ((a1.2.1[J.toNat]?).bind fun cY=>(bG.ab (aB,cY,())).bind fun gQ=>bif !gQ.1 then (some (false,())) else self (ae (J+(1:Int)))) else none) else none) else e0 ()
noncomputable abbrev B0 (_:Nat):=b0
noncomputable def q0 (a1:Arg) (kS:(Unit)):Option Out:=some (true,())
noncomputable abbrev Q0 (_:Nat):=q0
noncomputable def s0 (k:Nat) (a1:Arg):(Int)->Option Out:=fun J=>D.L k [1,1,0,1,0,0] [1,2,15,16,17] [] (af 0 (aq (D.N k [1,1,1]) D.K0)) (T0 a1 J)
noncomputable def r0 (k:Nat) (a1:Arg):(Int)->Option Out:=ak (fun w v=>B0 k w (Q0 k a1) a1 v) k
theorem au (k:Nat) (a1:Arg):s0 k a1=r0 k a1:=
 funext fun J=>an _ _ _ (T0 a1) _ (fun rec v=>by kernel_rfl) k J
noncomputable def p (l0:(Int)->Option Out) (a1:Arg):Option Out:=bif !decide ((a1.1.length:Int)=(a1.2.1.length:Int)) then (some (false,())) else l0 (0:Int)
theorem aa (k:Nat) (a1:Arg):@Eq (Option Out) (D.W k a1) (p (r0 k a1) a1):=
 Eq.trans (b:=p (s0 k a1) a1) (by kernel_rfl) (by rw[au])
theorem ok:Ok prog 137 D.sig:=ap func137 aA (by kernel_rfl) (fc bG.ok (al _))
end bL
namespace jm
abbrev Arg:Type:=(List (List UInt8))×(List (List UInt8))×Unit
abbrev Out:Type:=Bool×Unit
abbrev ps:PQ:=[(.ro,(.U (.U u8))),(.ro,(.U (.U u8)))]
noncomputable def D:FD:={ fn:=f67,tl:=aK,ps:=ps,rs:=[(.bool,(ax .bool))],gl:=[(137,bL.D.sig)] }
noncomputable def ab (a:Arg):Option Out:=@lift Out fun k=>D.W k a
noncomputable def p (a1:Arg):Option Out:=(bL.ab (a1.1,a1.2.1,((138,0):Nat×Int),())).bind fun r2=>some (r2.1,())
theorem aa (k:Nat) (a1:Arg):@Eq (Option Out) (D.W k a1) (p a1):=by kernel_rfl
theorem ok:Ok prog 67 D.sig:=ap func67 aA (by kernel_rfl) (fc bL.ok (al _))
end jm
namespace iJ
abbrev Arg:Type:=eZ×Unit
abbrev Out:Type:=Int×Unit
abbrev ps:PQ:=[(.ro,co)]
noncomputable def D:FD:={ fn:=f14,tl:=aK,ps:=ps,rs:=[(i64,(ax i64))],gl:=[(60,cv.D.sig),(61,b_.D.sig),(62,cu.D.sig),(63,gN.D.sig),(64,gV.D.sig),(65,i7.D.sig),(66,hY.D.sig),(67,jm.D.sig)],od:=[(13,[0,2,3,4,5,1,6,7,8])] }
noncomputable def ab (a:Arg):Option Out:=@lift Out fun k=>D.W k a
noncomputable def p (a1:Arg):Option Out:=(cv.ab (a1.1.2.2.1,())).bind fun r2=>bif !decide (r2.1=(0:Int)) then (some (r2.1,())) else bif !a1.1.1 then (bif decide ((0:Int) < (a1.1.2.1.length:Int)) then (some ((1:Int),())) else bif decide ((0:Int) < (a1.1.2.2.2.1.length:Int)) then (some ((1:Int),())) else bif decide ((0:Int) < (a1.1.2.2.1.2.1.length:Int)) then (some ((1:Int),())) else (b_.ab (a1.1.2.2.2.2.1,(1:Int),(100:Int),())).bind fun r3=>bif !r3.1 then (some ((3:Int),())) else some ((0:Int),())) else (cu.ab (a1.1.2.1,())).bind fun r4=>bif !decide (r4.2.1=(0:Int)) then (some (r4.2.1,())) else (gV.ab (r4.1,())).bind fun r5=>(gN.ab ((r5.1,a1.1.2.2.2.1,a1.1.2.2.2.2.1,()),())).bind fun r6=>bif !decide (r6.1=(0:Int)) then (some (r6.1,())) else (hY.ab (a1.1.2.2.1,())).bind fun r7=>(i7.ab (r7.1,())).bind fun r8=>bif !decide (r8.2.1=(0:Int)) then (some ((8:Int),())) else (jm.ab (r8.1,a1.1.2.1,())).bind fun r9=>bif !r9.1 then (some ((8:Int),())) else some ((0:Int),())
theorem aa (k:Nat) (a1:Arg):@Eq (Option Out) (D.W k a1) (p a1):=by kernel_rfl
theorem ok:Ok prog 14 D.sig:=ap func14 aA (by kernel_rfl) (fc cv.ok (fc b_.ok (fc cu.ok (fc gN.ok (fc gV.ok (fc i7.ok (fc hY.ok (fc jm.ok (al _)))))))))
end iJ
namespace cU
abbrev Arg:Type:=(List UInt8)×(List UInt8)×Unit
abbrev Out:Type:=Bool×Unit
abbrev ps:PQ:=[(.ro,(.U u8)),(.ro,(.U u8))]
noncomputable def D:FD:={ fn:=f39,tl:=aK,ps:=ps,rs:=[(.bool,(ax .bool))],lv:=[(4,[0,1,5])],lx:=[(0,[])],od:=[(6,[0,1,2,3,4,5,6,7,8])] }
noncomputable def ab (a:Arg):Option Out:=@lift Out fun k=>D.W k a
noncomputable def T0 (a1:Arg) (J:Int):St:={ n:=26,sl:=[(0,.val (.U u8) a1.1),(1,.val (.U u8) a1.2.1),(5,.val i64 J)],vr:=[],av:=[] }
noncomputable def b0 (self:Int->Option Out) (e0:(Unit)->Option Out) (a1:Arg) (J:Int):Option Out:=bif decide (J < (a1.1.length:Int)) then (if 0<=J then ((a1.1[J.toNat]?).bind fun aB=>if 0<=J then ((a1.2.1[J.toNat]?).bind fun cY=>bif !decide ((aB.toNat:Int)=(cY.toNat:Int)) then (some (false,())) else self (ae (J+(1:Int)))) else none) else none) else e0 ()
noncomputable abbrev B0 (_:Nat):=b0
noncomputable def q0 (a1:Arg) (bN:(Unit)):Option Out:=some (true,())
noncomputable abbrev Q0 (_:Nat):=q0
noncomputable def s0 (k:Nat) (a1:Arg):(Int)->Option Out:=fun J=>D.L k [1,1,0,1,0,0] [0,1,5] [] (af 0 (aq (D.N k [1,1,1]) D.K0)) (T0 a1 J)
noncomputable def r0 (k:Nat) (a1:Arg):(Int)->Option Out:=ak (fun w v=>B0 k w (Q0 k a1) a1 v) k
theorem au (k:Nat) (a1:Arg):s0 k a1=r0 k a1:=
 funext fun J=>an _ _ _ (T0 a1) _ (fun rec v=>by kernel_rfl) k J
noncomputable def p (l0:(Int)->Option Out) (a1:Arg):Option Out:=bif !decide ((a1.1.length:Int)=(a1.2.1.length:Int)) then (some (false,())) else l0 (0:Int)
theorem aa (k:Nat) (a1:Arg):@Eq (Option Out) (D.W k a1) (p (r0 k a1) a1):=
 Eq.trans (b:=p (s0 k a1) a1) (by kernel_rfl) (by rw[au])
theorem ok:Ok prog 39 D.sig:=ap func39 aA (by kernel_rfl) (al _)
end cU
namespace dL
abbrev Arg:Type:=(List (List UInt8))×(List (List UInt8))×Unit
abbrev Out:Type:=Bool×Unit
abbrev ps:PQ:=[(.ro,(.U (.U u8))),(.ro,(.U (.U u8)))]
noncomputable def D:FD:={ fn:=f68,tl:=aK,ps:=ps,rs:=[(.bool,(ax .bool))],gl:=[(39,cU.D.sig)],lv:=[(4,[0,1,5])],lx:=[(0,[])],od:=[(6,[0,1,2,3,4,5,6,7,8,9])] }
noncomputable def ab (a:Arg):Option Out:=@lift Out fun k=>D.W k a
noncomputable def T0 (a1:Arg) (J:Int):St:={ n:=27,sl:=[(0,.val (.U (.U u8)) a1.1),(1,.val (.U (.U u8)) a1.2.1),(5,.val i64 J)],vr:=[],av:=[] }
noncomputable def b0 (self:Int->Option Out) (e0:(Unit)->Option Out) (a1:Arg) (J:Int):Option Out:=bif decide (J < (a1.1.length:Int)) then (if 0<=J then ((a1.1[J.toNat]?).bind fun aB=>if 0<=J then ((a1.2.1[J.toNat]?).bind fun cY=>(cU.ab (aB,cY,())).bind fun gQ=>bif !gQ.1 then (some (false,())) else self (ae (J+(1:Int)))) else none) else none) else e0 ()
noncomputable abbrev B0 (_:Nat):=b0
noncomputable def q0 (a1:Arg) (kS:(Unit)):Option Out:=some (true,())
noncomputable abbrev Q0 (_:Nat):=q0
noncomputable def s0 (k:Nat) (a1:Arg):(Int)->Option Out:=fun J=>D.L k [1,1,0,1,0,0] [0,1,5] [] (af 0 (aq (D.N k [1,1,1]) D.K0)) (T0 a1 J)
noncomputable def r0 (k:Nat) (a1:Arg):(Int)->Option Out:=ak (fun w v=>B0 k w (Q0 k a1) a1 v) k
theorem au (k:Nat) (a1:Arg):s0 k a1=r0 k a1:=
 funext fun J=>an _ _ _ (T0 a1) _ (fun rec v=>by kernel_rfl) k J
noncomputable def p (l0:(Int)->Option Out) (a1:Arg):Option Out:=bif !decide ((a1.1.length:Int)=(a1.2.1.length:Int)) then (some (false,())) else l0 (0:Int)
theorem aa (k:Nat) (a1:Arg):@Eq (Option Out) (D.W k a1) (p (r0 k a1) a1):=
 Eq.trans (b:=p (s0 k a1) a1) (by kernel_rfl) (by rw[au])
theorem ok:Ok prog 68 D.sig:=ap func68 aA (by kernel_rfl) (fc cU.ok (al _))
end dL
namespace li
abbrev Arg:Type:=Log×Log×Unit
abbrev Out:Type:=Bool×Unit
abbrev ps:PQ:=[(.ro,cD),(.ro,cD)]
noncomputable def D:FD:={ fn:=f69,tl:=aK,ps:=ps,rs:=[(.bool,(ax .bool))],gl:=[(39,cU.D.sig)] }
noncomputable def ab (a:Arg):Option Out:=@lift Out fun k=>D.W k a
noncomputable def p (a1:Arg):Option Out:=(cU.ab (a1.1.1,a1.2.1.1,())).bind fun r2=>bif !r2.1 then (some (false,())) else (cU.ab (a1.1.2.1,a1.2.1.2.1,())).bind fun r3=>bif !r3.1 then (some (false,())) else some (true,())
theorem aa (k:Nat) (a1:Arg):@Eq (Option Out) (D.W k a1) (p a1):=by kernel_rfl
theorem ok:Ok prog 69 D.sig:=ap func69 aA (by kernel_rfl) (fc cU.ok (al _))
end li
namespace j6
abbrev Arg:Type:=Row×Row×Unit
abbrev Out:Type:=Bool×Unit
abbrev ps:PQ:=[(.ro,aF),(.ro,aF)]
noncomputable def D:FD:={ fn:=f153,tl:=aK,ps:=ps,rs:=[(.bool,(ax .bool))] }
noncomputable def ab (a:Arg):Option Out:=@lift Out fun k=>D.W k a
noncomputable def p (a1:Arg):Option Out:=bif !decide (a1.1.1=a1.2.1.1) then (some (false,())) else bif !decide (a1.1.2.1=a1.2.1.2.1) then (some (false,())) else bif !decide (a1.1.2.2.1=a1.2.1.2.2.1) then (some (false,())) else bif !decide (a1.1.2.2.2.1=a1.2.1.2.2.2.1) then (some (false,())) else some (true,())
theorem aa (k:Nat) (a1:Arg):@Eq (Option Out) (D.W k a1) (p a1):=by kernel_rfl
theorem ok:Ok prog 153 D.sig:=ap func153 aA (by kernel_rfl) (al _)
end j6
namespace i9
abbrev Arg:Type:=Change×Change×Unit
abbrev Out:Type:=Bool×Unit
abbrev ps:PQ:=[(.ro,am),(.ro,am)]
noncomputable def D:FD:={ fn:=f244,tl:=aK,ps:=ps,rs:=[(.bool,(ax .bool))],gl:=[(153,j6.D.sig)] }
noncomputable def ab (a:Arg):Option Out:=@lift Out fun k=>D.W k a
noncomputable def p (a1:Arg):Option Out:=bif !(a1.1.1 == a1.2.1.1) then (some (false,())) else (j6.ab (a1.1.2.1,a1.2.1.2.1,())).bind fun r2=>bif !r2.1 then (some (false,())) else bif !(a1.1.2.2.1 == a1.2.1.2.2.1) then (some (false,())) else (j6.ab (a1.1.2.2.2.1,a1.2.1.2.2.2.1,())).bind fun r3=>bif !r3.1 then (some (false,())) else some (true,())
theorem aa (k:Nat) (a1:Arg):@Eq (Option Out) (D.W k a1) (p a1):=by kernel_rfl
theorem ok:Ok prog 244 D.sig:=ap func244 aA (by kernel_rfl) (fc j6.ok (al _))
end i9
namespace dh
abbrev Arg:Type:=(List Change)×(List Change)×Unit
abbrev Out:Type:=Bool×Unit
abbrev ps:PQ:=[(.ro,(.U am)),(.ro,(.U am))]
noncomputable def D:FD:={ fn:=f173,tl:=aK,ps:=ps,rs:=[(.bool,(ax .bool))],gl:=[(244,i9.D.sig)],lv:=[(4,[0,1,5])],lx:=[(0,[])],od:=[(6,[0,1,2,3,4,5,6,7,8,9])] }
noncomputable def ab (a:Arg):Option Out:=@lift Out fun k=>D.W k a
noncomputable def T0 (a1:Arg) (J:Int):St:={ n:=27,sl:=[(0,.val (.U am) a1.1),(1,.val (.U am) a1.2.1),(5,.val i64 J)],vr:=[],av:=[] }
noncomputable def b0 (self:Int->Option Out) (e0:(Unit)->Option Out) (a1:Arg) (J:Int):Option Out:=bif decide (J < (a1.1.length:Int)) then (if 0<=J then ((a1.1[J.toNat]?).bind fun aB=>if 0<=J then ((a1.2.1[J.toNat]?).bind fun cY=>(i9.ab (aB,cY,())).bind fun gQ=>bif !gQ.1 then (some (false,())) else self (ae (J+(1:Int)))) else none) else none) else e0 ()
noncomputable abbrev B0 (_:Nat):=b0
noncomputable def q0 (a1:Arg) (kS:(Unit)):Option Out:=some (true,())
noncomputable abbrev Q0 (_:Nat):=q0
noncomputable def s0 (k:Nat) (a1:Arg):(Int)->Option Out:=fun J=>D.L k [1,1,0,1,0,0] [0,1,5] [] (af 0 (aq (D.N k [1,1,1]) D.K0)) (T0 a1 J)
noncomputable def r0 (k:Nat) (a1:Arg):(Int)->Option Out:=ak (fun w v=>B0 k w (Q0 k a1) a1 v) k
theorem au (k:Nat) (a1:Arg):s0 k a1=r0 k a1:=
 funext fun J=>an _ _ _ (T0 a1) _ (fun rec v=>by kernel_rfl) k J
noncomputable def p (l0:(Int)->Option Out) (a1:Arg):Option Out:=bif !decide ((a1.1.length:Int)=(a1.2.1.length:Int)) then (some (false,())) else l0 (0:Int)
theorem aa (k:Nat) (a1:Arg):@Eq (Option Out) (D.W k a1) (p (r0 k a1) a1):=
 Eq.trans (b:=p (s0 k a1) a1) (by kernel_rfl) (by rw[au])
theorem ok:Ok prog 173 D.sig:=ap func173 aA (by kernel_rfl) (fc i9.ok (al _))
end dh
namespace dM
abbrev Arg:Type:=(List Int)×(List Int)×Unit
abbrev Out:Type:=Bool×Unit
abbrev ps:PQ:=[(.ro,(.U i64)),(.ro,(.U i64))]
noncomputable def D:FD:={ fn:=f211,tl:=aK,ps:=ps,rs:=[(.bool,(ax .bool))],lv:=[(4,[0,1,5])],lx:=[(0,[])],od:=[(6,[0,1,2,3,4,5,6,7,8])] }
noncomputable def ab (a:Arg):Option Out:=@lift Out fun k=>D.W k a
noncomputable def T0 (a1:Arg) (J:Int):St:={ n:=26,sl:=[(0,.val (.U i64) a1.1),(1,.val (.U i64) a1.2.1),(5,.val i64 J)],vr:=[],av:=[] }
noncomputable def b0 (self:Int->Option Out) (e0:(Unit)->Option Out) (a1:Arg) (J:Int):Option Out:=bif decide (J < (a1.1.length:Int)) then (if 0<=J then ((a1.1[J.toNat]?).bind fun aB=>if 0<=J then ((a1.2.1[J.toNat]?).bind fun cY=>bif !decide (aB=cY) then (some (false,())) else self (ae (J+(1:Int)))) else none) else none) else e0 ()
noncomputable abbrev B0 (_:Nat):=b0
noncomputable def q0 (a1:Arg) (bN:(Unit)):Option Out:=some (true,())
noncomputable abbrev Q0 (_:Nat):=q0
noncomputable def s0 (k:Nat) (a1:Arg):(Int)->Option Out:=fun J=>D.L k [1,1,0,1,0,0] [0,1,5] [] (af 0 (aq (D.N k [1,1,1]) D.K0)) (T0 a1 J)
noncomputable def r0 (k:Nat) (a1:Arg):(Int)->Option Out:=ak (fun w v=>B0 k w (Q0 k a1) a1 v) k
theorem au (k:Nat) (a1:Arg):s0 k a1=r0 k a1:=
 funext fun J=>an _ _ _ (T0 a1) _ (fun rec v=>by kernel_rfl) k J
noncomputable def p (l0:(Int)->Option Out) (a1:Arg):Option Out:=bif !decide ((a1.1.length:Int)=(a1.2.1.length:Int)) then (some (false,())) else l0 (0:Int)
theorem aa (k:Nat) (a1:Arg):@Eq (Option Out) (D.W k a1) (p (r0 k a1) a1):=
 Eq.trans (b:=p (s0 k a1) a1) (by kernel_rfl) (by rw[au])
theorem ok:Ok prog 211 D.sig:=ap func211 aA (by kernel_rfl) (al _)
end dM
namespace lj
abbrev Arg:Type:=Key×Key×Unit
abbrev Out:Type:=Bool×Unit
abbrev ps:PQ:=[(.ro,aC),(.ro,aC)]
noncomputable def D:FD:={ fn:=f271,tl:=aK,ps:=ps,rs:=[(.bool,(ax .bool))] }
noncomputable def ab (a:Arg):Option Out:=@lift Out fun k=>D.W k a
noncomputable def p (a1:Arg):Option Out:=bif !decide (a1.1.1=a1.2.1.1) then (some (false,())) else bif !decide (a1.1.2.1=a1.2.1.2.1) then (some (false,())) else some (true,())
theorem aa (k:Nat) (a1:Arg):@Eq (Option Out) (D.W k a1) (p a1):=by kernel_rfl
theorem ok:Ok prog 271 D.sig:=ap func271 aA (by kernel_rfl) (al _)
end lj
namespace eY
abbrev Arg:Type:=(List Key)×(List Key)×Unit
abbrev Out:Type:=Bool×Unit
abbrev ps:PQ:=[(.ro,(.U aC)),(.ro,(.U aC))]
noncomputable def D:FD:={ fn:=f212,tl:=aK,ps:=ps,rs:=[(.bool,(ax .bool))],gl:=[(271,lj.D.sig)],lv:=[(4,[0,1,5])],lx:=[(0,[])],od:=[(6,[0,1,2,3,4,5,6,7,8,9])] }
noncomputable def ab (a:Arg):Option Out:=@lift Out fun k=>D.W k a
noncomputable def T0 (a1:Arg) (J:Int):St:={ n:=27,sl:=[(0,.val (.U aC) a1.1),(1,.val (.U aC) a1.2.1),(5,.val i64 J)],vr:=[],av:=[] }
noncomputable def b0 (self:Int->Option Out) (e0:(Unit)->Option Out) (a1:Arg) (J:Int):Option Out:=bif decide (J < (a1.1.length:Int)) then (if 0<=J then ((a1.1[J.toNat]?).bind fun aB=>if 0<=J then ((a1.2.1[J.toNat]?).bind fun cY=>(lj.ab (aB,cY,())).bind fun gQ=>bif !gQ.1 then (some (false,())) else self (ae (J+(1:Int)))) else none) else none) else e0 ()
noncomputable abbrev B0 (_:Nat):=b0
noncomputable def q0 (a1:Arg) (kS:(Unit)):Option Out:=some (true,())
noncomputable abbrev Q0 (_:Nat):=q0
noncomputable def s0 (k:Nat) (a1:Arg):(Int)->Option Out:=fun J=>D.L k [1,1,0,1,0,0] [0,1,5] [] (af 0 (aq (D.N k [1,1,1]) D.K0)) (T0 a1 J)
noncomputable def r0 (k:Nat) (a1:Arg):(Int)->Option Out:=ak (fun w v=>B0 k w (Q0 k a1) a1 v) k
theorem au (k:Nat) (a1:Arg):s0 k a1=r0 k a1:=
 funext fun J=>an _ _ _ (T0 a1) _ (fun rec v=>by kernel_rfl) k J
noncomputable def p (l0:(Int)->Option Out) (a1:Arg):Option Out:=bif !decide ((a1.1.length:Int)=(a1.2.1.length:Int)) then (some (false,())) else l0 (0:Int)
theorem aa (k:Nat) (a1:Arg):@Eq (Option Out) (D.W k a1) (p (r0 k a1) a1):=
 Eq.trans (b:=p (s0 k a1) a1) (by kernel_rfl) (by rw[au])
theorem ok:Ok prog 212 D.sig:=ap func212 aA (by kernel_rfl) (fc lj.ok (al _))
end eY
namespace lX
abbrev Arg:Type:=Tx×Tx×Unit
abbrev Out:Type:=Bool×Unit
abbrev ps:PQ:=[(.ro,aR),(.ro,aR)]
noncomputable def D:FD:={ fn:=f139,tl:=aK,ps:=ps,rs:=[(.bool,(ax .bool))],gl:=[(173,dh.D.sig),(211,dM.D.sig),(212,eY.D.sig)] }
noncomputable def ab (a:Arg):Option Out:=@lift Out fun k=>D.W k a
noncomputable def p (a1:Arg):Option Out:=bif !decide (a1.1.1=a1.2.1.1) then (some (false,())) else (dh.ab (a1.1.2.1,a1.2.1.2.1,())).bind fun r2=>bif !r2.1 then (some (false,())) else (dM.ab (a1.1.2.2.1,a1.2.1.2.2.1,())).bind fun r3=>bif !r3.1 then (some (false,())) else (eY.ab (a1.1.2.2.2.1,a1.2.1.2.2.2.1,())).bind fun r4=>bif !r4.1 then (some (false,())) else some (true,())
theorem aa (k:Nat) (a1:Arg):@Eq (Option Out) (D.W k a1) (p a1):=by kernel_rfl
theorem ok:Ok prog 139 D.sig:=ap func139 aA (by kernel_rfl) (fc dh.ok (fc dM.ok (fc eY.ok (al _))))
end lX
namespace fJ
abbrev Arg:Type:=(List Tx)×(List Tx)×Unit
abbrev Out:Type:=Bool×Unit
abbrev ps:PQ:=[(.ro,(.U aR)),(.ro,(.U aR))]
noncomputable def D:FD:={ fn:=f70,tl:=aK,ps:=ps,rs:=[(.bool,(ax .bool))],gl:=[(139,lX.D.sig)],lv:=[(4,[0,1,5])],lx:=[(0,[])],od:=[(6,[0,1,2,3,4,5,6,7,8,9])] }
noncomputable def ab (a:Arg):Option Out:=@lift Out fun k=>D.W k a
noncomputable def T0 (a1:Arg) (J:Int):St:={ n:=27,sl:=[(0,.val (.U aR) a1.1),(1,.val (.U aR) a1.2.1),(5,.val i64 J)],vr:=[],av:=[] }
noncomputable def b0 (self:Int->Option Out) (e0:(Unit)->Option Out) (a1:Arg) (J:Int):Option Out:=bif decide (J < (a1.1.length:Int)) then (if 0<=J then ((a1.1[J.toNat]?).bind fun aB=>if 0<=J then ((a1.2.1[J.toNat]?).bind fun cY=>(lX.ab (aB,cY,())).bind fun gQ=>bif !gQ.1 then (some (false,())) else self (ae (J+(1:Int)))) else none) else none) else e0 ()
noncomputable abbrev B0 (_:Nat):=b0
noncomputable def q0 (a1:Arg) (kS:(Unit)):Option Out:=some (true,())
noncomputable abbrev Q0 (_:Nat):=q0
noncomputable def s0 (k:Nat) (a1:Arg):(Int)->Option Out:=fun J=>D.L k [1,1,0,1,0,0] [0,1,5] [] (af 0 (aq (D.N k [1,1,1]) D.K0)) (T0 a1 J)
noncomputable def r0 (k:Nat) (a1:Arg):(Int)->Option Out:=ak (fun w v=>B0 k w (Q0 k a1) a1 v) k
theorem au (k:Nat) (a1:Arg):s0 k a1=r0 k a1:=
 funext fun J=>an _ _ _ (T0 a1) _ (fun rec v=>by kernel_rfl) k J
noncomputable def p (l0:(Int)->Option Out) (a1:Arg):Option Out:=bif !decide ((a1.1.length:Int)=(a1.2.1.length:Int)) then (some (false,())) else l0 (0:Int)
theorem aa (k:Nat) (a1:Arg):@Eq (Option Out) (D.W k a1) (p (r0 k a1) a1):=
 Eq.trans (b:=p (s0 k a1) a1) (by kernel_rfl) (by rw[au])
theorem ok:Ok prog 70 D.sig:=ap func70 aA (by kernel_rfl) (fc lX.ok (al _))
end fJ
namespace gy
abbrev Arg:Type:=eZ×eZ×Unit
abbrev Out:Type:=Bool×Unit
abbrev ps:PQ:=[(.ro,co),(.ro,co)]
noncomputable def D:FD:={ fn:=f15,tl:=aK,ps:=ps,rs:=[(.bool,(ax .bool))],gl:=[(68,dL.D.sig),(69,li.D.sig),(70,fJ.D.sig)] }
noncomputable def ab (a:Arg):Option Out:=@lift Out fun k=>D.W k a
noncomputable def p (a1:Arg):Option Out:=bif !(a1.1.1 == a1.2.1.1) then (some (false,())) else (dL.ab (a1.1.2.1,a1.2.1.2.1,())).bind fun r2=>bif !r2.1 then (some (false,())) else (li.ab (a1.1.2.2.1,a1.2.1.2.2.1,())).bind fun r3=>bif !r3.1 then (some (false,())) else (fJ.ab (a1.1.2.2.2.1,a1.2.1.2.2.2.1,())).bind fun r4=>bif !r4.1 then (some (false,())) else bif !decide (a1.1.2.2.2.2.1=a1.2.1.2.2.2.2.1) then (some (false,())) else some (true,())
theorem aa (k:Nat) (a1:Arg):@Eq (Option Out) (D.W k a1) (p a1):=by kernel_rfl
theorem ok:Ok prog 15 D.sig:=ap func15 aA (by kernel_rfl) (fc dL.ok (fc li.ok (fc fJ.ok (al _))))
end gy
namespace aX
abbrev Arg:Type:=(List UInt8)×Int×Unit
abbrev Out:Type:=Int×(List UInt8)×Unit
abbrev ps:PQ:=[(.fi (ao (.U u8)),(.U u8)),(.ro,i64)]
noncomputable def D:FD:={ fn:=f41,tl:=aK,ps:=ps,rs:=[(i64,(ax i64))],es:=[0],lv:=[(2,[0,1,5])],lx:=[(0,[0,1])] }
noncomputable def ab (a:Arg):Option Out:=@lift Out fun k=>D.W k a
noncomputable def T0 (a1:Arg) (J:(List UInt8)×Int×Int):St:={ n:=20,sl:=[(0,.own (.U u8) (ao (.U u8)) [] J.1),(1,.val i64 J.2.1),(5,.val i64 J.2.2)],vr:=[],av:=[(0,0,true)] }
noncomputable def b0 (self:((List UInt8)×Int×Int)->Option Out) (e0:((List UInt8)×Int)->Option Out) (a1:Arg) (J:(List UInt8)×Int×Int):Option Out:=bif decide (J.2.2 < (J.1.length:Int)) then (if 0<=J.2.2/\J.2.2 < (J.1.length:Int) then ((J.1[J.2.2.toNat]?).bind fun aB=>let jP:=J.1.set J.2.2.toNat (UInt8.ofInt J.2.1);self (jP,ae (J.2.1+(1:Int)),ae (J.2.2+(1:Int)))) else none) else e0 (J.1,J.2.1)
noncomputable abbrev B0 (_:Nat):=b0
noncomputable def q0 (a1:Arg) (bN:((List UInt8)×Int)):Option Out:=some (bN.2,bN.1,())
noncomputable abbrev Q0 (_:Nat):=q0
noncomputable def s0 (k:Nat) (a1:Arg):((List UInt8)×Int×Int)->Option Out:=fun J=>D.L k [1,0,1,0,0] [0,1,5] [] (af 0 (aq (D.N k [1,1]) D.K0)) (T0 a1 J)
noncomputable def r0 (k:Nat) (a1:Arg):((List UInt8)×Int×Int)->Option Out:=ak (fun w v=>B0 k w (Q0 k a1) a1 v) k
theorem au (k:Nat) (a1:Arg):s0 k a1=r0 k a1:=
 funext fun J=>an _ _ _ (T0 a1) _ (fun rec v=>by kernel_rfl) k J
noncomputable def p (l0:((List UInt8)×Int×Int)->Option Out) (a1:Arg):Option Out:=l0 (a1.1,a1.2.1,(0:Int))
theorem aa (k:Nat) (a1:Arg):@Eq (Option Out) (D.W k a1) (p (r0 k a1) a1):=
 Eq.trans (b:=p (s0 k a1) a1) (by kernel_rfl) (by rw[au])
theorem ok:Ok prog 41 D.sig:=ap func41 aA (by kernel_rfl) (al _)
end aX
namespace bg
abbrev Arg:Type:=(List (List UInt8))×Int×Unit
abbrev Out:Type:=Int×(List (List UInt8))×Unit
abbrev ps:PQ:=[(.fi (ao (.U (.U u8))),(.U (.U u8))),(.ro,i64)]
noncomputable def D:FD:={ fn:=f81,tl:=aK,ps:=ps,rs:=[(i64,(ax i64))],gl:=[(41,aX.D.sig)],es:=[0],lv:=[(2,[0,1,5])],lx:=[(0,[0,1])] }
noncomputable def ab (a:Arg):Option Out:=@lift Out fun k=>D.W k a
noncomputable def T0 (a1:Arg) (J:(List (List UInt8))×Int×Int):St:={ n:=19,sl:=[(0,.own (.U (.U u8)) (ao (.U (.U u8))) [] J.1),(1,.val i64 J.2.1),(5,.val i64 J.2.2)],vr:=[],av:=[(0,0,true)] }
noncomputable def b0 (self:((List (List UInt8))×Int×Int)->Option Out) (e0:((List (List UInt8))×Int)->Option Out) (a1:Arg) (J:(List (List UInt8))×Int×Int):Option Out:=bif decide (J.2.2 < (J.1.length:Int)) then (if 0<=J.2.2/\J.2.2 < (J.1.length:Int) then ((J.1[J.2.2.toNat]?).bind fun aB=>(J.1[J.2.2.toNat]?).bind fun cY=>(J.1[J.2.2.toNat]?).bind fun cE=>(aX.ab (cE,J.2.1,())).bind fun kE=>(J.1[J.2.2.toNat]?).bind fun mb=>self (J.1.set J.2.2.toNat kE.2.1,kE.1,ae (J.2.2+(1:Int)))) else none) else e0 (J.1,J.2.1)
noncomputable abbrev B0 (_:Nat):=b0
noncomputable def q0 (a1:Arg) (l8:((List (List UInt8))×Int)):Option Out:=some (l8.2,l8.1,())
noncomputable abbrev Q0 (_:Nat):=q0
noncomputable def s0 (k:Nat) (a1:Arg):((List (List UInt8))×Int×Int)->Option Out:=fun J=>D.L k [1,0,1,0,0] [0,1,5] [] (af 0 (aq (D.N k [1,1]) D.K0)) (T0 a1 J)
noncomputable def r0 (k:Nat) (a1:Arg):((List (List UInt8))×Int×Int)->Option Out:=ak (fun w v=>B0 k w (Q0 k a1) a1 v) k
theorem au (k:Nat) (a1:Arg):s0 k a1=r0 k a1:=
 funext fun J=>an _ _ _ (T0 a1) _ (fun rec v=>by kernel_rfl) k J
noncomputable def p (l0:((List (List UInt8))×Int×Int)->Option Out) (a1:Arg):Option Out:=l0 (a1.1,a1.2.1,(0:Int))
theorem aa (k:Nat) (a1:Arg):@Eq (Option Out) (D.W k a1) (p (r0 k a1) a1):=
 Eq.trans (b:=p (s0 k a1) a1) (by kernel_rfl) (by rw[au])
theorem ok:Ok prog 81 D.sig:=ap func81 aA (by kernel_rfl) (fc aX.ok (al _))
end bg
namespace fU
abbrev Arg:Type:=Log×Int×Unit
abbrev Out:Type:=Int×Log×Unit
abbrev ps:PQ:=[(.fi (ao cD),cD),(.ro,i64)]
noncomputable def D:FD:={ fn:=f82,tl:=aK,ps:=ps,rs:=[(i64,(ax i64))],gl:=[(41,aX.D.sig)],es:=[2] }
noncomputable def ab (a:Arg):Option Out:=@lift Out fun k=>D.W k a
noncomputable def p (a1:Arg):Option Out:=(aX.ab (a1.1.1,a1.2.1,())).bind fun r2=>(aX.ab (a1.1.2.1,r2.1,())).bind fun r3=>some (r3.1,(r2.2.1,r3.2.1,a1.1.2.2),())
theorem aa (k:Nat) (a1:Arg):@Eq (Option Out) (D.W k a1) (p a1):=by kernel_rfl
theorem ok:Ok prog 82 D.sig:=ap func82 aA (by kernel_rfl) (fc aX.ok (al _))
end fU
namespace be
abbrev Arg:Type:=Int×Unit
abbrev Out:Type:=(List UInt8)×Unit
abbrev ps:PQ:=[(.ro,i64)]
noncomputable def D:FD:={ fn:=f157,tl:=aK,ps:=ps,rs:=[(.str,(ax .str))],lv:=[(4,[0,3])],lx:=[(0,[3])] }
noncomputable def ab (a:Arg):Option Out:=@lift Out fun k=>D.W k a
noncomputable def T0 (a1:Arg) (J:Int×(List UInt8)):St:={ n:=20,sl:=[(0,.val i64 J.1),(3,.val .str J.2)],vr:=[],av:=[] }
noncomputable def b0 (self:(Int×(List UInt8))->Option Out) (e0:(List UInt8)->Option Out) (a1:Arg) (J:Int×(List UInt8)):Option Out:=bif decide ((0:Int) < J.1) then (if [UInt8.ofInt (ae ((48:Int)+(J.1.tmod (10:Int))))].length+J.2.length<=bf then (self (ae (J.1.tdiv (10:Int)),[UInt8.ofInt (ae ((48:Int)+(J.1.tmod (10:Int))))]++J.2)) else none) else e0 J.2
noncomputable abbrev B0 (_:Nat):=b0
noncomputable def q0 (a1:Arg) (Oz:(List UInt8)):Option Out:=if ([109]:List UInt8).length+Oz.length<=bf then (some (([109]:List UInt8)++Oz,())) else none
noncomputable abbrev Q0 (_:Nat):=q0
noncomputable def s0 (k:Nat) (a1:Arg):(Int×(List UInt8))->Option Out:=fun J=>D.L k [1,1,1,0,0,0] [0,3] [] (af 0 (aq (D.N k [1,1,1,1]) D.K0)) (T0 a1 J)
noncomputable def r0 (k:Nat) (a1:Arg):(Int×(List UInt8))->Option Out:=ak (fun w v=>B0 k w (Q0 k a1) a1 v) k
theorem au (k:Nat) (a1:Arg):s0 k a1=r0 k a1:=
 funext fun J=>an _ _ _ (T0 a1) _ (fun rec v=>by kernel_rfl) k J
noncomputable def p (l0:(Int×(List UInt8))->Option Out) (a1:Arg):Option Out:=bif decide (a1.1<=(0:Int)) then (some (([109,48]:List UInt8),())) else l0 (a1.1,([]:List UInt8))
theorem aa (k:Nat) (a1:Arg):@Eq (Option Out) (D.W k a1) (p (r0 k a1) a1):=
 Eq.trans (b:=p (s0 k a1) a1) (by kernel_rfl) (by rw[au])
theorem ok:Ok prog 157 D.sig:=ap func157 aA (by kernel_rfl) (al _)
end be
namespace aY
abbrev Arg:Type:=(List Change)×Int×Unit
abbrev Out:Type:=Int×(List Change)×Unit
abbrev ps:PQ:=[(.fi (ao (.U am)),(.U am)),(.ro,i64)]
noncomputable def D:FD:={ fn:=f154,tl:=aK,ps:=ps,rs:=[(i64,(ax i64))],gl:=[(157,be.D.sig)],es:=[0],lv:=[(2,[0,1,5])],lx:=[(0,[0,1])] }
noncomputable def ab (a:Arg):Option Out:=@lift Out fun k=>D.W k a
noncomputable def T0 (a1:Arg) (J:(List Change)×Int×Int):St:={ n:=97,sl:=[(0,.own (.U am) (ao (.U am)) [] J.1),(1,.val i64 J.2.1),(5,.val i64 J.2.2)],vr:=[],av:=[(0,0,true)] }
noncomputable def b0 (self:((List Change)×Int×Int)->Option Out) (e0:((List Change)×Int)->Option Out) (a1:Arg) (J:(List Change)×Int×Int):Option Out:=bif decide (J.2.2 < (J.1.length:Int)) then (if 0<=J.2.2/\J.2.2 < (J.1.length:Int) then ((J.1[J.2.2.toNat]?).bind fun aB=>let jP:=J.1.set J.2.2.toNat (decide (J.2.1.tmod (3:Int)=(0:Int)),aB.2);if 0<=J.2.2/\J.2.2 < (jP.length:Int) then ((jP[J.2.2.toNat]?).bind fun cE=>let o8:=jP.set J.2.2.toNat (cE.1,(ae (J.2.1+(1:Int)),cE.2.1.2),cE.2.2);if 0<=J.2.2/\J.2.2 < (o8.length:Int) then ((o8[J.2.2.toNat]?).bind fun mb=>let Kn:=o8.set J.2.2.toNat (mb.1,(mb.2.1.1,ae ((ae (J.2.1+(1:Int)))+(1:Int)),mb.2.1.2.2),mb.2.2);if 0<=J.2.2/\J.2.2 < (Kn.length:Int) then ((Kn[J.2.2.toNat]?).bind fun qt=>let qs:=Kn.set J.2.2.toNat (qt.1,(qt.2.1.1,qt.2.1.2.1,ae ((ae ((ae (J.2.1+(1:Int)))+(1:Int)))+(1:Int)),qt.2.1.2.2.2),qt.2.2);(be.ab (ae ((ae ((ae ((ae (J.2.1+(1:Int)))+(1:Int)))+(1:Int)))+(1:Int)),())).bind fun Kk=>if 0<=J.2.2/\J.2.2 < (qs.length:Int) then ((qs[J.2.2.toNat]?).bind fun ug=>let Ko:=qs.set J.2.2.toNat (ug.1,(ug.2.1.1,ug.2.1.2.1,ug.2.1.2.2.1,Kk.1,ug.2.1.2.2.2.2),ug.2.2);if 0<=J.2.2/\J.2.2 < (Ko.length:Int) then ((Ko[J.2.2.toNat]?).bind fun vN=>let Kp:=Ko.set J.2.2.toNat (vN.1,vN.2.1,decide ((ae ((ae ((ae ((ae ((ae (J.2.1+(1:Int)))+(1:Int)))+(1:Int)))+(1:Int)))+(1:Int))).tmod (3:Int)=(0:Int)),vN.2.2.2);if 0<=J.2.2/\J.2.2 < (Kp.length:Int) then ((Kp[J.2.2.toNat]?).bind fun C_=>let C9:=Kp.set J.2.2.toNat (C_.1,C_.2.1,C_.2.2.1,(ae ((ae ((ae ((ae ((ae ((ae (J.2.1+(1:Int)))+(1:Int)))+(1:Int)))+(1:Int)))+(1:Int)))+(1:Int)),C_.2.2.2.1.2),C_.2.2.2.2);if 0<=J.2.2/\J.2.2 < (C9.length:Int) then ((C9[J.2.2.toNat]?).bind fun xt=>let Kq:=C9.set J.2.2.toNat (xt.1,xt.2.1,xt.2.2.1,(xt.2.2.2.1.1,ae ((ae ((ae ((ae ((ae ((ae ((ae (J.2.1+(1:Int)))+(1:Int)))+(1:Int)))+(1:Int)))+(1:Int)))+(1:Int)))+(1:Int)),xt.2.2.2.1.2.2),xt.2.2.2.2);if 0<=J.2.2/\J.2.2 < (Kq.length:Int) then ((Kq[J.2.2.toNat]?).bind fun xu=>let Kr:=Kq.set J.2.2.toNat (xu.1,xu.2.1,xu.2.2.1,(xu.2.2.2.1.1,xu.2.2.2.1.2.1,ae ((ae ((ae ((ae ((ae ((ae ((ae ((ae (J.2.1+(1:Int)))+(1:Int)))+(1:Int)))+(1:Int)))+(1:Int)))+(1:Int)))+(1:Int)))+(1:Int)),xu.2.2.2.1.2.2.2),xu.2.2.2.2);(be.ab (ae ((ae ((ae ((ae ((ae ((ae ((ae ((ae ((ae (J.2.1+(1:Int)))+(1:Int)))+(1:Int)))+(1:Int)))+(1:Int)))+(1:Int)))+(1:Int)))+(1:Int)))+(1:Int)),())).bind fun RJ=>if 0<=J.2.2/\J.2.2 < (Kr.length:Int) then ((Kr[J.2.2.toNat]?).bind fun vO=>let RK:=Kr.set J.2.2.toNat (vO.1,vO.2.1,vO.2.2.1,(vO.2.2.2.1.1,vO.2.2.2.1.2.1,vO.2.2.2.1.2.2.1,RJ.1,vO.2.2.2.1.2.2.2.2),vO.2.2.2.2);self (RK,ae ((ae ((ae ((ae ((ae ((ae ((ae ((ae ((ae ((ae (J.2.1+(1:Int)))+(1:Int)))+(1:Int)))+(1:Int)))+(1:Int)))+(1:Int)))+(1:Int)))+(1:Int)))+(1:Int)))+(1:Int)),ae (J.2.2+(1:Int)))) else none) else none) else none) else none) else none) else none) else none) else none) else none) else none) else e0 (J.1,J.2.1)
noncomputable abbrev B0 (_:Nat):=b0
noncomputable def q0 (a1:Arg) (OA:((List Change)×Int)):Option Out:=some (OA.2,OA.1,())
noncomputable abbrev Q0 (_:Nat):=q0
noncomputable def s0 (k:Nat) (a1:Arg):((List Change)×Int×Int)->Option Out:=fun J=>D.L k [1,0,1,0,0] [0,1,5] [] (af 0 (aq (D.N k [1,1]) D.K0)) (T0 a1 J)
noncomputable def r0 (k:Nat) (a1:Arg):((List Change)×Int×Int)->Option Out:=ak (fun w v=>B0 k w (Q0 k a1) a1 v) k
theorem au (k:Nat) (a1:Arg):s0 k a1=r0 k a1:=
 funext fun J=>an _ _ _ (T0 a1) _ (fun rec v=>by kernel_rfl) k J
noncomputable def p (l0:((List Change)×Int×Int)->Option Out) (a1:Arg):Option Out:=l0 (a1.1,a1.2.1,(0:Int))
theorem aa (k:Nat) (a1:Arg):@Eq (Option Out) (D.W k a1) (p (r0 k a1) a1):=
 Eq.trans (b:=p (s0 k a1) a1) (by kernel_rfl) (by rw[au])
theorem ok:Ok prog 154 D.sig:=ap func154 aA (by kernel_rfl) (fc be.ok (al _))
end aY
namespace a8
abbrev Arg:Type:=(List Int)×Int×Unit
abbrev Out:Type:=Int×(List Int)×Unit
abbrev ps:PQ:=[(.fi (ao (.U i64)),(.U i64)),(.ro,i64)]
noncomputable def D:FD:={ fn:=f155,tl:=aK,ps:=ps,rs:=[(i64,(ax i64))],es:=[0],lv:=[(2,[0,1,5])],lx:=[(0,[0,1])] }
noncomputable def ab (a:Arg):Option Out:=@lift Out fun k=>D.W k a
noncomputable def T0 (a1:Arg) (J:(List Int)×Int×Int):St:={ n:=19,sl:=[(0,.own (.U i64) (ao (.U i64)) [] J.1),(1,.val i64 J.2.1),(5,.val i64 J.2.2)],vr:=[],av:=[(0,0,true)] }
noncomputable def b0 (self:((List Int)×Int×Int)->Option Out) (e0:((List Int)×Int)->Option Out) (a1:Arg) (J:(List Int)×Int×Int):Option Out:=bif decide (J.2.2 < (J.1.length:Int)) then (if 0<=J.2.2/\J.2.2 < (J.1.length:Int) then ((J.1[J.2.2.toNat]?).bind fun aB=>self (J.1.set J.2.2.toNat J.2.1,ae (J.2.1+(1:Int)),ae (J.2.2+(1:Int)))) else none) else e0 (J.1,J.2.1)
noncomputable abbrev B0 (_:Nat):=b0
noncomputable def q0 (a1:Arg) (hU:((List Int)×Int)):Option Out:=some (hU.2,hU.1,())
noncomputable abbrev Q0 (_:Nat):=q0
noncomputable def s0 (k:Nat) (a1:Arg):((List Int)×Int×Int)->Option Out:=fun J=>D.L k [1,0,1,0,0] [0,1,5] [] (af 0 (aq (D.N k [1,1]) D.K0)) (T0 a1 J)
noncomputable def r0 (k:Nat) (a1:Arg):((List Int)×Int×Int)->Option Out:=ak (fun w v=>B0 k w (Q0 k a1) a1 v) k
theorem au (k:Nat) (a1:Arg):s0 k a1=r0 k a1:=
 funext fun J=>an _ _ _ (T0 a1) _ (fun rec v=>by kernel_rfl) k J
noncomputable def p (l0:((List Int)×Int×Int)->Option Out) (a1:Arg):Option Out:=l0 (a1.1,a1.2.1,(0:Int))
theorem aa (k:Nat) (a1:Arg):@Eq (Option Out) (D.W k a1) (p (r0 k a1) a1):=
 Eq.trans (b:=p (s0 k a1) a1) (by kernel_rfl) (by rw[au])
theorem ok:Ok prog 155 D.sig:=ap func155 aA (by kernel_rfl) (al _)
end a8
namespace bs
abbrev Arg:Type:=(List Key)×Int×Unit
abbrev Out:Type:=Int×(List Key)×Unit
abbrev ps:PQ:=[(.fi (ao (.U aC)),(.U aC)),(.ro,i64)]
noncomputable def D:FD:={ fn:=f156,tl:=aK,ps:=ps,rs:=[(i64,(ax i64))],es:=[0],lv:=[(2,[0,1,5])],lx:=[(0,[0,1])] }
noncomputable def ab (a:Arg):Option Out:=@lift Out fun k=>D.W k a
noncomputable def T0 (a1:Arg) (J:(List Key)×Int×Int):St:={ n:=27,sl:=[(0,.own (.U aC) (ao (.U aC)) [] J.1),(1,.val i64 J.2.1),(5,.val i64 J.2.2)],vr:=[],av:=[(0,0,true)] }
noncomputable def b0 (self:((List Key)×Int×Int)->Option Out) (e0:((List Key)×Int)->Option Out) (a1:Arg) (J:(List Key)×Int×Int):Option Out:=bif decide (J.2.2 < (J.1.length:Int)) then (if 0<=J.2.2/\J.2.2 < (J.1.length:Int) then ((J.1[J.2.2.toNat]?).bind fun aB=>let jP:=J.1.set J.2.2.toNat (J.2.1,aB.2);if 0<=J.2.2/\J.2.2 < (jP.length:Int) then ((jP[J.2.2.toNat]?).bind fun cE=>let o8:=jP.set J.2.2.toNat (cE.1,ae (J.2.1+(1:Int)),cE.2.2);self (o8,ae ((ae (J.2.1+(1:Int)))+(1:Int)),ae (J.2.2+(1:Int)))) else none) else none) else e0 (J.1,J.2.1)
noncomputable abbrev B0 (_:Nat):=b0
noncomputable def q0 (a1:Arg) (gq:((List Key)×Int)):Option Out:=some (gq.2,gq.1,())
noncomputable abbrev Q0 (_:Nat):=q0
noncomputable def s0 (k:Nat) (a1:Arg):((List Key)×Int×Int)->Option Out:=fun J=>D.L k [1,0,1,0,0] [0,1,5] [] (af 0 (aq (D.N k [1,1]) D.K0)) (T0 a1 J)
noncomputable def r0 (k:Nat) (a1:Arg):((List Key)×Int×Int)->Option Out:=ak (fun w v=>B0 k w (Q0 k a1) a1 v) k
theorem au (k:Nat) (a1:Arg):s0 k a1=r0 k a1:=
 funext fun J=>an _ _ _ (T0 a1) _ (fun rec v=>by kernel_rfl) k J
noncomputable def p (l0:((List Key)×Int×Int)->Option Out) (a1:Arg):Option Out:=l0 (a1.1,a1.2.1,(0:Int))
theorem aa (k:Nat) (a1:Arg):@Eq (Option Out) (D.W k a1) (p (r0 k a1) a1):=
 Eq.trans (b:=p (s0 k a1) a1) (by kernel_rfl) (by rw[au])
theorem ok:Ok prog 156 D.sig:=ap func156 aA (by kernel_rfl) (al _)
end bs
namespace bQ
abbrev Arg:Type:=(List Tx)×Int×Unit
abbrev Out:Type:=Int×(List Tx)×Unit
abbrev ps:PQ:=[(.fi (ao (.U aR)),(.U aR)),(.ro,i64)]
noncomputable def D:FD:={ fn:=f83,tl:=aK,ps:=ps,rs:=[(i64,(ax i64))],gl:=[(154,aY.D.sig),(155,a8.D.sig),(156,bs.D.sig)],es:=[0],lv:=[(2,[0,1,5])],lx:=[(0,[0,1])] }
noncomputable def ab (a:Arg):Option Out:=@lift Out fun k=>D.W k a
noncomputable def T0 (a1:Arg) (J:(List Tx)×Int×Int):St:={ n:=41,sl:=[(0,.own (.U aR) (ao (.U aR)) [] J.1),(1,.val i64 J.2.1),(5,.val i64 J.2.2)],vr:=[],av:=[(0,0,true)] }
noncomputable def b0 (self:((List Tx)×Int×Int)->Option Out) (e0:((List Tx)×Int)->Option Out) (a1:Arg) (J:(List Tx)×Int×Int):Option Out:=bif decide (J.2.2 < (J.1.length:Int)) then (if 0<=J.2.2/\J.2.2 < (J.1.length:Int) then ((J.1[J.2.2.toNat]?).bind fun aB=>let jP:=J.1.set J.2.2.toNat (J.2.1,aB.2);if 0<=J.2.2/\J.2.2 < (jP.length:Int) then ((jP[J.2.2.toNat]?).bind fun cE=>(jP[J.2.2.toNat]?).bind fun ne=>(jP[J.2.2.toNat]?).bind fun mb=>(aY.ab (mb.2.1,ae (J.2.1+(1:Int)),())).bind fun rW=>(jP[J.2.2.toNat]?).bind fun qt=>let qs:=jP.set J.2.2.toNat (qt.1,rW.2.1,qt.2.2);if 0<=J.2.2/\J.2.2 < (qs.length:Int) then ((qs[J.2.2.toNat]?).bind fun OB=>(qs[J.2.2.toNat]?).bind fun ug=>(qs[J.2.2.toNat]?).bind fun C8=>(a8.ab (C8.2.2.1,rW.1,())).bind fun GX=>(qs[J.2.2.toNat]?).bind fun zS=>let zT:=qs.set J.2.2.toNat (zS.1,zS.2.1,GX.2.1,zS.2.2.2);if 0<=J.2.2/\J.2.2 < (zT.length:Int) then ((zT[J.2.2.toNat]?).bind fun Ul=>(zT[J.2.2.toNat]?).bind fun xt=>(zT[J.2.2.toNat]?).bind fun RL=>(bs.ab (RL.2.2.2.1,GX.1,())).bind fun GQ=>(zT[J.2.2.toNat]?).bind fun zR=>let RM:=zT.set J.2.2.toNat (zR.1,zR.2.1,zR.2.2.1,GQ.2.1,zR.2.2.2.2);self (RM,GQ.1,ae (J.2.2+(1:Int)))) else none) else none) else none) else none) else e0 (J.1,J.2.1)
noncomputable abbrev B0 (_:Nat):=b0
noncomputable def q0 (a1:Arg) (OC:((List Tx)×Int)):Option Out:=some (OC.2,OC.1,())
noncomputable abbrev Q0 (_:Nat):=q0
noncomputable def s0 (k:Nat) (a1:Arg):((List Tx)×Int×Int)->Option Out:=fun J=>D.L k [1,0,1,0,0] [0,1,5] [] (af 0 (aq (D.N k [1,1]) D.K0)) (T0 a1 J)
noncomputable def r0 (k:Nat) (a1:Arg):((List Tx)×Int×Int)->Option Out:=ak (fun w v=>B0 k w (Q0 k a1) a1 v) k
theorem au (k:Nat) (a1:Arg):s0 k a1=r0 k a1:=
 funext fun J=>an _ _ _ (T0 a1) _ (fun rec v=>by kernel_rfl) k J
noncomputable def p (l0:((List Tx)×Int×Int)->Option Out) (a1:Arg):Option Out:=l0 (a1.1,a1.2.1,(0:Int))
theorem aa (k:Nat) (a1:Arg):@Eq (Option Out) (D.W k a1) (p (r0 k a1) a1):=
 Eq.trans (b:=p (s0 k a1) a1) (by kernel_rfl) (by rw[au])
theorem ok:Ok prog 83 D.sig:=ap func83 aA (by kernel_rfl) (fc aY.ok (fc a8.ok (fc bs.ok (al _))))
end bQ
namespace di
abbrev Arg:Type:=eZ×Int×Unit
abbrev Out:Type:=Int×eZ×Unit
abbrev ps:PQ:=[(.fi (ao co),co),(.ro,i64)]
noncomputable def D:FD:={ fn:=f24,tl:=aK,ps:=ps,rs:=[(i64,(ax i64))],gl:=[(81,bg.D.sig),(82,fU.D.sig),(83,bQ.D.sig)],es:=[2] }
noncomputable def ab (a:Arg):Option Out:=@lift Out fun k=>D.W k a
noncomputable def p (a1:Arg):Option Out:=(bg.ab (a1.1.2.1,a1.2.1,())).bind fun r2=>(fU.ab (a1.1.2.2.1,r2.1,())).bind fun r3=>(bQ.ab (a1.1.2.2.2.1,r3.1,())).bind fun r4=>some (r4.1,(a1.1.1,r2.2.1,r3.2.1,r4.2.1,a1.1.2.2.2.2),())
theorem aa (k:Nat) (a1:Arg):@Eq (Option Out) (D.W k a1) (p a1):=by kernel_rfl
theorem ok:Ok prog 24 D.sig:=ap func24 aA (by kernel_rfl) (fc bg.ok (fc fU.ok (fc bQ.ok (al _))))
end di
namespace kt
abbrev Arg:Type:=Int×Unit
abbrev Out:Type:=fW×Unit
abbrev ps:PQ:=[(.ro,i64)]
noncomputable def D:FD:={ fn:=f86,tl:=aK,ps:=ps,rs:=[(cQ,(ao cQ))] }
noncomputable def ab (a:Arg):Option Out:=@lift Out fun k=>D.W k a
noncomputable def p (a1:Arg):Option Out:=some ((a1.1,(0:Int),(false,([]:List (List UInt8)),(([]:List UInt8),([]:List UInt8),()),([]:List Tx),(0:Int),()),()),())
theorem aa (k:Nat) (a1:Arg):@Eq (Option Out) (D.W k a1) (p a1):=by kernel_rfl
theorem ok:Ok prog 86 D.sig:=ap func86 aA (by kernel_rfl) (al _)
end kt
namespace kF
abbrev Arg:Type:=Log×Int×Unit
abbrev Out:Type:=Log×Unit
abbrev ps:PQ:=[(.ro,cD),(.ro,i64)]
noncomputable def D:FD:={ fn:=f158,tl:=aK,ps:=ps,rs:=[(cD,(ao cD))],gl:=[(109,cL.D.sig),(189,cM.D.sig)],od:=[(1,[0,1,3,4,5,6,2,7,8])] }
noncomputable def ab (a:Arg):Option Out:=@lift Out fun k=>D.W k a
noncomputable def p (a1:Arg):Option Out:=if 0<=a1.2.1/\a1.2.1<=(a1.1.2.1.length:Int) then ((cL.ab (a1.1.1,())).bind fun r2=>if r2.1.length+((a1.1.2.1.take a1.2.1.toNat).drop 0).length<=bf then (let y3:=r2.1++((a1.1.2.1.take a1.2.1.toNat).drop 0);(cM.ab (y3,())).bind fun r4=>if 0<=r4.2.1/\r4.2.1<=(y3.length:Int) then (some (((y3.take r4.2.1.toNat).drop 0,([]:List UInt8),()),())) else none) else none) else none
theorem aa (k:Nat) (a1:Arg):@Eq (Option Out) (D.W k a1) (p a1):=by kernel_rfl
theorem ok:Ok prog 158 D.sig:=ap func158 aA (by kernel_rfl) (fc cL.ok (fc cM.ok (al _)))
end kF
namespace jR
abbrev Arg:Type:=Log×Int×Unit
abbrev Out:Type:=vL×Unit
abbrev ps:PQ:=[(.ro,cD),(.ro,i64)]
noncomputable def D:FD:={ fn:=f87,tl:=aK,ps:=ps,rs:=[(o7,(ao o7))],gl:=[(117,gt.D.sig),(118,aP.D.sig),(158,kF.D.sig)] }
noncomputable def ab (a:Arg):Option Out:=@lift Out fun k=>D.W k a
noncomputable def p (a1:Arg):Option Out:=(gt.ab (a1.1,())).bind fun r2=>bif !decide (r2.1=(0:Int)) then (some ((r2.1,(([]:List UInt8),([]:List UInt8),()),()),())) else (aP.ab (a1.2.1,(0:Int),(a1.1.2.1.length:Int),())).bind fun r3=>bif !r3.1 then (some (((3:Int),(([]:List UInt8),([]:List UInt8),()),()),())) else (kF.ab (a1.1,a1.2.1,())).bind fun r4=>some (((0:Int),r4.1,()),())
theorem aa (k:Nat) (a1:Arg):@Eq (Option Out) (D.W k a1) (p a1):=by kernel_rfl
theorem ok:Ok prog 87 D.sig:=ap func87 aA (by kernel_rfl) (fc gt.ok (fc aP.ok (fc kF.ok (al _))))
end jR
namespace iK
abbrev Arg:Type:=eZ×Int×Unit
abbrev Out:Type:=fW×Unit
abbrev ps:PQ:=[(.ro,co),(.ro,i64)]
noncomputable def D:FD:={ fn:=f27,tl:=aK,ps:=ps,rs:=[(cQ,(ao cQ))],gl:=[(56,jQ.D.sig),(86,kt.D.sig),(87,jR.D.sig)] }
noncomputable def ab (a:Arg):Option Out:=@lift Out fun k=>D.W k a
noncomputable def p (a1:Arg):Option Out:=(jQ.ab (a1.1,())).bind fun r2=>bif !decide (r2.1=(0:Int)) then ((kt.ab (r2.1,())).bind fun r3=>some (r3.1,())) else bif !a1.1.1 then ((kt.ab ((8:Int),())).bind fun r4=>some (r4.1,())) else (jR.ab (a1.1.2.2.1,a1.2.1,())).bind fun r5=>bif !decide (r5.1.1=(0:Int)) then ((kt.ab (r5.1.1,())).bind fun r6=>some (r6.1,())) else some (((0:Int),(0:Int),(false,([]:List (List UInt8)),r5.1.2.1,([]:List Tx),a1.1.2.2.2.2.1,()),()),())
theorem aa (k:Nat) (a1:Arg):@Eq (Option Out) (D.W k a1) (p a1):=by kernel_rfl
theorem ok:Ok prog 27 D.sig:=ap func27 aA (by kernel_rfl) (fc jQ.ok (fc kt.ok (fc jR.ok (al _))))
end iK
namespace jS
abbrev Arg:Type:=Log×Int×Unit
abbrev Out:Type:=vL×Unit
abbrev ps:PQ:=[(.ro,cD),(.ro,i64)]
noncomputable def D:FD:={ fn:=f88,tl:=aK,ps:=ps,rs:=[(o7,(ao o7))],gl:=[(60,cv.D.sig),(61,b_.D.sig),(125,dQ.D.sig),(159,eX.D.sig)],od:=[(6,[0,1,3,4,5,6,2,7,8])] }
noncomputable def ab (a:Arg):Option Out:=@lift Out fun k=>D.W k a
noncomputable def p (a1:Arg):Option Out:=(cv.ab (a1.1,())).bind fun r2=>bif !decide (r2.1=(0:Int)) then (some ((r2.1,(([]:List UInt8),([]:List UInt8),()),()),())) else (b_.ab (a1.2.1,(0:Int),(a1.1.2.1.length:Int),())).bind fun r3=>bif !r3.1 then (some (((3:Int),(([]:List UInt8),([]:List UInt8),()),()),())) else if 0<=a1.2.1/\a1.2.1<=(a1.1.2.1.length:Int) then ((eX.ab (a1.1.1,())).bind fun r4=>if r4.1.length+((a1.1.2.1.take a1.2.1.toNat).drop 0).length<=bf then (let y5:=r4.1++((a1.1.2.1.take a1.2.1.toNat).drop 0);(dQ.ab (y5,())).bind fun r6=>if 0<=r6.2.1/\r6.2.1<=(y5.length:Int) then ((eX.ab ((y5.take r6.2.1.toNat).drop 0,())).bind fun r7=>some (((0:Int),(r7.1,([]:List UInt8),()),()),())) else none) else none) else none
theorem aa (k:Nat) (a1:Arg):@Eq (Option Out) (D.W k a1) (p a1):=by kernel_rfl
theorem ok:Ok prog 88 D.sig:=ap func88 aA (by kernel_rfl) (fc cv.ok (fc b_.ok (fc dQ.ok (fc eX.ok (al _)))))
end jS
namespace gO
abbrev Arg:Type:=eZ×Int×Unit
abbrev Out:Type:=fW×Unit
abbrev ps:PQ:=[(.ro,co),(.ro,i64)]
noncomputable def D:FD:={ fn:=f28,tl:=aK,ps:=ps,rs:=[(cQ,(ao cQ))],gl:=[(14,iJ.D.sig),(88,jS.D.sig)] }
noncomputable def ab (a:Arg):Option Out:=@lift Out fun k=>D.W k a
noncomputable def p (a1:Arg):Option Out:=(iJ.ab (a1.1,())).bind fun r2=>bif !decide (r2.1=(0:Int)) then (some ((r2.1,(0:Int),(false,([]:List (List UInt8)),(([]:List UInt8),([]:List UInt8),()),([]:List Tx),(0:Int),()),()),())) else bif !a1.1.1 then (some (((8:Int),(0:Int),(false,([]:List (List UInt8)),(([]:List UInt8),([]:List UInt8),()),([]:List Tx),(0:Int),()),()),())) else (jS.ab (a1.1.2.2.1,a1.2.1,())).bind fun r3=>bif !decide (r3.1.1=(0:Int)) then (some ((r3.1.1,(0:Int),(false,([]:List (List UInt8)),(([]:List UInt8),([]:List UInt8),()),([]:List Tx),(0:Int),()),()),())) else some (((0:Int),(0:Int),(false,([]:List (List UInt8)),r3.1.2.1,([]:List Tx),a1.1.2.2.2.2.1,()),()),())
theorem aa (k:Nat) (a1:Arg):@Eq (Option Out) (D.W k a1) (p a1):=by kernel_rfl
theorem ok:Ok prog 28 D.sig:=ap func28 aA (by kernel_rfl) (fc iJ.ok (fc jS.ok (al _)))
end gO
namespace d6
abbrev Arg:Type:=fW×fW×Unit
abbrev Out:Type:=Bool×Unit
abbrev ps:PQ:=[(.ro,cQ),(.ro,cQ)]
noncomputable def D:FD:={ fn:=f29,tl:=aK,ps:=ps,rs:=[(.bool,(ax .bool))],gl:=[(15,gy.D.sig)] }
noncomputable def ab (a:Arg):Option Out:=@lift Out fun k=>D.W k a
noncomputable def p (a1:Arg):Option Out:=bif !decide (a1.1.1=a1.2.1.1) then (some (false,())) else bif !decide (a1.1.2.1=a1.2.1.2.1) then (some (false,())) else (gy.ab (a1.1.2.2.1,a1.2.1.2.2.1,())).bind fun r2=>bif !r2.1 then (some (false,())) else some (true,())
theorem aa (k:Nat) (a1:Arg):@Eq (Option Out) (D.W k a1) (p a1):=by kernel_rfl
theorem ok:Ok prog 29 D.sig:=ap func29 aA (by kernel_rfl) (fc gy.ok (al _))
end d6
namespace eP
abbrev Arg:Type:=fW×Int×Unit
abbrev Out:Type:=Int×fW×Unit
abbrev ps:PQ:=[(.fi (ao cQ),cQ),(.ro,i64)]
noncomputable def D:FD:={ fn:=f30,tl:=aK,ps:=ps,rs:=[(i64,(ax i64))],gl:=[(24,di.D.sig)],es:=[2] }
noncomputable def ab (a:Arg):Option Out:=@lift Out fun k=>D.W k a
noncomputable def p (a1:Arg):Option Out:=(di.ab (a1.1.2.2.1,a1.2.1,())).bind fun r2=>some (r2.1,(a1.1.1,a1.1.2.1,r2.2.1,a1.1.2.2.2),())
theorem aa (k:Nat) (a1:Arg):@Eq (Option Out) (D.W k a1) (p a1):=by kernel_rfl
theorem ok:Ok prog 30 D.sig:=ap func30 aA (by kernel_rfl) (fc di.ok (al _))
end eP
namespace bY
abbrev Arg:Type:=(List UInt8)×Int×Unit
abbrev Out:Type:=Int×Unit
abbrev ps:PQ:=[(.ro,(.U u8)),(.ro,i64)]
noncomputable def D:FD:={ fn:=f220,tl:=aK,ps:=ps,rs:=[(i64,(ax i64))],lv:=[(2,[0,1,5])],lx:=[(0,[1])] }
noncomputable def ab (a:Arg):Option Out:=@lift Out fun k=>D.W k a
noncomputable def T0 (a1:Arg) (J:Int×Int):St:={ n:=22,sl:=[(0,.val (.U u8) a1.1),(1,.val i64 J.1),(5,.val i64 J.2)],vr:=[],av:=[] }
noncomputable def b0 (self:(Int×Int)->Option Out) (e0:Int->Option Out) (a1:Arg) (J:Int×Int):Option Out:=bif decide (J.2 < (a1.1.length:Int)) then (if 0<=J.2 then ((a1.1[J.2.toNat]?).bind fun aB=>bif !decide ((aB.toNat:Int)=((UInt8.ofInt J.1).toNat:Int)) then (some ((-1:Int),())) else self (ae (J.1+(1:Int)),ae (J.2+(1:Int)))) else none) else e0 J.1
noncomputable abbrev B0 (_:Nat):=b0
noncomputable def q0 (a1:Arg) (hU:Int):Option Out:=some (hU,())
noncomputable abbrev Q0 (_:Nat):=q0
noncomputable def s0 (k:Nat) (a1:Arg):(Int×Int)->Option Out:=fun J=>D.L k [1,0,1,0,0] [0,1,5] [] (af 0 (aq (D.N k [1,1]) D.K0)) (T0 a1 J)
noncomputable def r0 (k:Nat) (a1:Arg):(Int×Int)->Option Out:=ak (fun w v=>B0 k w (Q0 k a1) a1 v) k
theorem au (k:Nat) (a1:Arg):s0 k a1=r0 k a1:=
 funext fun J=>an _ _ _ (T0 a1) _ (fun rec v=>by kernel_rfl) k J
noncomputable def p (l0:(Int×Int)->Option Out) (a1:Arg):Option Out:=l0 (a1.2.1,(0:Int))
theorem aa (k:Nat) (a1:Arg):@Eq (Option Out) (D.W k a1) (p (r0 k a1) a1):=
 Eq.trans (b:=p (s0 k a1) a1) (by kernel_rfl) (by rw[au])
theorem ok:Ok prog 220 D.sig:=ap func220 aA (by kernel_rfl) (al _)
end bY
namespace da
abbrev Arg:Type:=(List (List UInt8))×Int×Unit
abbrev Out:Type:=Int×Unit
abbrev ps:PQ:=[(.ro,(.U (.U u8))),(.ro,i64)]
noncomputable def D:FD:={ fn:=f160,tl:=aK,ps:=ps,rs:=[(i64,(ax i64))],gl:=[(220,bY.D.sig)],lv:=[(2,[0,1,5])],lx:=[(0,[1])] }
noncomputable def ab (a:Arg):Option Out:=@lift Out fun k=>D.W k a
noncomputable def T0 (a1:Arg) (J:Int×Int):St:={ n:=21,sl:=[(0,.val (.U (.U u8)) a1.1),(1,.val i64 J.1),(5,.val i64 J.2)],vr:=[],av:=[] }
noncomputable def b0 (self:(Int×Int)->Option Out) (e0:Int->Option Out) (a1:Arg) (J:Int×Int):Option Out:=bif decide (J.2 < (a1.1.length:Int)) then (if 0<=J.2 then ((a1.1[J.2.toNat]?).bind fun aB=>(bY.ab (aB,J.1,())).bind fun bZ=>bif decide (bZ.1 < (0:Int)) then (some ((-1:Int),())) else self (bZ.1,ae (J.2+(1:Int)))) else none) else e0 J.1
noncomputable abbrev B0 (_:Nat):=b0
noncomputable def q0 (a1:Arg) (bN:Int):Option Out:=some (bN,())
noncomputable abbrev Q0 (_:Nat):=q0
noncomputable def s0 (k:Nat) (a1:Arg):(Int×Int)->Option Out:=fun J=>D.L k [1,0,1,0,0] [0,1,5] [] (af 0 (aq (D.N k [1,1]) D.K0)) (T0 a1 J)
noncomputable def r0 (k:Nat) (a1:Arg):(Int×Int)->Option Out:=ak (fun w v=>B0 k w (Q0 k a1) a1 v) k
theorem au (k:Nat) (a1:Arg):s0 k a1=r0 k a1:=
 funext fun J=>an _ _ _ (T0 a1) _ (fun rec v=>by kernel_rfl) k J
noncomputable def p (l0:(Int×Int)->Option Out) (a1:Arg):Option Out:=l0 (a1.2.1,(0:Int))
theorem aa (k:Nat) (a1:Arg):@Eq (Option Out) (D.W k a1) (p (r0 k a1) a1):=
 Eq.trans (b:=p (s0 k a1) a1) (by kernel_rfl) (by rw[au])
theorem ok:Ok prog 160 D.sig:=ap func160 aA (by kernel_rfl) (fc bY.ok (al _))
end da
namespace jE
abbrev Arg:Type:=Log×Int×Unit
abbrev Out:Type:=Int×Unit
abbrev ps:PQ:=[(.ro,cD),(.ro,i64)]
noncomputable def D:FD:={ fn:=f161,tl:=aK,ps:=ps,rs:=[(i64,(ax i64))],gl:=[(220,bY.D.sig)] }
noncomputable def ab (a:Arg):Option Out:=@lift Out fun k=>D.W k a
noncomputable def p (a1:Arg):Option Out:=(bY.ab (a1.1.1,a1.2.1,())).bind fun r2=>bif decide (r2.1 < (0:Int)) then (some ((-1:Int),())) else (bY.ab (a1.1.2.1,r2.1,())).bind fun r3=>bif decide (r3.1 < (0:Int)) then (some ((-1:Int),())) else some (r3.1,())
theorem aa (k:Nat) (a1:Arg):@Eq (Option Out) (D.W k a1) (p a1):=by kernel_rfl
theorem ok:Ok prog 161 D.sig:=ap func161 aA (by kernel_rfl) (fc bY.ok (al _))
end jE
namespace cx
abbrev Arg:Type:=(List Change)×Int×Unit
abbrev Out:Type:=Int×Unit
abbrev ps:PQ:=[(.ro,(.U am)),(.ro,i64)]
noncomputable def D:FD:={ fn:=f176,tl:=aK,ps:=ps,rs:=[(i64,(ax i64))],gl:=[(157,be.D.sig)],lv:=[(2,[0,1,5])],lx:=[(0,[1])],od:=[(16,[0,1,2,3,4,5,6,7,8]),(31,[0,1,2,3,4,5,6,7,8])] }
noncomputable def ab (a:Arg):Option Out:=@lift Out fun k=>D.W k a
noncomputable def T0 (a1:Arg) (J:Int×Int):St:={ n:=117,sl:=[(0,.val (.U am) a1.1),(1,.val i64 J.1),(5,.val i64 J.2)],vr:=[],av:=[] }
noncomputable def b0 (self:(Int×Int)->Option Out) (e0:Int->Option Out) (a1:Arg) (J:Int×Int):Option Out:=bif decide (J.2 < (a1.1.length:Int)) then (if 0<=J.2 then ((a1.1[J.2.toNat]?).bind fun aB=>bif !(aB.1 == (decide (J.1.tmod (3:Int)=(0:Int)))) then (some ((-1:Int),())) else if 0<=J.2 then ((a1.1[J.2.toNat]?).bind fun cY=>bif !decide (cY.2.1.1=ae (J.1+(1:Int))) then (some ((-1:Int),())) else if 0<=J.2 then ((a1.1[J.2.toNat]?).bind fun cE=>bif !decide (cE.2.1.2.1=ae ((ae (J.1+(1:Int)))+(1:Int))) then (some ((-1:Int),())) else if 0<=J.2 then ((a1.1[J.2.toNat]?).bind fun ne=>bif !decide (ne.2.1.2.2.1=ae ((ae ((ae (J.1+(1:Int)))+(1:Int)))+(1:Int))) then (some ((-1:Int),())) else if 0<=J.2 then ((a1.1[J.2.toNat]?).bind fun mb=>(be.ab (ae ((ae ((ae ((ae (J.1+(1:Int)))+(1:Int)))+(1:Int)))+(1:Int)),())).bind fun rW=>bif !decide (mb.2.1.2.2.2.1=rW.1) then (some ((-1:Int),())) else if 0<=J.2 then ((a1.1[J.2.toNat]?).bind fun qt=>bif !(qt.2.2.1 == (decide ((ae ((ae ((ae ((ae ((ae (J.1+(1:Int)))+(1:Int)))+(1:Int)))+(1:Int)))+(1:Int))).tmod (3:Int)=(0:Int)))) then (some ((-1:Int),())) else if 0<=J.2 then ((a1.1[J.2.toNat]?).bind fun Ki=>bif !decide (Ki.2.2.2.1.1=ae ((ae ((ae ((ae ((ae ((ae (J.1+(1:Int)))+(1:Int)))+(1:Int)))+(1:Int)))+(1:Int)))+(1:Int))) then (some ((-1:Int),())) else if 0<=J.2 then ((a1.1[J.2.toNat]?).bind fun OB=>bif !decide (OB.2.2.2.1.2.1=ae ((ae ((ae ((ae ((ae ((ae ((ae (J.1+(1:Int)))+(1:Int)))+(1:Int)))+(1:Int)))+(1:Int)))+(1:Int)))+(1:Int))) then (some ((-1:Int),())) else if 0<=J.2 then ((a1.1[J.2.toNat]?).bind fun ug=>bif !decide (ug.2.2.2.1.2.2.1=ae ((ae ((ae ((ae ((ae ((ae ((ae ((ae (J.1+(1:Int)))+(1:Int)))+(1:Int)))+(1:Int)))+(1:Int)))+(1:Int)))+(1:Int)))+(1:Int))) then (some ((-1:Int),())) else if 0<=J.2 then ((a1.1[J.2.toNat]?).bind fun C8=>(be.ab (ae ((ae ((ae ((ae ((ae ((ae ((ae ((ae ((ae (J.1+(1:Int)))+(1:Int)))+(1:Int)))+(1:Int)))+(1:Int)))+(1:Int)))+(1:Int)))+(1:Int)))+(1:Int)),())).bind fun GX=>bif !decide (C8.2.2.2.1.2.2.2.1=GX.1) then (some ((-1:Int),())) else self (ae ((ae ((ae ((ae ((ae ((ae ((ae ((ae ((ae ((ae (J.1+(1:Int)))+(1:Int)))+(1:Int)))+(1:Int)))+(1:Int)))+(1:Int)))+(1:Int)))+(1:Int)))+(1:Int)))+(1:Int)),ae (J.2+(1:Int)))) else none) else none) else none) else none) else none) else none) else none) else none) else none) else none) else e0 J.1
noncomputable abbrev B0 (_:Nat):=b0
noncomputable def q0 (a1:Arg) (RN:Int):Option Out:=some (RN,())
noncomputable abbrev Q0 (_:Nat):=q0
noncomputable def s0 (k:Nat) (a1:Arg):(Int×Int)->Option Out:=fun J=>D.L k [1,0,1,0,0] [0,1,5] [] (af 0 (aq (D.N k [1,1]) D.K0)) (T0 a1 J)
noncomputable def r0 (k:Nat) (a1:Arg):(Int×Int)->Option Out:=ak (fun w v=>B0 k w (Q0 k a1) a1 v) k
theorem au (k:Nat) (a1:Arg):s0 k a1=r0 k a1:=
 funext fun J=>an _ _ _ (T0 a1) _ (fun rec v=>by kernel_rfl) k J
noncomputable def p (l0:(Int×Int)->Option Out) (a1:Arg):Option Out:=l0 (a1.2.1,(0:Int))
theorem aa (k:Nat) (a1:Arg):@Eq (Option Out) (D.W k a1) (p (r0 k a1) a1):=
 Eq.trans (b:=p (s0 k a1) a1) (by kernel_rfl) (by rw[au])
theorem ok:Ok prog 176 D.sig:=ap func176 aA (by kernel_rfl) (fc be.ok (al _))
end cx
namespace cV
abbrev Arg:Type:=(List Int)×Int×Unit
abbrev Out:Type:=Int×Unit
abbrev ps:PQ:=[(.ro,(.U i64)),(.ro,i64)]
noncomputable def D:FD:={ fn:=f221,tl:=aK,ps:=ps,rs:=[(i64,(ax i64))],lv:=[(2,[0,1,5])],lx:=[(0,[1])] }
noncomputable def ab (a:Arg):Option Out:=@lift Out fun k=>D.W k a
noncomputable def T0 (a1:Arg) (J:Int×Int):St:={ n:=21,sl:=[(0,.val (.U i64) a1.1),(1,.val i64 J.1),(5,.val i64 J.2)],vr:=[],av:=[] }
noncomputable def b0 (self:(Int×Int)->Option Out) (e0:Int->Option Out) (a1:Arg) (J:Int×Int):Option Out:=bif decide (J.2 < (a1.1.length:Int)) then (if 0<=J.2 then ((a1.1[J.2.toNat]?).bind fun aB=>bif !decide (aB=J.1) then (some ((-1:Int),())) else self (ae (J.1+(1:Int)),ae (J.2+(1:Int)))) else none) else e0 J.1
noncomputable abbrev B0 (_:Nat):=b0
noncomputable def q0 (a1:Arg) (hU:Int):Option Out:=some (hU,())
noncomputable abbrev Q0 (_:Nat):=q0
noncomputable def s0 (k:Nat) (a1:Arg):(Int×Int)->Option Out:=fun J=>D.L k [1,0,1,0,0] [0,1,5] [] (af 0 (aq (D.N k [1,1]) D.K0)) (T0 a1 J)
noncomputable def r0 (k:Nat) (a1:Arg):(Int×Int)->Option Out:=ak (fun w v=>B0 k w (Q0 k a1) a1 v) k
theorem au (k:Nat) (a1:Arg):s0 k a1=r0 k a1:=
 funext fun J=>an _ _ _ (T0 a1) _ (fun rec v=>by kernel_rfl) k J
noncomputable def p (l0:(Int×Int)->Option Out) (a1:Arg):Option Out:=l0 (a1.2.1,(0:Int))
theorem aa (k:Nat) (a1:Arg):@Eq (Option Out) (D.W k a1) (p (r0 k a1) a1):=
 Eq.trans (b:=p (s0 k a1) a1) (by kernel_rfl) (by rw[au])
theorem ok:Ok prog 221 D.sig:=ap func221 aA (by kernel_rfl) (al _)
end cV
namespace dN
abbrev Arg:Type:=(List Key)×Int×Unit
abbrev Out:Type:=Int×Unit
abbrev ps:PQ:=[(.ro,(.U aC)),(.ro,i64)]
noncomputable def D:FD:={ fn:=f222,tl:=aK,ps:=ps,rs:=[(i64,(ax i64))],lv:=[(2,[0,1,5])],lx:=[(0,[1])] }
noncomputable def ab (a:Arg):Option Out:=@lift Out fun k=>D.W k a
noncomputable def T0 (a1:Arg) (J:Int×Int):St:={ n:=31,sl:=[(0,.val (.U aC) a1.1),(1,.val i64 J.1),(5,.val i64 J.2)],vr:=[],av:=[] }
noncomputable def b0 (self:(Int×Int)->Option Out) (e0:Int->Option Out) (a1:Arg) (J:Int×Int):Option Out:=bif decide (J.2 < (a1.1.length:Int)) then (if 0<=J.2 then ((a1.1[J.2.toNat]?).bind fun aB=>bif !decide (aB.1=J.1) then (some ((-1:Int),())) else if 0<=J.2 then ((a1.1[J.2.toNat]?).bind fun cY=>bif !decide (cY.2.1=ae (J.1+(1:Int))) then (some ((-1:Int),())) else self (ae ((ae (J.1+(1:Int)))+(1:Int)),ae (J.2+(1:Int)))) else none) else none) else e0 J.1
noncomputable abbrev B0 (_:Nat):=b0
noncomputable def q0 (a1:Arg) (bN:Int):Option Out:=some (bN,())
noncomputable abbrev Q0 (_:Nat):=q0
noncomputable def s0 (k:Nat) (a1:Arg):(Int×Int)->Option Out:=fun J=>D.L k [1,0,1,0,0] [0,1,5] [] (af 0 (aq (D.N k [1,1]) D.K0)) (T0 a1 J)
noncomputable def r0 (k:Nat) (a1:Arg):(Int×Int)->Option Out:=ak (fun w v=>B0 k w (Q0 k a1) a1 v) k
theorem au (k:Nat) (a1:Arg):s0 k a1=r0 k a1:=
 funext fun J=>an _ _ _ (T0 a1) _ (fun rec v=>by kernel_rfl) k J
noncomputable def p (l0:(Int×Int)->Option Out) (a1:Arg):Option Out:=l0 (a1.2.1,(0:Int))
theorem aa (k:Nat) (a1:Arg):@Eq (Option Out) (D.W k a1) (p (r0 k a1) a1):=
 Eq.trans (b:=p (s0 k a1) a1) (by kernel_rfl) (by rw[au])
theorem ok:Ok prog 222 D.sig:=ap func222 aA (by kernel_rfl) (al _)
end dN
namespace eQ
abbrev Arg:Type:=(List Tx)×Int×Unit
abbrev Out:Type:=Int×Unit
abbrev ps:PQ:=[(.ro,(.U aR)),(.ro,i64)]
noncomputable def D:FD:={ fn:=f162,tl:=aK,ps:=ps,rs:=[(i64,(ax i64))],gl:=[(176,cx.D.sig),(221,cV.D.sig),(222,dN.D.sig)],lv:=[(2,[0,1,5])],lx:=[(0,[1])] }
noncomputable def ab (a:Arg):Option Out:=@lift Out fun k=>D.W k a
noncomputable def T0 (a1:Arg) (J:Int×Int):St:={ n:=49,sl:=[(0,.val (.U aR) a1.1),(1,.val i64 J.1),(5,.val i64 J.2)],vr:=[],av:=[] }
noncomputable def b0 (self:(Int×Int)->Option Out) (e0:Int->Option Out) (a1:Arg) (J:Int×Int):Option Out:=bif decide (J.2 < (a1.1.length:Int)) then (if 0<=J.2 then ((a1.1[J.2.toNat]?).bind fun aB=>bif !decide (aB.1=J.1) then (some ((-1:Int),())) else if 0<=J.2 then ((a1.1[J.2.toNat]?).bind fun cY=>(cx.ab (cY.2.1,ae (J.1+(1:Int)),())).bind fun gQ=>bif decide (gQ.1 < (0:Int)) then (some ((-1:Int),())) else if 0<=J.2 then ((a1.1[J.2.toNat]?).bind fun ne=>(cV.ab (ne.2.2.1,gQ.1,())).bind fun iB=>bif decide (iB.1 < (0:Int)) then (some ((-1:Int),())) else if 0<=J.2 then ((a1.1[J.2.toNat]?).bind fun xr=>(dN.ab (xr.2.2.2.1,iB.1,())).bind fun pF=>bif decide (pF.1 < (0:Int)) then (some ((-1:Int),())) else self (pF.1,ae (J.2+(1:Int)))) else none) else none) else none) else none) else e0 J.1
noncomputable abbrev B0 (_:Nat):=b0
noncomputable def q0 (a1:Arg) (Kh:Int):Option Out:=some (Kh,())
noncomputable abbrev Q0 (_:Nat):=q0
noncomputable def s0 (k:Nat) (a1:Arg):(Int×Int)->Option Out:=fun J=>D.L k [1,0,1,0,0] [0,1,5] [] (af 0 (aq (D.N k [1,1]) D.K0)) (T0 a1 J)
noncomputable def r0 (k:Nat) (a1:Arg):(Int×Int)->Option Out:=ak (fun w v=>B0 k w (Q0 k a1) a1 v) k
theorem au (k:Nat) (a1:Arg):s0 k a1=r0 k a1:=
 funext fun J=>an _ _ _ (T0 a1) _ (fun rec v=>by kernel_rfl) k J
noncomputable def p (l0:(Int×Int)->Option Out) (a1:Arg):Option Out:=l0 (a1.2.1,(0:Int))
theorem aa (k:Nat) (a1:Arg):@Eq (Option Out) (D.W k a1) (p (r0 k a1) a1):=
 Eq.trans (b:=p (s0 k a1) a1) (by kernel_rfl) (by rw[au])
theorem ok:Ok prog 162 D.sig:=ap func162 aA (by kernel_rfl) (fc cx.ok (fc cV.ok (fc dN.ok (al _))))
end eQ
namespace iq
abbrev Arg:Type:=eZ×Int×Unit
abbrev Out:Type:=Int×Unit
abbrev ps:PQ:=[(.ro,co),(.ro,i64)]
noncomputable def D:FD:={ fn:=f89,tl:=aK,ps:=ps,rs:=[(i64,(ax i64))],gl:=[(160,da.D.sig),(161,jE.D.sig),(162,eQ.D.sig)] }
noncomputable def ab (a:Arg):Option Out:=@lift Out fun k=>D.W k a
noncomputable def p (a1:Arg):Option Out:=(da.ab (a1.1.2.1,a1.2.1,())).bind fun r2=>bif decide (r2.1 < (0:Int)) then (some ((-1:Int),())) else (jE.ab (a1.1.2.2.1,r2.1,())).bind fun r3=>bif decide (r3.1 < (0:Int)) then (some ((-1:Int),())) else (eQ.ab (a1.1.2.2.2.1,r3.1,())).bind fun r4=>bif decide (r4.1 < (0:Int)) then (some ((-1:Int),())) else some (r4.1,())
theorem aa (k:Nat) (a1:Arg):@Eq (Option Out) (D.W k a1) (p a1):=by kernel_rfl
theorem ok:Ok prog 89 D.sig:=ap func89 aA (by kernel_rfl) (fc da.ok (fc jE.ok (fc eQ.ok (al _))))
end iq
namespace dW
abbrev Arg:Type:=fW×Int×Unit
abbrev Out:Type:=Int×Unit
abbrev ps:PQ:=[(.ro,cQ),(.ro,i64)]
noncomputable def D:FD:={ fn:=f31,tl:=aK,ps:=ps,rs:=[(i64,(ax i64))],gl:=[(89,iq.D.sig)] }
noncomputable def ab (a:Arg):Option Out:=@lift Out fun k=>D.W k a
noncomputable def p (a1:Arg):Option Out:=(iq.ab (a1.1.2.2.1,a1.2.1,())).bind fun r2=>bif decide (r2.1 < (0:Int)) then (some ((-1:Int),())) else some (r2.1,())
theorem aa (k:Nat) (a1:Arg):@Eq (Option Out) (D.W k a1) (p a1):=by kernel_rfl
theorem ok:Ok prog 31 D.sig:=ap func31 aA (by kernel_rfl) (fc iq.ok (al _))
end dW
namespace bM
abbrev Arg:Type:=eZ×Int×Unit
abbrev Out:Type:=Bool×Unit
abbrev ps:PQ:=[(.ro,co),(.ro,i64)]
noncomputable def D:FD:={ fn:=f6,tl:=aK,ps:=ps,rs:=[(.bool,(ax .bool))],gl:=[(11,jz.D.sig),(13,gu.D.sig),(15,gy.D.sig),(24,di.D.sig),(27,iK.D.sig),(28,gO.D.sig),(29,d6.D.sig),(30,eP.D.sig),(31,dW.D.sig)],od:=[(10,[0,1,2,3,4])] }
noncomputable def ab (a:Arg):Option Out:=@lift Out fun k=>D.W k a
noncomputable def p (a1:Arg):Option Out:=(jz.ab (a1.1,(1048576:Int),())).bind fun r2=>bif decide (r2.1 < (0:Int)) then (some (true,())) else (gu.ab (a1.1,())).bind fun r3=>(iK.ab (r3.1,a1.2.1,())).bind fun r4=>(gu.ab (a1.1,())).bind fun r5=>(gO.ab (r5.1,a1.2.1,())).bind fun r6=>(d6.ab (r6.1,r4.1,())).bind fun r7=>bif !r7.1 then (some (false,())) else (gu.ab (a1.1,())).bind fun r8=>(gy.ab (r5.1,r8.1,())).bind fun r9=>bif !r9.1 then (some (false,())) else (di.ab (r5.1,(1:Int),())).bind fun C6=>bif decide (C6.1 < (0:Int)) then (some (false,())) else (d6.ab (r6.1,r4.1,())).bind fun Ox=>bif !Ox.1 then (some (false,())) else (eP.ab (r6.1,(1:Int),())).bind fun Ay=>(dW.ab (Ay.2.1,(1:Int),())).bind fun QU=>bif decide (QU.1 < (0:Int)) then (some (false,())) else bif !decide (QU.1=Ay.1) then (some (false,())) else (gu.ab (a1.1,())).bind fun Oo=>(gO.ab (Oo.1,a1.2.1,())).bind fun Oq=>(d6.ab (Oq.1,r4.1,())).bind fun IS=>bif !IS.1 then (some (false,())) else (dW.ab (Ay.2.1,(1:Int),())).bind fun L3=>bif decide (L3.1 < (0:Int)) then (some (false,())) else bif !decide (L3.1=Ay.1) then (some (false,())) else some (true,())
theorem aa (k:Nat) (a1:Arg):@Eq (Option Out) (D.W k a1) (p a1):=by kernel_rfl
theorem ok:Ok prog 6 D.sig:=ap func6 aA (by kernel_rfl) (fc jz.ok (fc gu.ok (fc gy.ok (fc di.ok (fc iK.ok (fc gO.ok (fc d6.ok (fc eP.ok (fc dW.ok (al _))))))))))
end bM
end OT
