/- The proof's parts, merged: Printed by gen.py, a program of this claim  what each Go function computes.. No conditions but those that each states. -/
import Derived.Test.YtledflocbohofaaGreatSe
set_option maxRecDepth 100000
set_option linter.unusedVariables false
namespace OT
open Go Go.Proofs.Tryz
namespace cj
abbrev Arg:Type:=aL×Unit
abbrev Out:Type:=(List UInt8)×Unit
abbrev ps:PQ:=[(.ro,bQ)]
noncomputable def D:FD:={ fn:=f238,tl:=aK,ps:=ps,rs:=[((.U u8),(aq (.U u8)))],lv:=[(3,[3,24,25,26]),(11,[3,6,51,52,53])],lx:=[(0,[3]),(2,[3,6])] }
noncomputable def ab (a:Arg):Option Out:=@lift Out fun k=>D.W k a
noncomputable def T0 (a1:Arg) (J:(List UInt8)×Int):St:={ n:=72,sl:=[(3,.own (.U u8) (aq (.U u8)) [] J.1),(24,.val (.U pe) a1.1.2.2.2.1),(25,.val i64 (a1.1.2.2.2.1.length:Int)),(26,.val i64 J.2)],vr:=[],av:=[] }
noncomputable def S0 (rec:RT Out) (a1:Arg):((List UInt8)×Int)->Option Out:=fun J=>rec (T0 a1 J)
noncomputable def bg (K:KT Out) (a1:Arg):(List UInt8)->Option Out:=fun z=>K (.exit 0) ({ n:=72,sl:=[(3,.own (.U u8) (aq (.U u8)) [] z)],vr:=[],av:=[] })
noncomputable def b0 (self:((List UInt8)×Int)->Option Out) (e0:(List UInt8)->Option Out) (a1:Arg) (J:(List UInt8)×Int):Option Out:=bif decide (J.2 < (a1.1.2.2.2.1.length:Int)) then (if 0<=J.2 then ((a1.1.2.2.2.1[J.2.toNat]?).bind fun aC=>if J.1.length+[UInt8.ofInt aC.1,UInt8.ofInt (aC.2.1.length:Int)].length<=bm then (let vv:=J.1++[UInt8.ofInt aC.1,UInt8.ofInt (aC.2.1.length:Int)];if vv.length+aC.2.1.length<=bm then (self (vv++aC.2.1,ae (J.2+(1:Int)))) else none) else none) else none) else e0 J.1
noncomputable abbrev B0 (_:Nat):=b0
theorem fA (k:Nat) (rec:RT Out) (K:KT Out) (a1:Arg) (J:(List UInt8)×Int):D.N k [1,1,0,1,0,0] (T0 a1 J) (c9 rec (bY [3,24,25,26] []) K)=b0 (S0 rec a1) (bg K a1) a1 J:=by kernel_rfl
noncomputable def T1 (a1:Arg) (bM:List UInt8) (eC:Int) (ba:Int×Int):St:={ n:=72,sl:=[(3,.own (.U u8) (aq (.U u8)) [] bM),(6,.val i64 ba.1),(51,.ref 3 [] [0,0]),(52,.val i64 eC),(53,.val i64 ba.2)],vr:=[],av:=[] }
noncomputable def b1 (self:(Int×Int)->Option Out) (e2:Int->Option Out) (a1:Arg) (bM:List UInt8) (eC:Int) (ba:Int×Int):Option Out:=bif decide (ba.2 < eC) then (if 0<=ba.2/\ba.2 < (bM.length:Int) then ((bM[ba.2.toNat]?).bind fun wh=>self ((ae ((ae (ba.1*(31:Int)))+(ae (wh.toNat:Int)))).tmod (65521:Int),ae (ba.2+(1:Int)))) else none) else e2 ba.1
noncomputable abbrev B1 (_:Nat):=b1
noncomputable def q1 (a1:Arg) (bM:List UInt8) (eC:Int) (rR:Int):Option Out:=if bM.length+[UInt8.ofInt (rR.fdiv (2 ^ 8)),UInt8.ofInt rR].length<=bm then (let Gh:=bM++[UInt8.ofInt (rR.fdiv (2 ^ 8)),UInt8.ofInt rR];some (Gh,())) else none
noncomputable abbrev Q1 (_:Nat):=q1
noncomputable def s1 (k:Nat) (a1:Arg):(List UInt8)->Int->(Int×Int)->Option Out:=fun bM eC=>fun ba=>D.L k [1,1,1,1,1,0,1,0,0] [3,6,51,52,53] [] (af 2 (an (D.N k [1,1,1,1,1,1]) D.K0)) (T1 a1 bM eC ba)
noncomputable def r1 (k:Nat) (a1:Arg):(List UInt8)->Int->(Int×Int)->Option Out:=fun bM eC=>al (fun w v=>B1 k w (Q1 k a1 bM eC) a1 bM eC v) k
theorem fB (k:Nat) (a1:Arg):s1 k a1=r1 k a1:=
 funext fun bM=>funext fun eC=>funext fun ba=>am _ _ _ (T1 a1 bM eC) _ (fun rec v=>by kernel_rfl) k ba
noncomputable def q0 (l1:(List UInt8)->Int->(Int×Int)->Option Out) (a1:Arg) (bG:(List UInt8)):Option Out:=if 0<=(0:Int)/\(0:Int) < (bG.length:Int) then ((bG[0]?).bind fun oJ=>let vu:=bG.set 0 (UInt8.ofInt (ae ((bG.length:Int)+(2:Int))));l1 vu (vu.length:Int) ((1:Int),(0:Int))) else none
noncomputable def Q0 (k:Nat) (a1:Arg) (bG:(List UInt8)):Option Out:=q0 (r1 k a1) a1 bG
theorem jS (k:Nat) (a1:Arg) (bG:(List UInt8)):bg (af 0 (an (D.N k [1,1,1]) D.K0)) a1 bG=Q0 k a1 bG:=
 Eq.trans (b:=q0 (s1 k a1) a1 bG) (by kernel_rfl) (by rw[fB];rfl)
noncomputable def s0 (k:Nat) (a1:Arg):((List UInt8)×Int)->Option Out:=fun J=>D.L k [1,1,0,1,0,0] [3,24,25,26] [] (af 0 (an (D.N k [1,1,1]) D.K0)) (T0 a1 J)
noncomputable def r0 (k:Nat) (a1:Arg):((List UInt8)×Int)->Option Out:=al (fun w v=>B0 k w (Q0 k a1) a1 v) k
theorem ap (k:Nat) (a1:Arg):s0 k a1=r0 k a1:=by
 funext J;
 have h0:bg (af 0 (an (D.N k [1,1,1]) D.K0)) a1=Q0 k a1:=funext fun z=>jS k a1 z
 refine (am _ _ _ (T0 a1) (fun self v=>B0 k self (bg (af 0 (an (D.N k [1,1,1]) D.K0)) a1) a1 v) (fun rec v=>fA k rec (af 0 (an (D.N k [1,1,1]) D.K0)) a1 v) k J).trans ?_
 rw[h0]
 rfl
noncomputable def p (l0:((List UInt8)×Int)->Option Out) (a1:Arg):Option Out:=l0 ([(0:UInt8),UInt8.ofInt a1.1.1,UInt8.ofInt a1.1.2.1,UInt8.ofInt a1.1.2.2.1,UInt8.ofInt (a1.1.2.2.2.1.length:Int)],(0:Int))
theorem aa (k:Nat) (a1:Arg):@Eq (Option Out) (D.W k a1) (p (r0 k a1) a1):=
 Eq.trans (b:=p (s0 k a1) a1) (by kernel_rfl) (by rw[ap])
theorem ok:Ok prog 238 D.sig:=ao func238 aB (by kernel_rfl) (ak _)
end cj
namespace fw
abbrev Arg:Type:=(List UInt8)×Unit
abbrev Out:Type:=aL×Int×Unit
abbrev ps:PQ:=[(.ro,(.U u8))]
noncomputable def D:FD:={ fn:=f170,tl:=aK,ps:=ps,rs:=[(bQ,(aq bQ)),(i64,(ay i64))],gl:=[(135,d0.D.sig),(138,bB.D.sig),(159,gK.D.sig),(238,cj.D.sig)],lv:=[(7,[2,4,5,6,7,52,53])],lx:=[(0,[2,4,5,6,7])],od:=[(4,[0,1,2,3,4,5,6,7,8,9,10,11,12,13,14]),(11,[0,1,2,3,4,5,6,7,8,9,10,11,12,13,14,15,16,17,18,19,20])] }
noncomputable def ab (a:Arg):Option Out:=@lift Out fun k=>D.W k a
noncomputable def T0 (a1:Arg) (mS:List UInt8) (pg:Int) (rr:Int) (gB:aL×Int×Int):St:={ n:=123,sl:=[(2,.box bQ (aq bQ) [] ((0:Int),(0:Int),(0:Int),([]:List cE),())),(4,.val (.U u8) mS),(5,.box bQ (aq bQ) [] gB.1),(6,.val i64 gB.2.1),(7,.val i64 pg),(52,.val i64 rr),(53,.val i64 gB.2.2)],vr:=[],av:=[] }
noncomputable def b0 (self:(aL×Int×Int)->Option Out) (e0:(aL×Int)->Option Out) (a1:Arg) (mS:List UInt8) (pg:Int) (rr:Int) (gB:aL×Int×Int):Option Out:=bif decide (gB.2.2 < rr) then (bif decide (pg < ae (gB.2.1+(2:Int))) then (some (((0:Int),(0:Int),(0:Int),([]:List cE),()),(0:Int),())) else if 0<=ae (gB.2.1+(1:Int)) then ((mS[(ae (gB.2.1+(1:Int))).toNat]?).bind fun QN=>bif decide (pg < ae ((ae (gB.2.1+(2:Int)))+(ae (QN.toNat:Int)))) then (some (((0:Int),(0:Int),(0:Int),([]:List cE),()),(0:Int),())) else if 0<=ae (gB.2.1+(1:Int)) then ((mS[(ae (gB.2.1+(1:Int))).toNat]?).bind fun Gl=>if 0<=gB.2.1 then ((mS[gB.2.1.toNat]?).bind fun NO=>if 0<=ae (gB.2.1+(2:Int))/\ae (gB.2.1+(2:Int))<=ae ((ae (gB.2.1+(2:Int)))+(ae (Gl.toNat:Int)))/\ae ((ae (gB.2.1+(2:Int)))+(ae (Gl.toNat:Int)))<=(mS.length:Int) then ((gK.ab ((mS.take (ae ((ae (gB.2.1+(2:Int)))+(ae (Gl.toNat:Int)))).toNat).drop (ae (gB.2.1+(2:Int))).toNat,())).bind fun NP=>if gB.1.2.2.2.1.length+[(ae (NO.toNat:Int),NP.1,())].length<=bm then (let QO:=gB.1.2.2.2.1++[(ae (NO.toNat:Int),NP.1,())];self ((gB.1.1,gB.1.2.1,gB.1.2.2.1,QO,gB.1.2.2.2.2),ae (gB.2.1+(ae ((2:Int)+(ae (Gl.toNat:Int))))),ae (gB.2.2+(1:Int)))) else none) else none) else none) else none) else none) else e0 (gB.1,gB.2.1)
noncomputable abbrev B0 (_:Nat):=b0
noncomputable def q0 (a1:Arg) (mS:List UInt8) (pg:Int) (rr:Int) (Gm:(aL×Int)):Option Out:=bif !decide (Gm.2=pg) then (some (((0:Int),(0:Int),(0:Int),([]:List cE),()),(0:Int),())) else (d0.ab (Gm.1,())).bind fun QP=>bif !decide (QP.1=(0:Int)) then (some (((0:Int),(0:Int),(0:Int),([]:List cE),()),(0:Int),())) else (cj.ab (Gm.1,())).bind fun QQ=>(bB.ab (QQ.1,mS,())).bind fun QR=>bif !QR.1 then (some (((0:Int),(0:Int),(0:Int),([]:List cE),()),(0:Int),())) else some (Gm.1,(mS.length:Int),())
noncomputable abbrev Q0 (_:Nat):=q0
noncomputable def s0 (k:Nat) (a1:Arg):(List UInt8)->Int->Int->(aL×Int×Int)->Option Out:=fun mS pg rr=>fun gB=>D.L k [1,1,1,1,1,0,1,0,0] [2,4,5,6,7,52,53] [] (af 0 (an (D.N k [1,1,1,1,1,1]) D.K0)) (T0 a1 mS pg rr gB)
noncomputable def r0 (k:Nat) (a1:Arg):(List UInt8)->Int->Int->(aL×Int×Int)->Option Out:=fun mS pg rr=>al (fun w v=>B0 k w (Q0 k a1 mS pg rr) a1 mS pg rr v) k
theorem ap (k:Nat) (a1:Arg):s0 k a1=r0 k a1:=
 funext fun mS=>funext fun pg=>funext fun rr=>funext fun gB=>am _ _ _ (T0 a1 mS pg rr) _ (fun rec v=>by kernel_rfl) k gB
noncomputable def p (l0:(List UInt8)->Int->Int->(aL×Int×Int)->Option Out) (a1:Arg):Option Out:=bif decide ((a1.1.length:Int) < (7:Int)) then (some (((0:Int),(0:Int),(0:Int),([]:List cE),()),(0:Int),())) else (a1.1[0]?).bind fun x2=>bif decide ((a1.1.length:Int) < ae (x2.toNat:Int)) then (some (((0:Int),(0:Int),(0:Int),([]:List cE),()),(0:Int),())) else (a1.1[0]?).bind fun x3=>bif decide ((x3.toNat:Int) < (7:Int)) then (some (((0:Int),(0:Int),(0:Int),([]:List cE),()),(0:Int),())) else (a1.1[0]?).bind fun x4=>if 0<=(x4.toNat:Int)/\(x4.toNat:Int)<=(a1.1.length:Int) then ((((a1.1.take (x4.toNat:Int).toNat).drop 0)[1]?).bind fun x5=>(((a1.1.take (x4.toNat:Int).toNat).drop 0)[2]?).bind fun x6=>(((a1.1.take (x4.toNat:Int).toNat).drop 0)[3]?).bind fun x7=>(((a1.1.take (x4.toNat:Int).toNat).drop 0)[4]?).bind fun x8=>l0 ((a1.1.take (x4.toNat:Int).toNat).drop 0) (ae ((((a1.1.take (x4.toNat:Int).toNat).drop 0).length:Int) - (2:Int))) (ae (x8.toNat:Int)) ((ae (x5.toNat:Int),ae (x6.toNat:Int),ae (x7.toNat:Int),([]:List cE),()),(5:Int),(0:Int))) else none
theorem aa (k:Nat) (a1:Arg):@Eq (Option Out) (D.W k a1) (p (r0 k a1) a1):=
 Eq.trans (b:=p (s0 k a1) a1) (by kernel_rfl) (by rw[ap])
theorem ok:Ok prog 170 D.sig:=ao func170 aB (by kernel_rfl) (fc d0.ok (fc bB.ok (fc gK.ok (fc cj.ok (ak _)))))
end fw
namespace fe
abbrev Arg:Type:=(List UInt8)×Unit
abbrev Out:Type:=(List aL)×Int×Unit
abbrev ps:PQ:=[(.ro,(.U u8))]
noncomputable def D:FD:={ fn:=f125,tl:=aK,ps:=ps,rs:=[((.U bQ),(aq (.U bQ))),(i64,(ay i64))],gl:=[(170,fw.D.sig)],lv:=[(3,[0,4,5])] }
noncomputable def ab (a:Arg):Option Out:=@lift Out fun k=>D.W k a
noncomputable def T0 (a1:Arg) (J:(List aL)×Int):St:={ n:=26,sl:=[(0,.val (.U u8) a1.1),(4,.own (.U bQ) (aq (.U bQ)) [] J.1),(5,.val i64 J.2)],vr:=[],av:=[] }
noncomputable def b0 (self:((List aL)×Int)->Option Out) (a1:Arg) (J:(List aL)×Int):Option Out:=if 0<=J.2/\J.2<=(a1.1.length:Int) then ((fw.ab ((a1.1.take a1.1.length).drop J.2.toNat,())).bind fun tI=>bif decide (tI.2.1=(0:Int)) then (some (J.1,J.2,())) else if J.1.length+[tI.1].length<=bm then (self (J.1++[tI.1],ae (J.2+tI.2.1))) else none) else none
noncomputable abbrev B0 (_:Nat):=b0
noncomputable def s0 (k:Nat) (a1:Arg):((List aL)×Int)->Option Out:=fun J=>D.L k [1,1,1,0,0] [0,4,5] [] (af 0 D.K0) (T0 a1 J)
noncomputable def r0 (k:Nat) (a1:Arg):((List aL)×Int)->Option Out:=al (fun w v=>B0 k w a1 v) k
theorem ap (k:Nat) (a1:Arg):s0 k a1=r0 k a1:=
 funext fun J=>am _ _ _ (T0 a1) _ (fun rec v=>by kernel_rfl) k J
noncomputable def p (l0:((List aL)×Int)->Option Out) (a1:Arg):Option Out:=l0 (([]:List aL),(0:Int))
theorem aa (k:Nat) (a1:Arg):@Eq (Option Out) (D.W k a1) (p (r0 k a1) a1):=
 Eq.trans (b:=p (s0 k a1) a1) (by kernel_rfl) (by rw[ap])
theorem ok:Ok prog 125 D.sig:=ao func125 aB (by kernel_rfl) (fc fw.ok (ak _))
end fe
namespace c8
abbrev Arg:Type:=Log×Unit
abbrev Out:Type:=Int×Unit
abbrev ps:PQ:=[(.ro,eS)]
noncomputable def D:FD:={ fn:=f60,tl:=aK,ps:=ps,rs:=[(i64,(ay i64))],gl:=[(124,iL.D.sig),(125,fe.D.sig)],lv:=[(4,[14,15,16])],lx:=[(0,[])] }
noncomputable def ab (a:Arg):Option Out:=@lift Out fun k=>D.W k a
noncomputable def T0 (a1:Arg) (aN:Int):St:={ n:=30,sl:=[(14,.own (.U (.U u8)) (.U true (ay (.U u8))) [] [a1.1.1,a1.1.2.1]),(15,.val i64 ([a1.1.1,a1.1.2.1].length:Int)),(16,.val i64 aN)],vr:=[],av:=[] }
noncomputable def b0 (self:Int->Option Out) (e0:(Unit)->Option Out) (a1:Arg) (aN:Int):Option Out:=bif decide (aN < ([a1.1.1,a1.1.2.1].length:Int)) then (if 0<=aN/\aN < ([a1.1.1,a1.1.2.1].length:Int) then (([a1.1.1,a1.1.2.1][aN.toNat]?).bind fun bU=>(fe.ab (bU,())).bind fun gA=>bif !decide (gA.2.1=(bU.length:Int)) then (some ((5:Int),())) else self (ae (aN+(1:Int)))) else none) else e0 ()
noncomputable abbrev B0 (_:Nat):=b0
noncomputable def q0 (a1:Arg) (gz:(Unit)):Option Out:=some ((0:Int),())
noncomputable abbrev Q0 (_:Nat):=q0
noncomputable def s0 (k:Nat) (a1:Arg):(Int)->Option Out:=fun aN=>D.L k [1,1,0,1,0,0] [14,15,16] [] (af 0 (an (D.N k [1,1,1]) D.K0)) (T0 a1 aN)
noncomputable def r0 (k:Nat) (a1:Arg):(Int)->Option Out:=al (fun w v=>B0 k w (Q0 k a1) a1 v) k
theorem ap (k:Nat) (a1:Arg):s0 k a1=r0 k a1:=
 funext fun aN=>am _ _ _ (T0 a1) _ (fun rec v=>by kernel_rfl) k aN
noncomputable def p (l0:(Int)->Option Out) (a1:Arg):Option Out:=(iL.ab (a1.1,())).bind fun r2=>bif decide ((16000:Int) < r2.1) then (some ((2:Int),())) else l0 (0:Int)
theorem aa (k:Nat) (a1:Arg):@Eq (Option Out) (D.W k a1) (p (r0 k a1) a1):=
 Eq.trans (b:=p (s0 k a1) a1) (by kernel_rfl) (by rw[ap])
theorem ok:Ok prog 60 D.sig:=ao func60 aB (by kernel_rfl) (fc iL.ok (fc fe.ok (ak _)))
end c8
namespace eD
abbrev Arg:Type:=(List UInt8)×Unit
abbrev Out:Type:=Int×Unit
abbrev ps:PQ:=[(.ro,(.U u8))]
noncomputable def D:FD:={ fn:=f127,tl:=aK,ps:=ps,rs:=[(i64,(ay i64))] }
noncomputable def ab (a:Arg):Option Out:=@lift Out fun k=>D.W k a
noncomputable def p (a1:Arg):Option Out:=(a1.1[0]?).bind fun x2=>some (ae (x2.toNat:Int),())
theorem aa (k:Nat) (a1:Arg):@Eq (Option Out) (D.W k a1) (p a1):=by kernel_rfl
theorem ok:Ok prog 127 D.sig:=ao func127 aB (by kernel_rfl) (ak _)
end eD
namespace iM
abbrev Arg:Type:=(List UInt8)×Int×Unit
abbrev Out:Type:=Int×Int×Unit
abbrev ps:PQ:=[(.ro,(.U u8)),(.ro,i64)]
noncomputable def D:FD:={ fn:=f197,tl:=aK,ps:=ps,rs:=[(i64,(ay i64)),(i64,(ay i64))],od:=[(1,[0,1,2,3,4,5,6,7,8,9,10,11,12,13,14,15])] }
noncomputable def ab (a:Arg):Option Out:=@lift Out fun k=>D.W k a
noncomputable def p (a1:Arg):Option Out:=if 0<=ae ((2:Int)+(ae ((2:Int)*a1.2.1))) then ((a1.1[(ae ((2:Int)+(ae ((2:Int)*a1.2.1)))).toNat]?).bind fun x2=>if 0<=ae ((3:Int)+(ae ((2:Int)*a1.2.1))) then ((a1.1[(ae ((3:Int)+(ae ((2:Int)*a1.2.1)))).toNat]?).bind fun x3=>some (ae (x2.toNat:Int),ae (x3.toNat:Int),())) else none) else none
theorem aa (k:Nat) (a1:Arg):@Eq (Option Out) (D.W k a1) (p a1):=by kernel_rfl
theorem ok:Ok prog 197 D.sig:=ao func197 aB (by kernel_rfl) (ak _)
end iM
namespace aI
abbrev Arg:Type:=(List UInt8)×Unit
abbrev Out:Type:=Int×Unit
abbrev ps:PQ:=[(.ro,(.U u8))]
noncomputable def D:FD:={ fn:=f126,tl:=aK,ps:=ps,rs:=[(i64,(ay i64))],gl:=[(127,eD.D.sig),(197,iM.D.sig)],lv:=[(7,[0,3,4,35,36]),(15,[0,3,8,66,67]),(19,[0,3,8,10,11,12,66,67])],lx:=[(0,[0,3]),(2,[0,3]),(4,[0,3,8,66,67])],od:=[(3,[0,2,3,4,5,1,6,7])] }
noncomputable def ab (a:Arg):Option Out:=@lift Out fun k=>D.W k a
noncomputable def T0 (a1:Arg) (eU:Int) (bC:Int) (eL:Int):St:={ n:=101,sl:=[(0,.val (.U u8) a1.1),(3,.val i64 eU),(4,.val i64 bC),(35,.val i64 eU),(36,.val i64 eL)],vr:=[],av:=[] }
noncomputable def S0 (rec:RT Out) (a1:Arg) (eU:Int) (bC:Int):(Int)->Option Out:=fun eL=>rec (T0 a1 eU bC eL)
noncomputable def bg (K:KT Out) (a1:Arg) (eU:Int) (bC:Int):(Unit)->Option Out:=fun z=>K (.exit 0) ({ n:=101,sl:=[(0,.val (.U u8) a1.1),(3,.val i64 eU)],vr:=[],av:=[] })
noncomputable def b0 (self:Int->Option Out) (e0:(Unit)->Option Out) (a1:Arg) (eU:Int) (bC:Int) (eL:Int):Option Out:=bif decide (eL < eU) then ((iM.ab (a1.1,eL,())).bind fun iS=>bif !((decide (iS.1=(0:Int))) == (decide (iS.2.1=(0:Int)))) then (some ((3:Int),())) else bif !decide (iS.1=(0:Int)) then (bif decide (iS.1 < bC) then (some ((3:Int),())) else bif decide ((64:Int) < ae (iS.1+iS.2.1)) then (some ((3:Int),())) else self (ae (eL+(1:Int)))) else bif decide ((64:Int) < ae (iS.1+iS.2.1)) then (some ((3:Int),())) else self (ae (eL+(1:Int)))) else e0 ()
noncomputable abbrev B0 (_:Nat):=b0
theorem fA (k:Nat) (rec:RT Out) (K:KT Out) (a1:Arg) (eU:Int) (bC:Int) (eL:Int):D.N k [1,1,1,1,0,1,0,0] (T0 a1 eU bC eL) (c9 rec (bY [0,3,4,35,36] []) K)=b0 (S0 rec a1 eU bC) (bg K a1 eU bC) a1 eU bC eL:=by kernel_rfl
noncomputable def T1 (a1:Arg) (b_:(List UInt8)×Int×(List Bool)×Int×Int):St:={ n:=101,sl:=[(0,.val (.U u8) b_.1),(3,.val i64 b_.2.1),(8,.box (.arr 64 .bool) (ay (.arr 64 .bool)) [] b_.2.2.1),(66,.val i64 b_.2.2.2.1),(67,.val i64 b_.2.2.2.2)],vr:=[],av:=[] }
noncomputable def S1 (rec:RT Out) (a1:Arg):((List UInt8)×Int×(List Bool)×Int×Int)->Option Out:=fun b_=>rec (T1 a1 b_)
noncomputable def dA (K:KT Out) (a1:Arg):((List UInt8)×Int)->Option Out:=fun z=>K (.exit 2) ({ n:=101,sl:=[(0,.val (.U u8) z.1),(3,.val i64 z.2)],vr:=[],av:=[] })
noncomputable def T2 (a1:Arg) (cu:List UInt8) (bA:Int) (iq:Int) (ir:Int) (it:Int) (iu:Int) (eV:(List Bool)×Int):St:={ n:=101,sl:=[(0,.val (.U u8) cu),(3,.val i64 bA),(8,.box (.arr 64 .bool) (ay (.arr 64 .bool)) [] eV.1),(10,.val i64 iq),(11,.val i64 ir),(12,.val i64 eV.2),(66,.val i64 it),(67,.val i64 iu)],vr:=[],av:=[] }
noncomputable def b2 (self:((List Bool)×Int)->Option Out) (e4:(List Bool)->Option Out) (a1:Arg) (cu:List UInt8) (bA:Int) (iq:Int) (ir:Int) (it:Int) (iu:Int) (eV:(List Bool)×Int):Option Out:=bif decide (eV.2 < ae (iq+ir)) then (if 0<=eV.2/\eV.2 < (eV.1.length:Int) then ((eV.1[eV.2.toNat]?).bind fun OL=>bif OL then (some ((8:Int),())) else if 0<=eV.2/\eV.2 < (eV.1.length:Int) then ((eV.1[eV.2.toNat]?).bind fun Gn=>self (eV.1.set eV.2.toNat true,ae (eV.2+(1:Int)))) else none) else none) else e4 eV.1
noncomputable abbrev B2 (_:Nat):=b2
noncomputable def q1 (self:((List UInt8)×Int×(List Bool)×Int×Int)->Option Out) (e2:((List UInt8)×Int)->Option Out) (a1:Arg) (cu:List UInt8) (bA:Int) (iq:Int) (ir:Int) (it:Int) (iu:Int) (Gp:(List Bool)):Option Out:=self (cu,bA,Gp,it,ae (iu+(1:Int)))
noncomputable abbrev Q1 (_:Nat):=q1
noncomputable def s2 (k:Nat) (rec:RT Out) (K:KT Out) (a1:Arg):(List UInt8)->Int->Int->Int->Int->Int->((List Bool)×Int)->Option Out:=fun cu bA iq ir it iu=>fun eV=>D.L k [1,1,1,1,1,1,0,1,0,0,1,1,0,0,1,1,1,0,0] [0,3,8,10,11,12,66,67] [] (af 4 (af 3 (an (D.N k [1,1,1,1,1,1,0,1,0,0,1,1,1]) (c9 rec (bY [0,3,8,66,67] []) K)))) (T2 a1 cu bA iq ir it iu eV)
noncomputable def r2 (k:Nat) (self:((List UInt8)×Int×(List Bool)×Int×Int)->Option Out) (e2:((List UInt8)×Int)->Option Out) (a1:Arg):(List UInt8)->Int->Int->Int->Int->Int->((List Bool)×Int)->Option Out:=fun cu bA iq ir it iu=>al (fun w v=>B2 k w (Q1 k self e2 a1 cu bA iq ir it iu) a1 cu bA iq ir it iu v) k
theorem kO (k:Nat) (rec:RT Out) (K:KT Out) (a1:Arg):s2 k rec K a1=r2 k (S1 rec a1) (dA K a1) a1:=
 funext fun cu=>funext fun bA=>funext fun iq=>funext fun ir=>funext fun it=>funext fun iu=>funext fun eV=>am _ _ _ (T2 a1 cu bA iq ir it iu) _ (fun rec v=>by kernel_rfl) k eV
noncomputable def b1 (self:((List UInt8)×Int×(List Bool)×Int×Int)->Option Out) (e2:((List UInt8)×Int)->Option Out) (l2:(List UInt8)->Int->Int->Int->Int->Int->((List Bool)×Int)->Option Out) (a1:Arg) (b_:(List UInt8)×Int×(List Bool)×Int×Int):Option Out:=bif decide (b_.2.2.2.2 < b_.2.2.2.1) then ((iM.ab (b_.1,b_.2.2.2.2,())).bind fun qk=>l2 b_.1 b_.2.1 qk.1 qk.2.1 b_.2.2.2.1 b_.2.2.2.2 (b_.2.2.1,qk.1)) else e2 (b_.1,b_.2.1)
noncomputable def B1 (k:Nat) (self:((List UInt8)×Int×(List Bool)×Int×Int)->Option Out) (e2:((List UInt8)×Int)->Option Out) (a1:Arg) (b_:(List UInt8)×Int×(List Bool)×Int×Int):Option Out:=b1 self e2 (r2 k self e2 a1) a1 b_
theorem lR (k:Nat) (rec:RT Out) (K:KT Out) (a1:Arg) (b_:(List UInt8)×Int×(List Bool)×Int×Int):D.N k [1,1,1,1,1,1,0,1,0,0] (T1 a1 b_) (c9 rec (bY [0,3,8,66,67] []) K)=B1 k (S1 rec a1) (dA K a1) a1 b_:=
 Eq.trans (b:=b1 (S1 rec a1) (dA K a1) (s2 k rec K a1) a1 b_) (by kernel_rfl) (by rw[kO];rfl)
noncomputable def q2 (a1:Arg) (nF:((List UInt8)×Int)):Option Out:=bif decide ((0:Int) < nF.2) then (if 0<=ae ((ae ((2:Int)*nF.2))+(1:Int)) then ((nF.1[(ae ((ae ((2:Int)*nF.2))+(1:Int))).toNat]?).bind fun OM=>bif decide ((OM.toNat:Int)=(0:Int)) then (some ((8:Int),())) else some ((0:Int),())) else none) else some ((0:Int),())
noncomputable abbrev Q2 (_:Nat):=q2
theorem ng (k:Nat) (a1:Arg) (nF:((List UInt8)×Int)):dA (af 2 (an (D.N k [1,1,1,1,1,1,1]) D.K0)) a1 nF=q2 a1 nF:=by kernel_rfl
noncomputable def s1 (k:Nat) (a1:Arg) (eU:Int) (bC:Int):((List UInt8)×Int×(List Bool)×Int×Int)->Option Out:=fun b_=>D.L k [1,1,1,1,1,1,0,1,0,0] [0,3,8,66,67] [] (af 2 (an (D.N k [1,1,1,1,1,1,1]) D.K0)) (T1 a1 b_)
noncomputable def r1 (k:Nat) (a1:Arg) (eU:Int) (bC:Int):((List UInt8)×Int×(List Bool)×Int×Int)->Option Out:=al (fun w v=>B1 k w (Q2 k a1) a1 v) k
theorem fB (k:Nat) (a1:Arg) (eU:Int) (bC:Int):s1 k a1 eU bC=r1 k a1 eU bC:=by
 funext b_;
 have Y:dA (af 2 (an (D.N k [1,1,1,1,1,1,1]) D.K0)) a1=Q2 k a1:=funext fun z=>ng k a1 z
 refine (am _ _ _ (T1 a1) (fun self v=>B1 k self (dA (af 2 (an (D.N k [1,1,1,1,1,1,1]) D.K0)) a1) a1 v) (fun rec v=>lR k rec (af 2 (an (D.N k [1,1,1,1,1,1,1]) D.K0)) a1 v) k b_).trans ?_
 rw[Y]
 rfl
noncomputable def q0 (l1:((List UInt8)×Int×(List Bool)×Int×Int)->Option Out) (a1:Arg) (eU:Int) (bC:Int) (mR:(Unit)):Option Out:=l1 (a1.1,eU,List.replicate 64 false,eU,(0:Int))
noncomputable def Q0 (k:Nat) (a1:Arg) (eU:Int) (bC:Int) (mR:(Unit)):Option Out:=q0 (r1 k a1 eU bC) a1 eU bC mR
theorem jS (k:Nat) (a1:Arg) (eU:Int) (bC:Int) (mR:(Unit)):bg (af 0 (an (D.N k [1,1,1,1,1]) D.K0)) a1 eU bC mR=Q0 k a1 eU bC mR:=
 Eq.trans (b:=q0 (s1 k a1 eU bC) a1 eU bC mR) (by kernel_rfl) (by rw[fB];rfl)
noncomputable def s0 (k:Nat) (a1:Arg):Int->Int->(Int)->Option Out:=fun eU bC=>fun eL=>D.L k [1,1,1,1,0,1,0,0] [0,3,4,35,36] [] (af 0 (an (D.N k [1,1,1,1,1]) D.K0)) (T0 a1 eU bC eL)
noncomputable def r0 (k:Nat) (a1:Arg):Int->Int->(Int)->Option Out:=fun eU bC=>al (fun w v=>B0 k w (Q0 k a1 eU bC) a1 eU bC v) k
theorem ap (k:Nat) (a1:Arg):s0 k a1=r0 k a1:=by
 funext eU;funext bC;funext eL;
 have h0:bg (af 0 (an (D.N k [1,1,1,1,1]) D.K0)) a1 eU bC=Q0 k a1 eU bC:=funext fun z=>jS k a1 eU bC z
 refine (am _ _ _ (T0 a1 eU bC) (fun self v=>B0 k self (bg (af 0 (an (D.N k [1,1,1,1,1]) D.K0)) a1 eU bC) a1 eU bC v) (fun rec v=>fA k rec (af 0 (an (D.N k [1,1,1,1,1]) D.K0)) a1 eU bC v) k eL).trans ?_
 rw[h0]
 rfl
noncomputable def p (l0:Int->Int->(Int)->Option Out) (a1:Arg):Option Out:=bif !decide ((a1.1.length:Int)=(64:Int)) then (some ((1:Int),())) else (a1.1[1]?).bind fun x2=>(eD.ab (a1.1,())).bind fun r3=>bif decide ((16:Int) < r3.1) then (some ((3:Int),())) else bif decide (ae (x2.toNat:Int) < ae ((2:Int)+(ae ((2:Int)*r3.1)))) then (some ((3:Int),())) else bif decide ((64:Int) < ae (x2.toNat:Int)) then (some ((3:Int),())) else l0 r3.1 (ae (x2.toNat:Int)) (0:Int)
theorem aa (k:Nat) (a1:Arg):@Eq (Option Out) (D.W k a1) (p (r0 k a1) a1):=
 Eq.trans (b:=p (s0 k a1) a1) (by kernel_rfl) (by rw[ap])
theorem ok:Ok prog 126 D.sig:=ao func126 aB (by kernel_rfl) (fc eD.ok (fc iM.ok (ak _)))
end aI
namespace gg
abbrev Arg:Type:=(List UInt8)×Int×Unit
abbrev Out:Type:=Bool×Unit
abbrev ps:PQ:=[(.ro,(.U u8)),(.ro,i64)]
noncomputable def D:FD:={ fn:=f128,tl:=aK,ps:=ps,rs:=[(.bool,(ay .bool))],gl:=[(127,eD.D.sig)] }
noncomputable def ab (a:Arg):Option Out:=@lift Out fun k=>D.W k a
noncomputable def p (a1:Arg):Option Out:=bif decide ((0:Int)<=a1.2.1) then ((eD.ab (a1.1,())).bind fun r2=>bif decide (a1.2.1 < r2.1) then (if 0<=ae ((3:Int)+(ae ((2:Int)*a1.2.1))) then ((a1.1[(ae ((3:Int)+(ae ((2:Int)*a1.2.1)))).toNat]?).bind fun x3=>some (!decide ((x3.toNat:Int)=(0:Int)),())) else none) else some (false,())) else some (false,())
theorem aa (k:Nat) (a1:Arg):@Eq (Option Out) (D.W k a1) (p a1):=by kernel_rfl
theorem ok:Ok prog 128 D.sig:=ao func128 aB (by kernel_rfl) (fc eD.ok (ak _))
end gg
namespace bp
abbrev Arg:Type:=Row×Unit
abbrev Out:Type:=Int×Unit
abbrev ps:PQ:=[(.ro,aw)]
noncomputable def D:FD:={ fn:=f198,tl:=aK,ps:=ps,rs:=[(i64,(ay i64))],gl:=[(61,cr.D.sig)],lv:=[(6,[1,26,27])],lx:=[(0,[])] }
noncomputable def ab (a:Arg):Option Out:=@lift Out fun k=>D.W k a
noncomputable def T0 (a1:Arg) (cz:Int):St:={ n:=43,sl:=[(1,.box aw (ay aw) [] a1.1),(26,.val i64 (a1.1.2.2.2.1.length:Int)),(27,.val i64 cz)],vr:=[],av:=[] }
noncomputable def b0 (self:Int->Option Out) (e0:(Unit)->Option Out) (a1:Arg) (cz:Int):Option Out:=bif decide (cz < (a1.1.2.2.2.1.length:Int)) then (if 0<=cz then ((a1.1.2.2.2.1[cz.toNat]?).bind fun oJ=>bif decide ((oJ.toNat:Int) < (97:Int)) then (some ((5:Int),())) else if 0<=cz then ((a1.1.2.2.2.1[cz.toNat]?).bind fun tH=>bif decide ((122:Int) < (tH.toNat:Int)) then (some ((5:Int),())) else self (ae (cz+(1:Int)))) else none) else none) else e0 ()
noncomputable abbrev B0 (_:Nat):=b0
noncomputable def q0 (a1:Arg) (mR:(Unit)):Option Out:=some ((0:Int),())
noncomputable abbrev Q0 (_:Nat):=q0
noncomputable def s0 (k:Nat) (a1:Arg):(Int)->Option Out:=fun cz=>D.L k [1,1,1,0,1,0,0] [1,26,27] [] (af 0 (an (D.N k [1,1,1,1]) D.K0)) (T0 a1 cz)
noncomputable def r0 (k:Nat) (a1:Arg):(Int)->Option Out:=al (fun w v=>B0 k w (Q0 k a1) a1 v) k
theorem ap (k:Nat) (a1:Arg):s0 k a1=r0 k a1:=
 funext fun cz=>am _ _ _ (T0 a1) _ (fun rec v=>by kernel_rfl) k cz
noncomputable def p (l0:(Int)->Option Out) (a1:Arg):Option Out:=(cr.ab (a1.1.1,(0:Int),(3:Int),())).bind fun r2=>bif !r2.1 then (some ((3:Int),())) else (cr.ab (a1.1.2.1,(1:Int),(99:Int),())).bind fun r3=>bif !r3.1 then (some ((3:Int),())) else (cr.ab (a1.1.2.2.1,(0:Int),(999:Int),())).bind fun r4=>bif !r4.1 then (some ((3:Int),())) else bif decide ((8:Int) < (a1.1.2.2.2.1.length:Int)) then (some ((5:Int),())) else l0 (0:Int)
theorem aa (k:Nat) (a1:Arg):@Eq (Option Out) (D.W k a1) (p (r0 k a1) a1):=
 Eq.trans (b:=p (s0 k a1) a1) (by kernel_rfl) (by rw[ap])
theorem ok:Ok prog 198 D.sig:=ao func198 aB (by kernel_rfl) (fc cr.ok (ak _))
end bp
namespace dV
abbrev Arg:Type:=(List UInt8)×Unit
abbrev Out:Type:=kM×Unit
abbrev ps:PQ:=[(.ro,(.U u8))]
noncomputable def D:FD:={ fn:=f129,tl:=aK,ps:=ps,rs:=[(j9,(ay j9))],gl:=[(198,bp.D.sig)],od:=[(2,[0,1,2,3,4,5,6,7,8,9]),(5,[0,1,2,3,4,5,6,7,8,9,10,11,12,13,14,15,16,17,18,19,20,21,22,23]),(8,[0,1,2,3,4,5,6])] }
noncomputable def ab (a:Arg):Option Out:=@lift Out fun k=>D.W k a
noncomputable def p (a1:Arg):Option Out:=let Lq:Option Out:=let PX:Option Out:=(a1.1[1]?).bind fun PY=>(a1.1[2]?).bind fun PZ=>(a1.1[3]?).bind fun SI=>(a1.1[4]?).bind fun SJ=>if 0<=(6:Int)/\(6:Int)<=(a1.1.length:Int) then (let P0:=ae ((BitVec.ofInt 64 (ae ((ae (SI.toNat:Int))*2 ^ 8)) ||| BitVec.ofInt 64 (ae (SJ.toNat:Int))).toNat:Int);(bp.ab ((ae (PY.toNat:Int),ae (PZ.toNat:Int),P0,(a1.1.take a1.1.length).drop 6,()),())).bind fun SK=>bif !decide (SK.1=(0:Int)) then (some (((5:Int),(0:Int),(0:Int),(0:Int),((0:Int),(0:Int),(0:Int),([]:List UInt8),()),()),())) else (a1.1[0]?).bind fun SL=>some (((0:Int),ae (SL.toNat:Int),(0:Int),(0:Int),(ae (PY.toNat:Int),ae (PZ.toNat:Int),P0,(a1.1.take a1.1.length).drop 6,()),()),())) else none;bif decide ((a1.1.length:Int) < (6:Int)) then (some (((5:Int),(0:Int),(0:Int),(0:Int),((0:Int),(0:Int),(0:Int),([]:List UInt8),()),()),())) else (a1.1[0]?).bind fun NM=>bif !decide ((NM.toNat:Int)=(0:Int)) then ((a1.1[0]?).bind fun NN=>bif !decide ((NN.toNat:Int)=(2:Int)) then (some (((5:Int),(0:Int),(0:Int),(0:Int),((0:Int),(0:Int),(0:Int),([]:List UInt8),()),()),())) else (a1.1[5]?).bind fun SM=>bif !decide ((a1.1.length:Int)=ae ((6:Int)+(ae (SM.toNat:Int)))) then (some (((5:Int),(0:Int),(0:Int),(0:Int),((0:Int),(0:Int),(0:Int),([]:List UInt8),()),()),())) else PX) else (a1.1[5]?).bind fun SN=>bif !decide ((a1.1.length:Int)=ae ((6:Int)+(ae (SN.toNat:Int)))) then (some (((5:Int),(0:Int),(0:Int),(0:Int),((0:Int),(0:Int),(0:Int),([]:List UInt8),()),()),())) else PX;bif decide ((a1.1.length:Int)=(3:Int)) then ((a1.1[0]?).bind fun x2=>bif decide ((x2.toNat:Int)=(1:Int)) then ((a1.1[1]?).bind fun x3=>bif decide ((x3.toNat:Int) < (12:Int)) then ((a1.1[2]?).bind fun x4=>bif decide ((x4.toNat:Int) < (16:Int)) then ((a1.1[1]?).bind fun x5=>(a1.1[2]?).bind fun x6=>some (((0:Int),(1:Int),ae (x5.toNat:Int),ae (x6.toNat:Int),((0:Int),(0:Int),(0:Int),([]:List UInt8),()),()),())) else Lq) else Lq) else Lq) else Lq
theorem aa (k:Nat) (a1:Arg):@Eq (Option Out) (D.W k a1) (p a1):=by kernel_rfl
theorem ok:Ok prog 129 D.sig:=ao func129 aB (by kernel_rfl) (fc bp.ok (ak _))
end dV
namespace gL
abbrev Arg:Type:=(List UInt8)×Int×Unit
abbrev Out:Type:=(List UInt8)×Unit
abbrev ps:PQ:=[(.ro,(.U u8)),(.ro,i64)]
noncomputable def D:FD:={ fn:=f130,tl:=aK,ps:=ps,rs:=[((.U u8),(ay (.U u8)))],gl:=[(197,iM.D.sig)] }
noncomputable def ab (a:Arg):Option Out:=@lift Out fun k=>D.W k a
noncomputable def p (a1:Arg):Option Out:=(iM.ab (a1.1,a1.2.1,())).bind fun r2=>if 0<=r2.1/\r2.1<=ae (r2.1+r2.2.1)/\ae (r2.1+r2.2.1)<=(a1.1.length:Int) then (some ((a1.1.take (ae (r2.1+r2.2.1)).toNat).drop r2.1.toNat,())) else none
theorem aa (k:Nat) (a1:Arg):@Eq (Option Out) (D.W k a1) (p a1):=by kernel_rfl
theorem ok:Ok prog 130 D.sig:=ao func130 aB (by kernel_rfl) (fc iM.ok (ak _))
end gL
namespace dD
abbrev Arg:Type:=Row×Row×Unit
abbrev Out:Type:=Bool×Unit
abbrev ps:PQ:=[(.ro,aw),(.ro,aw)]
noncomputable def D:FD:={ fn:=f202,tl:=aK,ps:=ps,rs:=[(.bool,(ay .bool))] }
noncomputable def ab (a:Arg):Option Out:=@lift Out fun k=>D.W k a
noncomputable def p (a1:Arg):Option Out:=bif decide (a1.1.1 < a1.2.1.1) then (some (true,())) else bif decide (a1.1.1=a1.2.1.1) then (some (decide (a1.1.2.1 < a1.2.1.2.1),())) else some (false,())
theorem aa (k:Nat) (a1:Arg):@Eq (Option Out) (D.W k a1) (p a1):=by kernel_rfl
theorem ok:Ok prog 202 D.sig:=ao func202 aB (by kernel_rfl) (ak _)
end dD
namespace eW
abbrev Arg:Type:=Row×Row×Unit
abbrev Out:Type:=Int×Unit
abbrev ps:PQ:=[(.ro,aw),(.ro,aw)]
noncomputable def D:FD:={ fn:=f201,tl:=aK,ps:=ps,rs:=[(i64,(ay i64))],gl:=[(202,dD.D.sig)] }
noncomputable def ab (a:Arg):Option Out:=@lift Out fun k=>D.W k a
noncomputable def p (a1:Arg):Option Out:=(dD.ab (a1.1,a1.2.1,())).bind fun r2=>bif r2.1 then (some ((-1:Int),())) else (dD.ab (a1.2.1,a1.1,())).bind fun r3=>bif r3.1 then (some ((1:Int),())) else some ((0:Int),())
theorem aa (k:Nat) (a1:Arg):@Eq (Option Out) (D.W k a1) (p a1):=by kernel_rfl
theorem ok:Ok prog 201 D.sig:=ao func201 aB (by kernel_rfl) (fc dD.ok (ak _))
end eW
namespace ik
abbrev Arg:Type:=Seen×Seen×Unit
abbrev Out:Type:=Int×Unit
abbrev ps:PQ:=[(.ro,cN),(.ro,cN)]
noncomputable def D:FD:={ fn:=f200,tl:=aK,ps:=ps,rs:=[(i64,(ay i64))],gl:=[(201,eW.D.sig)] }
noncomputable def ab (a:Arg):Option Out:=@lift Out fun k=>D.W k a
noncomputable def p (a1:Arg):Option Out:=(eW.ab (a1.1.1,a1.2.1.1,())).bind fun r2=>some (r2.1,())
theorem aa (k:Nat) (a1:Arg):@Eq (Option Out) (D.W k a1) (p a1):=by kernel_rfl
theorem ok:Ok prog 200 D.sig:=ao func200 aB (by kernel_rfl) (fc eW.ok (ak _))
end ik
namespace iv
open Go.Proofs
abbrev Arg:Type:=(List Seen)×(Nat×Int)×Unit
abbrev Out:Type:=(List Seen)×Unit
noncomputable def ab (a:Arg):Option Out:=(pt cN ik.ab a.1).map fun r=>(r,())
noncomputable def sig:mA:={ ps:=[(.gG (aq (.U cN)),.U cN),(.fix 200,.fn)],rs:=[],F:=ab }
def DM:Go.Shelf.Ren:=⟨fun | 6=>199 | 15=>266 | 14=>265 | 28=>308 | 29=>309 | 20=>300 | 21=>301 | 22=>302 | 23=>303 | 24=>304 | 25=>305 | 26=>306 | 27=>307 | 46=>314 | 47=>315 | 48=>316 | 49=>317 | 50=>318 | 57=>320 | n=>n,fun | 22=>104 | 24=>187 | 25=>266 | 3=>3 | 39=>258 | 0=>0 | 53=>355 | 55=>357 | 4=>4 | 46=>349 | 45=>348 | 50=>336 | 5=>5 | 9=>9 | 66=>362 | 70=>366 | 76=>368 | 77=>255 | n=>n,fun | n=>n⟩
theorem Mc:Go.Proofs.SlLaysF0.n6 Tryz.prog DM:={
 mixed:=by kernel_rfl
 f6:=⟨Tryz.f199.name,by decide,Tryz.func199.trans (congrArg some (by kernel_rfl))⟩
 f14:=⟨Tryz.f265.name,by decide,Tryz.func265.trans (congrArg some (by kernel_rfl))⟩
 f15:=Tryz.func266.trans (congrArg some (by kernel_rfl))
 f20:=⟨Tryz.f300.name,by decide,Tryz.func300.trans (congrArg some (by kernel_rfl))⟩
 f21:=⟨Tryz.f301.name,by decide,Tryz.func301.trans (congrArg some (by kernel_rfl))⟩
 f22:=⟨Tryz.f302.name,by decide,Tryz.func302.trans (congrArg some (by kernel_rfl))⟩
 f23:=⟨Tryz.f303.name,by decide,Tryz.func303.trans (congrArg some (by kernel_rfl))⟩
 f24:=⟨Tryz.f304.name,by decide,Tryz.func304.trans (congrArg some (by kernel_rfl))⟩
 f25:=⟨Tryz.f305.name,by decide,Tryz.func305.trans (congrArg some (by kernel_rfl))⟩
 f26:=⟨Tryz.f306.name,by decide,Tryz.func306.trans (congrArg some (by kernel_rfl))⟩
 f27:=⟨Tryz.f307.name,by decide,Tryz.func307.trans (congrArg some (by kernel_rfl))⟩
 f28:=Tryz.func308.trans (congrArg some (by kernel_rfl))
 f29:=Tryz.func309.trans (congrArg some (by kernel_rfl))
 f46:=⟨Tryz.f314.name,by decide,Tryz.func314.trans (congrArg some (by kernel_rfl))⟩
 f47:=Tryz.func315.trans (congrArg some (by kernel_rfl))
 f48:=Tryz.func316.trans (congrArg some (by kernel_rfl))
 f49:=⟨Tryz.f317.name,by decide,Tryz.func317.trans (congrArg some (by kernel_rfl))⟩
 f50:=⟨Tryz.f318.name,by decide,Tryz.func318.trans (congrArg some (by kernel_rfl))⟩
 f57:=⟨Tryz.f320.name,by decide,Tryz.func320.trans (congrArg some (by kernel_rfl))⟩
 t0:=Tryz.underlying0
 a0:=Tryz.isAgg0
 z0:=Tryz.sizeOf0
 v0:=Tryz.zeroValue0
 t3:=Tryz.underlying3
 a3:=Tryz.isAgg3
 z3:=Tryz.sizeOf3
 v3:=Tryz.zeroValue3
 t4:=Tryz.underlying4
 a4:=Tryz.isAgg4
 z4:=Tryz.sizeOf4
 v4:=Tryz.zeroValue4
 t5:=Tryz.underlying5
 a5:=Tryz.isAgg5
 z5:=Tryz.sizeOf5
 v5:=Tryz.zeroValue5
 t9:=Tryz.underlying9
 a9:=Tryz.isAgg9
 z9:=Tryz.sizeOf9
 v9:=Tryz.zeroValue9
 t22:=Tryz.underlying104
 a22:=Tryz.isAgg104
 z22:=Tryz.sizeOf104
 v22:=Tryz.zeroValue104
 t25:=Tryz.underlying266
 a25:=Tryz.isAgg266
 z25:=Tryz.sizeOf266
 v25:=Tryz.zeroValue266
 t39:=Tryz.underlying258
 a39:=Tryz.isAgg258
 z39:=Tryz.sizeOf258
 v39:=Tryz.zeroValue258
 t45:=Tryz.underlying348
 a45:=Tryz.isAgg348
 z45:=Tryz.sizeOf348
 v45:=Tryz.zeroValue348
 t46:=Tryz.underlying349
 a46:=Tryz.isAgg349
 z46:=Tryz.sizeOf349
 v46:=Tryz.zeroValue349
 t50:=Tryz.underlying336
 a50:=Tryz.isAgg336
 z50:=Tryz.sizeOf336
 v50:=Tryz.zeroValue336
 t53:=Tryz.underlying355
 a53:=Tryz.isAgg355
 z53:=Tryz.sizeOf355
 v53:=Tryz.zeroValue355
 t55:=Tryz.underlying357
 a55:=Tryz.isAgg357
 z55:=Tryz.sizeOf357
 v55:=Tryz.zeroValue357
 t66:=Tryz.underlying362
 a66:=Tryz.isAgg362
 z66:=Tryz.sizeOf362
 v66:=Tryz.zeroValue362
 t70:=Tryz.underlying366
 a70:=Tryz.isAgg366
 z70:=Tryz.sizeOf366
 v70:=Tryz.zeroValue366
 t76:=Tryz.underlying368
 a76:=Tryz.isAgg368
 z76:=Tryz.sizeOf368
 v76:=Tryz.zeroValue368
 t77:=Tryz.underlying255
 a77:=Tryz.isAgg255
 z77:=Tryz.sizeOf255
 v77:=Tryz.zeroValue255 }
theorem ok:Ok prog 199 sig:=Ma (e:=cN) Mc rfl rfl (by kernel_rfl) (by decide) (g:=200) (cF:=ik.ab) ik.ok ⟨f199,func199,by kernel_rfl,by kernel_rfl,by kernel_rfl⟩
end iv
namespace aH
abbrev Arg:Type:=(List (List UInt8))×Unit
abbrev Out:Type:=(List Seen)×Int×Unit
abbrev ps:PQ:=[(.ro,(.U (.U u8)))]
noncomputable def D:FD:={ fn:=f131,tl:=aK,ps:=ps,rs:=[((.U cN),(aq (.U cN))),(i64,(ay i64))],gl:=[(127,eD.D.sig),(128,gg.D.sig),(129,dV.D.sig),(130,gL.D.sig),(199,iv.sig),(202,dD.D.sig)],lv:=[(4,[4,5,6,21,22,23]),(7,[4,5,6,7,8,21,22,23,29,30]),(21,[4,5,6,81,82,83]),(29,[4,5,6,15,101,102,103]),(40,[4,19])],lx:=[(0,[4,5,6]),(2,[4,5,6,21,22,23]),(3,[4,5,6,7,8,21,22,23,29,30]),(5,[4,5,6]),(7,[4]),(9,[4])],od:=[(42,[0,1,2,3,4,5,6,7,8,9,10,11,12])] }
noncomputable def ab (a:Arg):Option Out:=@lift Out fun k=>D.W k a
noncomputable def T0 (a1:Arg) (J:(List Seen)×(List Seen)×(List ((List Int)×Row))×(List (List UInt8))×Int×Int):St:={ n:=148,sl:=[(4,.own (.U cN) (aq (.U cN)) [] J.1),(5,.own (.U cN) (aq (.U cN)) [] J.2.1),(6,.own (.map (.arr 2 i64) aw) (aq (.map (.arr 2 i64) aw)) [] J.2.2.1),(21,.val (.U (.U u8)) J.2.2.2.1),(22,.val i64 J.2.2.2.2.1),(23,.val i64 J.2.2.2.2.2)],vr:=[],av:=[] }
noncomputable def S0 (rec:RT Out) (a1:Arg):((List Seen)×(List Seen)×(List ((List Int)×Row))×(List (List UInt8))×Int×Int)->Option Out:=fun J=>rec (T0 a1 J)
noncomputable def bg (K:KT Out) (a1:Arg):((List Seen)×(List Seen)×(List ((List Int)×Row)))->Option Out:=fun z=>K (.exit 0) ({ n:=148,sl:=[(4,.own (.U cN) (aq (.U cN)) [] z.1),(5,.own (.U cN) (aq (.U cN)) [] z.2.1),(6,.own (.map (.arr 2 i64) aw) (aq (.map (.arr 2 i64) aw)) [] z.2.2)],vr:=[],av:=[] })
noncomputable def T1 (a1:Arg) (eA:Int) (dn:List UInt8) (cQ:List (List UInt8)) (bM:Int) (eC:Int) (cd:(List Seen)×(List Seen)×(List ((List Int)×Row))×Int):St:={ n:=148,sl:=[(4,.own (.U cN) (aq (.U cN)) [] cd.1),(5,.own (.U cN) (aq (.U cN)) [] cd.2.1),(6,.own (.map (.arr 2 i64) aw) (aq (.map (.arr 2 i64) aw)) [] cd.2.2.1),(7,.val i64 eA),(8,.val (.U u8) dn),(21,.val (.U (.U u8)) cQ),(22,.val i64 bM),(23,.val i64 eA),(29,.val i64 eC),(30,.val i64 cd.2.2.2)],vr:=[],av:=[] }
noncomputable def b1 (self:((List Seen)×(List Seen)×(List ((List Int)×Row))×Int)->Option Out) (e2:((List Seen)×(List Seen)×(List ((List Int)×Row)))->Option Out) (a1:Arg) (eA:Int) (dn:List UInt8) (cQ:List (List UInt8)) (bM:Int) (eC:Int) (cd:(List Seen)×(List Seen)×(List ((List Int)×Row))×Int):Option Out:=bif decide (cd.2.2.2 < eC) then ((gg.ab (dn,cd.2.2.2,())).bind fun yr=>bif !yr.1 then (self (cd.1,cd.2.1,cd.2.2.1,ae (cd.2.2.2+(1:Int)))) else (gL.ab (dn,cd.2.2.2,())).bind fun A7=>(dV.ab (A7.1,())).bind fun mt=>bif !decide (mt.1.1=(0:Int)) then (some (([]:List Seen),(5:Int),())) else bif decide (mt.1.2.1=(0:Int)) then (if cd.1.length+[(mt.1.2.2.2.2.1,eA,cd.2.2.2,false,eA,cd.2.2.2,())].length<=bm then (let ON:=cd.1++[(mt.1.2.2.2.2.1,eA,cd.2.2.2,false,eA,cd.2.2.2,())];self (ON,cd.2.1,cd.2.2.1,ae (cd.2.2.2+(1:Int)))) else none) else bif decide (mt.1.2.1=(2:Int)) then (if 0 < (List.replicate 2 (0:Int)).length then (if 1 < ((List.replicate 2 (0:Int)).set 0 eA).length then (let OO:=gH (.arr 2 i64) cd.2.2.1 (((List.replicate 2 (0:Int)).set 0 eA).set 1 cd.2.2.2) mt.1.2.2.2.2.1;self (cd.1,cd.2.1,OO,ae (cd.2.2.2+(1:Int)))) else none) else none) else if cd.2.1.length+[(((0:Int),(0:Int),(0:Int),([]:List UInt8),()),eA,cd.2.2.2,true,mt.1.2.2.1,mt.1.2.2.2.1,())].length<=bm then (let OP:=cd.2.1++[(((0:Int),(0:Int),(0:Int),([]:List UInt8),()),eA,cd.2.2.2,true,mt.1.2.2.1,mt.1.2.2.2.1,())];self (cd.1,OP,cd.2.2.1,ae (cd.2.2.2+(1:Int)))) else none) else e2 (cd.1,cd.2.1,cd.2.2.1)
noncomputable abbrev B1 (_:Nat):=b1
noncomputable def q0 (self:((List Seen)×(List Seen)×(List ((List Int)×Row))×(List (List UInt8))×Int×Int)->Option Out) (e0:((List Seen)×(List Seen)×(List ((List Int)×Row)))->Option Out) (a1:Arg) (eA:Int) (dn:List UInt8) (cQ:List (List UInt8)) (bM:Int) (eC:Int) (rS:((List Seen)×(List Seen)×(List ((List Int)×Row)))):Option Out:=self (rS.1,rS.2.1,rS.2.2,cQ,bM,ae (eA+(1:Int)))
noncomputable abbrev Q0 (_:Nat):=q0
noncomputable def s1 (k:Nat) (rec:RT Out) (K:KT Out) (a1:Arg):Int->(List UInt8)->(List (List UInt8))->Int->Int->((List Seen)×(List Seen)×(List ((List Int)×Row))×Int)->Option Out:=fun eA dn cQ bM eC=>fun cd=>D.L k [1,1,1,0,1,0,0,1,1,0,0,1,1,0,0] [4,5,6,7,8,21,22,23,29,30] [] (af 2 (af 1 (an (D.N k [1,1,1,0,1,0,0,1,1,1]) (c9 rec (bY [4,5,6,21,22,23] []) K)))) (T1 a1 eA dn cQ bM eC cd)
noncomputable def r1 (k:Nat) (self:((List Seen)×(List Seen)×(List ((List Int)×Row))×(List (List UInt8))×Int×Int)->Option Out) (e0:((List Seen)×(List Seen)×(List ((List Int)×Row)))->Option Out) (a1:Arg):Int->(List UInt8)->(List (List UInt8))->Int->Int->((List Seen)×(List Seen)×(List ((List Int)×Row))×Int)->Option Out:=fun eA dn cQ bM eC=>al (fun w v=>B1 k w (Q0 k self e0 a1 eA dn cQ bM eC) a1 eA dn cQ bM eC v) k
theorem fB (k:Nat) (rec:RT Out) (K:KT Out) (a1:Arg):s1 k rec K a1=r1 k (S0 rec a1) (bg K a1) a1:=
 funext fun eA=>funext fun dn=>funext fun cQ=>funext fun bM=>funext fun eC=>funext fun cd=>am _ _ _ (T1 a1 eA dn cQ bM eC) _ (fun rec v=>by kernel_rfl) k cd
noncomputable def b0 (self:((List Seen)×(List Seen)×(List ((List Int)×Row))×(List (List UInt8))×Int×Int)->Option Out) (e0:((List Seen)×(List Seen)×(List ((List Int)×Row)))->Option Out) (l1:Int->(List UInt8)->(List (List UInt8))->Int->Int->((List Seen)×(List Seen)×(List ((List Int)×Row))×Int)->Option Out) (a1:Arg) (J:(List Seen)×(List Seen)×(List ((List Int)×Row))×(List (List UInt8))×Int×Int):Option Out:=bif decide (J.2.2.2.2.2 < J.2.2.2.2.1) then (if 0<=J.2.2.2.2.2 then ((J.2.2.2.1[J.2.2.2.2.2.toNat]?).bind fun aC=>(eD.ab (aC,())).bind fun bS=>l1 J.2.2.2.2.2 aC J.2.2.2.1 J.2.2.2.2.1 bS.1 (J.1,J.2.1,J.2.2.1,(0:Int))) else none) else e0 (J.1,J.2.1,J.2.2.1)
noncomputable def B0 (k:Nat) (self:((List Seen)×(List Seen)×(List ((List Int)×Row))×(List (List UInt8))×Int×Int)->Option Out) (e0:((List Seen)×(List Seen)×(List ((List Int)×Row)))->Option Out) (a1:Arg) (J:(List Seen)×(List Seen)×(List ((List Int)×Row))×(List (List UInt8))×Int×Int):Option Out:=b0 self e0 (r1 k self e0 a1) a1 J
theorem fA (k:Nat) (rec:RT Out) (K:KT Out) (a1:Arg) (J:(List Seen)×(List Seen)×(List ((List Int)×Row))×(List (List UInt8))×Int×Int):D.N k [1,1,1,0,1,0,0] (T0 a1 J) (c9 rec (bY [4,5,6,21,22,23] []) K)=B0 k (S0 rec a1) (bg K a1) a1 J:=
 Eq.trans (b:=b0 (S0 rec a1) (bg K a1) (s1 k rec K a1) a1 J) (by kernel_rfl) (by rw[fB];rfl)
noncomputable def T2 (a1:Arg) (dM:List Seen) (dp:List Seen) (dt:List ((List Int)×Row)) (dW:Int) (lm:Int):St:={ n:=148,sl:=[(4,.own (.U cN) (aq (.U cN)) [] dM),(5,.own (.U cN) (aq (.U cN)) [] dp),(6,.own (.map (.arr 2 i64) aw) (aq (.map (.arr 2 i64) aw)) [] dt),(81,.ref 5 [] [0,0]),(82,.val i64 dW),(83,.val i64 lm)],vr:=[],av:=[] }
noncomputable def S2 (rec:RT Out) (a1:Arg) (dM:List Seen) (dp:List Seen) (dt:List ((List Int)×Row)) (dW:Int):(Int)->Option Out:=fun lm=>rec (T2 a1 dM dp dt dW lm)
noncomputable def Gq (K:KT Out) (a1:Arg) (dM:List Seen) (dp:List Seen) (dt:List ((List Int)×Row)) (dW:Int):(Unit)->Option Out:=fun z=>K (.exit 5) ({ n:=148,sl:=[(4,.own (.U cN) (aq (.U cN)) [] dM),(5,.own (.U cN) (aq (.U cN)) [] dp),(6,.own (.map (.arr 2 i64) aw) (aq (.map (.arr 2 i64) aw)) [] dt)],vr:=[],av:=[] })
noncomputable def b2 (self:Int->Option Out) (e5:(Unit)->Option Out) (a1:Arg) (dM:List Seen) (dp:List Seen) (dt:List ((List Int)×Row)) (dW:Int) (lm:Int):Option Out:=bif decide (lm < dW) then (if 0<=lm/\lm < (dp.length:Int) then ((dp[lm.toNat]?).bind fun yt=>if 0 < (List.replicate 2 (0:Int)).length then (if 1 < ((List.replicate 2 (0:Int)).set 0 yt.2.2.2.2.1).length then (let Tf:=qH (dq (.arr 2 i64) dt (((List.replicate 2 (0:Int)).set 0 yt.2.2.2.2.1).set 1 yt.2.2.2.2.2.1)) ((0:Int),(0:Int),(0:Int),([]:List UInt8),());bif !(dq (.arr 2 i64) dt (((List.replicate 2 (0:Int)).set 0 yt.2.2.2.2.1).set 1 yt.2.2.2.2.2.1)).isSome then (some (([]:List Seen),(4:Int),())) else self (ae (lm+(1:Int)))) else none) else none) else none) else e5 ()
noncomputable abbrev B2 (_:Nat):=b2
theorem Ge (k:Nat) (rec:RT Out) (K:KT Out) (a1:Arg) (dM:List Seen) (dp:List Seen) (dt:List ((List Int)×Row)) (dW:Int) (lm:Int):D.N k [1,1,1,1,0,1,0,0] (T2 a1 dM dp dt dW lm) (c9 rec (bY [4,5,6,81,82,83] []) K)=b2 (S2 rec a1 dM dp dt dW) (Gq K a1 dM dp dt dW) a1 dM dp dt dW lm:=by kernel_rfl
noncomputable def T3 (a1:Arg) (dN:List Seen) (dX:List ((List Int)×Row)) (dY:Int) (iw:(List Seen)×(List ((List Int)×Bool))×Int):St:={ n:=148,sl:=[(4,.own (.U cN) (aq (.U cN)) [] iw.1),(5,.own (.U cN) (aq (.U cN)) [] dN),(6,.own (.map (.arr 2 i64) aw) (aq (.map (.arr 2 i64) aw)) [] dX),(15,.own (.map (.arr 2 i64) .bool) (aq (.map (.arr 2 i64) .bool)) [] iw.2.1),(101,.ref 5 [] [0,0]),(102,.val i64 dY),(103,.val i64 iw.2.2)],vr:=[],av:=[] }
noncomputable def S3 (rec:RT Out) (a1:Arg) (dN:List Seen) (dX:List ((List Int)×Row)) (dY:Int):((List Seen)×(List ((List Int)×Bool))×Int)->Option Out:=fun iw=>rec (T3 a1 dN dX dY iw)
noncomputable def Gr (K:KT Out) (a1:Arg) (dN:List Seen) (dX:List ((List Int)×Row)) (dY:Int):(List Seen)->Option Out:=fun z=>K (.exit 7) ({ n:=148,sl:=[(4,.own (.U cN) (aq (.U cN)) [] z)],vr:=[],av:=[] })
noncomputable def b3 (self:((List Seen)×(List ((List Int)×Bool))×Int)->Option Out) (e7:(List Seen)->Option Out) (a1:Arg) (dN:List Seen) (dX:List ((List Int)×Row)) (dY:Int) (iw:(List Seen)×(List ((List Int)×Bool))×Int):Option Out:=bif decide (iw.2.2 < dY) then (if 0<=iw.2.2/\iw.2.2 < (dN.length:Int) then ((dN[iw.2.2.toNat]?).bind fun yu=>if 0 < (List.replicate 2 (0:Int)).length then (if 1 < ((List.replicate 2 (0:Int)).set 0 yu.2.2.2.2.1).length then (let Gs:=((List.replicate 2 (0:Int)).set 0 yu.2.2.2.2.1).set 1 yu.2.2.2.2.2.1;bif qH (dq (.arr 2 i64) iw.2.1 Gs) false then (some (([]:List Seen),(6:Int),())) else let Lr:=qH (dq (.arr 2 i64) dX Gs) ((0:Int),(0:Int),(0:Int),([]:List UInt8),());if iw.1.length+[(Lr,yu.2)].length<=bm then (self (iw.1++[(Lr,yu.2)],gH (.arr 2 i64) iw.2.1 Gs true,ae (iw.2.2+(1:Int)))) else none) else none) else none) else none) else e7 iw.1
noncomputable abbrev B3 (_:Nat):=b3
theorem OQ (k:Nat) (rec:RT Out) (K:KT Out) (a1:Arg) (dN:List Seen) (dX:List ((List Int)×Row)) (dY:Int) (iw:(List Seen)×(List ((List Int)×Bool))×Int):D.N k [1,1,1,1,1,1,0,1,0,0] (T3 a1 dN dX dY iw) (c9 rec (bY [4,5,6,15,101,102,103] []) K)=b3 (S3 rec a1 dN dX dY) (Gr K a1 dN dX dY) a1 dN dX dY iw:=by kernel_rfl
noncomputable def T4 (a1:Arg) (ln:List Seen) (mu:Int):St:={ n:=148,sl:=[(4,.own (.U cN) (aq (.U cN)) [] ln),(19,.val i64 mu)],vr:=[],av:=[] }
noncomputable def b4 (self:Int->Option Out) (e9:(Unit)->Option Out) (a1:Arg) (ln:List Seen) (mu:Int):Option Out:=bif decide (mu < (ln.length:Int)) then (if 0<=ae (mu - (1:Int))/\ae (mu - (1:Int)) < (ln.length:Int) then ((ln[(ae (mu - (1:Int))).toNat]?).bind fun OR=>if 0<=mu/\mu < (ln.length:Int) then ((ln[mu.toNat]?).bind fun OS=>(dD.ab (OR.1,OS.1,())).bind fun OU=>bif !OU.1 then (some (([]:List Seen),(8:Int),())) else self (ae (mu+(1:Int)))) else none) else none) else e9 ()
noncomputable abbrev B4 (_:Nat):=b4
noncomputable def q4 (a1:Arg) (ln:List Seen) (Tg:(Unit)):Option Out:=some (ln,(0:Int),())
noncomputable abbrev Q4 (_:Nat):=q4
noncomputable def s4 (k:Nat) (a1:Arg) (dN:List Seen) (dX:List ((List Int)×Row)) (dY:Int):(List Seen)->(Int)->Option Out:=fun ln=>fun mu=>D.L k [1,1,1,1,1,1,1,1,0,1,0,0] [4,19] [] (af 9 (an (D.N k [1,1,1,1,1,1,1,1,1]) D.K0)) (T4 a1 ln mu)
noncomputable def r4 (k:Nat) (a1:Arg) (dN:List Seen) (dX:List ((List Int)×Row)) (dY:Int):(List Seen)->(Int)->Option Out:=fun ln=>al (fun w v=>B4 k w (Q4 k a1 ln) a1 ln v) k
theorem OV (k:Nat) (a1:Arg) (dN:List Seen) (dX:List ((List Int)×Row)) (dY:Int):s4 k a1 dN dX dY=r4 k a1 dN dX dY:=
 funext fun ln=>funext fun mu=>am _ _ _ (T4 a1 ln) _ (fun rec v=>by kernel_rfl) k mu
noncomputable def q3 (l4:(List Seen)->(Int)->Option Out) (a1:Arg) (dN:List Seen) (dX:List ((List Int)×Row)) (dY:Int) (tL:(List Seen)):Option Out:=(iv.ab (tL,((200,0):Nat×Int),())).bind fun OW=>l4 OW.1 (1:Int)
noncomputable def Q3 (k:Nat) (a1:Arg) (dN:List Seen) (dX:List ((List Int)×Row)) (dY:Int) (tL:(List Seen)):Option Out:=q3 (r4 k a1 dN dX dY) a1 dN dX dY tL
theorem Gf (k:Nat) (a1:Arg) (dN:List Seen) (dX:List ((List Int)×Row)) (dY:Int) (tL:(List Seen)):Gr (af 7 (an (D.N k [1,1,1,1,1,1,1]) D.K0)) a1 dN dX dY tL=Q3 k a1 dN dX dY tL:=
 Eq.trans (b:=q3 (s4 k a1 dN dX dY) a1 dN dX dY tL) (by kernel_rfl) (by rw[OV];rfl)
noncomputable def s3 (k:Nat) (a1:Arg) (dM:List Seen) (dp:List Seen) (dt:List ((List Int)×Row)) (dW:Int):(List Seen)->(List ((List Int)×Row))->Int->((List Seen)×(List ((List Int)×Bool))×Int)->Option Out:=fun dN dX dY=>fun iw=>D.L k [1,1,1,1,1,1,0,1,0,0] [4,5,6,15,101,102,103] [] (af 7 (an (D.N k [1,1,1,1,1,1,1]) D.K0)) (T3 a1 dN dX dY iw)
noncomputable def r3 (k:Nat) (a1:Arg) (dM:List Seen) (dp:List Seen) (dt:List ((List Int)×Row)) (dW:Int):(List Seen)->(List ((List Int)×Row))->Int->((List Seen)×(List ((List Int)×Bool))×Int)->Option Out:=fun dN dX dY=>al (fun w v=>B3 k w (Q3 k a1 dN dX dY) a1 dN dX dY v) k
theorem Gd (k:Nat) (a1:Arg) (dM:List Seen) (dp:List Seen) (dt:List ((List Int)×Row)) (dW:Int):s3 k a1 dM dp dt dW=r3 k a1 dM dp dt dW:=by
 funext dN;funext dX;funext dY;funext iw;
 have h7:Gr (af 7 (an (D.N k [1,1,1,1,1,1,1]) D.K0)) a1 dN dX dY=Q3 k a1 dN dX dY:=funext fun z=>Gf k a1 dN dX dY z
 refine (am _ _ _ (T3 a1 dN dX dY) (fun self v=>B3 k self (Gr (af 7 (an (D.N k [1,1,1,1,1,1,1]) D.K0)) a1 dN dX dY) a1 dN dX dY v) (fun rec v=>OQ k rec (af 7 (an (D.N k [1,1,1,1,1,1,1]) D.K0)) a1 dN dX dY v) k iw).trans ?_
 rw[h7]
 rfl
noncomputable def q2 (l3:(List Seen)->(List ((List Int)×Row))->Int->((List Seen)×(List ((List Int)×Bool))×Int)->Option Out) (a1:Arg) (dM:List Seen) (dp:List Seen) (dt:List ((List Int)×Row)) (dW:Int) (wi:(Unit)):Option Out:=l3 dp dt (dp.length:Int) (dM,([]:List ((List Int)×Bool)),(0:Int))
noncomputable def Q2 (k:Nat) (a1:Arg) (dM:List Seen) (dp:List Seen) (dt:List ((List Int)×Row)) (dW:Int) (wi:(Unit)):Option Out:=q2 (r3 k a1 dM dp dt dW) a1 dM dp dt dW wi
theorem ng (k:Nat) (a1:Arg) (dM:List Seen) (dp:List Seen) (dt:List ((List Int)×Row)) (dW:Int) (wi:(Unit)):Gq (af 5 (an (D.N k [1,1,1,1,1]) D.K0)) a1 dM dp dt dW wi=Q2 k a1 dM dp dt dW wi:=
 Eq.trans (b:=q2 (s3 k a1 dM dp dt dW) a1 dM dp dt dW wi) (by kernel_rfl) (by rw[Gd];rfl)
noncomputable def s2 (k:Nat) (a1:Arg):(List Seen)->(List Seen)->(List ((List Int)×Row))->Int->(Int)->Option Out:=fun dM dp dt dW=>fun lm=>D.L k [1,1,1,1,0,1,0,0] [4,5,6,81,82,83] [] (af 5 (an (D.N k [1,1,1,1,1]) D.K0)) (T2 a1 dM dp dt dW lm)
noncomputable def r2 (k:Nat) (a1:Arg):(List Seen)->(List Seen)->(List ((List Int)×Row))->Int->(Int)->Option Out:=fun dM dp dt dW=>al (fun w v=>B2 k w (Q2 k a1 dM dp dt dW) a1 dM dp dt dW v) k
theorem kO (k:Nat) (a1:Arg):s2 k a1=r2 k a1:=by
 funext dM;funext dp;funext dt;funext dW;funext lm;
 have h5:Gq (af 5 (an (D.N k [1,1,1,1,1]) D.K0)) a1 dM dp dt dW=Q2 k a1 dM dp dt dW:=funext fun z=>ng k a1 dM dp dt dW z
 refine (am _ _ _ (T2 a1 dM dp dt dW) (fun self v=>B2 k self (Gq (af 5 (an (D.N k [1,1,1,1,1]) D.K0)) a1 dM dp dt dW) a1 dM dp dt dW v) (fun rec v=>Ge k rec (af 5 (an (D.N k [1,1,1,1,1]) D.K0)) a1 dM dp dt dW v) k lm).trans ?_
 rw[h5]
 rfl
noncomputable def q1 (l2:(List Seen)->(List Seen)->(List ((List Int)×Row))->Int->(Int)->Option Out) (a1:Arg) (pu:((List Seen)×(List Seen)×(List ((List Int)×Row)))):Option Out:=l2 pu.1 pu.2.1 pu.2.2 (pu.2.1.length:Int) (0:Int)
noncomputable def Q1 (k:Nat) (a1:Arg) (pu:((List Seen)×(List Seen)×(List ((List Int)×Row)))):Option Out:=q1 (r2 k a1) a1 pu
theorem lS (k:Nat) (a1:Arg) (pu:((List Seen)×(List Seen)×(List ((List Int)×Row)))):bg (af 0 (an (D.N k [1,1,1,1]) D.K0)) a1 pu=Q1 k a1 pu:=
 Eq.trans (b:=q1 (s2 k a1) a1 pu) (by kernel_rfl) (by rw[kO];rfl)
noncomputable def s0 (k:Nat) (a1:Arg):((List Seen)×(List Seen)×(List ((List Int)×Row))×(List (List UInt8))×Int×Int)->Option Out:=fun J=>D.L k [1,1,1,0,1,0,0] [4,5,6,21,22,23] [] (af 0 (an (D.N k [1,1,1,1]) D.K0)) (T0 a1 J)
noncomputable def r0 (k:Nat) (a1:Arg):((List Seen)×(List Seen)×(List ((List Int)×Row))×(List (List UInt8))×Int×Int)->Option Out:=al (fun w v=>B0 k w (Q1 k a1) a1 v) k
theorem ap (k:Nat) (a1:Arg):s0 k a1=r0 k a1:=by
 funext J;
 have h0:bg (af 0 (an (D.N k [1,1,1,1]) D.K0)) a1=Q1 k a1:=funext fun z=>lS k a1 z
 refine (am _ _ _ (T0 a1) (fun self v=>B0 k self (bg (af 0 (an (D.N k [1,1,1,1]) D.K0)) a1) a1 v) (fun rec v=>fA k rec (af 0 (an (D.N k [1,1,1,1]) D.K0)) a1 v) k J).trans ?_
 rw[h0]
 rfl
noncomputable def p (l0:((List Seen)×(List Seen)×(List ((List Int)×Row))×(List (List UInt8))×Int×Int)->Option Out) (a1:Arg):Option Out:=l0 (([]:List Seen),([]:List Seen),([]:List ((List Int)×Row)),a1.1,(a1.1.length:Int),(0:Int))
theorem aa (k:Nat) (a1:Arg):@Eq (Option Out) (D.W k a1) (p (r0 k a1) a1):=
 Eq.trans (b:=p (s0 k a1) a1) (by kernel_rfl) (by rw[ap])
theorem ok:Ok prog 131 D.sig:=ao func131 aB (by kernel_rfl) (fc eD.ok (fc gg.ok (fc dV.ok (fc gL.ok (fc iv.ok (fc dD.ok (ak _)))))))
end aH
namespace bO
abbrev Arg:Type:=(List (List UInt8))×Unit
abbrev Out:Type:=(List Seen)×Int×Unit
abbrev ps:PQ:=[(.ro,(.U (.U u8)))]
noncomputable def D:FD:={ fn:=f62,tl:=aK,ps:=ps,rs:=[((.U cN),(aq (.U cN))),(i64,(ay i64))],gl:=[(126,aI.D.sig),(127,eD.D.sig),(128,gg.D.sig),(129,dV.D.sig),(130,gL.D.sig),(131,aH.D.sig)],lv:=[(4,[0,11,12,13]),(10,[0,5,11,12,13,23,24])],lx:=[(0,[0]),(2,[0,11,12,13])] }
noncomputable def ab (a:Arg):Option Out:=@lift Out fun k=>D.W k a
noncomputable def T0 (a1:Arg) (J:(List (List UInt8))×(List (List UInt8))×Int×Int):St:={ n:=44,sl:=[(0,.val (.U (.U u8)) J.1),(11,.val (.U (.U u8)) J.2.1),(12,.val i64 J.2.2.1),(13,.val i64 J.2.2.2)],vr:=[],av:=[] }
noncomputable def S0 (rec:RT Out) (a1:Arg):((List (List UInt8))×(List (List UInt8))×Int×Int)->Option Out:=fun J=>rec (T0 a1 J)
noncomputable def bg (K:KT Out) (a1:Arg):(List (List UInt8))->Option Out:=fun z=>K (.exit 0) ({ n:=44,sl:=[(0,.val (.U (.U u8)) z)],vr:=[],av:=[] })
noncomputable def T1 (a1:Arg) (dn:List (List UInt8)) (cQ:List UInt8) (bM:List (List UInt8)) (eC:Int) (im:Int) (oK:Int) (bI:Int):St:={ n:=44,sl:=[(0,.val (.U (.U u8)) dn),(5,.val (.U u8) cQ),(11,.val (.U (.U u8)) bM),(12,.val i64 eC),(13,.val i64 im),(23,.val i64 oK),(24,.val i64 bI)],vr:=[],av:=[] }
noncomputable def b1 (self:Int->Option Out) (e2:(Unit)->Option Out) (a1:Arg) (dn:List (List UInt8)) (cQ:List UInt8) (bM:List (List UInt8)) (eC:Int) (im:Int) (oK:Int) (bI:Int):Option Out:=bif decide (bI < oK) then ((gg.ab (cQ,bI,())).bind fun mt=>bif mt.1 then ((gL.ab (cQ,bI,())).bind fun yp=>(dV.ab (yp.1,())).bind fun OX=>bif !decide (OX.1.1=(0:Int)) then (some (([]:List Seen),(5:Int),())) else self (ae (bI+(1:Int)))) else self (ae (bI+(1:Int)))) else e2 ()
noncomputable abbrev B1 (_:Nat):=b1
noncomputable def q0 (self:((List (List UInt8))×(List (List UInt8))×Int×Int)->Option Out) (e0:(List (List UInt8))->Option Out) (a1:Arg) (dn:List (List UInt8)) (cQ:List UInt8) (bM:List (List UInt8)) (eC:Int) (im:Int) (oK:Int) (A8:(Unit)):Option Out:=self (dn,bM,eC,ae (im+(1:Int)))
noncomputable abbrev Q0 (_:Nat):=q0
noncomputable def s1 (k:Nat) (rec:RT Out) (K:KT Out) (a1:Arg):(List (List UInt8))->(List UInt8)->(List (List UInt8))->Int->Int->Int->(Int)->Option Out:=fun dn cQ bM eC im oK=>fun bI=>D.L k [1,1,0,1,0,0,1,1,0,0,1,1,1,0,0] [0,5,11,12,13,23,24] [] (af 2 (af 1 (an (D.N k [1,1,0,1,0,0,1,1,1]) (c9 rec (bY [0,11,12,13] []) K)))) (T1 a1 dn cQ bM eC im oK bI)
noncomputable def r1 (k:Nat) (self:((List (List UInt8))×(List (List UInt8))×Int×Int)->Option Out) (e0:(List (List UInt8))->Option Out) (a1:Arg):(List (List UInt8))->(List UInt8)->(List (List UInt8))->Int->Int->Int->(Int)->Option Out:=fun dn cQ bM eC im oK=>al (fun w v=>B1 k w (Q0 k self e0 a1 dn cQ bM eC im oK) a1 dn cQ bM eC im oK v) k
theorem fB (k:Nat) (rec:RT Out) (K:KT Out) (a1:Arg):s1 k rec K a1=r1 k (S0 rec a1) (bg K a1) a1:=
 funext fun dn=>funext fun cQ=>funext fun bM=>funext fun eC=>funext fun im=>funext fun oK=>funext fun bI=>am _ _ _ (T1 a1 dn cQ bM eC im oK) _ (fun rec v=>by kernel_rfl) k bI
noncomputable def b0 (self:((List (List UInt8))×(List (List UInt8))×Int×Int)->Option Out) (e0:(List (List UInt8))->Option Out) (l1:(List (List UInt8))->(List UInt8)->(List (List UInt8))->Int->Int->Int->(Int)->Option Out) (a1:Arg) (J:(List (List UInt8))×(List (List UInt8))×Int×Int):Option Out:=bif decide (J.2.2.2 < J.2.2.1) then (if 0<=J.2.2.2 then ((J.2.1[J.2.2.2.toNat]?).bind fun aC=>(aI.ab (aC,())).bind fun bS=>bif !decide (bS.1=(0:Int)) then (some (([]:List Seen),bS.1,())) else (eD.ab (aC,())).bind fun gA=>l1 J.1 aC J.2.1 J.2.2.1 J.2.2.2 gA.1 (0:Int)) else none) else e0 J.1
noncomputable def B0 (k:Nat) (self:((List (List UInt8))×(List (List UInt8))×Int×Int)->Option Out) (e0:(List (List UInt8))->Option Out) (a1:Arg) (J:(List (List UInt8))×(List (List UInt8))×Int×Int):Option Out:=b0 self e0 (r1 k self e0 a1) a1 J
theorem fA (k:Nat) (rec:RT Out) (K:KT Out) (a1:Arg) (J:(List (List UInt8))×(List (List UInt8))×Int×Int):D.N k [1,1,0,1,0,0] (T0 a1 J) (c9 rec (bY [0,11,12,13] []) K)=B0 k (S0 rec a1) (bg K a1) a1 J:=
 Eq.trans (b:=b0 (S0 rec a1) (bg K a1) (s1 k rec K a1) a1 J) (by kernel_rfl) (by rw[fB];rfl)
noncomputable def q1 (a1:Arg) (rS:(List (List UInt8))):Option Out:=(aH.ab (rS,())).bind fun Ls=>some (Ls.1,Ls.2.1,())
noncomputable abbrev Q1 (_:Nat):=q1
theorem lS (k:Nat) (a1:Arg) (rS:(List (List UInt8))):bg (af 0 (an (D.N k [1,1,1]) D.K0)) a1 rS=q1 a1 rS:=by kernel_rfl
noncomputable def s0 (k:Nat) (a1:Arg):((List (List UInt8))×(List (List UInt8))×Int×Int)->Option Out:=fun J=>D.L k [1,1,0,1,0,0] [0,11,12,13] [] (af 0 (an (D.N k [1,1,1]) D.K0)) (T0 a1 J)
noncomputable def r0 (k:Nat) (a1:Arg):((List (List UInt8))×(List (List UInt8))×Int×Int)->Option Out:=al (fun w v=>B0 k w (Q1 k a1) a1 v) k
theorem ap (k:Nat) (a1:Arg):s0 k a1=r0 k a1:=by
 funext J;
 have h0:bg (af 0 (an (D.N k [1,1,1]) D.K0)) a1=Q1 k a1:=funext fun z=>lS k a1 z
 refine (am _ _ _ (T0 a1) (fun self v=>B0 k self (bg (af 0 (an (D.N k [1,1,1]) D.K0)) a1) a1 v) (fun rec v=>fA k rec (af 0 (an (D.N k [1,1,1]) D.K0)) a1 v) k J).trans ?_
 rw[h0]
 rfl
noncomputable def p (l0:((List (List UInt8))×(List (List UInt8))×Int×Int)->Option Out) (a1:Arg):Option Out:=bif decide ((12:Int) < (a1.1.length:Int)) then (some (([]:List Seen),(2:Int),())) else l0 (a1.1,a1.1,(a1.1.length:Int),(0:Int))
theorem aa (k:Nat) (a1:Arg):@Eq (Option Out) (D.W k a1) (p (r0 k a1) a1):=
 Eq.trans (b:=p (s0 k a1) a1) (by kernel_rfl) (by rw[ap])
theorem ok:Ok prog 62 D.sig:=ao func62 aB (by kernel_rfl) (fc aI.ok (fc eD.ok (fc gg.ok (fc dV.ok (fc gL.ok (fc aH.ok (ak _)))))))
end bO
namespace d6
abbrev Arg:Type:=(List Row)×Unit
abbrev Out:Type:=(List Row)×Unit
abbrev ps:PQ:=[(.ro,(.U aw))]
noncomputable def D:FD:={ fn:=f183,tl:=aK,ps:=ps,rs:=[((.U aw),(aq (.U aw)))] }
noncomputable def ab (a:Arg):Option Out:=@lift Out fun k=>D.W k a
noncomputable def p (a1:Arg):Option Out:=uF a1.1 (some (([]:List Row),())) (if ([]:List Row).length+a1.1.length<=bm then (some (([]:List Row)++a1.1,())) else none)
theorem aa (k:Nat) (a1:Arg):@Eq (Option Out) (D.W k a1) (p a1):=by kernel_rfl
theorem ok:Ok prog 183 D.sig:=ao func183 aB (by kernel_rfl) (ak _)
end d6
namespace bT
abbrev Arg:Type:=(List Row)×Unit
abbrev Out:Type:=Int×Unit
abbrev ps:PQ:=[(.ro,(.U aw))]
noncomputable def D:FD:={ fn:=f132,tl:=aK,ps:=ps,rs:=[(i64,(ay i64))],gl:=[(198,bp.D.sig),(202,dD.D.sig)],lv:=[(4,[0,9,10,11])],lx:=[(0,[])],od:=[(9,[0,1,2,3,4,5,6,7,8,9,10,11])] }
noncomputable def ab (a:Arg):Option Out:=@lift Out fun k=>D.W k a
noncomputable def T0 (a1:Arg) (J:Int):St:={ n:=34,sl:=[(0,.val (.U aw) a1.1),(9,.val (.U aw) a1.1),(10,.val i64 (a1.1.length:Int)),(11,.val i64 J)],vr:=[],av:=[] }
noncomputable def b0 (self:Int->Option Out) (e0:(Unit)->Option Out) (a1:Arg) (J:Int):Option Out:=bif decide (J < (a1.1.length:Int)) then (if 0<=J then ((a1.1[J.toNat]?).bind fun aC=>(bp.ab (aC,())).bind fun bS=>bif !decide (bS.1=(0:Int)) then (some (bS.1,())) else bif decide ((0:Int) < J) then (if 0<=ae (J - (1:Int)) then ((a1.1[(ae (J - (1:Int))).toNat]?).bind fun db=>(dD.ab (db,aC,())).bind fun lC=>bif !lC.1 then (some ((1:Int),())) else self (ae (J+(1:Int)))) else none) else self (ae (J+(1:Int)))) else none) else e0 ()
noncomputable abbrev B0 (_:Nat):=b0
noncomputable def q0 (a1:Arg) (gI:(Unit)):Option Out:=some ((0:Int),())
noncomputable abbrev Q0 (_:Nat):=q0
noncomputable def s0 (k:Nat) (a1:Arg):(Int)->Option Out:=fun J=>D.L k [1,1,0,1,0,0] [0,9,10,11] [] (af 0 (an (D.N k [1,1,1]) D.K0)) (T0 a1 J)
noncomputable def r0 (k:Nat) (a1:Arg):(Int)->Option Out:=al (fun w v=>B0 k w (Q0 k a1) a1 v) k
theorem ap (k:Nat) (a1:Arg):s0 k a1=r0 k a1:=
 funext fun J=>am _ _ _ (T0 a1) _ (fun rec v=>by kernel_rfl) k J
noncomputable def p (l0:(Int)->Option Out) (a1:Arg):Option Out:=bif decide ((60:Int) < (a1.1.length:Int)) then (some ((2:Int),())) else l0 (0:Int)
theorem aa (k:Nat) (a1:Arg):@Eq (Option Out) (D.W k a1) (p (r0 k a1) a1):=
 Eq.trans (b:=p (s0 k a1) a1) (by kernel_rfl) (by rw[ap])
theorem ok:Ok prog 132 D.sig:=ao func132 aB (by kernel_rfl) (fc bp.ok (fc dD.ok (ak _)))
end bT
namespace d7
abbrev Arg:Type:=Change×Unit
abbrev Out:Type:=Int×Unit
abbrev ps:PQ:=[(.ro,au)]
noncomputable def D:FD:={ fn:=f250,tl:=aK,ps:=ps,rs:=[(i64,(ay i64))],gl:=[(198,bp.D.sig),(201,eW.D.sig)] }
noncomputable def ab (a:Arg):Option Out:=@lift Out fun k=>D.W k a
noncomputable def p (a1:Arg):Option Out:=let j7:Option Out:=bif a1.1.1 then ((bp.ab (a1.1.2.1,())).bind fun r8=>bif !decide (r8.1=(0:Int)) then (some (r8.1,())) else bif a1.1.2.2.1 then ((bp.ab (a1.1.2.2.2.1,())).bind fun CD=>some (CD.1,())) else some ((0:Int),())) else bif a1.1.2.2.1 then ((bp.ab (a1.1.2.2.2.1,())).bind fun NQ=>some (NQ.1,())) else some ((0:Int),());bif !a1.1.1 then (bif !a1.1.2.2.1 then (some ((1:Int),())) else bif a1.1.1 then (bif a1.1.2.2.1 then ((eW.ab (a1.1.2.1,a1.1.2.2.2.1,())).bind fun r2=>bif !decide (r2.1=(0:Int)) then (some ((1:Int),())) else j7) else j7) else j7) else bif a1.1.1 then (bif a1.1.2.2.1 then ((eW.ab (a1.1.2.1,a1.1.2.2.2.1,())).bind fun r3=>bif !decide (r3.1=(0:Int)) then (some ((1:Int),())) else j7) else j7) else j7
theorem aa (k:Nat) (a1:Arg):@Eq (Option Out) (D.W k a1) (p a1):=by kernel_rfl
theorem ok:Ok prog 250 D.sig:=ao func250 aB (by kernel_rfl) (fc bp.ok (fc eW.ok (ak _)))
end d7
namespace cI
abbrev Arg:Type:=Change×Unit
abbrev Out:Type:=Row×Unit
abbrev ps:PQ:=[(.ro,au)]
noncomputable def D:FD:={ fn:=f284,tl:=aK,ps:=ps,rs:=[(aw,(ay aw))] }
noncomputable def ab (a:Arg):Option Out:=@lift Out fun k=>D.W k a
noncomputable def p (a1:Arg):Option Out:=bif a1.1.2.2.1 then (some (a1.1.2.2.2.1,())) else some (a1.1.2.1,())
theorem aa (k:Nat) (a1:Arg):@Eq (Option Out) (D.W k a1) (p a1):=by kernel_rfl
theorem ok:Ok prog 284 D.sig:=ao func284 aB (by kernel_rfl) (ak _)
end cI
namespace aE
abbrev Arg:Type:=(List Row)×Row×(Nat×Int)×Unit
abbrev Out:Type:=Int×Bool×Unit
abbrev ps:PQ:=[(.ro,(.U aw)),(.ro,aw),(.fix 201,.fn)]
noncomputable def D:FD:={ fn:=f294,tl:=aK,ps:=ps,rs:=[(i64,(ay i64)),(.bool,(ay .bool))],gl:=[(201,eW.D.sig)],lv:=[(3,[0,2,4,8,9,10])],lx:=[(0,[0,2,4,8,9])],od:=[(5,[0,1,2,3,4,5,6,7]),(8,[0,1,2,3,4,5,6,7,8,9,10,11,12,13,14,15])] }
noncomputable def ab (a:Arg):Option Out:=@lift Out fun k=>D.W k a
noncomputable def T0 (a1:Arg) (J:Int×Int):St:={ n:=49,sl:=[(0,.val (.U aw) a1.1),(2,.val .fn ((201,a1.2.2.1.2):Nat×Int)),(4,.box aw (ay aw) [] a1.2.1),(8,.val i64 (a1.1.length:Int)),(9,.val i64 J.1),(10,.val i64 J.2)],vr:=[],av:=[] }
noncomputable def b0 (self:(Int×Int)->Option Out) (e0:Int->Option Out) (a1:Arg) (J:Int×Int):Option Out:=bif decide (J.1 < J.2) then (if 0<=ae ((IntKind.wrap .u64 (ae (J.1+J.2))).fdiv (2 ^ 1)) then ((a1.1[(ae ((IntKind.wrap .u64 (ae (J.1+J.2))).fdiv (2 ^ 1))).toNat]?).bind fun aC=>(eW.ab (aC,a1.2.1,())).bind fun bS=>bif decide (bS.1 < (0:Int)) then (self (ae ((ae ((IntKind.wrap .u64 (ae (J.1+J.2))).fdiv (2 ^ 1)))+(1:Int)),J.2)) else self (J.1,ae ((IntKind.wrap .u64 (ae (J.1+J.2))).fdiv (2 ^ 1)))) else none) else e0 J.1
noncomputable abbrev B0 (_:Nat):=b0
noncomputable def q0 (a1:Arg) (bG:Int):Option Out:=bif decide (bG < (a1.1.length:Int)) then (if 0<=bG then ((a1.1[bG.toNat]?).bind fun oJ=>(eW.ab (oJ,a1.2.1,())).bind fun iS=>some (bG,decide (iS.1=(0:Int)),())) else none) else some (bG,false,())
noncomputable abbrev Q0 (_:Nat):=q0
noncomputable def s0 (k:Nat) (a1:Arg):(Int×Int)->Option Out:=fun J=>D.L k [1,1,1,0,0,0] [0,2,4,8,9,10] [] (af 0 (an (D.N k [1,1,1,1]) D.K0)) (T0 a1 J)
noncomputable def r0 (k:Nat) (a1:Arg):(Int×Int)->Option Out:=al (fun w v=>B0 k w (Q0 k a1) a1 v) k
theorem ap (k:Nat) (a1:Arg):s0 k a1=r0 k a1:=
 funext fun J=>am _ _ _ (T0 a1) _ (fun rec v=>by kernel_rfl) k J
noncomputable def p (l0:(Int×Int)->Option Out) (a1:Arg):Option Out:=l0 ((0:Int),(a1.1.length:Int))
theorem aa (k:Nat) (a1:Arg):@Eq (Option Out) (D.W k a1) (p (r0 k a1) a1):=
 Eq.trans (b:=p (s0 k a1) a1) (by kernel_rfl) (by rw[ap])
theorem ok:Ok prog 294 D.sig:=ao func294 aB (by kernel_rfl) (fc eW.ok (ak _))
end aE
namespace fx
abbrev Arg:Type:=Change×(List Row)×Unit
abbrev Out:Type:=Bool×Unit
abbrev ps:PQ:=[(.ro,au),(.ro,(.U aw))]
noncomputable def D:FD:={ fn:=f251,tl:=aK,ps:=ps,rs:=[(.bool,(ay .bool))],gl:=[(284,cI.D.sig),(294,aE.D.sig)],od:=[(2,[0,1,2,3,4,5,6,7,8,9,10,11,12,13,14,15,16,17])] }
noncomputable def ab (a:Arg):Option Out:=@lift Out fun k=>D.W k a
noncomputable def p (a1:Arg):Option Out:=(cI.ab (a1.1,())).bind fun r2=>(aE.ab (a1.2.1,r2.1,((201,0):Nat×Int),())).bind fun r3=>bif (r3.2.1 == a1.1.1) then (bif !r3.2.1 then (some (true,())) else if 0<=r3.1 then ((a1.2.1[r3.1.toNat]?).bind fun x4=>some ((Ty.eq aw x4 a1.1.2.1),())) else none) else some (false,())
theorem aa (k:Nat) (a1:Arg):@Eq (Option Out) (D.W k a1) (p a1):=by kernel_rfl
theorem ok:Ok prog 251 D.sig:=ao func251 aB (by kernel_rfl) (fc cI.ok (fc aE.ok (ak _)))
end fx
namespace ju
abbrev Arg:Type:=(List Row)×Change×Unit
abbrev Out:Type:=(List Row)×Unit
abbrev ps:PQ:=[(.ro,(.U aw)),(.ro,au)]
noncomputable def D:FD:={ fn:=f252,tl:=aK,ps:=ps,rs:=[((.U aw),(aq (.U aw)))],gl:=[(284,cI.D.sig),(294,aE.D.sig)] }
noncomputable def ab (a:Arg):Option Out:=@lift Out fun k=>D.W k a
noncomputable def p (a1:Arg):Option Out:=(cI.ab (a1.2.1,())).bind fun r2=>(aE.ab (a1.1,r2.1,((201,0):Nat×Int),())).bind fun r3=>if 0<=r3.1/\r3.1<=(a1.1.length:Int) then (if ([]:List Row).length+((a1.1.take r3.1.toNat).drop 0).length<=bm then (let y4:=([]:List Row)++((a1.1.take r3.1.toNat).drop 0);let j8:=fun (p7:List Row)=>(let P1:=fun (Lt:Int)=>(if 0<=Lt/\Lt<=(a1.1.length:Int) then (if p7.length+((a1.1.take a1.1.length).drop Lt.toNat).length<=bm then (let SO:=p7++((a1.1.take a1.1.length).drop Lt.toNat);some (SO,())) else none) else none:Option Out);bif r3.2.1 then (P1 (ae (r3.1+(1:Int)))) else P1 r3.1:Option Out);bif a1.2.1.2.2.1 then (if y4.length+[a1.2.1.2.2.2.1].length<=bm then (j8 (y4++[a1.2.1.2.2.2.1])) else none) else j8 y4) else none) else none
theorem aa (k:Nat) (a1:Arg):@Eq (Option Out) (D.W k a1) (p a1):=by kernel_rfl
theorem ok:Ok prog 252 D.sig:=ao func252 aB (by kernel_rfl) (fc cI.ok (fc aE.ok (ak _)))
end ju
namespace bX
abbrev Arg:Type:=(List Row)×(List Change)×Unit
abbrev Out:Type:=qj×Unit
abbrev ps:PQ:=[(.ro,(.U aw)),(.ro,(.U au))]
noncomputable def D:FD:={ fn:=f184,tl:=aK,ps:=ps,rs:=[(nA,(aq nA))],gl:=[(132,bT.D.sig),(183,d6.D.sig),(250,d7.D.sig),(251,fx.D.sig),(252,ju.D.sig)],lv:=[(6,[4,6,18,19,20])],lx:=[(0,[4,6])] }
noncomputable def ab (a:Arg):Option Out:=@lift Out fun k=>D.W k a
noncomputable def T0 (a1:Arg) (eL:(List Row)×Int):St:={ n:=45,sl:=[(4,.box nA (aq nA) [] ((0:Int),([]:List Row),())),(6,.own (.U aw) (aq (.U aw)) [] eL.1),(18,.val (.U au) a1.2.1),(19,.val i64 (a1.2.1.length:Int)),(20,.val i64 eL.2)],vr:=[],av:=[] }
noncomputable def b0 (self:((List Row)×Int)->Option Out) (e0:(List Row)->Option Out) (a1:Arg) (eL:(List Row)×Int):Option Out:=bif decide (eL.2 < (a1.2.1.length:Int)) then (if 0<=eL.2 then ((a1.2.1[eL.2.toNat]?).bind fun db=>(d7.ab (db,())).bind fun lC=>bif !decide (lC.1=(0:Int)) then (some ((lC.1,([]:List Row),()),())) else (fx.ab (db,eL.1,())).bind fun iS=>bif !iS.1 then (some (((8:Int),([]:List Row),()),())) else (ju.ab (eL.1,db,())).bind fun zy=>self (zy.1,ae (eL.2+(1:Int)))) else none) else e0 eL.1
noncomputable abbrev B0 (_:Nat):=b0
noncomputable def q0 (a1:Arg) (tM:(List Row)):Option Out:=bif decide ((60:Int) < (tM.length:Int)) then (some (((2:Int),([]:List Row),()),())) else some (((0:Int),tM,()),())
noncomputable abbrev Q0 (_:Nat):=q0
noncomputable def s0 (k:Nat) (a1:Arg):((List Row)×Int)->Option Out:=fun eL=>D.L k [1,1,1,0,1,0,0] [4,6,18,19,20] [] (af 0 (an (D.N k [1,1,1,1]) D.K0)) (T0 a1 eL)
noncomputable def r0 (k:Nat) (a1:Arg):((List Row)×Int)->Option Out:=al (fun w v=>B0 k w (Q0 k a1) a1 v) k
theorem ap (k:Nat) (a1:Arg):s0 k a1=r0 k a1:=
 funext fun eL=>am _ _ _ (T0 a1) _ (fun rec v=>by kernel_rfl) k eL
noncomputable def p (l0:((List Row)×Int)->Option Out) (a1:Arg):Option Out:=(bT.ab (a1.1,())).bind fun r2=>bif !decide (r2.1=(0:Int)) then (some ((r2.1,([]:List Row),()),())) else (d6.ab (a1.1,())).bind fun r3=>l0 (r3.1,(0:Int))
theorem aa (k:Nat) (a1:Arg):@Eq (Option Out) (D.W k a1) (p (r0 k a1) a1):=
 Eq.trans (b:=p (s0 k a1) a1) (by kernel_rfl) (by rw[ap])
theorem ok:Ok prog 184 D.sig:=ao func184 aB (by kernel_rfl) (fc bT.ok (fc d6.ok (fc d7.ok (fc fx.ok (fc ju.ok (ak _))))))
end bX
namespace fM
abbrev Arg:Type:=(List Change)×Unit
abbrev Out:Type:=(List Change)×Unit
abbrev ps:PQ:=[(.ro,(.U au))]
noncomputable def D:FD:={ fn:=f185,tl:=aK,ps:=ps,rs:=[((.U au),(aq (.U au)))],lv:=[(3,[0,3,4])],lx:=[(0,[3])] }
noncomputable def ab (a:Arg):Option Out:=@lift Out fun k=>D.W k a
noncomputable def T0 (a1:Arg) (J:(List Change)×Int):St:={ n:=30,sl:=[(0,.val (.U au) a1.1),(3,.own (.U au) (aq (.U au)) [] J.1),(4,.val i64 J.2)],vr:=[],av:=[] }
noncomputable def b0 (self:((List Change)×Int)->Option Out) (e0:(List Change)->Option Out) (a1:Arg) (J:(List Change)×Int):Option Out:=bif decide ((0:Int)<=J.2) then (if 0<=J.2 then ((a1.1[J.2.toNat]?).bind fun aC=>if J.1.length+[(aC.2.2.1,aC.2.2.2.1,aC.1,aC.2.1,())].length<=bm then (let vv:=J.1++[(aC.2.2.1,aC.2.2.2.1,aC.1,aC.2.1,())];self (vv,ae (J.2 - (1:Int)))) else none) else none) else e0 J.1
noncomputable abbrev B0 (_:Nat):=b0
noncomputable def q0 (a1:Arg) (bG:(List Change)):Option Out:=some (bG,())
noncomputable abbrev Q0 (_:Nat):=q0
noncomputable def s0 (k:Nat) (a1:Arg):((List Change)×Int)->Option Out:=fun J=>D.L k [1,1,0,1,0,0] [0,3,4] [] (af 0 (an (D.N k [1,1,1]) D.K0)) (T0 a1 J)
noncomputable def r0 (k:Nat) (a1:Arg):((List Change)×Int)->Option Out:=al (fun w v=>B0 k w (Q0 k a1) a1 v) k
theorem ap (k:Nat) (a1:Arg):s0 k a1=r0 k a1:=
 funext fun J=>am _ _ _ (T0 a1) _ (fun rec v=>by kernel_rfl) k J
noncomputable def p (l0:((List Change)×Int)->Option Out) (a1:Arg):Option Out:=l0 (([]:List Change),ae ((a1.1.length:Int) - (1:Int)))
theorem aa (k:Nat) (a1:Arg):@Eq (Option Out) (D.W k a1) (p (r0 k a1) a1):=
 Eq.trans (b:=p (s0 k a1) a1) (by kernel_rfl) (by rw[ap])
theorem ok:Ok prog 185 D.sig:=ao func185 aB (by kernel_rfl) (ak _)
end fM
namespace cV
abbrev Arg:Type:=(List Row)×(List Tx)×Unit
abbrev Out:Type:=(List Row)×Int×Unit
abbrev ps:PQ:=[(.ro,(.U aw)),(.ro,(.U aX))]
noncomputable def D:FD:={ fn:=f114,tl:=aK,ps:=ps,rs:=[((.U aw),(aq (.U aw))),(i64,(ay i64))],gl:=[(183,d6.D.sig),(184,bX.D.sig),(185,fM.D.sig)],lv:=[(2,[0,9,10,11])],lx:=[(0,[0])],lf:=[(2,[(0,(.U false (.pair .leaf (.pair .leaf (.pair .leaf (.pair .leaf .leaf))))))])],od:=[(6,[0,1,2,3])] }
noncomputable def ab (a:Arg):Option Out:=@lift Out fun k=>D.W k a
noncomputable def T0 (a1:Arg) (J:(List Row)×Int):St:={ n:=30,sl:=[(0,.val (.U aw) J.1),(9,.val (.U aX) a1.2.1),(10,.val i64 (a1.2.1.length:Int)),(11,.val i64 J.2)],vr:=[],av:=[] }
noncomputable def b0 (self:((List Row)×Int)->Option Out) (e0:(List Row)->Option Out) (a1:Arg) (J:(List Row)×Int):Option Out:=bif decide (J.2 < (a1.2.1.length:Int)) then (if 0<=J.2 then ((a1.2.1[J.2.toNat]?).bind fun aC=>(fM.ab (aC.2.1,())).bind fun bS=>(bX.ab (J.1,bS.1,())).bind fun gA=>bif !decide (gA.1.1=(0:Int)) then (some (([]:List Row),gA.1.1,())) else self (gA.1.2.1,ae (J.2+(1:Int)))) else none) else e0 J.1
noncomputable abbrev B0 (_:Nat):=b0
noncomputable def q0 (a1:Arg) (gz:(List Row)):Option Out:=(d6.ab (gz,())).bind fun iS=>some (iS.1,(0:Int),())
noncomputable abbrev Q0 (_:Nat):=q0
noncomputable def s0 (k:Nat) (a1:Arg):((List Row)×Int)->Option Out:=fun J=>D.L k [1,0,1,0,0] [0,9,10,11] [(0,(.U false (.pair .leaf (.pair .leaf (.pair .leaf (.pair .leaf .leaf))))))] (af 0 (an (D.N k [1,1]) D.K0)) (T0 a1 J)
noncomputable def r0 (k:Nat) (a1:Arg):((List Row)×Int)->Option Out:=al (fun w v=>B0 k w (Q0 k a1) a1 v) k
theorem ap (k:Nat) (a1:Arg):s0 k a1=r0 k a1:=
 funext fun J=>am _ _ _ (T0 a1) _ (fun rec v=>by kernel_rfl) k J
noncomputable def p (l0:((List Row)×Int)->Option Out) (a1:Arg):Option Out:=l0 (a1.1,(0:Int))
theorem aa (k:Nat) (a1:Arg):@Eq (Option Out) (D.W k a1) (p (r0 k a1) a1):=
 Eq.trans (b:=p (s0 k a1) a1) (by kernel_rfl) (by rw[ap])
theorem ok:Ok prog 114 D.sig:=ao func114 aB (by kernel_rfl) (fc d6.ok (fc bX.ok (fc fM.ok (ak _))))
end cV
namespace gi
abbrev Arg:Type:=Change×Unit
abbrev Out:Type:=Int×Unit
abbrev ps:PQ:=[(.ro,au)]
noncomputable def D:FD:={ fn:=f267,tl:=aK,ps:=ps,rs:=[(i64,(ay i64))],gl:=[(250,d7.D.sig)] }
noncomputable def ab (a:Arg):Option Out:=@lift Out fun k=>D.W k a
noncomputable def p (a1:Arg):Option Out:=(d7.ab (a1.1,())).bind fun r2=>bif !decide (r2.1=(0:Int)) then (some (r2.1,())) else bif a1.1.1 then (bif a1.1.2.2.1 then (bif (Ty.eq aw a1.1.2.1 a1.1.2.2.2.1) then (some ((1:Int),())) else some ((0:Int),())) else some ((0:Int),())) else some ((0:Int),())
theorem aa (k:Nat) (a1:Arg):@Eq (Option Out) (D.W k a1) (p a1):=by kernel_rfl
theorem ok:Ok prog 267 D.sig:=ao func267 aB (by kernel_rfl) (fc d7.ok (ak _))
end gi
namespace dE
abbrev Arg:Type:=(List Key)×Key×Unit
abbrev Out:Type:=Int×Unit
abbrev ps:PQ:=[(.ro,(.U aF)),(.ro,aF)]
noncomputable def D:FD:={ fn:=f310,tl:=aK,ps:=ps,rs:=[(i64,(ay i64))],lv:=[(2,[0,3,7,8])],lx:=[(0,[])],od:=[(4,[0,1,2,3,4,5])] }
noncomputable def ab (a:Arg):Option Out:=@lift Out fun k=>D.W k a
noncomputable def T0 (a1:Arg) (J:Int):St:={ n:=19,sl:=[(0,.val (.U aF) a1.1),(3,.box aF (ay aF) [] a1.2.1),(7,.val i64 (a1.1.length:Int)),(8,.val i64 J)],vr:=[],av:=[] }
noncomputable def b0 (self:Int->Option Out) (e0:(Unit)->Option Out) (a1:Arg) (J:Int):Option Out:=bif decide (J < (a1.1.length:Int)) then (if 0<=J then ((a1.1[J.toNat]?).bind fun aC=>bif (Ty.eq aF a1.2.1 aC) then (some (J,())) else self (ae (J+(1:Int)))) else none) else e0 ()
noncomputable abbrev B0 (_:Nat):=b0
noncomputable def q0 (a1:Arg) (jR:(Unit)):Option Out:=some ((-1:Int),())
noncomputable abbrev Q0 (_:Nat):=q0
noncomputable def s0 (k:Nat) (a1:Arg):(Int)->Option Out:=fun J=>D.L k [1,0,1,0,0] [0,3,7,8] [] (af 0 (an (D.N k [1,1]) D.K0)) (T0 a1 J)
noncomputable def r0 (k:Nat) (a1:Arg):(Int)->Option Out:=al (fun w v=>B0 k w (Q0 k a1) a1 v) k
theorem ap (k:Nat) (a1:Arg):s0 k a1=r0 k a1:=
 funext fun J=>am _ _ _ (T0 a1) _ (fun rec v=>by kernel_rfl) k J
noncomputable def p (l0:(Int)->Option Out) (a1:Arg):Option Out:=l0 (0:Int)
theorem aa (k:Nat) (a1:Arg):@Eq (Option Out) (D.W k a1) (p (r0 k a1) a1):=
 Eq.trans (b:=p (s0 k a1) a1) (by kernel_rfl) (by rw[ap])
theorem ok:Ok prog 310 D.sig:=ao func310 aB (by kernel_rfl) (ak _)
end dE
namespace ed
abbrev Arg:Type:=(List Key)×Key×Unit
abbrev Out:Type:=Bool×Unit
abbrev ps:PQ:=[(.ro,(.U aF)),(.ro,aF)]
noncomputable def D:FD:={ fn:=f268,tl:=aK,ps:=ps,rs:=[(.bool,(ay .bool))],gl:=[(310,dE.D.sig)] }
noncomputable def ab (a:Arg):Option Out:=@lift Out fun k=>D.W k a
noncomputable def p (a1:Arg):Option Out:=(dE.ab (a1.1,a1.2.1,())).bind fun r2=>some (decide ((0:Int)<=r2.1),())
theorem aa (k:Nat) (a1:Arg):@Eq (Option Out) (D.W k a1) (p a1):=by kernel_rfl
theorem ok:Ok prog 268 D.sig:=ao func268 aB (by kernel_rfl) (fc dE.ok (ak _))
end ed
namespace gj
abbrev Arg:Type:=Change×Unit
abbrev Out:Type:=Key×Unit
abbrev ps:PQ:=[(.ro,au)]
noncomputable def D:FD:={ fn:=f269,tl:=aK,ps:=ps,rs:=[(aF,(ay aF))],gl:=[(284,cI.D.sig)],od:=[(1,[0,3,1,2,4,5,6,7])] }
noncomputable def ab (a:Arg):Option Out:=@lift Out fun k=>D.W k a
noncomputable def p (a1:Arg):Option Out:=(cI.ab (a1.1,())).bind fun r2=>(cI.ab (a1.1,())).bind fun r3=>some ((r2.1.1,r3.1.2.1,()),())
theorem aa (k:Nat) (a1:Arg):@Eq (Option Out) (D.W k a1) (p a1):=by kernel_rfl
theorem ok:Ok prog 269 D.sig:=ao func269 aB (by kernel_rfl) (fc cI.ok (ak _))
end gj
namespace kS
abbrev Arg:Type:=Int×Int×Unit
abbrev Out:Type:=Bool×Unit
abbrev ps:PQ:=[(.ro,i64),(.ro,i64)]
noncomputable def D:FD:={ fn:=f270,tl:=aK,ps:=ps,rs:=[(.bool,(ay .bool))],gl:=[(61,cr.D.sig)] }
noncomputable def ab (a:Arg):Option Out:=@lift Out fun k=>D.W k a
noncomputable def p (a1:Arg):Option Out:=(cr.ab (a1.1,(0:Int),(3:Int),())).bind fun r2=>bif r2.1 then ((cr.ab (a1.2.1,(1:Int),(99:Int),())).bind fun r3=>some (r3.1,())) else some (false,())
theorem aa (k:Nat) (a1:Arg):@Eq (Option Out) (D.W k a1) (p a1):=by kernel_rfl
theorem ok:Ok prog 270 D.sig:=ao func270 aB (by kernel_rfl) (fc cr.ok (ak _))
end kS
namespace bd
abbrev Arg:Type:=Tx×Unit
abbrev Out:Type:=Int×Unit
abbrev ps:PQ:=[(.ro,aX)]
noncomputable def D:FD:={ fn:=f204,tl:=aK,ps:=ps,rs:=[(i64,(ay i64))],gl:=[(61,cr.D.sig),(267,gi.D.sig),(268,ed.D.sig),(269,gj.D.sig),(270,kS.D.sig)],lv:=[(2,[1,12,13,14]),(14,[1,6,41,42,43]),(21,[1,57,58,59])],lx:=[(0,[1]),(2,[1]),(4,[])],od:=[(7,[0,1,2,3,4,5]),(25,[0,1,2,3,4,5])] }
noncomputable def ab (a:Arg):Option Out:=@lift Out fun k=>D.W k a
noncomputable def T0 (a1:Arg) (J:Int):St:={ n:=77,sl:=[(1,.box aX (ay aX) [] a1.1),(12,.val (.U au) a1.1.2.1),(13,.val i64 (a1.1.2.1.length:Int)),(14,.val i64 J)],vr:=[],av:=[] }
noncomputable def S0 (rec:RT Out) (a1:Arg):(Int)->Option Out:=fun J=>rec (T0 a1 J)
noncomputable def bg (K:KT Out) (a1:Arg):(Unit)->Option Out:=fun z=>K (.exit 0) ({ n:=77,sl:=[(1,.box aX (ay aX) [] a1.1)],vr:=[],av:=[] })
noncomputable def b0 (self:Int->Option Out) (e0:(Unit)->Option Out) (a1:Arg) (J:Int):Option Out:=bif decide (J < (a1.1.2.1.length:Int)) then (if 0<=J then ((a1.1.2.1[J.toNat]?).bind fun aC=>(gi.ab (aC,())).bind fun bS=>bif !decide (bS.1=(0:Int)) then (some (bS.1,())) else (gj.ab (aC,())).bind fun gA=>(ed.ab (a1.1.2.2.2.1,gA.1,())).bind fun lC=>bif !lC.1 then (some ((8:Int),())) else self (ae (J+(1:Int)))) else none) else e0 ()
noncomputable abbrev B0 (_:Nat):=b0
theorem fA (k:Nat) (rec:RT Out) (K:KT Out) (a1:Arg) (J:Int):D.N k [1,0,1,0,0] (T0 a1 J) (c9 rec (bY [1,12,13,14] []) K)=b0 (S0 rec a1) (bg K a1) a1 J:=by kernel_rfl
noncomputable def T1 (a1:Arg) (ba:Int×Int):St:={ n:=77,sl:=[(1,.box aX (ay aX) [] a1.1),(6,.val i64 ba.1),(41,.val (.U i64) a1.1.2.2.1),(42,.val i64 (a1.1.2.2.1.length:Int)),(43,.val i64 ba.2)],vr:=[],av:=[] }
noncomputable def S1 (rec:RT Out) (a1:Arg):(Int×Int)->Option Out:=fun ba=>rec (T1 a1 ba)
noncomputable def dA (K:KT Out) (a1:Arg):(Unit)->Option Out:=fun z=>K (.exit 2) ({ n:=77,sl:=[(1,.box aX (ay aX) [] a1.1)],vr:=[],av:=[] })
noncomputable def b1 (self:(Int×Int)->Option Out) (e2:(Unit)->Option Out) (a1:Arg) (ba:Int×Int):Option Out:=bif decide (ba.2 < (a1.1.2.2.1.length:Int)) then (if 0<=ba.2 then ((a1.1.2.2.1[ba.2.toNat]?).bind fun rQ=>(cr.ab (rQ,ba.1,(a1.1.2.1.length:Int),())).bind fun qk=>bif !qk.1 then (some ((3:Int),())) else self (rQ,ae (ba.2+(1:Int)))) else none) else e2 ()
noncomputable abbrev B1 (_:Nat):=b1
theorem lR (k:Nat) (rec:RT Out) (K:KT Out) (a1:Arg) (ba:Int×Int):D.N k [1,1,1,1,0,1,0,0] (T1 a1 ba) (c9 rec (bY [1,6,41,42,43] []) K)=b1 (S1 rec a1) (dA K a1) a1 ba:=by kernel_rfl
noncomputable def T2 (a1:Arg) (f8:Int):St:={ n:=77,sl:=[(1,.box aX (ay aX) [] a1.1),(57,.val (.U aF) a1.1.2.2.2.1),(58,.val i64 (a1.1.2.2.2.1.length:Int)),(59,.val i64 f8)],vr:=[],av:=[] }
noncomputable def b2 (self:Int->Option Out) (e4:(Unit)->Option Out) (a1:Arg) (f8:Int):Option Out:=bif decide (f8 < (a1.1.2.2.2.1.length:Int)) then (if 0<=f8 then ((a1.1.2.2.2.1[f8.toNat]?).bind fun tJ=>(kS.ab (tJ.1,tJ.2.1,())).bind fun Gj=>bif !Gj.1 then (some ((3:Int),())) else if 0<=f8/\f8<=(a1.1.2.2.2.1.length:Int) then ((ed.ab ((a1.1.2.2.2.1.take f8.toNat).drop 0,tJ,())).bind fun OY=>bif OY.1 then (some ((6:Int),())) else self (ae (f8+(1:Int)))) else none) else none) else e4 ()
noncomputable abbrev B2 (_:Nat):=b2
noncomputable def q2 (a1:Arg) (nf:(Unit)):Option Out:=some ((0:Int),())
noncomputable abbrev Q2 (_:Nat):=q2
noncomputable def s2 (k:Nat) (a1:Arg):(Int)->Option Out:=fun f8=>D.L k [1,1,1,1,1,0,1,0,0] [1,57,58,59] [] (af 4 (an (D.N k [1,1,1,1,1,1]) D.K0)) (T2 a1 f8)
noncomputable def r2 (k:Nat) (a1:Arg):(Int)->Option Out:=al (fun w v=>B2 k w (Q2 k a1) a1 v) k
theorem kO (k:Nat) (a1:Arg):s2 k a1=r2 k a1:=
 funext fun f8=>am _ _ _ (T2 a1) _ (fun rec v=>by kernel_rfl) k f8
noncomputable def q1 (l2:(Int)->Option Out) (a1:Arg) (tG:(Unit)):Option Out:=l2 (0:Int)
noncomputable def Q1 (k:Nat) (a1:Arg) (tG:(Unit)):Option Out:=q1 (r2 k a1) a1 tG
theorem lS (k:Nat) (a1:Arg) (tG:(Unit)):dA (af 2 (an (D.N k [1,1,1,1,1]) D.K0)) a1 tG=Q1 k a1 tG:=
 Eq.trans (b:=q1 (s2 k a1) a1 tG) (by kernel_rfl) (by rw[kO];rfl)
noncomputable def s1 (k:Nat) (a1:Arg):(Int×Int)->Option Out:=fun ba=>D.L k [1,1,1,1,0,1,0,0] [1,6,41,42,43] [] (af 2 (an (D.N k [1,1,1,1,1]) D.K0)) (T1 a1 ba)
noncomputable def r1 (k:Nat) (a1:Arg):(Int×Int)->Option Out:=al (fun w v=>B1 k w (Q1 k a1) a1 v) k
theorem fB (k:Nat) (a1:Arg):s1 k a1=r1 k a1:=by
 funext ba;
 have Y:dA (af 2 (an (D.N k [1,1,1,1,1]) D.K0)) a1=Q1 k a1:=funext fun z=>lS k a1 z
 refine (am _ _ _ (T1 a1) (fun self v=>B1 k self (dA (af 2 (an (D.N k [1,1,1,1,1]) D.K0)) a1) a1 v) (fun rec v=>lR k rec (af 2 (an (D.N k [1,1,1,1,1]) D.K0)) a1 v) k ba).trans ?_
 rw[Y]
 rfl
noncomputable def q0 (l1:(Int×Int)->Option Out) (a1:Arg) (gI:(Unit)):Option Out:=bif decide ((8:Int) < (a1.1.2.2.1.length:Int)) then (some ((2:Int),())) else bif decide ((12:Int) < (a1.1.2.2.2.1.length:Int)) then (some ((2:Int),())) else l1 ((0:Int),(0:Int))
noncomputable def Q0 (k:Nat) (a1:Arg) (gI:(Unit)):Option Out:=q0 (r1 k a1) a1 gI
theorem jS (k:Nat) (a1:Arg) (gI:(Unit)):bg (af 0 (an (D.N k [1,1]) D.K0)) a1 gI=Q0 k a1 gI:=
 Eq.trans (b:=q0 (s1 k a1) a1 gI) (by kernel_rfl) (by rw[fB];rfl)
noncomputable def s0 (k:Nat) (a1:Arg):(Int)->Option Out:=fun J=>D.L k [1,0,1,0,0] [1,12,13,14] [] (af 0 (an (D.N k [1,1]) D.K0)) (T0 a1 J)
noncomputable def r0 (k:Nat) (a1:Arg):(Int)->Option Out:=al (fun w v=>B0 k w (Q0 k a1) a1 v) k
theorem ap (k:Nat) (a1:Arg):s0 k a1=r0 k a1:=by
 funext J;
 have h0:bg (af 0 (an (D.N k [1,1]) D.K0)) a1=Q0 k a1:=funext fun z=>jS k a1 z
 refine (am _ _ _ (T0 a1) (fun self v=>B0 k self (bg (af 0 (an (D.N k [1,1]) D.K0)) a1) a1 v) (fun rec v=>fA k rec (af 0 (an (D.N k [1,1]) D.K0)) a1 v) k J).trans ?_
 rw[h0]
 rfl
noncomputable def p (l0:(Int)->Option Out) (a1:Arg):Option Out:=l0 (0:Int)
theorem aa (k:Nat) (a1:Arg):@Eq (Option Out) (D.W k a1) (p (r0 k a1) a1):=
 Eq.trans (b:=p (s0 k a1) a1) (by kernel_rfl) (by rw[ap])
theorem ok:Ok prog 204 D.sig:=ao func204 aB (by kernel_rfl) (fc cr.ok (fc gi.ok (fc ed.ok (fc gj.ok (fc kS.ok (ak _))))))
end bd
namespace gq
abbrev Arg:Type:=(List Tx)×Unit
abbrev Out:Type:=Int×Unit
abbrev ps:PQ:=[(.ro,(.U aX))]
noncomputable def D:FD:={ fn:=f205,tl:=aK,ps:=ps,rs:=[(i64,(ay i64))],lv:=[(3,[3,6,7,8])],lx:=[(0,[3])] }
noncomputable def ab (a:Arg):Option Out:=@lift Out fun k=>D.W k a
noncomputable def T0 (a1:Arg) (J:Int×Int):St:={ n:=19,sl:=[(3,.val i64 J.1),(6,.val (.U aX) a1.1),(7,.val i64 (a1.1.length:Int)),(8,.val i64 J.2)],vr:=[],av:=[] }
noncomputable def b0 (self:(Int×Int)->Option Out) (e0:Int->Option Out) (a1:Arg) (J:Int×Int):Option Out:=bif decide (J.2 < (a1.1.length:Int)) then (if 0<=J.2 then ((a1.1[J.2.toNat]?).bind fun aC=>self (ae (J.1+(aC.2.1.length:Int)),ae (J.2+(1:Int)))) else none) else e0 J.1
noncomputable abbrev B0 (_:Nat):=b0
noncomputable def q0 (a1:Arg) (jR:Int):Option Out:=some (jR,())
noncomputable abbrev Q0 (_:Nat):=q0
noncomputable def s0 (k:Nat) (a1:Arg):(Int×Int)->Option Out:=fun J=>D.L k [1,1,0,1,0,0] [3,6,7,8] [] (af 0 (an (D.N k [1,1,1]) D.K0)) (T0 a1 J)
noncomputable def r0 (k:Nat) (a1:Arg):(Int×Int)->Option Out:=al (fun w v=>B0 k w (Q0 k a1) a1 v) k
theorem ap (k:Nat) (a1:Arg):s0 k a1=r0 k a1:=
 funext fun J=>am _ _ _ (T0 a1) _ (fun rec v=>by kernel_rfl) k J
noncomputable def p (l0:(Int×Int)->Option Out) (a1:Arg):Option Out:=l0 ((0:Int),(0:Int))
theorem aa (k:Nat) (a1:Arg):@Eq (Option Out) (D.W k a1) (p (r0 k a1) a1):=
 Eq.trans (b:=p (s0 k a1) a1) (by kernel_rfl) (by rw[ap])
theorem ok:Ok prog 205 D.sig:=ao func205 aB (by kernel_rfl) (ak _)
end gq
namespace aY
abbrev Arg:Type:=(List Tx)×Unit
abbrev Out:Type:=Int×Unit
abbrev ps:PQ:=[(.ro,(.U aX))]
noncomputable def D:FD:={ fn:=f133,tl:=aK,ps:=ps,rs:=[(i64,(ay i64))],gl:=[(203,jt.D.sig),(204,bd.D.sig),(205,gq.D.sig)],lv:=[(4,[0,14,15,16]),(16,[0,6,45,46,47]),(19,[0,6,45,46,47,52,53,54])],lx:=[(0,[0]),(2,[0]),(4,[0,6,45,46,47])],od:=[(8,[0,1,2,3,4,5,6,7,8,9,10,11,12])] }
noncomputable def ab (a:Arg):Option Out:=@lift Out fun k=>D.W k a
noncomputable def T0 (a1:Arg) (J:Int):St:={ n:=68,sl:=[(0,.val (.U aX) a1.1),(14,.val (.U aX) a1.1),(15,.val i64 (a1.1.length:Int)),(16,.val i64 J)],vr:=[],av:=[] }
noncomputable def S0 (rec:RT Out) (a1:Arg):(Int)->Option Out:=fun J=>rec (T0 a1 J)
noncomputable def bg (K:KT Out) (a1:Arg):(Unit)->Option Out:=fun z=>K (.exit 0) ({ n:=68,sl:=[(0,.val (.U aX) a1.1)],vr:=[],av:=[] })
noncomputable def b0 (self:Int->Option Out) (e0:(Unit)->Option Out) (a1:Arg) (J:Int):Option Out:=bif decide (J < (a1.1.length:Int)) then (if 0<=J then ((a1.1[J.toNat]?).bind fun aC=>(jt.ab (aC.1,())).bind fun bS=>bif !bS.1 then (some ((3:Int),())) else bif decide ((0:Int) < J) then (if 0<=ae (J - (1:Int)) then ((a1.1[(ae (J - (1:Int))).toNat]?).bind fun db=>bif decide (aC.1<=db.1) then (some ((1:Int),())) else (bd.ab (aC,())).bind fun iS=>bif !decide (iS.1=(0:Int)) then (some (iS.1,())) else self (ae (J+(1:Int)))) else none) else (bd.ab (aC,())).bind fun zy=>bif !decide (zy.1=(0:Int)) then (some (zy.1,())) else self (ae (J+(1:Int)))) else none) else e0 ()
noncomputable abbrev B0 (_:Nat):=b0
theorem fA (k:Nat) (rec:RT Out) (K:KT Out) (a1:Arg) (J:Int):D.N k [1,1,0,1,0,0] (T0 a1 J) (c9 rec (bY [0,14,15,16] []) K)=b0 (S0 rec a1) (bg K a1) a1 J:=by kernel_rfl
noncomputable def T1 (a1:Arg) (cG:(List Tx)×(List (Key×Bool))×(List Tx)×Int×Int):St:={ n:=68,sl:=[(0,.val (.U aX) cG.1),(6,.own (.map aF .bool) (aq (.map aF .bool)) [] cG.2.1),(45,.val (.U aX) cG.2.2.1),(46,.val i64 cG.2.2.2.1),(47,.val i64 cG.2.2.2.2)],vr:=[],av:=[] }
noncomputable def S1 (rec:RT Out) (a1:Arg):((List Tx)×(List (Key×Bool))×(List Tx)×Int×Int)->Option Out:=fun cG=>rec (T1 a1 cG)
noncomputable def dA (K:KT Out) (a1:Arg):(List Tx)->Option Out:=fun z=>K (.exit 2) ({ n:=68,sl:=[(0,.val (.U aX) z)],vr:=[],av:=[] })
noncomputable def T2 (a1:Arg) (bA:List Tx) (iq:List Tx) (ir:Int) (it:Int) (iu:List Key) (oL:Int) (f8:(List (Key×Bool))×Int):St:={ n:=68,sl:=[(0,.val (.U aX) bA),(6,.own (.map aF .bool) (aq (.map aF .bool)) [] f8.1),(45,.val (.U aX) iq),(46,.val i64 ir),(47,.val i64 it),(52,.val (.U aF) iu),(53,.val i64 oL),(54,.val i64 f8.2)],vr:=[],av:=[] }
noncomputable def b2 (self:((List (Key×Bool))×Int)->Option Out) (e4:(List (Key×Bool))->Option Out) (a1:Arg) (bA:List Tx) (iq:List Tx) (ir:Int) (it:Int) (iu:List Key) (oL:Int) (f8:(List (Key×Bool))×Int):Option Out:=bif decide (f8.2 < oL) then (if 0<=f8.2 then ((iu[f8.2.toNat]?).bind fun Gn=>bif qH (dq aF f8.1 Gn) false then (some ((7:Int),())) else self (gH aF f8.1 Gn true,ae (f8.2+(1:Int)))) else none) else e4 f8.1
noncomputable abbrev B2 (_:Nat):=b2
noncomputable def q1 (self:((List Tx)×(List (Key×Bool))×(List Tx)×Int×Int)->Option Out) (e2:(List Tx)->Option Out) (a1:Arg) (bA:List Tx) (iq:List Tx) (ir:Int) (it:Int) (iu:List Key) (oL:Int) (Gp:(List (Key×Bool))):Option Out:=self (bA,Gp,iq,ir,ae (it+(1:Int)))
noncomputable abbrev Q1 (_:Nat):=q1
noncomputable def s2 (k:Nat) (rec:RT Out) (K:KT Out) (a1:Arg):(List Tx)->(List Tx)->Int->Int->(List Key)->Int->((List (Key×Bool))×Int)->Option Out:=fun bA iq ir it iu oL=>fun f8=>D.L k [1,1,1,1,0,1,0,0,1,1,0,0,1,1,0,0] [0,6,45,46,47,52,53,54] [] (af 4 (af 3 (an (D.N k [1,1,1,1,0,1,0,0,1,1,1]) (c9 rec (bY [0,6,45,46,47] []) K)))) (T2 a1 bA iq ir it iu oL f8)
noncomputable def r2 (k:Nat) (self:((List Tx)×(List (Key×Bool))×(List Tx)×Int×Int)->Option Out) (e2:(List Tx)->Option Out) (a1:Arg):(List Tx)->(List Tx)->Int->Int->(List Key)->Int->((List (Key×Bool))×Int)->Option Out:=fun bA iq ir it iu oL=>al (fun w v=>B2 k w (Q1 k self e2 a1 bA iq ir it iu oL) a1 bA iq ir it iu oL v) k
theorem kO (k:Nat) (rec:RT Out) (K:KT Out) (a1:Arg):s2 k rec K a1=r2 k (S1 rec a1) (dA K a1) a1:=
 funext fun bA=>funext fun iq=>funext fun ir=>funext fun it=>funext fun iu=>funext fun oL=>funext fun f8=>am _ _ _ (T2 a1 bA iq ir it iu oL) _ (fun rec v=>by kernel_rfl) k f8
noncomputable def b1 (self:((List Tx)×(List (Key×Bool))×(List Tx)×Int×Int)->Option Out) (e2:(List Tx)->Option Out) (l2:(List Tx)->(List Tx)->Int->Int->(List Key)->Int->((List (Key×Bool))×Int)->Option Out) (a1:Arg) (cG:(List Tx)×(List (Key×Bool))×(List Tx)×Int×Int):Option Out:=bif decide (cG.2.2.2.2 < cG.2.2.2.1) then (if 0<=cG.2.2.2.2 then ((cG.2.2.1[cG.2.2.2.2.toNat]?).bind fun wh=>l2 cG.1 cG.2.2.1 cG.2.2.2.1 cG.2.2.2.2 wh.2.2.2.1 (wh.2.2.2.1.length:Int) (cG.2.1,(0:Int))) else none) else e2 cG.1
noncomputable def B1 (k:Nat) (self:((List Tx)×(List (Key×Bool))×(List Tx)×Int×Int)->Option Out) (e2:(List Tx)->Option Out) (a1:Arg) (cG:(List Tx)×(List (Key×Bool))×(List Tx)×Int×Int):Option Out:=b1 self e2 (r2 k self e2 a1) a1 cG
theorem lR (k:Nat) (rec:RT Out) (K:KT Out) (a1:Arg) (cG:(List Tx)×(List (Key×Bool))×(List Tx)×Int×Int):D.N k [1,1,1,1,0,1,0,0] (T1 a1 cG) (c9 rec (bY [0,6,45,46,47] []) K)=B1 k (S1 rec a1) (dA K a1) a1 cG:=
 Eq.trans (b:=b1 (S1 rec a1) (dA K a1) (s2 k rec K a1) a1 cG) (by kernel_rfl) (by rw[kO];rfl)
noncomputable def q2 (a1:Arg) (nF:(List Tx)):Option Out:=(gq.ab (nF,())).bind fun OZ=>bif decide ((12:Int) < OZ.1) then (some ((2:Int),())) else some ((0:Int),())
noncomputable abbrev Q2 (_:Nat):=q2
theorem ng (k:Nat) (a1:Arg) (nF:(List Tx)):dA (af 2 (an (D.N k [1,1,1,1,1]) D.K0)) a1 nF=q2 a1 nF:=by kernel_rfl
noncomputable def s1 (k:Nat) (a1:Arg):((List Tx)×(List (Key×Bool))×(List Tx)×Int×Int)->Option Out:=fun cG=>D.L k [1,1,1,1,0,1,0,0] [0,6,45,46,47] [] (af 2 (an (D.N k [1,1,1,1,1]) D.K0)) (T1 a1 cG)
noncomputable def r1 (k:Nat) (a1:Arg):((List Tx)×(List (Key×Bool))×(List Tx)×Int×Int)->Option Out:=al (fun w v=>B1 k w (Q2 k a1) a1 v) k
theorem fB (k:Nat) (a1:Arg):s1 k a1=r1 k a1:=by
 funext cG;
 have Y:dA (af 2 (an (D.N k [1,1,1,1,1]) D.K0)) a1=Q2 k a1:=funext fun z=>ng k a1 z
 refine (am _ _ _ (T1 a1) (fun self v=>B1 k self (dA (af 2 (an (D.N k [1,1,1,1,1]) D.K0)) a1) a1 v) (fun rec v=>lR k rec (af 2 (an (D.N k [1,1,1,1,1]) D.K0)) a1 v) k cG).trans ?_
 rw[Y]
 rfl
noncomputable def q0 (l1:((List Tx)×(List (Key×Bool))×(List Tx)×Int×Int)->Option Out) (a1:Arg) (tM:(Unit)):Option Out:=l1 (a1.1,([]:List (Key×Bool)),a1.1,(a1.1.length:Int),(0:Int))
noncomputable def Q0 (k:Nat) (a1:Arg) (tM:(Unit)):Option Out:=q0 (r1 k a1) a1 tM
theorem jS (k:Nat) (a1:Arg) (tM:(Unit)):bg (af 0 (an (D.N k [1,1,1]) D.K0)) a1 tM=Q0 k a1 tM:=
 Eq.trans (b:=q0 (s1 k a1) a1 tM) (by kernel_rfl) (by rw[fB];rfl)
noncomputable def s0 (k:Nat) (a1:Arg):(Int)->Option Out:=fun J=>D.L k [1,1,0,1,0,0] [0,14,15,16] [] (af 0 (an (D.N k [1,1,1]) D.K0)) (T0 a1 J)
noncomputable def r0 (k:Nat) (a1:Arg):(Int)->Option Out:=al (fun w v=>B0 k w (Q0 k a1) a1 v) k
theorem ap (k:Nat) (a1:Arg):s0 k a1=r0 k a1:=by
 funext J;
 have h0:bg (af 0 (an (D.N k [1,1,1]) D.K0)) a1=Q0 k a1:=funext fun z=>jS k a1 z
 refine (am _ _ _ (T0 a1) (fun self v=>B0 k self (bg (af 0 (an (D.N k [1,1,1]) D.K0)) a1) a1 v) (fun rec v=>fA k rec (af 0 (an (D.N k [1,1,1]) D.K0)) a1 v) k J).trans ?_
 rw[h0]
 rfl
noncomputable def p (l0:(Int)->Option Out) (a1:Arg):Option Out:=bif decide ((4:Int) < (a1.1.length:Int)) then (some ((2:Int),())) else l0 (0:Int)
theorem aa (k:Nat) (a1:Arg):@Eq (Option Out) (D.W k a1) (p (r0 k a1) a1):=
 Eq.trans (b:=p (s0 k a1) a1) (by kernel_rfl) (by rw[ap])
theorem ok:Ok prog 133 D.sig:=ao func133 aB (by kernel_rfl) (fc jt.ok (fc bd.ok (fc gq.ok (ak _))))
end aY
namespace bD
abbrev Arg:Type:=(List Row)×(List Tx)×Unit
abbrev Out:Type:=(List (Key×Bool))×Unit
abbrev ps:PQ:=[(.ro,(.U aw)),(.ro,(.U aX))]
noncomputable def D:FD:={ fn:=f134,tl:=aK,ps:=ps,rs:=[((.map aF .bool),(aq (.map aF .bool)))],lv:=[(3,[1,5,13,14,15]),(8,[5,26,27,28]),(11,[5,26,27,28,33,34,35])],lx:=[(0,[1,5]),(2,[5]),(4,[5,26,27,28])] }
noncomputable def ab (a:Arg):Option Out:=@lift Out fun k=>D.W k a
noncomputable def T0 (a1:Arg) (J:(List (Key×Bool))×Int):St:={ n:=44,sl:=[(1,.val (.U aX) a1.2.1),(5,.own (.map aF .bool) (aq (.map aF .bool)) [] J.1),(13,.val (.U aw) a1.1),(14,.val i64 (a1.1.length:Int)),(15,.val i64 J.2)],vr:=[],av:=[] }
noncomputable def S0 (rec:RT Out) (a1:Arg):((List (Key×Bool))×Int)->Option Out:=fun J=>rec (T0 a1 J)
noncomputable def bg (K:KT Out) (a1:Arg):(List (Key×Bool))->Option Out:=fun z=>K (.exit 0) ({ n:=44,sl:=[(1,.val (.U aX) a1.2.1),(5,.own (.map aF .bool) (aq (.map aF .bool)) [] z)],vr:=[],av:=[] })
noncomputable def b0 (self:((List (Key×Bool))×Int)->Option Out) (e0:(List (Key×Bool))->Option Out) (a1:Arg) (J:(List (Key×Bool))×Int):Option Out:=bif decide (J.2 < (a1.1.length:Int)) then (if 0<=J.2 then ((a1.1[J.2.toNat]?).bind fun aC=>let vv:=gH aF J.1 (aC.1,aC.2.1,()) true;self (vv,ae (J.2+(1:Int)))) else none) else e0 J.1
noncomputable abbrev B0 (_:Nat):=b0
theorem fA (k:Nat) (rec:RT Out) (K:KT Out) (a1:Arg) (J:(List (Key×Bool))×Int):D.N k [1,1,0,1,0,0] (T0 a1 J) (c9 rec (bY [1,5,13,14,15] []) K)=b0 (S0 rec a1) (bg K a1) a1 J:=by kernel_rfl
noncomputable def T1 (a1:Arg) (bI:(List (Key×Bool))×(List Tx)×Int×Int):St:={ n:=44,sl:=[(5,.own (.map aF .bool) (aq (.map aF .bool)) [] bI.1),(26,.val (.U aX) bI.2.1),(27,.val i64 bI.2.2.1),(28,.val i64 bI.2.2.2)],vr:=[],av:=[] }
noncomputable def S1 (rec:RT Out) (a1:Arg):((List (Key×Bool))×(List Tx)×Int×Int)->Option Out:=fun bI=>rec (T1 a1 bI)
noncomputable def dA (K:KT Out) (a1:Arg):(List (Key×Bool))->Option Out:=fun z=>K (.exit 2) ({ n:=44,sl:=[(5,.own (.map aF .bool) (aq (.map aF .bool)) [] z)],vr:=[],av:=[] })
noncomputable def T2 (a1:Arg) (oM:List Tx) (gP:Int) (dL:Int) (cu:List Key) (bA:Int) (nj:(List (Key×Bool))×Int):St:={ n:=44,sl:=[(5,.own (.map aF .bool) (aq (.map aF .bool)) [] nj.1),(26,.val (.U aX) oM),(27,.val i64 gP),(28,.val i64 dL),(33,.val (.U aF) cu),(34,.val i64 bA),(35,.val i64 nj.2)],vr:=[],av:=[] }
noncomputable def b2 (self:((List (Key×Bool))×Int)->Option Out) (e4:(List (Key×Bool))->Option Out) (a1:Arg) (oM:List Tx) (gP:Int) (dL:Int) (cu:List Key) (bA:Int) (nj:(List (Key×Bool))×Int):Option Out:=bif decide (nj.2 < bA) then (if 0<=nj.2 then ((cu[nj.2.toNat]?).bind fun F_=>self (gH aF nj.1 F_ true,ae (nj.2+(1:Int)))) else none) else e4 nj.1
noncomputable abbrev B2 (_:Nat):=b2
noncomputable def q1 (self:((List (Key×Bool))×(List Tx)×Int×Int)->Option Out) (e2:(List (Key×Bool))->Option Out) (a1:Arg) (oM:List Tx) (gP:Int) (dL:Int) (cu:List Key) (bA:Int) (wg:(List (Key×Bool))):Option Out:=self (wg,oM,gP,ae (dL+(1:Int)))
noncomputable abbrev Q1 (_:Nat):=q1
noncomputable def s2 (k:Nat) (rec:RT Out) (K:KT Out) (a1:Arg):(List Tx)->Int->Int->(List Key)->Int->((List (Key×Bool))×Int)->Option Out:=fun oM gP dL cu bA=>fun nj=>D.L k [1,1,1,0,1,0,0,1,1,0,0,1,1,0,0] [5,26,27,28,33,34,35] [] (af 4 (af 3 (an (D.N k [1,1,1,0,1,0,0,1,1,1]) (c9 rec (bY [5,26,27,28] []) K)))) (T2 a1 oM gP dL cu bA nj)
noncomputable def r2 (k:Nat) (self:((List (Key×Bool))×(List Tx)×Int×Int)->Option Out) (e2:(List (Key×Bool))->Option Out) (a1:Arg):(List Tx)->Int->Int->(List Key)->Int->((List (Key×Bool))×Int)->Option Out:=fun oM gP dL cu bA=>al (fun w v=>B2 k w (Q1 k self e2 a1 oM gP dL cu bA) a1 oM gP dL cu bA v) k
theorem kO (k:Nat) (rec:RT Out) (K:KT Out) (a1:Arg):s2 k rec K a1=r2 k (S1 rec a1) (dA K a1) a1:=
 funext fun oM=>funext fun gP=>funext fun dL=>funext fun cu=>funext fun bA=>funext fun nj=>am _ _ _ (T2 a1 oM gP dL cu bA) _ (fun rec v=>by kernel_rfl) k nj
noncomputable def b1 (self:((List (Key×Bool))×(List Tx)×Int×Int)->Option Out) (e2:(List (Key×Bool))->Option Out) (l2:(List Tx)->Int->Int->(List Key)->Int->((List (Key×Bool))×Int)->Option Out) (a1:Arg) (bI:(List (Key×Bool))×(List Tx)×Int×Int):Option Out:=bif decide (bI.2.2.2 < bI.2.2.1) then (if 0<=bI.2.2.2 then ((bI.2.1[bI.2.2.2.toNat]?).bind fun tE=>l2 bI.2.1 bI.2.2.1 bI.2.2.2 tE.2.2.2.1 (tE.2.2.2.1.length:Int) (bI.1,(0:Int))) else none) else e2 bI.1
noncomputable def B1 (k:Nat) (self:((List (Key×Bool))×(List Tx)×Int×Int)->Option Out) (e2:(List (Key×Bool))->Option Out) (a1:Arg) (bI:(List (Key×Bool))×(List Tx)×Int×Int):Option Out:=b1 self e2 (r2 k self e2 a1) a1 bI
theorem lR (k:Nat) (rec:RT Out) (K:KT Out) (a1:Arg) (bI:(List (Key×Bool))×(List Tx)×Int×Int):D.N k [1,1,1,0,1,0,0] (T1 a1 bI) (c9 rec (bY [5,26,27,28] []) K)=B1 k (S1 rec a1) (dA K a1) a1 bI:=
 Eq.trans (b:=b1 (S1 rec a1) (dA K a1) (s2 k rec K a1) a1 bI) (by kernel_rfl) (by rw[kO];rfl)
noncomputable def q2 (a1:Arg) (nf:(List (Key×Bool))):Option Out:=some (nf,())
noncomputable abbrev Q2 (_:Nat):=q2
theorem ng (k:Nat) (a1:Arg) (nf:(List (Key×Bool))):dA (af 2 (an (D.N k [1,1,1,1]) D.K0)) a1 nf=q2 a1 nf:=by kernel_rfl
noncomputable def s1 (k:Nat) (a1:Arg):((List (Key×Bool))×(List Tx)×Int×Int)->Option Out:=fun bI=>D.L k [1,1,1,0,1,0,0] [5,26,27,28] [] (af 2 (an (D.N k [1,1,1,1]) D.K0)) (T1 a1 bI)
noncomputable def r1 (k:Nat) (a1:Arg):((List (Key×Bool))×(List Tx)×Int×Int)->Option Out:=al (fun w v=>B1 k w (Q2 k a1) a1 v) k
theorem fB (k:Nat) (a1:Arg):s1 k a1=r1 k a1:=by
 funext bI;
 have Y:dA (af 2 (an (D.N k [1,1,1,1]) D.K0)) a1=Q2 k a1:=funext fun z=>ng k a1 z
 refine (am _ _ _ (T1 a1) (fun self v=>B1 k self (dA (af 2 (an (D.N k [1,1,1,1]) D.K0)) a1) a1 v) (fun rec v=>lR k rec (af 2 (an (D.N k [1,1,1,1]) D.K0)) a1 v) k bI).trans ?_
 rw[Y]
 rfl
noncomputable def q0 (l1:((List (Key×Bool))×(List Tx)×Int×Int)->Option Out) (a1:Arg) (bG:(List (Key×Bool))):Option Out:=l1 (bG,a1.2.1,(a1.2.1.length:Int),(0:Int))
noncomputable def Q0 (k:Nat) (a1:Arg) (bG:(List (Key×Bool))):Option Out:=q0 (r1 k a1) a1 bG
theorem jS (k:Nat) (a1:Arg) (bG:(List (Key×Bool))):bg (af 0 (an (D.N k [1,1,1]) D.K0)) a1 bG=Q0 k a1 bG:=
 Eq.trans (b:=q0 (s1 k a1) a1 bG) (by kernel_rfl) (by rw[fB];rfl)
noncomputable def s0 (k:Nat) (a1:Arg):((List (Key×Bool))×Int)->Option Out:=fun J=>D.L k [1,1,0,1,0,0] [1,5,13,14,15] [] (af 0 (an (D.N k [1,1,1]) D.K0)) (T0 a1 J)
noncomputable def r0 (k:Nat) (a1:Arg):((List (Key×Bool))×Int)->Option Out:=al (fun w v=>B0 k w (Q0 k a1) a1 v) k
theorem ap (k:Nat) (a1:Arg):s0 k a1=r0 k a1:=by
 funext J;
 have h0:bg (af 0 (an (D.N k [1,1,1]) D.K0)) a1=Q0 k a1:=funext fun z=>jS k a1 z
 refine (am _ _ _ (T0 a1) (fun self v=>B0 k self (bg (af 0 (an (D.N k [1,1,1]) D.K0)) a1) a1 v) (fun rec v=>fA k rec (af 0 (an (D.N k [1,1,1]) D.K0)) a1 v) k J).trans ?_
 rw[h0]
 rfl
noncomputable def p (l0:((List (Key×Bool))×Int)->Option Out) (a1:Arg):Option Out:=l0 (([]:List (Key×Bool)),(0:Int))
theorem aa (k:Nat) (a1:Arg):@Eq (Option Out) (D.W k a1) (p (r0 k a1) a1):=
 Eq.trans (b:=p (s0 k a1) a1) (by kernel_rfl) (by rw[ap])
theorem ok:Ok prog 134 D.sig:=ao func134 aB (by kernel_rfl) (ak _)
end bD
namespace eE
abbrev Arg:Type:=Plain×Unit
abbrev Out:Type:=Int×Unit
abbrev ps:PQ:=[(.ro,dI)]
noncomputable def D:FD:={ fn:=f63,tl:=aK,ps:=ps,rs:=[(i64,(ay i64))],gl:=[(61,cr.D.sig),(114,cV.D.sig),(132,bT.D.sig),(133,aY.D.sig),(134,bD.D.sig)],od:=[(7,[0,1,2,3,4,5,6,7,8,9,10,11,12,13,14,15,16,17,18,19,20,21,22,23])],ar:=[(7,[1,6,11,13,18,20])],bx:=[(7,[1])] }
noncomputable def ab (a:Arg):Option Out:=@lift Out fun k=>D.W k a
noncomputable def p (a1:Arg):Option Out:=(bT.ab (a1.1.1,())).bind fun r2=>bif !decide (r2.1=(0:Int)) then (some (r2.1,())) else (aY.ab (a1.1.2.1,())).bind fun r3=>bif !decide (r3.1=(0:Int)) then (some (r3.1,())) else let j8:Option Out:=(bD.ab (a1.1.1,a1.1.2.1,())).bind fun r9=>bif decide ((12:Int) < (r9.1.length:Int)) then (some ((2:Int),())) else (cV.ab (a1.1.1,a1.1.2.1,())).bind fun CD=>bif !decide (CD.2.1=(0:Int)) then (some ((8:Int),())) else some ((0:Int),());(cr.ab (a1.1.2.2.1,(1:Int),(100:Int),())).bind fun r4=>bif !r4.1 then (some ((3:Int),())) else bif decide ((0:Int) < (a1.1.2.1.length:Int)) then (if 0<=ae ((a1.1.2.1.length:Int) - (1:Int)) then ((a1.1.2.1[(ae ((a1.1.2.1.length:Int) - (1:Int))).toNat]?).bind fun x5=>bif decide (a1.1.2.2.1<=x5.1) then (some ((3:Int),())) else j8) else none) else j8
theorem aa (k:Nat) (a1:Arg):@Eq (Option Out) (D.W k a1) (p a1):=by kernel_rfl
theorem ok:Ok prog 63 D.sig:=ao func63 aB (by kernel_rfl) (fc cr.ok (fc cV.ok (fc bT.ok (fc aY.ok (fc bD.ok (ak _))))))
end eE
namespace fC
abbrev Arg:Type:=(List Seen)×Unit
abbrev Out:Type:=(List Row)×Unit
abbrev ps:PQ:=[(.ro,(.U cN))]
noncomputable def D:FD:={ fn:=f64,tl:=aK,ps:=ps,rs:=[((.U aw),(aq (.U aw)))],lv:=[(3,[3,6,7,8])],lx:=[(0,[3])] }
noncomputable def ab (a:Arg):Option Out:=@lift Out fun k=>D.W k a
noncomputable def T0 (a1:Arg) (J:(List Row)×Int):St:={ n:=19,sl:=[(3,.own (.U aw) (aq (.U aw)) [] J.1),(6,.val (.U cN) a1.1),(7,.val i64 (a1.1.length:Int)),(8,.val i64 J.2)],vr:=[],av:=[] }
noncomputable def b0 (self:((List Row)×Int)->Option Out) (e0:(List Row)->Option Out) (a1:Arg) (J:(List Row)×Int):Option Out:=bif decide (J.2 < (a1.1.length:Int)) then (if 0<=J.2 then ((a1.1[J.2.toNat]?).bind fun aC=>if J.1.length+[aC.1].length<=bm then (self (J.1++[aC.1],ae (J.2+(1:Int)))) else none) else none) else e0 J.1
noncomputable abbrev B0 (_:Nat):=b0
noncomputable def q0 (a1:Arg) (jR:(List Row)):Option Out:=some (jR,())
noncomputable abbrev Q0 (_:Nat):=q0
noncomputable def s0 (k:Nat) (a1:Arg):((List Row)×Int)->Option Out:=fun J=>D.L k [1,1,0,1,0,0] [3,6,7,8] [] (af 0 (an (D.N k [1,1,1]) D.K0)) (T0 a1 J)
noncomputable def r0 (k:Nat) (a1:Arg):((List Row)×Int)->Option Out:=al (fun w v=>B0 k w (Q0 k a1) a1 v) k
theorem ap (k:Nat) (a1:Arg):s0 k a1=r0 k a1:=
 funext fun J=>am _ _ _ (T0 a1) _ (fun rec v=>by kernel_rfl) k J
noncomputable def p (l0:((List Row)×Int)->Option Out) (a1:Arg):Option Out:=l0 (([]:List Row),(0:Int))
theorem aa (k:Nat) (a1:Arg):@Eq (Option Out) (D.W k a1) (p (r0 k a1) a1):=
 Eq.trans (b:=p (s0 k a1) a1) (by kernel_rfl) (by rw[ap])
theorem ok:Ok prog 64 D.sig:=ao func64 aB (by kernel_rfl) (ak _)
end fC
namespace fy
abbrev Arg:Type:=(List (List UInt8))×Unit
abbrev Out:Type:=(List (List UInt8))×Unit
abbrev ps:PQ:=[(.ro,(.U (.U u8)))]
noncomputable def D:FD:={ fn:=f208,tl:=aK,ps:=ps,rs:=[((.U (.U u8)),(.U true (ay (.U u8))))] }
noncomputable def ab (a:Arg):Option Out:=@lift Out fun k=>D.W k a
noncomputable def p (a1:Arg):Option Out:=uF a1.1 (some (([]:List (List UInt8)),())) (if ([]:List (List UInt8)).length+a1.1.length<=bm then (some (([]:List (List UInt8))++a1.1,())) else none)
theorem aa (k:Nat) (a1:Arg):@Eq (Option Out) (D.W k a1) (p a1):=by kernel_rfl
theorem ok:Ok prog 208 D.sig:=ao func208 aB (by kernel_rfl) (ak _)
end fy
namespace ff
abbrev Arg:Type:=UInt8×Unit
abbrev Out:Type:=(List UInt8)×Unit
abbrev ps:PQ:=[(.ro,u8)]
noncomputable def D:FD:={ fn:=f209,tl:=aK,ps:=ps,rs:=[((.U u8),(aq (.U u8)))],lv:=[(3,[0,3,7,8])],lx:=[(0,[3])] }
noncomputable def ab (a:Arg):Option Out:=@lift Out fun k=>D.W k a
noncomputable def T0 (a1:Arg) (J:(List UInt8)×Int):St:={ n:=21,sl:=[(0,.val u8 a1.1),(3,.own (.U u8) (aq (.U u8)) [] J.1),(7,.val i64 ((List.replicate 64 (0:UInt8)).length:Int)),(8,.val i64 J.2)],vr:=[],av:=[] }
noncomputable def b0 (self:((List UInt8)×Int)->Option Out) (e0:(List UInt8)->Option Out) (a1:Arg) (J:(List UInt8)×Int):Option Out:=bif decide (J.2 < ((List.replicate 64 (0:UInt8)).length:Int)) then (if 0<=J.2/\J.2 < (J.1.length:Int) then ((J.1[J.2.toNat]?).bind fun aC=>self (J.1.set J.2.toNat a1.1,ae (J.2+(1:Int)))) else none) else e0 J.1
noncomputable abbrev B0 (_:Nat):=b0
noncomputable def q0 (a1:Arg) (jR:(List UInt8)):Option Out:=if 0<=(0:Int)/\(0:Int) < (jR.length:Int) then ((jR[0]?).bind fun db=>if 0<=(1:Int)/\(1:Int) < ((jR.set 0 (0:UInt8)).length:Int) then (((jR.set 0 (0:UInt8))[1]?).bind fun oJ=>let vu:=(jR.set 0 (0:UInt8)).set 1 (64:UInt8);some (vu,())) else none) else none
noncomputable abbrev Q0 (_:Nat):=q0
noncomputable def s0 (k:Nat) (a1:Arg):((List UInt8)×Int)->Option Out:=fun J=>D.L k [1,1,0,1,0,0] [0,3,7,8] [] (af 0 (an (D.N k [1,1,1]) D.K0)) (T0 a1 J)
noncomputable def r0 (k:Nat) (a1:Arg):((List UInt8)×Int)->Option Out:=al (fun w v=>B0 k w (Q0 k a1) a1 v) k
theorem ap (k:Nat) (a1:Arg):s0 k a1=r0 k a1:=
 funext fun J=>am _ _ _ (T0 a1) _ (fun rec v=>by kernel_rfl) k J
noncomputable def p (l0:((List UInt8)×Int)->Option Out) (a1:Arg):Option Out:=if 0<=(64:Int)/\(64:Int)<=(64:Int)/\(64:Int)<=(bm:Int) then (l0 (List.replicate 64 (0:UInt8),(0:Int))) else none
theorem aa (k:Nat) (a1:Arg):@Eq (Option Out) (D.W k a1) (p (r0 k a1) a1):=
 Eq.trans (b:=p (s0 k a1) a1) (by kernel_rfl) (by rw[ap])
theorem ok:Ok prog 209 D.sig:=ao func209 aB (by kernel_rfl) (ak _)
end ff
namespace eF
abbrev Arg:Type:=(List UInt8)×(List cE)×Unit
abbrev Out:Type:=(List UInt8)×Unit
abbrev ps:PQ:=[(.ro,(.U u8)),(.ro,(.U pe))]
noncomputable def D:FD:={ fn:=f210,tl:=aK,ps:=ps,rs:=[((.U u8),(aq (.U u8)))],gl:=[(159,gK.D.sig)],lv:=[(3,[5,10,11,12])],lx:=[(0,[5])],od:=[(5,[0,1,2,3,4,5,6])] }
noncomputable def ab (a:Arg):Option Out:=@lift Out fun k=>D.W k a
noncomputable def T0 (a1:Arg) (aN:(List UInt8)×Int):St:={ n:=25,sl:=[(5,.own (.U u8) (aq (.U u8)) [] aN.1),(10,.val (.U pe) a1.2.1),(11,.val i64 (a1.2.1.length:Int)),(12,.val i64 aN.2)],vr:=[],av:=[] }
noncomputable def b0 (self:((List UInt8)×Int)->Option Out) (e0:(List UInt8)->Option Out) (a1:Arg) (aN:(List UInt8)×Int):Option Out:=bif decide (aN.2 < (a1.2.1.length:Int)) then (if 0<=aN.2 then ((a1.2.1[aN.2.toNat]?).bind fun bU=>if 0<=bU.1/\bU.1<=(aN.1.length:Int) then (let QS:=lc aN.1 bU.1.toNat (min bU.2.1.length (aN.1.length - bU.1.toNat)) bU.2.1;self (QS,ae (aN.2+(1:Int)))) else none) else none) else e0 aN.1
noncomputable abbrev B0 (_:Nat):=b0
noncomputable def q0 (a1:Arg) (gz:(List UInt8)):Option Out:=some (gz,())
noncomputable abbrev Q0 (_:Nat):=q0
noncomputable def s0 (k:Nat) (a1:Arg):((List UInt8)×Int)->Option Out:=fun aN=>D.L k [1,1,0,1,0,0] [5,10,11,12] [] (af 0 (an (D.N k [1,1,1]) D.K0)) (T0 a1 aN)
noncomputable def r0 (k:Nat) (a1:Arg):((List UInt8)×Int)->Option Out:=al (fun w v=>B0 k w (Q0 k a1) a1 v) k
theorem ap (k:Nat) (a1:Arg):s0 k a1=r0 k a1:=
 funext fun aN=>am _ _ _ (T0 a1) _ (fun rec v=>by kernel_rfl) k aN
noncomputable def p (l0:((List UInt8)×Int)->Option Out) (a1:Arg):Option Out:=(gK.ab (a1.1,())).bind fun r2=>l0 (r2.1,(0:Int))
theorem aa (k:Nat) (a1:Arg):@Eq (Option Out) (D.W k a1) (p (r0 k a1) a1):=
 Eq.trans (b:=p (s0 k a1) a1) (by kernel_rfl) (by rw[ap])
theorem ok:Ok prog 210 D.sig:=ao func210 aB (by kernel_rfl) (fc gK.ok (ak _))
end eF
namespace gS
abbrev Arg:Type:=(List (List UInt8))×aL×Unit
abbrev Out:Type:=(List (List UInt8))×Int×Unit
abbrev ps:PQ:=[(.ro,(.U (.U u8))),(.ro,bQ)]
noncomputable def D:FD:={ fn:=f136,tl:=aK,ps:=ps,rs:=[((.U (.U u8)),(ay (.U (.U u8)))),(i64,(ay i64))],gl:=[(206,gR.D.sig),(208,fy.D.sig),(209,ff.D.sig),(210,eF.D.sig)],od:=[(10,[0,1,2,3,4,5,6,7,8,9,10,11,12])] }
noncomputable def ab (a:Arg):Option Out:=@lift Out fun k=>D.W k a
noncomputable def p (a1:Arg):Option Out:=(gR.ab (a1.2.1.1,())).bind fun r2=>bif !r2.1 then (some (a1.1,(0:Int),())) else bif decide ((a1.1.length:Int) < a1.2.1.2.2.1) then (some (([]:List (List UInt8)),(1:Int),())) else bif decide (a1.2.1.2.2.1=(12:Int)) then (some (([]:List (List UInt8)),(2:Int),())) else (fy.ab (a1.1,())).bind fun r3=>let P2:=fun (p9:List (List UInt8))=>(if 0<=a1.2.1.2.2.1/\a1.2.1.2.2.1 < (p9.length:Int) then ((p9[a1.2.1.2.2.1.toNat]?).bind fun NR=>(eF.ab (NR,a1.2.1.2.2.2.1,())).bind fun Iu=>if 0<=a1.2.1.2.2.1/\a1.2.1.2.2.1 < (p9.length:Int) then ((p9[a1.2.1.2.2.1.toNat]?).bind fun SP=>some (p9.set a1.2.1.2.2.1.toNat Iu.1,(0:Int),())) else none) else none:Option Out);bif decide (a1.2.1.2.2.1=(a1.1.length:Int)) then ((ff.ab ((0:UInt8),())).bind fun r4=>if r3.1.length+[r4.1].length<=bm then (P2 (r3.1++[r4.1])) else none) else P2 r3.1
theorem aa (k:Nat) (a1:Arg):@Eq (Option Out) (D.W k a1) (p a1):=by kernel_rfl
theorem ok:Ok prog 136 D.sig:=ao func136 aB (by kernel_rfl) (fc gR.ok (fc fy.ok (fc ff.ok (fc eF.ok (ak _)))))
end gS
namespace iN
abbrev Arg:Type:=(List aL)×Unit
abbrev Out:Type:=(List (List UInt8))×Int×Unit
abbrev ps:PQ:=[(.ro,(.U bQ))]
noncomputable def D:FD:={ fn:=f65,tl:=aK,ps:=ps,rs:=[((.U (.U u8)),(ay (.U (.U u8)))),(i64,(ay i64))],gl:=[(135,d0.D.sig),(136,gS.D.sig)],lv:=[(3,[4,10,11,12])],lx:=[(0,[4])],lf:=[(3,[(4,(.U false (.U false .leaf)))])] }
noncomputable def ab (a:Arg):Option Out:=@lift Out fun k=>D.W k a
noncomputable def T0 (a1:Arg) (J:(List (List UInt8))×Int):St:={ n:=33,sl:=[(4,.val (.U (.U u8)) J.1),(10,.val (.U bQ) a1.1),(11,.val i64 (a1.1.length:Int)),(12,.val i64 J.2)],vr:=[],av:=[] }
noncomputable def b0 (self:((List (List UInt8))×Int)->Option Out) (e0:(List (List UInt8))->Option Out) (a1:Arg) (J:(List (List UInt8))×Int):Option Out:=bif decide (J.2 < (a1.1.length:Int)) then (if 0<=J.2 then ((a1.1[J.2.toNat]?).bind fun aC=>(d0.ab (aC,())).bind fun bS=>bif !decide (bS.1=(0:Int)) then (some (([]:List (List UInt8)),bS.1,())) else (gS.ab (J.1,aC,())).bind fun gA=>bif !decide (gA.2.1=(0:Int)) then (some (([]:List (List UInt8)),gA.2.1,())) else self (gA.1,ae (J.2+(1:Int)))) else none) else e0 J.1
noncomputable abbrev B0 (_:Nat):=b0
noncomputable def q0 (a1:Arg) (gz:(List (List UInt8))):Option Out:=some (gz,(0:Int),())
noncomputable abbrev Q0 (_:Nat):=q0
noncomputable def s0 (k:Nat) (a1:Arg):((List (List UInt8))×Int)->Option Out:=fun J=>D.L k [1,1,0,1,0,0] [4,10,11,12] [(4,(.U false (.U false .leaf)))] (af 0 (an (D.N k [1,1,1]) D.K0)) (T0 a1 J)
noncomputable def r0 (k:Nat) (a1:Arg):((List (List UInt8))×Int)->Option Out:=al (fun w v=>B0 k w (Q0 k a1) a1 v) k
theorem ap (k:Nat) (a1:Arg):s0 k a1=r0 k a1:=
 funext fun J=>am _ _ _ (T0 a1) _ (fun rec v=>by kernel_rfl) k J
noncomputable def p (l0:((List (List UInt8))×Int)->Option Out) (a1:Arg):Option Out:=l0 (([]:List (List UInt8)),(0:Int))
theorem aa (k:Nat) (a1:Arg):@Eq (Option Out) (D.W k a1) (p (r0 k a1) a1):=
 Eq.trans (b:=p (s0 k a1) a1) (by kernel_rfl) (by rw[ap])
theorem ok:Ok prog 65 D.sig:=ao func65 aB (by kernel_rfl) (fc d0.ok (fc gS.ok (ak _)))
end iN
namespace g_
abbrev Arg:Type:=Log×Unit
abbrev Out:Type:=(List aL)×Unit
abbrev ps:PQ:=[(.ro,eS)]
noncomputable def D:FD:={ fn:=f66,tl:=aK,ps:=ps,rs:=[((.U bQ),(aq (.U bQ)))],gl:=[(125,fe.D.sig)] }
noncomputable def ab (a:Arg):Option Out:=@lift Out fun k=>D.W k a
noncomputable def p (a1:Arg):Option Out:=(fe.ab (a1.1.1,())).bind fun r2=>(fe.ab (a1.1.2.1,())).bind fun r3=>if r2.1.length+r3.1.length<=bm then (some (r2.1++r3.1,())) else none
theorem aa (k:Nat) (a1:Arg):@Eq (Option Out) (D.W k a1) (p a1):=by kernel_rfl
theorem ok:Ok prog 66 D.sig:=ao func66 aB (by kernel_rfl) (fc fe.ok (ak _))
end g_
namespace bF
abbrev Arg:Type:=(List (List UInt8))×(List (List UInt8))×(Nat×Int)×Unit
abbrev Out:Type:=Bool×Unit
abbrev ps:PQ:=[(.ro,(.U (.U u8))),(.ro,(.U (.U u8))),(.fix 138,.fn)]
noncomputable def D:FD:={ fn:=f137,tl:=aK,ps:=ps,rs:=[(.bool,(ay .bool))],gl:=[(138,bB.D.sig)],lv:=[(4,[1,2,15,16,17])],lx:=[(0,[])] }
noncomputable def ab (a:Arg):Option Out:=@lift Out fun k=>D.W k a
noncomputable def T0 (a1:Arg) (J:Int):St:={ n:=32,sl:=[(1,.val (.U (.U u8)) a1.2.1),(2,.val .fn ((138,a1.2.2.1.2):Nat×Int)),(15,.val (.U (.U u8)) a1.1),(16,.val i64 (a1.1.length:Int)),(17,.val i64 J)],vr:=[],av:=[] }
noncomputable def b0 (self:Int->Option Out) (e0:(Unit)->Option Out) (a1:Arg) (J:Int):Option Out:=bif decide (J < (a1.1.length:Int)) then (if 0<=J then ((a1.1[J.toNat]?).bind fun aC=>if 0<=J then ((a1.2.1[J.toNat]?).bind fun bU=>(bB.ab (aC,bU,())).bind fun gA=>bif !gA.1 then (some (false,())) else self (ae (J+(1:Int)))) else none) else none) else e0 ()
noncomputable abbrev B0 (_:Nat):=b0
noncomputable def q0 (a1:Arg) (gz:(Unit)):Option Out:=some (true,())
noncomputable abbrev Q0 (_:Nat):=q0
noncomputable def s0 (k:Nat) (a1:Arg):(Int)->Option Out:=fun J=>D.L k [1,1,0,1,0,0] [1,2,15,16,17] [] (af 0 (an (D.N k [1,1,1]) D.K0)) (T0 a1 J)
noncomputable def r0 (k:Nat) (a1:Arg):(Int)->Option Out:=al (fun w v=>B0 k w (Q0 k a1) a1 v) k
theorem ap (k:Nat) (a1:Arg):s0 k a1=r0 k a1:=
 funext fun J=>am _ _ _ (T0 a1) _ (fun rec v=>by kernel_rfl) k J
noncomputable def p (l0:(Int)->Option Out) (a1:Arg):Option Out:=bif !decide ((a1.1.length:Int)=(a1.2.1.length:Int)) then (some (false,())) else l0 (0:Int)
theorem aa (k:Nat) (a1:Arg):@Eq (Option Out) (D.W k a1) (p (r0 k a1) a1):=
 Eq.trans (b:=p (s0 k a1) a1) (by kernel_rfl) (by rw[ap])
theorem ok:Ok prog 137 D.sig:=ao func137 aB (by kernel_rfl) (fc bB.ok (ak _))
end bF
namespace jb
abbrev Arg:Type:=(List (List UInt8))×(List (List UInt8))×Unit
abbrev Out:Type:=Bool×Unit
abbrev ps:PQ:=[(.ro,(.U (.U u8))),(.ro,(.U (.U u8)))]
noncomputable def D:FD:={ fn:=f67,tl:=aK,ps:=ps,rs:=[(.bool,(ay .bool))],gl:=[(137,bF.D.sig)] }
noncomputable def ab (a:Arg):Option Out:=@lift Out fun k=>D.W k a
noncomputable def p (a1:Arg):Option Out:=(bF.ab (a1.1,a1.2.1,((138,0):Nat×Int),())).bind fun r2=>some (r2.1,())
theorem aa (k:Nat) (a1:Arg):@Eq (Option Out) (D.W k a1) (p a1):=by kernel_rfl
theorem ok:Ok prog 67 D.sig:=ao func67 aB (by kernel_rfl) (fc bF.ok (ak _))
end jb
namespace iy
abbrev Arg:Type:=fN×Unit
abbrev Out:Type:=Int×Unit
abbrev ps:PQ:=[(.ro,co)]
noncomputable def D:FD:={ fn:=f14,tl:=aK,ps:=ps,rs:=[(i64,(ay i64))],gl:=[(60,c8.D.sig),(61,cr.D.sig),(62,bO.D.sig),(63,eE.D.sig),(64,fC.D.sig),(65,iN.D.sig),(66,g_.D.sig),(67,jb.D.sig)],od:=[(13,[0,2,3,4,5,1,6,7,8])] }
noncomputable def ab (a:Arg):Option Out:=@lift Out fun k=>D.W k a
noncomputable def p (a1:Arg):Option Out:=(c8.ab (a1.1.2.2.1,())).bind fun r2=>bif !decide (r2.1=(0:Int)) then (some (r2.1,())) else bif !a1.1.1 then (bif decide ((0:Int) < (a1.1.2.1.length:Int)) then (some ((1:Int),())) else bif decide ((0:Int) < (a1.1.2.2.2.1.length:Int)) then (some ((1:Int),())) else bif decide ((0:Int) < (a1.1.2.2.1.2.1.length:Int)) then (some ((1:Int),())) else (cr.ab (a1.1.2.2.2.2.1,(1:Int),(100:Int),())).bind fun r3=>bif !r3.1 then (some ((3:Int),())) else some ((0:Int),())) else (bO.ab (a1.1.2.1,())).bind fun r4=>bif !decide (r4.2.1=(0:Int)) then (some (r4.2.1,())) else (fC.ab (r4.1,())).bind fun r5=>(eE.ab ((r5.1,a1.1.2.2.2.1,a1.1.2.2.2.2.1,()),())).bind fun r6=>bif !decide (r6.1=(0:Int)) then (some (r6.1,())) else (g_.ab (a1.1.2.2.1,())).bind fun r7=>(iN.ab (r7.1,())).bind fun r8=>bif !decide (r8.2.1=(0:Int)) then (some ((8:Int),())) else (jb.ab (r8.1,a1.1.2.1,())).bind fun r9=>bif !r9.1 then (some ((8:Int),())) else some ((0:Int),())
theorem aa (k:Nat) (a1:Arg):@Eq (Option Out) (D.W k a1) (p a1):=by kernel_rfl
theorem ok:Ok prog 14 D.sig:=ao func14 aB (by kernel_rfl) (fc c8.ok (fc cr.ok (fc bO.ok (fc eE.ok (fc fC.ok (fc iN.ok (fc g_.ok (fc jb.ok (ak _)))))))))
end iy
namespace cJ
abbrev Arg:Type:=(List UInt8)×(List UInt8)×Unit
abbrev Out:Type:=Bool×Unit
abbrev ps:PQ:=[(.ro,(.U u8)),(.ro,(.U u8))]
noncomputable def D:FD:={ fn:=f39,tl:=aK,ps:=ps,rs:=[(.bool,(ay .bool))],lv:=[(4,[0,1,5])],lx:=[(0,[])],od:=[(6,[0,1,2,3,4,5,6,7,8])] }
noncomputable def ab (a:Arg):Option Out:=@lift Out fun k=>D.W k a
noncomputable def T0 (a1:Arg) (J:Int):St:={ n:=26,sl:=[(0,.val (.U u8) a1.1),(1,.val (.U u8) a1.2.1),(5,.val i64 J)],vr:=[],av:=[] }
noncomputable def b0 (self:Int->Option Out) (e0:(Unit)->Option Out) (a1:Arg) (J:Int):Option Out:=bif decide (J < (a1.1.length:Int)) then (if 0<=J then ((a1.1[J.toNat]?).bind fun aC=>if 0<=J then ((a1.2.1[J.toNat]?).bind fun bU=>bif !decide ((aC.toNat:Int)=(bU.toNat:Int)) then (some (false,())) else self (ae (J+(1:Int)))) else none) else none) else e0 ()
noncomputable abbrev B0 (_:Nat):=b0
noncomputable def q0 (a1:Arg) (bG:(Unit)):Option Out:=some (true,())
noncomputable abbrev Q0 (_:Nat):=q0
noncomputable def s0 (k:Nat) (a1:Arg):(Int)->Option Out:=fun J=>D.L k [1,1,0,1,0,0] [0,1,5] [] (af 0 (an (D.N k [1,1,1]) D.K0)) (T0 a1 J)
noncomputable def r0 (k:Nat) (a1:Arg):(Int)->Option Out:=al (fun w v=>B0 k w (Q0 k a1) a1 v) k
theorem ap (k:Nat) (a1:Arg):s0 k a1=r0 k a1:=
 funext fun J=>am _ _ _ (T0 a1) _ (fun rec v=>by kernel_rfl) k J
noncomputable def p (l0:(Int)->Option Out) (a1:Arg):Option Out:=bif !decide ((a1.1.length:Int)=(a1.2.1.length:Int)) then (some (false,())) else l0 (0:Int)
theorem aa (k:Nat) (a1:Arg):@Eq (Option Out) (D.W k a1) (p (r0 k a1) a1):=
 Eq.trans (b:=p (s0 k a1) a1) (by kernel_rfl) (by rw[ap])
theorem ok:Ok prog 39 D.sig:=ao func39 aB (by kernel_rfl) (ak _)
end cJ
namespace dF
abbrev Arg:Type:=(List (List UInt8))×(List (List UInt8))×Unit
abbrev Out:Type:=Bool×Unit
abbrev ps:PQ:=[(.ro,(.U (.U u8))),(.ro,(.U (.U u8)))]
noncomputable def D:FD:={ fn:=f68,tl:=aK,ps:=ps,rs:=[(.bool,(ay .bool))],gl:=[(39,cJ.D.sig)],lv:=[(4,[0,1,5])],lx:=[(0,[])],od:=[(6,[0,1,2,3,4,5,6,7,8,9])] }
noncomputable def ab (a:Arg):Option Out:=@lift Out fun k=>D.W k a
noncomputable def T0 (a1:Arg) (J:Int):St:={ n:=27,sl:=[(0,.val (.U (.U u8)) a1.1),(1,.val (.U (.U u8)) a1.2.1),(5,.val i64 J)],vr:=[],av:=[] }
noncomputable def b0 (self:Int->Option Out) (e0:(Unit)->Option Out) (a1:Arg) (J:Int):Option Out:=bif decide (J < (a1.1.length:Int)) then (if 0<=J then ((a1.1[J.toNat]?).bind fun aC=>if 0<=J then ((a1.2.1[J.toNat]?).bind fun bU=>(cJ.ab (aC,bU,())).bind fun gA=>bif !gA.1 then (some (false,())) else self (ae (J+(1:Int)))) else none) else none) else e0 ()
noncomputable abbrev B0 (_:Nat):=b0
noncomputable def q0 (a1:Arg) (gz:(Unit)):Option Out:=some (true,())
noncomputable abbrev Q0 (_:Nat):=q0
noncomputable def s0 (k:Nat) (a1:Arg):(Int)->Option Out:=fun J=>D.L k [1,1,0,1,0,0] [0,1,5] [] (af 0 (an (D.N k [1,1,1]) D.K0)) (T0 a1 J)
noncomputable def r0 (k:Nat) (a1:Arg):(Int)->Option Out:=al (fun w v=>B0 k w (Q0 k a1) a1 v) k
theorem ap (k:Nat) (a1:Arg):s0 k a1=r0 k a1:=
 funext fun J=>am _ _ _ (T0 a1) _ (fun rec v=>by kernel_rfl) k J
noncomputable def p (l0:(Int)->Option Out) (a1:Arg):Option Out:=bif !decide ((a1.1.length:Int)=(a1.2.1.length:Int)) then (some (false,())) else l0 (0:Int)
theorem aa (k:Nat) (a1:Arg):@Eq (Option Out) (D.W k a1) (p (r0 k a1) a1):=
 Eq.trans (b:=p (s0 k a1) a1) (by kernel_rfl) (by rw[ap])
theorem ok:Ok prog 68 D.sig:=ao func68 aB (by kernel_rfl) (fc cJ.ok (ak _))
end dF
namespace kT
abbrev Arg:Type:=Log×Log×Unit
abbrev Out:Type:=Bool×Unit
abbrev ps:PQ:=[(.ro,eS),(.ro,eS)]
noncomputable def D:FD:={ fn:=f69,tl:=aK,ps:=ps,rs:=[(.bool,(ay .bool))],gl:=[(39,cJ.D.sig)] }
noncomputable def ab (a:Arg):Option Out:=@lift Out fun k=>D.W k a
noncomputable def p (a1:Arg):Option Out:=(cJ.ab (a1.1.1,a1.2.1.1,())).bind fun r2=>bif !r2.1 then (some (false,())) else (cJ.ab (a1.1.2.1,a1.2.1.2.1,())).bind fun r3=>bif !r3.1 then (some (false,())) else some (true,())
theorem aa (k:Nat) (a1:Arg):@Eq (Option Out) (D.W k a1) (p a1):=by kernel_rfl
theorem ok:Ok prog 69 D.sig:=ao func69 aB (by kernel_rfl) (fc cJ.ok (ak _))
end kT
namespace gT
abbrev Arg:Type:=Row×Row×Unit
abbrev Out:Type:=Bool×Unit
abbrev ps:PQ:=[(.ro,aw),(.ro,aw)]
noncomputable def D:FD:={ fn:=f153,tl:=aK,ps:=ps,rs:=[(.bool,(ay .bool))] }
noncomputable def ab (a:Arg):Option Out:=@lift Out fun k=>D.W k a
noncomputable def p (a1:Arg):Option Out:=bif !decide (a1.1.1=a1.2.1.1) then (some (false,())) else bif !decide (a1.1.2.1=a1.2.1.2.1) then (some (false,())) else bif !decide (a1.1.2.2.1=a1.2.1.2.2.1) then (some (false,())) else bif !decide (a1.1.2.2.2.1=a1.2.1.2.2.2.1) then (some (false,())) else some (true,())
theorem aa (k:Nat) (a1:Arg):@Eq (Option Out) (D.W k a1) (p a1):=by kernel_rfl
theorem ok:Ok prog 153 D.sig:=ao func153 aB (by kernel_rfl) (ak _)
end gT
namespace iP
abbrev Arg:Type:=Change×Change×Unit
abbrev Out:Type:=Bool×Unit
abbrev ps:PQ:=[(.ro,au),(.ro,au)]
noncomputable def D:FD:={ fn:=f244,tl:=aK,ps:=ps,rs:=[(.bool,(ay .bool))],gl:=[(153,gT.D.sig)] }
noncomputable def ab (a:Arg):Option Out:=@lift Out fun k=>D.W k a
noncomputable def p (a1:Arg):Option Out:=bif !(a1.1.1 == a1.2.1.1) then (some (false,())) else (gT.ab (a1.1.2.1,a1.2.1.2.1,())).bind fun r2=>bif !r2.1 then (some (false,())) else bif !(a1.1.2.2.1 == a1.2.1.2.2.1) then (some (false,())) else (gT.ab (a1.1.2.2.2.1,a1.2.1.2.2.2.1,())).bind fun r3=>bif !r3.1 then (some (false,())) else some (true,())
theorem aa (k:Nat) (a1:Arg):@Eq (Option Out) (D.W k a1) (p a1):=by kernel_rfl
theorem ok:Ok prog 244 D.sig:=ao func244 aB (by kernel_rfl) (fc gT.ok (ak _))
end iP
namespace cW
abbrev Arg:Type:=(List Change)×(List Change)×Unit
abbrev Out:Type:=Bool×Unit
abbrev ps:PQ:=[(.ro,(.U au)),(.ro,(.U au))]
noncomputable def D:FD:={ fn:=f173,tl:=aK,ps:=ps,rs:=[(.bool,(ay .bool))],gl:=[(244,iP.D.sig)],lv:=[(4,[0,1,5])],lx:=[(0,[])],od:=[(6,[0,1,2,3,4,5,6,7,8,9])] }
noncomputable def ab (a:Arg):Option Out:=@lift Out fun k=>D.W k a
noncomputable def T0 (a1:Arg) (J:Int):St:={ n:=27,sl:=[(0,.val (.U au) a1.1),(1,.val (.U au) a1.2.1),(5,.val i64 J)],vr:=[],av:=[] }
noncomputable def b0 (self:Int->Option Out) (e0:(Unit)->Option Out) (a1:Arg) (J:Int):Option Out:=bif decide (J < (a1.1.length:Int)) then (if 0<=J then ((a1.1[J.toNat]?).bind fun aC=>if 0<=J then ((a1.2.1[J.toNat]?).bind fun bU=>(iP.ab (aC,bU,())).bind fun gA=>bif !gA.1 then (some (false,())) else self (ae (J+(1:Int)))) else none) else none) else e0 ()
noncomputable abbrev B0 (_:Nat):=b0
noncomputable def q0 (a1:Arg) (gz:(Unit)):Option Out:=some (true,())
noncomputable abbrev Q0 (_:Nat):=q0
noncomputable def s0 (k:Nat) (a1:Arg):(Int)->Option Out:=fun J=>D.L k [1,1,0,1,0,0] [0,1,5] [] (af 0 (an (D.N k [1,1,1]) D.K0)) (T0 a1 J)
noncomputable def r0 (k:Nat) (a1:Arg):(Int)->Option Out:=al (fun w v=>B0 k w (Q0 k a1) a1 v) k
theorem ap (k:Nat) (a1:Arg):s0 k a1=r0 k a1:=
 funext fun J=>am _ _ _ (T0 a1) _ (fun rec v=>by kernel_rfl) k J
noncomputable def p (l0:(Int)->Option Out) (a1:Arg):Option Out:=bif !decide ((a1.1.length:Int)=(a1.2.1.length:Int)) then (some (false,())) else l0 (0:Int)
theorem aa (k:Nat) (a1:Arg):@Eq (Option Out) (D.W k a1) (p (r0 k a1) a1):=
 Eq.trans (b:=p (s0 k a1) a1) (by kernel_rfl) (by rw[ap])
theorem ok:Ok prog 173 D.sig:=ao func173 aB (by kernel_rfl) (fc iP.ok (ak _))
end cW
namespace dG
abbrev Arg:Type:=(List Int)×(List Int)×Unit
abbrev Out:Type:=Bool×Unit
abbrev ps:PQ:=[(.ro,(.U i64)),(.ro,(.U i64))]
noncomputable def D:FD:={ fn:=f211,tl:=aK,ps:=ps,rs:=[(.bool,(ay .bool))],lv:=[(4,[0,1,5])],lx:=[(0,[])],od:=[(6,[0,1,2,3,4,5,6,7,8])] }
noncomputable def ab (a:Arg):Option Out:=@lift Out fun k=>D.W k a
noncomputable def T0 (a1:Arg) (J:Int):St:={ n:=26,sl:=[(0,.val (.U i64) a1.1),(1,.val (.U i64) a1.2.1),(5,.val i64 J)],vr:=[],av:=[] }
noncomputable def b0 (self:Int->Option Out) (e0:(Unit)->Option Out) (a1:Arg) (J:Int):Option Out:=bif decide (J < (a1.1.length:Int)) then (if 0<=J then ((a1.1[J.toNat]?).bind fun aC=>if 0<=J then ((a1.2.1[J.toNat]?).bind fun bU=>bif !decide (aC=bU) then (some (false,())) else self (ae (J+(1:Int)))) else none) else none) else e0 ()
noncomputable abbrev B0 (_:Nat):=b0
noncomputable def q0 (a1:Arg) (bG:(Unit)):Option Out:=some (true,())
noncomputable abbrev Q0 (_:Nat):=q0
noncomputable def s0 (k:Nat) (a1:Arg):(Int)->Option Out:=fun J=>D.L k [1,1,0,1,0,0] [0,1,5] [] (af 0 (an (D.N k [1,1,1]) D.K0)) (T0 a1 J)
noncomputable def r0 (k:Nat) (a1:Arg):(Int)->Option Out:=al (fun w v=>B0 k w (Q0 k a1) a1 v) k
theorem ap (k:Nat) (a1:Arg):s0 k a1=r0 k a1:=
 funext fun J=>am _ _ _ (T0 a1) _ (fun rec v=>by kernel_rfl) k J
noncomputable def p (l0:(Int)->Option Out) (a1:Arg):Option Out:=bif !decide ((a1.1.length:Int)=(a1.2.1.length:Int)) then (some (false,())) else l0 (0:Int)
theorem aa (k:Nat) (a1:Arg):@Eq (Option Out) (D.W k a1) (p (r0 k a1) a1):=
 Eq.trans (b:=p (s0 k a1) a1) (by kernel_rfl) (by rw[ap])
theorem ok:Ok prog 211 D.sig:=ao func211 aB (by kernel_rfl) (ak _)
end dG
namespace kU
abbrev Arg:Type:=Key×Key×Unit
abbrev Out:Type:=Bool×Unit
abbrev ps:PQ:=[(.ro,aF),(.ro,aF)]
noncomputable def D:FD:={ fn:=f271,tl:=aK,ps:=ps,rs:=[(.bool,(ay .bool))] }
noncomputable def ab (a:Arg):Option Out:=@lift Out fun k=>D.W k a
noncomputable def p (a1:Arg):Option Out:=bif !decide (a1.1.1=a1.2.1.1) then (some (false,())) else bif !decide (a1.1.2.1=a1.2.1.2.1) then (some (false,())) else some (true,())
theorem aa (k:Nat) (a1:Arg):@Eq (Option Out) (D.W k a1) (p a1):=by kernel_rfl
theorem ok:Ok prog 271 D.sig:=ao func271 aB (by kernel_rfl) (ak _)
end kU
namespace eM
abbrev Arg:Type:=(List Key)×(List Key)×Unit
abbrev Out:Type:=Bool×Unit
abbrev ps:PQ:=[(.ro,(.U aF)),(.ro,(.U aF))]
noncomputable def D:FD:={ fn:=f212,tl:=aK,ps:=ps,rs:=[(.bool,(ay .bool))],gl:=[(271,kU.D.sig)],lv:=[(4,[0,1,5])],lx:=[(0,[])],od:=[(6,[0,1,2,3,4,5,6,7,8,9])] }
noncomputable def ab (a:Arg):Option Out:=@lift Out fun k=>D.W k a
noncomputable def T0 (a1:Arg) (J:Int):St:={ n:=27,sl:=[(0,.val (.U aF) a1.1),(1,.val (.U aF) a1.2.1),(5,.val i64 J)],vr:=[],av:=[] }
noncomputable def b0 (self:Int->Option Out) (e0:(Unit)->Option Out) (a1:Arg) (J:Int):Option Out:=bif decide (J < (a1.1.length:Int)) then (if 0<=J then ((a1.1[J.toNat]?).bind fun aC=>if 0<=J then ((a1.2.1[J.toNat]?).bind fun bU=>(kU.ab (aC,bU,())).bind fun gA=>bif !gA.1 then (some (false,())) else self (ae (J+(1:Int)))) else none) else none) else e0 ()
noncomputable abbrev B0 (_:Nat):=b0
noncomputable def q0 (a1:Arg) (gz:(Unit)):Option Out:=some (true,())
noncomputable abbrev Q0 (_:Nat):=q0
noncomputable def s0 (k:Nat) (a1:Arg):(Int)->Option Out:=fun J=>D.L k [1,1,0,1,0,0] [0,1,5] [] (af 0 (an (D.N k [1,1,1]) D.K0)) (T0 a1 J)
noncomputable def r0 (k:Nat) (a1:Arg):(Int)->Option Out:=al (fun w v=>B0 k w (Q0 k a1) a1 v) k
theorem ap (k:Nat) (a1:Arg):s0 k a1=r0 k a1:=
 funext fun J=>am _ _ _ (T0 a1) _ (fun rec v=>by kernel_rfl) k J
noncomputable def p (l0:(Int)->Option Out) (a1:Arg):Option Out:=bif !decide ((a1.1.length:Int)=(a1.2.1.length:Int)) then (some (false,())) else l0 (0:Int)
theorem aa (k:Nat) (a1:Arg):@Eq (Option Out) (D.W k a1) (p (r0 k a1) a1):=
 Eq.trans (b:=p (s0 k a1) a1) (by kernel_rfl) (by rw[ap])
theorem ok:Ok prog 212 D.sig:=ao func212 aB (by kernel_rfl) (fc kU.ok (ak _))
end eM
namespace lK
abbrev Arg:Type:=Tx×Tx×Unit
abbrev Out:Type:=Bool×Unit
abbrev ps:PQ:=[(.ro,aX),(.ro,aX)]
noncomputable def D:FD:={ fn:=f139,tl:=aK,ps:=ps,rs:=[(.bool,(ay .bool))],gl:=[(173,cW.D.sig),(211,dG.D.sig),(212,eM.D.sig)] }
noncomputable def ab (a:Arg):Option Out:=@lift Out fun k=>D.W k a
noncomputable def p (a1:Arg):Option Out:=bif !decide (a1.1.1=a1.2.1.1) then (some (false,())) else (cW.ab (a1.1.2.1,a1.2.1.2.1,())).bind fun r2=>bif !r2.1 then (some (false,())) else (dG.ab (a1.1.2.2.1,a1.2.1.2.2.1,())).bind fun r3=>bif !r3.1 then (some (false,())) else (eM.ab (a1.1.2.2.2.1,a1.2.1.2.2.2.1,())).bind fun r4=>bif !r4.1 then (some (false,())) else some (true,())
theorem aa (k:Nat) (a1:Arg):@Eq (Option Out) (D.W k a1) (p a1):=by kernel_rfl
theorem ok:Ok prog 139 D.sig:=ao func139 aB (by kernel_rfl) (fc cW.ok (fc dG.ok (fc eM.ok (ak _))))
end lK
namespace ee
abbrev Arg:Type:=(List Tx)×(List Tx)×Unit
abbrev Out:Type:=Bool×Unit
abbrev ps:PQ:=[(.ro,(.U aX)),(.ro,(.U aX))]
noncomputable def D:FD:={ fn:=f70,tl:=aK,ps:=ps,rs:=[(.bool,(ay .bool))],gl:=[(139,lK.D.sig)],lv:=[(4,[0,1,5])],lx:=[(0,[])],od:=[(6,[0,1,2,3,4,5,6,7,8,9])] }
noncomputable def ab (a:Arg):Option Out:=@lift Out fun k=>D.W k a
noncomputable def T0 (a1:Arg) (J:Int):St:={ n:=27,sl:=[(0,.val (.U aX) a1.1),(1,.val (.U aX) a1.2.1),(5,.val i64 J)],vr:=[],av:=[] }
noncomputable def b0 (self:Int->Option Out) (e0:(Unit)->Option Out) (a1:Arg) (J:Int):Option Out:=bif decide (J < (a1.1.length:Int)) then (if 0<=J then ((a1.1[J.toNat]?).bind fun aC=>if 0<=J then ((a1.2.1[J.toNat]?).bind fun bU=>(lK.ab (aC,bU,())).bind fun gA=>bif !gA.1 then (some (false,())) else self (ae (J+(1:Int)))) else none) else none) else e0 ()
noncomputable abbrev B0 (_:Nat):=b0
noncomputable def q0 (a1:Arg) (gz:(Unit)):Option Out:=some (true,())
noncomputable abbrev Q0 (_:Nat):=q0
noncomputable def s0 (k:Nat) (a1:Arg):(Int)->Option Out:=fun J=>D.L k [1,1,0,1,0,0] [0,1,5] [] (af 0 (an (D.N k [1,1,1]) D.K0)) (T0 a1 J)
noncomputable def r0 (k:Nat) (a1:Arg):(Int)->Option Out:=al (fun w v=>B0 k w (Q0 k a1) a1 v) k
theorem ap (k:Nat) (a1:Arg):s0 k a1=r0 k a1:=
 funext fun J=>am _ _ _ (T0 a1) _ (fun rec v=>by kernel_rfl) k J
noncomputable def p (l0:(Int)->Option Out) (a1:Arg):Option Out:=bif !decide ((a1.1.length:Int)=(a1.2.1.length:Int)) then (some (false,())) else l0 (0:Int)
theorem aa (k:Nat) (a1:Arg):@Eq (Option Out) (D.W k a1) (p (r0 k a1) a1):=
 Eq.trans (b:=p (s0 k a1) a1) (by kernel_rfl) (by rw[ap])
theorem ok:Ok prog 70 D.sig:=ao func70 aB (by kernel_rfl) (fc lK.ok (ak _))
end ee
namespace jv
abbrev Arg:Type:=fN×fN×Unit
abbrev Out:Type:=Bool×Unit
abbrev ps:PQ:=[(.ro,co),(.ro,co)]
noncomputable def D:FD:={ fn:=f15,tl:=aK,ps:=ps,rs:=[(.bool,(ay .bool))],gl:=[(68,dF.D.sig),(69,kT.D.sig),(70,ee.D.sig)] }
noncomputable def ab (a:Arg):Option Out:=@lift Out fun k=>D.W k a
noncomputable def p (a1:Arg):Option Out:=bif !(a1.1.1 == a1.2.1.1) then (some (false,())) else (dF.ab (a1.1.2.1,a1.2.1.2.1,())).bind fun r2=>bif !r2.1 then (some (false,())) else (kT.ab (a1.1.2.2.1,a1.2.1.2.2.1,())).bind fun r3=>bif !r3.1 then (some (false,())) else (ee.ab (a1.1.2.2.2.1,a1.2.1.2.2.2.1,())).bind fun r4=>bif !r4.1 then (some (false,())) else bif !decide (a1.1.2.2.2.2.1=a1.2.1.2.2.2.2.1) then (some (false,())) else some (true,())
theorem aa (k:Nat) (a1:Arg):@Eq (Option Out) (D.W k a1) (p a1):=by kernel_rfl
theorem ok:Ok prog 15 D.sig:=ao func15 aB (by kernel_rfl) (fc dF.ok (fc kT.ok (fc ee.ok (ak _))))
end jv
namespace dP
abbrev Arg:Type:=(List Row)×Int×Unit
abbrev Out:Type:=Int×Unit
abbrev ps:PQ:=[(.ro,(.U aw)),(.ro,i64)]
noncomputable def D:FD:={ fn:=f71,tl:=aK,ps:=ps,rs:=[(i64,(ay i64))],gl:=[(140,gN.D.sig)],lv:=[(5,[0,1,5])],lx:=[(0,[1])] }
noncomputable def ab (a:Arg):Option Out:=@lift Out fun k=>D.W k a
noncomputable def T0 (a1:Arg) (J:Int×Int):St:={ n:=27,sl:=[(0,.val (.U aw) a1.1),(1,.val i64 J.1),(5,.val i64 J.2)],vr:=[],av:=[] }
noncomputable def b0 (self:(Int×Int)->Option Out) (e0:Int->Option Out) (a1:Arg) (J:Int×Int):Option Out:=bif decide (J.2 < (a1.1.length:Int)) then (if 0<=J.2 then ((a1.1[J.2.toNat]?).bind fun aC=>(gN.ab (aC,J.1,())).bind fun bS=>bif decide (bS.1 < (0:Int)) then (some ((-1:Int),())) else self (bS.1,ae (J.2+(1:Int)))) else none) else e0 J.1
noncomputable abbrev B0 (_:Nat):=b0
noncomputable def q0 (a1:Arg) (bG:Int):Option Out:=some (bG,())
noncomputable abbrev Q0 (_:Nat):=q0
noncomputable def s0 (k:Nat) (a1:Arg):(Int×Int)->Option Out:=fun J=>D.L k [1,1,1,0,1,0,0] [0,1,5] [] (af 0 (an (D.N k [1,1,1,1]) D.K0)) (T0 a1 J)
noncomputable def r0 (k:Nat) (a1:Arg):(Int×Int)->Option Out:=al (fun w v=>B0 k w (Q0 k a1) a1 v) k
theorem ap (k:Nat) (a1:Arg):s0 k a1=r0 k a1:=
 funext fun J=>am _ _ _ (T0 a1) _ (fun rec v=>by kernel_rfl) k J
noncomputable def p (l0:(Int×Int)->Option Out) (a1:Arg):Option Out:=bif decide (ae (a1.2.1 - (a1.1.length:Int)) < (0:Int)) then (some ((-1:Int),())) else l0 (ae (a1.2.1 - (a1.1.length:Int)),(0:Int))
theorem aa (k:Nat) (a1:Arg):@Eq (Option Out) (D.W k a1) (p (r0 k a1) a1):=
 Eq.trans (b:=p (s0 k a1) a1) (by kernel_rfl) (by rw[ap])
theorem ok:Ok prog 71 D.sig:=ao func71 aB (by kernel_rfl) (fc gN.ok (ak _))
end dP
namespace jw
abbrev Arg:Type:=Plain×Int×Unit
abbrev Out:Type:=Int×Unit
abbrev ps:PQ:=[(.ro,dI),(.ro,i64)]
noncomputable def D:FD:={ fn:=f16,tl:=aK,ps:=ps,rs:=[(i64,(ay i64))],gl:=[(55,dr.D.sig),(71,dP.D.sig)] }
noncomputable def ab (a:Arg):Option Out:=@lift Out fun k=>D.W k a
noncomputable def p (a1:Arg):Option Out:=(dP.ab (a1.1.1,a1.2.1,())).bind fun r2=>bif decide (r2.1 < (0:Int)) then (some ((-1:Int),())) else (dr.ab (a1.1.2.1,r2.1,())).bind fun r3=>bif decide (r3.1 < (0:Int)) then (some ((-1:Int),())) else some (r3.1,())
theorem aa (k:Nat) (a1:Arg):@Eq (Option Out) (D.W k a1) (p a1):=by kernel_rfl
theorem ok:Ok prog 16 D.sig:=ao func16 aB (by kernel_rfl) (fc dr.ok (fc dP.ok (ak _)))
end jw
namespace du
abbrev Arg:Type:=(List Change)×(List Change)×Unit
abbrev Out:Type:=Bool×Unit
abbrev ps:PQ:=[(.ro,(.U au)),(.ro,(.U au))]
noncomputable def D:FD:={ fn:=f144,tl:=aK,ps:=ps,rs:=[(.bool,(ay .bool))],lv:=[(4,[0,1,5])],lx:=[(0,[])],od:=[(6,[0,1,2,3,4,5,6,7,8])] }
noncomputable def ab (a:Arg):Option Out:=@lift Out fun k=>D.W k a
noncomputable def T0 (a1:Arg) (J:Int):St:={ n:=26,sl:=[(0,.val (.U au) a1.1),(1,.val (.U au) a1.2.1),(5,.val i64 J)],vr:=[],av:=[] }
noncomputable def b0 (self:Int->Option Out) (e0:(Unit)->Option Out) (a1:Arg) (J:Int):Option Out:=bif decide (J < (a1.1.length:Int)) then (if 0<=J then ((a1.1[J.toNat]?).bind fun aC=>if 0<=J then ((a1.2.1[J.toNat]?).bind fun bU=>bif !(Ty.eq au aC bU) then (some (false,())) else self (ae (J+(1:Int)))) else none) else none) else e0 ()
noncomputable abbrev B0 (_:Nat):=b0
noncomputable def q0 (a1:Arg) (bG:(Unit)):Option Out:=some (true,())
noncomputable abbrev Q0 (_:Nat):=q0
noncomputable def s0 (k:Nat) (a1:Arg):(Int)->Option Out:=fun J=>D.L k [1,1,0,1,0,0] [0,1,5] [] (af 0 (an (D.N k [1,1,1]) D.K0)) (T0 a1 J)
noncomputable def r0 (k:Nat) (a1:Arg):(Int)->Option Out:=al (fun w v=>B0 k w (Q0 k a1) a1 v) k
theorem ap (k:Nat) (a1:Arg):s0 k a1=r0 k a1:=
 funext fun J=>am _ _ _ (T0 a1) _ (fun rec v=>by kernel_rfl) k J
noncomputable def p (l0:(Int)->Option Out) (a1:Arg):Option Out:=bif !decide ((a1.1.length:Int)=(a1.2.1.length:Int)) then (some (false,())) else l0 (0:Int)
theorem aa (k:Nat) (a1:Arg):@Eq (Option Out) (D.W k a1) (p (r0 k a1) a1):=
 Eq.trans (b:=p (s0 k a1) a1) (by kernel_rfl) (by rw[ap])
theorem ok:Ok prog 144 D.sig:=ao func144 aB (by kernel_rfl) (ak _)
end du
namespace dv
abbrev Arg:Type:=Tx×Tx×Unit
abbrev Out:Type:=Bool×Unit
abbrev ps:PQ:=[(.ro,(.ptr aX)),(.ro,(.ptr aX))]
noncomputable def D:FD:={ fn:=f73,tl:=aK,ps:=ps,rs:=[(.bool,(ay .bool))],gl:=[(144,du.D.sig)],lv:=[(4,[0,1,5]),(9,[0,1,6])],lx:=[(0,[0,1]),(2,[])],od:=[(1,[0,1,2,3,4,5,6,7,8,9,10,11,12,13,14,15,16,17,18,19,20,21,22,23,24,25,26,27,28,29,30,31,32,33,34,35,36,37,38,39,40,41,42,43,44,45,46]),(6,[0,1,2,3,4,5,6,7,8,9,10,11,12,13,14]),(11,[0,1,2,3,4,5,6,7,8,9,10,11,12,13,14])],ar:=[(1,[3,7,13,17,25,30,38,43])] }
noncomputable def ab (a:Arg):Option Out:=@lift Out fun k=>D.W k a
noncomputable def T0 (a1:Arg) (aN:Int):St:={ n:=102,sl:=[(0,.cp aX a1.1),(1,.cp aX a1.2.1),(5,.val i64 aN)],vr:=[],av:=[] }
noncomputable def S0 (rec:RT Out) (a1:Arg):(Int)->Option Out:=fun aN=>rec (T0 a1 aN)
noncomputable def bg (K:KT Out) (a1:Arg):(Unit)->Option Out:=fun z=>K (.exit 0) ({ n:=102,sl:=[(0,.cp aX a1.1),(1,.cp aX a1.2.1)],vr:=[],av:=[] })
noncomputable def b0 (self:Int->Option Out) (e0:(Unit)->Option Out) (a1:Arg) (aN:Int):Option Out:=bif decide (aN < (a1.1.2.2.1.length:Int)) then (if 0<=aN then ((a1.1.2.2.1[aN.toNat]?).bind fun bU=>if 0<=aN then ((a1.2.1.2.2.1[aN.toNat]?).bind fun db=>bif !decide (bU=db) then (some (false,())) else self (ae (aN+(1:Int)))) else none) else none) else e0 ()
noncomputable abbrev B0 (_:Nat):=b0
theorem fA (k:Nat) (rec:RT Out) (K:KT Out) (a1:Arg) (aN:Int):D.N k [1,1,0,1,0,0] (T0 a1 aN) (c9 rec (bY [0,1,5] []) K)=b0 (S0 rec a1) (bg K a1) a1 aN:=by kernel_rfl
noncomputable def T1 (a1:Arg) (f7:Int):St:={ n:=102,sl:=[(0,.cp aX a1.1),(1,.cp aX a1.2.1),(6,.val i64 f7)],vr:=[],av:=[] }
noncomputable def b1 (self:Int->Option Out) (e2:(Unit)->Option Out) (a1:Arg) (f7:Int):Option Out:=bif decide (f7 < (a1.1.2.2.2.1.length:Int)) then (if 0<=f7 then ((a1.1.2.2.2.1[f7.toNat]?).bind fun tF=>if 0<=f7 then ((a1.2.1.2.2.2.1[f7.toNat]?).bind fun rQ=>bif !(Ty.eq aF tF rQ) then (some (false,())) else self (ae (f7+(1:Int)))) else none) else none) else e2 ()
noncomputable abbrev B1 (_:Nat):=b1
noncomputable def q1 (a1:Arg) (Th:(Unit)):Option Out:=some (true,())
noncomputable abbrev Q1 (_:Nat):=q1
noncomputable def s1 (k:Nat) (a1:Arg):(Int)->Option Out:=fun f7=>D.L k [1,1,1,0,1,0,0] [0,1,6] [] (af 2 (an (D.N k [1,1,1,1]) D.K0)) (T1 a1 f7)
noncomputable def r1 (k:Nat) (a1:Arg):(Int)->Option Out:=al (fun w v=>B1 k w (Q1 k a1) a1 v) k
theorem fB (k:Nat) (a1:Arg):s1 k a1=r1 k a1:=
 funext fun f7=>am _ _ _ (T1 a1) _ (fun rec v=>by kernel_rfl) k f7
noncomputable def q0 (l1:(Int)->Option Out) (a1:Arg) (gz:(Unit)):Option Out:=l1 (0:Int)
noncomputable def Q0 (k:Nat) (a1:Arg) (gz:(Unit)):Option Out:=q0 (r1 k a1) a1 gz
theorem jS (k:Nat) (a1:Arg) (gz:(Unit)):bg (af 0 (an (D.N k [1,1,1]) D.K0)) a1 gz=Q0 k a1 gz:=
 Eq.trans (b:=q0 (s1 k a1) a1 gz) (by kernel_rfl) (by rw[fB];rfl)
noncomputable def s0 (k:Nat) (a1:Arg):(Int)->Option Out:=fun aN=>D.L k [1,1,0,1,0,0] [0,1,5] [] (af 0 (an (D.N k [1,1,1]) D.K0)) (T0 a1 aN)
noncomputable def r0 (k:Nat) (a1:Arg):(Int)->Option Out:=al (fun w v=>B0 k w (Q0 k a1) a1 v) k
theorem ap (k:Nat) (a1:Arg):s0 k a1=r0 k a1:=by
 funext aN;
 have h0:bg (af 0 (an (D.N k [1,1,1]) D.K0)) a1=Q0 k a1:=funext fun z=>jS k a1 z
 refine (am _ _ _ (T0 a1) (fun self v=>B0 k self (bg (af 0 (an (D.N k [1,1,1]) D.K0)) a1) a1 v) (fun rec v=>fA k rec (af 0 (an (D.N k [1,1,1]) D.K0)) a1 v) k aN).trans ?_
 rw[h0]
 rfl
noncomputable def p (l0:(Int)->Option Out) (a1:Arg):Option Out:=bif !decide (a1.1.1=a1.2.1.1) then (some (false,())) else (du.ab (a1.1.2.1,a1.2.1.2.1,())).bind fun r2=>bif !r2.1 then (some (false,())) else bif !decide ((a1.1.2.2.1.length:Int)=(a1.2.1.2.2.1.length:Int)) then (some (false,())) else bif !decide ((a1.1.2.2.2.1.length:Int)=(a1.2.1.2.2.2.1.length:Int)) then (some (false,())) else l0 (0:Int)
theorem aa (k:Nat) (a1:Arg):@Eq (Option Out) (D.W k a1) (p (r0 k a1) a1):=
 Eq.trans (b:=p (s0 k a1) a1) (by kernel_rfl) (by rw[ap])
theorem ok:Ok prog 73 D.sig:=ao func73 aB (by kernel_rfl) (fc du.ok (ak _))
end dv
namespace fh
abbrev Arg:Type:=(List Row)×(List Row)×Unit
abbrev Out:Type:=Bool×Unit
abbrev ps:PQ:=[(.ro,(.U aw)),(.ro,(.U aw))]
noncomputable def D:FD:={ fn:=f74,tl:=aK,ps:=ps,rs:=[(.bool,(ay .bool))],lv:=[(4,[0,1,5])],lx:=[(0,[])],od:=[(6,[0,1,2,3,4,5,6,7,8])] }
noncomputable def ab (a:Arg):Option Out:=@lift Out fun k=>D.W k a
noncomputable def T0 (a1:Arg) (J:Int):St:={ n:=26,sl:=[(0,.val (.U aw) a1.1),(1,.val (.U aw) a1.2.1),(5,.val i64 J)],vr:=[],av:=[] }
noncomputable def b0 (self:Int->Option Out) (e0:(Unit)->Option Out) (a1:Arg) (J:Int):Option Out:=bif decide (J < (a1.1.length:Int)) then (if 0<=J then ((a1.1[J.toNat]?).bind fun aC=>if 0<=J then ((a1.2.1[J.toNat]?).bind fun bU=>bif !(Ty.eq aw aC bU) then (some (false,())) else self (ae (J+(1:Int)))) else none) else none) else e0 ()
noncomputable abbrev B0 (_:Nat):=b0
noncomputable def q0 (a1:Arg) (bG:(Unit)):Option Out:=some (true,())
noncomputable abbrev Q0 (_:Nat):=q0
noncomputable def s0 (k:Nat) (a1:Arg):(Int)->Option Out:=fun J=>D.L k [1,1,0,1,0,0] [0,1,5] [] (af 0 (an (D.N k [1,1,1]) D.K0)) (T0 a1 J)
noncomputable def r0 (k:Nat) (a1:Arg):(Int)->Option Out:=al (fun w v=>B0 k w (Q0 k a1) a1 v) k
theorem ap (k:Nat) (a1:Arg):s0 k a1=r0 k a1:=
 funext fun J=>am _ _ _ (T0 a1) _ (fun rec v=>by kernel_rfl) k J
noncomputable def p (l0:(Int)->Option Out) (a1:Arg):Option Out:=bif !decide ((a1.1.length:Int)=(a1.2.1.length:Int)) then (some (false,())) else l0 (0:Int)
theorem aa (k:Nat) (a1:Arg):@Eq (Option Out) (D.W k a1) (p (r0 k a1) a1):=
 Eq.trans (b:=p (s0 k a1) a1) (by kernel_rfl) (by rw[ap])
theorem ok:Ok prog 74 D.sig:=ao func74 aB (by kernel_rfl) (ak _)
end fh
namespace cX
abbrev Arg:Type:=fN×Plain×Unit
abbrev Out:Type:=Bool×Unit
abbrev ps:PQ:=[(.ro,co),(.ro,dI)]
noncomputable def D:FD:={ fn:=f17,tl:=aK,ps:=ps,rs:=[(.bool,(ay .bool))],gl:=[(56,jI.D.sig),(72,fK.D.sig),(73,dv.D.sig),(74,fh.D.sig),(75,c7.D.sig)],lv:=[(4,[2,3,5])],lx:=[(0,[2,3])],od:=[(6,[0,1,2,3,4,5,6,7,8,9]),(8,[0,1,3,4,2,5,6])] }
noncomputable def ab (a:Arg):Option Out:=@lift Out fun k=>D.W k a
noncomputable def T0 (a1:Arg) (eL:Int):St:={ n:=56,sl:=[(2,.box co (ay co) [] a1.1),(3,.box dI (ay dI) [] a1.2.1),(5,.val i64 eL)],vr:=[],av:=[] }
noncomputable def b0 (self:Int->Option Out) (e0:(Unit)->Option Out) (a1:Arg) (eL:Int):Option Out:=bif decide (eL < (a1.1.2.2.2.1.length:Int)) then (if 0<=eL then ((a1.1.2.2.2.1[eL.toNat]?).bind fun db=>if 0<=eL then ((a1.2.1.2.1[eL.toNat]?).bind fun oJ=>(dv.ab (db,oJ,())).bind fun iS=>bif !iS.1 then (some (false,())) else self (ae (eL+(1:Int)))) else none) else none) else e0 ()
noncomputable abbrev B0 (_:Nat):=b0
noncomputable def q0 (a1:Arg) (mR:(Unit)):Option Out:=(c7.ab (a1.1.2.1,())).bind fun pU=>(fh.ab (pU.1,a1.2.1.1,())).bind fun rq=>some (rq.1,())
noncomputable abbrev Q0 (_:Nat):=q0
noncomputable def s0 (k:Nat) (a1:Arg):(Int)->Option Out:=fun eL=>D.L k [1,1,0,1,0,0] [2,3,5] [] (af 0 (an (D.N k [1,1,1]) D.K0)) (T0 a1 eL)
noncomputable def r0 (k:Nat) (a1:Arg):(Int)->Option Out:=al (fun w v=>B0 k w (Q0 k a1) a1 v) k
theorem ap (k:Nat) (a1:Arg):s0 k a1=r0 k a1:=
 funext fun eL=>am _ _ _ (T0 a1) _ (fun rec v=>by kernel_rfl) k eL
noncomputable def p (l0:(Int)->Option Out) (a1:Arg):Option Out:=(jI.ab (a1.1,())).bind fun r2=>bif !decide (r2.1=(0:Int)) then (some (false,())) else (fK.ab (a1.2.1,())).bind fun r3=>bif !decide (r3.1=(0:Int)) then (some (false,())) else bif !a1.1.1 then (some (false,())) else bif !decide (a1.1.2.2.2.2.1=a1.2.1.2.2.1) then (some (false,())) else bif !decide ((a1.1.2.2.2.1.length:Int)=(a1.2.1.2.1.length:Int)) then (some (false,())) else l0 (0:Int)
theorem aa (k:Nat) (a1:Arg):@Eq (Option Out) (D.W k a1) (p (r0 k a1) a1):=
 Eq.trans (b:=p (s0 k a1) a1) (by kernel_rfl) (by rw[ap])
theorem ok:Ok prog 17 D.sig:=ao func17 aB (by kernel_rfl) (fc jI.ok (fc fK.ok (fc dv.ok (fc fh.ok (fc c7.ok (ak _))))))
end cX
namespace eN
abbrev Arg:Type:=(List Row)×Unit
abbrev Out:Type:=(List Row)×Unit
abbrev ps:PQ:=[(.ro,(.U aw))]
noncomputable def D:FD:={ fn:=f76,tl:=aK,ps:=ps,rs:=[((.U aw),(aq (.U aw)))],gl:=[(147,gQ.D.sig)],lv:=[(3,[0,3,4])],lx:=[(0,[3])] }
noncomputable def ab (a:Arg):Option Out:=@lift Out fun k=>D.W k a
noncomputable def T0 (a1:Arg) (J:(List Row)×Int):St:={ n:=23,sl:=[(0,.val (.U aw) a1.1),(3,.own (.U aw) (aq (.U aw)) [] J.1),(4,.val i64 J.2)],vr:=[],av:=[] }
noncomputable def b0 (self:((List Row)×Int)->Option Out) (e0:(List Row)->Option Out) (a1:Arg) (J:(List Row)×Int):Option Out:=bif decide (J.2 < (a1.1.length:Int)) then (if 0<=J.2 then ((a1.1[J.2.toNat]?).bind fun aC=>(gQ.ab (aC,())).bind fun bS=>if 0<=J.2/\J.2 < (J.1.length:Int) then ((J.1[J.2.toNat]?).bind fun db=>self (J.1.set J.2.toNat bS.1,ae (J.2+(1:Int)))) else none) else none) else e0 J.1
noncomputable abbrev B0 (_:Nat):=b0
noncomputable def q0 (a1:Arg) (gz:(List Row)):Option Out:=some (gz,())
noncomputable abbrev Q0 (_:Nat):=q0
noncomputable def s0 (k:Nat) (a1:Arg):((List Row)×Int)->Option Out:=fun J=>D.L k [1,1,0,1,0,0] [0,3,4] [] (af 0 (an (D.N k [1,1,1]) D.K0)) (T0 a1 J)
noncomputable def r0 (k:Nat) (a1:Arg):((List Row)×Int)->Option Out:=al (fun w v=>B0 k w (Q0 k a1) a1 v) k
theorem ap (k:Nat) (a1:Arg):s0 k a1=r0 k a1:=
 funext fun J=>am _ _ _ (T0 a1) _ (fun rec v=>by kernel_rfl) k J
noncomputable def p (l0:((List Row)×Int)->Option Out) (a1:Arg):Option Out:=if 0<=(a1.1.length:Int)/\(a1.1.length:Int)<=(a1.1.length:Int)/\(a1.1.length:Int)<=(bm:Int) then (l0 (List.replicate (a1.1.length:Int).toNat ((0:Int),(0:Int),(0:Int),([]:List UInt8),()),(0:Int))) else none
theorem aa (k:Nat) (a1:Arg):@Eq (Option Out) (D.W k a1) (p (r0 k a1) a1):=
 Eq.trans (b:=p (s0 k a1) a1) (by kernel_rfl) (by rw[ap])
theorem ok:Ok prog 76 D.sig:=ao func76 aB (by kernel_rfl) (fc gQ.ok (ak _))
end eN
namespace gM
abbrev Arg:Type:=Plain×Unit
abbrev Out:Type:=Plain×Unit
abbrev ps:PQ:=[(.ro,dI)]
noncomputable def D:FD:={ fn:=f18,tl:=aK,ps:=ps,rs:=[(dI,(aq dI))],gl:=[(59,ec.D.sig),(76,eN.D.sig)] }
noncomputable def ab (a:Arg):Option Out:=@lift Out fun k=>D.W k a
noncomputable def p (a1:Arg):Option Out:=(eN.ab (a1.1.1,())).bind fun r2=>(ec.ab (a1.1.2.1,())).bind fun r3=>some ((r2.1,r3.1,a1.1.2.2.1,()),())
theorem aa (k:Nat) (a1:Arg):@Eq (Option Out) (D.W k a1) (p a1):=by kernel_rfl
theorem ok:Ok prog 18 D.sig:=ao func18 aB (by kernel_rfl) (fc ec.ok (fc eN.ok (ak _)))
end gM
namespace cY
abbrev Arg:Type:=(List Row)×(List Row)×Unit
abbrev Out:Type:=Bool×Unit
abbrev ps:PQ:=[(.ro,(.U aw)),(.ro,(.U aw))]
noncomputable def D:FD:={ fn:=f77,tl:=aK,ps:=ps,rs:=[(.bool,(ay .bool))],lv:=[(4,[0,1,12,13])],lx:=[(0,[])],od:=[(6,[0,1,2,3,4,5,6,7,8])] }
noncomputable def ab (a:Arg):Option Out:=@lift Out fun k=>D.W k a
noncomputable def T0 (a1:Arg) (J:Int):St:={ n:=26,sl:=[(0,.val (.U aw) a1.1),(1,.val (.U aw) a1.2.1),(12,.val i64 (a1.1.length:Int)),(13,.val i64 J)],vr:=[],av:=[] }
noncomputable def b0 (self:Int->Option Out) (e0:(Unit)->Option Out) (a1:Arg) (J:Int):Option Out:=bif decide (J < (a1.1.length:Int)) then (if 0<=J then ((a1.1[J.toNat]?).bind fun aC=>if 0<=J then ((a1.2.1[J.toNat]?).bind fun bU=>bif !(Ty.eq aw aC bU) then (some (false,())) else self (ae (J+(1:Int)))) else none) else none) else e0 ()
noncomputable abbrev B0 (_:Nat):=b0
noncomputable def q0 (a1:Arg) (bG:(Unit)):Option Out:=some (true,())
noncomputable abbrev Q0 (_:Nat):=q0
noncomputable def s0 (k:Nat) (a1:Arg):(Int)->Option Out:=fun J=>D.L k [1,1,0,1,0,0] [0,1,12,13] [] (af 0 (an (D.N k [1,1,1]) D.K0)) (T0 a1 J)
noncomputable def r0 (k:Nat) (a1:Arg):(Int)->Option Out:=al (fun w v=>B0 k w (Q0 k a1) a1 v) k
theorem ap (k:Nat) (a1:Arg):s0 k a1=r0 k a1:=
 funext fun J=>am _ _ _ (T0 a1) _ (fun rec v=>by kernel_rfl) k J
noncomputable def p (l0:(Int)->Option Out) (a1:Arg):Option Out:=bif !decide ((a1.1.length:Int)=(a1.2.1.length:Int)) then (some (false,())) else l0 (0:Int)
theorem aa (k:Nat) (a1:Arg):@Eq (Option Out) (D.W k a1) (p (r0 k a1) a1):=
 Eq.trans (b:=p (s0 k a1) a1) (by kernel_rfl) (by rw[ap])
theorem ok:Ok prog 77 D.sig:=ao func77 aB (by kernel_rfl) (ak _)
end cY
namespace iz
abbrev Arg:Type:=fN×Unit
abbrev Out:Type:=(List Row)×Unit
abbrev ps:PQ:=[(.ro,co)]
noncomputable def D:FD:={ fn:=f78,tl:=aK,ps:=ps,rs:=[((.U aw),(aq (.U aw)))],gl:=[(62,bO.D.sig),(64,fC.D.sig)] }
noncomputable def ab (a:Arg):Option Out:=@lift Out fun k=>D.W k a
noncomputable def p (a1:Arg):Option Out:=(bO.ab (a1.1.2.1,())).bind fun r2=>(fC.ab (r2.1,())).bind fun r3=>some (r3.1,())
theorem aa (k:Nat) (a1:Arg):@Eq (Option Out) (D.W k a1) (p a1):=by kernel_rfl
theorem ok:Ok prog 78 D.sig:=ao func78 aB (by kernel_rfl) (fc bO.ok (fc fC.ok (ak _)))
end iz
namespace cb
abbrev Arg:Type:=(List Change)×(List Change)×Unit
abbrev Out:Type:=Bool×Unit
abbrev ps:PQ:=[(.ro,(.U au)),(.ro,(.U au))]
noncomputable def D:FD:={ fn:=f150,tl:=aK,ps:=ps,rs:=[(.bool,(ay .bool))],lv:=[(4,[0,1,12,13])],lx:=[(0,[])],od:=[(6,[0,1,2,3,4,5,6,7,8])] }
noncomputable def ab (a:Arg):Option Out:=@lift Out fun k=>D.W k a
noncomputable def T0 (a1:Arg) (J:Int):St:={ n:=26,sl:=[(0,.val (.U au) a1.1),(1,.val (.U au) a1.2.1),(12,.val i64 (a1.1.length:Int)),(13,.val i64 J)],vr:=[],av:=[] }
noncomputable def b0 (self:Int->Option Out) (e0:(Unit)->Option Out) (a1:Arg) (J:Int):Option Out:=bif decide (J < (a1.1.length:Int)) then (if 0<=J then ((a1.1[J.toNat]?).bind fun aC=>if 0<=J then ((a1.2.1[J.toNat]?).bind fun bU=>bif !(Ty.eq au aC bU) then (some (false,())) else self (ae (J+(1:Int)))) else none) else none) else e0 ()
noncomputable abbrev B0 (_:Nat):=b0
noncomputable def q0 (a1:Arg) (bG:(Unit)):Option Out:=some (true,())
noncomputable abbrev Q0 (_:Nat):=q0
noncomputable def s0 (k:Nat) (a1:Arg):(Int)->Option Out:=fun J=>D.L k [1,1,0,1,0,0] [0,1,12,13] [] (af 0 (an (D.N k [1,1,1]) D.K0)) (T0 a1 J)
noncomputable def r0 (k:Nat) (a1:Arg):(Int)->Option Out:=al (fun w v=>B0 k w (Q0 k a1) a1 v) k
theorem ap (k:Nat) (a1:Arg):s0 k a1=r0 k a1:=
 funext fun J=>am _ _ _ (T0 a1) _ (fun rec v=>by kernel_rfl) k J
noncomputable def p (l0:(Int)->Option Out) (a1:Arg):Option Out:=bif !decide ((a1.1.length:Int)=(a1.2.1.length:Int)) then (some (false,())) else l0 (0:Int)
theorem aa (k:Nat) (a1:Arg):@Eq (Option Out) (D.W k a1) (p (r0 k a1) a1):=
 Eq.trans (b:=p (s0 k a1) a1) (by kernel_rfl) (by rw[ap])
theorem ok:Ok prog 150 D.sig:=ao func150 aB (by kernel_rfl) (ak _)
end cb
namespace ct
abbrev Arg:Type:=(List Int)×(List Int)×Unit
abbrev Out:Type:=Bool×Unit
abbrev ps:PQ:=[(.ro,(.U i64)),(.ro,(.U i64))]
noncomputable def D:FD:={ fn:=f151,tl:=aK,ps:=ps,rs:=[(.bool,(ay .bool))],lv:=[(4,[0,1,12,13])],lx:=[(0,[])],od:=[(6,[0,1,2,3,4,5,6,7,8])] }
noncomputable def ab (a:Arg):Option Out:=@lift Out fun k=>D.W k a
noncomputable def T0 (a1:Arg) (J:Int):St:={ n:=26,sl:=[(0,.val (.U i64) a1.1),(1,.val (.U i64) a1.2.1),(12,.val i64 (a1.1.length:Int)),(13,.val i64 J)],vr:=[],av:=[] }
noncomputable def b0 (self:Int->Option Out) (e0:(Unit)->Option Out) (a1:Arg) (J:Int):Option Out:=bif decide (J < (a1.1.length:Int)) then (if 0<=J then ((a1.1[J.toNat]?).bind fun aC=>if 0<=J then ((a1.2.1[J.toNat]?).bind fun bU=>bif !decide (aC=bU) then (some (false,())) else self (ae (J+(1:Int)))) else none) else none) else e0 ()
noncomputable abbrev B0 (_:Nat):=b0
noncomputable def q0 (a1:Arg) (bG:(Unit)):Option Out:=some (true,())
noncomputable abbrev Q0 (_:Nat):=q0
noncomputable def s0 (k:Nat) (a1:Arg):(Int)->Option Out:=fun J=>D.L k [1,1,0,1,0,0] [0,1,12,13] [] (af 0 (an (D.N k [1,1,1]) D.K0)) (T0 a1 J)
noncomputable def r0 (k:Nat) (a1:Arg):(Int)->Option Out:=al (fun w v=>B0 k w (Q0 k a1) a1 v) k
theorem ap (k:Nat) (a1:Arg):s0 k a1=r0 k a1:=
 funext fun J=>am _ _ _ (T0 a1) _ (fun rec v=>by kernel_rfl) k J
noncomputable def p (l0:(Int)->Option Out) (a1:Arg):Option Out:=bif !decide ((a1.1.length:Int)=(a1.2.1.length:Int)) then (some (false,())) else l0 (0:Int)
theorem aa (k:Nat) (a1:Arg):@Eq (Option Out) (D.W k a1) (p (r0 k a1) a1):=
 Eq.trans (b:=p (s0 k a1) a1) (by kernel_rfl) (by rw[ap])
theorem ok:Ok prog 151 D.sig:=ao func151 aB (by kernel_rfl) (ak _)
end ct
namespace cZ
abbrev Arg:Type:=(List Key)×(List Key)×Unit
abbrev Out:Type:=Bool×Unit
abbrev ps:PQ:=[(.ro,(.U aF)),(.ro,(.U aF))]
noncomputable def D:FD:={ fn:=f152,tl:=aK,ps:=ps,rs:=[(.bool,(ay .bool))],lv:=[(4,[0,1,12,13])],lx:=[(0,[])],od:=[(6,[0,1,2,3,4,5,6,7,8])] }
noncomputable def ab (a:Arg):Option Out:=@lift Out fun k=>D.W k a
noncomputable def T0 (a1:Arg) (J:Int):St:={ n:=26,sl:=[(0,.val (.U aF) a1.1),(1,.val (.U aF) a1.2.1),(12,.val i64 (a1.1.length:Int)),(13,.val i64 J)],vr:=[],av:=[] }
noncomputable def b0 (self:Int->Option Out) (e0:(Unit)->Option Out) (a1:Arg) (J:Int):Option Out:=bif decide (J < (a1.1.length:Int)) then (if 0<=J then ((a1.1[J.toNat]?).bind fun aC=>if 0<=J then ((a1.2.1[J.toNat]?).bind fun bU=>bif !(Ty.eq aF aC bU) then (some (false,())) else self (ae (J+(1:Int)))) else none) else none) else e0 ()
noncomputable abbrev B0 (_:Nat):=b0
noncomputable def q0 (a1:Arg) (bG:(Unit)):Option Out:=some (true,())
noncomputable abbrev Q0 (_:Nat):=q0
noncomputable def s0 (k:Nat) (a1:Arg):(Int)->Option Out:=fun J=>D.L k [1,1,0,1,0,0] [0,1,12,13] [] (af 0 (an (D.N k [1,1,1]) D.K0)) (T0 a1 J)
noncomputable def r0 (k:Nat) (a1:Arg):(Int)->Option Out:=al (fun w v=>B0 k w (Q0 k a1) a1 v) k
theorem ap (k:Nat) (a1:Arg):s0 k a1=r0 k a1:=
 funext fun J=>am _ _ _ (T0 a1) _ (fun rec v=>by kernel_rfl) k J
noncomputable def p (l0:(Int)->Option Out) (a1:Arg):Option Out:=bif !decide ((a1.1.length:Int)=(a1.2.1.length:Int)) then (some (false,())) else l0 (0:Int)
theorem aa (k:Nat) (a1:Arg):@Eq (Option Out) (D.W k a1) (p (r0 k a1) a1):=
 Eq.trans (b:=p (s0 k a1) a1) (by kernel_rfl) (by rw[ap])
theorem ok:Ok prog 152 D.sig:=ao func152 aB (by kernel_rfl) (ak _)
end cZ
namespace jc
abbrev Arg:Type:=Tx×Tx×Unit
abbrev Out:Type:=Bool×Unit
abbrev ps:PQ:=[(.ro,aX),(.ro,aX)]
noncomputable def D:FD:={ fn:=f149,tl:=aK,ps:=ps,rs:=[(.bool,(ay .bool))],gl:=[(150,cb.D.sig),(151,ct.D.sig),(152,cZ.D.sig)] }
noncomputable def ab (a:Arg):Option Out:=@lift Out fun k=>D.W k a
noncomputable def p (a1:Arg):Option Out:=bif decide (a1.1.1=a1.2.1.1) then ((cb.ab (a1.1.2.1,a1.2.1.2.1,())).bind fun r2=>bif r2.1 then ((ct.ab (a1.1.2.2.1,a1.2.1.2.2.1,())).bind fun r3=>bif r3.1 then ((cZ.ab (a1.1.2.2.2.1,a1.2.1.2.2.2.1,())).bind fun r4=>some (r4.1,())) else some (false,())) else some (false,())) else some (false,())
theorem aa (k:Nat) (a1:Arg):@Eq (Option Out) (D.W k a1) (p a1):=by kernel_rfl
theorem ok:Ok prog 149 D.sig:=ao func149 aB (by kernel_rfl) (fc cb.ok (fc ct.ok (fc cZ.ok (ak _))))
end jc
namespace cc
abbrev Arg:Type:=(List Tx)×(List Tx)×(Nat×Int)×Unit
abbrev Out:Type:=Bool×Unit
abbrev ps:PQ:=[(.ro,(.U aX)),(.ro,(.U aX)),(.fix 149,.fn)]
noncomputable def D:FD:={ fn:=f148,tl:=aK,ps:=ps,rs:=[(.bool,(ay .bool))],gl:=[(149,jc.D.sig)],lv:=[(4,[1,2,15,16,17])],lx:=[(0,[])] }
noncomputable def ab (a:Arg):Option Out:=@lift Out fun k=>D.W k a
noncomputable def T0 (a1:Arg) (J:Int):St:={ n:=32,sl:=[(1,.val (.U aX) a1.2.1),(2,.val .fn ((149,a1.2.2.1.2):Nat×Int)),(15,.val (.U aX) a1.1),(16,.val i64 (a1.1.length:Int)),(17,.val i64 J)],vr:=[],av:=[] }
noncomputable def b0 (self:Int->Option Out) (e0:(Unit)->Option Out) (a1:Arg) (J:Int):Option Out:=bif decide (J < (a1.1.length:Int)) then (if 0<=J then ((a1.1[J.toNat]?).bind fun aC=>if 0<=J then ((a1.2.1[J.toNat]?).bind fun bU=>(jc.ab (aC,bU,())).bind fun gA=>bif !gA.1 then (some (false,())) else self (ae (J+(1:Int)))) else none) else none) else e0 ()
noncomputable abbrev B0 (_:Nat):=b0
noncomputable def q0 (a1:Arg) (gz:(Unit)):Option Out:=some (true,())
noncomputable abbrev Q0 (_:Nat):=q0
noncomputable def s0 (k:Nat) (a1:Arg):(Int)->Option Out:=fun J=>D.L k [1,1,0,1,0,0] [1,2,15,16,17] [] (af 0 (an (D.N k [1,1,1]) D.K0)) (T0 a1 J)
noncomputable def r0 (k:Nat) (a1:Arg):(Int)->Option Out:=al (fun w v=>B0 k w (Q0 k a1) a1 v) k
theorem ap (k:Nat) (a1:Arg):s0 k a1=r0 k a1:=
 funext fun J=>am _ _ _ (T0 a1) _ (fun rec v=>by kernel_rfl) k J
noncomputable def p (l0:(Int)->Option Out) (a1:Arg):Option Out:=bif !decide ((a1.1.length:Int)=(a1.2.1.length:Int)) then (some (false,())) else l0 (0:Int)
theorem aa (k:Nat) (a1:Arg):@Eq (Option Out) (D.W k a1) (p (r0 k a1) a1):=
 Eq.trans (b:=p (s0 k a1) a1) (by kernel_rfl) (by rw[ap])
theorem ok:Ok prog 148 D.sig:=ao func148 aB (by kernel_rfl) (fc jc.ok (ak _))
end cc
namespace kq
abbrev Arg:Type:=(List Tx)×(List Tx)×Unit
abbrev Out:Type:=Bool×Unit
abbrev ps:PQ:=[(.ro,(.U aX)),(.ro,(.U aX))]
noncomputable def D:FD:={ fn:=f79,tl:=aK,ps:=ps,rs:=[(.bool,(ay .bool))],gl:=[(148,cc.D.sig)] }
noncomputable def ab (a:Arg):Option Out:=@lift Out fun k=>D.W k a
noncomputable def p (a1:Arg):Option Out:=(cc.ab (a1.1,a1.2.1,((149,0):Nat×Int),())).bind fun r2=>some (r2.1,())
theorem aa (k:Nat) (a1:Arg):@Eq (Option Out) (D.W k a1) (p a1):=by kernel_rfl
theorem ok:Ok prog 79 D.sig:=ao func79 aB (by kernel_rfl) (fc cc.ok (ak _))
end kq
namespace jd
abbrev Arg:Type:=fN×Plain×Unit
abbrev Out:Type:=Bool×Unit
abbrev ps:PQ:=[(.ro,co),(.ro,dI)]
noncomputable def D:FD:={ fn:=f19,tl:=aK,ps:=ps,rs:=[(.bool,(ay .bool))],gl:=[(14,iy.D.sig),(63,eE.D.sig),(77,cY.D.sig),(78,iz.D.sig),(79,kq.D.sig)],od:=[(3,[0,2,3,1,4,5,6,7,8,9,10,11,12,13,14,15,16,17,18,19])],ar:=[(3,[0,3,7,9,14,16])],bx:=[(3,[2,3])] }
noncomputable def ab (a:Arg):Option Out:=@lift Out fun k=>D.W k a
noncomputable def p (a1:Arg):Option Out:=(iy.ab (a1.1,())).bind fun r2=>bif !decide (r2.1=(0:Int)) then (some (false,())) else (eE.ab (a1.2.1,())).bind fun r3=>bif !decide (r3.1=(0:Int)) then (some (false,())) else bif !a1.1.1 then (some (false,())) else (iz.ab (a1.1,())).bind fun r4=>(cY.ab (r4.1,a1.2.1.1,())).bind fun r5=>bif r5.1 then ((kq.ab (a1.1.2.2.2.1,a1.2.1.2.1,())).bind fun r6=>bif r6.1 then (some (decide (a1.1.2.2.2.2.1=a1.2.1.2.2.1),())) else some (false,())) else some (false,())
theorem aa (k:Nat) (a1:Arg):@Eq (Option Out) (D.W k a1) (p a1):=by kernel_rfl
theorem ok:Ok prog 19 D.sig:=ao func19 aB (by kernel_rfl) (fc iy.ok (fc eE.ok (fc cY.ok (fc iz.ok (fc kq.ok (ak _))))))
end jd
namespace eO
abbrev Arg:Type:=(List Row)×(List Row)×Unit
abbrev Out:Type:=Bool×Unit
abbrev ps:PQ:=[(.ro,(.U aw)),(.ro,(.U aw))]
noncomputable def D:FD:={ fn:=f80,tl:=aK,ps:=ps,rs:=[(.bool,(ay .bool))],gl:=[(153,gT.D.sig)],lv:=[(4,[0,1,5])],lx:=[(0,[])],od:=[(6,[0,1,2,3,4,5,6,7,8,9])] }
noncomputable def ab (a:Arg):Option Out:=@lift Out fun k=>D.W k a
noncomputable def T0 (a1:Arg) (J:Int):St:={ n:=27,sl:=[(0,.val (.U aw) a1.1),(1,.val (.U aw) a1.2.1),(5,.val i64 J)],vr:=[],av:=[] }
noncomputable def b0 (self:Int->Option Out) (e0:(Unit)->Option Out) (a1:Arg) (J:Int):Option Out:=bif decide (J < (a1.1.length:Int)) then (if 0<=J then ((a1.1[J.toNat]?).bind fun aC=>if 0<=J then ((a1.2.1[J.toNat]?).bind fun bU=>(gT.ab (aC,bU,())).bind fun gA=>bif !gA.1 then (some (false,())) else self (ae (J+(1:Int)))) else none) else none) else e0 ()
noncomputable abbrev B0 (_:Nat):=b0
noncomputable def q0 (a1:Arg) (gz:(Unit)):Option Out:=some (true,())
noncomputable abbrev Q0 (_:Nat):=q0
noncomputable def s0 (k:Nat) (a1:Arg):(Int)->Option Out:=fun J=>D.L k [1,1,0,1,0,0] [0,1,5] [] (af 0 (an (D.N k [1,1,1]) D.K0)) (T0 a1 J)
noncomputable def r0 (k:Nat) (a1:Arg):(Int)->Option Out:=al (fun w v=>B0 k w (Q0 k a1) a1 v) k
theorem ap (k:Nat) (a1:Arg):s0 k a1=r0 k a1:=
 funext fun J=>am _ _ _ (T0 a1) _ (fun rec v=>by kernel_rfl) k J
noncomputable def p (l0:(Int)->Option Out) (a1:Arg):Option Out:=bif !decide ((a1.1.length:Int)=(a1.2.1.length:Int)) then (some (false,())) else l0 (0:Int)
theorem aa (k:Nat) (a1:Arg):@Eq (Option Out) (D.W k a1) (p (r0 k a1) a1):=
 Eq.trans (b:=p (s0 k a1) a1) (by kernel_rfl) (by rw[ap])
theorem ok:Ok prog 80 D.sig:=ao func80 aB (by kernel_rfl) (fc gT.ok (ak _))
end eO
namespace jx
abbrev Arg:Type:=Plain×Plain×Unit
abbrev Out:Type:=Bool×Unit
abbrev ps:PQ:=[(.ro,dI),(.ro,dI)]
noncomputable def D:FD:={ fn:=f20,tl:=aK,ps:=ps,rs:=[(.bool,(ay .bool))],gl:=[(70,ee.D.sig),(80,eO.D.sig)] }
noncomputable def ab (a:Arg):Option Out:=@lift Out fun k=>D.W k a
noncomputable def p (a1:Arg):Option Out:=(eO.ab (a1.1.1,a1.2.1.1,())).bind fun r2=>bif !r2.1 then (some (false,())) else (ee.ab (a1.1.2.1,a1.2.1.2.1,())).bind fun r3=>bif !r3.1 then (some (false,())) else bif !decide (a1.1.2.2.1=a1.2.1.2.2.1) then (some (false,())) else some (true,())
theorem aa (k:Nat) (a1:Arg):@Eq (Option Out) (D.W k a1) (p a1):=by kernel_rfl
theorem ok:Ok prog 20 D.sig:=ao func20 aB (by kernel_rfl) (fc ee.ok (fc eO.ok (ak _)))
end jx
namespace bK
abbrev Arg:Type:=fN×Plain×Unit
abbrev Out:Type:=Bool×Unit
abbrev ps:PQ:=[(.ro,co),(.ro,dI)]
noncomputable def D:FD:={ fn:=f4,tl:=aK,ps:=ps,rs:=[(.bool,(ay .bool))],gl:=[(11,jo.D.sig),(13,gJ.D.sig),(15,jv.D.sig),(16,jw.D.sig),(17,cX.D.sig),(18,gM.D.sig),(19,jd.D.sig),(20,jx.D.sig)],od:=[(8,[0,2,1,3,4,5]),(14,[0,1,2,3,4]),(16,[0,1,2,3,4])] }
noncomputable def ab (a:Arg):Option Out:=@lift Out fun k=>D.W k a
noncomputable def p (a1:Arg):Option Out:=(jo.ab (a1.1,(1048576:Int),())).bind fun r2=>bif decide (r2.1 < (0:Int)) then (some (true,())) else (jw.ab (a1.2.1,r2.1,())).bind fun r3=>bif decide (r3.1 < (0:Int)) then (some (true,())) else (gJ.ab (a1.1,())).bind fun r4=>(gM.ab (a1.2.1,())).bind fun r5=>(cX.ab (r4.1,r5.1,())).bind fun r6=>(gJ.ab (a1.1,())).bind fun r7=>(gM.ab (a1.2.1,())).bind fun r8=>(jd.ab (r7.1,r8.1,())).bind fun r9=>bif !(r9.1 == r6.1) then (some (false,())) else (gJ.ab (a1.1,())).bind fun CD=>(jv.ab (r7.1,CD.1,())).bind fun NQ=>bif !NQ.1 then (some (false,())) else (gM.ab (a1.2.1,())).bind fun Iu=>(jx.ab (r8.1,Iu.1,())).bind fun SQ=>bif !SQ.1 then (some (false,())) else some (true,())
theorem aa (k:Nat) (a1:Arg):@Eq (Option Out) (D.W k a1) (p a1):=by kernel_rfl
theorem ok:Ok prog 4 D.sig:=ao func4 aB (by kernel_rfl) (fc jo.ok (fc gJ.ok (fc jv.ok (fc jw.ok (fc cX.ok (fc gM.ok (fc jd.ok (fc jx.ok (ak _)))))))))
end bK
end OT
set_option linter.unusedVariables false
set_option linter.unusedSimpArgs false
namespace OT
open Go
theorem tN (x:List UInt8) (n:Int) (hx:lH (.U u8) x) (h0:0<=n) (h1:n<=1048576):fG.ab (x,n,())=some (bH n (zz (.U u8) x),()):=by
 obtain ⟨hl,iY⟩:=hx
 have gE:=hl
 rw[ah] at gE
 have gE:List.length x<=9223372036854775807:=gE
 have hw:ae (n - (List.length x:Int))=n - (List.length x:Int):=aP (by omega)
 have hz:zz (.U u8) x=List.length x+0:=by show List.length x+jQ _ _=_;exact congrArg (List.length x+·) (rP _ (fun _=>rfl) x)
 refine ag (k:=0) fun k _=>(fG.aa k _).trans ?_
 show fG.p _=_
 unfold fG.p
 simp only[hw,hz,Nat.add_zero]
 by_cases hc:(List.length x:Int)<=n
 ·have e1:bH n (List.length x)=n - (List.length x:Int):=if_pos hc
  have n1:¬ (n - (List.length x:Int) < 0):=by omega
  simp[e1,n1]
 ·have e1:bH n (List.length x)=-1:=if_neg hc
  have n1:n - (List.length x:Int) < 0:=by omega
  simp[e1,n1]
theorem DN (x:List (List UInt8)) (n:Int) (hx:lH (.U (.U u8)) x) (h0:0<=n) (h1:n<=1048576):cL.ab (x,n,())=some (bH n (zz (.U (.U u8)) x),()):=by
 obtain ⟨hl,iY⟩:=hx
 have gE:=hl
 rw[ah] at gE
 have gE:List.length x<=9223372036854775807:=gE
 have hw:ae (n - (List.length x:Int))=n - (List.length x:Int):=aP (by omega)
 have hz:zz (.U (.U u8)) x=List.length x+jQ (zz (.U u8)) x:=rfl
 by_cases hc:n - (List.length x:Int) < 0
 ·have e1:bH n (zz (.U (.U u8)) x)=-1:=if_neg (by omega)
  rw[e1]
  refine ag (k:=0) fun k _=>(cL.aa k _).trans ?_
  unfold cL.p
  simp only[hw,hc,decide_true,cond_true]
  try rfl
 ·have e1:bH n (zz (.U (.U u8)) x)=bH (n - (List.length x:Int)) (jQ (zz (.U u8)) x):=by rw[hz,wd (by omega)]
  rw[e1]
  refine ag (k:=List.length x+1) fun k hk=>(cL.aa k _).trans ?_
  unfold cL.p
  simp only[hw,hc,decide_false,cond_false]
  exact wc (B:=fun self v=>cL.B0 0 self (fun z=>cL.Q0 0 (x,n,()) z) (x,n,()) v) (xs:=x) hl (zz (.U u8)) (fun i hi m self yw nY=>by
    show cL.b0 _ _ _ _=_
    unfold cL.b0
    have aj:(i:Int) < (List.length x:Int):=by omega
    simp only[aj,decide_true,cond_true,Int.natCast_nonneg,if_true,Int.toNat_natCast,List.getElem?_eq_getElem hi,Option.bind_some,tN x[i] m (iY _ (List.getElem_mem hi)) yw nY]
    by_cases hs:bH m (zz (.U u8) x[i]) < 0 <;> simp[hs]) (fun m self=>by
    show cL.b0 _ _ _ _=_
    unfold cL.b0
    simp[cL.Q0,cL.q0]) _ (by omega) (by omega) k (by omega)
theorem J1 (x:Log) (n:Int) (hx:lH eS x) (h0:0<=n) (h1:n<=1048576):kN.ab (x,n,())=some (bH n (zz eS x),()):=by
 have hz:zz eS x=(zz (.U u8) x.1+(zz (.U u8) x.2.1+0)):=rfl
 refine ag (k:=0) fun k _=>(kN.aa k _).trans ?_
 show kN.p _=_
 unfold kN.p
 simp only[tN x.1 (n) hx.1 (by omega) (by omega),Option.bind_some]
 by_cases hc:((zz (.U u8) x.1:Nat):Int)<=n
 rotate_left
 ·have e1:bH (n) (zz (.U u8) x.1)=-1:=if_neg hc
  have e2:bH n (zz eS x)=-1:=if_neg (by omega)
  rw[e1,e2];rfl
 have e1:bH (n) (zz (.U u8) x.1)=n - ((zz (.U u8) x.1:Nat):Int):=if_pos hc
 have n1:¬ (n - ((zz (.U u8) x.1:Nat):Int) < 0):=by omega
 simp only[e1,n1,decide_false,cond_false]
 clear e1 n1
 simp only[tN x.2.1 ((n - ((zz (.U u8) x.1:Nat):Int))) hx.2.1 (by omega) (by omega),Option.bind_some]
 by_cases hc:((zz (.U u8) x.2.1:Nat):Int)<=(n - ((zz (.U u8) x.1:Nat):Int))
 rotate_left
 ·have e1:bH ((n - ((zz (.U u8) x.1:Nat):Int))) (zz (.U u8) x.2.1)=-1:=if_neg hc
  have e2:bH n (zz eS x)=-1:=if_neg (by omega)
  rw[e1,e2];rfl
 have e1:bH ((n - ((zz (.U u8) x.1:Nat):Int))) (zz (.U u8) x.2.1)=(n - ((zz (.U u8) x.1:Nat):Int)) - ((zz (.U u8) x.2.1:Nat):Int):=if_pos hc
 have n1:¬ ((n - ((zz (.U u8) x.1:Nat):Int)) - ((zz (.U u8) x.2.1:Nat):Int) < 0):=by omega
 simp only[e1,n1,decide_false,cond_false]
 clear e1 n1
 have e2:bH n (zz eS x)=((n - ((zz (.U u8) x.1:Nat):Int)) - ((zz (.U u8) x.2.1:Nat):Int)):=by unfold bH;rw[if_pos (by omega)];omega
 rw[e2]
theorem w_ (x:Row) (n:Int) (hx:lH aw x) (h0:0<=n) (h1:n<=1048576):gN.ab (x,n,())=some (bH n (zz aw x),()):=by
 have hz:zz aw x=(0+(0+(0+(List.length x.2.2.2.1+0)))):=rfl
 refine ag (k:=0) fun k _=>(gN.aa k _).trans ?_
 show gN.p _=_
 unfold gN.p
 have hw:ae (n - (List.length x.2.2.2.1:Int))=n - (List.length x.2.2.2.1:Int):=aP (by have h9:=hx.2.2.2.1;simp only[lH] at h9;rw[ah] at h9;omega)
 simp only[hw]
 by_cases hc:((List.length x.2.2.2.1:Nat):Int)<=n
 rotate_left
 ·have n1:n - ((List.length x.2.2.2.1:Nat):Int) < 0:=by omega
  have e2:bH n (zz aw x)=-1:=if_neg (by omega)
  rw[e2];simp only[n1,decide_true,cond_true]
 have n1:¬ (n - ((List.length x.2.2.2.1:Nat):Int) < 0):=by omega
 simp only[n1,decide_false,cond_false]
 clear n1 hw
 have e2:bH n (zz aw x)=(n - ((List.length x.2.2.2.1:Nat):Int)):=by unfold bH;rw[if_pos (by omega)];omega
 rw[e2]
theorem DO (x:Change) (n:Int) (hx:lH au x) (h0:0<=n) (h1:n<=1048576):iF.ab (x,n,())=some (bH n (zz au x),()):=by
 have hz:zz au x=(0+((0+(0+(0+(List.length x.2.1.2.2.2.1+0))))+(0+((0+(0+(0+(List.length x.2.2.2.1.2.2.2.1+0))))+0)))):=rfl
 refine ag (k:=0) fun k _=>(iF.aa k _).trans ?_
 show iF.p _=_
 unfold iF.p
 have ur:zz aw x.2.1=(0+(0+(0+(List.length x.2.1.2.2.2.1+0)))):=rfl
 simp only[w_ x.2.1 (n) hx.2.1 (by omega) (by omega),Option.bind_some]
 by_cases hc:((zz aw x.2.1:Nat):Int)<=n
 rotate_left
 ·have e1:bH (n) (zz aw x.2.1)=-1:=if_neg hc
  have e2:bH n (zz au x)=-1:=if_neg (by omega)
  rw[e1,e2];rfl
 have e1:bH (n) (zz aw x.2.1)=n - ((zz aw x.2.1:Nat):Int):=if_pos hc
 have n1:¬ (n - ((zz aw x.2.1:Nat):Int) < 0):=by omega
 simp only[e1,n1,decide_false,cond_false]
 clear e1 n1
 have P3:zz aw x.2.2.2.1=(0+(0+(0+(List.length x.2.2.2.1.2.2.2.1+0)))):=rfl
 simp only[w_ x.2.2.2.1 ((n - ((zz aw x.2.1:Nat):Int))) hx.2.2.2.1 (by omega) (by omega),Option.bind_some]
 by_cases hc:((zz aw x.2.2.2.1:Nat):Int)<=(n - ((zz aw x.2.1:Nat):Int))
 rotate_left
 ·have e1:bH ((n - ((zz aw x.2.1:Nat):Int))) (zz aw x.2.2.2.1)=-1:=if_neg hc
  have e2:bH n (zz au x)=-1:=if_neg (by omega)
  rw[e1,e2];rfl
 have e1:bH ((n - ((zz aw x.2.1:Nat):Int))) (zz aw x.2.2.2.1)=(n - ((zz aw x.2.1:Nat):Int)) - ((zz aw x.2.2.2.1:Nat):Int):=if_pos hc
 have n1:¬ ((n - ((zz aw x.2.1:Nat):Int)) - ((zz aw x.2.2.2.1:Nat):Int) < 0):=by omega
 simp only[e1,n1,decide_false,cond_false]
 clear e1 n1
 have e2:bH n (zz au x)=((n - ((zz aw x.2.1:Nat):Int)) - ((zz aw x.2.2.2.1:Nat):Int)):=by unfold bH;rw[if_pos (by omega)];omega
 rw[e2]
theorem CG (x:List Change) (n:Int) (hx:lH (.U au) x) (h0:0<=n) (h1:n<=1048576):cq.ab (x,n,())=some (bH n (zz (.U au) x),()):=by
 obtain ⟨hl,iY⟩:=hx
 have gE:=hl
 rw[ah] at gE
 have gE:List.length x<=9223372036854775807:=gE
 have hw:ae (n - (List.length x:Int))=n - (List.length x:Int):=aP (by omega)
 have hz:zz (.U au) x=List.length x+jQ (zz au) x:=rfl
 by_cases hc:n - (List.length x:Int) < 0
 ·have e1:bH n (zz (.U au) x)=-1:=if_neg (by omega)
  rw[e1]
  refine ag (k:=0) fun k _=>(cq.aa k _).trans ?_
  unfold cq.p
  simp only[hw,hc,decide_true,cond_true]
  try rfl
 ·have e1:bH n (zz (.U au) x)=bH (n - (List.length x:Int)) (jQ (zz au) x):=by rw[hz,wd (by omega)]
  rw[e1]
  refine ag (k:=List.length x+1) fun k hk=>(cq.aa k _).trans ?_
  unfold cq.p
  simp only[hw,hc,decide_false,cond_false]
  exact wc (B:=fun self v=>cq.B0 0 self (fun z=>cq.Q0 0 (x,n,()) z) (x,n,()) v) (xs:=x) hl (zz au) (fun i hi m self yw nY=>by
    show cq.b0 _ _ _ _=_
    unfold cq.b0
    have aj:(i:Int) < (List.length x:Int):=by omega
    simp only[aj,decide_true,cond_true,Int.natCast_nonneg,if_true,Int.toNat_natCast,List.getElem?_eq_getElem hi,Option.bind_some,DO x[i] m (iY _ (List.getElem_mem hi)) yw nY]
    by_cases hs:bH m (zz au x[i]) < 0 <;> simp[hs]) (fun m self=>by
    show cq.b0 _ _ _ _=_
    unfold cq.b0
    simp[cq.Q0,cq.q0]) _ (by omega) (by omega) k (by omega)
theorem DP (x:List Int) (n:Int) (hx:lH (.U i64) x) (h0:0<=n) (h1:n<=1048576):iG.ab (x,n,())=some (bH n (zz (.U i64) x),()):=by
 obtain ⟨hl,iY⟩:=hx
 have gE:=hl
 rw[ah] at gE
 have gE:List.length x<=9223372036854775807:=gE
 have hw:ae (n - (List.length x:Int))=n - (List.length x:Int):=aP (by omega)
 have hz:zz (.U i64) x=List.length x+0:=by show List.length x+jQ _ _=_;exact congrArg (List.length x+·) (rP _ (fun _=>rfl) x)
 refine ag (k:=0) fun k _=>(iG.aa k _).trans ?_
 show iG.p _=_
 unfold iG.p
 simp only[hw,hz,Nat.add_zero]
 by_cases hc:(List.length x:Int)<=n
 ·have e1:bH n (List.length x)=n - (List.length x:Int):=if_pos hc
  have n1:¬ (n - (List.length x:Int) < 0):=by omega
  simp[e1,n1]
 ·have e1:bH n (List.length x)=-1:=if_neg hc
  have n1:n - (List.length x:Int) < 0:=by omega
  simp[e1,n1]
theorem Iv (x:List Key) (n:Int) (hx:lH (.U aF) x) (h0:0<=n) (h1:n<=1048576):j_.ab (x,n,())=some (bH n (zz (.U aF) x),()):=by
 obtain ⟨hl,iY⟩:=hx
 have gE:=hl
 rw[ah] at gE
 have gE:List.length x<=9223372036854775807:=gE
 have hw:ae (n - (List.length x:Int))=n - (List.length x:Int):=aP (by omega)
 have hz:zz (.U aF) x=List.length x+0:=by show List.length x+jQ _ _=_;exact congrArg (List.length x+·) (rP _ (fun _=>rfl) x)
 refine ag (k:=0) fun k _=>(j_.aa k _).trans ?_
 show j_.p _=_
 unfold j_.p
 simp only[hw,hz,Nat.add_zero]
 by_cases hc:(List.length x:Int)<=n
 ·have e1:bH n (List.length x)=n - (List.length x:Int):=if_pos hc
  have n1:¬ (n - (List.length x:Int) < 0):=by omega
  simp[e1,n1]
 ·have e1:bH n (List.length x)=-1:=if_neg hc
  have n1:n - (List.length x:Int) < 0:=by omega
  simp[e1,n1]
theorem Me (x:Tx) (n:Int) (hx:lH aX x) (h0:0<=n) (h1:n<=1048576):lI.ab (x,n,())=some (bH n (zz aX x),()):=by
 have hz:zz aX x=(0+(zz (.U au) x.2.1+(zz (.U i64) x.2.2.1+(zz (.U aF) x.2.2.2.1+0)))):=rfl
 refine ag (k:=0) fun k _=>(lI.aa k _).trans ?_
 show lI.p _=_
 unfold lI.p
 simp only[CG x.2.1 (n) hx.2.1 (by omega) (by omega),Option.bind_some]
 by_cases hc:((zz (.U au) x.2.1:Nat):Int)<=n
 rotate_left
 ·have e1:bH (n) (zz (.U au) x.2.1)=-1:=if_neg hc
  have e2:bH n (zz aX x)=-1:=if_neg (by omega)
  rw[e1,e2];rfl
 have e1:bH (n) (zz (.U au) x.2.1)=n - ((zz (.U au) x.2.1:Nat):Int):=if_pos hc
 have n1:¬ (n - ((zz (.U au) x.2.1:Nat):Int) < 0):=by omega
 simp only[e1,n1,decide_false,cond_false]
 clear e1 n1
 simp only[DP x.2.2.1 ((n - ((zz (.U au) x.2.1:Nat):Int))) hx.2.2.1 (by omega) (by omega),Option.bind_some]
 by_cases hc:((zz (.U i64) x.2.2.1:Nat):Int)<=(n - ((zz (.U au) x.2.1:Nat):Int))
 rotate_left
 ·have e1:bH ((n - ((zz (.U au) x.2.1:Nat):Int))) (zz (.U i64) x.2.2.1)=-1:=if_neg hc
  have e2:bH n (zz aX x)=-1:=if_neg (by omega)
  rw[e1,e2];rfl
 have e1:bH ((n - ((zz (.U au) x.2.1:Nat):Int))) (zz (.U i64) x.2.2.1)=(n - ((zz (.U au) x.2.1:Nat):Int)) - ((zz (.U i64) x.2.2.1:Nat):Int):=if_pos hc
 have n1:¬ ((n - ((zz (.U au) x.2.1:Nat):Int)) - ((zz (.U i64) x.2.2.1:Nat):Int) < 0):=by omega
 simp only[e1,n1,decide_false,cond_false]
 clear e1 n1
 simp only[Iv x.2.2.2.1 (((n - ((zz (.U au) x.2.1:Nat):Int)) - ((zz (.U i64) x.2.2.1:Nat):Int))) hx.2.2.2.1 (by omega) (by omega),Option.bind_some]
 by_cases hc:((zz (.U aF) x.2.2.2.1:Nat):Int)<=((n - ((zz (.U au) x.2.1:Nat):Int)) - ((zz (.U i64) x.2.2.1:Nat):Int))
 rotate_left
 ·have e1:bH (((n - ((zz (.U au) x.2.1:Nat):Int)) - ((zz (.U i64) x.2.2.1:Nat):Int))) (zz (.U aF) x.2.2.2.1)=-1:=if_neg hc
  have e2:bH n (zz aX x)=-1:=if_neg (by omega)
  rw[e1,e2];rfl
 have e1:bH (((n - ((zz (.U au) x.2.1:Nat):Int)) - ((zz (.U i64) x.2.2.1:Nat):Int))) (zz (.U aF) x.2.2.2.1)=((n - ((zz (.U au) x.2.1:Nat):Int)) - ((zz (.U i64) x.2.2.1:Nat):Int)) - ((zz (.U aF) x.2.2.2.1:Nat):Int):=if_pos hc
 have n1:¬ (((n - ((zz (.U au) x.2.1:Nat):Int)) - ((zz (.U i64) x.2.2.1:Nat):Int)) - ((zz (.U aF) x.2.2.2.1:Nat):Int) < 0):=by omega
 simp only[e1,n1,decide_false,cond_false]
 clear e1 n1
 have e2:bH n (zz aX x)=(((n - ((zz (.U au) x.2.1:Nat):Int)) - ((zz (.U i64) x.2.2.1:Nat):Int)) - ((zz (.U aF) x.2.2.2.1:Nat):Int)):=by unfold bH;rw[if_pos (by omega)];omega
 rw[e2]
theorem CH (x:List Tx) (n:Int) (hx:lH (.U aX) x) (h0:0<=n) (h1:n<=1048576):dr.ab (x,n,())=some (bH n (zz (.U aX) x),()):=by
 obtain ⟨hl,iY⟩:=hx
 have gE:=hl
 rw[ah] at gE
 have gE:List.length x<=9223372036854775807:=gE
 have hw:ae (n - (List.length x:Int))=n - (List.length x:Int):=aP (by omega)
 have hz:zz (.U aX) x=List.length x+jQ (zz aX) x:=rfl
 by_cases hc:n - (List.length x:Int) < 0
 ·have e1:bH n (zz (.U aX) x)=-1:=if_neg (by omega)
  rw[e1]
  refine ag (k:=0) fun k _=>(dr.aa k _).trans ?_
  unfold dr.p
  simp only[hw,hc,decide_true,cond_true]
  try rfl
 ·have e1:bH n (zz (.U aX) x)=bH (n - (List.length x:Int)) (jQ (zz aX) x):=by rw[hz,wd (by omega)]
  rw[e1]
  refine ag (k:=List.length x+1) fun k hk=>(dr.aa k _).trans ?_
  unfold dr.p
  simp only[hw,hc,decide_false,cond_false]
  exact wc (B:=fun self v=>dr.B0 0 self (fun z=>dr.Q0 0 (x,n,()) z) (x,n,()) v) (xs:=x) hl (zz aX) (fun i hi m self yw nY=>by
    show dr.b0 _ _ _ _=_
    unfold dr.b0
    have aj:(i:Int) < (List.length x:Int):=by omega
    simp only[aj,decide_true,cond_true,Int.natCast_nonneg,if_true,Int.toNat_natCast,List.getElem?_eq_getElem hi,Option.bind_some,Me x[i] m (iY _ (List.getElem_mem hi)) yw nY]
    by_cases hs:bH m (zz aX x[i]) < 0 <;> simp[hs]) (fun m self=>by
    show dr.b0 _ _ _ _=_
    unfold dr.b0
    simp[dr.Q0,dr.q0]) _ (by omega) (by omega) k (by omega)
theorem Gt (x:fN) (n:Int) (hx:lH co x) (h0:0<=n) (h1:n<=1048576):jo.ab (x,n,())=some (bH n (zz co x),()):=by
 have hz:zz co x=(0+(zz (.U (.U u8)) x.2.1+((zz (.U u8) x.2.2.1.1+(zz (.U u8) x.2.2.1.2.1+0))+(zz (.U aX) x.2.2.2.1+(0+0))))):=rfl
 refine ag (k:=0) fun k _=>(jo.aa k _).trans ?_
 show jo.p _=_
 unfold jo.p
 simp only[DN x.2.1 (n) hx.2.1 (by omega) (by omega),Option.bind_some]
 by_cases hc:((zz (.U (.U u8)) x.2.1:Nat):Int)<=n
 rotate_left
 ·have e1:bH (n) (zz (.U (.U u8)) x.2.1)=-1:=if_neg hc
  have e2:bH n (zz co x)=-1:=if_neg (by omega)
  rw[e1,e2];rfl
 have e1:bH (n) (zz (.U (.U u8)) x.2.1)=n - ((zz (.U (.U u8)) x.2.1:Nat):Int):=if_pos hc
 have n1:¬ (n - ((zz (.U (.U u8)) x.2.1:Nat):Int) < 0):=by omega
 simp only[e1,n1,decide_false,cond_false]
 clear e1 n1
 have vd:zz eS x.2.2.1=(zz (.U u8) x.2.2.1.1+(zz (.U u8) x.2.2.1.2.1+0)):=rfl
 simp only[J1 x.2.2.1 ((n - ((zz (.U (.U u8)) x.2.1:Nat):Int))) hx.2.2.1 (by omega) (by omega),Option.bind_some]
 by_cases hc:((zz eS x.2.2.1:Nat):Int)<=(n - ((zz (.U (.U u8)) x.2.1:Nat):Int))
 rotate_left
 ·have e1:bH ((n - ((zz (.U (.U u8)) x.2.1:Nat):Int))) (zz eS x.2.2.1)=-1:=if_neg hc
  have e2:bH n (zz co x)=-1:=if_neg (by omega)
  rw[e1,e2];rfl
 have e1:bH ((n - ((zz (.U (.U u8)) x.2.1:Nat):Int))) (zz eS x.2.2.1)=(n - ((zz (.U (.U u8)) x.2.1:Nat):Int)) - ((zz eS x.2.2.1:Nat):Int):=if_pos hc
 have n1:¬ ((n - ((zz (.U (.U u8)) x.2.1:Nat):Int)) - ((zz eS x.2.2.1:Nat):Int) < 0):=by omega
 simp only[e1,n1,decide_false,cond_false]
 clear e1 n1
 simp only[CH x.2.2.2.1 (((n - ((zz (.U (.U u8)) x.2.1:Nat):Int)) - ((zz eS x.2.2.1:Nat):Int))) hx.2.2.2.1 (by omega) (by omega),Option.bind_some]
 by_cases hc:((zz (.U aX) x.2.2.2.1:Nat):Int)<=((n - ((zz (.U (.U u8)) x.2.1:Nat):Int)) - ((zz eS x.2.2.1:Nat):Int))
 rotate_left
 ·have e1:bH (((n - ((zz (.U (.U u8)) x.2.1:Nat):Int)) - ((zz eS x.2.2.1:Nat):Int))) (zz (.U aX) x.2.2.2.1)=-1:=if_neg hc
  have e2:bH n (zz co x)=-1:=if_neg (by omega)
  rw[e1,e2];rfl
 have e1:bH (((n - ((zz (.U (.U u8)) x.2.1:Nat):Int)) - ((zz eS x.2.2.1:Nat):Int))) (zz (.U aX) x.2.2.2.1)=((n - ((zz (.U (.U u8)) x.2.1:Nat):Int)) - ((zz eS x.2.2.1:Nat):Int)) - ((zz (.U aX) x.2.2.2.1:Nat):Int):=if_pos hc
 have n1:¬ (((n - ((zz (.U (.U u8)) x.2.1:Nat):Int)) - ((zz eS x.2.2.1:Nat):Int)) - ((zz (.U aX) x.2.2.2.1:Nat):Int) < 0):=by omega
 simp only[e1,n1,decide_false,cond_false]
 clear e1 n1
 have e2:bH n (zz co x)=(((n - ((zz (.U (.U u8)) x.2.1:Nat):Int)) - ((zz eS x.2.2.1:Nat):Int)) - ((zz (.U aX) x.2.2.2.1:Nat):Int)):=by unfold bH;rw[if_pos (by omega)];omega
 rw[e2]
theorem tO (x:List UInt8) (h:zz (.U u8) x<=1048576):cH.ab (x,())=some (x,()):=by
 have hl:x.length<=1048576:=Nat.le_trans (gx (e:=u8) x) h
 refine ag (k:=x.length+1) fun k hk=>(cH.aa k _).trans ?_
 unfold cH.p
 have hc:0<=(x.length:Int)/\(x.length:Int)<=(x.length:Int)/\(x.length:Int)<=(bm:Int):=by simp only[bm];omega
 simp only[hc,and_self,if_true,Int.toNat_natCast]
 exact mQ (B:=fun self v=>cH.B0 k self (fun z=>cH.Q0 k (x,()) z) (x,()) v) (xs:=x) (by rw[ah];omega) (fun i hi acc self ha=>by
  show cH.b0 _ _ _ _=_
  unfold cH.b0
  have aj:(i:Int) < (x.length:Int):=by omega
  have lV:(i:Int) < (acc.length:Int):=by omega
  simp only[aj,lV,decide_true,cond_true,Int.natCast_nonneg,and_self,if_true,Int.toNat_natCast,List.getElem?_eq_getElem hi,List.getElem?_eq_getElem (show i < acc.length by omega),Option.bind_some]) (fun acc self=>by
  show cH.b0 _ _ _ _=_
  unfold cH.b0
  simp[cH.Q0,cH.q0]) _ k (by omega)
theorem DQ (x:List (List UInt8)) (h:zz (.U (.U u8)) x<=1048576):dB.ab (x,())=some (x,()):=by
 have hl:x.length<=1048576:=Nat.le_trans (gx (e:=(.U u8)) x) h
 refine ag (k:=x.length+1) fun k hk=>(dB.aa k _).trans ?_
 unfold dB.p
 have hc:0<=(x.length:Int)/\(x.length:Int)<=(x.length:Int)/\(x.length:Int)<=(bm:Int):=by simp only[bm];omega
 simp only[hc,and_self,if_true,Int.toNat_natCast]
 exact mQ (B:=fun self v=>dB.B0 k self (fun z=>dB.Q0 k (x,()) z) (x,()) v) (xs:=x) (by rw[ah];omega) (fun i hi acc self ha=>by
  show dB.b0 _ _ _ _=_
  unfold dB.b0
  have aj:(i:Int) < (x.length:Int):=by omega
  have lV:(i:Int) < (acc.length:Int):=by omega
  simp only[aj,lV,decide_true,cond_true,Int.natCast_nonneg,and_self,if_true,Int.toNat_natCast,List.getElem?_eq_getElem hi,List.getElem?_eq_getElem (show i < acc.length by omega),Option.bind_some,tO x[i] (by have:=mg (e:=(.U u8)) (List.getElem_mem hi);omega)]) (fun acc self=>by
  show dB.b0 _ _ _ _=_
  unfold dB.b0
  simp[dB.Q0,dB.q0]) _ k (by omega)
theorem J2 (x:Log) (h:zz eS x<=1048576):kQ.ab (x,())=some (x,()):=by
 have hz:zz eS x=(zz (.U u8) x.1+(zz (.U u8) x.2.1+0)):=rfl
 refine ag (k:=0) fun k _=>(kQ.aa k _).trans ?_
 show kQ.p _=_
 unfold kQ.p
 simp only[tO x.1 (by omega),tO x.2.1 (by omega),Option.bind_some]
theorem xd (x:Row) (h:zz aw x<=1048576):gQ.ab (x,())=some (x,()):=by
 have hz:zz aw x=(0+(0+(0+(List.length x.2.2.2.1+0)))):=rfl
 refine ag (k:=0) fun k _=>(gQ.aa k _).trans ?_
 show gQ.p _=_
 unfold gQ.p
 rfl
theorem DR (x:Change) (h:zz au x<=1048576):iK.ab (x,())=some (x,()):=by
 have hz:zz au x=(0+((0+(0+(0+(List.length x.2.1.2.2.2.1+0))))+(0+((0+(0+(0+(List.length x.2.2.2.1.2.2.2.1+0))))+0)))):=rfl
 have ur:zz aw x.2.1=(0+(0+(0+(List.length x.2.1.2.2.2.1+0)))):=rfl
 have P3:zz aw x.2.2.2.1=(0+(0+(0+(List.length x.2.2.2.1.2.2.2.1+0)))):=rfl
 refine ag (k:=0) fun k _=>(iK.aa k _).trans ?_
 show iK.p _=_
 unfold iK.p
 simp only[xd x.2.1 (by omega),xd x.2.2.2.1 (by omega),Option.bind_some]
theorem CI (x:List Change) (h:zz (.U au) x<=1048576):cT.ab (x,())=some (x,()):=by
 have hl:x.length<=1048576:=Nat.le_trans (gx (e:=au) x) h
 refine ag (k:=x.length+1) fun k hk=>(cT.aa k _).trans ?_
 unfold cT.p
 have hc:0<=(x.length:Int)/\(x.length:Int)<=(x.length:Int)/\(x.length:Int)<=(bm:Int):=by simp only[bm];omega
 simp only[hc,and_self,if_true,Int.toNat_natCast]
 exact mQ (B:=fun self v=>cT.B0 k self (fun z=>cT.Q0 k (x,()) z) (x,()) v) (xs:=x) (by rw[ah];omega) (fun i hi acc self ha=>by
  show cT.b0 _ _ _ _=_
  unfold cT.b0
  have aj:(i:Int) < (x.length:Int):=by omega
  have lV:(i:Int) < (acc.length:Int):=by omega
  simp only[aj,lV,decide_true,cond_true,Int.natCast_nonneg,and_self,if_true,Int.toNat_natCast,List.getElem?_eq_getElem hi,List.getElem?_eq_getElem (show i < acc.length by omega),Option.bind_some,DR x[i] (by have:=mg (e:=au) (List.getElem_mem hi);omega)]) (fun acc self=>by
  show cT.b0 _ _ _ _=_
  unfold cT.b0
  simp[cT.Q0,cT.q0]) _ k (by omega)
theorem DS (x:List Int) (h:zz (.U i64) x<=1048576):dC.ab (x,())=some (x,()):=by
 have hl:x.length<=1048576:=Nat.le_trans (gx (e:=i64) x) h
 refine ag (k:=x.length+1) fun k hk=>(dC.aa k _).trans ?_
 unfold dC.p
 have hc:0<=(x.length:Int)/\(x.length:Int)<=(x.length:Int)/\(x.length:Int)<=(bm:Int):=by simp only[bm];omega
 simp only[hc,and_self,if_true,Int.toNat_natCast]
 exact mQ (B:=fun self v=>dC.B0 k self (fun z=>dC.Q0 k (x,()) z) (x,()) v) (xs:=x) (by rw[ah];omega) (fun i hi acc self ha=>by
  show dC.b0 _ _ _ _=_
  unfold dC.b0
  have aj:(i:Int) < (x.length:Int):=by omega
  have lV:(i:Int) < (acc.length:Int):=by omega
  simp only[aj,lV,decide_true,cond_true,Int.natCast_nonneg,and_self,if_true,Int.toNat_natCast,List.getElem?_eq_getElem hi,List.getElem?_eq_getElem (show i < acc.length by omega),Option.bind_some]) (fun acc self=>by
  show dC.b0 _ _ _ _=_
  unfold dC.b0
  simp[dC.Q0,dC.q0]) _ k (by omega)
theorem J3 (x:Key) (h:zz aF x<=1048576):kR.ab (x,())=some (x,()):=by
 have hz:zz aF x=(0+(0+0)):=rfl
 refine ag (k:=0) fun k _=>(kR.aa k _).trans ?_
 show kR.p _=_
 unfold kR.p
 rfl
theorem Iw (x:List Key) (h:zz (.U aF) x<=1048576):eK.ab (x,())=some (x,()):=by
 have hl:x.length<=1048576:=Nat.le_trans (gx (e:=aF) x) h
 refine ag (k:=x.length+1) fun k hk=>(eK.aa k _).trans ?_
 unfold eK.p
 have hc:0<=(x.length:Int)/\(x.length:Int)<=(x.length:Int)/\(x.length:Int)<=(bm:Int):=by simp only[bm];omega
 simp only[hc,and_self,if_true,Int.toNat_natCast]
 exact mQ (B:=fun self v=>eK.B0 k self (fun z=>eK.Q0 k (x,()) z) (x,()) v) (xs:=x) (by rw[ah];omega) (fun i hi acc self ha=>by
  show eK.b0 _ _ _ _=_
  unfold eK.b0
  have aj:(i:Int) < (x.length:Int):=by omega
  have lV:(i:Int) < (acc.length:Int):=by omega
  simp only[aj,lV,decide_true,cond_true,Int.natCast_nonneg,and_self,if_true,Int.toNat_natCast,List.getElem?_eq_getElem hi,List.getElem?_eq_getElem (show i < acc.length by omega),Option.bind_some,J3 x[i] (by have:=mg (e:=aF) (List.getElem_mem hi);omega)]) (fun acc self=>by
  show eK.b0 _ _ _ _=_
  unfold eK.b0
  simp[eK.Q0,eK.q0]) _ k (by omega)
theorem Mf (x:Tx) (h:zz aX x<=1048576):lJ.ab (x,())=some (x,()):=by
 have hz:zz aX x=(0+(zz (.U au) x.2.1+(zz (.U i64) x.2.2.1+(zz (.U aF) x.2.2.2.1+0)))):=rfl
 refine ag (k:=0) fun k _=>(lJ.aa k _).trans ?_
 show lJ.p _=_
 unfold lJ.p
 simp only[CI x.2.1 (by omega),DS x.2.2.1 (by omega),Iw x.2.2.2.1 (by omega),Option.bind_some]
theorem CJ (x:List Tx) (h:zz (.U aX) x<=1048576):ec.ab (x,())=some (x,()):=by
 have hl:x.length<=1048576:=Nat.le_trans (gx (e:=aX) x) h
 refine ag (k:=x.length+1) fun k hk=>(ec.aa k _).trans ?_
 unfold ec.p
 have hc:0<=(x.length:Int)/\(x.length:Int)<=(x.length:Int)/\(x.length:Int)<=(bm:Int):=by simp only[bm];omega
 simp only[hc,and_self,if_true,Int.toNat_natCast]
 exact mQ (B:=fun self v=>ec.B0 k self (fun z=>ec.Q0 k (x,()) z) (x,()) v) (xs:=x) (by rw[ah];omega) (fun i hi acc self ha=>by
  show ec.b0 _ _ _ _=_
  unfold ec.b0
  have aj:(i:Int) < (x.length:Int):=by omega
  have lV:(i:Int) < (acc.length:Int):=by omega
  simp only[aj,lV,decide_true,cond_true,Int.natCast_nonneg,and_self,if_true,Int.toNat_natCast,List.getElem?_eq_getElem hi,List.getElem?_eq_getElem (show i < acc.length by omega),Option.bind_some,Mf x[i] (by have:=mg (e:=aX) (List.getElem_mem hi);omega)]) (fun acc self=>by
  show ec.b0 _ _ _ _=_
  unfold ec.b0
  simp[ec.Q0,ec.q0]) _ k (by omega)
theorem Gu (x:fN) (h:zz co x<=1048576):gJ.ab (x,())=some (x,()):=by
 have hz:zz co x=(0+(zz (.U (.U u8)) x.2.1+((zz (.U u8) x.2.2.1.1+(zz (.U u8) x.2.2.1.2.1+0))+(zz (.U aX) x.2.2.2.1+(0+0))))):=rfl
 have vd:zz eS x.2.2.1=(zz (.U u8) x.2.2.1.1+(zz (.U u8) x.2.2.1.2.1+0)):=rfl
 refine ag (k:=0) fun k _=>(gJ.aa k _).trans ?_
 show gJ.p _=_
 unfold gJ.p
 simp only[DQ x.2.1 (by omega),J2 x.2.2.1 (by omega),CJ x.2.2.2.1 (by omega),Option.bind_some]
theorem rt (x:List UInt8) (h:zz (.U u8) x<=4611686018427387904):cJ.ab (x,x,())=some (true,()):=by
 have hl:x.length<=4611686018427387904:=Nat.le_trans (gx (e:=u8) x) h
 refine ag (k:=x.length+1) fun k hk=>(cJ.aa k _).trans ?_
 unfold cJ.p
 simp only[decide_true,Bool.not_true,cond_false]
 have:=ge (B:=fun self v=>cJ.B0 k self (fun z=>cJ.Q0 k (x,x,()) z) (x,x,()) v) (xs:=x) (ys:=x) (fun _ _=>true) rfl (by rw[ah];omega) (fun i hi hj self=>by
   show cJ.b0 _ _ _ _=_
   unfold cJ.b0
   have aj:(i:Int) < (x.length:Int):=by omega
   simp only[aj,decide_true,cond_true,Int.natCast_nonneg,if_true,Int.toNat_natCast,List.getElem?_eq_getElem hi,Option.bind_some,Bool.not_true,cond_false]) (fun self=>by
   show cJ.b0 _ _ _ _=_
   unfold cJ.b0
   simp[cJ.Q0,cJ.q0]) k (by omega)
 rw[show gd (fun _ _=>true) x x=true by simp[gd]] at this
 exact this
theorem AH (x:List (List UInt8)) (h:zz (.U (.U u8)) x<=4611686018427387904):dF.ab (x,x,())=some (true,()):=by
 have hl:x.length<=4611686018427387904:=Nat.le_trans (gx (e:=(.U u8)) x) h
 refine ag (k:=x.length+1) fun k hk=>(dF.aa k _).trans ?_
 unfold dF.p
 simp only[decide_true,Bool.not_true,cond_false]
 have:=ge (B:=fun self v=>dF.B0 k self (fun z=>dF.Q0 k (x,x,()) z) (x,x,()) v) (xs:=x) (ys:=x) (fun _ _=>true) rfl (by rw[ah];omega) (fun i hi hj self=>by
   show dF.b0 _ _ _ _=_
   unfold dF.b0
   have aj:(i:Int) < (x.length:Int):=by omega
   simp only[aj,decide_true,cond_true,Int.natCast_nonneg,if_true,Int.toNat_natCast,List.getElem?_eq_getElem hi,Option.bind_some,Bool.not_true,cond_false,rt x[i] (by have:=mg (e:=(.U u8)) (List.getElem_mem hi);omega)]) (fun self=>by
   show dF.b0 _ _ _ _=_
   unfold dF.b0
   simp[dF.Q0,dF.q0]) k (by omega)
 rw[show gd (fun _ _=>true) x x=true by simp[gd]] at this
 exact this
theorem Gv (x:Log) (h:zz eS x<=4611686018427387904):kT.ab (x,x,())=some (true,()):=by
 have hz:zz eS x=(zz (.U u8) x.1+(zz (.U u8) x.2.1+0)):=rfl
 refine ag (k:=0) fun k _=>(kT.aa k _).trans ?_
 show kT.p _=_
 unfold kT.p
 have q0:=rt x.1 (by omega)
 have q1:=rt x.2.1 (by omega)
 simp[q0,q1]
theorem tP (x:Row) (h:zz aw x<=4611686018427387904):gT.ab (x,x,())=some (true,()):=by
 have hz:zz aw x=(0+(0+(0+(List.length x.2.2.2.1+0)))):=rfl
 refine ag (k:=0) fun k _=>(gT.aa k _).trans ?_
 show gT.p _=_
 unfold gT.p
 simp[]
theorem AI (x:Change) (h:zz au x<=4611686018427387904):iP.ab (x,x,())=some (true,()):=by
 have hz:zz au x=(0+((0+(0+(0+(List.length x.2.1.2.2.2.1+0))))+(0+((0+(0+(0+(List.length x.2.2.2.1.2.2.2.1+0))))+0)))):=rfl
 have ur:zz aw x.2.1=(0+(0+(0+(List.length x.2.1.2.2.2.1+0)))):=rfl
 have P3:zz aw x.2.2.2.1=(0+(0+(0+(List.length x.2.2.2.1.2.2.2.1+0)))):=rfl
 refine ag (k:=0) fun k _=>(iP.aa k _).trans ?_
 show iP.p _=_
 unfold iP.p
 have q0:=tP x.2.1 (by omega)
 have q1:=tP x.2.2.2.1 (by omega)
 simp[q0,q1]
theorem zA (x:List Change) (h:zz (.U au) x<=4611686018427387904):cW.ab (x,x,())=some (true,()):=by
 have hl:x.length<=4611686018427387904:=Nat.le_trans (gx (e:=au) x) h
 refine ag (k:=x.length+1) fun k hk=>(cW.aa k _).trans ?_
 unfold cW.p
 simp only[decide_true,Bool.not_true,cond_false]
 have:=ge (B:=fun self v=>cW.B0 k self (fun z=>cW.Q0 k (x,x,()) z) (x,x,()) v) (xs:=x) (ys:=x) (fun _ _=>true) rfl (by rw[ah];omega) (fun i hi hj self=>by
   show cW.b0 _ _ _ _=_
   unfold cW.b0
   have aj:(i:Int) < (x.length:Int):=by omega
   simp only[aj,decide_true,cond_true,Int.natCast_nonneg,if_true,Int.toNat_natCast,List.getElem?_eq_getElem hi,Option.bind_some,Bool.not_true,cond_false,AI x[i] (by have:=mg (e:=au) (List.getElem_mem hi);omega)]) (fun self=>by
   show cW.b0 _ _ _ _=_
   unfold cW.b0
   simp[cW.Q0,cW.q0]) k (by omega)
 rw[show gd (fun _ _=>true) x x=true by simp[gd]] at this
 exact this
theorem AJ (x:List Int) (h:zz (.U i64) x<=4611686018427387904):dG.ab (x,x,())=some (true,()):=by
 have hl:x.length<=4611686018427387904:=Nat.le_trans (gx (e:=i64) x) h
 refine ag (k:=x.length+1) fun k hk=>(dG.aa k _).trans ?_
 unfold dG.p
 simp only[decide_true,Bool.not_true,cond_false]
 have:=ge (B:=fun self v=>dG.B0 k self (fun z=>dG.Q0 k (x,x,()) z) (x,x,()) v) (xs:=x) (ys:=x) (fun _ _=>true) rfl (by rw[ah];omega) (fun i hi hj self=>by
   show dG.b0 _ _ _ _=_
   unfold dG.b0
   have aj:(i:Int) < (x.length:Int):=by omega
   simp only[aj,decide_true,cond_true,Int.natCast_nonneg,if_true,Int.toNat_natCast,List.getElem?_eq_getElem hi,Option.bind_some,Bool.not_true,cond_false]) (fun self=>by
   show dG.b0 _ _ _ _=_
   unfold dG.b0
   simp[dG.Q0,dG.q0]) k (by omega)
 rw[show gd (fun _ _=>true) x x=true by simp[gd]] at this
 exact this
theorem Gw (x:Key) (h:zz aF x<=4611686018427387904):kU.ab (x,x,())=some (true,()):=by
 have hz:zz aF x=(0+(0+0)):=rfl
 refine ag (k:=0) fun k _=>(kU.aa k _).trans ?_
 show kU.p _=_
 unfold kU.p
 simp[]
theorem DT (x:List Key) (h:zz (.U aF) x<=4611686018427387904):eM.ab (x,x,())=some (true,()):=by
 have hl:x.length<=4611686018427387904:=Nat.le_trans (gx (e:=aF) x) h
 refine ag (k:=x.length+1) fun k hk=>(eM.aa k _).trans ?_
 unfold eM.p
 simp only[decide_true,Bool.not_true,cond_false]
 have:=ge (B:=fun self v=>eM.B0 k self (fun z=>eM.Q0 k (x,x,()) z) (x,x,()) v) (xs:=x) (ys:=x) (fun _ _=>true) rfl (by rw[ah];omega) (fun i hi hj self=>by
   show eM.b0 _ _ _ _=_
   unfold eM.b0
   have aj:(i:Int) < (x.length:Int):=by omega
   simp only[aj,decide_true,cond_true,Int.natCast_nonneg,if_true,Int.toNat_natCast,List.getElem?_eq_getElem hi,Option.bind_some,Bool.not_true,cond_false,Gw x[i] (by have:=mg (e:=aF) (List.getElem_mem hi);omega)]) (fun self=>by
   show eM.b0 _ _ _ _=_
   unfold eM.b0
   simp[eM.Q0,eM.q0]) k (by omega)
 rw[show gd (fun _ _=>true) x x=true by simp[gd]] at this
 exact this
theorem Ix (x:Tx) (h:zz aX x<=4611686018427387904):lK.ab (x,x,())=some (true,()):=by
 have hz:zz aX x=(0+(zz (.U au) x.2.1+(zz (.U i64) x.2.2.1+(zz (.U aF) x.2.2.2.1+0)))):=rfl
 refine ag (k:=0) fun k _=>(lK.aa k _).trans ?_
 show lK.p _=_
 unfold lK.p
 have q0:=zA x.2.1 (by omega)
 have q1:=AJ x.2.2.1 (by omega)
 have q2:=DT x.2.2.2.1 (by omega)
 simp[q0,q1,q2]
theorem yx (x:List Tx) (h:zz (.U aX) x<=4611686018427387904):ee.ab (x,x,())=some (true,()):=by
 have hl:x.length<=4611686018427387904:=Nat.le_trans (gx (e:=aX) x) h
 refine ag (k:=x.length+1) fun k hk=>(ee.aa k _).trans ?_
 unfold ee.p
 simp only[decide_true,Bool.not_true,cond_false]
 have:=ge (B:=fun self v=>ee.B0 k self (fun z=>ee.Q0 k (x,x,()) z) (x,x,()) v) (xs:=x) (ys:=x) (fun _ _=>true) rfl (by rw[ah];omega) (fun i hi hj self=>by
   show ee.b0 _ _ _ _=_
   unfold ee.b0
   have aj:(i:Int) < (x.length:Int):=by omega
   simp only[aj,decide_true,cond_true,Int.natCast_nonneg,if_true,Int.toNat_natCast,List.getElem?_eq_getElem hi,Option.bind_some,Bool.not_true,cond_false,Ix x[i] (by have:=mg (e:=aX) (List.getElem_mem hi);omega)]) (fun self=>by
   show ee.b0 _ _ _ _=_
   unfold ee.b0
   simp[ee.Q0,ee.q0]) k (by omega)
 rw[show gd (fun _ _=>true) x x=true by simp[gd]] at this
 exact this
theorem CK (x:fN) (h:zz co x<=4611686018427387904):jv.ab (x,x,())=some (true,()):=by
 have hz:zz co x=(0+(zz (.U (.U u8)) x.2.1+((zz (.U u8) x.2.2.1.1+(zz (.U u8) x.2.2.1.2.1+0))+(zz (.U aX) x.2.2.2.1+(0+0))))):=rfl
 have vd:zz eS x.2.2.1=(zz (.U u8) x.2.2.1.1+(zz (.U u8) x.2.2.1.2.1+0)):=rfl
 refine ag (k:=0) fun k _=>(jv.aa k _).trans ?_
 show jv.p _=_
 unfold jv.p
 have q0:=AH x.2.1 (by omega)
 have q1:=Gv x.2.2.1 (by omega)
 have q2:=yx x.2.2.2.1 (by omega)
 simp[q0,q1,q2]
theorem Iy (x:List Row) (n:Int) (hx:lH (.U aw) x) (h0:0<=n) (h1:n<=1048576):dP.ab (x,n,())=some (bH n (zz (.U aw) x),()):=by
 obtain ⟨hl,iY⟩:=hx
 have gE:=hl
 rw[ah] at gE
 have gE:List.length x<=9223372036854775807:=gE
 have hw:ae (n - (List.length x:Int))=n - (List.length x:Int):=aP (by omega)
 have hz:zz (.U aw) x=List.length x+jQ (zz aw) x:=rfl
 by_cases hc:n - (List.length x:Int) < 0
 ·have e1:bH n (zz (.U aw) x)=-1:=if_neg (by omega)
  rw[e1]
  refine ag (k:=0) fun k _=>(dP.aa k _).trans ?_
  unfold dP.p
  simp only[hw,hc,decide_true,cond_true]
  try rfl
 ·have e1:bH n (zz (.U aw) x)=bH (n - (List.length x:Int)) (jQ (zz aw) x):=by rw[hz,wd (by omega)]
  rw[e1]
  refine ag (k:=List.length x+1) fun k hk=>(dP.aa k _).trans ?_
  unfold dP.p
  simp only[hw,hc,decide_false,cond_false]
  exact wc (B:=fun self v=>dP.B0 0 self (fun z=>dP.Q0 0 (x,n,()) z) (x,n,()) v) (xs:=x) hl (zz aw) (fun i hi m self yw nY=>by
    show dP.b0 _ _ _ _=_
    unfold dP.b0
    have aj:(i:Int) < (List.length x:Int):=by omega
    simp only[aj,decide_true,cond_true,Int.natCast_nonneg,if_true,Int.toNat_natCast,List.getElem?_eq_getElem hi,Option.bind_some,w_ x[i] m (iY _ (List.getElem_mem hi)) yw nY]
    by_cases hs:bH m (zz aw x[i]) < 0 <;> simp[hs]) (fun m self=>by
    show dP.b0 _ _ _ _=_
    unfold dP.b0
    simp[dP.Q0,dP.q0]) _ (by omega) (by omega) k (by omega)
theorem Gx (x:Plain) (n:Int) (hx:lH dI x) (h0:0<=n) (h1:n<=1048576):jw.ab (x,n,())=some (bH n (zz dI x),()):=by
 have hz:zz dI x=(zz (.U aw) x.1+(zz (.U aX) x.2.1+(0+0))):=rfl
 refine ag (k:=0) fun k _=>(jw.aa k _).trans ?_
 show jw.p _=_
 unfold jw.p
 simp only[Iy x.1 (n) hx.1 (by omega) (by omega),Option.bind_some]
 by_cases hc:((zz (.U aw) x.1:Nat):Int)<=n
 rotate_left
 ·have e1:bH (n) (zz (.U aw) x.1)=-1:=if_neg hc
  have e2:bH n (zz dI x)=-1:=if_neg (by omega)
  rw[e1,e2];rfl
 have e1:bH (n) (zz (.U aw) x.1)=n - ((zz (.U aw) x.1:Nat):Int):=if_pos hc
 have n1:¬ (n - ((zz (.U aw) x.1:Nat):Int) < 0):=by omega
 simp only[e1,n1,decide_false,cond_false]
 clear e1 n1
 simp only[CH x.2.1 ((n - ((zz (.U aw) x.1:Nat):Int))) hx.2.1 (by omega) (by omega),Option.bind_some]
 by_cases hc:((zz (.U aX) x.2.1:Nat):Int)<=(n - ((zz (.U aw) x.1:Nat):Int))
 rotate_left
 ·have e1:bH ((n - ((zz (.U aw) x.1:Nat):Int))) (zz (.U aX) x.2.1)=-1:=if_neg hc
  have e2:bH n (zz dI x)=-1:=if_neg (by omega)
  rw[e1,e2];rfl
 have e1:bH ((n - ((zz (.U aw) x.1:Nat):Int))) (zz (.U aX) x.2.1)=(n - ((zz (.U aw) x.1:Nat):Int)) - ((zz (.U aX) x.2.1:Nat):Int):=if_pos hc
 have n1:¬ ((n - ((zz (.U aw) x.1:Nat):Int)) - ((zz (.U aX) x.2.1:Nat):Int) < 0):=by omega
 simp only[e1,n1,decide_false,cond_false]
 clear e1 n1
 have e2:bH n (zz dI x)=((n - ((zz (.U aw) x.1:Nat):Int)) - ((zz (.U aX) x.2.1:Nat):Int)):=by unfold bH;rw[if_pos (by omega)];omega
 rw[e2]
theorem Iz (x:List Row) (h:zz (.U aw) x<=1048576):eN.ab (x,())=some (x,()):=by
 have hl:x.length<=1048576:=Nat.le_trans (gx (e:=aw) x) h
 refine ag (k:=x.length+1) fun k hk=>(eN.aa k _).trans ?_
 unfold eN.p
 have hc:0<=(x.length:Int)/\(x.length:Int)<=(x.length:Int)/\(x.length:Int)<=(bm:Int):=by simp only[bm];omega
 simp only[hc,and_self,if_true,Int.toNat_natCast]
 exact mQ (B:=fun self v=>eN.B0 k self (fun z=>eN.Q0 k (x,()) z) (x,()) v) (xs:=x) (by rw[ah];omega) (fun i hi acc self ha=>by
  show eN.b0 _ _ _ _=_
  unfold eN.b0
  have aj:(i:Int) < (x.length:Int):=by omega
  have lV:(i:Int) < (acc.length:Int):=by omega
  simp only[aj,lV,decide_true,cond_true,Int.natCast_nonneg,and_self,if_true,Int.toNat_natCast,List.getElem?_eq_getElem hi,List.getElem?_eq_getElem (show i < acc.length by omega),Option.bind_some,xd x[i] (by have:=mg (e:=aw) (List.getElem_mem hi);omega)]) (fun acc self=>by
  show eN.b0 _ _ _ _=_
  unfold eN.b0
  simp[eN.Q0,eN.q0]) _ k (by omega)
theorem Gy (x:Plain) (h:zz dI x<=1048576):gM.ab (x,())=some (x,()):=by
 have hz:zz dI x=(zz (.U aw) x.1+(zz (.U aX) x.2.1+(0+0))):=rfl
 refine ag (k:=0) fun k _=>(gM.aa k _).trans ?_
 show gM.p _=_
 unfold gM.p
 simp only[Iz x.1 (by omega),CJ x.2.1 (by omega),Option.bind_some]
theorem DU (x:List Row) (h:zz (.U aw) x<=4611686018427387904):eO.ab (x,x,())=some (true,()):=by
 have hl:x.length<=4611686018427387904:=Nat.le_trans (gx (e:=aw) x) h
 refine ag (k:=x.length+1) fun k hk=>(eO.aa k _).trans ?_
 unfold eO.p
 simp only[decide_true,Bool.not_true,cond_false]
 have:=ge (B:=fun self v=>eO.B0 k self (fun z=>eO.Q0 k (x,x,()) z) (x,x,()) v) (xs:=x) (ys:=x) (fun _ _=>true) rfl (by rw[ah];omega) (fun i hi hj self=>by
   show eO.b0 _ _ _ _=_
   unfold eO.b0
   have aj:(i:Int) < (x.length:Int):=by omega
   simp only[aj,decide_true,cond_true,Int.natCast_nonneg,if_true,Int.toNat_natCast,List.getElem?_eq_getElem hi,Option.bind_some,Bool.not_true,cond_false,tP x[i] (by have:=mg (e:=aw) (List.getElem_mem hi);omega)]) (fun self=>by
   show eO.b0 _ _ _ _=_
   unfold eO.b0
   simp[eO.Q0,eO.q0]) k (by omega)
 rw[show gd (fun _ _=>true) x x=true by simp[gd]] at this
 exact this
theorem CL (x:Plain) (h:zz dI x<=4611686018427387904):jx.ab (x,x,())=some (true,()):=by
 have hz:zz dI x=(zz (.U aw) x.1+(zz (.U aX) x.2.1+(0+0))):=rfl
 refine ag (k:=0) fun k _=>(jx.aa k _).trans ?_
 show jx.p _=_
 unfold jx.p
 have q0:=DU x.1 (by omega)
 have q1:=yx x.2.1 (by omega)
 simp[q0,q1]
end OT
set_option linter.unusedVariables false
set_option linter.unusedSimpArgs false
namespace OT
open Go
theorem iQ (a b c:Int):aT.ab (a,b,c,())=some (decide (b<=a)&&decide (a<=c),()):=by
 refine ag (k:=0) fun k _=>(aT.aa k _).trans ?_
 show aT.p _=_
 unfold aT.p
 by_cases h:b<=a <;> simp[h]
theorem lL (a b c:Int):cr.ab (a,b,c,())=some (decide (b<=a)&&decide (a<=c),()):=by
 refine ag (k:=0) fun k _=>(cr.aa k _).trans ?_
 show cr.p _=_
 unfold cr.p
 by_cases h:b<=a <;> simp[h]
theorem ES (a:Int):jt.ab (a,())=some (decide (1<=a)&&decide (a<=99),()):=by
 refine ag (k:=0) fun k _=>(jt.aa k _).trans ?_
 show jt.p _=_
 unfold jt.p
 simp[lL]
def cA (a b c:Int):Bool:=decide (b<=a)&&decide (a<=c)
theorem uu (s:List UInt8) (h:s.length<=200000000000):gK.ab (s,())=some (s,()):=by
 refine ag (k:=0) fun k _=>(gK.aa k _).trans ?_
 show gK.p _=_
 unfold gK.p
 have:([]:List UInt8).length+s.length<=bm:=cD (by simpa using h)
 rw[if_pos this,List.nil_append]
theorem pv (s:List UInt8) (h:s.length<=200000000000):dw.ab (s,())=some (s,()):=by
 refine ag (k:=0) fun k _=>(dw.aa k _).trans ?_
 show dw.p _=_
 unfold dw.p
 have:([]:List UInt8).length+s.length<=bm:=cD (by simpa using h)
 rw[if_pos this,List.nil_append]
theorem ei {S O α:Type} {g:S->α->S} {fin:S->O}:∀ (xs:List α) (i:Nat) (s:S),aU (fun _ s x=>.inr (g s x)) fin i xs s=fin (xs.foldl g s)
 | [],_,_=>rfl
 | x::xs,i,s=>by simp only[aU,List.foldl_cons];exact ei xs _ _
theorem Ac {α:Type}:∀ (xs s:List α),xs.foldl (fun s x=>s++[x]) s=s++xs
 | [],s=>by simp
 | x::xs,s=>by rw[List.foldl_cons,Ac];simp
abbrev f9:Type:=List (List UInt8)
def gp (ps:f9):Prop:=ps.length<=12/\∀ p ∈ ps,p.length=64
def tQ:List UInt8:=((List.replicate 64 (0:UInt8)).set 0 0).set 1 64
theorem xe:tQ.length=64:=by simp[tQ]
theorem AK (ps:f9) (h:gp ps):gn.ab (ps,())=some (ps,()):=by
 obtain ⟨h1,Y⟩:=h
 refine ag (k:=14) fun k hk=>(gn.aa k _).trans ?_
 have:=br (B:=fun self v=>gn.B0 0 self (fun z=>gn.Q0 0 (ps,()) z) (ps,()) v) ps (fun (s:f9) (i:Int)=>(s,i)) (fun _ s x=>.inr (s++[x])) (fun s=>(s,())) (fun i s=>s.length=i) (by rw[ah];omega)
  (fun i hi s self hI=>by
   show gn.b0 _ _ _ _=_
   unfold gn.b0
   have aj:(i:Int) < (ps.length:Int):=by omega
   have hx:=Y ps[i] (List.getElem_mem hi)
   simp only[aj,decide_true,cond_true,Int.natCast_nonneg,if_true,Int.toNat_natCast,List.getElem?_eq_getElem hi,Option.bind_some]
   rw[pv _ (by omega)]
   have hc:s.length+[ps[i]].length<=bm:=cD (by simp only[List.length_cons,List.length_nil];omega)
   simp only[Option.bind_some,hc,if_true])
  (fun i hi s s' hI hs=>by injection hs with hs;rw[<-hs];simp[hI]) (fun s self hI=>by
   show gn.b0 _ _ _ _=_
   unfold gn.b0
   simp only[Int.lt_irrefl,decide_false,cond_false]
   rfl) [] rfl k (by omega)
 rw[ei,Ac] at this
 exact this
end OT
set_option linter.unusedVariables false
set_option linter.unusedSimpArgs false
namespace OT
open Go
def oN (c:UInt8):Bool:=!decide ((c.toNat:Int) < 97)&&!decide ((122:Int) < (c.toNat:Int))
def wj (s:List UInt8):Bool:=s.all oN&&decide (s.length<=8)
def hB (x:Row):Int:=if cA x.1 0 3&&(cA x.2.1 1 99&&cA x.2.2.1 0 999) then (if wj x.2.2.2.1 then 0 else 5) else 3
theorem len8 (s:List UInt8):decide ((s.length:Int)<=8)=decide (s.length<=8):=by
 by_cases h:s.length<=8
 ·have:(s.length:Int)<=8:=by omega
  simp[h,this]
 ·have:¬ (s.length:Int)<=8:=by omega
  simp[h,this]
theorem DV (s:List UInt8) (h:s.length<=maxLen):fj.ab (s,())=some (wj s,()):=by
 refine ag (k:=s.length+1) fun k hk=>(fj.aa k _).trans ?_
 have:=br (B:=fun self v=>fj.B0 0 self (fun z=>fj.Q0 0 (s,()) z) (s,()) v) s (fun (_:Unit) (i:Int)=>i) (fun _ _ x=>if oN x then .inr () else .inl (false,())) (fun _=>(decide (s.length<=8),())) (fun _ _=>True) h
  (fun i hi _ self _=>by
   show fj.b0 _ _ _ _=_
   unfold fj.b0
   have aj:(i:Int) < (s.length:Int):=by omega
   simp only[aj,decide_true,cond_true,Int.natCast_nonneg,if_true,Int.toNat_natCast,List.getElem?_eq_getElem hi,Option.bind_some]
   unfold oN
   by_cases h1:((s[i].toNat:Int) < 97) <;> by_cases Y:((122:Int) < (s[i].toNat:Int)) <;> simp[h1,Y]) (fun _ _ _ _ _ _=>trivial) (fun _ self _=>by
   show fj.b0 _ _ _ _=_
   unfold fj.b0
   simp[fj.Q0,fj.q0,len8]) () trivial k (by omega)
 refine this.trans ?_
 rw[kL oN (false,()) (fun _=>(decide (s.length<=8),()))]
 unfold wj
 cases s.all oN <;> rfl
theorem qo (x:Row) (h:List.length x.2.2.2.1<=maxLen):dg.ab (x,())=some (hB x,()):=by
 refine ag (k:=0) fun k _=>(dg.aa k _).trans ?_
 show dg.p _=_
 unfold dg.p hB cA
 simp only[iQ,DV _ h,Option.bind_some]
 cases decide ((0:Int)<=x.1) <;> cases decide (x.1<=3) <;> cases decide ((1:Int)<=x.2.1) <;> cases decide (x.2.1<=99) <;> cases decide ((0:Int)<=x.2.2.1) <;> cases decide (x.2.2.1<=999) <;> cases wj x.2.2.2.1 <;> rfl
theorem qp (x:Row) (h:List.length x.2.2.2.1<=maxLen):bp.ab (x,())=some (hB x,()):=by
 refine ag (k:=List.length x.2.2.2.1+1) fun k hk=>(bp.aa k _).trans ?_
 have:=br (B:=fun self v=>bp.B0 0 self (fun z=>bp.Q0 0 (x,()) z) (x,()) v) x.2.2.2.1 (fun (_:Unit) (i:Int)=>i) (fun _ _ c=>if oN c then .inr () else .inl (5,())) (fun _=>(0,())) (fun _ _=>True) h
  (fun i hi _ self _=>by
   show bp.b0 _ _ _ _=_
   unfold bp.b0
   have aj:(i:Int) < (List.length x.2.2.2.1:Int):=by omega
   simp only[aj,decide_true,cond_true,Int.natCast_nonneg,if_true,Int.toNat_natCast,List.getElem?_eq_getElem hi,Option.bind_some]
   unfold oN
   by_cases h1:(((x.2.2.2.1)[i].toNat:Int) < 97) <;> by_cases Y:((122:Int) < ((x.2.2.2.1)[i].toNat:Int)) <;> simp[h1,Y]) (fun _ _ _ _ _ _=>trivial) (fun _ self _=>by
   show bp.b0 _ _ _ _=_
   unfold bp.b0
   simp[bp.Q0,bp.q0]) () trivial k (by omega)
 rw[kL oN (5,()) (fun _=>(0,()))] at this
 have this:bp.r0 k (x,()) 0=_:=this
 unfold bp.p hB cA wj
 simp only[lL,this,Option.bind_some]
 have h8:decide ((8:Int) < (List.length x.2.2.2.1:Int))=!decide (List.length x.2.2.2.1<=8):=by
  by_cases hc:List.length x.2.2.2.1<=8
  ·have:¬ (8:Int) < (List.length x.2.2.2.1:Int):=by omega
   simp[hc,this]
  ·have:(8:Int) < (List.length x.2.2.2.1:Int):=by omega
   simp[hc,this]
 rw[h8]
 cases decide ((0:Int)<=x.1) <;> cases decide (x.1<=3) <;> cases decide ((1:Int)<=x.2.1) <;> cases decide (x.2.1<=99) <;> cases decide ((0:Int)<=x.2.2.1) <;> cases decide (x.2.2.1<=999) <;> cases decide (List.length x.2.2.2.1<=8) <;> cases (x.2.2.2.1).all oN <;> rfl
def rl (x:Row):Prop:=List.length x.2.2.2.1<=maxLen
def cl (c:Change):Prop:=rl c.2.1/\rl c.2.2.2.1
def sameKey (a b:Row):Bool:=decide (a.1=b.1)&&decide (a.2.1=b.2.1)
def bP (a b:Int×Int):Bool:=decide (a.1 < b.1)||(decide (a.1=b.1)&&decide (a.2 < b.2))
def mw (c:Change):Int:=if (!c.1&&!c.2.2.1)||(c.1&&c.2.2.1&&!sameKey c.2.1 c.2.2.2.1) then 1 else if c.1&&!decide (hB c.2.1=0) then hB c.2.1 else if c.2.2.1 then hB c.2.2.2.1 else 0
def yy (c:Change):Int:=if mw c=0 then (if c.1&&c.2.2.1&&Ty.eq aw c.2.1 c.2.2.2.1 then 1 else 0) else mw c
def ck (c:Change):Int×Int:=if c.2.2.1 then (c.2.2.2.1.1,c.2.2.2.1.2.1) else (c.2.1.1,c.2.1.2.1)
theorem AL (c:Change) (h:cl c):iH.ab (c,())=some (mw c,()):=by
 refine ag (k:=0) fun k _=>(iH.aa k _).trans ?_
 show iH.p _=_
 unfold iH.p mw sameKey
 simp only[qo _ h.1,qo _ h.2,Option.bind_some]
 cases c.1 <;> cases c.2.2.1 <;> by_cases h1:c.2.1.1=c.2.2.2.1.1 <;> by_cases Y:c.2.1.2.1=c.2.2.2.1.2.1 <;> by_cases h3:hB c.2.1=0 <;> simp[h1,Y,h3]
theorem sm (a b:Row):dD.ab (a,b,())=some (bP (a.1,a.2.1) (b.1,b.2.1),()):=by
 refine ag (k:=0) fun k _=>(dD.aa k _).trans ?_
 show dD.p _=_
 unfold dD.p bP
 by_cases h1:a.1 < b.1 <;> by_cases Y:a.1=b.1 <;> simp[h1,Y]
theorem tR (a b:Row):eW.ab (a,b,())=some (if bP (a.1,a.2.1) (b.1,b.2.1) then -1 else if bP (b.1,b.2.1) (a.1,a.2.1) then 1 else 0,()):=by
 refine ag (k:=0) fun k _=>(eW.aa k _).trans ?_
 show eW.p _=_
 unfold eW.p
 simp only[sm,Option.bind_some]
 cases bP (a.1,a.2.1) (b.1,b.2.1) <;> cases bP (b.1,b.2.1) (a.1,a.2.1) <;> rfl
theorem yz (a b:Row):decide ((if bP (a.1,a.2.1) (b.1,b.2.1) then (-1:Int) else if bP (b.1,b.2.1) (a.1,a.2.1) then 1 else 0)=0)=sameKey a b:=by
 unfold bP sameKey
 by_cases h1:a.1 < b.1
 ·have:¬ a.1=b.1:=by omega
  simp[h1,this]
 ·by_cases Y:a.1=b.1
  ·by_cases h3:a.2.1 < b.2.1
   ·have:¬ a.2.1=b.2.1:=by omega
    simp[Y,h3,this]
   ·by_cases h4:b.2.1 < a.2.1
    ·have:¬ a.2.1=b.2.1:=by omega
     simp[Y,h3,h4,this]
    ·have:a.2.1=b.2.1:=by omega
     simp[Y,this]
  ·have:b.1 < a.1:=by omega
   simp[h1,Y,this]
theorem uw (c:Change) (h:cl c):d7.ab (c,())=some (mw c,()):=by
 refine ag (k:=0) fun k _=>(d7.aa k _).trans ?_
 show d7.p _=_
 unfold d7.p mw
 simp only[qp _ h.1,qp _ h.2,tR,Option.bind_some,yz]
 cases c.1 <;> cases c.2.2.1 <;> cases sameKey c.2.1 c.2.2.2.1 <;> by_cases h3:hB c.2.1=0 <;> simp[h3]
theorem zB (c:Change) (h:cl c):iI.ab (c,())=some (yy c,()):=by
 refine ag (k:=0) fun k _=>(iI.aa k _).trans ?_
 show iI.p _=_
 unfold iI.p yy
 simp only[AL c h,Option.bind_some]
 by_cases h1:mw c=0
 ·simp only[h1,decide_true,Bool.not_true,cond_false,if_true]
  cases c.1 <;> cases c.2.2.1 <;> cases Ty.eq aw c.2.1 c.2.2.2.1 <;> rfl
 ·simp[h1]
theorem IA (c:Change) (h:cl c):gi.ab (c,())=some (yy c,()):=by
 refine ag (k:=0) fun k _=>(gi.aa k _).trans ?_
 show gi.p _=_
 unfold gi.p yy
 simp only[uw c h,Option.bind_some]
 by_cases h1:mw c=0
 ·simp only[h1,decide_true,Bool.not_true,cond_false,if_true]
  cases c.1 <;> cases c.2.2.1 <;> cases Ty.eq aw c.2.1 c.2.2.2.1 <;> rfl
 ·simp[h1]
theorem yA (c:Change):il.ab (c,())=some ((ck c).1,(ck c).2,()):=by
 refine ag (k:=0) fun k _=>(il.aa k _).trans ?_
 show il.p _=_
 unfold il.p ck
 cases c.2.2.1 <;> rfl
def sF (c:Change):Row:=if c.2.2.1 then c.2.2.2.1 else c.2.1
theorem Ad (c:Change):((sF c).1,(sF c).2.1)=ck c:=by unfold sF ck;cases c.2.2.1 <;> rfl
theorem tS (c:Change):cI.ab (c,())=some (sF c,()):=by
 refine ag (k:=0) fun k _=>(cI.aa k _).trans ?_
 show cI.p _=_
 unfold cI.p sF
 cases c.2.2.1 <;> rfl
theorem Gz (n:Nat) (m:Nat):decide ((m:Int) < (n:Int))=decide (m < n):=by
 by_cases h:m < n
 ·have:(m:Int) < (n:Int):=by omega
  simp[h,this]
 ·have:¬ (m:Int) < (n:Int):=by omega
  simp[h,this]
theorem yB {i:Nat} (hi:0 < i) (h:i<=maxLen):ae ((i:Int) - 1)=((i - 1:Nat):Int):=by
 rw[ah] at h
 rw[aP (by omega)];omega
theorem GA {x:Row} (h:lH aw x):rl x:=h.2.2.2.1
theorem O0 {c:Change} (h:lH au c):cl c:=⟨GA h.2.1,GA h.2.2.2.1⟩
end OT
