/- The proof's parts, merged: Printed by gen.py, a program of this claim  what each Go function computes.. No conditions but those that each states. -/
import Derived.Test.YtaebhfnbgkbdhaaGreatQd
set_option maxRecDepth 100000
set_option linter.unusedVariables false
namespace OT
open Go Go.Proofs.Tryz
namespace d_
abbrev Arg:Type:=ax×Unit
abbrev Out:Type:=Row×ax×Unit
abbrev ps:PQ:=[(.du (ag bi) (ag bi),bi)]
noncomputable def D:FD:={ fn:=f46,tl:=bd,ps:=ps,rs:=[(ak,(ag ak))],gl:=[(51,am.D.sig),(71,aR.D.sig),(83,da.D.sig)],es:=[0] }
noncomputable def ab (a:Arg):Option Out:=@lift Out λk=>D.W k a
noncomputable def p (J:Arg):Option Out:=(da.ab (J.1,())).bind λr2=>(am.ab (r2.2.1,(12:Int),())).bind λr3=>bif decide (r3.1=(0:Int)) then ((aR.ab (r3.2.1,[(-1:Int),(3:Int),(4:Int)],())).bind λr4=>some ((r4.1,r2.1.2),r4.2.1,())) else bif decide (r3.1=(1:Int)) then ((aR.ab (r3.2.1,[(0:Int),(99:Int),(100:Int)],())).bind λr5=>some ((r2.1.1,r5.1,r2.1.2.2),r5.2.1,())) else bif decide (r3.1=(2:Int)) then ((aR.ab (r3.2.1,[(-1:Int),(1000:Int)],())).bind λr6=>some ((r2.1.1,r2.1.2.1,r6.1,r2.1.2.2.2),r6.2.1,())) else bif decide (r3.1=(3:Int)) then ((am.ab (r3.2.1,(3:Int),())).bind λr7=>if 0<=r7.1/\r7.1 < ([([65]:List UInt8),([97,98,99,100,101,102,103,104,105]:List UInt8),([97,32,98]:List UInt8)].length:Int) then (([([65]:List UInt8),([97,98,99,100,101,102,103,104,105]:List UInt8),([97,32,98]:List UInt8)][r7.1.toNat]?).bind λx8=>some ((r2.1.1,r2.1.2.1,r2.1.2.2.1,x8,r2.1.2.2.2.2),r7.2.1,())) else none) else some (r2.1,r3.2.1,())
theorem ae (k:Nat) (J:Arg):@Eq (Option Out) (D.W k J) (p J):=by kernel_rfl
theorem ok:Ok prog 46 D.sig:=aw func46 aM (by kernel_rfl) (fc am.ok (fc aR.ok (fc da.ok (an _))))
end d_
namespace dh
abbrev Arg:Type:=ax×Unit
abbrev Out:Type:=(List Row)×ax×Unit
abbrev ps:PQ:=[(.du (ag bi) (ag bi),bi)]
noncomputable def D:FD:={ fn:=f50,tl:=bd,ps:=ps,rs:=[((.aa ak),(av (.aa ak)))],gl:=[(51,am.D.sig),(83,da.D.sig),(121,bY.D.sig),(122,cC.D.sig)],es:=[0],lv:=[(3,[0,3,4])],lx:=[(0,[0,3])] }
noncomputable def ab (a:Arg):Option Out:=@lift Out λk=>D.W k a
noncomputable def T0 (J:Arg) (cW:ax×(List Row)×Int):St:={ n:=26,sl:=[(0,.box bi (ag bi) [] cW.1),(3,.own (.aa ak) (av (.aa ak)) [] cW.2.1),(4,.val i64 cW.2.2)],vr:=[],aA:=[(0,0,false)] }
noncomputable def b0 (self:(ax×(List Row)×Int)->Option Out) (e0:(ax×(List Row))->Option Out) (J:Arg) (cW:ax×(List Row)×Int):Option Out:=bif decide ((0:Int) < cW.2.2) then ((da.ab (cW.1,())).bind λbO=>(bY.ab (cW.2.1,bO.1.1,bO.1.2.1,())).bind λiA=>bif decide (iA.1 < (0:Int)) then ((cC.ab (cW.2.1,bO.1,())).bind λig=>self (bO.2.1,ig.1,ai (cW.2.2 - (1:Int)))) else self (bO.2.1,cW.2.1,ai (cW.2.2 - (1:Int)))) else e0 (cW.1,cW.2.1)
noncomputable abbrev B0 (_:Nat):=b0
noncomputable def q0 (J:Arg) (jW:(ax×(List Row))):Option Out:=some (jW.2,jW.1,())
noncomputable abbrev Q0 (_:Nat):=q0
noncomputable def s0 (k:Nat) (J:Arg):(ax×(List Row)×Int)->Option Out:=λcW=>D.L k [1,1,0,1,0,0] [0,3,4] [] (aj 0 (aG (D.N k [1,1,1]) D.K0)) (T0 J cW)
noncomputable def r0 (k:Nat) (J:Arg):(ax×(List Row)×Int)->Option Out:=au (λw v=>B0 k w (Q0 k J) J v) k
theorem aO (k:Nat) (J:Arg):s0 k J=r0 k J:=
 funext λcW=>aH _ _ _ (T0 J) _ (λrec v=>by kernel_rfl) k cW
noncomputable def p (l0:(ax×(List Row)×Int)->Option Out) (J:Arg):Option Out:=(am.ab (J.1,(7:Int),())).bind λr2=>l0 (r2.2.1,([]:List Row),r2.1)
theorem ae (k:Nat) (J:Arg):@Eq (Option Out) (D.W k J) (p (r0 k J) J):=
 Eq.trans (b:=p (s0 k J) J) (by kernel_rfl) (by rw[aO])
theorem ok:Ok prog 50 D.sig:=aw func50 aM (by kernel_rfl) (fc am.ok (fc da.ok (fc bY.ok (fc cC.ok (an _)))))
end dh
namespace dG
abbrev Arg:Type:=ax×Unit
abbrev Out:Type:=(List Row)×ax×Unit
abbrev ps:PQ:=[(.du (ag bi) (ag bi),bi)]
noncomputable def D:FD:={ fn:=f81,tl:=bd,ps:=ps,rs:=[((.aa ak),(av (.aa ak)))],gl:=[(46,d_.D.sig),(50,dh.D.sig),(51,am.D.sig)],es:=[0] }
noncomputable def ab (a:Arg):Option Out:=@lift Out λk=>D.W k a
noncomputable def p (J:Arg):Option Out:=(dh.ab (J.1,())).bind λr2=>(am.ab (r2.2.1,(10:Int),())).bind λr3=>bif decide (r3.1=(0:Int)) then ((d_.ab (r3.2.1,())).bind λr4=>if r2.1.length+[r4.1].length<=bX then (some (r2.1++[r4.1],r4.2.1,())) else none) else bif decide (r3.1=(1:Int)) then (if 0<=(61:Int)/\(61:Int)<=(61:Int)/\(61:Int)<=(bX:Int) then (some (List.replicate 61 ((0:Int),(0:Int),(0:Int),([]:List UInt8),()),r3.2.1,())) else none) else some (r2.1,r3.2.1,())
theorem ae (k:Nat) (J:Arg):@Eq (Option Out) (D.W k J) (p J):=by kernel_rfl
theorem ok:Ok prog 81 D.sig:=aw func81 aM (by kernel_rfl) (fc d_.ok (fc dh.ok (fc am.ok (an _))))
end dG
namespace ec
abbrev Arg:Type:=ax×Unit
abbrev Out:Type:=(List Row)×ax×Unit
abbrev ps:PQ:=[(.du (ag bi) (ag bi),bi)]
noncomputable def D:FD:={ fn:=f192,tl:=bd,ps:=ps,rs:=[((.aa ak),(av (.aa ak)))],gl:=[(51,am.D.sig),(83,da.D.sig),(121,bY.D.sig),(122,cC.D.sig)],es:=[0],lv:=[(3,[0,3,4])],lx:=[(0,[0,3])] }
noncomputable def ab (a:Arg):Option Out:=@lift Out λk=>D.W k a
noncomputable def T0 (J:Arg) (cW:ax×(List Row)×Int):St:={ n:=42,sl:=[(0,.box bi (ag bi) [] cW.1),(3,.own (.aa ak) (av (.aa ak)) [] cW.2.1),(4,.val i64 cW.2.2)],vr:=[],aA:=[(0,0,false)] }
noncomputable def b0 (self:(ax×(List Row)×Int)->Option Out) (e0:(ax×(List Row))->Option Out) (J:Arg) (cW:ax×(List Row)×Int):Option Out:=bif decide ((0:Int) < cW.2.2) then ((da.ab (cW.1,())).bind λbO=>(am.ab (bO.2.1,(2:Int),())).bind λiA=>let yM:=λ(II:Row)=>((bY.ab (cW.2.1,II.1,II.2.1,())).bind λlT=>bif decide (lT.1 < (0:Int)) then ((cC.ab (cW.2.1,II,())).bind λrm=>self (iA.2.1,rm.1,ai (cW.2.2 - (1:Int)))) else self (iA.2.1,cW.2.1,ai (cW.2.2 - (1:Int))):Option Out);bif decide (ai ((1:Int)+iA.1)=(2:Int)) then (bif decide ((3:Int) < (bO.1.2.2.2.1.length:Int)) then (yM (ai ((1:Int)+iA.1),bO.1.2.1,bO.1.2.2.1,([]:List UInt8),bO.1.2.2.2.2)) else yM (ai ((1:Int)+iA.1),bO.1.2)) else yM (ai ((1:Int)+iA.1),bO.1.2)) else e0 (cW.1,cW.2.1)
noncomputable abbrev B0 (_:Nat):=b0
noncomputable def q0 (J:Arg) (MX:(ax×(List Row))):Option Out:=some (MX.2,MX.1,())
noncomputable abbrev Q0 (_:Nat):=q0
noncomputable def s0 (k:Nat) (J:Arg):(ax×(List Row)×Int)->Option Out:=λcW=>D.L k [1,1,0,1,0,0] [0,3,4] [] (aj 0 (aG (D.N k [1,1,1]) D.K0)) (T0 J cW)
noncomputable def r0 (k:Nat) (J:Arg):(ax×(List Row)×Int)->Option Out:=au (λw v=>B0 k w (Q0 k J) J v) k
theorem aO (k:Nat) (J:Arg):s0 k J=r0 k J:=
 funext λcW=>aH _ _ _ (T0 J) _ (λrec v=>by kernel_rfl) k cW
noncomputable def p (l0:(ax×(List Row)×Int)->Option Out) (J:Arg):Option Out:=(am.ab (J.1,(6:Int),())).bind λr2=>l0 (r2.2.1,[((0:Int),(1:Int),(8:Int),([]:List UInt8),()),((0:Int),(2:Int),(3:Int),([]:List UInt8),())],r2.1)
theorem ae (k:Nat) (J:Arg):@Eq (Option Out) (D.W k J) (p (r0 k J) J):=
 Eq.trans (b:=p (s0 k J) J) (by kernel_rfl) (by rw[aO])
theorem ok:Ok prog 192 D.sig:=aw func192 aM (by kernel_rfl) (fc am.ok (fc da.ok (fc bY.ok (fc cC.ok (an _)))))
end ec
namespace bP
abbrev Arg:Type:=ax×Unit
abbrev Out:Type:=(List Row)×(List Tx)×ax×Unit
abbrev ps:PQ:=[(.du (ag bi) (ag bi),bi)]
noncomputable def D:FD:={ fn:=f142,tl:=bd,ps:=ps,rs:=[((.aa ak),(av (.aa ak))),((.aa aC),(av (.aa aC)))],gl:=[(27,cR.D.sig),(29,cM.D.sig),(51,am.D.sig),(103,eA.D.sig),(105,dp.D.sig),(109,cx.D.sig),(110,cX.D.sig),(192,ec.D.sig)],es:=[0],lv:=[(4,[0,4,5,6])],lx:=[(0,[0,4,5]),(1,[0,4,5,6])],od:=[(10,[0,1,2,3,5,6,4,7,8])] }
noncomputable def ab (a:Arg):Option Out:=@lift Out λk=>D.W k a
noncomputable def T0 (J:Arg) (dO:ax×(List Row)×(List Tx)×Int):St:={ n:=62,sl:=[(0,.box bi (ag bi) [] dO.1),(4,.own (.aa ak) (av (.aa ak)) [] dO.2.1),(5,.own (.aa aC) (av (.aa aC)) [] dO.2.2.1),(6,.val i64 dO.2.2.2)],vr:=[],aA:=[(0,0,false)] }
noncomputable def b0 (self:(ax×(List Row)×(List Tx)×Int)->Option Out) (e0:(ax×(List Row)×(List Tx))->Option Out) (J:Arg) (dO:ax×(List Row)×(List Tx)×Int):Option Out:=bif decide ((0:Int) < dO.2.2.2) then ((cM.ab (dO.1,dO.2.1,dO.2.2.1,())).bind λiA=>(eA.ab (dO.2.1,dO.2.2.1,iA.1,())).bind λig=>bif !decide (ig.1.1=(0:Int)) then (self (iA.2.1,dO.2.1,dO.2.2.1,ai (dO.2.2.2 - (1:Int)))) else bif !ig.1.2.1 then (self (iA.2.1,dO.2.1,dO.2.2.1,ai (dO.2.2.2 - (1:Int)))) else (cx.ab (dO.2.1,ig.1.2.2.1,())).bind λmT=>(dp.ab (dO.2.2.1,iA.1.2.1,())).bind λyO=>(cX.ab (dO.2.2.1,yO.1,ig.1.2.2.1,())).bind λEQ=>self (iA.2.1,mT.1,EQ.1,ai (dO.2.2.2 - (1:Int)))) else e0 (dO.1,dO.2.1,dO.2.2.1)
noncomputable abbrev B0 (_:Nat):=b0
noncomputable def q0 (J:Arg) (rn:(ax×(List Row)×(List Tx))):Option Out:=(cR.ab (rn.1,(3:Int),())).bind λrm=>bif rm.1 then (if 0<=(0:Int)/\(0:Int) < (rn.2.2.length:Int) then ((rn.2.2[0]?).bind λMY=>(rn.2.2[0]?).bind λQa=>if 0<=(0:Int)/\(0:Int) < (rn.2.2.length:Int) then ((rn.2.2[0]?).bind λIJ=>let Qb:=rn.2.2.set 0 (IJ.1,IJ.2.1,[(0:Int),(Qa.2.1.length:Int)],IJ.2.2.2);some (rn.2.1,Qb,rm.2.1,())) else none) else none) else some (rn.2.1,rn.2.2,rm.2.1,())
noncomputable abbrev Q0 (_:Nat):=q0
noncomputable def s0 (k:Nat) (J:Arg):(ax×(List Row)×(List Tx)×Int)->Option Out:=λdO=>D.L k [1,1,1,0,1,0,0] [0,4,5,6] [] (aj 0 (aG (D.N k [1,1,1,1]) D.K0)) (T0 J dO)
noncomputable def r0 (k:Nat) (J:Arg):(ax×(List Row)×(List Tx)×Int)->Option Out:=au (λw v=>B0 k w (Q0 k J) J v) k
theorem aO (k:Nat) (J:Arg):s0 k J=r0 k J:=
 funext λdO=>aH _ _ _ (T0 J) _ (λrec v=>by kernel_rfl) k dO
noncomputable def p (l0:(ax×(List Row)×(List Tx)×Int)->Option Out) (J:Arg):Option Out:=(ec.ab (J.1,())).bind λr2=>(am.ab (r2.2.1,(9:Int),())).bind λr3=>l0 (r3.2.1,r2.1,[((1:Int),([]:List Change),([]:List Int),([]:List Key),()),((2:Int),([]:List Change),([]:List Int),([]:List Key),())],r3.1)
theorem ae (k:Nat) (J:Arg):@Eq (Option Out) (D.W k J) (p (r0 k J) J):=
 Eq.trans (b:=p (s0 k J) J) (by kernel_rfl) (by rw[aO])
theorem ok:Ok prog 142 D.sig:=aw func142 aM (by kernel_rfl) (fc cR.ok (fc cM.ok (fc am.ok (fc eA.ok (fc dp.ok (fc cx.ok (fc cX.ok (fc ec.ok (an _)))))))))
end bP
namespace gd
abbrev Arg:Type:=ax×Unit
abbrev Out:Type:=(List Row)×(List Tx)×ax×Unit
abbrev ps:PQ:=[(.du (ag bi) (ag bi),bi)]
noncomputable def D:FD:={ fn:=f82,tl:=bd,ps:=ps,rs:=[((.aa ak),(av (.aa ak))),((.aa aC),(av (.aa aC)))],gl:=[(46,d_.D.sig),(51,am.D.sig),(71,aR.D.sig),(81,dG.D.sig),(142,bP.D.sig)],es:=[0],fz:=[(14,9,2)],od:=[(6,[0,1,2,3,4,5,6,7,8,9,10,11,12]),(8,[0,1,2,3,4,5,6,7,8,9,10,11,12]),(14,[0,1,2,3,4,5,6,7,8,9,10,11,12])],er:=[(6,[(4,9)]),(8,[(4,9)])] }
noncomputable def ab (a:Arg):Option Out:=@lift Out λk=>D.W k a
noncomputable def p (J:Arg):Option Out:=(bP.ab (J.1,())).bind λr2=>(am.ab (r2.2.2.1,(14:Int),())).bind λr3=>bif decide (r3.1=(0:Int)) then ((aR.ab (r3.2.1,[(1:Int),(3:Int),(100:Int)],())).bind λr4=>(am.ab (r4.2.1,(5:Int),())).bind λr5=>if r2.2.1.length+[(r4.1,([]:List Change),([]:List Int),[((1:Int),r5.1,())],())].length<=bX then (let y6:=r2.2.1++[(r4.1,([]:List Change),([]:List Int),[((1:Int),r5.1,())],())];some (r2.1,y6,r5.2.1,())) else none) else bif decide (r3.1=(1:Int)) then (if 0<=(0:Int)/\(0:Int) < (r2.2.1.length:Int) then ((r2.2.1[0]?).bind λx7=>(aR.ab (r3.2.1,[(0:Int),(9:Int),(-1:Int)],())).bind λr8=>(r2.2.1[0]?).bind λx9=>(r2.2.1[0]?).bind λvE=>if x9.2.2.1.length+[r8.1].length<=bX then (if 0<=(0:Int)/\(0:Int) < ((r2.2.1.set 0 vE).length:Int) then (if 0=0 then ((r2.2.1.set 0 vE)[0]?).bind λzC=>let MZ:=(r2.2.1.set 0 vE).set 0 (zC.1,zC.2.1,x9.2.2.1++[r8.1],zC.2.2.2);some (r2.1,MZ,r8.2.1,()) else none) else none) else none) else none) else bif decide (r3.1=(2:Int)) then (if 0<=(1:Int)/\(1:Int) < (r2.2.1.length:Int) then ((r2.2.1[1]?).bind λuh=>(d_.ab (r3.2.1,())).bind λG5=>(r2.2.1[1]?).bind λxH=>(r2.2.1[1]?).bind λqb=>if xH.2.1.length+[(false,((0:Int),(0:Int),(0:Int),([]:List UInt8),()),true,G5.1,())].length<=bX then (let vF:=xH.2.1++[(false,((0:Int),(0:Int),(0:Int),([]:List UInt8),()),true,G5.1,())];if 0<=(1:Int)/\(1:Int) < ((r2.2.1.set 1 qb).length:Int) then (if 1=1 then ((r2.2.1.set 1 qb)[1]?).bind λM0=>let RV:=(r2.2.1.set 1 qb).set 1 (M0.1,vF,M0.2.2);some (r2.1,RV,G5.2.1,()) else none) else none) else none) else none) else bif decide (r3.1=(3:Int)) then (if 0<=(5:Int)/\(5:Int)<=(5:Int)/\(5:Int)<=(bX:Int) then (some (r2.1,List.replicate 5 ((0:Int),([]:List Change),([]:List Int),([]:List Key),()),r3.2.1,())) else none) else bif decide (r3.1=(4:Int)) then ((dG.ab (r3.2.1,())).bind λO9=>some (O9.1,r2.2.1,O9.2.1,())) else bif decide (r3.1=(5:Int)) then (if 0<=(1:Int)/\(1:Int) < (r2.2.1.length:Int) then ((r2.2.1[1]?).bind λM1=>if 0<=(0:Int)/\(0:Int) < (r2.2.1.length:Int) then ((r2.2.1[0]?).bind λKd=>(r2.2.1[0]?).bind λMx=>(r2.2.1[0]?).bind λJ9=>(r2.2.1[1]?).bind λDD=>(r2.2.1[1]?).bind λM2=>if DD.2.2.2.1.length+Mx.2.2.2.1.length<=bX then (if 0<=(1:Int)/\(1:Int) < ((r2.2.1.set 1 M2).length:Int) then (if 1=1 then ((r2.2.1.set 1 M2)[1]?).bind λKe=>let RW:=(r2.2.1.set 1 M2).set 1 (Ke.1,Ke.2.1,Ke.2.2.1,DD.2.2.2.1++Mx.2.2.2.1,Ke.2.2.2.2);some (r2.1,RW,r3.2.1,()) else none) else none) else none) else none) else none) else some (r2.1,r2.2.1,r3.2.1,())
theorem ae (k:Nat) (J:Arg):@Eq (Option Out) (D.W k J) (p J):=by kernel_rfl
theorem ok:Ok prog 82 D.sig:=aw func82 aM (by kernel_rfl) (fc d_.ok (fc am.ok (fc aR.ok (fc dG.ok (fc bP.ok (an _))))))
end gd
namespace gH
abbrev Arg:Type:=ax×Unit
abbrev Out:Type:=Plain×ax×Unit
abbrev ps:PQ:=[(.du (ag bi) (ag bi),bi)]
noncomputable def D:FD:={ fn:=f26,tl:=bd,ps:=ps,rs:=[(bF,(ag bF))],gl:=[(51,am.D.sig),(71,aR.D.sig),(79,dw.D.sig),(80,cE.D.sig),(81,dG.D.sig),(82,gd.D.sig)],es:=[0] }
noncomputable def ab (a:Arg):Option Out:=@lift Out λk=>D.W k a
noncomputable def p (J:Arg):Option Out:=(cE.ab (J.1,(16:Int),())).bind λr2=>(dw.ab (r2.1,())).bind λr3=>(am.ab (r2.2.1,(14:Int),())).bind λr4=>bif decide (r4.1=(0:Int)) then ((aR.ab (r4.2.1,[(0:Int),(1:Int),(100:Int),(101:Int)],())).bind λr5=>some ((r3.1.2.2.2.1.1,r3.1.2.2.2.1.2.1,r5.1,r3.1.2.2.2.1.2.2.2),r5.2.1,())) else bif decide (r4.1=(1:Int)) then ((dG.ab (r4.2.1,())).bind λr6=>some ((r6.1,r3.1.2.2.2.1.2),r6.2.1,())) else bif decide (r4.1=(2:Int)) then ((gd.ab (r4.2.1,())).bind λr7=>some ((r3.1.2.2.2.1.1,r7.2.1,r3.1.2.2.2.1.2.2),r7.2.2.1,())) else some (r3.1.2.2.2.1,r4.2.1,())
theorem ae (k:Nat) (J:Arg):@Eq (Option Out) (D.W k J) (p J):=by kernel_rfl
theorem ok:Ok prog 26 D.sig:=aw func26 aM (by kernel_rfl) (fc am.ok (fc aR.ok (fc dw.ok (fc cE.ok (fc dG.ok (fc gd.ok (an _)))))))
end gH
namespace gI
abbrev Arg:Type:=ax×Unit
abbrev Out:Type:=Op×ax×Unit
abbrev ps:PQ:=[(.du (ag bi) (ag bi),bi)]
noncomputable def D:FD:={ fn:=f28,tl:=bd,ps:=ps,rs:=[(e_,(ag e_))],gl:=[(29,cM.D.sig),(46,d_.D.sig),(51,am.D.sig),(71,aR.D.sig)],es:=[0] }
noncomputable def ab (a:Arg):Option Out:=@lift Out λk=>D.W k a
noncomputable def p (J:Arg):Option Out:=(cM.ab (J.1,([]:List Row),([]:List Tx),())).bind λr2=>(am.ab (r2.2.1,(10:Int),())).bind λr3=>bif decide (r3.1=(0:Int)) then ((aR.ab (r3.2.1,[(0:Int),(10:Int),(4:Int),(2:Int)],())).bind λr4=>some ((r4.1,r2.1.2),r4.2.1,())) else bif decide (r3.1=(1:Int)) then ((aR.ab (r3.2.1,[(0:Int),(99:Int),(100:Int)],())).bind λr5=>some ((r2.1.1,r5.1,r2.1.2.2),r5.2.1,())) else bif decide (r3.1=(2:Int)) then ((aR.ab (r3.2.1,[(-1:Int),(7:Int),(8:Int)],())).bind λr6=>some ((r2.1.1,r2.1.2.1,r2.1.2.2.1,r6.1,r2.1.2.2.2.2),r6.2.1,())) else bif decide (r3.1=(3:Int)) then ((d_.ab (r3.2.1,())).bind λr7=>some ((r2.1.1,r2.1.2.1,r7.1,r2.1.2.2.2),r7.2.1,())) else some (r2.1,r3.2.1,())
theorem ae (k:Nat) (J:Arg):@Eq (Option Out) (D.W k J) (p J):=by kernel_rfl
theorem ok:Ok prog 28 D.sig:=aw func28 aM (by kernel_rfl) (fc cM.ok (fc d_.ok (fc am.ok (fc aR.ok (an _)))))
end gI
namespace eU
abbrev Arg:Type:=(List UInt8)×Unit
abbrev Out:Type:=Plain×Op×Unit
abbrev ps:PQ:=[(.ro,(.aa u8))]
noncomputable def D:FD:={ fn:=f7,tl:=bd,ps:=ps,rs:=[(bF,(ag bF)),(e_,(ag e_))],gl:=[(25,iT.D.sig),(26,gH.D.sig),(27,cR.D.sig),(28,gI.D.sig),(29,cM.D.sig)],od:=[(4,[0,1,2,3,4]),(5,[0,1,2,3,4,5,6,7,8])],ar:=[(4,[0]),(5,[0,3,5])],bx:=[(4,[5]),(5,[5])] }
noncomputable def ab (a:Arg):Option Out:=@lift Out λk=>D.W k a
noncomputable def p (J:Arg):Option Out:=(iT.ab (J.1,())).bind λr2=>(gH.ab (r2.1,())).bind λr3=>(cR.ab (r3.2.1,(12:Int),())).bind λr4=>bif r4.1 then ((gI.ab (r4.2.1,())).bind λr5=>some (r3.1,r5.1,())) else (cM.ab (r4.2.1,r3.1.1,r3.1.2.1,())).bind λr6=>some (r3.1,r6.1,())
theorem ae (k:Nat) (J:Arg):@Eq (Option Out) (D.W k J) (p J):=by kernel_rfl
theorem ok:Ok prog 7 D.sig:=aw func7 aM (by kernel_rfl) (fc iT.ok (fc gH.ok (fc cR.ok (fc gI.ok (fc cM.ok (an _))))))
end eU
namespace cf
abbrev Arg:Type:=(List Row)×Unit
abbrev Out:Type:=(List Row)×Unit
abbrev ps:PQ:=[(.ro,(.aa ak))]
noncomputable def D:FD:={ fn:=f87,tl:=bd,ps:=ps,rs:=[((.aa ak),(av (.aa ak)))] }
noncomputable def ab (a:Arg):Option Out:=@lift Out λk=>D.W k a
noncomputable def p (J:Arg):Option Out:=qU J.1 (some (([]:List Row),())) (if ([]:List Row).length+J.1.length<=bX then (some (([]:List Row)++J.1,())) else none)
theorem ae (k:Nat) (J:Arg):@Eq (Option Out) (D.W k J) (p J):=by kernel_rfl
theorem ok:Ok prog 87 D.sig:=aw func87 aM (by kernel_rfl) (an _)
end cf
namespace cz
abbrev Arg:Type:=Int×Int×Int×Unit
abbrev Out:Type:=Bool×Unit
abbrev ps:PQ:=[(.ro,i64),(.ro,i64),(.ro,i64)]
noncomputable def D:FD:={ fn:=f43,tl:=bd,ps:=ps,rs:=[(.bool,(ag .bool))] }
noncomputable def ab (a:Arg):Option Out:=@lift Out λk=>D.W k a
noncomputable def p (J:Arg):Option Out:=bif decide (J.2.1<=J.1) then (some (decide (J.1<=J.2.2.1),())) else some (false,())
theorem ae (k:Nat) (J:Arg):@Eq (Option Out) (D.W k J) (p J):=by kernel_rfl
theorem ok:Ok prog 43 D.sig:=aw func43 aM (by kernel_rfl) (an _)
end cz
namespace bA
abbrev Arg:Type:=Row×Unit
abbrev Out:Type:=Int×Unit
abbrev ps:PQ:=[(.ro,ak)]
noncomputable def D:FD:={ fn:=f111,tl:=bd,ps:=ps,rs:=[(i64,(ag i64))],gl:=[(43,cz.D.sig)],lv:=[(6,[1,26,27])],lx:=[(0,[])] }
noncomputable def ab (a:Arg):Option Out:=@lift Out λk=>D.W k a
noncomputable def T0 (J:Arg) (ii:Int):St:={ n:=43,sl:=[(1,.box ak (ag ak) [] J.1),(26,.val i64 (J.1.2.2.2.1.length:Int)),(27,.val i64 ii)],vr:=[],aA:=[] }
noncomputable def b0 (self:Int->Option Out) (e0:(Unit)->Option Out) (J:Arg) (ii:Int):Option Out:=bif decide (ii < (J.1.2.2.2.1.length:Int)) then (if 0<=ii then ((J.1.2.2.2.1[ii.toNat]?).bind λwm=>bif decide ((wm.toNat:Int) < (97:Int)) then (some ((5:Int),())) else if 0<=ii then ((J.1.2.2.2.1[ii.toNat]?).bind λQc=>bif decide ((122:Int) < (Qc.toNat:Int)) then (some ((5:Int),())) else self (ai (ii+(1:Int)))) else none) else none) else e0 ()
noncomputable abbrev B0 (_:Nat):=b0
noncomputable def q0 (J:Arg) (EN:(Unit)):Option Out:=some ((0:Int),())
noncomputable abbrev Q0 (_:Nat):=q0
noncomputable def s0 (k:Nat) (J:Arg):(Int)->Option Out:=λii=>D.L k [1,1,1,0,1,0,0] [1,26,27] [] (aj 0 (aG (D.N k [1,1,1,1]) D.K0)) (T0 J ii)
noncomputable def r0 (k:Nat) (J:Arg):(Int)->Option Out:=au (λw v=>B0 k w (Q0 k J) J v) k
theorem aO (k:Nat) (J:Arg):s0 k J=r0 k J:=
 funext λii=>aH _ _ _ (T0 J) _ (λrec v=>by kernel_rfl) k ii
noncomputable def p (l0:(Int)->Option Out) (J:Arg):Option Out:=(cz.ab (J.1.1,(0:Int),(3:Int),())).bind λr2=>bif !r2.1 then (some ((3:Int),())) else (cz.ab (J.1.2.1,(1:Int),(99:Int),())).bind λr3=>bif !r3.1 then (some ((3:Int),())) else (cz.ab (J.1.2.2.1,(0:Int),(999:Int),())).bind λr4=>bif !r4.1 then (some ((3:Int),())) else bif decide ((8:Int) < (J.1.2.2.2.1.length:Int)) then (some ((5:Int),())) else l0 (0:Int)
theorem ae (k:Nat) (J:Arg):@Eq (Option Out) (D.W k J) (p (r0 k J) J):=
 Eq.trans (b:=p (s0 k J) J) (by kernel_rfl) (by rw[aO])
theorem ok:Ok prog 111 D.sig:=aw func111 aM (by kernel_rfl) (fc cz.ok (an _))
end bA
namespace eB
abbrev Arg:Type:=Row×Row×Unit
abbrev Out:Type:=Bool×Unit
abbrev ps:PQ:=[(.ro,ak),(.ro,ak)]
noncomputable def D:FD:={ fn:=f112,tl:=bd,ps:=ps,rs:=[(.bool,(ag .bool))] }
noncomputable def ab (a:Arg):Option Out:=@lift Out λk=>D.W k a
noncomputable def p (J:Arg):Option Out:=bif decide (J.1.1 < J.2.1.1) then (some (true,())) else bif decide (J.1.1=J.2.1.1) then (some (decide (J.1.2.1 < J.2.1.2.1),())) else some (false,())
theorem ae (k:Nat) (J:Arg):@Eq (Option Out) (D.W k J) (p J):=by kernel_rfl
theorem ok:Ok prog 112 D.sig:=aw func112 aM (by kernel_rfl) (an _)
end eB
namespace bC
abbrev Arg:Type:=(List Row)×Unit
abbrev Out:Type:=Int×Unit
abbrev ps:PQ:=[(.ro,(.aa ak))]
noncomputable def D:FD:={ fn:=f41,tl:=bd,ps:=ps,rs:=[(i64,(ag i64))],gl:=[(111,bA.D.sig),(112,eB.D.sig)],lv:=[(4,[0,9,10,11])],lx:=[(0,[])],od:=[(9,[0,1,2,3,4,5,6,7,8,9,10,11])] }
noncomputable def ab (a:Arg):Option Out:=@lift Out λk=>D.W k a
noncomputable def T0 (J:Arg) (U:Int):St:={ n:=34,sl:=[(0,.val (.aa ak) J.1),(9,.val (.aa ak) J.1),(10,.val i64 (J.1.length:Int)),(11,.val i64 U)],vr:=[],aA:=[] }
noncomputable def b0 (self:Int->Option Out) (e0:(Unit)->Option Out) (J:Arg) (U:Int):Option Out:=bif decide (U < (J.1.length:Int)) then (if 0<=U then ((J.1[U.toNat]?).bind λaT=>(bA.ab (aT,())).bind λbO=>bif !decide (bO.1=(0:Int)) then (some (bO.1,())) else bif decide ((0:Int) < U) then (if 0<=ai (U - (1:Int)) then ((J.1[(ai (U - (1:Int))).toNat]?).bind λjV=>(eB.ab (jV,aT,())).bind λig=>bif !ig.1 then (some ((1:Int),())) else self (ai (U+(1:Int)))) else none) else self (ai (U+(1:Int)))) else none) else e0 ()
noncomputable abbrev B0 (_:Nat):=b0
noncomputable def q0 (J:Arg) (jW:(Unit)):Option Out:=some ((0:Int),())
noncomputable abbrev Q0 (_:Nat):=q0
noncomputable def s0 (k:Nat) (J:Arg):(Int)->Option Out:=λU=>D.L k [1,1,0,1,0,0] [0,9,10,11] [] (aj 0 (aG (D.N k [1,1,1]) D.K0)) (T0 J U)
noncomputable def r0 (k:Nat) (J:Arg):(Int)->Option Out:=au (λw v=>B0 k w (Q0 k J) J v) k
theorem aO (k:Nat) (J:Arg):s0 k J=r0 k J:=
 funext λU=>aH _ _ _ (T0 J) _ (λrec v=>by kernel_rfl) k U
noncomputable def p (l0:(Int)->Option Out) (J:Arg):Option Out:=bif decide ((60:Int) < (J.1.length:Int)) then (some ((2:Int),())) else l0 (0:Int)
theorem ae (k:Nat) (J:Arg):@Eq (Option Out) (D.W k J) (p (r0 k J) J):=
 Eq.trans (b:=p (s0 k J) J) (by kernel_rfl) (by rw[aO])
theorem ok:Ok prog 41 D.sig:=aw func41 aM (by kernel_rfl) (fc bA.ok (fc eB.ok (an _)))
end bC
namespace fu
abbrev Arg:Type:=Row×Row×Unit
abbrev Out:Type:=Int×Unit
abbrev ps:PQ:=[(.ro,ak),(.ro,ak)]
noncomputable def D:FD:={ fn:=f129,tl:=bd,ps:=ps,rs:=[(i64,(ag i64))],gl:=[(112,eB.D.sig)] }
noncomputable def ab (a:Arg):Option Out:=@lift Out λk=>D.W k a
noncomputable def p (J:Arg):Option Out:=(eB.ab (J.1,J.2.1,())).bind λr2=>bif r2.1 then (some ((-1:Int),())) else (eB.ab (J.2.1,J.1,())).bind λr3=>bif r3.1 then (some ((1:Int),())) else some ((0:Int),())
theorem ae (k:Nat) (J:Arg):@Eq (Option Out) (D.W k J) (p J):=by kernel_rfl
theorem ok:Ok prog 129 D.sig:=aw func129 aM (by kernel_rfl) (fc eB.ok (an _))
end fu
namespace dj
abbrev Arg:Type:=Change×Unit
abbrev Out:Type:=Int×Unit
abbrev ps:PQ:=[(.ro,ay)]
noncomputable def D:FD:={ fn:=f53,tl:=bd,ps:=ps,rs:=[(i64,(ag i64))],gl:=[(111,bA.D.sig),(129,fu.D.sig)] }
noncomputable def ab (a:Arg):Option Out:=@lift Out λk=>D.W k a
noncomputable def p (J:Arg):Option Out:=let j7:Option Out:=bif J.1.1 then ((bA.ab (J.1.2.1,())).bind λr8=>bif !decide (r8.1=(0:Int)) then (some (r8.1,())) else bif J.1.2.2.1 then ((bA.ab (J.1.2.2.2.1,())).bind λkV=>some (kV.1,())) else some ((0:Int),())) else bif J.1.2.2.1 then ((bA.ab (J.1.2.2.2.1,())).bind λoA=>some (oA.1,())) else some ((0:Int),());bif !J.1.1 then (bif !J.1.2.2.1 then (some ((1:Int),())) else bif J.1.1 then (bif J.1.2.2.1 then ((fu.ab (J.1.2.1,J.1.2.2.2.1,())).bind λr2=>bif !decide (r2.1=(0:Int)) then (some ((1:Int),())) else j7) else j7) else j7) else bif J.1.1 then (bif J.1.2.2.1 then ((fu.ab (J.1.2.1,J.1.2.2.2.1,())).bind λr3=>bif !decide (r3.1=(0:Int)) then (some ((1:Int),())) else j7) else j7) else j7
theorem ae (k:Nat) (J:Arg):@Eq (Option Out) (D.W k J) (p J):=by kernel_rfl
theorem ok:Ok prog 53 D.sig:=aw func53 aM (by kernel_rfl) (fc bA.ok (fc fu.ok (an _)))
end dj
namespace bt
abbrev Arg:Type:=Change×Unit
abbrev Out:Type:=Row×Unit
abbrev ps:PQ:=[(.ro,ay)]
noncomputable def D:FD:={ fn:=f58,tl:=bd,ps:=ps,rs:=[(ak,(ag ak))] }
noncomputable def ab (a:Arg):Option Out:=@lift Out λk=>D.W k a
noncomputable def p (J:Arg):Option Out:=bif J.1.2.2.1 then (some (J.1.2.2.2.1,())) else some (J.1.2.1,())
theorem ae (k:Nat) (J:Arg):@Eq (Option Out) (D.W k J) (p J):=by kernel_rfl
theorem ok:Ok prog 58 D.sig:=aw func58 aM (by kernel_rfl) (an _)
end bt
namespace az
abbrev Arg:Type:=(List Row)×Row×(Nat×Int)×Unit
abbrev Out:Type:=Int×Bool×Unit
abbrev ps:PQ:=[(.ro,(.aa ak)),(.ro,ak),(.fix 129,.fn)]
noncomputable def D:FD:={ fn:=f130,tl:=bd,ps:=ps,rs:=[(i64,(ag i64)),(.bool,(ag .bool))],gl:=[(129,fu.D.sig)],lv:=[(3,[0,2,4,8,9,10])],lx:=[(0,[0,2,4,8,9])],od:=[(5,[0,1,2,3,4,5,6,7]),(8,[0,1,2,3,4,5,6,7,8,9,10,11,12,13,14,15])] }
noncomputable def ab (a:Arg):Option Out:=@lift Out λk=>D.W k a
noncomputable def T0 (J:Arg) (U:Int×Int):St:={ n:=49,sl:=[(0,.val (.aa ak) J.1),(2,.val .fn ((129,J.2.2.1.2):Nat×Int)),(4,.box ak (ag ak) [] J.2.1),(8,.val i64 (J.1.length:Int)),(9,.val i64 U.1),(10,.val i64 U.2)],vr:=[],aA:=[] }
noncomputable def b0 (self:(Int×Int)->Option Out) (e0:Int->Option Out) (J:Arg) (U:Int×Int):Option Out:=bif decide (U.1 < U.2) then (if 0<=ai ((IntKind.wrap .u64 (ai (U.1+U.2))).fdiv (2 ^ 1)) then ((J.1[(ai ((IntKind.wrap .u64 (ai (U.1+U.2))).fdiv (2 ^ 1))).toNat]?).bind λaT=>(fu.ab (aT,J.2.1,())).bind λbO=>bif decide (bO.1 < (0:Int)) then (self (ai ((ai ((IntKind.wrap .u64 (ai (U.1+U.2))).fdiv (2 ^ 1)))+(1:Int)),U.2)) else self (U.1,ai ((IntKind.wrap .u64 (ai (U.1+U.2))).fdiv (2 ^ 1)))) else none) else e0 U.1
noncomputable abbrev B0 (_:Nat):=b0
noncomputable def q0 (J:Arg) (cK:Int):Option Out:=bif decide (cK < (J.1.length:Int)) then (if 0<=cK then ((J.1[cK.toNat]?).bind λwm=>(fu.ab (wm,J.2.1,())).bind λmT=>some (cK,decide (mT.1=(0:Int)),())) else none) else some (cK,false,())
noncomputable abbrev Q0 (_:Nat):=q0
noncomputable def s0 (k:Nat) (J:Arg):(Int×Int)->Option Out:=λU=>D.L k [1,1,1,0,0,0] [0,2,4,8,9,10] [] (aj 0 (aG (D.N k [1,1,1,1]) D.K0)) (T0 J U)
noncomputable def r0 (k:Nat) (J:Arg):(Int×Int)->Option Out:=au (λw v=>B0 k w (Q0 k J) J v) k
theorem aO (k:Nat) (J:Arg):s0 k J=r0 k J:=
 funext λU=>aH _ _ _ (T0 J) _ (λrec v=>by kernel_rfl) k U
noncomputable def p (l0:(Int×Int)->Option Out) (J:Arg):Option Out:=l0 ((0:Int),(J.1.length:Int))
theorem ae (k:Nat) (J:Arg):@Eq (Option Out) (D.W k J) (p (r0 k J) J):=
 Eq.trans (b:=p (s0 k J) J) (by kernel_rfl) (by rw[aO])
theorem ok:Ok prog 130 D.sig:=aw func130 aM (by kernel_rfl) (fc fu.ok (an _))
end az
namespace eV
abbrev Arg:Type:=Change×(List Row)×Unit
abbrev Out:Type:=Bool×Unit
abbrev ps:PQ:=[(.ro,ay),(.ro,(.aa ak))]
noncomputable def D:FD:={ fn:=f54,tl:=bd,ps:=ps,rs:=[(.bool,(ag .bool))],gl:=[(58,bt.D.sig),(130,az.D.sig)],od:=[(2,[0,1,2,3,4,5,6,7,8,9,10,11,12,13,14,15,16,17])] }
noncomputable def ab (a:Arg):Option Out:=@lift Out λk=>D.W k a
noncomputable def p (J:Arg):Option Out:=(bt.ab (J.1,())).bind λr2=>(az.ab (J.2.1,r2.1,((129,0):Nat×Int),())).bind λr3=>bif (r3.2.1 == J.1.1) then (bif !r3.2.1 then (some (true,())) else if 0<=r3.1 then ((J.2.1[r3.1.toNat]?).bind λx4=>some ((Ty.eq ak x4 J.1.2.1),())) else none) else some (false,())
theorem ae (k:Nat) (J:Arg):@Eq (Option Out) (D.W k J) (p J):=by kernel_rfl
theorem ok:Ok prog 54 D.sig:=aw func54 aM (by kernel_rfl) (fc bt.ok (fc az.ok (an _)))
end eV
namespace gJ
abbrev Arg:Type:=(List Row)×Change×Unit
abbrev Out:Type:=(List Row)×Unit
abbrev ps:PQ:=[(.ro,(.aa ak)),(.ro,ay)]
noncomputable def D:FD:={ fn:=f150,tl:=bd,ps:=ps,rs:=[((.aa ak),(av (.aa ak)))],gl:=[(58,bt.D.sig),(130,az.D.sig)] }
noncomputable def ab (a:Arg):Option Out:=@lift Out λk=>D.W k a
noncomputable def p (J:Arg):Option Out:=(bt.ab (J.2.1,())).bind λr2=>(az.ab (J.1,r2.1,((129,0):Nat×Int),())).bind λr3=>if 0<=r3.1/\r3.1<=(J.1.length:Int) then (if ([]:List Row).length+((J.1.take r3.1.toNat).drop 0).length<=bX then (let y4:=([]:List Row)++((J.1.take r3.1.toNat).drop 0);let j8:=λ(p7:List Row)=>(let G6:=λ(Kg:Int)=>(if 0<=Kg/\Kg<=(J.1.length:Int) then (if p7.length+((J.1.take J.1.length).drop Kg.toNat).length<=bX then (let MZ:=p7++((J.1.take J.1.length).drop Kg.toNat);some (MZ,())) else none) else none:Option Out);bif r3.2.1 then (G6 (ai (r3.1+(1:Int)))) else G6 r3.1:Option Out);bif J.2.1.2.2.1 then (if y4.length+[J.2.1.2.2.2.1].length<=bX then (j8 (y4++[J.2.1.2.2.2.1])) else none) else j8 y4) else none) else none
theorem ae (k:Nat) (J:Arg):@Eq (Option Out) (D.W k J) (p J):=by kernel_rfl
theorem ok:Ok prog 150 D.sig:=aw func150 aM (by kernel_rfl) (fc bt.ok (fc az.ok (an _)))
end gJ
namespace bD
abbrev Arg:Type:=(List Row)×(List Change)×Unit
abbrev Out:Type:=o7×Unit
abbrev ps:PQ:=[(.ro,(.aa ak)),(.ro,(.aa ay))]
noncomputable def D:FD:={ fn:=f89,tl:=bd,ps:=ps,rs:=[(lJ,(av lJ))],gl:=[(41,bC.D.sig),(53,dj.D.sig),(54,eV.D.sig),(87,cf.D.sig),(150,gJ.D.sig)],lv:=[(6,[4,6,18,19,20])],lx:=[(0,[4,6])] }
noncomputable def ab (a:Arg):Option Out:=@lift Out λk=>D.W k a
noncomputable def T0 (J:Arg) (dO:(List Row)×Int):St:={ n:=45,sl:=[(4,.box lJ (av lJ) [] ((0:Int),([]:List Row),())),(6,.own (.aa ak) (av (.aa ak)) [] dO.1),(18,.val (.aa ay) J.2.1),(19,.val i64 (J.2.1.length:Int)),(20,.val i64 dO.2)],vr:=[],aA:=[] }
noncomputable def b0 (self:((List Row)×Int)->Option Out) (e0:(List Row)->Option Out) (J:Arg) (dO:(List Row)×Int):Option Out:=bif decide (dO.2 < (J.2.1.length:Int)) then (if 0<=dO.2 then ((J.2.1[dO.2.toNat]?).bind λjV=>(dj.ab (jV,())).bind λig=>bif !decide (ig.1=(0:Int)) then (some ((ig.1,([]:List Row),()),())) else (eV.ab (jV,dO.1,())).bind λmT=>bif !mT.1 then (some (((8:Int),([]:List Row),()),())) else (gJ.ab (dO.1,jV,())).bind λyO=>self (yO.1,ai (dO.2+(1:Int)))) else none) else e0 dO.1
noncomputable abbrev B0 (_:Nat):=b0
noncomputable def q0 (J:Arg) (rp:(List Row)):Option Out:=bif decide ((60:Int) < (rp.length:Int)) then (some (((2:Int),([]:List Row),()),())) else some (((0:Int),rp,()),())
noncomputable abbrev Q0 (_:Nat):=q0
noncomputable def s0 (k:Nat) (J:Arg):((List Row)×Int)->Option Out:=λdO=>D.L k [1,1,1,0,1,0,0] [4,6,18,19,20] [] (aj 0 (aG (D.N k [1,1,1,1]) D.K0)) (T0 J dO)
noncomputable def r0 (k:Nat) (J:Arg):((List Row)×Int)->Option Out:=au (λw v=>B0 k w (Q0 k J) J v) k
theorem aO (k:Nat) (J:Arg):s0 k J=r0 k J:=
 funext λdO=>aH _ _ _ (T0 J) _ (λrec v=>by kernel_rfl) k dO
noncomputable def p (l0:((List Row)×Int)->Option Out) (J:Arg):Option Out:=(bC.ab (J.1,())).bind λr2=>bif !decide (r2.1=(0:Int)) then (some ((r2.1,([]:List Row),()),())) else (cf.ab (J.1,())).bind λr3=>l0 (r3.1,(0:Int))
theorem ae (k:Nat) (J:Arg):@Eq (Option Out) (D.W k J) (p (r0 k J) J):=
 Eq.trans (b:=p (s0 k J) J) (by kernel_rfl) (by rw[aO])
theorem ok:Ok prog 89 D.sig:=aw func89 aM (by kernel_rfl) (fc bC.ok (fc dj.ok (fc eV.ok (fc cf.ok (fc gJ.ok (an _))))))
end bD
namespace dk
abbrev Arg:Type:=(List Change)×Unit
abbrev Out:Type:=(List Change)×Unit
abbrev ps:PQ:=[(.ro,(.aa ay))]
noncomputable def D:FD:={ fn:=f95,tl:=bd,ps:=ps,rs:=[((.aa ay),(av (.aa ay)))],lv:=[(3,[0,3,4])],lx:=[(0,[3])] }
noncomputable def ab (a:Arg):Option Out:=@lift Out λk=>D.W k a
noncomputable def T0 (J:Arg) (U:(List Change)×Int):St:={ n:=30,sl:=[(0,.val (.aa ay) J.1),(3,.own (.aa ay) (av (.aa ay)) [] U.1),(4,.val i64 U.2)],vr:=[],aA:=[] }
noncomputable def b0 (self:((List Change)×Int)->Option Out) (e0:(List Change)->Option Out) (J:Arg) (U:(List Change)×Int):Option Out:=bif decide ((0:Int)<=U.2) then (if 0<=U.2 then ((J.1[U.2.toNat]?).bind λaT=>if U.1.length+[(aT.2.2.1,aT.2.2.2.1,aT.1,aT.2.1,())].length<=bX then (let BJ:=U.1++[(aT.2.2.1,aT.2.2.2.1,aT.1,aT.2.1,())];self (BJ,ai (U.2 - (1:Int)))) else none) else none) else e0 U.1
noncomputable abbrev B0 (_:Nat):=b0
noncomputable def q0 (J:Arg) (cK:(List Change)):Option Out:=some (cK,())
noncomputable abbrev Q0 (_:Nat):=q0
noncomputable def s0 (k:Nat) (J:Arg):((List Change)×Int)->Option Out:=λU=>D.L k [1,1,0,1,0,0] [0,3,4] [] (aj 0 (aG (D.N k [1,1,1]) D.K0)) (T0 J U)
noncomputable def r0 (k:Nat) (J:Arg):((List Change)×Int)->Option Out:=au (λw v=>B0 k w (Q0 k J) J v) k
theorem aO (k:Nat) (J:Arg):s0 k J=r0 k J:=
 funext λU=>aH _ _ _ (T0 J) _ (λrec v=>by kernel_rfl) k U
noncomputable def p (l0:((List Change)×Int)->Option Out) (J:Arg):Option Out:=l0 (([]:List Change),ai ((J.1.length:Int) - (1:Int)))
theorem ae (k:Nat) (J:Arg):@Eq (Option Out) (D.W k J) (p (r0 k J) J):=
 Eq.trans (b:=p (s0 k J) J) (by kernel_rfl) (by rw[aO])
theorem ok:Ok prog 95 D.sig:=aw func95 aM (by kernel_rfl) (an _)
end dk
namespace de
abbrev Arg:Type:=(List Row)×(List Tx)×Unit
abbrev Out:Type:=(List Row)×Int×Unit
abbrev ps:PQ:=[(.ro,(.aa ak)),(.ro,(.aa aC))]
noncomputable def D:FD:={ fn:=f40,tl:=bd,ps:=ps,rs:=[((.aa ak),(av (.aa ak))),(i64,(ag i64))],gl:=[(87,cf.D.sig),(89,bD.D.sig),(95,dk.D.sig)],lv:=[(2,[0,9,10,11])],lx:=[(0,[0])],lf:=[(2,[(0,(.aa false (.pair .leaf (.pair .leaf (.pair .leaf (.pair .leaf .leaf))))))])],od:=[(6,[0,1,2,3])] }
noncomputable def ab (a:Arg):Option Out:=@lift Out λk=>D.W k a
noncomputable def T0 (J:Arg) (U:(List Row)×Int):St:={ n:=30,sl:=[(0,.val (.aa ak) U.1),(9,.val (.aa aC) J.2.1),(10,.val i64 (J.2.1.length:Int)),(11,.val i64 U.2)],vr:=[],aA:=[] }
noncomputable def b0 (self:((List Row)×Int)->Option Out) (e0:(List Row)->Option Out) (J:Arg) (U:(List Row)×Int):Option Out:=bif decide (U.2 < (J.2.1.length:Int)) then (if 0<=U.2 then ((J.2.1[U.2.toNat]?).bind λaT=>(dk.ab (aT.2.1,())).bind λbO=>(bD.ab (U.1,bO.1,())).bind λiA=>bif !decide (iA.1.1=(0:Int)) then (some (([]:List Row),iA.1.1,())) else self (iA.1.2.1,ai (U.2+(1:Int)))) else none) else e0 U.1
noncomputable abbrev B0 (_:Nat):=b0
noncomputable def q0 (J:Arg) (Mr:(List Row)):Option Out:=(cf.ab (Mr,())).bind λmT=>some (mT.1,(0:Int),())
noncomputable abbrev Q0 (_:Nat):=q0
noncomputable def s0 (k:Nat) (J:Arg):((List Row)×Int)->Option Out:=λU=>D.L k [1,0,1,0,0] [0,9,10,11] [(0,(.aa false (.pair .leaf (.pair .leaf (.pair .leaf (.pair .leaf .leaf))))))] (aj 0 (aG (D.N k [1,1]) D.K0)) (T0 J U)
noncomputable def r0 (k:Nat) (J:Arg):((List Row)×Int)->Option Out:=au (λw v=>B0 k w (Q0 k J) J v) k
theorem aO (k:Nat) (J:Arg):s0 k J=r0 k J:=
 funext λU=>aH _ _ _ (T0 J) _ (λrec v=>by kernel_rfl) k U
noncomputable def p (l0:((List Row)×Int)->Option Out) (J:Arg):Option Out:=l0 (J.1,(0:Int))
theorem ae (k:Nat) (J:Arg):@Eq (Option Out) (D.W k J) (p (r0 k J) J):=
 Eq.trans (b:=p (s0 k J) J) (by kernel_rfl) (by rw[aO])
theorem ok:Ok prog 40 D.sig:=aw func40 aM (by kernel_rfl) (fc cf.ok (fc bD.ok (fc dk.ok (an _))))
end de
namespace cF
abbrev Arg:Type:=(List Tx)×Unit
abbrev Out:Type:=Int×Unit
abbrev ps:PQ:=[(.ro,(.aa aC))]
noncomputable def D:FD:={ fn:=f93,tl:=bd,ps:=ps,rs:=[(i64,(ag i64))],lv:=[(3,[3,6,7,8])],lx:=[(0,[3])] }
noncomputable def ab (a:Arg):Option Out:=@lift Out λk=>D.W k a
noncomputable def T0 (J:Arg) (U:Int×Int):St:={ n:=19,sl:=[(3,.val i64 U.1),(6,.val (.aa aC) J.1),(7,.val i64 (J.1.length:Int)),(8,.val i64 U.2)],vr:=[],aA:=[] }
noncomputable def b0 (self:(Int×Int)->Option Out) (e0:Int->Option Out) (J:Arg) (U:Int×Int):Option Out:=bif decide (U.2 < (J.1.length:Int)) then (if 0<=U.2 then ((J.1[U.2.toNat]?).bind λaT=>self (ai (U.1+(aT.2.1.length:Int)),ai (U.2+(1:Int)))) else none) else e0 U.1
noncomputable abbrev B0 (_:Nat):=b0
noncomputable def q0 (J:Arg) (sK:Int):Option Out:=some (sK,())
noncomputable abbrev Q0 (_:Nat):=q0
noncomputable def s0 (k:Nat) (J:Arg):(Int×Int)->Option Out:=λU=>D.L k [1,1,0,1,0,0] [3,6,7,8] [] (aj 0 (aG (D.N k [1,1,1]) D.K0)) (T0 J U)
noncomputable def r0 (k:Nat) (J:Arg):(Int×Int)->Option Out:=au (λw v=>B0 k w (Q0 k J) J v) k
theorem aO (k:Nat) (J:Arg):s0 k J=r0 k J:=
 funext λU=>aH _ _ _ (T0 J) _ (λrec v=>by kernel_rfl) k U
noncomputable def p (l0:(Int×Int)->Option Out) (J:Arg):Option Out:=l0 ((0:Int),(0:Int))
theorem ae (k:Nat) (J:Arg):@Eq (Option Out) (D.W k J) (p (r0 k J) J):=
 Eq.trans (b:=p (s0 k J) J) (by kernel_rfl) (by rw[aO])
theorem ok:Ok prog 93 D.sig:=aw func93 aM (by kernel_rfl) (an _)
end cF
namespace gK
abbrev Arg:Type:=Int×Unit
abbrev Out:Type:=Bool×Unit
abbrev ps:PQ:=[(.ro,i64)]
noncomputable def D:FD:={ fn:=f113,tl:=bd,ps:=ps,rs:=[(.bool,(ag .bool))],gl:=[(43,cz.D.sig)] }
noncomputable def ab (a:Arg):Option Out:=@lift Out λk=>D.W k a
noncomputable def p (J:Arg):Option Out:=(cz.ab (J.1,(1:Int),(99:Int),())).bind λr2=>some (r2.1,())
theorem ae (k:Nat) (J:Arg):@Eq (Option Out) (D.W k J) (p J):=by kernel_rfl
theorem ok:Ok prog 113 D.sig:=aw func113 aM (by kernel_rfl) (fc cz.ok (an _))
end gK
namespace dP
abbrev Arg:Type:=Change×Unit
abbrev Out:Type:=Int×Unit
abbrev ps:PQ:=[(.ro,ay)]
noncomputable def D:FD:={ fn:=f90,tl:=bd,ps:=ps,rs:=[(i64,(ag i64))],gl:=[(53,dj.D.sig)] }
noncomputable def ab (a:Arg):Option Out:=@lift Out λk=>D.W k a
noncomputable def p (J:Arg):Option Out:=(dj.ab (J.1,())).bind λr2=>bif !decide (r2.1=(0:Int)) then (some (r2.1,())) else bif J.1.1 then (bif J.1.2.2.1 then (bif (Ty.eq ak J.1.2.1 J.1.2.2.2.1) then (some ((1:Int),())) else some ((0:Int),())) else some ((0:Int),())) else some ((0:Int),())
theorem ae (k:Nat) (J:Arg):@Eq (Option Out) (D.W k J) (p J):=by kernel_rfl
theorem ok:Ok prog 90 D.sig:=aw func90 aM (by kernel_rfl) (fc dj.ok (an _))
end dP
namespace cg
abbrev Arg:Type:=Change×Unit
abbrev Out:Type:=Key×Unit
abbrev ps:PQ:=[(.ro,ay)]
noncomputable def D:FD:={ fn:=f92,tl:=bd,ps:=ps,rs:=[(aF,(ag aF))],gl:=[(58,bt.D.sig)],od:=[(1,[0,3,1,2,4,5,6,7])] }
noncomputable def ab (a:Arg):Option Out:=@lift Out λk=>D.W k a
noncomputable def p (J:Arg):Option Out:=(bt.ab (J.1,())).bind λr2=>(bt.ab (J.1,())).bind λr3=>some ((r2.1.1,r3.1.2.1,()),())
theorem ae (k:Nat) (J:Arg):@Eq (Option Out) (D.W k J) (p J):=by kernel_rfl
theorem ok:Ok prog 92 D.sig:=aw func92 aM (by kernel_rfl) (fc bt.ok (an _))
end cg
namespace dm
abbrev Arg:Type:=(List Key)×Key×Unit
abbrev Out:Type:=Int×Unit
abbrev ps:PQ:=[(.ro,(.aa aF)),(.ro,aF)]
noncomputable def D:FD:={ fn:=f195,tl:=bd,ps:=ps,rs:=[(i64,(ag i64))],lv:=[(2,[0,3,7,8])],lx:=[(0,[])],od:=[(4,[0,1,2,3,4,5])] }
noncomputable def ab (a:Arg):Option Out:=@lift Out λk=>D.W k a
noncomputable def T0 (J:Arg) (U:Int):St:={ n:=19,sl:=[(0,.val (.aa aF) J.1),(3,.box aF (ag aF) [] J.2.1),(7,.val i64 (J.1.length:Int)),(8,.val i64 U)],vr:=[],aA:=[] }
noncomputable def b0 (self:Int->Option Out) (e0:(Unit)->Option Out) (J:Arg) (U:Int):Option Out:=bif decide (U < (J.1.length:Int)) then (if 0<=U then ((J.1[U.toNat]?).bind λaT=>bif (Ty.eq aF J.2.1 aT) then (some (U,())) else self (ai (U+(1:Int)))) else none) else e0 ()
noncomputable abbrev B0 (_:Nat):=b0
noncomputable def q0 (J:Arg) (sK:(Unit)):Option Out:=some ((-1:Int),())
noncomputable abbrev Q0 (_:Nat):=q0
noncomputable def s0 (k:Nat) (J:Arg):(Int)->Option Out:=λU=>D.L k [1,0,1,0,0] [0,3,7,8] [] (aj 0 (aG (D.N k [1,1]) D.K0)) (T0 J U)
noncomputable def r0 (k:Nat) (J:Arg):(Int)->Option Out:=au (λw v=>B0 k w (Q0 k J) J v) k
theorem aO (k:Nat) (J:Arg):s0 k J=r0 k J:=
 funext λU=>aH _ _ _ (T0 J) _ (λrec v=>by kernel_rfl) k U
noncomputable def p (l0:(Int)->Option Out) (J:Arg):Option Out:=l0 (0:Int)
theorem ae (k:Nat) (J:Arg):@Eq (Option Out) (D.W k J) (p (r0 k J) J):=
 Eq.trans (b:=p (s0 k J) J) (by kernel_rfl) (by rw[aO])
theorem ok:Ok prog 195 D.sig:=aw func195 aM (by kernel_rfl) (an _)
end dm
namespace bH
abbrev Arg:Type:=(List Key)×Key×Unit
abbrev Out:Type:=Bool×Unit
abbrev ps:PQ:=[(.ro,(.aa aF)),(.ro,aF)]
noncomputable def D:FD:={ fn:=f151,tl:=bd,ps:=ps,rs:=[(.bool,(ag .bool))],gl:=[(195,dm.D.sig)] }
noncomputable def ab (a:Arg):Option Out:=@lift Out λk=>D.W k a
noncomputable def p (J:Arg):Option Out:=(dm.ab (J.1,J.2.1,())).bind λr2=>some (decide ((0:Int)<=r2.1),())
theorem ae (k:Nat) (J:Arg):@Eq (Option Out) (D.W k J) (p J):=by kernel_rfl
theorem ok:Ok prog 151 D.sig:=aw func151 aM (by kernel_rfl) (fc dm.ok (an _))
end bH
namespace jZ
abbrev Arg:Type:=Int×Int×Unit
abbrev Out:Type:=Bool×Unit
abbrev ps:PQ:=[(.ro,i64),(.ro,i64)]
noncomputable def D:FD:={ fn:=f164,tl:=bd,ps:=ps,rs:=[(.bool,(ag .bool))],gl:=[(43,cz.D.sig)] }
noncomputable def ab (a:Arg):Option Out:=@lift Out λk=>D.W k a
noncomputable def p (J:Arg):Option Out:=(cz.ab (J.1,(0:Int),(3:Int),())).bind λr2=>bif r2.1 then ((cz.ab (J.2.1,(1:Int),(99:Int),())).bind λr3=>some (r3.1,())) else some (false,())
theorem ae (k:Nat) (J:Arg):@Eq (Option Out) (D.W k J) (p J):=by kernel_rfl
theorem ok:Ok prog 164 D.sig:=aw func164 aM (by kernel_rfl) (fc cz.ok (an _))
end jZ
namespace bq
abbrev Arg:Type:=Tx×Unit
abbrev Out:Type:=Int×Unit
abbrev ps:PQ:=[(.ro,aC)]
noncomputable def D:FD:={ fn:=f114,tl:=bd,ps:=ps,rs:=[(i64,(ag i64))],gl:=[(43,cz.D.sig),(90,dP.D.sig),(92,cg.D.sig),(151,bH.D.sig),(164,jZ.D.sig)],lv:=[(2,[1,12,13,14]),(14,[1,6,41,42,43]),(21,[1,57,58,59])],lx:=[(0,[1]),(2,[1]),(4,[])],od:=[(7,[0,1,2,3,4,5]),(25,[0,1,2,3,4,5])] }
noncomputable def ab (a:Arg):Option Out:=@lift Out λk=>D.W k a
noncomputable def T0 (J:Arg) (U:Int):St:={ n:=77,sl:=[(1,.box aC (ag aC) [] J.1),(12,.val (.aa ay) J.1.2.1),(13,.val i64 (J.1.2.1.length:Int)),(14,.val i64 U)],vr:=[],aA:=[] }
noncomputable def S0 (rec:RT Out) (J:Arg):(Int)->Option Out:=λU=>rec (T0 J U)
noncomputable def cV (K:KT Out) (J:Arg):(Unit)->Option Out:=λz=>K (.exit 0) ({ n:=77,sl:=[(1,.box aC (ag aC) [] J.1)],vr:=[],aA:=[] })
noncomputable def b0 (self:Int->Option Out) (e0:(Unit)->Option Out) (J:Arg) (U:Int):Option Out:=bif decide (U < (J.1.2.1.length:Int)) then (if 0<=U then ((J.1.2.1[U.toNat]?).bind λaT=>(dP.ab (aT,())).bind λbO=>bif !decide (bO.1=(0:Int)) then (some (bO.1,())) else (cg.ab (aT,())).bind λiA=>(bH.ab (J.1.2.2.2.1,iA.1,())).bind λig=>bif !ig.1 then (some ((8:Int),())) else self (ai (U+(1:Int)))) else none) else e0 ()
noncomputable abbrev B0 (_:Nat):=b0
theorem i7 (k:Nat) (rec:RT Out) (K:KT Out) (J:Arg) (U:Int):D.N k [1,0,1,0,0] (T0 J U) (fq rec (dx [1,12,13,14] []) K)=b0 (S0 rec J) (cV K J) J U:=by kernel_rfl
noncomputable def T1 (J:Arg) (cT:Int×Int):St:={ n:=77,sl:=[(1,.box aC (ag aC) [] J.1),(6,.val i64 cT.1),(41,.val (.aa i64) J.1.2.2.1),(42,.val i64 (J.1.2.2.1.length:Int)),(43,.val i64 cT.2)],vr:=[],aA:=[] }
noncomputable def S1 (rec:RT Out) (J:Arg):(Int×Int)->Option Out:=λcT=>rec (T1 J cT)
noncomputable def fK (K:KT Out) (J:Arg):(Unit)->Option Out:=λz=>K (.exit 2) ({ n:=77,sl:=[(1,.box aC (ag aC) [] J.1)],vr:=[],aA:=[] })
noncomputable def b1 (self:(Int×Int)->Option Out) (e2:(Unit)->Option Out) (J:Arg) (cT:Int×Int):Option Out:=bif decide (cT.2 < (J.1.2.2.1.length:Int)) then (if 0<=cT.2 then ((J.1.2.2.1[cT.2.toNat]?).bind λnS=>(cz.ab (nS,cT.1,(J.1.2.1.length:Int),())).bind λxC=>bif !xC.1 then (some ((3:Int),())) else self (nS,ai (cT.2+(1:Int)))) else none) else e2 ()
noncomputable abbrev B1 (_:Nat):=b1
theorem o_ (k:Nat) (rec:RT Out) (K:KT Out) (J:Arg) (cT:Int×Int):D.N k [1,1,1,1,0,1,0,0] (T1 J cT) (fq rec (dx [1,6,41,42,43] []) K)=b1 (S1 rec J) (fK K J) J cT:=by kernel_rfl
noncomputable def T2 (J:Arg) (eP:Int):St:={ n:=77,sl:=[(1,.box aC (ag aC) [] J.1),(57,.val (.aa aF) J.1.2.2.2.1),(58,.val i64 (J.1.2.2.2.1.length:Int)),(59,.val i64 eP)],vr:=[],aA:=[] }
noncomputable def b2 (self:Int->Option Out) (e4:(Unit)->Option Out) (J:Arg) (eP:Int):Option Out:=bif decide (eP < (J.1.2.2.2.1.length:Int)) then (if 0<=eP then ((J.1.2.2.2.1[eP.toNat]?).bind λET=>(jZ.ab (ET.1,ET.2.1,())).bind λN5=>bif !N5.1 then (some ((3:Int),())) else if 0<=eP/\eP<=(J.1.2.2.2.1.length:Int) then ((bH.ab ((J.1.2.2.2.1.take eP.toNat).drop 0,ET,())).bind λN6=>bif N6.1 then (some ((6:Int),())) else self (ai (eP+(1:Int)))) else none) else none) else e4 ()
noncomputable abbrev B2 (_:Nat):=b2
noncomputable def q2 (J:Arg) (u0:(Unit)):Option Out:=some ((0:Int),())
noncomputable abbrev Q2 (_:Nat):=q2
noncomputable def s2 (k:Nat) (J:Arg):(Int)->Option Out:=λeP=>D.L k [1,1,1,1,1,0,1,0,0] [1,57,58,59] [] (aj 4 (aG (D.N k [1,1,1,1,1,1]) D.K0)) (T2 J eP)
noncomputable def r2 (k:Nat) (J:Arg):(Int)->Option Out:=au (λw v=>B2 k w (Q2 k J) J v) k
theorem o9 (k:Nat) (J:Arg):s2 k J=r2 k J:=
 funext λeP=>aH _ _ _ (T2 J) _ (λrec v=>by kernel_rfl) k eP
noncomputable def q1 (l2:(Int)->Option Out) (J:Arg) (sM:(Unit)):Option Out:=l2 (0:Int)
noncomputable def Q1 (k:Nat) (J:Arg) (sM:(Unit)):Option Out:=q1 (r2 k J) J sM
theorem pa (k:Nat) (J:Arg) (sM:(Unit)):fK (aj 2 (aG (D.N k [1,1,1,1,1]) D.K0)) J sM=Q1 k J sM:=
 Eq.trans (b:=q1 (s2 k J) J sM) (by kernel_rfl) (by rw[o9];rfl)
noncomputable def s1 (k:Nat) (J:Arg):(Int×Int)->Option Out:=λcT=>D.L k [1,1,1,1,0,1,0,0] [1,6,41,42,43] [] (aj 2 (aG (D.N k [1,1,1,1,1]) D.K0)) (T1 J cT)
noncomputable def r1 (k:Nat) (J:Arg):(Int×Int)->Option Out:=au (λw v=>B1 k w (Q1 k J) J v) k
theorem i9 (k:Nat) (J:Arg):s1 k J=r1 k J:=by
 funext cT;
 have Y:fK (aj 2 (aG (D.N k [1,1,1,1,1]) D.K0)) J=Q1 k J:=funext λz=>pa k J z
 refine (aH _ _ _ (T1 J) (λself v=>B1 k self (fK (aj 2 (aG (D.N k [1,1,1,1,1]) D.K0)) J) J v) (λrec v=>o_ k rec (aj 2 (aG (D.N k [1,1,1,1,1]) D.K0)) J v) k cT).trans ?_
 rw[Y]
 rfl
noncomputable def q0 (l1:(Int×Int)->Option Out) (J:Arg) (jW:(Unit)):Option Out:=bif decide ((8:Int) < (J.1.2.2.1.length:Int)) then (some ((2:Int),())) else bif decide ((12:Int) < (J.1.2.2.2.1.length:Int)) then (some ((2:Int),())) else l1 ((0:Int),(0:Int))
noncomputable def Q0 (k:Nat) (J:Arg) (jW:(Unit)):Option Out:=q0 (r1 k J) J jW
theorem mU (k:Nat) (J:Arg) (jW:(Unit)):cV (aj 0 (aG (D.N k [1,1]) D.K0)) J jW=Q0 k J jW:=
 Eq.trans (b:=q0 (s1 k J) J jW) (by kernel_rfl) (by rw[i9];rfl)
noncomputable def s0 (k:Nat) (J:Arg):(Int)->Option Out:=λU=>D.L k [1,0,1,0,0] [1,12,13,14] [] (aj 0 (aG (D.N k [1,1]) D.K0)) (T0 J U)
noncomputable def r0 (k:Nat) (J:Arg):(Int)->Option Out:=au (λw v=>B0 k w (Q0 k J) J v) k
theorem aO (k:Nat) (J:Arg):s0 k J=r0 k J:=by
 funext U;
 have h0:cV (aj 0 (aG (D.N k [1,1]) D.K0)) J=Q0 k J:=funext λz=>mU k J z
 refine (aH _ _ _ (T0 J) (λself v=>B0 k self (cV (aj 0 (aG (D.N k [1,1]) D.K0)) J) J v) (λrec v=>i7 k rec (aj 0 (aG (D.N k [1,1]) D.K0)) J v) k U).trans ?_
 rw[h0]
 rfl
noncomputable def p (l0:(Int)->Option Out) (J:Arg):Option Out:=l0 (0:Int)
theorem ae (k:Nat) (J:Arg):@Eq (Option Out) (D.W k J) (p (r0 k J) J):=
 Eq.trans (b:=p (s0 k J) J) (by kernel_rfl) (by rw[aO])
theorem ok:Ok prog 114 D.sig:=aw func114 aM (by kernel_rfl) (fc cz.ok (fc dP.ok (fc cg.ok (fc bH.ok (fc jZ.ok (an _))))))
end bq
namespace aL
abbrev Arg:Type:=(List Tx)×Unit
abbrev Out:Type:=Int×Unit
abbrev ps:PQ:=[(.ro,(.aa aC))]
noncomputable def D:FD:={ fn:=f42,tl:=bd,ps:=ps,rs:=[(i64,(ag i64))],gl:=[(93,cF.D.sig),(113,gK.D.sig),(114,bq.D.sig)],lv:=[(4,[0,14,15,16]),(16,[0,6,45,46,47]),(19,[0,6,45,46,47,52,53,54])],lx:=[(0,[0]),(2,[0]),(4,[0,6,45,46,47])],od:=[(8,[0,1,2,3,4,5,6,7,8,9,10,11,12])] }
noncomputable def ab (a:Arg):Option Out:=@lift Out λk=>D.W k a
noncomputable def T0 (J:Arg) (U:Int):St:={ n:=68,sl:=[(0,.val (.aa aC) J.1),(14,.val (.aa aC) J.1),(15,.val i64 (J.1.length:Int)),(16,.val i64 U)],vr:=[],aA:=[] }
noncomputable def S0 (rec:RT Out) (J:Arg):(Int)->Option Out:=λU=>rec (T0 J U)
noncomputable def cV (K:KT Out) (J:Arg):(Unit)->Option Out:=λz=>K (.exit 0) ({ n:=68,sl:=[(0,.val (.aa aC) J.1)],vr:=[],aA:=[] })
noncomputable def b0 (self:Int->Option Out) (e0:(Unit)->Option Out) (J:Arg) (U:Int):Option Out:=bif decide (U < (J.1.length:Int)) then (if 0<=U then ((J.1[U.toNat]?).bind λaT=>(gK.ab (aT.1,())).bind λbO=>bif !bO.1 then (some ((3:Int),())) else bif decide ((0:Int) < U) then (if 0<=ai (U - (1:Int)) then ((J.1[(ai (U - (1:Int))).toNat]?).bind λjV=>bif decide (aT.1<=jV.1) then (some ((1:Int),())) else (bq.ab (aT,())).bind λmT=>bif !decide (mT.1=(0:Int)) then (some (mT.1,())) else self (ai (U+(1:Int)))) else none) else (bq.ab (aT,())).bind λyO=>bif !decide (yO.1=(0:Int)) then (some (yO.1,())) else self (ai (U+(1:Int)))) else none) else e0 ()
noncomputable abbrev B0 (_:Nat):=b0
theorem i7 (k:Nat) (rec:RT Out) (K:KT Out) (J:Arg) (U:Int):D.N k [1,1,0,1,0,0] (T0 J U) (fq rec (dx [0,14,15,16] []) K)=b0 (S0 rec J) (cV K J) J U:=by kernel_rfl
noncomputable def T1 (J:Arg) (cd:(List Tx)×(List (Key×Bool))×(List Tx)×Int×Int):St:={ n:=68,sl:=[(0,.val (.aa aC) cd.1),(6,.own (.map aF .bool) (av (.map aF .bool)) [] cd.2.1),(45,.val (.aa aC) cd.2.2.1),(46,.val i64 cd.2.2.2.1),(47,.val i64 cd.2.2.2.2)],vr:=[],aA:=[] }
noncomputable def S1 (rec:RT Out) (J:Arg):((List Tx)×(List (Key×Bool))×(List Tx)×Int×Int)->Option Out:=λcd=>rec (T1 J cd)
noncomputable def fK (K:KT Out) (J:Arg):(List Tx)->Option Out:=λz=>K (.exit 2) ({ n:=68,sl:=[(0,.val (.aa aC) z)],vr:=[],aA:=[] })
noncomputable def T2 (J:Arg) (dg:List Tx) (mV:List Tx) (mW:Int) (mX:Int) (mY:List Key) (mZ:Int) (eP:(List (Key×Bool))×Int):St:={ n:=68,sl:=[(0,.val (.aa aC) dg),(6,.own (.map aF .bool) (av (.map aF .bool)) [] eP.1),(45,.val (.aa aC) mV),(46,.val i64 mW),(47,.val i64 mX),(52,.val (.aa aF) mY),(53,.val i64 mZ),(54,.val i64 eP.2)],vr:=[],aA:=[] }
noncomputable def b2 (self:((List (Key×Bool))×Int)->Option Out) (e4:(List (Key×Bool))->Option Out) (J:Arg) (dg:List Tx) (mV:List Tx) (mW:Int) (mX:Int) (mY:List Key) (mZ:Int) (eP:(List (Key×Bool))×Int):Option Out:=bif decide (eP.2 < mZ) then (if 0<=eP.2 then ((mY[eP.2.toNat]?).bind λKh=>bif AD (gi aF eP.1 Kh) false then (some ((7:Int),())) else self (gj aF eP.1 Kh true,ai (eP.2+(1:Int)))) else none) else e4 eP.1
noncomputable abbrev B2 (_:Nat):=b2
noncomputable def q1 (self:((List Tx)×(List (Key×Bool))×(List Tx)×Int×Int)->Option Out) (e2:(List Tx)->Option Out) (J:Arg) (dg:List Tx) (mV:List Tx) (mW:Int) (mX:Int) (mY:List Key) (mZ:Int) (N7:(List (Key×Bool))):Option Out:=self (dg,N7,mV,mW,ai (mX+(1:Int)))
noncomputable abbrev Q1 (_:Nat):=q1
noncomputable def s2 (k:Nat) (rec:RT Out) (K:KT Out) (J:Arg):(List Tx)->(List Tx)->Int->Int->(List Key)->Int->((List (Key×Bool))×Int)->Option Out:=λdg mV mW mX mY mZ=>λeP=>D.L k [1,1,1,1,0,1,0,0,1,1,0,0,1,1,0,0] [0,6,45,46,47,52,53,54] [] (aj 4 (aj 3 (aG (D.N k [1,1,1,1,0,1,0,0,1,1,1]) (fq rec (dx [0,6,45,46,47] []) K)))) (T2 J dg mV mW mX mY mZ eP)
noncomputable def r2 (k:Nat) (self:((List Tx)×(List (Key×Bool))×(List Tx)×Int×Int)->Option Out) (e2:(List Tx)->Option Out) (J:Arg):(List Tx)->(List Tx)->Int->Int->(List Key)->Int->((List (Key×Bool))×Int)->Option Out:=λdg mV mW mX mY mZ=>au (λw v=>B2 k w (Q1 k self e2 J dg mV mW mX mY mZ) J dg mV mW mX mY mZ v) k
theorem o9 (k:Nat) (rec:RT Out) (K:KT Out) (J:Arg):s2 k rec K J=r2 k (S1 rec J) (fK K J) J:=
 funext λdg=>funext λmV=>funext λmW=>funext λmX=>funext λmY=>funext λmZ=>funext λeP=>aH _ _ _ (T2 J dg mV mW mX mY mZ) _ (λrec v=>by kernel_rfl) k eP
noncomputable def b1 (self:((List Tx)×(List (Key×Bool))×(List Tx)×Int×Int)->Option Out) (e2:(List Tx)->Option Out) (l2:(List Tx)->(List Tx)->Int->Int->(List Key)->Int->((List (Key×Bool))×Int)->Option Out) (J:Arg) (cd:(List Tx)×(List (Key×Bool))×(List Tx)×Int×Int):Option Out:=bif decide (cd.2.2.2.2 < cd.2.2.2.1) then (if 0<=cd.2.2.2.2 then ((cd.2.2.1[cd.2.2.2.2.toNat]?).bind λnV=>l2 cd.1 cd.2.2.1 cd.2.2.2.1 cd.2.2.2.2 nV.2.2.2.1 (nV.2.2.2.1.length:Int) (cd.2.1,(0:Int))) else none) else e2 cd.1
noncomputable def B1 (k:Nat) (self:((List Tx)×(List (Key×Bool))×(List Tx)×Int×Int)->Option Out) (e2:(List Tx)->Option Out) (J:Arg) (cd:(List Tx)×(List (Key×Bool))×(List Tx)×Int×Int):Option Out:=b1 self e2 (r2 k self e2 J) J cd
theorem o_ (k:Nat) (rec:RT Out) (K:KT Out) (J:Arg) (cd:(List Tx)×(List (Key×Bool))×(List Tx)×Int×Int):D.N k [1,1,1,1,0,1,0,0] (T1 J cd) (fq rec (dx [0,6,45,46,47] []) K)=B1 k (S1 rec J) (fK K J) J cd:=
 Eq.trans (b:=b1 (S1 rec J) (fK K J) (s2 k rec K J) J cd) (by kernel_rfl) (by rw[o9];rfl)
noncomputable def q2 (J:Arg) (Am:(List Tx)):Option Out:=(cF.ab (Am,())).bind λN8=>bif decide ((12:Int) < N8.1) then (some ((2:Int),())) else some ((0:Int),())
noncomputable abbrev Q2 (_:Nat):=q2
theorem xD (k:Nat) (J:Arg) (Am:(List Tx)):fK (aj 2 (aG (D.N k [1,1,1,1,1]) D.K0)) J Am=q2 J Am:=by kernel_rfl
noncomputable def s1 (k:Nat) (J:Arg):((List Tx)×(List (Key×Bool))×(List Tx)×Int×Int)->Option Out:=λcd=>D.L k [1,1,1,1,0,1,0,0] [0,6,45,46,47] [] (aj 2 (aG (D.N k [1,1,1,1,1]) D.K0)) (T1 J cd)
noncomputable def r1 (k:Nat) (J:Arg):((List Tx)×(List (Key×Bool))×(List Tx)×Int×Int)->Option Out:=au (λw v=>B1 k w (Q2 k J) J v) k
theorem i9 (k:Nat) (J:Arg):s1 k J=r1 k J:=by
 funext cd;
 have Y:fK (aj 2 (aG (D.N k [1,1,1,1,1]) D.K0)) J=Q2 k J:=funext λz=>xD k J z
 refine (aH _ _ _ (T1 J) (λself v=>B1 k self (fK (aj 2 (aG (D.N k [1,1,1,1,1]) D.K0)) J) J v) (λrec v=>o_ k rec (aj 2 (aG (D.N k [1,1,1,1,1]) D.K0)) J v) k cd).trans ?_
 rw[Y]
 rfl
noncomputable def q0 (l1:((List Tx)×(List (Key×Bool))×(List Tx)×Int×Int)->Option Out) (J:Arg) (rp:(Unit)):Option Out:=l1 (J.1,([]:List (Key×Bool)),J.1,(J.1.length:Int),(0:Int))
noncomputable def Q0 (k:Nat) (J:Arg) (rp:(Unit)):Option Out:=q0 (r1 k J) J rp
theorem mU (k:Nat) (J:Arg) (rp:(Unit)):cV (aj 0 (aG (D.N k [1,1,1]) D.K0)) J rp=Q0 k J rp:=
 Eq.trans (b:=q0 (s1 k J) J rp) (by kernel_rfl) (by rw[i9];rfl)
noncomputable def s0 (k:Nat) (J:Arg):(Int)->Option Out:=λU=>D.L k [1,1,0,1,0,0] [0,14,15,16] [] (aj 0 (aG (D.N k [1,1,1]) D.K0)) (T0 J U)
noncomputable def r0 (k:Nat) (J:Arg):(Int)->Option Out:=au (λw v=>B0 k w (Q0 k J) J v) k
theorem aO (k:Nat) (J:Arg):s0 k J=r0 k J:=by
 funext U;
 have h0:cV (aj 0 (aG (D.N k [1,1,1]) D.K0)) J=Q0 k J:=funext λz=>mU k J z
 refine (aH _ _ _ (T0 J) (λself v=>B0 k self (cV (aj 0 (aG (D.N k [1,1,1]) D.K0)) J) J v) (λrec v=>i7 k rec (aj 0 (aG (D.N k [1,1,1]) D.K0)) J v) k U).trans ?_
 rw[h0]
 rfl
noncomputable def p (l0:(Int)->Option Out) (J:Arg):Option Out:=bif decide ((4:Int) < (J.1.length:Int)) then (some ((2:Int),())) else l0 (0:Int)
theorem ae (k:Nat) (J:Arg):@Eq (Option Out) (D.W k J) (p (r0 k J) J):=
 Eq.trans (b:=p (s0 k J) J) (by kernel_rfl) (by rw[aO])
theorem ok:Ok prog 42 D.sig:=aw func42 aM (by kernel_rfl) (fc cF.ok (fc gK.ok (fc bq.ok (an _))))
end aL
namespace bc
abbrev Arg:Type:=(List Row)×(List Tx)×Unit
abbrev Out:Type:=(List (Key×Bool))×Unit
abbrev ps:PQ:=[(.ro,(.aa ak)),(.ro,(.aa aC))]
noncomputable def D:FD:={ fn:=f44,tl:=bd,ps:=ps,rs:=[((.map aF .bool),(av (.map aF .bool)))],lv:=[(3,[1,5,13,14,15]),(8,[5,26,27,28]),(11,[5,26,27,28,33,34,35])],lx:=[(0,[1,5]),(2,[5]),(4,[5,26,27,28])] }
noncomputable def ab (a:Arg):Option Out:=@lift Out λk=>D.W k a
noncomputable def T0 (J:Arg) (U:(List (Key×Bool))×Int):St:={ n:=44,sl:=[(1,.val (.aa aC) J.2.1),(5,.own (.map aF .bool) (av (.map aF .bool)) [] U.1),(13,.val (.aa ak) J.1),(14,.val i64 (J.1.length:Int)),(15,.val i64 U.2)],vr:=[],aA:=[] }
noncomputable def S0 (rec:RT Out) (J:Arg):((List (Key×Bool))×Int)->Option Out:=λU=>rec (T0 J U)
noncomputable def cV (K:KT Out) (J:Arg):(List (Key×Bool))->Option Out:=λz=>K (.exit 0) ({ n:=44,sl:=[(1,.val (.aa aC) J.2.1),(5,.own (.map aF .bool) (av (.map aF .bool)) [] z)],vr:=[],aA:=[] })
noncomputable def b0 (self:((List (Key×Bool))×Int)->Option Out) (e0:(List (Key×Bool))->Option Out) (J:Arg) (U:(List (Key×Bool))×Int):Option Out:=bif decide (U.2 < (J.1.length:Int)) then (if 0<=U.2 then ((J.1[U.2.toNat]?).bind λaT=>let BJ:=gj aF U.1 (aT.1,aT.2.1,()) true;self (BJ,ai (U.2+(1:Int)))) else none) else e0 U.1
noncomputable abbrev B0 (_:Nat):=b0
theorem i7 (k:Nat) (rec:RT Out) (K:KT Out) (J:Arg) (U:(List (Key×Bool))×Int):D.N k [1,1,0,1,0,0] (T0 J U) (fq rec (dx [1,5,13,14,15] []) K)=b0 (S0 rec J) (cV K J) J U:=by kernel_rfl
noncomputable def T1 (J:Arg) (cc:(List (Key×Bool))×(List Tx)×Int×Int):St:={ n:=44,sl:=[(5,.own (.map aF .bool) (av (.map aF .bool)) [] cc.1),(26,.val (.aa aC) cc.2.1),(27,.val i64 cc.2.2.1),(28,.val i64 cc.2.2.2)],vr:=[],aA:=[] }
noncomputable def S1 (rec:RT Out) (J:Arg):((List (Key×Bool))×(List Tx)×Int×Int)->Option Out:=λcc=>rec (T1 J cc)
noncomputable def fK (K:KT Out) (J:Arg):(List (Key×Bool))->Option Out:=λz=>K (.exit 2) ({ n:=44,sl:=[(5,.own (.map aF .bool) (av (.map aF .bool)) [] z)],vr:=[],aA:=[] })
noncomputable def T2 (J:Arg) (m9:List Tx) (m_:Int) (nc:Int) (ft:List Key) (dg:Int) (ln:(List (Key×Bool))×Int):St:={ n:=44,sl:=[(5,.own (.map aF .bool) (av (.map aF .bool)) [] ln.1),(26,.val (.aa aC) m9),(27,.val i64 m_),(28,.val i64 nc),(33,.val (.aa aF) ft),(34,.val i64 dg),(35,.val i64 ln.2)],vr:=[],aA:=[] }
noncomputable def b2 (self:((List (Key×Bool))×Int)->Option Out) (e4:(List (Key×Bool))->Option Out) (J:Arg) (m9:List Tx) (m_:Int) (nc:Int) (ft:List Key) (dg:Int) (ln:(List (Key×Bool))×Int):Option Out:=bif decide (ln.2 < dg) then (if 0<=ln.2 then ((ft[ln.2.toNat]?).bind λEO=>self (gj aF ln.1 EO true,ai (ln.2+(1:Int)))) else none) else e4 ln.1
noncomputable abbrev B2 (_:Nat):=b2
noncomputable def q1 (self:((List (Key×Bool))×(List Tx)×Int×Int)->Option Out) (e2:(List (Key×Bool))->Option Out) (J:Arg) (m9:List Tx) (m_:Int) (nc:Int) (ft:List Key) (dg:Int) (N9:(List (Key×Bool))):Option Out:=self (N9,m9,m_,ai (nc+(1:Int)))
noncomputable abbrev Q1 (_:Nat):=q1
noncomputable def s2 (k:Nat) (rec:RT Out) (K:KT Out) (J:Arg):(List Tx)->Int->Int->(List Key)->Int->((List (Key×Bool))×Int)->Option Out:=λm9 m_ nc ft dg=>λln=>D.L k [1,1,1,0,1,0,0,1,1,0,0,1,1,0,0] [5,26,27,28,33,34,35] [] (aj 4 (aj 3 (aG (D.N k [1,1,1,0,1,0,0,1,1,1]) (fq rec (dx [5,26,27,28] []) K)))) (T2 J m9 m_ nc ft dg ln)
noncomputable def r2 (k:Nat) (self:((List (Key×Bool))×(List Tx)×Int×Int)->Option Out) (e2:(List (Key×Bool))->Option Out) (J:Arg):(List Tx)->Int->Int->(List Key)->Int->((List (Key×Bool))×Int)->Option Out:=λm9 m_ nc ft dg=>au (λw v=>B2 k w (Q1 k self e2 J m9 m_ nc ft dg) J m9 m_ nc ft dg v) k
theorem o9 (k:Nat) (rec:RT Out) (K:KT Out) (J:Arg):s2 k rec K J=r2 k (S1 rec J) (fK K J) J:=
 funext λm9=>funext λm_=>funext λnc=>funext λft=>funext λdg=>funext λln=>aH _ _ _ (T2 J m9 m_ nc ft dg) _ (λrec v=>by kernel_rfl) k ln
noncomputable def b1 (self:((List (Key×Bool))×(List Tx)×Int×Int)->Option Out) (e2:(List (Key×Bool))->Option Out) (l2:(List Tx)->Int->Int->(List Key)->Int->((List (Key×Bool))×Int)->Option Out) (J:Arg) (cc:(List (Key×Bool))×(List Tx)×Int×Int):Option Out:=bif decide (cc.2.2.2 < cc.2.2.1) then (if 0<=cc.2.2.2 then ((cc.2.1[cc.2.2.2.toNat]?).bind λsL=>l2 cc.2.1 cc.2.2.1 cc.2.2.2 sL.2.2.2.1 (sL.2.2.2.1.length:Int) (cc.1,(0:Int))) else none) else e2 cc.1
noncomputable def B1 (k:Nat) (self:((List (Key×Bool))×(List Tx)×Int×Int)->Option Out) (e2:(List (Key×Bool))->Option Out) (J:Arg) (cc:(List (Key×Bool))×(List Tx)×Int×Int):Option Out:=b1 self e2 (r2 k self e2 J) J cc
theorem o_ (k:Nat) (rec:RT Out) (K:KT Out) (J:Arg) (cc:(List (Key×Bool))×(List Tx)×Int×Int):D.N k [1,1,1,0,1,0,0] (T1 J cc) (fq rec (dx [5,26,27,28] []) K)=B1 k (S1 rec J) (fK K J) J cc:=
 Eq.trans (b:=b1 (S1 rec J) (fK K J) (s2 k rec K J) J cc) (by kernel_rfl) (by rw[o9];rfl)
noncomputable def q2 (J:Arg) (u0:(List (Key×Bool))):Option Out:=some (u0,())
noncomputable abbrev Q2 (_:Nat):=q2
theorem xD (k:Nat) (J:Arg) (u0:(List (Key×Bool))):fK (aj 2 (aG (D.N k [1,1,1,1]) D.K0)) J u0=q2 J u0:=by kernel_rfl
noncomputable def s1 (k:Nat) (J:Arg):((List (Key×Bool))×(List Tx)×Int×Int)->Option Out:=λcc=>D.L k [1,1,1,0,1,0,0] [5,26,27,28] [] (aj 2 (aG (D.N k [1,1,1,1]) D.K0)) (T1 J cc)
noncomputable def r1 (k:Nat) (J:Arg):((List (Key×Bool))×(List Tx)×Int×Int)->Option Out:=au (λw v=>B1 k w (Q2 k J) J v) k
theorem i9 (k:Nat) (J:Arg):s1 k J=r1 k J:=by
 funext cc;
 have Y:fK (aj 2 (aG (D.N k [1,1,1,1]) D.K0)) J=Q2 k J:=funext λz=>xD k J z
 refine (aH _ _ _ (T1 J) (λself v=>B1 k self (fK (aj 2 (aG (D.N k [1,1,1,1]) D.K0)) J) J v) (λrec v=>o_ k rec (aj 2 (aG (D.N k [1,1,1,1]) D.K0)) J v) k cc).trans ?_
 rw[Y]
 rfl
noncomputable def q0 (l1:((List (Key×Bool))×(List Tx)×Int×Int)->Option Out) (J:Arg) (cK:(List (Key×Bool))):Option Out:=l1 (cK,J.2.1,(J.2.1.length:Int),(0:Int))
noncomputable def Q0 (k:Nat) (J:Arg) (cK:(List (Key×Bool))):Option Out:=q0 (r1 k J) J cK
theorem mU (k:Nat) (J:Arg) (cK:(List (Key×Bool))):cV (aj 0 (aG (D.N k [1,1,1]) D.K0)) J cK=Q0 k J cK:=
 Eq.trans (b:=q0 (s1 k J) J cK) (by kernel_rfl) (by rw[i9];rfl)
noncomputable def s0 (k:Nat) (J:Arg):((List (Key×Bool))×Int)->Option Out:=λU=>D.L k [1,1,0,1,0,0] [1,5,13,14,15] [] (aj 0 (aG (D.N k [1,1,1]) D.K0)) (T0 J U)
noncomputable def r0 (k:Nat) (J:Arg):((List (Key×Bool))×Int)->Option Out:=au (λw v=>B0 k w (Q0 k J) J v) k
theorem aO (k:Nat) (J:Arg):s0 k J=r0 k J:=by
 funext U;
 have h0:cV (aj 0 (aG (D.N k [1,1,1]) D.K0)) J=Q0 k J:=funext λz=>mU k J z
 refine (aH _ _ _ (T0 J) (λself v=>B0 k self (cV (aj 0 (aG (D.N k [1,1,1]) D.K0)) J) J v) (λrec v=>i7 k rec (aj 0 (aG (D.N k [1,1,1]) D.K0)) J v) k U).trans ?_
 rw[h0]
 rfl
noncomputable def p (l0:((List (Key×Bool))×Int)->Option Out) (J:Arg):Option Out:=l0 (([]:List (Key×Bool)),(0:Int))
theorem ae (k:Nat) (J:Arg):@Eq (Option Out) (D.W k J) (p (r0 k J) J):=
 Eq.trans (b:=p (s0 k J) J) (by kernel_rfl) (by rw[aO])
theorem ok:Ok prog 44 D.sig:=aw func44 aM (by kernel_rfl) (an _)
end bc
namespace dH
abbrev Arg:Type:=Plain×Unit
abbrev Out:Type:=Int×Unit
abbrev ps:PQ:=[(.ro,bF)]
noncomputable def D:FD:={ fn:=f11,tl:=bd,ps:=ps,rs:=[(i64,(ag i64))],gl:=[(40,de.D.sig),(41,bC.D.sig),(42,aL.D.sig),(43,cz.D.sig),(44,bc.D.sig)],od:=[(7,[0,1,2,3,4,5,6,7,8,9,10,11,12,13,14,15,16,17,18,19,20,21,22,23])],ar:=[(7,[1,6,11,13,18,20])],bx:=[(7,[1])] }
noncomputable def ab (a:Arg):Option Out:=@lift Out λk=>D.W k a
noncomputable def p (J:Arg):Option Out:=(bC.ab (J.1.1,())).bind λr2=>bif !decide (r2.1=(0:Int)) then (some (r2.1,())) else (aL.ab (J.1.2.1,())).bind λr3=>bif !decide (r3.1=(0:Int)) then (some (r3.1,())) else let j8:Option Out:=(bc.ab (J.1.1,J.1.2.1,())).bind λr9=>bif decide ((12:Int) < (r9.1.length:Int)) then (some ((2:Int),())) else (de.ab (J.1.1,J.1.2.1,())).bind λkV=>bif !decide (kV.2.1=(0:Int)) then (some ((8:Int),())) else some ((0:Int),());(cz.ab (J.1.2.2.1,(1:Int),(100:Int),())).bind λr4=>bif !r4.1 then (some ((3:Int),())) else bif decide ((0:Int) < (J.1.2.1.length:Int)) then (if 0<=ai ((J.1.2.1.length:Int) - (1:Int)) then ((J.1.2.1[(ai ((J.1.2.1.length:Int) - (1:Int))).toNat]?).bind λx5=>bif decide (J.1.2.2.1<=x5.1) then (some ((3:Int),())) else j8) else none) else j8
theorem ae (k:Nat) (J:Arg):@Eq (Option Out) (D.W k J) (p J):=by kernel_rfl
theorem ok:Ok prog 11 D.sig:=aw func11 aM (by kernel_rfl) (fc de.ok (fc bC.ok (fc aL.ok (fc cz.ok (fc bc.ok (an _))))))
end dH
namespace gx
abbrev Arg:Type:=Int×Unit
abbrev Out:Type:=Bool×Unit
abbrev ps:PQ:=[(.ro,i64)]
noncomputable def D:FD:={ fn:=f143,tl:=bd,ps:=ps,rs:=[(.bool,(ag .bool))] }
noncomputable def ab (a:Arg):Option Out:=@lift Out λk=>D.W k a
noncomputable def p (J:Arg):Option Out:=bif decide (J.1=(2:Int)) then (some (true,())) else bif decide (J.1=(3:Int)) then (some (true,())) else some (decide (J.1=(4:Int)),())
theorem ae (k:Nat) (J:Arg):@Eq (Option Out) (D.W k J) (p J):=by kernel_rfl
theorem ok:Ok prog 143 D.sig:=aw func143 aM (by kernel_rfl) (an _)
end gx
namespace gL
abbrev Arg:Type:=Op×Unit
abbrev Out:Type:=Int×Unit
abbrev ps:PQ:=[(.ro,e_)]
noncomputable def D:FD:={ fn:=f84,tl:=bd,ps:=ps,rs:=[(i64,(ag i64))],gl:=[(43,cz.D.sig),(111,bA.D.sig),(113,gK.D.sig),(143,gx.D.sig)] }
noncomputable def ab (a:Arg):Option Out:=@lift Out λk=>D.W k a
noncomputable def p (J:Arg):Option Out:=let O_:=λ(Pa:Bool)=>(let zD:Option Out:=let Pb:Option Out:=bif !Pa then ((gK.ab (J.1.2.1,())).bind λRX=>bif !RX.1 then (some ((3:Int),())) else (cz.ab (J.1.2.2.2.1,(0:Int),(7:Int),())).bind λRY=>bif !RY.1 then (some ((3:Int),())) else (gx.ab (J.1.1,())).bind λRZ=>bif RZ.1 then ((bA.ab (J.1.2.2.1,())).bind λR2=>some (R2.1,())) else some ((0:Int),())) else (cz.ab (J.1.2.2.2.1,(0:Int),(7:Int),())).bind λR3=>bif !R3.1 then (some ((3:Int),())) else (gx.ab (J.1.1,())).bind λR4=>bif R4.1 then ((bA.ab (J.1.2.2.1,())).bind λR5=>some (R5.1,())) else some ((0:Int),());bif decide (J.1.1=(4:Int)) then (bif !decide (J.1.2.2.1.2.2.1=(0:Int)) then (some ((1:Int),())) else bif !decide (J.1.2.2.1.2.2.2.1=([]:List UInt8)) then (some ((1:Int),())) else Pb) else Pb;(cz.ab (J.1.1,(1:Int),(9:Int),())).bind λMu=>bif !Mu.1 then (some ((1:Int),())) else bif Pa then (bif !decide (J.1.2.1=(0:Int)) then (some ((1:Int),())) else (gx.ab (J.1.1,())).bind λMv=>bif !Mv.1 then (bif !(Ty.eq ak J.1.2.2.1 ((0:Int),(0:Int),(0:Int),([]:List UInt8),())) then (some ((1:Int),())) else bif !decide (J.1.1=(6:Int)) then (bif !decide (J.1.2.2.2.1=(0:Int)) then (some ((1:Int),())) else zD) else zD) else bif !decide (J.1.1=(6:Int)) then (bif !decide (J.1.2.2.2.1=(0:Int)) then (some ((1:Int),())) else zD) else zD) else (gx.ab (J.1.1,())).bind λMw=>bif !Mw.1 then (bif !(Ty.eq ak J.1.2.2.1 ((0:Int),(0:Int),(0:Int),([]:List UInt8),())) then (some ((1:Int),())) else bif !decide (J.1.1=(6:Int)) then (bif !decide (J.1.2.2.2.1=(0:Int)) then (some ((1:Int),())) else zD) else zD) else bif !decide (J.1.1=(6:Int)) then (bif !decide (J.1.2.2.2.1=(0:Int)) then (some ((1:Int),())) else zD) else zD:Option Out);bif decide (J.1.1=(1:Int)) then (O_ true) else O_ (decide (J.1.1=(9:Int)))
theorem ae (k:Nat) (J:Arg):@Eq (Option Out) (D.W k J) (p J):=by kernel_rfl
theorem ok:Ok prog 84 D.sig:=aw func84 aM (by kernel_rfl) (fc cz.ok (fc bA.ok (fc gK.ok (fc gx.ok (an _)))))
end gL
namespace ky
abbrev Arg:Type:=Tx×Int×Unit
abbrev Out:Type:=Bool×Unit
abbrev ps:PQ:=[(.ro,aC),(.ro,(.ptr i64))]
noncomputable def D:FD:={ fn:=f145,tl:=bd,ps:=ps,rs:=[(.bool,(ag .bool))],cap:=true }
noncomputable def ab (a:Arg):Option Out:=@lift Out λk=>D.W k a
noncomputable def p (J:Arg):Option Out:=some (decide (J.1.1=J.2.1),())
theorem ae (k:Nat) (J:Arg):@Eq (Option Out) (D.W k J) (p J):=by kernel_rfl
theorem ok:Ok prog 145 D.sig:=aw func145 aM (by kernel_rfl) (an _)
end ky
namespace bU
abbrev Arg:Type:=(List Tx)×(Nat×Int)×Unit
abbrev Out:Type:=Int×Unit
abbrev ps:PQ:=[(.ro,(.aa aC)),(.fix 145,.fn)]
noncomputable def D:FD:={ fn:=f144,tl:=bd,ps:=ps,rs:=[(i64,(ag i64))],gl:=[(145,ky.D.sig)],lv:=[(2,[0,1,7,8])],lx:=[(0,[])] }
noncomputable def ab (a:Arg):Option Out:=@lift Out λk=>D.W k a
noncomputable def T0 (J:Arg) (U:Int):St:={ n:=19,sl:=[(0,.val (.aa aC) J.1),(1,.val .fn ((145,J.2.1.2):Nat×Int)),(7,.val i64 (J.1.length:Int)),(8,.val i64 U)],vr:=[],aA:=[] }
noncomputable def b0 (self:Int->Option Out) (e0:(Unit)->Option Out) (J:Arg) (U:Int):Option Out:=bif decide (U < (J.1.length:Int)) then (if 0<=U then ((J.1[U.toNat]?).bind λaT=>(ky.ab (aT,J.2.1.2,())).bind λbO=>bif bO.1 then (some (U,())) else self (ai (U+(1:Int)))) else none) else e0 ()
noncomputable abbrev B0 (_:Nat):=b0
noncomputable def q0 (J:Arg) (cK:(Unit)):Option Out:=some ((-1:Int),())
noncomputable abbrev Q0 (_:Nat):=q0
noncomputable def s0 (k:Nat) (J:Arg):(Int)->Option Out:=λU=>D.L k [1,0,1,0,0] [0,1,7,8] [] (aj 0 (aG (D.N k [1,1]) D.K0)) (T0 J U)
noncomputable def r0 (k:Nat) (J:Arg):(Int)->Option Out:=au (λw v=>B0 k w (Q0 k J) J v) k
theorem aO (k:Nat) (J:Arg):s0 k J=r0 k J:=
 funext λU=>aH _ _ _ (T0 J) _ (λrec v=>by kernel_rfl) k U
noncomputable def p (l0:(Int)->Option Out) (J:Arg):Option Out:=l0 (0:Int)
theorem ae (k:Nat) (J:Arg):@Eq (Option Out) (D.W k J) (p (r0 k J) J):=
 Eq.trans (b:=p (s0 k J) J) (by kernel_rfl) (by rw[aO])
theorem ok:Ok prog 144 D.sig:=aw func144 aM (by kernel_rfl) (fc ky.ok (an _))
end bU
namespace ei
abbrev Arg:Type:=(List Tx)×Int×Unit
abbrev Out:Type:=Int×Unit
abbrev ps:PQ:=[(.ro,(.aa aC)),(.ro,i64)]
noncomputable def D:FD:={ fn:=f85,tl:=bd,ps:=ps,rs:=[(i64,(ag i64))],gl:=[(144,bU.D.sig)] }
noncomputable def ab (a:Arg):Option Out:=@lift Out λk=>D.W k a
noncomputable def p (J:Arg):Option Out:=(bU.ab (J.1,((145,J.2.1):Nat×Int),())).bind λr2=>some (r2.1,())
theorem ae (k:Nat) (J:Arg):@Eq (Option Out) (D.W k J) (p J):=by kernel_rfl
theorem ok:Ok prog 85 D.sig:=aw func85 aM (by kernel_rfl) (fc bU.ok (an _))
end ei
namespace cP
abbrev Arg:Type:=(List Row)×Change×Unit
abbrev Out:Type:=Int×Unit
abbrev ps:PQ:=[(.ro,(.aa ak)),(.ro,ay)]
noncomputable def D:FD:={ fn:=f193,tl:=bd,ps:=ps,rs:=[(i64,(ag i64))],gl:=[(43,cz.D.sig),(58,bt.D.sig)],lv:=[(4,[3,28,29,30])],lx:=[(0,[])],od:=[(6,[0,1,2,3,4,5,6,7,8,9,10,11,12,13,14,15,16,17,18,19,20,21,22,23,24])],ar:=[(6,[1,2,8,13,17,21])],bx:=[(3,[3]),(6,[6])] }
noncomputable def ab (a:Arg):Option Out:=@lift Out λk=>D.W k a
noncomputable def T0 (J:Arg) (lM:Int):St:={ n:=60,sl:=[(3,.cp ay J.2.1),(28,.val (.aa ak) J.1),(29,.val i64 (J.1.length:Int)),(30,.val i64 lM)],vr:=[],aA:=[] }
noncomputable def b0 (self:Int->Option Out) (e0:(Unit)->Option Out) (J:Arg) (lM:Int):Option Out:=bif decide (lM < (J.1.length:Int)) then (if 0<=lM then ((J.1[lM.toNat]?).bind λxE=>(bt.ab (J.2.1,())).bind λN_=>bif decide (xE.1=N_.1.2.1) then (bif !decide (xE.1=(0:Int)) then (bif !J.2.1.2.2.1 then (some ((8:Int),())) else bif decide (J.2.1.2.2.2.1.2.2.1 < (xE.2.2.2.1.length:Int)) then (some ((8:Int),())) else self (ai (lM+(1:Int)))) else self (ai (lM+(1:Int)))) else self (ai (lM+(1:Int)))) else none) else e0 ()
noncomputable abbrev B0 (_:Nat):=b0
noncomputable def q0 (J:Arg) (nU:(Unit)):Option Out:=some ((0:Int),())
noncomputable abbrev Q0 (_:Nat):=q0
noncomputable def s0 (k:Nat) (J:Arg):(Int)->Option Out:=λlM=>D.L k [1,1,0,1,0,0] [3,28,29,30] [] (aj 0 (aG (D.N k [1,1,1]) D.K0)) (T0 J lM)
noncomputable def r0 (k:Nat) (J:Arg):(Int)->Option Out:=au (λw v=>B0 k w (Q0 k J) J v) k
theorem aO (k:Nat) (J:Arg):s0 k J=r0 k J:=
 funext λlM=>aH _ _ _ (T0 J) _ (λrec v=>by kernel_rfl) k lM
noncomputable def p (l0:(Int)->Option Out) (J:Arg):Option Out:=let M3:Option Out:=l0 (0:Int);bif J.2.1.2.2.1 then ((cz.ab (J.2.1.2.2.2.1.2.1,(1:Int),(3:Int),())).bind λr2=>bif !r2.1 then (some ((10:Int),())) else bif decide ((8:Int) < J.2.1.2.2.2.1.2.2.1) then (some ((10:Int),())) else bif !decide (J.2.1.2.2.2.1.2.2.2.1=([]:List UInt8)) then (some ((10:Int),())) else M3) else M3
theorem ae (k:Nat) (J:Arg):@Eq (Option Out) (D.W k J) (p (r0 k J) J):=
 Eq.trans (b:=p (s0 k J) J) (by kernel_rfl) (by rw[aO])
theorem ok:Ok prog 193 D.sig:=aw func193 aM (by kernel_rfl) (fc cz.ok (fc bt.ok (an _)))
end cP
namespace eW
abbrev Arg:Type:=(List Row)×Int×Unit
abbrev Out:Type:=Int×Bool×Unit
abbrev ps:PQ:=[(.ro,(.aa ak)),(.ro,i64)]
noncomputable def D:FD:={ fn:=f194,tl:=bd,ps:=ps,rs:=[(i64,(ag i64)),(.bool,(ag .bool))],lv:=[(2,[1,8,9,10])],lx:=[(0,[])] }
noncomputable def ab (a:Arg):Option Out:=@lift Out λk=>D.W k a
noncomputable def T0 (J:Arg) (U:Int):St:={ n:=26,sl:=[(1,.val i64 J.2.1),(8,.val (.aa ak) J.1),(9,.val i64 (J.1.length:Int)),(10,.val i64 U)],vr:=[],aA:=[] }
noncomputable def b0 (self:Int->Option Out) (e0:(Unit)->Option Out) (J:Arg) (U:Int):Option Out:=bif decide (U < (J.1.length:Int)) then (if 0<=U then ((J.1[U.toNat]?).bind λaT=>bif decide (aT.1=(0:Int)) then (bif decide (aT.2.1=J.2.1) then (some (aT.2.2.1,true,())) else self (ai (U+(1:Int)))) else self (ai (U+(1:Int)))) else none) else e0 ()
noncomputable abbrev B0 (_:Nat):=b0
noncomputable def q0 (J:Arg) (sK:(Unit)):Option Out:=some ((0:Int),false,())
noncomputable abbrev Q0 (_:Nat):=q0
noncomputable def s0 (k:Nat) (J:Arg):(Int)->Option Out:=λU=>D.L k [1,0,1,0,0] [1,8,9,10] [] (aj 0 (aG (D.N k [1,1]) D.K0)) (T0 J U)
noncomputable def r0 (k:Nat) (J:Arg):(Int)->Option Out:=au (λw v=>B0 k w (Q0 k J) J v) k
theorem aO (k:Nat) (J:Arg):s0 k J=r0 k J:=
 funext λU=>aH _ _ _ (T0 J) _ (λrec v=>by kernel_rfl) k U
noncomputable def p (l0:(Int)->Option Out) (J:Arg):Option Out:=l0 (0:Int)
theorem ae (k:Nat) (J:Arg):@Eq (Option Out) (D.W k J) (p (r0 k J) J):=
 Eq.trans (b:=p (s0 k J) J) (by kernel_rfl) (by rw[aO])
theorem ok:Ok prog 194 D.sig:=aw func194 aM (by kernel_rfl) (an _)
end eW
namespace jb
abbrev Arg:Type:=(List Row)×Change×Unit
abbrev Out:Type:=Int×Unit
abbrev ps:PQ:=[(.ro,(.aa ak)),(.ro,ay)]
noncomputable def D:FD:={ fn:=f146,tl:=bd,ps:=ps,rs:=[(i64,(ag i64))],gl:=[(58,bt.D.sig),(193,cP.D.sig),(194,eW.D.sig)] }
noncomputable def ab (a:Arg):Option Out:=@lift Out λk=>D.W k a
noncomputable def p (J:Arg):Option Out:=(bt.ab (J.2.1,())).bind λr2=>bif decide (r2.1.1=(0:Int)) then ((cP.ab (J.1,J.2.1,())).bind λr3=>some (r3.1,())) else bif !J.2.1.2.2.1 then (some ((0:Int),())) else (eW.ab (J.1,J.2.1.2.2.2.1.1,())).bind λr4=>bif !r4.2.1 then (some ((4:Int),())) else bif decide (r4.1 < (J.2.1.2.2.2.1.2.2.2.1.length:Int)) then (some ((10:Int),())) else some ((0:Int),())
theorem ae (k:Nat) (J:Arg):@Eq (Option Out) (D.W k J) (p J):=by kernel_rfl
theorem ok:Ok prog 146 D.sig:=aw func146 aM (by kernel_rfl) (fc bt.ok (fc cP.ok (fc eW.ok (an _))))
end jb
namespace aQ
abbrev Arg:Type:=(List Row)×(List Tx)×Op×Unit
abbrev Out:Type:=aK×Unit
abbrev ps:PQ:=[(.ro,(.aa ak)),(.ro,(.aa aC)),(.ro,e_)]
noncomputable def D:FD:={ fn:=f86,tl:=bd,ps:=ps,rs:=[(bz,(ag bz))],gl:=[(44,bc.D.sig),(93,cF.D.sig),(130,az.D.sig),(146,jb.D.sig)],lv:=[(3,[0,1,5,6,7,24,25,26]),(7,[0,1,5,6,7,24,25,26,36,37,38])],lx:=[(0,[0,1,5,6,7]),(1,[0,1,5,6,7,24,25,26]),(2,[0,1,5,6,7,24,25,26])],od:=[(20,[0,1,2,3,4,5,6,7]),(22,[0,1,2,3,4,5])],ar:=[(20,[3]),(22,[1])],bx:=[(22,[5])] }
noncomputable def ab (a:Arg):Option Out:=@lift Out λk=>D.W k a
noncomputable def T0 (J:Arg) (U:(List Row)×(List Tx)×Op×aK×Key×(List Tx)×Int×Int):St:={ n:=145,sl:=[(0,.val (.aa ak) U.1),(1,.val (.aa aC) U.2.1),(5,.box e_ (ag e_) [] U.2.2.1),(6,.box bz (ag bz) [] U.2.2.2.1),(7,.box aF (ag aF) [] U.2.2.2.2.1),(24,.val (.aa aC) U.2.2.2.2.2.1),(25,.val i64 U.2.2.2.2.2.2.1),(26,.val i64 U.2.2.2.2.2.2.2)],vr:=[],aA:=[] }
noncomputable def S0 (rec:RT Out) (J:Arg):((List Row)×(List Tx)×Op×aK×Key×(List Tx)×Int×Int)->Option Out:=λU=>rec (T0 J U)
noncomputable def cV (K:KT Out) (J:Arg):((List Row)×(List Tx)×Op×aK×Key)->Option Out:=λz=>K (.exit 0) ({ n:=145,sl:=[(0,.val (.aa ak) z.1),(1,.val (.aa aC) z.2.1),(5,.box e_ (ag e_) [] z.2.2.1),(6,.box bz (ag bz) [] z.2.2.2.1),(7,.box aF (ag aF) [] z.2.2.2.2)],vr:=[],aA:=[] })
noncomputable def T1 (J:Arg) (cB:List Row) (fV:List Tx) (eJ:Op) (c6:aK) (iF:Key) (ne:List Tx) (fU:Int) (nf:Int) (ng:List Key) (nh:Int) (e8:Int):St:={ n:=145,sl:=[(0,.val (.aa ak) cB),(1,.val (.aa aC) fV),(5,.box e_ (ag e_) [] eJ),(6,.box bz (ag bz) [] c6),(7,.box aF (ag aF) [] iF),(24,.val (.aa aC) ne),(25,.val i64 fU),(26,.val i64 nf),(36,.val (.aa aF) ng),(37,.val i64 nh),(38,.val i64 e8)],vr:=[],aA:=[] }
noncomputable def b1 (self:Int->Option Out) (e2:(Unit)->Option Out) (J:Arg) (cB:List Row) (fV:List Tx) (eJ:Op) (c6:aK) (iF:Key) (ne:List Tx) (fU:Int) (nf:Int) (ng:List Key) (nh:Int) (e8:Int):Option Out:=bif decide (e8 < nh) then (if 0<=e8 then ((ng[e8.toNat]?).bind λAn=>bif (Ty.eq aF An iF) then (some (((7:Int),false,(false,((0:Int),(0:Int),(0:Int),([]:List UInt8),()),false,((0:Int),(0:Int),(0:Int),([]:List UInt8),()),()),()),())) else bif !decide (iF.1=(0:Int)) then (bif (Ty.eq aF An ((0:Int),iF.1,())) then (some (((7:Int),false,(false,((0:Int),(0:Int),(0:Int),([]:List UInt8),()),false,((0:Int),(0:Int),(0:Int),([]:List UInt8),()),()),()),())) else bif decide (iF.1=(0:Int)) then (bif decide (An.1=iF.2.1) then (some (((7:Int),false,(false,((0:Int),(0:Int),(0:Int),([]:List UInt8),()),false,((0:Int),(0:Int),(0:Int),([]:List UInt8),()),()),()),())) else self (ai (e8+(1:Int)))) else self (ai (e8+(1:Int)))) else bif decide (iF.1=(0:Int)) then (bif decide (An.1=iF.2.1) then (some (((7:Int),false,(false,((0:Int),(0:Int),(0:Int),([]:List UInt8),()),false,((0:Int),(0:Int),(0:Int),([]:List UInt8),()),()),()),())) else self (ai (e8+(1:Int)))) else self (ai (e8+(1:Int)))) else none) else e2 ()
noncomputable abbrev B1 (_:Nat):=b1
noncomputable def q0 (self:((List Row)×(List Tx)×Op×aK×Key×(List Tx)×Int×Int)->Option Out) (e0:((List Row)×(List Tx)×Op×aK×Key)->Option Out) (J:Arg) (cB:List Row) (fV:List Tx) (eJ:Op) (c6:aK) (iF:Key) (ne:List Tx) (fU:Int) (nf:Int) (ng:List Key) (nh:Int) (SF:(Unit)):Option Out:=self (cB,fV,eJ,c6,iF,ne,fU,ai (nf+(1:Int)))
noncomputable abbrev Q0 (_:Nat):=q0
noncomputable def s1 (k:Nat) (rec:RT Out) (K:KT Out) (J:Arg):(List Row)->(List Tx)->Op->aK->Key->(List Tx)->Int->Int->(List Key)->Int->(Int)->Option Out:=λcB fV eJ c6 iF ne fU nf ng nh=>λe8=>D.L k [1,1,0,1,0,0,1,1,0,0,1,1,1,0,0] [0,1,5,6,7,24,25,26,36,37,38] [] (aj 2 (aj 1 (aG (D.N k [1,1,0,1,0,0,1,1,1]) (fq rec (dx [0,1,5,6,7,24,25,26] []) K)))) (T1 J cB fV eJ c6 iF ne fU nf ng nh e8)
noncomputable def r1 (k:Nat) (self:((List Row)×(List Tx)×Op×aK×Key×(List Tx)×Int×Int)->Option Out) (e0:((List Row)×(List Tx)×Op×aK×Key)->Option Out) (J:Arg):(List Row)->(List Tx)->Op->aK->Key->(List Tx)->Int->Int->(List Key)->Int->(Int)->Option Out:=λcB fV eJ c6 iF ne fU nf ng nh=>au (λw v=>B1 k w (Q0 k self e0 J cB fV eJ c6 iF ne fU nf ng nh) J cB fV eJ c6 iF ne fU nf ng nh v) k
theorem i9 (k:Nat) (rec:RT Out) (K:KT Out) (J:Arg):s1 k rec K J=r1 k (S0 rec J) (cV K J) J:=
 funext λcB=>funext λfV=>funext λeJ=>funext λc6=>funext λiF=>funext λne=>funext λfU=>funext λnf=>funext λng=>funext λnh=>funext λe8=>aH _ _ _ (T1 J cB fV eJ c6 iF ne fU nf ng nh) _ (λrec v=>by kernel_rfl) k e8
noncomputable def b0 (self:((List Row)×(List Tx)×Op×aK×Key×(List Tx)×Int×Int)->Option Out) (e0:((List Row)×(List Tx)×Op×aK×Key)->Option Out) (l1:(List Row)->(List Tx)->Op->aK->Key->(List Tx)->Int->Int->(List Key)->Int->(Int)->Option Out) (J:Arg) (U:(List Row)×(List Tx)×Op×aK×Key×(List Tx)×Int×Int):Option Out:=bif decide (U.2.2.2.2.2.2.2 < U.2.2.2.2.2.2.1) then (if 0<=U.2.2.2.2.2.2.2 then ((U.2.2.2.2.2.1[U.2.2.2.2.2.2.2.toNat]?).bind λaT=>bif decide (aT.1=U.2.2.1.2.1) then (self (U.1,U.2.1,U.2.2.1,U.2.2.2.1,U.2.2.2.2.1,U.2.2.2.2.2.1,U.2.2.2.2.2.2.1,ai (U.2.2.2.2.2.2.2+(1:Int)))) else l1 U.1 U.2.1 U.2.2.1 U.2.2.2.1 U.2.2.2.2.1 U.2.2.2.2.2.1 U.2.2.2.2.2.2.1 U.2.2.2.2.2.2.2 aT.2.2.2.1 (aT.2.2.2.1.length:Int) (0:Int)) else none) else e0 (U.1,U.2.1,U.2.2.1,U.2.2.2.1,U.2.2.2.2.1)
noncomputable def B0 (k:Nat) (self:((List Row)×(List Tx)×Op×aK×Key×(List Tx)×Int×Int)->Option Out) (e0:((List Row)×(List Tx)×Op×aK×Key)->Option Out) (J:Arg) (U:(List Row)×(List Tx)×Op×aK×Key×(List Tx)×Int×Int):Option Out:=b0 self e0 (r1 k self e0 J) J U
theorem i7 (k:Nat) (rec:RT Out) (K:KT Out) (J:Arg) (U:(List Row)×(List Tx)×Op×aK×Key×(List Tx)×Int×Int):D.N k [1,1,0,1,0,0] (T0 J U) (fq rec (dx [0,1,5,6,7,24,25,26] []) K)=B0 k (S0 rec J) (cV K J) J U:=
 Eq.trans (b:=b0 (S0 rec J) (cV K J) (s1 k rec K J) J U) (by kernel_rfl) (by rw[i9];rfl)
noncomputable def q1 (J:Arg) (j0:((List Row)×(List Tx)×Op×aK×Key)):Option Out:=(az.ab (j0.1,j0.2.2.1.2.2.1,((129,0):Nat×Int),())).bind λxI=>let Ki:Option Out:=let Kj:Option Out:=let Kk:=λ(Ao:Change)=>(let Kl:=λ(qH:Change)=>((jb.ab (j0.1,qH,())).bind λxJ=>bif !decide (xJ.1=(0:Int)) then (some ((xJ.1,false,(false,((0:Int),(0:Int),(0:Int),([]:List UInt8),()),false,((0:Int),(0:Int),(0:Int),([]:List UInt8),()),()),()),())) else (bc.ab (j0.1,j0.2.1,())).bind λEU=>bif decide ((12:Int) < ((gj aF EU.1 j0.2.2.2.2 true).length:Int)) then (some (((9:Int),false,(false,((0:Int),(0:Int),(0:Int),([]:List UInt8),()),false,((0:Int),(0:Int),(0:Int),([]:List UInt8),()),()),()),())) else (cF.ab (j0.2.1,())).bind λEV=>bif decide ((12:Int)<=EV.1) then (some (((9:Int),false,(false,((0:Int),(0:Int),(0:Int),([]:List UInt8),()),false,((0:Int),(0:Int),(0:Int),([]:List UInt8),()),()),()),())) else bif qH.1 then (bif qH.2.2.1 then (bif (Ty.eq ak qH.2.1 qH.2.2.2.1) then (some (((0:Int),false,(false,((0:Int),(0:Int),(0:Int),([]:List UInt8),()),false,((0:Int),(0:Int),(0:Int),([]:List UInt8),()),()),()),())) else some (((0:Int),true,qH,()),())) else some (((0:Int),true,qH,()),())) else some (((0:Int),true,qH,()),()):Option Out);bif !decide (j0.2.2.1.1=(4:Int)) then (Kl (Ao.1,Ao.2.1,true,j0.2.2.1.2.2.1,Ao.2.2.2.2)) else Kl Ao:Option Out);bif xI.2.1 then (if 0<=xI.1 then ((j0.1[xI.1.toNat]?).bind λOa=>Kk (true,Oa,false,((0:Int),(0:Int),(0:Int),([]:List UInt8),()),())) else none) else Kk (false,((0:Int),(0:Int),(0:Int),([]:List UInt8),()),false,((0:Int),(0:Int),(0:Int),([]:List UInt8),()),());bif !decide (j0.2.2.1.1=(2:Int)) then (bif !xI.2.1 then (some (((4:Int),false,(false,((0:Int),(0:Int),(0:Int),([]:List UInt8),()),false,((0:Int),(0:Int),(0:Int),([]:List UInt8),()),()),()),())) else Kj) else Kj;bif decide (j0.2.2.1.1=(2:Int)) then (bif xI.2.1 then (some (((6:Int),false,(false,((0:Int),(0:Int),(0:Int),([]:List UInt8),()),false,((0:Int),(0:Int),(0:Int),([]:List UInt8),()),()),()),())) else Ki) else Ki
noncomputable abbrev Q1 (_:Nat):=q1
theorem pa (k:Nat) (J:Arg) (j0:((List Row)×(List Tx)×Op×aK×Key)):cV (aj 0 (aG (D.N k [1,1,1]) D.K0)) J j0=q1 J j0:=by kernel_rfl
noncomputable def s0 (k:Nat) (J:Arg):((List Row)×(List Tx)×Op×aK×Key×(List Tx)×Int×Int)->Option Out:=λU=>D.L k [1,1,0,1,0,0] [0,1,5,6,7,24,25,26] [] (aj 0 (aG (D.N k [1,1,1]) D.K0)) (T0 J U)
noncomputable def r0 (k:Nat) (J:Arg):((List Row)×(List Tx)×Op×aK×Key×(List Tx)×Int×Int)->Option Out:=au (λw v=>B0 k w (Q1 k J) J v) k
theorem aO (k:Nat) (J:Arg):s0 k J=r0 k J:=by
 funext U;
 have h0:cV (aj 0 (aG (D.N k [1,1,1]) D.K0)) J=Q1 k J:=funext λz=>pa k J z
 refine (aH _ _ _ (T0 J) (λself v=>B0 k self (cV (aj 0 (aG (D.N k [1,1,1]) D.K0)) J) J v) (λrec v=>i7 k rec (aj 0 (aG (D.N k [1,1,1]) D.K0)) J v) k U).trans ?_
 rw[h0]
 rfl
noncomputable def p (l0:((List Row)×(List Tx)×Op×aK×Key×(List Tx)×Int×Int)->Option Out) (J:Arg):Option Out:=l0 (J.1,J.2.1,J.2.2.1,((0:Int),false,(false,((0:Int),(0:Int),(0:Int),([]:List UInt8),()),false,((0:Int),(0:Int),(0:Int),([]:List UInt8),()),()),()),(J.2.2.1.2.2.1.1,J.2.2.1.2.2.1.2.1,()),J.2.1,(J.2.1.length:Int),(0:Int))
theorem ae (k:Nat) (J:Arg):@Eq (Option Out) (D.W k J) (p (r0 k J) J):=
 Eq.trans (b:=p (s0 k J) J) (by kernel_rfl) (by rw[aO])
theorem ok:Ok prog 86 D.sig:=aw func86 aM (by kernel_rfl) (fc bc.ok (fc cF.ok (fc az.ok (fc jb.ok (an _)))))
end aQ
namespace cN
abbrev Arg:Type:=(List Row)×(List Tx)×Op×Unit
abbrev Out:Type:=aK×Unit
abbrev ps:PQ:=[(.ro,(.aa ak)),(.ro,(.aa aC)),(.ro,e_)]
noncomputable def D:FD:={ fn:=f30,tl:=bd,ps:=ps,rs:=[(bz,(ag bz))],gl:=[(41,bC.D.sig),(42,aL.D.sig),(84,gL.D.sig),(85,ei.D.sig),(86,aQ.D.sig)],lv:=[(2,[0,1,5,6,16,17,18])],lx:=[(0,[0,1,5,6])],od:=[(1,[0,2,4,8,1,3,5,6,7]),(22,[0,1,2,3,4,5,6,7,8])] }
noncomputable def ab (a:Arg):Option Out:=@lift Out λk=>D.W k a
noncomputable def T0 (J:Arg) (oP:List Int) (iB:Int) (ii:Int):St:={ n:=79,sl:=[(0,.val (.aa ak) J.1),(1,.val (.aa aC) J.2.1),(5,.box e_ (ag e_) [] J.2.2.1),(6,.box bz (ag bz) [] ((0:Int),false,(false,((0:Int),(0:Int),(0:Int),([]:List UInt8),()),false,((0:Int),(0:Int),(0:Int),([]:List UInt8),()),()),())),(16,.own (.aa i64) (av (.aa i64)) [] oP),(17,.val i64 iB),(18,.val i64 ii)],vr:=[],aA:=[] }
noncomputable def b0 (self:Int->Option Out) (e0:(Unit)->Option Out) (J:Arg) (oP:List Int) (iB:Int) (ii:Int):Option Out:=bif decide (ii < iB) then (if 0<=ii/\ii < (oP.length:Int) then ((oP[ii.toNat]?).bind λM4=>bif !decide (M4=(0:Int)) then (some ((M4,false,(false,((0:Int),(0:Int),(0:Int),([]:List UInt8),()),false,((0:Int),(0:Int),(0:Int),([]:List UInt8),()),()),()),())) else self (ai (ii+(1:Int)))) else none) else e0 ()
noncomputable abbrev B0 (_:Nat):=b0
noncomputable def q0 (J:Arg) (oP:List Int) (iB:Int) (rp:(Unit)):Option Out:=bif decide (J.2.2.1.1=(1:Int)) then (bif decide ((4:Int)<=(J.2.1.length:Int)) then (some (((2:Int),false,(false,((0:Int),(0:Int),(0:Int),([]:List UInt8),()),false,((0:Int),(0:Int),(0:Int),([]:List UInt8),()),()),()),())) else some (((0:Int),false,(false,((0:Int),(0:Int),(0:Int),([]:List UInt8),()),false,((0:Int),(0:Int),(0:Int),([]:List UInt8),()),()),()),())) else bif decide (J.2.2.1.1=(9:Int)) then (some (((0:Int),false,(false,((0:Int),(0:Int),(0:Int),([]:List UInt8),()),false,((0:Int),(0:Int),(0:Int),([]:List UInt8),()),()),()),())) else (ei.ab (J.2.1,J.2.2.1.2.1,())).bind λlT=>bif decide (lT.1 < (0:Int)) then (some (((4:Int),false,(false,((0:Int),(0:Int),(0:Int),([]:List UInt8),()),false,((0:Int),(0:Int),(0:Int),([]:List UInt8),()),()),()),())) else let ui:Option Out:=some (((0:Int),false,(false,((0:Int),(0:Int),(0:Int),([]:List UInt8),()),false,((0:Int),(0:Int),(0:Int),([]:List UInt8),()),()),()),());bif decide (J.2.2.1.1=(5:Int)) then (if 0<=lT.1 then ((J.2.1[lT.1.toNat]?).bind λQd=>bif decide ((8:Int)<=(Qd.2.2.1.length:Int)) then (some (((2:Int),false,(false,((0:Int),(0:Int),(0:Int),([]:List UInt8),()),false,((0:Int),(0:Int),(0:Int),([]:List UInt8),()),()),()),())) else ui) else none) else bif decide (J.2.2.1.1=(6:Int)) then (if 0<=lT.1 then ((J.2.1[lT.1.toNat]?).bind λMY=>bif decide ((MY.2.2.1.length:Int)<=J.2.2.1.2.2.2.1) then (some (((3:Int),false,(false,((0:Int),(0:Int),(0:Int),([]:List UInt8),()),false,((0:Int),(0:Int),(0:Int),([]:List UInt8),()),()),()),())) else ui) else none) else bif decide (J.2.2.1.1=(2:Int)) then (bif decide (J.2.2.1.1=(2:Int)) then ((aQ.ab (J.1,J.2.1,J.2.2.1,())).bind λIA=>some (IA.1,())) else ui) else bif decide (J.2.2.1.1=(3:Int)) then (bif decide (J.2.2.1.1=(3:Int)) then ((aQ.ab (J.1,J.2.1,J.2.2.1,())).bind λQe=>some (Qe.1,())) else ui) else bif decide (J.2.2.1.1=(4:Int)) then ((aQ.ab (J.1,J.2.1,J.2.2.1,())).bind λQf=>some (Qf.1,())) else ui
noncomputable abbrev Q0 (_:Nat):=q0
noncomputable def s0 (k:Nat) (J:Arg):(List Int)->Int->(Int)->Option Out:=λoP iB=>λii=>D.L k [1,0,1,0,0] [0,1,5,6,16,17,18] [] (aj 0 (aG (D.N k [1,1]) D.K0)) (T0 J oP iB ii)
noncomputable def r0 (k:Nat) (J:Arg):(List Int)->Int->(Int)->Option Out:=λoP iB=>au (λw v=>B0 k w (Q0 k J oP iB) J oP iB v) k
theorem aO (k:Nat) (J:Arg):s0 k J=r0 k J:=
 funext λoP=>funext λiB=>funext λii=>aH _ _ _ (T0 J oP iB) _ (λrec v=>by kernel_rfl) k ii
noncomputable def p (l0:(List Int)->Int->(Int)->Option Out) (J:Arg):Option Out:=(bC.ab (J.1,())).bind λr2=>(aL.ab (J.2.1,())).bind λr3=>(gL.ab (J.2.2.1,())).bind λr4=>l0 [r2.1,r3.1,r4.1] ([r2.1,r3.1,r4.1].length:Int) (0:Int)
theorem ae (k:Nat) (J:Arg):@Eq (Option Out) (D.W k J) (p (r0 k J) J):=
 Eq.trans (b:=p (s0 k J) J) (by kernel_rfl) (by rw[aO])
theorem ok:Ok prog 30 D.sig:=aw func30 aM (by kernel_rfl) (fc bC.ok (fc aL.ok (fc gL.ok (fc ei.ok (fc aQ.ok (an _))))))
end cN
namespace d6
abbrev Arg:Type:=(List Change)×Unit
abbrev Out:Type:=(List Change)×Unit
abbrev ps:PQ:=[(.ro,(.aa ay))]
noncomputable def D:FD:={ fn:=f147,tl:=bd,ps:=ps,rs:=[((.aa ay),(av (.aa ay)))] }
noncomputable def ab (a:Arg):Option Out:=@lift Out λk=>D.W k a
noncomputable def p (J:Arg):Option Out:=qU J.1 (some (([]:List Change),())) (if ([]:List Change).length+J.1.length<=bX then (some (([]:List Change)++J.1,())) else none)
theorem ae (k:Nat) (J:Arg):@Eq (Option Out) (D.W k J) (p J):=by kernel_rfl
theorem ok:Ok prog 147 D.sig:=aw func147 aM (by kernel_rfl) (an _)
end d6
namespace ej
abbrev Arg:Type:=(List Int)×Unit
abbrev Out:Type:=(List Int)×Unit
abbrev ps:PQ:=[(.ro,(.aa i64))]
noncomputable def D:FD:={ fn:=f148,tl:=bd,ps:=ps,rs:=[((.aa i64),(av (.aa i64)))] }
noncomputable def ab (a:Arg):Option Out:=@lift Out λk=>D.W k a
noncomputable def p (J:Arg):Option Out:=qU J.1 (some (([]:List Int),())) (if ([]:List Int).length+J.1.length<=bX then (some (([]:List Int)++J.1,())) else none)
theorem ae (k:Nat) (J:Arg):@Eq (Option Out) (D.W k J) (p J):=by kernel_rfl
theorem ok:Ok prog 148 D.sig:=aw func148 aM (by kernel_rfl) (an _)
end ej
namespace eX
abbrev Arg:Type:=(List Key)×Unit
abbrev Out:Type:=(List Key)×Unit
abbrev ps:PQ:=[(.ro,(.aa aF))]
noncomputable def D:FD:={ fn:=f149,tl:=bd,ps:=ps,rs:=[((.aa aF),(av (.aa aF)))] }
noncomputable def ab (a:Arg):Option Out:=@lift Out λk=>D.W k a
noncomputable def p (J:Arg):Option Out:=qU J.1 (some (([]:List Key),())) (if ([]:List Key).length+J.1.length<=bX then (some (([]:List Key)++J.1,())) else none)
theorem ae (k:Nat) (J:Arg):@Eq (Option Out) (D.W k J) (p J):=by kernel_rfl
theorem ok:Ok prog 149 D.sig:=aw func149 aM (by kernel_rfl) (an _)
end eX
namespace b_
abbrev Arg:Type:=(List Tx)×Unit
abbrev Out:Type:=(List Tx)×Unit
abbrev ps:PQ:=[(.ro,(.aa aC))]
noncomputable def D:FD:={ fn:=f88,tl:=bd,ps:=ps,rs:=[((.aa aC),(av (.aa aC)))],gl:=[(147,d6.D.sig),(148,ej.D.sig),(149,eX.D.sig)],lv:=[(3,[3,6,7,8])],lx:=[(0,[3])],od:=[(5,[0,1,2,3,4,6,7,9,10,5,8,11,12,13,14,15])] }
noncomputable def ab (a:Arg):Option Out:=@lift Out λk=>D.W k a
noncomputable def T0 (J:Arg) (U:(List Tx)×Int):St:={ n:=29,sl:=[(3,.own (.aa aC) (av (.aa aC)) [] U.1),(6,.val (.aa aC) J.1),(7,.val i64 (J.1.length:Int)),(8,.val i64 U.2)],vr:=[],aA:=[] }
noncomputable def b0 (self:((List Tx)×Int)->Option Out) (e0:(List Tx)->Option Out) (J:Arg) (U:(List Tx)×Int):Option Out:=bif decide (U.2 < (J.1.length:Int)) then (if 0<=U.2 then ((J.1[U.2.toNat]?).bind λaT=>(d6.ab (aT.2.1,())).bind λbO=>(ej.ab (aT.2.2.1,())).bind λiA=>(eX.ab (aT.2.2.2.1,())).bind λig=>if U.1.length+[(aT.1,bO.1,iA.1,ig.1,())].length<=bX then (let IC:=U.1++[(aT.1,bO.1,iA.1,ig.1,())];self (IC,ai (U.2+(1:Int)))) else none) else none) else e0 U.1
noncomputable abbrev B0 (_:Nat):=b0
noncomputable def q0 (J:Arg) (EN:(List Tx)):Option Out:=some (EN,())
noncomputable abbrev Q0 (_:Nat):=q0
noncomputable def s0 (k:Nat) (J:Arg):((List Tx)×Int)->Option Out:=λU=>D.L k [1,1,0,1,0,0] [3,6,7,8] [] (aj 0 (aG (D.N k [1,1,1]) D.K0)) (T0 J U)
noncomputable def r0 (k:Nat) (J:Arg):((List Tx)×Int)->Option Out:=au (λw v=>B0 k w (Q0 k J) J v) k
theorem aO (k:Nat) (J:Arg):s0 k J=r0 k J:=
 funext λU=>aH _ _ _ (T0 J) _ (λrec v=>by kernel_rfl) k U
noncomputable def p (l0:((List Tx)×Int)->Option Out) (J:Arg):Option Out:=l0 (([]:List Tx),(0:Int))
theorem ae (k:Nat) (J:Arg):@Eq (Option Out) (D.W k J) (p (r0 k J) J):=
 Eq.trans (b:=p (s0 k J) J) (by kernel_rfl) (by rw[aO])
theorem ok:Ok prog 88 D.sig:=aw func88 aM (by kernel_rfl) (fc d6.ok (fc ej.ok (fc eX.ok (an _))))
end b_
namespace gu
abbrev Arg:Type:=Plain×Unit
abbrev Out:Type:=Plain×Unit
abbrev ps:PQ:=[(.ro,bF)]
noncomputable def D:FD:={ fn:=f31,tl:=bd,ps:=ps,rs:=[(bF,(av bF))],gl:=[(87,cf.D.sig),(88,b_.D.sig)],od:=[(1,[0,1,3,4,6,7,2,5,8,9])] }
noncomputable def ab (a:Arg):Option Out:=@lift Out λk=>D.W k a
noncomputable def p (J:Arg):Option Out:=(cf.ab (J.1.1,())).bind λr2=>(b_.ab (J.1.2.1,())).bind λr3=>some ((r2.1,r3.1,J.1.2.2.1,()),())
theorem ae (k:Nat) (J:Arg):@Eq (Option Out) (D.W k J) (p J):=by kernel_rfl
theorem ok:Ok prog 31 D.sig:=aw func31 aM (by kernel_rfl) (fc cf.ok (fc b_.ok (an _)))
end gu
namespace cA
abbrev Arg:Type:=Plain×(List Change)×Unit
abbrev Out:Type:=Int×Plain×Unit
abbrev ps:PQ:=[(.du (.pair (av (.aa ak)) (.pair (.aa true (.pair (ag i64) (.pair (ag (.aa ay)) (av (ba [(.aa i64),(.aa aF)]))))) (ag (ba [i64])))) (.pair (av (.aa ak)) (.pair (.aa true (.pair (ag i64) (.pair (ag (.aa ay)) (av (ba [(.aa i64),(.aa aF)]))))) (ag (ba [i64])))),bF),(.ro,(.aa ay))]
noncomputable def D:FD:={ fn:=f32,tl:=bd,ps:=ps,rs:=[(i64,(ag i64))],gl:=[(89,bD.D.sig)],es:=[0] }
noncomputable def ab (a:Arg):Option Out:=@lift Out λk=>D.W k a
noncomputable def p (J:Arg):Option Out:=(bD.ab (J.1.1,J.2.1,())).bind λr2=>bif decide (r2.1.1=(0:Int)) then (some (r2.1.1,(r2.1.2.1,J.1.2),())) else some (r2.1.1,J.1,())
theorem ae (k:Nat) (J:Arg):@Eq (Option Out) (D.W k J) (p J):=by kernel_rfl
theorem ok:Ok prog 32 D.sig:=aw func32 aM (by kernel_rfl) (fc bD.ok (an _))
end cA
namespace fl
abbrev Arg:Type:=(List Tx)×Key×Unit
abbrev Out:Type:=Int×Unit
abbrev ps:PQ:=[(.ro,(.aa aC)),(.ro,aF)]
noncomputable def D:FD:={ fn:=f91,tl:=bd,ps:=ps,rs:=[(i64,(ag i64))],gl:=[(151,bH.D.sig)],lv:=[(2,[3,7,8,9])],lx:=[(0,[])] }
noncomputable def ab (a:Arg):Option Out:=@lift Out λk=>D.W k a
noncomputable def T0 (J:Arg) (U:Int):St:={ n:=20,sl:=[(3,.box aF (ag aF) [] J.2.1),(7,.val (.aa aC) J.1),(8,.val i64 (J.1.length:Int)),(9,.val i64 U)],vr:=[],aA:=[] }
noncomputable def b0 (self:Int->Option Out) (e0:(Unit)->Option Out) (J:Arg) (U:Int):Option Out:=bif decide (U < (J.1.length:Int)) then (if 0<=U then ((J.1[U.toNat]?).bind λaT=>(bH.ab (aT.2.2.2.1,J.2.1,())).bind λbO=>bif bO.1 then (some (aT.1,())) else self (ai (U+(1:Int)))) else none) else e0 ()
noncomputable abbrev B0 (_:Nat):=b0
noncomputable def q0 (J:Arg) (cK:(Unit)):Option Out:=some ((0:Int),())
noncomputable abbrev Q0 (_:Nat):=q0
noncomputable def s0 (k:Nat) (J:Arg):(Int)->Option Out:=λU=>D.L k [1,0,1,0,0] [3,7,8,9] [] (aj 0 (aG (D.N k [1,1]) D.K0)) (T0 J U)
noncomputable def r0 (k:Nat) (J:Arg):(Int)->Option Out:=au (λw v=>B0 k w (Q0 k J) J v) k
theorem aO (k:Nat) (J:Arg):s0 k J=r0 k J:=
 funext λU=>aH _ _ _ (T0 J) _ (λrec v=>by kernel_rfl) k U
noncomputable def p (l0:(Int)->Option Out) (J:Arg):Option Out:=l0 (0:Int)
theorem ae (k:Nat) (J:Arg):@Eq (Option Out) (D.W k J) (p (r0 k J) J):=
 Eq.trans (b:=p (s0 k J) J) (by kernel_rfl) (by rw[aO])
theorem ok:Ok prog 91 D.sig:=aw func91 aM (by kernel_rfl) (fc bH.ok (an _))
end fl
namespace ij
abbrev Arg:Type:=(List Tx)×Int×Change×Unit
abbrev Out:Type:=(List Tx)×Unit
abbrev ps:PQ:=[(.ro,(.aa aC)),(.ro,i64),(.ro,ay)]
noncomputable def D:FD:={ fn:=f94,tl:=bd,ps:=ps,rs:=[((.aa aC),(av (.aa aC)))],gl:=[(88,b_.D.sig),(92,cg.D.sig),(151,bH.D.sig)],od:=[(3,[0,1,2,3,4,5,6,7,8,9,10]),(4,[0,1,2,3,4,5,6,7]),(5,[0,1,2,3,4,5,6,7,8,9,10,11])] }
noncomputable def ab (a:Arg):Option Out:=@lift Out λk=>D.W k a
noncomputable def p (J:Arg):Option Out:=(b_.ab (J.1,())).bind λr2=>if 0<=J.2.1/\J.2.1 < (r2.1.length:Int) then ((r2.1[J.2.1.toNat]?).bind λx3=>(r2.1[J.2.1.toNat]?).bind λx4=>(r2.1[J.2.1.toNat]?).bind λx5=>if x4.2.1.length+[J.2.2.1].length<=bX then (if J.2.1.toNat=J.2.1.toNat then ((r2.1.set J.2.1.toNat x5)[J.2.1.toNat]?).bind λx6=>let y7:=(r2.1.set J.2.1.toNat x5).set J.2.1.toNat (x6.1,x4.2.1++[J.2.2.1],x6.2.2);(y7[J.2.1.toNat]?).bind λx8=>(cg.ab (J.2.2.1,())).bind λr9=>(y7[J.2.1.toNat]?).bind λvE=>(bH.ab (vE.2.2.2.1,r9.1,())).bind λoA=>bif !oA.1 then ((y7[J.2.1.toNat]?).bind λvD=>(cg.ab (J.2.2.1,())).bind λzB=>(y7[J.2.1.toNat]?).bind λxG=>(y7[J.2.1.toNat]?).bind λxH=>if xG.2.2.2.1.length+[zB.1].length<=bX then (if J.2.1.toNat=J.2.1.toNat then ((y7.set J.2.1.toNat xH)[J.2.1.toNat]?).bind λqb=>let vF:=(y7.set J.2.1.toNat xH).set J.2.1.toNat (qb.1,qb.2.1,qb.2.2.1,xG.2.2.2.1++[zB.1],qb.2.2.2.2);some (vF,()) else none) else none) else some (y7,()) else none) else none) else none
theorem ae (k:Nat) (J:Arg):@Eq (Option Out) (D.W k J) (p J):=by kernel_rfl
theorem ok:Ok prog 94 D.sig:=aw func94 aM (by kernel_rfl) (fc b_.ok (fc cg.ok (fc bH.ok (an _))))
end ij
namespace eK
abbrev Arg:Type:=(List Tx)×Int×Change×Unit
abbrev Out:Type:=ue×Unit
abbrev ps:PQ:=[(.ro,(.aa aC)),(.ro,i64),(.ro,ay)]
noncomputable def D:FD:={ fn:=f33,tl:=bd,ps:=ps,rs:=[(sJ,(av sJ))],gl:=[(42,aL.D.sig),(85,ei.D.sig),(90,dP.D.sig),(91,fl.D.sig),(92,cg.D.sig),(93,cF.D.sig),(94,ij.D.sig)] }
noncomputable def ab (a:Arg):Option Out:=@lift Out λk=>D.W k a
noncomputable def p (J:Arg):Option Out:=(aL.ab (J.1,())).bind λr2=>bif !decide (r2.1=(0:Int)) then (some ((r2.1,([]:List Tx),()),())) else (ei.ab (J.1,J.2.1,())).bind λr3=>bif decide (r3.1 < (0:Int)) then (some (((4:Int),([]:List Tx),()),())) else (dP.ab (J.2.2.1,())).bind λr4=>bif !decide (r4.1=(0:Int)) then (some ((r4.1,([]:List Tx),()),())) else (cg.ab (J.2.2.1,())).bind λr5=>(fl.ab (J.1,r5.1,())).bind λr6=>let G6:Option Out:=(cF.ab (J.1,())).bind λrN=>bif decide ((12:Int)<=rN.1) then (some (((2:Int),([]:List Tx),()),())) else bif decide (r6.1=(0:Int)) then (if 0<=r3.1 then ((J.1[r3.1.toNat]?).bind λuh=>bif decide ((12:Int)<=(uh.2.2.2.1.length:Int)) then (some (((2:Int),([]:List Tx),()),())) else (ij.ab (J.1,r3.1,J.2.2.1,())).bind λR6=>some (((0:Int),R6.1,()),())) else none) else (ij.ab (J.1,r3.1,J.2.2.1,())).bind λR7=>some (((0:Int),R7.1,()),());bif !decide (r6.1=(0:Int)) then (bif !decide (r6.1=J.2.1) then (some (((7:Int),([]:List Tx),()),())) else G6) else G6
theorem ae (k:Nat) (J:Arg):@Eq (Option Out) (D.W k J) (p J):=by kernel_rfl
theorem ok:Ok prog 33 D.sig:=aw func33 aM (by kernel_rfl) (fc aL.ok (fc ei.ok (fc dP.ok (fc fl.ok (fc cg.ok (fc cF.ok (fc ij.ok (an _))))))))
end eK
namespace im
abbrev Arg:Type:=(List Tx)×Int×Unit
abbrev Out:Type:=(List Tx)×Int×Unit
abbrev ps:PQ:=[(.ro,(.aa aC)),(.ro,i64)]
noncomputable def D:FD:={ fn:=f34,tl:=bd,ps:=ps,rs:=[((.aa aC),(av (.aa aC))),(i64,(ag i64))],gl:=[(85,ei.D.sig),(88,b_.D.sig)],od:=[(3,[0,1,2,3,4,5,6,7,8,9,10,11,12,13,14]),(4,[0,1,2,3,4,5,6,7,8])] }
noncomputable def ab (a:Arg):Option Out:=@lift Out λk=>D.W k a
noncomputable def p (J:Arg):Option Out:=(b_.ab (J.1,())).bind λr2=>(ei.ab (r2.1,J.2.1,())).bind λr3=>if 0<=r3.1/\r3.1 < (r2.1.length:Int) then ((r2.1[r3.1.toNat]?).bind λx4=>(r2.1[r3.1.toNat]?).bind λx5=>(r2.1[r3.1.toNat]?).bind λx6=>(r2.1[r3.1.toNat]?).bind λx7=>(r2.1[r3.1.toNat]?).bind λx8=>if x7.2.2.1.length+[(x6.2.1.length:Int)].length<=bX then (if r3.1.toNat=r3.1.toNat then ((r2.1.set r3.1.toNat x8)[r3.1.toNat]?).bind λx9=>let M5:=(r2.1.set r3.1.toNat x8).set r3.1.toNat (x9.1,x9.2.1,x7.2.2.1++[(x6.2.1.length:Int)],x9.2.2.2);(M5[r3.1.toNat]?).bind λzC=>(M5[r3.1.toNat]?).bind λvD=>some (M5,ai ((vD.2.2.1.length:Int) - (1:Int)),()) else none) else none) else none
theorem ae (k:Nat) (J:Arg):@Eq (Option Out) (D.W k J) (p J):=by kernel_rfl
theorem ok:Ok prog 34 D.sig:=aw func34 aM (by kernel_rfl) (fc ei.ok (fc b_.ok (an _)))
end im
namespace iC
open Go.Proofs
abbrev Arg:Type:=(List Tx)×Int×(Int)×Unit
abbrev Out:Type:=(List Tx)×Unit
noncomputable def ab (a:Arg):Option Out:=yK aC a
noncomputable def sig:kF:={ ps:=[(.fh (av (.aa aC)),(.aa aC)),(.ro,i64),(.ro,i64)],rs:=[((.aa aC),av (.aa aC))],F:=ab,vj:=λv H=>BI v.2.1 v.2.2.1 H }
def R8:Go.Shelf.Ren:=⟨λ| 45=>96 | n=>n,λ| 22=>25 | 23=>76 | 3=>3 | 4=>4 | 0=>0 | n=>n,λn=>n⟩
theorem lay:SlLaysE0.n45 prog R8:=⟨by kernel_rfl,⟨f96.name,by decide,func96.trans (congrArg some (by kernel_rfl))⟩,underlying0,isAgg0,sizeOf0,zeroValue0,underlying3,isAgg3,sizeOf3,zeroValue3,underlying4,isAgg4,sizeOf4,zeroValue4,underlying25,isAgg25,sizeOf25,zeroValue25⟩
theorem ok:Ok prog 96 sig:=G4 (e:=aC) lay (by kernel_rfl) (by decide) (by decide) ⟨f96,func96,by kernel_rfl,by kernel_rfl,by kernel_rfl⟩
end iC
namespace fA
abbrev Arg:Type:=(List Tx)×Op×Unit
abbrev Out:Type:=(List Tx)×(List Change)×Unit
abbrev ps:PQ:=[(.ro,(.aa aC)),(.ro,e_)]
noncomputable def D:FD:={ fn:=f35,tl:=bd,ps:=ps,rs:=[((.aa aC),(av (.aa aC))),((.aa ay),(av (.aa ay)))],gl:=[(85,ei.D.sig),(88,b_.D.sig),(95,dk.D.sig),(96,iC.sig)],od:=[(5,[0,1,2,3,4,5,6,7,8]),(8,[0,1,2,3,4,5,6,7,8,9,10,11])] }
noncomputable def ab (a:Arg):Option Out:=@lift Out λk=>D.W k a
noncomputable def p (J:Arg):Option Out:=(b_.ab (J.1,())).bind λr2=>(ei.ab (r2.1,J.2.1.2.1,())).bind λr3=>if 0<=r3.1/\r3.1 < (r2.1.length:Int) then (bif decide (J.2.1.1=(6:Int)) then ((r2.1[r3.1.toNat]?).bind λx4=>(r2.1[r3.1.toNat]?).bind λx5=>if 0<=J.2.1.2.2.2.1/\J.2.1.2.2.2.1 < (x5.2.2.1.length:Int) then ((r2.1[r3.1.toNat]?).bind λx6=>(x6.2.2.1[J.2.1.2.2.2.1.toNat]?).bind λx7=>(r2.1[r3.1.toNat]?).bind λx8=>(r2.1[r3.1.toNat]?).bind λx9=>if 0<=x7/\x7<=(x9.2.1.length:Int) then ((r2.1[r3.1.toNat]?).bind λvE=>(dk.ab ((vE.2.1.take x9.2.1.length).drop x7.toNat,())).bind λoA=>(r2.1[r3.1.toNat]?).bind λvD=>(r2.1[r3.1.toNat]?).bind λuh=>if 0<=x7/\x7<=(uh.2.1.length:Int) then ((r2.1[r3.1.toNat]?).bind λxG=>(r2.1[r3.1.toNat]?).bind λxH=>if r3.1.toNat=r3.1.toNat then ((r2.1.set r3.1.toNat xH)[r3.1.toNat]?).bind λqb=>let vF:=(r2.1.set r3.1.toNat xH).set r3.1.toNat (qb.1,(xG.2.1.take x7.toNat).drop 0,qb.2.2);(vF[r3.1.toNat]?).bind λM0=>(vF[r3.1.toNat]?).bind λO5=>if 0<=ai (J.2.1.2.2.2.1+(1:Int))/\ai (J.2.1.2.2.2.1+(1:Int))<=(O5.2.2.1.length:Int) then ((vF[r3.1.toNat]?).bind λR9=>(vF[r3.1.toNat]?).bind λM1=>if r3.1.toNat=r3.1.toNat then ((vF.set r3.1.toNat M1)[r3.1.toNat]?).bind λKd=>let R_:=(vF.set r3.1.toNat M1).set r3.1.toNat (Kd.1,Kd.2.1,(R9.2.2.1.take (ai (J.2.1.2.2.2.1+(1:Int))).toNat).drop 0,Kd.2.2.2);some (R_,oA.1,()) else none) else none else none) else none) else none) else none) else (r2.1[r3.1.toNat]?).bind λJ9=>(r2.1[r3.1.toNat]?).bind λDD=>(dk.ab (DD.2.1,())).bind λJ_=>(iC.ab (r2.1,r3.1,ai (r3.1+(1:Int)),())).bind λKa=>some (Ka.1,J_.1,())) else none
theorem ae (k:Nat) (J:Arg):@Eq (Option Out) (D.W k J) (p J):=by kernel_rfl
theorem ok:Ok prog 35 D.sig:=aw func35 aM (by kernel_rfl) (fc ei.ok (fc b_.ok (fc dk.ok (fc iC.ok (an _)))))
end fA
namespace cv
abbrev Arg:Type:=Plain×Op×Unit
abbrev Out:Type:=dN×Unit
abbrev ps:PQ:=[(.ro,bF),(.ro,e_)]
noncomputable def D:FD:={ fn:=f8,tl:=bd,ps:=ps,rs:=[(dD,(av dD))],gl:=[(11,dH.D.sig),(30,cN.D.sig),(31,gu.D.sig),(32,cA.D.sig),(33,eK.D.sig),(34,im.D.sig),(35,fA.D.sig)] }
noncomputable def ab (a:Arg):Option Out:=@lift Out λk=>D.W k a
noncomputable def p (J:Arg):Option Out:=(dH.ab (J.1,())).bind λr2=>bif !decide (r2.1=(0:Int)) then (some ((r2.1,(0:Int),(([]:List Row),([]:List Tx),(0:Int),()),()),())) else (cN.ab (J.1.1,J.1.2.1,J.2.1,())).bind λr3=>bif !decide (r3.1.1=(0:Int)) then (some ((r3.1.1,(0:Int),(([]:List Row),([]:List Tx),(0:Int),()),()),())) else (gu.ab (J.1,())).bind λr4=>bif decide (J.2.1.1=(1:Int)) then (bif decide (J.1.2.2.1=(100:Int)) then (some (((9:Int),(0:Int),(([]:List Row),([]:List Tx),(0:Int),()),()),())) else if r4.1.2.1.length+[(J.1.2.2.1,([]:List Change),([]:List Int),([]:List Key),())].length<=bX then (let y5:=r4.1.2.1++[(J.1.2.2.1,([]:List Change),([]:List Int),([]:List Key),())];some (((0:Int),J.1.2.2.1,(r4.1.1,y5,ai (r4.1.2.2.1+(1:Int)),r4.1.2.2.2),()),())) else none) else bif r3.1.2.1 then ((cA.ab (r4.1,[r3.1.2.2.1],())).bind λr6=>bif !decide (r6.1=(0:Int)) then (some ((r6.1,(0:Int),(([]:List Row),([]:List Tx),(0:Int),()),()),())) else (eK.ab (J.1.2.1,J.2.1.2.1,r3.1.2.2.1,())).bind λr7=>bif !decide (r7.1.1=(0:Int)) then (some ((r7.1.1,(0:Int),(([]:List Row),([]:List Tx),(0:Int),()),()),())) else some (((0:Int),(0:Int),(r6.2.1.1,r7.1.2.1,r6.2.1.2.2),()),())) else bif decide (J.2.1.1=(5:Int)) then ((im.ab (J.1.2.1,J.2.1.2.1,())).bind λr8=>some (((0:Int),r8.2.1,(r4.1.1,r8.1,r4.1.2.2),()),())) else bif decide (J.2.1.1=(6:Int)) then ((fA.ab (J.1.2.1,J.2.1,())).bind λr9=>(cA.ab (r4.1,r9.2.1,())).bind λkV=>bif !decide (kV.1=(0:Int)) then (some ((kV.1,(0:Int),(([]:List Row),([]:List Tx),(0:Int),()),()),())) else some (((0:Int),(0:Int),(kV.2.1.1,r9.1,kV.2.1.2.2),()),())) else bif decide (J.2.1.1=(8:Int)) then ((fA.ab (J.1.2.1,J.2.1,())).bind λoA=>(cA.ab (r4.1,oA.2.1,())).bind λrN=>bif !decide (rN.1=(0:Int)) then (some ((rN.1,(0:Int),(([]:List Row),([]:List Tx),(0:Int),()),()),())) else some (((0:Int),(0:Int),(rN.2.1.1,oA.1,rN.2.1.2.2),()),())) else bif decide (J.2.1.1=(7:Int)) then ((fA.ab (J.1.2.1,J.2.1,())).bind λzB=>some (((0:Int),(0:Int),(r4.1.1,zB.1,r4.1.2.2),()),())) else some (((0:Int),(0:Int),r4.1,()),())
theorem ae (k:Nat) (J:Arg):@Eq (Option Out) (D.W k J) (p J):=by kernel_rfl
theorem ok:Ok prog 8 D.sig:=aw func8 aM (by kernel_rfl) (fc dH.ok (fc cN.ok (fc gu.ok (fc cA.ok (fc eK.ok (fc im.ok (fc fA.ok (an _))))))))
end cv
namespace eE
abbrev Arg:Type:=(List Row)×(List Row)×Unit
abbrev Out:Type:=Bool×Unit
abbrev ps:PQ:=[(.ro,(.aa ak)),(.ro,(.aa ak))]
noncomputable def D:FD:={ fn:=f12,tl:=bd,ps:=ps,rs:=[(.bool,(ag .bool))],lv:=[(4,[0,1,5])],lx:=[(0,[])],od:=[(6,[0,1,2,3,4,5,6,7,8])] }
noncomputable def ab (a:Arg):Option Out:=@lift Out λk=>D.W k a
noncomputable def T0 (J:Arg) (U:Int):St:={ n:=26,sl:=[(0,.val (.aa ak) J.1),(1,.val (.aa ak) J.2.1),(5,.val i64 U)],vr:=[],aA:=[] }
noncomputable def b0 (self:Int->Option Out) (e0:(Unit)->Option Out) (J:Arg) (U:Int):Option Out:=bif decide (U < (J.1.length:Int)) then (if 0<=U then ((J.1[U.toNat]?).bind λaT=>if 0<=U then ((J.2.1[U.toNat]?).bind λug=>bif !(Ty.eq ak aT ug) then (some (false,())) else self (ai (U+(1:Int)))) else none) else none) else e0 ()
noncomputable abbrev B0 (_:Nat):=b0
noncomputable def q0 (J:Arg) (cK:(Unit)):Option Out:=some (true,())
noncomputable abbrev Q0 (_:Nat):=q0
noncomputable def s0 (k:Nat) (J:Arg):(Int)->Option Out:=λU=>D.L k [1,1,0,1,0,0] [0,1,5] [] (aj 0 (aG (D.N k [1,1,1]) D.K0)) (T0 J U)
noncomputable def r0 (k:Nat) (J:Arg):(Int)->Option Out:=au (λw v=>B0 k w (Q0 k J) J v) k
theorem aO (k:Nat) (J:Arg):s0 k J=r0 k J:=
 funext λU=>aH _ _ _ (T0 J) _ (λrec v=>by kernel_rfl) k U
noncomputable def p (l0:(Int)->Option Out) (J:Arg):Option Out:=bif !decide ((J.1.length:Int)=(J.2.1.length:Int)) then (some (false,())) else l0 (0:Int)
theorem ae (k:Nat) (J:Arg):@Eq (Option Out) (D.W k J) (p (r0 k J) J):=
 Eq.trans (b:=p (s0 k J) J) (by kernel_rfl) (by rw[aO])
theorem ok:Ok prog 12 D.sig:=aw func12 aM (by kernel_rfl) (an _)
end eE
namespace ip
abbrev Arg:Type:=(List UInt8)×Int×Int×Unit
abbrev Out:Type:=Int×Unit
abbrev ps:PQ:=[(.ro,(.aa u8)),(.ro,i64),(.ro,i64)]
noncomputable def D:FD:={ fn:=f13,tl:=bd,ps:=ps,rs:=[(i64,(ag i64))],od:=[(6,[0,1,2,3,4,5,6,7,8,9,10,11,12])] }
noncomputable def ab (a:Arg):Option Out:=@lift Out λk=>D.W k a
noncomputable def p (J:Arg):Option Out:=bif decide (J.2.2.1<=(1:Int)) then (some ((0:Int),())) else bif decide ((J.1.length:Int)=(0:Int)) then (if J.2.2.1=0 then none else some ((ai (J.2.1*(7:Int))).tmod J.2.2.1,())) else if (J.1.length:Int)=0 then none else if 0<=J.2.1.tmod (J.1.length:Int) then ((J.1[(J.2.1.tmod (J.1.length:Int)).toNat]?).bind λx2=>if (J.1.length:Int)=0 then none else let j5:=λ(p4:Int)=>(if J.2.2.1=0 then none else some (p4.tmod J.2.2.1,()):Option Out);bif decide ((200:Int) < J.2.2.1) then (if (J.1.length:Int)=0 then none else if 0<=(ai (J.2.1+(1:Int))).tmod (J.1.length:Int) then ((J.1[((ai (J.2.1+(1:Int))).tmod (J.1.length:Int)).toNat]?).bind λx3=>j5 (ai ((ai ((ai ((ai (x2.toNat:Int))+(ai ((ai (J.2.1.tdiv (J.1.length:Int)))*(3:Int)))))*(251:Int)))+(ai (x3.toNat:Int))))) else none) else j5 (ai ((ai (x2.toNat:Int))+(ai ((ai (J.2.1.tdiv (J.1.length:Int)))*(3:Int)))))) else none
theorem ae (k:Nat) (J:Arg):@Eq (Option Out) (D.W k J) (p J):=by kernel_rfl
theorem ok:Ok prog 13 D.sig:=aw func13 aM (by kernel_rfl) (an _)
end ip
namespace aY
abbrev Arg:Type:=(List UInt8)×Unit
abbrev Out:Type:=Bool×Unit
abbrev ps:PQ:=[(.ro,(.aa u8))]
noncomputable def D:FD:={ fn:=f4,tl:=bd,ps:=ps,rs:=[(.bool,(ag .bool))],gl:=[(6,lm.D.sig),(7,eU.D.sig),(8,cv.D.sig),(9,cu.D.sig),(11,dH.D.sig),(12,eE.D.sig),(13,ip.D.sig)],lv:=[(9,[0,3,4,5,6,7])],lx:=[(0,[3,5,6]),(1,[0,3,4,5,6,7])],od:=[(6,[0,1,4,5,2,3,6,7])] }
noncomputable def ab (a:Arg):Option Out:=@lift Out λk=>D.W k a
noncomputable def T0 (J:Arg) (iB:Plain) (oQ:Op) (qc:dN) (g_:Plain×Int):St:={ n:=113,sl:=[(0,.val (.aa u8) J.1),(3,.box bF (ag bF) [] iB),(4,.box e_ (ag e_) [] oQ),(5,.box dD (av dD) [[.snd,.snd,.fst,.fst],[.snd,.snd,.fst,.snd,.fst]] qc),(6,.box bF (av bF) [] g_.1),(7,.val i64 g_.2)],vr:=[],aA:=[] }
noncomputable def b0 (self:(Plain×Int)->Option Out) (e0:Plain->Option Out) (J:Arg) (iB:Plain) (oQ:Op) (qc:dN) (g_:Plain×Int):Option Out:=bif decide (g_.2 < (3:Int)) then ((ip.ab (J.1,g_.2,(5:Int),())).bind λlT=>(ip.ab (J.1,ai (g_.2+(4:Int)),(9:Int),())).bind λrm=>let ui:=λ(Qg:Op)=>(let M6:=λ(BK:Op)=>(bif decide (BK.1=(7:Int)) then (self (g_.1,ai (g_.2+(1:Int)))) else bif decide (BK.1=(8:Int)) then (self (g_.1,ai (g_.2+(1:Int)))) else bif decide (BK.1=(6:Int)) then (self (g_.1,ai (g_.2+(1:Int)))) else bif decide (BK.1=(5:Int)) then (self (g_.1,ai (g_.2+(1:Int)))) else (cv.ab (g_.1,BK,())).bind λBL=>bif decide (BL.1.1=(0:Int)) then (self (BL.1.2.2.1,ai (g_.2+(1:Int)))) else self (g_.1,ai (g_.2+(1:Int))):Option Out);bif decide (g_.2=(2:Int)) then (M6 (oQ.1,(2:Int),oQ.2.2)) else M6 Qg:Option Out);(ip.ab (J.1,ai (g_.2+(8:Int)),(2:Int),())).bind λIz=>bif decide (Iz.1=(0:Int)) then (ui ((2:Int),(2:Int),((1:Int),ai ((1:Int)+lT.1),rm.1,([]:List UInt8),()),(0:Int),())) else ui ((3:Int),(2:Int),((1:Int),ai ((1:Int)+lT.1),rm.1,([]:List UInt8),()),(0:Int),())) else e0 g_.1
noncomputable abbrev B0 (_:Nat):=b0
noncomputable def q0 (J:Arg) (iB:Plain) (oQ:Op) (qc:dN) (M7:Plain):Option Out:=(cv.ab (M7,((6:Int),(2:Int),((0:Int),(0:Int),(0:Int),([]:List UInt8),()),qc.2.1,()),())).bind λEW=>bif decide (EW.1.1=(0:Int)) then ((eE.ab (EW.1.2.2.1.1,iB.1,())).bind λQh=>bif Qh.1 then ((dH.ab (EW.1.2.2.1,())).bind λQi=>bif decide (Qi.1=(0:Int)) then (some (decide (EW.1.2.2.1.2.2.1=M7.2.2.1),())) else some (false,())) else some (false,())) else some (false,())
noncomputable abbrev Q0 (_:Nat):=q0
noncomputable def s0 (k:Nat) (J:Arg):Plain->Op->dN->(Plain×Int)->Option Out:=λiB oQ qc=>λg_=>D.L k [1,1,1,1,1,1,0,1,0,0] [0,3,4,5,6,7] [] (aj 0 (aG (D.N k [1,1,1,1,1,1,1]) D.K0)) (T0 J iB oQ qc g_)
noncomputable def r0 (k:Nat) (J:Arg):Plain->Op->dN->(Plain×Int)->Option Out:=λiB oQ qc=>au (λw v=>B0 k w (Q0 k J iB oQ qc) J iB oQ qc v) k
theorem aO (k:Nat) (J:Arg):s0 k J=r0 k J:=
 funext λiB=>funext λoQ=>funext λqc=>funext λg_=>aH _ _ _ (T0 J iB oQ qc) _ (λrec v=>by kernel_rfl) k g_
noncomputable def p (l0:Plain->Op->dN->(Plain×Int)->Option Out) (J:Arg):Option Out:=(lm.ab (J.1,())).bind λr2=>bif r2.1 then (some (true,())) else (eU.ab (J.1,())).bind λr3=>(cv.ab (r3.1,((5:Int),(2:Int),((0:Int),(0:Int),(0:Int),([]:List UInt8),()),(0:Int),()),())).bind λr4=>bif !decide (r4.1.1=(0:Int)) then ((cu.ab (r3.1,((5:Int),(2:Int),((0:Int),(0:Int),(0:Int),([]:List UInt8),()),(0:Int),()),())).bind λr5=>some (decide (r5.1.1=r4.1.1),())) else l0 r3.1 r3.2.1 r4.1 (r4.1.2.2.1,(0:Int))
theorem ae (k:Nat) (J:Arg):@Eq (Option Out) (D.W k J) (p (r0 k J) J):=
 Eq.trans (b:=p (s0 k J) J) (by kernel_rfl) (by rw[aO])
theorem ok:Ok prog 4 D.sig:=aw func4 aM (by kernel_rfl) (fc lm.ok (fc eU.ok (fc cv.ok (fc cu.ok (fc dH.ok (fc eE.ok (fc ip.ok (an _))))))))
end aY
end OT
set_option linter.unusedVariables false
set_option linter.unusedSimpArgs false
namespace OT
open Go
end OT
set_option linter.unusedVariables false
set_option linter.unusedSimpArgs false
namespace OT
open Go
theorem jc (a b c:Int):bf.ab (a,b,c,())=some (decide (b<=a)&&decide (a<=c),()):=by
 refine ah (k:=0) λk _=>(bf.ae k _).trans ?_
 show bf.p _=_
 unfold bf.p
 by_cases h:b<=a <;> simp[h]
theorem kW (a b c:Int):cz.ab (a,b,c,())=some (decide (b<=a)&&decide (a<=c),()):=by
 refine ah (k:=0) λk _=>(cz.ae k _).trans ?_
 show cz.p _=_
 unfold cz.p
 by_cases h:b<=a <;> simp[h]
theorem DE (a:Int):gK.ab (a,())=some (decide (1<=a)&&decide (a<=99),()):=by
 refine ah (k:=0) λk _=>(gK.ae k _).trans ?_
 show gK.p _=_
 unfold gK.p
 simp[kW]
def bK (a b c:Int):Bool:=decide (b<=a)&&decide (a<=c)
theorem gM {S O α:Type} {g:S->α->S} {fin:S->O}:∀ (xs:List α) (i:Nat) (s:S),aW (λ_ s x=>.inr (g s x)) fin i xs s=fin (xs.foldl g s)
 | [],_,_=>rfl
 | x::xs,i,s=>by simp only[aW,List.foldl_cons];exact gM xs _ _
theorem uj {α:Type}:∀ (xs s:List α),xs.foldl (λs x=>s++[x]) s=s++xs
 | [],s=>by simp
 | x::xs,s=>by rw[List.foldl_cons,uj];simp
abbrev SG:Type:=List (List UInt8)
end OT
set_option linter.unusedVariables false
set_option linter.unusedSimpArgs false
namespace OT
open Go
def oB (c:UInt8):Bool:=!decide ((c.toNat:Int) < 97)&&!decide ((122:Int) < (c.toNat:Int))
def nW (s:List UInt8):Bool:=s.all oB&&decide (s.length<=8)
def cY (x:Row):Int:=if bK x.1 0 3&&(bK x.2.1 1 99&&bK x.2.2.1 0 999) then (if nW x.2.2.2.1 then 0 else 5) else 3
theorem len8 (s:List UInt8):decide ((s.length:Int)<=8)=decide (s.length<=8):=by
 grind
theorem CL (s:List UInt8) (h:s.length<=maxLen):fk.ab (s,())=some (nW s,()):=by
 refine ah (k:=s.length+1) λk hk=>(fk.ae k _).trans ?_
 have:=bJ (B:=λself v=>fk.B0 0 self (λz=>fk.Q0 0 (s,()) z) (s,()) v) s (λ(_:Unit) (i:Int)=>i) (λ_ _ x=>if oB x then .inr () else .inl (false,())) (λ_=>(decide (s.length<=8),())) (λ_ _=>True) h
  (λi hi _ self _=>by
   grind [fk.b0,oB]) (λ_ _ _ _ _ _=>trivial) (λ_ self _=>by
   grind [fk.b0,fk.q0,len8]) () trivial k (by omega)
 refine this.trans ?_
 rw[o6 oB (false,()) (λ_=>(decide (s.length<=8),()))]
 grind [nW]
theorem pc (x:Row) (h:List.length x.2.2.2.1<=maxLen):ct.ab (x,())=some (cY x,()):=by
 refine ah (k:=0) λk _=>(ct.ae k _).trans ?_
 show ct.p _=_
 unfold ct.p cY bK
 simp only[jc,CL _ h,Option.bind_some]
 grind
theorem pe (x:Row) (h:List.length x.2.2.2.1<=maxLen):bA.ab (x,())=some (cY x,()):=by
 refine ah (k:=List.length x.2.2.2.1+1) λk hk=>(bA.ae k _).trans ?_
 have:=bJ (B:=λself v=>bA.B0 0 self (λz=>bA.Q0 0 (x,()) z) (x,()) v) x.2.2.2.1 (λ(_:Unit) (i:Int)=>i) (λ_ _ c=>if oB c then .inr () else .inl (5,())) (λ_=>(0,())) (λ_ _=>True) h
  (λi hi _ self _=>by
   grind [bA.b0,oB]) (λ_ _ _ _ _ _=>trivial) (λ_ self _=>by
   grind [bA.b0,bA.q0]) () trivial k (by omega)
 rw[o6 oB (5,()) (λ_=>(0,()))] at this
 have this:bA.r0 k (x,()) 0=_:=this
 unfold bA.p cY bK nW
 simp only[kW,this,Option.bind_some]
 have h8:decide ((8:Int) < (List.length x.2.2.2.1:Int))=!decide (List.length x.2.2.2.1<=8):=by
  grind
 rw[h8]
 cases decide ((0:Int)<=x.1) <;> cases decide (x.1<=3) <;> cases decide ((1:Int)<=x.2.1) <;> cases decide (x.2.1<=99) <;> cases decide ((0:Int)<=x.2.2.1) <;> cases decide (x.2.2.1<=999) <;> cases decide (List.length x.2.2.2.1<=8) <;> cases (x.2.2.2.1).all oB <;> rfl
def rl (x:Row):Prop:=List.length x.2.2.2.1<=maxLen
def cl (c:Change):Prop:=rl c.2.1/\rl c.2.2.2.1
def sameKey (a b:Row):Bool:=decide (a.1=b.1)&&decide (a.2.1=b.2.1)
def cO (a b:Int×Int):Bool:=decide (a.1 < b.1)||(decide (a.1=b.1)&&decide (a.2 < b.2))
def fa (c:Change):Int:=if (!c.1&&!c.2.2.1)||(c.1&&c.2.2.1&&!sameKey c.2.1 c.2.2.2.1) then 1 else if c.1&&!decide (cY c.2.1=0) then cY c.2.1 else if c.2.2.1 then cY c.2.2.2.1 else 0
def qI (c:Change):Int:=if fa c=0 then (if c.1&&c.2.2.1&&Ty.eq ak c.2.1 c.2.2.2.1 then 1 else 0) else fa c
def ck (c:Change):Int×Int:=if c.2.2.1 then (c.2.2.2.1.1,c.2.2.2.1.2.1) else (c.2.1.1,c.2.1.2.1)
theorem z9 (c:Change) (h:cl c):ga.ab (c,())=some (fa c,()):=by
 refine ah (k:=0) λk _=>(ga.ae k _).trans ?_
 show ga.p _=_
 unfold ga.p fa sameKey
 simp only[pc _ h.1,pc _ h.2,Option.bind_some]
 grind
theorem vG (a b:Row):eB.ab (a,b,())=some (cO (a.1,a.2.1) (b.1,b.2.1),()):=by
 refine ah (k:=0) λk _=>(eB.ae k _).trans ?_
 grind [eB.p,cO]
theorem wo (a b:Row):fu.ab (a,b,())=some (if cO (a.1,a.2.1) (b.1,b.2.1) then -1 else if cO (b.1,b.2.1) (a.1,a.2.1) then 1 else 0,()):=by
 refine ah (k:=0) λk _=>(fu.ae k _).trans ?_
 grind [fu.p,vG]
theorem xK (a b:Row):decide ((if cO (a.1,a.2.1) (b.1,b.2.1) then (-1:Int) else if cO (b.1,b.2.1) (a.1,a.2.1) then 1 else 0)=0)=sameKey a b:=by
 grind [cO,sameKey]
theorem to (c:Change) (h:cl c):dj.ab (c,())=some (fa c,()):=by
 refine ah (k:=0) λk _=>(dj.ae k _).trans ?_
 show dj.p _=_
 unfold dj.p fa
 simp only[pe _ h.1,pe _ h.2,wo,Option.bind_some,xK]
 grind
theorem yP (c:Change) (h:cl c):gZ.ab (c,())=some (qI c,()):=by
 refine ah (k:=0) λk _=>(gZ.ae k _).trans ?_
 grind [gZ.p,qI,z9]
theorem zE (c:Change) (h:cl c):dP.ab (c,())=some (qI c,()):=by
 refine ah (k:=0) λk _=>(dP.ae k _).trans ?_
 grind [dP.p,qI,to]
theorem pg (c:Change):d8.ab (c,())=some ((ck c).1,(ck c).2,()):=by
 refine ah (k:=0) λk _=>(d8.ae k _).trans ?_
 grind [d8.p,ck]
def rO (c:Change):Row:=if c.2.2.1 then c.2.2.2.1 else c.2.1
theorem qJ (c:Change):((rO c).1,(rO c).2.1)=ck c:=by grind [rO,ck]
theorem nk (c:Change):bt.ab (c,())=some (rO c,()):=by
 refine ah (k:=0) λk _=>(bt.ae k _).trans ?_
 grind [bt.p,rO]
theorem Ob (n:Nat) (m:Nat):decide ((m:Int) < (n:Int))=decide (m < n):=by
 grind
theorem xL {i:Nat} (hi:0 < i) (h:i<=maxLen):ai ((i:Int) - 1)=((i - 1:Nat):Int):=by
 grind [al,bQ]
end OT
set_option linter.unusedVariables false
set_option linter.unusedSimpArgs false
namespace OT
open Go
def rk (x:Row):Int×Int:=(x.1,x.2.1)
theorem sN (a b:Int×Int):cO a b=true↔a.1 < b.1\/(a.1=b.1/\a.2 < b.2):=by grind [cO]
theorem ph {a b c:Int×Int} (h1:cO a b=true) (Y:cO b c=true):cO a c=true:=by
 grind [sN]
theorem lU (a:Int×Int):cO a a=false:=by
 grind [sN]
theorem G7 {a b:Int×Int} (h:cO a b=true):cO b a=false:=by
 grind [sN]
theorem sO {a b:Int×Int} (h1:cO a b=false) (Y:cO b a=false):a=b:=by
 grind [sN]
def up (xs:List Row):Prop:=xs.Pairwise (λa b=>cO (rk a) (rk b)=true)
theorem nF {x:Row} {xs:List Row}:up (x::xs)↔(∀ y ∈ xs,cO (rk x) (rk y)=true)/\up xs:=List.pairwise_cons
def pos:List Row->Int×Int->Nat
 | [],_=>0
 | x::xs,k=>if cO (rk x) k then pos xs k+1 else 0
theorem uk:∀ (xs:List Row) (k:Int×Int),pos xs k<=xs.length
 | [],_=>Nat.le_refl _
 | x::xs,k=>by simp only[pos];split <;> simp[uk xs k]
theorem rP:∀ (xs:List Row) (k:Int×Int) (i:Nat) (h:i < xs.length),i < pos xs k->cO (rk xs[i]) k=true
 | x::xs,k,i,h,hp=>by
  simp only[pos] at hp
  split at hp
  ·rename_i hx
   cases i with
   | zero=>exact hx
   | succ i=>exact rP xs k i (by simpa using h) (by omega)
  ·omega
theorem oC:∀ (xs:List Row) (k:Int×Int) (i:Nat) (h:i < xs.length),up xs->pos xs k<=i->cO (rk xs[i]) k=false
 | x::xs,k,i,h,hu,hp=>by
  simp only[pos] at hp
  split at hp
  ·cases i with
   | zero=>omega
   | succ i=>exact oC xs k i (by simpa using h) (nF.1 hu).2 (by omega)
  ·rename_i hx
   have hx:cO (rk x) k=false:=by simpa using hx
   cases i with
   | zero=>exact hx
   | succ i=>
    have kj:i < xs.length:=by simpa using h
    have hm:cO (rk x) (rk xs[i])=true:=(nF.1 hu).1 _ (List.getElem_mem _)
    grind [ph]
def fm (xs:List Row) (k:Int×Int):Bool:=match xs[pos xs k]? with
 | some x=>decide (rk x=k)
 | none=>false
theorem kX {xs:List Row} {k:Int×Int} (h:fm xs k=true):∃ hp:pos xs k < xs.length,rk xs[pos xs k]=k:=by
 grind [fm]
theorem M8 (a b:Row):decide ((if cO (a.1,a.2.1) (b.1,b.2.1) then (-1:Int) else if cO (b.1,b.2.1) (a.1,a.2.1) then 1 else 0) < 0)=cO (rk a) (rk b):=by
 grind [rk]
theorem sP (a b:Row):sameKey a b=decide (rk a=rk b):=by
 grind [sameKey,rk]
theorem half (lo hi:Nat) (h:lo+hi<=4611686018427387904):ai ((IntKind.wrap .u64 (ai ((lo:Int)+(hi:Int)))).fdiv (2 ^ 1))=(((lo+hi) / 2:Nat):Int):=by
 grind [bQ,IntKind.wrap,IntKind.bits]
theorem ul (xs:List Row) (key:Row) (f:Nat×Int) (hu:up xs) (hl:xs.length<=2000000):az.ab (xs,key,f,())=some ((pos xs (rk key):Int),fm xs (rk key),()):=by
 have hp:=uk xs (rk key)
 have hq:az.Q0 0 (xs,key,f,()) (pos xs (rk key):Int)=some ((pos xs (rk key):Int),fm xs (rk key),()):=by
  grind [az.q0,fm,wo,xK,sP]
 refine ah (k:=xs.length+1) λk hk=>(az.ae k _).trans ?_
 refine xz (B:=λself v=>az.B0 0 self (λz=>az.Q0 0 (xs,key,f,()) z) (xs,key,f,()) v) (λ_=>((pos xs (rk key):Int),fm xs (rk key),()))
  (λv=>∃ lo hi:Nat,v=((lo:Int),(hi:Int))/\lo<=pos xs (rk key)/\pos xs (rk key)<=hi/\hi<=xs.length) (λv=>(v.2 - v.1).toNat) (λv hv self=>?_) k (0,(xs.length:Int)) ⟨0,xs.length,rfl,by omega,hp,by omega⟩ (by simp;omega)
 obtain ⟨lo,hi,rfl,h1,Y,h3⟩:=hv
 by_cases aB:lo < hi
 ·right
  have si:(lo:Int) < (hi:Int):=by omega
  have hm:(lo+hi) / 2 < xs.length:=by omega
  have hb:∀ self,az.B0 0 self (λz=>az.Q0 0 (xs,key,f,()) z) (xs,key,f,()) ((lo:Int),(hi:Int))=if cO (rk xs[(lo+hi) / 2]) (rk key) then self (ai ((((lo+hi) / 2:Nat):Int)+1),(hi:Int)) else self ((lo:Int),(((lo+hi) / 2:Nat):Int)):=λself=>by
   grind [az.b0,half,Int.toNat_natCast,wo,M8]
  cases hc:cO (rk xs[(lo+hi) / 2]) (rk key) with
  | true=>
   refine ⟨((((lo+hi) / 2+1:Nat):Int),(hi:Int)),?_,rfl,⟨_,_,rfl,?_,Y,h3⟩,by grind⟩
   all_goals grind [bQ,oC]
  | false=>
   refine ⟨((lo:Int),(((lo+hi) / 2:Nat):Int)),?_,rfl,⟨_,_,rfl,h1,?_,by omega⟩,by grind⟩
   all_goals grind [rP]
 grind [az.b0]
def jd (xs:List Row) (c:Change):Bool:=(fm xs (ck c) == c.1)&&(!fm xs (ck c)||(match xs[pos xs (ck c)]? with | some x=>Ty.eq ak x c.2.1 | none=>true))
def ee (xs:List Row) (c:Change):List Row:=xs.take (pos xs (ck c))++(if c.2.2.1 then [c.2.2.2.1] else [])++xs.drop (pos xs (ck c)+if fm xs (ck c) then 1 else 0)
theorem G8 (c:Change):rk (rO c)=ck c:=qJ c
theorem G9 (c:Change) (xs:List Row) (hu:up xs) (hl:xs.length<=2000000):eV.ab (c,xs,())=some (jd xs c,()):=by
 refine ah (k:=0) λk _=>(eV.ae k _).trans ?_
 grind [eV.p,jd,nk,ul,G8,kX]
theorem EX (xs:List Row) (c:Change) (hu:up xs) (hl:xs.length<=2000000):gJ.ab (xs,c,())=some (ee xs c,()):=by
 refine ah (k:=0) λk _=>(gJ.ae k _).trans ?_
 show gJ.p _=_
 unfold gJ.p ee
 have hp:=uk xs (ck c)
 have zx:0<=((pos xs (ck c):Nat):Int)/\((pos xs (ck c):Nat):Int)<=(xs.length:Int):=by omega
 have c1:([]:List Row).length+(List.take (pos xs (ck c)) xs).length<=bX:=cm (by simp;omega)
 simp only[nk,ul xs _ _ hu hl,G8,Option.bind_some,zx,and_self,if_true,Int.toNat_natCast,c1,List.drop_zero,List.nil_append,List.take_length]
 have c2:(List.take (pos xs (ck c)) xs).length+[c.2.2.2.1].length<=bX:=cm (by simp;omega)
 have hd:∀ (p7:List Row) (n:Nat),p7.length<=2000001->p7.length+(List.drop n xs).length<=bX:=λp7 n h=>cm (by grind)
 have hw:ai (((pos xs (ck c):Nat):Int)+1)=((pos xs (ck c)+1:Nat):Int):=by grind [bQ]
 have c3:=hd (List.take (pos xs (ck c)) xs++[c.2.2.2.1])
 have c4:=hd (List.take (pos xs (ck c)) xs)
 have l3:(List.take (pos xs (ck c)) xs++[c.2.2.2.1]).length<=2000001:=by simp;omega
 have l4:(List.take (pos xs (ck c)) xs).length<=2000001:=by simp;omega
 cases hf:fm xs (ck c) with
 | false=>
  grind
 | true=>
  obtain ⟨df,_⟩:=kX hf
  grind
theorem tq (a b:Row):eZ.ab (a,b,())=some (cO (rk a) (rk b),()):=by
 refine ah (k:=0) λk _=>(eZ.ae k _).trans ?_
 grind [eZ.p,cO,rk]
theorem K6 {xs:List Row} {k:Int×Int} (h:fm xs k=true):∃ y ∈ xs,rk y=k:=by
 obtain ⟨hp,hk⟩:=kX h
 grind
theorem DF (k:Int×Int):∀ (xs:List Row) (j:Nat),up xs->aW (λi (_:Unit) x=>if rk x=k then .inl ((i:Int),()) else .inr ()) (λ_=>((-1:Int),())) j xs ()=if fm xs k then (((j+pos xs k:Nat):Int),()) else (-1,())
 | [],j,_=>by simp[aW,fm]
 | x::xs,j,hu=>by
  have hu:=nF.1 hu
  simp only[aW]
  by_cases hx:rk x=k
  ·grind [lU,fm,pos]
  ·simp only[hx,if_false]
   rw[DF k xs (j+1) hu.2]
   grind [pos,fm]
def ly (xs:List Row) (k:Int×Int):Int:=if fm xs k then (pos xs k:Int) else -1
theorem oD (xs:List Row) (t k:Int) (hu:up xs) (hl:xs.length<=2000000):bY.ab (xs,t,k,())=some (ly xs (t,k),()):=by
 refine ah (k:=xs.length+1) λf hf=>(bY.ae f _).trans ?_
 have:=bJ (B:=λself v=>bY.B0 0 self (λz=>bY.Q0 0 (xs,t,k,()) z) (xs,t,k,()) v) xs (λ(_:Unit) (i:Int)=>i) (λi _ x=>if rk x=(t,k) then .inl ((i:Int),()) else .inr ()) (λ_=>((-1:Int),())) (λ_ _=>True) (by rw[al];omega)
  (λi hi _ self _=>by
   grind [bY.b0,rk]) (λ_ _ _ _ _ _=>trivial) (λ_ self _=>by
   grind [bY.b0,bY.q0]) () trivial f (by omega)
 rw[DF (t,k) xs 0 hu] at this
 have this:bY.r0 f (xs,t,k,()) 0=_:=this
 grind [bY.p,ly]
theorem BM {O:Type} (k:Int×Int) (g:Nat->O) (n:Nat):∀ (xs:List Row) (j:Nat),j+xs.length=n->aW (λi (_:Unit) x=>if cO (rk x) k then .inr () else .inl (g i)) (λ_=>g n) j xs ()=g (j+pos xs k)
 | [],j,h=>by grind [aW,pos]
 | x::xs,j,h=>by
  simp only[aW,pos]
  cases hb:cO (rk x) k with
  | true=>
   simp only[if_true]
   rw[BM k g n xs (j+1) (by grind)]
   congr 1;omega
  | false=>simp
def kY (xs:List Row) (r:Row):List Row:=xs.take (pos xs (rk r))++[r]++xs.drop (pos xs (rk r))
theorem sQ (xs:List Row) (r:Row) (hl:xs.length<=2000000):cC.ab (xs,r,())=some (kY xs r,()):=by
 refine ah (k:=xs.length+1) λf hf=>(cC.ae f _).trans ?_
 have hq:∀ i:Nat,i<=xs.length->cC.Q0 0 (xs,r,()) (i:Int)=some (xs.take i++[r]++xs.drop i,()):=λi hi=>by
  show cC.q0 _ _=_
  unfold cC.q0
  have zx:0<=(i:Int)/\(i:Int)<=(xs.length:Int):=by omega
  have c1:([]:List Row).length+(List.take i xs).length<=bX:=cm (by simp;omega)
  have c2:(List.take i xs).length+[r].length<=bX:=cm (by simp;omega)
  have c3:(List.take i xs++[r]).length+(List.drop i xs).length<=bX:=cm (by simp;omega)
  grind
 have:=bJ (B:=λself v=>cC.B0 0 self (λz=>cC.Q0 0 (xs,r,()) z) (xs,r,()) v) xs (λ(_:Unit) (i:Int)=>i) (λi _ x=>if cO (rk x) (rk r) then .inr () else .inl (xs.take i++[r]++xs.drop i,())) (λ_=>(xs.take xs.length++[r]++xs.drop xs.length,())) (λ_ _=>True) (by rw[al];omega)
  (λi hi _ self _=>by
   show cC.b0 _ _ _ _=_
   unfold cC.b0
   have aB:(i:Int) < (xs.length:Int):=by omega
   simp only[aB,decide_true,cond_true,Int.natCast_nonneg,if_true,Int.toNat_natCast,List.getElem?_eq_getElem hi,Option.bind_some,tq]
   cases cO (rk xs[i]) (rk r) <;> grind) (λ_ _ _ _ _ _=>trivial) (λ_ self _=>by
   grind [cC.b0]) () trivial f (by omega)
 rw[BM (rk r) (λi=>(xs.take i++[r]++xs.drop i,())) xs.length xs 0 (by omega)] at this
 refine this.trans ?_
 simp[kY]
theorem wr (t:Int):∀ (xs:List Row) (j:Nat) (s:List Row),aW (O:=List Row×Unit) (λi s x=>if (i:Int)=t then .inr s else .inr (s++[x])) (λs=>(s,())) j xs s=(s++(if (j:Int)<=t/\t < j+xs.length then xs.take (t - j).toNat++xs.drop ((t - j).toNat+1) else xs),())
 | [],j,s=>by
  grind [aW]
 | x::xs,j,s=>by
  simp only[aW]
  by_cases h:(j:Int)=t
  ·have h1:¬ (((j+1:Nat):Int)<=t/\t < ((j+1:Nat):Int)+(xs.length:Int)):=by omega
   have Y:(j:Int)<=t/\t < (j:Int)+((x::xs).length:Int):=by simp;omega
   have h3:(t - j).toNat=0:=by omega
   simp only[h,if_true]
   rw[wr t xs (j+1) s,if_neg h1]
   grind
  ·simp only[h,if_false]
   rw[wr t xs (j+1) (s++[x])]
   grind
def wt (xs:List Row) (k:Int×Int):List Row:=if fm xs k then xs.take (pos xs k)++xs.drop (pos xs k+1) else xs
theorem xM (k:Int×Int):∀ (l1 l2:List Row),(∀ x ∈ l1,cO (rk x) k=true)->pos (l1++l2) k=l1.length+pos l2 k
 | [],l2,_=>by simp
 | x::l1,l2,h=>by
  simp only[List.cons_append,pos,h x List.mem_cons_self,if_true,List.length_cons]
  rw[xM k l1 l2 λy hy=>h y (List.mem_cons_of_mem _ hy)]
  omega
theorem qd {xs:List Row} {k:Int×Int} {x:Row} (h:x ∈ xs.take (pos xs k)):cO (rk x) k=true:=by
 obtain ⟨i,hi,e⟩:=List.mem_iff_getElem.1 h
 grind [rP]
theorem IK {xs:List Row} {k:Int×Int} (hu:up xs) {n:Nat} (hn:pos xs k<=n):pos (xs.drop n) k=0:=by
 grind [List.drop_eq_nil_of_le,List.drop_eq_getElem_cons,pos,oC]
theorem K7 {xs:List Row} {k:Int×Int} {r:Row} (hu:up xs) (hk:rk r=k):kY (wt xs k) r=xs.take (pos xs k)++[r]++xs.drop (pos xs k+if fm xs k then 1 else 0):=by
 have hp:=uk xs k
 have key:∀ n,pos xs k<=n->pos (xs.take (pos xs k)++xs.drop n) k=pos xs k:=λn hn=>by
  grind [xM,qd,IK]
 have hl:(xs.take (pos xs k)).length=pos xs k:=by grind
 unfold kY wt
 grind
theorem um (xs:List Row) (c:Change) (hu:up xs) (hl:xs.length<=2000000) (hc:c.2.2.1=true->rk c.2.2.2.1=ck c):cx.ab (xs,c,())=some (if jd xs c then (ee xs c,true,()) else ([],false,())):=by
 refine ah (k:=xs.length+1) λf hf=>(cx.ae f _).trans ?_
 have hp:=uk xs (ck c)
 have G_:=bJ (B:=λself v=>cx.B0 0 self (λz=>cx.Q0 0 (xs,c,()) (ly xs (ck c)) z) (xs,c,()) (ly xs (ck c)) v) (O:=List Row×Bool×Unit) xs (λ(s:List Row) (i:Int)=>(s,i)) (λi s x=>if (i:Int)=ly xs (ck c) then .inr s else .inr (s++[x]))
  (λs=>(if c.2.2.1 then kY s c.2.2.2.1 else s,true,())) (λi s=>s.length<=i) (by rw[al];omega)
  (λi hi s self hI=>by
   grind [cx.b0,cm]) (λi hi s s' hI hf=>by
   grind) (λs self hI=>by
   grind [cx.b0,cx.q0,sQ]) [] (Nat.le_refl _) f (by omega)
 have EM:∀ (Km:List Row) (j:Nat) (s:List Row),aW (O:=List Row×Bool×Unit) (λi s x=>if (i:Int)=ly xs (ck c) then .inr s else .inr (s++[x])) (λs=>(if c.2.2.1 then kY s c.2.2.2.1 else s,true,())) j Km s
   = (λs=>(if c.2.2.1 then kY s c.2.2.2.1 else s,true,())) (aW (O:=List Row×Unit) (λi s x=>if (i:Int)=ly xs (ck c) then .inr s else .inr (s++[x])) (λs=>(s,())) j Km s).1:=by
  intro Km
  induction Km <;> grind [aW]
 rw[EM,wr (ly xs (ck c)) xs 0 []] at G_
 have Qj:([]++(if ((0:Nat):Int)<=ly xs (ck c)/\ly xs (ck c) < ((0:Nat):Int)+(xs.length:Int) then xs.take (ly xs (ck c) - ((0:Nat):Int)).toNat++xs.drop ((ly xs (ck c) - ((0:Nat):Int)).toNat+1) else xs))=wt xs (ck c):=by
  grind [ly,wt,fm]
 simp only[Qj] at G_
 have G_:cx.r0 f (xs,c,()) (ly xs (ck c)) (([]:List Row),(0:Int))=_:=G_
 unfold cx.p jd
 simp only[pg,oD xs _ _ hu hl,Option.bind_some,G_]
 have SH:(if c.2.2.1 then kY (wt xs (ck c)) c.2.2.2.1 else wt xs (ck c))=ee xs c:=by
  unfold ee
  cases hi:c.2.2.1 with
  | true=>grind [K7]
  | false=>
   simp only[Bool.false_eq_true,if_false,List.append_nil]
   unfold wt
   cases fm xs (ck c) <;> simp_all
 grind [fm,ly,Int.toNat_natCast]
end OT
set_option linter.unusedVariables false
set_option linter.unusedSimpArgs false
namespace OT
open Go
def jp (xs:List Row) (i:Nat) (x:Row):Sum (Int×Unit) Unit:=
 if cY x=0 then (if 0 < i then (match xs[i - 1]? with | some y=>if cO (rk y) (rk x) then .inr () else .inl (1,()) | none=>.inl (1,())) else .inr ()) else .inl (cY x,())
def dR (xs:List Row):Int:=if 60 < xs.length then 2 else (aW (λi (_:Unit) x=>jp xs i x) (λ_=>((0:Int),())) 0 xs ()).1
theorem vH (xs:List Row) (hl:xs.length<=maxLen) (h:∀ c ∈ xs,rl c):c_.ab (xs,())=some (dR xs,()):=by
 refine ah (k:=xs.length+1) λk hk=>(c_.ae k _).trans ?_
 have:=bJ (B:=λself v=>c_.B0 0 self (λz=>c_.Q0 0 (xs,()) z) (xs,()) v) xs (λ(_:Unit) (i:Int)=>i) (λi _ x=>jp xs i x) (λ_=>(0,())) (λ_ _=>True) hl
  (λi hi _ self _=>by
   show c_.b0 _ _ _ _=_
   unfold c_.b0 jp
   have aB:(i:Int) < (xs.length:Int):=by omega
   simp only[aB,decide_true,cond_true,Int.natCast_nonneg,if_true,Int.toNat_natCast,List.getElem?_eq_getElem hi,Option.bind_some,pc _ (h _ (List.getElem_mem hi))]
   grind [xL,Int.toNat_natCast,tq]) (λ_ _ _ _ _ _=>trivial) (λ_ self _=>by
   grind [c_.b0,c_.q0]) () trivial k (by omega)
 have this:c_.r0 k (xs,()) 0=_:=this
 grind [c_.p,dR]
theorem rq (xs:List Row) (hl:xs.length<=maxLen) (h:∀ c ∈ xs,rl c):bC.ab (xs,())=some (dR xs,()):=by
 refine ah (k:=xs.length+1) λk hk=>(bC.ae k _).trans ?_
 have:=bJ (B:=λself v=>bC.B0 0 self (λz=>bC.Q0 0 (xs,()) z) (xs,()) v) xs (λ(_:Unit) (i:Int)=>i) (λi _ x=>jp xs i x) (λ_=>(0,())) (λ_ _=>True) hl
  (λi hi _ self _=>by
   show bC.b0 _ _ _ _=_
   unfold bC.b0 jp rk
   have aB:(i:Int) < (xs.length:Int):=by omega
   simp only[aB,decide_true,cond_true,Int.natCast_nonneg,if_true,Int.toNat_natCast,List.getElem?_eq_getElem hi,Option.bind_some,pe _ (h _ (List.getElem_mem hi))]
   grind [xL,Int.toNat_natCast,vG]) (λ_ _ _ _ _ _=>trivial) (λ_ self _=>by
   grind [bC.b0,bC.q0]) () trivial k (by omega)
 have this:bC.r0 k (xs,()) 0=_:=this
 grind [bC.p,dR]
theorem zF {α:Type} {f:Nat->Unit->α->Sum (Int×Unit) Unit} (hf:∀ i s x o,f i s x=.inl o->o.1≠0):∀ (xs:List α) (j:Nat),(aW f (λ_=>((0:Int),())) j xs ()).1=0->∀ i (hi:i < xs.length),f (j+i) () xs[i]=.inr ()
 | x::xs,j,h,i,hi=>by
  simp only[aW] at h
  cases hx:f j () x with
  | inl o=>grind
  | inr u=>
   rw[hx] at h
   cases i with
   | zero=>exact hx
   | succ i=>
    have:=zF hf xs (j+1) h i (by simpa using hi)
    grind
theorem Ha:∀ (xs:List Row),(∀ i (hi:i < xs.length),0 < i->cO (rk (xs[i - 1]'(by omega))) (rk xs[i])=true)->up xs
 | [],_=>List.Pairwise.nil
 | [x],_=>List.pairwise_singleton _ _
 | x::y::xs,h=>by
  have hu:up (y::xs):=Ha (y::xs) λi hi h0=>by
   have:=h (i+1) (by grind) (by omega)
   grind
  have tH:cO (rk x) (rk y)=true:=h 1 (by simp) (by omega)
  refine nF.2 ⟨λz hz=>?_,hu⟩
  rcases List.mem_cons.1 hz with rfl | hz
  ·exact tH
  ·exact ph tH ((nF.1 hu).1 z hz)
theorem jN {x:Row} (h:cY x=0):List.length x.2.2.2.1<=8:=by
 grind [cY,nW]
structure Good (xs:List Row):Prop where
 up:up xs
 ok:∀ x ∈ xs,cY x=0
theorem je {xs:List Row} (h:dR xs=0):Good xs/\xs.length<=60:=by
 unfold dR at h
 split at h
 ·cases h
 ·rename_i hl
  have hn:=zF (f:=λi (_:Unit) x=>jp xs i x) (λi s x o ho=>by
   grind [jp]) xs 0 h
  have h1:∀ i (hi:i < xs.length),cY xs[i]=0:=λi hi=>by
   grind [jp]
  refine ⟨⟨Ha xs λi hi h0=>?_,λx hx=>?_⟩,by omega⟩
  ·grind [jp]
  ·obtain ⟨i,hi,rfl⟩:=List.mem_iff_getElem.1 hx
   exact h1 i hi
theorem mc {c:Change} (h:fa c=0):(c.2.2.1=true->rk c.2.2.2.1=ck c)/\(c.2.2.1=true->cY c.2.2.2.1=0):=by
 grind [rk,ck,fa]
theorem gN {xs:List Row} {c:Change} (h:Good xs) (hc:fa c=0):Good (ee xs c):=by
 obtain ⟨hk,hr⟩:=mc hc
 have hb:=h.up
 constructor
 ·unfold ee up
  have h1:(xs.take (pos xs (ck c))).Pairwise (λa b=>cO (rk a) (rk b)=true):=hb.sublist (List.take_sublist _ _)
  have wP:∀ n,(xs.drop n).Pairwise (λa b=>cO (rk a) (rk b)=true):=λn=>hb.sublist (List.drop_sublist _ _)
  have M9:∀ y ∈ xs.drop (pos xs (ck c)+if fm xs (ck c) then 1 else 0),cO (ck c) (rk y)=true:=λy hy=>by
   obtain ⟨i,e⟩:=List.mem_iff_getElem?.1 hy
   rw[List.getElem?_drop] at e
   obtain ⟨aB,e1⟩:=List.getElem?_eq_some_iff.1 e
   have hn:=oC xs (ck c) _ aB hb (by omega)
   rw[e1] at hn
   clear e1 aB
   cases Dk:cO (ck c) (rk y) with
   | true=>rfl
   | false=>
    have he:=sO Dk hn
    exfalso
    cases hf:fm xs (ck c) with
    | true=>
     obtain ⟨hp,tg⟩:=kX hf
     rw[hf] at e
     simp only[if_true] at e
     obtain ⟨aB,e⟩:=List.getElem?_eq_some_iff.1 e
     have:=List.pairwise_iff_getElem.1 hb (pos xs (ck c)) (pos xs (ck c)+1+i) hp aB (by omega)
     grind
    | false=>
     rw[hf] at e
     simp only[Bool.false_eq_true,if_false,Nat.add_zero] at e
     obtain ⟨aB,e⟩:=List.getElem?_eq_some_iff.1 e
     have hp:pos xs (ck c) < xs.length:=by omega
     have tj:=oC xs (ck c) _ hp hb (Nat.le_refl _)
     have ci:rk xs[pos xs (ck c)]≠ck c:=λe2=>by
      grind [fm]
     have S3:cO (ck c) (rk xs[pos xs (ck c)])=true:=by
      grind [sO]
     cases i with
     | zero=>
      grind
     | succ i=>
      have:=List.pairwise_iff_getElem.1 hb (pos xs (ck c)) (pos xs (ck c)+(i+1)) hp aB (by omega)
      grind
  have Sa:∀ a ∈ xs.take (pos xs (ck c)),∀ y ∈ xs.drop (pos xs (ck c)+if fm xs (ck c) then 1 else 0),cO (rk a) (rk y)=true:=λa ha y hy=>ph (qd ha) (M9 y hy)
  grind [qd]
 ·intro x hx
  unfold ee at hx
  rcases List.mem_append.1 hx with hx | hx
  ·rcases List.mem_append.1 hx with hx | hx
   ·exact h.ok x (List.mem_of_mem_take hx)
   grind
  ·exact h.ok x (List.mem_of_mem_drop hx)
theorem qe (xs:List Row) (c:Change):(ee xs c).length<=xs.length+1:=by
 grind [ee]
def kZ (i:Nat) (s:List Row) (c:Change):Sum (o7×Unit) (List Row):=if fa c=0 then (if jd s c then .inr (ee s c) else .inl ((8,[],()),())) else .inl ((fa c,[],()),())
def qf (s:List Row):o7×Unit:=if 60 < s.length then ((2,[],()),()) else ((0,s,()),())
def xN (xs:List Row) (cs:List Change):o7:=if dR xs=0 then (aW kZ qf 0 cs xs).1 else (dR xs,[],())
theorem IL (n i:Nat) (s s':List Row) (c:Change) (h:Good s/\s.length<=60+i) (hf:kZ n s c=.inr s'):Good s'/\s'.length<=60+(i+1):=by
 grind [kZ,gN,qe]
theorem rr (xs:List Row) (h:xs.length<=1048576):cf.ab (xs,())=some (xs,()):=by
 refine ah (k:=0) λk _=>(cf.ae k _).trans ?_
 show cf.p _=_
 unfold cf.p
 have c1:([]:List Row).length+xs.length<=bX:=cm (by grind)
 exact uZ (λe=>by grind) (by grind)
theorem un (xs:List Row) (cs:List Change) (hl:xs.length<=maxLen) (h:∀ x ∈ xs,rl x) (kC:cs.length<=1048576) (hc:∀ c ∈ cs,cl c):bD.ab (xs,cs,())=some (xN xs cs,()):=by
 refine ah (k:=cs.length+1) λk hk=>(bD.ae k _).trans ?_
 unfold bD.p xN
 simp only[rq xs hl h,Option.bind_some]
 by_cases h0:dR xs=0
 ·obtain ⟨hg,hn⟩:=je h0
  simp only[h0,decide_true,Bool.not_true,cond_false,if_true,rr xs (by omega),Option.bind_some]
  exact bJ (B:=λself v=>bD.B0 0 self (λz=>bD.Q0 0 (xs,cs,()) z) (xs,cs,()) v) cs (λ(s:List Row) (i:Int)=>(s,i)) kZ qf (λi s=>Good s/\s.length<=60+i) (by rw[al];omega)
   (λi hi s self hI=>by
    show bD.b0 _ _ _ _=_
    unfold bD.b0 kZ
    have aB:(i:Int) < (cs.length:Int):=by omega
    simp only[aB,decide_true,cond_true,Int.natCast_nonneg,if_true,Int.toNat_natCast,List.getElem?_eq_getElem hi,Option.bind_some,to _ (hc _ (List.getElem_mem hi)),G9 _ s hI.1.up (by omega),EX s _ hI.1.up (by omega)]
    grind) (λi hi s s' hI hf=>IL _ i s s' _ hI hf) (λs self hI=>by
    grind [bD.b0,qf,bD.q0]) xs ⟨hg,by omega⟩ k (by omega)
 grind
theorem DG:∀ {xs:List Row},(∀ x ∈ xs,cY x=0)->zz (.aa ak) xs<=9*xs.length
 | [],_=>Nat.le_refl _
 | x::xs,h=>by
  have h1:zz (.aa ak) (x::xs:List Row)=zz ak x+1+zz (.aa ak) xs:=yJ (e:=ak) x xs
  have Y:=jN (h x List.mem_cons_self)
  have h3:zz ak x=0+(0+(0+(List.length x.2.2.2.1+0))):=rfl
  have h4:=DG λy hy=>h y (List.mem_cons_of_mem _ hy)
  grind
end OT
set_option linter.unusedVariables false
set_option linter.unusedSimpArgs false
set_option linter.unusedSectionVars false
namespace OT
open Go
theorem qg {xs:List Row} {k:Int×Int} (hu:up xs) {i:Nat} (hi:i < xs.length) (hk:rk xs[i]=k):fm xs k=true/\pos xs k=i:=by
 have h1:¬ i < pos xs k:=λaB=>by
  have:=rP xs k i hi aB
  rw[hk,lU] at this
  cases this
 have hp:pos xs k < xs.length:=by omega
 have Y:pos xs k=i:=by
  by_cases he:pos xs k=i
  ·exact he
  ·have h3:=List.pairwise_iff_getElem.1 hu (pos xs k) i hp hi (by omega)
   have h4:=oC xs k (pos xs k) hp hu (Nat.le_refl _)
   rw[hk] at h3
   rw[h3] at h4
   cases h4
 refine ⟨?_,Y⟩
 unfold fm
 rw[Y,List.getElem?_eq_getElem hi]
 simpa using hk
theorem k_ {xs:List Row} (hu:up xs) (c:Change) (r:Row):r ∈ ee xs c↔(r ∈ xs/\rk r≠ck c)\/(c.2.2.1=true/\r=c.2.2.2.1):=by
 have key:(r ∈ xs.take (pos xs (ck c))\/r ∈ xs.drop (pos xs (ck c)+if fm xs (ck c) then 1 else 0))↔(r ∈ xs/\rk r≠ck c):=by
  constructor
  ·rintro (h | h)
   ·exact ⟨List.mem_of_mem_take h,λhe=>by have:=qd h;rw[he,lU] at this;cases this⟩
   ·refine ⟨List.mem_of_mem_drop h,λhe=>?_⟩
    obtain ⟨i,hi,hr⟩:=List.getElem_of_mem h
    rw[List.getElem_drop] at hr
    rw[List.length_drop] at hi
    obtain ⟨f1,f2⟩:=qg hu (i:=pos xs (ck c)+(if fm xs (ck c) then 1 else 0)+i) (k:=ck c) (by omega) (by rw[hr];exact he)
    rw[f1] at f2
    simp only[if_true] at f2
    omega
  ·rintro ⟨h,ci⟩
   obtain ⟨i,hi,hr⟩:=List.getElem_of_mem h
   by_cases h1:i < pos xs (ck c)
   ·left
    rw[List.mem_take_iff_getElem]
    exact ⟨i,by omega,hr⟩
   ·right
    rw[List.mem_drop_iff_getElem]
    by_cases hf:fm xs (ck c)=true
    ·rw[if_pos hf]
     obtain ⟨hp,hk⟩:=kX hf
     have:i≠pos xs (ck c):=λhe=>ci (by subst he;rw[<-hr];exact hk)
     exact ⟨i - (pos xs (ck c)+1),by omega,by rw[<-hr];congr 1;omega⟩
    ·rw[if_neg hf]
     exact ⟨i - (pos xs (ck c)+0),by omega,by rw[<-hr];congr 1;omega⟩
 unfold ee
 rw[List.mem_append,List.mem_append]
 constructor
 ·rintro ((h | h) | h)
  ·exact .inl (key.1 (.inl h))
  ·cases hi:c.2.2.1 with
   | true=>rw[hi] at h;exact .inr ⟨rfl,List.mem_singleton.1 h⟩
   | false=>rw[hi] at h;cases h
  ·exact .inl (key.1 (.inr h))
 ·rintro (h | ⟨hi,rfl⟩)
  ·rcases key.2 h with h | h
   ·exact .inl (.inl h)
   ·exact .inr h
  ·rw[hi];exact .inl (.inr (List.mem_singleton.2 rfl))
theorem Hc {a b:Row} (h:Ty.eq ak a b=true):a=b:=by
 have e:Ty.eq ak a b=(decide (a.1=b.1)&&(decide (a.2.1=b.2.1)&&(decide (a.2.2.1=b.2.2.1)&&(decide (a.2.2.2.1=b.2.2.2.1)&&true)))):=rfl
 rw[e] at h
 simp only[Bool.and_eq_true,decide_eq_true_eq,and_true] at h
 obtain ⟨J,a2,a3,a4,⟨⟩⟩:=a
 obtain ⟨b1,b2,b3,b4,⟨⟩⟩:=b
 obtain ⟨h1,Y,h3,h4⟩:=h
 simp only at h1 Y h3 h4
 rw[h1,Y,h3,h4]
end OT
set_option linter.unusedVariables false
set_option linter.unusedSimpArgs false
namespace OT
open Go
theorem dI {V S O α:Type} {B:(V->Option O)->V->Option O} (xs:List α) (enc:S->Int->V) (f:Nat->S->α->Sum (Option O) S) (fin:S->Option O) (I:Nat->S->Prop) (yG:xs.length<=maxLen)
  (cI:∀ (i:Nat) (hi:i < xs.length) (s:S) self,I i s->B self (enc s (i:Int))=match f i s xs[i] with | .inl o=>o | .inr s'=>self (enc s' (ai ((i:Int)+1))))
  (hI:∀ (i:Nat) (hi:i < xs.length) (s s':S),I i s->f i s xs[i]=.inr s'->I (i+1) s')
  (iQ:∀ (s:S) self,I xs.length s->B self (enc s (xs.length:Int))=fin s) (s:S) (h0:I 0 s):∀ k,xs.length < k->au B k (enc s 0)=aW f fin 0 xs s:=by
 have main:∀ (m i:Nat) (s:S),xs.length - i=m->i<=xs.length->I i s->∀ k,m < k->au B k (enc s (i:Int))=aW f fin i (xs.drop i) s:=by
  intro m
  induction m with
  | zero=>
   intro i s hm hi hs k hk
   have kj:i=xs.length:=by omega
   subst kj
   cases k <;> grind [au,aW]
  | succ m ih=>
   intro i s hm hi hs k hk
   have aB:i < xs.length:=by omega
   cases k <;> grind [au,List.drop_eq_getElem_cons,aW,bQ,al]
 intro k hk
 simpa using main xs.length 0 s (by omega) (by omega) h0 k hk
theorem jq {O α:Type} (p:α->Bool) (a:O) (fin:Unit->O):∀ (xs:List α) (i:Nat),aW (λ_ _ x=>if p x then .inl a else .inr ()) fin i xs ()=if xs.any p then a else fin ()
 | [],_=>rfl
 | x::xs,i=>by
  simp only[aW,List.any_cons]
  by_cases h:p x=true
  ·simp[h]
  ·simp[h,jq p a fin xs (i+1)]
def jf {α:Type} (p:α->Bool):Nat->List α->Int
 | _,[]=>-1
 | i,x::xs=>if p x then (i:Int) else jf p (i+1) xs
theorem pi {α:Type} (p:α->Bool):∀ (xs:List α) (i:Nat),aW (λi _ x=>if p x then .inl ((i:Int),()) else .inr ()) (λ_=>((-1:Int),())) i xs ()=(jf p i xs,())
 | [],_=>rfl
 | x::xs,i=>by
  simp only[aW,jf]
  by_cases h:p x=true
  ·simp[h]
  ·simp[h,pi p xs (i+1)]
theorem zG {α:Type} (p:α->Bool):∀ (xs:List α) (i:Nat),decide (0<=jf p i xs)=xs.any p
 | [],_=>rfl
 | x::xs,i=>by
  simp only[jf,List.any_cons]
  by_cases h:p x=true
  ·simp[h]
  ·simp[h,zG p xs (i+1)]
theorem sR {α:Type} (p:α->Bool):∀ (xs:List α) (i:Nat),0<=jf p i xs->∃ (j:Nat) (hj:j < xs.length),jf p i xs=((i+j:Nat):Int)/\p xs[j]=true
 | [],_,h=>by simp[jf] at h
 | x::xs,i,h=>by
  simp only[jf] at h ⊢
  by_cases hp:p x=true
  ·exact ⟨0,by simp,by simp[hp],hp⟩
  ·rw[if_neg hp] at h ⊢
   obtain ⟨j,hj,h1,Y⟩:=sR p xs (i+1) h
   exact ⟨j+1,by simp;omega,by rw[h1];omega,by simpa using Y⟩
theorem nX (a b:Key):Ty.eq aF a b=decide (a=b):=by
 obtain ⟨J,a2,⟨⟩⟩:=a
 obtain ⟨b1,b2,⟨⟩⟩:=b
 show (decide (J=b1)&&(decide (a2=b2)&&true))=decide ((J,a2,())=(b1,b2,()))
 grind
def cZ (c:Change):Key:=((ck c).1,(ck c).2,())
def cq (ks:List Key) (k:Key):Bool:=ks.any λx=>decide (x=k)
theorem eY {ks:List Key} {k:Key}:cq ks k=true↔k ∈ ks:=by simp[cq]
def lN (k:Key):Bool:=bK k.1 0 3&&bK k.2.1 1 99
theorem uo (c:Change):ey.ab (c,())=some (cZ c,()):=by
 refine ah (k:=0) λk _=>(ey.ae k _).trans ?_
 show ey.p _=_
 unfold ey.p
 simp only[pg,Option.bind_some]
 rfl
theorem yQ (c:Change):cg.ab (c,())=some (cZ c,()):=by
 refine ah (k:=0) λk _=>(cg.ae k _).trans ?_
 grind [cg.p,cZ,nk,qJ]
theorem CM (x:Key):jn.ab (x,())=some (lN x,()):=by
 refine ah (k:=0) λk _=>(jn.ae k _).trans ?_
 grind [jn.p,lN,bK,jc]
theorem IM (x:Key):jZ.ab (x.1,x.2.1,())=some (lN x,()):=by
 refine ah (k:=0) λk _=>(jZ.ae k _).trans ?_
 grind [jZ.p,lN,bK,kW]
theorem wu (x:Tx) (k0:Key) (h:List.length x.2.2.2.1<=maxLen):cn.ab (x,k0,())=some (cq x.2.2.2.1 k0,()):=by
 refine ah (k:=List.length x.2.2.2.1+1) λk hk=>(cn.ae k _).trans ?_
 have:=bJ (B:=λself v=>cn.B0 0 self (λz=>cn.Q0 0 (x,k0,()) z) (x,k0,()) v) x.2.2.2.1 (λ(_:Unit) (i:Int)=>i) (λ_ _ y=>if decide (y=k0) then .inl (true,()) else .inr ()) (λ_=>(false,())) (λ_ _=>True) h
  (λi hi s self _=>by
   grind [cn.b0,nX])
  (λ_ _ _ _ _ _=>trivial) (λs self _=>by
   show cn.b0 _ _ _ _=_
   unfold cn.b0
   simp only[Int.lt_irrefl,decide_false,cond_false]
   rfl) () trivial k (by omega)
 rw[jq] at this
 refine Eq.trans this ?_
 grind [cq]
theorem contains_eq (ks:List Key) (k0:Key) (h:ks.length<=maxLen):bH.ab (ks,k0,())=some (cq ks k0,()):=by
 have L4:dm.ab (ks,k0,())=some (jf (λy=>decide (k0=y)) 0 ks,()):=by
  refine ah (k:=ks.length+1) λk hk=>(dm.ae k _).trans ?_
  have:=bJ (B:=λself v=>dm.B0 0 self (λz=>dm.Q0 0 (ks,k0,()) z) (ks,k0,()) v) ks (λ(_:Unit) (i:Int)=>i) (λi _ y=>if decide (k0=y) then .inl ((i:Int),()) else .inr ()) (λ_=>((-1:Int),())) (λ_ _=>True) h
   (λi hi s self _=>by
    grind [dm.b0,nX])
   (λ_ _ _ _ _ _=>trivial) (λs self _=>by
    show dm.b0 _ _ _ _=_
    unfold dm.b0
    simp only[Int.lt_irrefl,decide_false,cond_false]
    rfl) () trivial k (by omega)
  rw[pi] at this
  exact this
 refine ah (k:=0) λk _=>(bH.ae k _).trans ?_
 grind [bH.p,zG,cq]
def tl (x:Tx):Prop:=List.length x.2.1<=1048576/\List.length x.2.2.1<=1048576/\List.length x.2.2.2.1<=1048576/\∀ c ∈ x.2.1,cl c
def kD (ks:List Key) (c:Change):Int:=if qI c=0 then (if cq ks (cZ c) then 0 else 8) else qI c
def uq (n last:Int) (ms:List Int):Bool:=aW (λ_ last m=>if bK m last n then .inr m else .inl false) (λ_=>true) 0 ms last
def gy (ks:List Key) (i:Nat) (k:Key):Int:=if lN k then (if cq (ks.take i) k then 6 else 0) else 3
def kq (ks:List Key):Int:=aW (λi (_:Unit) k=>if gy ks i k=0 then .inr () else .inl (gy ks i k)) (λ_=>(0:Int)) 0 ks ()
def jg (x:Tx):Int:=if decide (8 < List.length x.2.2.1)||decide (12 < List.length x.2.2.2.1) then 2 else if uq (List.length x.2.1:Int) 0 x.2.2.1 then kq x.2.2.2.1 else 3
def qK (x:Tx):Int:=jI (kD x.2.2.2.1) x.2.1
theorem BN (n:Int) (E:Option (Int×Unit)):∀ (ms:List Int) (i:Nat) (last:Int),aW (λ_ last m=>if bK m last n then .inr m else .inl (some ((3:Int),()))) (λ_=>E) i ms last=if aW (λ_ last m=>if bK m last n then .inr m else .inl false) (λ_=>true) i ms last then E else some ((3:Int),())
 | [],_,_=>rfl
 | m::ms,i,last=>by
  simp only[aW]
  by_cases hb:bK m last n=true
  ·simp only[hb,if_true];exact BN n E ms _ _
  ·simp[hb]
theorem CN (x:Tx) (h:tl x):ez.ab (x,())=some (qK x,()):=by
 obtain ⟨h1,Y,h3,h4⟩:=h
 refine ah (k:=List.length x.2.1+1) λk hk=>(ez.ae k _).trans ?_
 have:=bJ (B:=λself v=>ez.B0 0 self (λz=>ez.Q0 0 (x,()) z) (x,()) v) x.2.1 (λ(_:Unit) (i:Int)=>i) (λ_ _ c=>if kD x.2.2.2.1 c=0 then .inr () else .inl (kD x.2.2.2.1 c,())) (λ_=>(0,())) (λ_ _=>True) (by rw[al];omega)
  (λi hi s self _=>by
   show ez.b0 _ _ _ _=_
   unfold ez.b0
   have aB:(i:Int) < (List.length x.2.1:Int):=by omega
   simp only[aB,decide_true,cond_true,Int.natCast_nonneg,if_true,Int.toNat_natCast,List.getElem?_eq_getElem hi,Option.bind_some,yP _ (h4 _ (List.getElem_mem hi)),uo]
   grind [wu,al,kD])
  (λ_ _ _ _ _ _=>trivial) (λs self _=>by
   show ez.b0 _ _ _ _=_
   unfold ez.b0
   simp only[Int.lt_irrefl,decide_false,cond_false]
   rfl) () trivial k (by omega)
 rw[xA (kD x.2.2.2.1) (λc=>(c,())) (λ_=>((0:Int),()))] at this
 refine Eq.trans this ?_
 grind [qK]
theorem IN {m last n:Int} (h:0<=last):(bK m 0 n&&decide (last<=m))=bK m last n:=by
 grind [bK]
theorem BO (x:Tx) (h:tl x):a9.ab (x,())=some (jg x,()):=by
 obtain ⟨h1,Y,h3,h4⟩:=h
 refine ah (k:=20) λk hk=>(a9.ae k _).trans ?_
 unfold a9.p jg
 by_cases hm:8 < List.length x.2.2.1
 ·grind
 have Sb:¬ (8:Int) < (List.length x.2.2.1:Int):=by omega
 by_cases ff:12 < List.length x.2.2.2.1
 ·grind
 have Dt:¬ (12:Int) < (List.length x.2.2.2.1:Int):=by omega
 simp only[hm,Sb,Dt,ff,decide_false,cond_false,Bool.or_self,Bool.false_eq_true,if_false]
 have second:a9.r1 k (x,()) (x,(0:Int))=some (kq x.2.2.2.1,()):=by
  have inner:∀ (self:(Tx×Int)->Option a9.Out) (e2:Unit->Option a9.Out) (i:Nat) (hi:i < List.length x.2.2.2.1),a9.r2 k self e2 (x,()) x (i:Int) (0:Int)=if cq (x.2.2.2.1.take i) (x.2.2.2.1)[i] then some ((6:Int),()) else self (x,ai ((i:Int)+1)):=λself e2 i hi=>by
   have dZ:(x.2.2.2.1.take i).length=i:=by simp;omega
   have:=dI (B:=λe9 v=>a9.B2 k e9 (λz=>a9.Q1 k self e2 (x,()) x (i:Int) z) (x,()) x (i:Int) v) (x.2.2.2.1.take i) (λ(_:Unit) (j:Int)=>j) (λ_ _ y=>if decide (y=(x.2.2.2.1)[i]) then .inl (some ((6:Int),())) else .inr ()) (λ_=>self (x,ai ((i:Int)+1))) (λ_ _=>True) (by rw[al];omega)
    (λj hj s e9 _=>by
     grind [a9.b2,nX])
    (λ_ _ _ _ _ _=>trivial) (λs e9 _=>by
     show a9.b2 _ _ _ _ _ _=_
     unfold a9.b2
     simp only[dZ,Int.lt_irrefl,decide_false,cond_false]
     rfl) () trivial k (by omega)
   rw[jq] at this
   exact this
  have:=bJ (B:=λself v=>a9.B1 k self (λz=>a9.Q2 k (x,()) z) (x,()) v) x.2.2.2.1 (λ(_:Unit) (i:Int)=>(x,i)) (λi _ y=>if gy x.2.2.2.1 i y=0 then .inr () else .inl (gy x.2.2.2.1 i y,())) (λ_=>(0,())) (λ_ _=>True) (by rw[al];omega)
   (λi hi s self _=>by
    show a9.b1 _ _ _ _ _=_
    grind [a9.b1,gy,Int.toNat_natCast,CM])
   (λ_ _ _ _ _ _=>trivial) (λs self _=>by
    show a9.b1 _ _ _ _ _=_
    unfold a9.b1
    simp only[Int.lt_irrefl,decide_false,cond_false]
    rfl) () trivial k (by omega)
  refine Eq.trans this ?_
  unfold kq
  generalize Kn:x.2.2.2.1=ks
  have gen:∀ (f:Nat->Key->Int) (ys:List Key) (i:Nat),aW (λi (_:Unit) y=>if f i y=0 then .inr () else .inl (f i y,())) (λ_=>((0:Int),())) i ys ()=(aW (λi (_:Unit) y=>if f i y=0 then .inr () else .inl (f i y)) (λ_=>(0:Int)) i ys (),()):=by
   intro f ys
   induction ys <;> grind [aW]
  simp_all
 have:=dI (B:=λself v=>a9.B0 k self (λz=>a9.Q0 k (x,()) z) (x,()) v) x.2.2.1 (λ(_:Int) (i:Int)=>i) (λi last m=>if bK m last (List.length x.2.1:Int) then .inr m else .inl (some ((3:Int),()))) (λ_=>some (kq x.2.2.2.1,()))
  (λi last=>0<=last/\(i=0->last=0)/\∀ y,0 < i->x.2.2.1[i - 1]?=some y->last=y) (by rw[al];omega)
  (λi hi last self hI=>by
   obtain ⟨i1,i2,i3⟩:=hI
   show a9.b0 _ _ _ _=_
   unfold a9.b0
   have aB:(i:Int) < (List.length x.2.2.1:Int):=by omega
   simp only[aB,decide_true,cond_true,Int.natCast_nonneg,if_true,Int.toNat_natCast,List.getElem?_eq_getElem hi,Option.bind_some,jc]
   generalize DA:(x.2.2.1)[i]=m
   rw[<-IN i1]
   show (bif !bK m 0 (List.length x.2.1:Int) then _ else _)=_
   cases F7:bK m 0 (List.length x.2.1:Int) with
   | false=>rfl
   | true=>
    have Pc:0<=m:=by
     grind [bK]
    simp only[Bool.not_true,cond_false,Bool.true_and]
    by_cases h0:i=0
    ·grind
    ·have Ko:i - 1 < List.length x.2.2.1:=by omega
     have hl:=i3 (x.2.2.1)[i - 1] (by omega) (List.getElem?_eq_getElem Ko)
     have hp:(0:Int) < (i:Int):=by omega
     simp only[hp,decide_true,cond_true,xL (show 0 < i by omega) (by rw[al];omega),Int.natCast_nonneg,if_true,Int.toNat_natCast,List.getElem?_eq_getElem Ko,Option.bind_some]
     grind)
  (λi hi last SI hI hs=>by
   grind [bK])
  (λlast self hI=>by
   show a9.b0 _ _ _ _=_
   unfold a9.b0
   simp only[Int.lt_irrefl,decide_false,cond_false]
   exact second) 0 ⟨Int.le_refl _,λ_=>rfl,λ_ h=>by omega⟩ k (by omega)
 refine Eq.trans this ?_
 unfold uq
 rw[BN]
 grind
end OT
set_option linter.unusedVariables false
set_option linter.unusedSimpArgs false
namespace OT
open Go
def jx (x:Tx):Int:=if qK x=0 then jg x else qK x
theorem zH {α:Type} (c:Nat->α->Int):∀ (xs:List α) (i:Nat),aW (λi (_:Unit) y=>if c i y=0 then .inr () else .inl (c i y,())) (λ_=>((0:Int),())) i xs ()=(aW (λi (_:Unit) y=>if c i y=0 then .inr () else .inl (c i y)) (λ_=>(0:Int)) i xs (),())
 | [],_=>rfl
 | y::ys,i=>by simp only[aW];by_cases h0:c i y=0 <;> simp[h0,zH c ys (i+1)]
theorem pj {α:Type} (c:Nat->α->Int) (E:Option (Int×Unit)):∀ (xs:List α) (i:Nat),aW (λi (_:Unit) y=>if c i y=0 then .inr () else .inl (some (c i y,()))) (λ_=>E) i xs () =
  if aW (λi (_:Unit) y=>if c i y=0 then .inr () else .inl (c i y)) (λ_=>(0:Int)) i xs ()=0 then E else some (aW (λi (_:Unit) y=>if c i y=0 then .inr () else .inl (c i y)) (λ_=>(0:Int)) i xs (),())
 | [],_=>rfl
 | y::ys,i=>by simp only[aW];by_cases h0:c i y=0 <;> simp[h0,pj c E ys (i+1)]
theorem vI {α:Type} (c:α->Int):∀ (xs:List α) (i:Nat),aW (λ_ (_:Unit) y=>if c y=0 then .inr () else .inl (c y)) (λ_=>(0:Int)) i xs ()=jI c xs
 | [],_=>rfl
 | y::ys,i=>by simp only[aW,jI];by_cases h0:c y=0 <;> simp[h0,vI c ys (i+1)]
theorem EY (x:Tx) (h:tl x):bq.ab (x,())=some (jx x,()):=by
 obtain ⟨h1,Y,h3,h4⟩:=h
 refine ah (k:=1048577) λk hk=>(bq.ae k _).trans ?_
 have EZ:List.length x.2.2.2.1<=12->bq.r2 k (x,()) (0:Int)=some (kq x.2.2.2.1,()):=λhl=>by
  have:=bJ (B:=λself v=>bq.B2 k self (λz=>bq.Q2 k (x,()) z) (x,()) v) x.2.2.2.1 (λ(_:Unit) (i:Int)=>i) (λi _ y=>if gy x.2.2.2.1 i y=0 then .inr () else .inl (gy x.2.2.2.1 i y,())) (λ_=>(0,())) (λ_ _=>True) (by rw[al];omega)
   (λi hi s self _=>by
    grind [bq.b2,gy,IM,contains_eq,al])
   (λ_ _ _ _ _ _=>trivial) (λs self _=>by
    show bq.b2 _ _ _ _=_
    unfold bq.b2
    simp only[Int.lt_irrefl,decide_false,cond_false]
    rfl) () trivial k (by omega)
  rw[zH (gy x.2.2.2.1)] at this
  exact this
 have second:List.length x.2.2.1<=8->List.length x.2.2.2.1<=12->bq.r1 k (x,()) ((0:Int),(0:Int))=some (if uq (List.length x.2.1:Int) 0 x.2.2.1 then kq x.2.2.2.1 else 3,()):=λhm hl=>by
  have:=dI (B:=λself v=>bq.B1 k self (λz=>bq.Q1 k (x,()) z) (x,()) v) x.2.2.1 (λ(last:Int) (i:Int)=>(last,i)) (λ_ last m=>if bK m last (List.length x.2.1:Int) then .inr m else .inl (some ((3:Int),()))) (λ_=>some (kq x.2.2.2.1,())) (λ_ _=>True) (by rw[al];omega)
   (λi hi last self _=>by
    grind [bq.b1,kW,bK])
   (λ_ _ _ _ _ _=>trivial) (λlast self _=>by
    show bq.b1 _ _ _ _=_
    unfold bq.b1
    simp only[Int.lt_irrefl,decide_false,cond_false]
    exact EZ hl) 0 trivial k (by omega)
  rw[BN] at this
  refine Eq.trans this ?_
  grind [uq]
 have after:bq.Q0 k (x,()) ()=some (jg x,()):=by
  show bq.q0 _ _ _=_
  grind [bq.q0,jg]
 have:=dI (B:=λself v=>bq.B0 k self (λz=>bq.Q0 k (x,()) z) (x,()) v) x.2.1 (λ(_:Unit) (i:Int)=>i) (λ_ _ c=>if kD x.2.2.2.1 c=0 then .inr () else .inl (some (kD x.2.2.2.1 c,()))) (λ_=>some (jg x,())) (λ_ _=>True) (by rw[al];omega)
  (λi hi s self _=>by
   show bq.b0 _ _ _ _=_
   unfold bq.b0
   have aB:(i:Int) < (List.length x.2.1:Int):=by omega
   simp only[aB,decide_true,cond_true,Int.natCast_nonneg,if_true,Int.toNat_natCast,List.getElem?_eq_getElem hi,Option.bind_some,zE _ (h4 _ (List.getElem_mem hi)),yQ]
   grind [contains_eq,al,kD])
  (λ_ _ _ _ _ _=>trivial) (λs self _=>by
   grind [bq.b0]) () trivial k (by omega)
 rw[pj (λ_=>kD x.2.2.2.1),vI] at this
 refine Eq.trans this ?_
 grind [jx,qK]
def fJ (xs:List Tx) (k:Key):Int:=match xs with
 | []=>0
 | x::xs=>if cq x.2.2.2.1 k then x.1 else fJ xs k
def gv (xs:List Tx):Prop:=xs.length<=1048576/\∀ x ∈ xs,tl x
theorem ur (k:Key):∀ (xs:List Tx) (i:Nat),aW (λ_ (_:Unit) x=>if cq x.2.2.2.1 k then .inl (x.1,()) else .inr ()) (λ_=>((0:Int),())) i xs ()=(fJ xs k,())
 | [],_=>rfl
 | x::xs,i=>by simp only[aW,fJ];cases cq x.2.2.2.1 k <;> simp[ur k xs (i+1)]
theorem BP {x:Tx} (h:tl x):List.length x.2.2.2.1<=maxLen:=by rw[al];have:=h.2.2.1;omega
theorem CO (xs:List Tx) (k0:Key) (h:gv xs):eR.ab (xs,k0,())=some (fJ xs k0,()):=by
 obtain ⟨h1,Y⟩:=h
 refine ah (k:=xs.length+1) λk hk=>(eR.ae k _).trans ?_
 have:=bJ (B:=λself v=>eR.B0 0 self (λz=>eR.Q0 0 (xs,k0,()) z) (xs,k0,()) v) xs (λ(_:Unit) (i:Int)=>i) (λ_ _ x=>if cq x.2.2.2.1 k0 then .inl (x.1,()) else .inr ()) (λ_=>(0,())) (λ_ _=>True) (by rw[al];omega)
  (λi hi s self _=>by
   grind [eR.b0,wu,BP])
  (λ_ _ _ _ _ _=>trivial) (λs self _=>by
   show eR.b0 _ _ _ _=_
   unfold eR.b0
   simp only[Int.lt_irrefl,decide_false,cond_false]
   rfl) () trivial k (by omega)
 rw[ur] at this
 exact this
def fb (xs:List Tx):Int:=xs.foldl (λn x=>n+(List.length x.2.1:Int)) 0
theorem ut (xs:List Tx) (h:gv xs):cQ.ab (xs,())=some (fb xs,()):=by
 obtain ⟨h1,Y⟩:=h
 refine ah (k:=xs.length+1) λk hk=>(cQ.ae k _).trans ?_
 have:=bJ (B:=λself v=>cQ.B0 0 self (λz=>cQ.Q0 0 (xs,()) z) (xs,()) v) xs (λ(n:Int) (i:Int)=>(n,i)) (λ_ n x=>.inr (n+(List.length x.2.1:Int))) (λn=>(n,())) (λi n=>0<=n/\n<=1048576*(i:Int)) (by rw[al];omega)
  (λi hi n self hI=>by
   show cQ.b0 _ _ _ _=_
   unfold cQ.b0
   have aB:(i:Int) < (xs.length:Int):=by omega
   have hx:=(Y _ (List.getElem_mem hi)).1
   grind [bQ])
  (λi hi n n' hI hs=>by
   injection hs with hs
   have hx:=(Y _ (List.getElem_mem hi)).1
   omega) (λs self _=>by
   show cQ.b0 _ _ _ _=_
   unfold cQ.b0
   simp only[Int.lt_irrefl,decide_false,cond_false]
   rfl) 0 (by omega) k (by omega)
 rw[gM] at this
 exact this
theorem qh (xs:List Tx) (h:gv xs):cF.ab (xs,())=some (fb xs,()):=by
 obtain ⟨h1,Y⟩:=h
 refine ah (k:=xs.length+1) λk hk=>(cF.ae k _).trans ?_
 have:=bJ (B:=λself v=>cF.B0 0 self (λz=>cF.Q0 0 (xs,()) z) (xs,()) v) xs (λ(n:Int) (i:Int)=>(n,i)) (λ_ n x=>.inr (n+(List.length x.2.1:Int))) (λn=>(n,())) (λi n=>0<=n/\n<=1048576*(i:Int)) (by rw[al];omega)
  (λi hi n self hI=>by
   show cF.b0 _ _ _ _=_
   unfold cF.b0
   have aB:(i:Int) < (xs.length:Int):=by omega
   have hx:=(Y _ (List.getElem_mem hi)).1
   grind [bQ])
  (λi hi n n' hI hs=>by
   injection hs with hs
   have hx:=(Y _ (List.getElem_mem hi)).1
   omega) (λs self _=>by
   show cF.b0 _ _ _ _=_
   unfold cF.b0
   simp only[Int.lt_irrefl,decide_false,cond_false]
   rfl) 0 (by omega) k (by omega)
 rw[gM] at this
 exact this
def iR (xs:List Tx) (i:Nat) (x:Tx):Int:=if bK x.1 1 99 then (if 0 < i then (match xs[i - 1]? with
    | some y=>if x.1<=y.1 then 1 else jx x
    | none=>1) else jx x) else 3
def nY (xs:List Tx):Int:=aW (λi (_:Unit) x=>if iR xs i x=0 then .inr () else .inl (iR xs i x)) (λ_=>(0:Int)) 0 xs ()
def flatK (xs:List Tx):List Key:=xs.flatMap λx=>x.2.2.2.1
def qi (xs:List Tx):Bool:=decide (flatK xs).Nodup
def dQ (xs:List Tx):Int:=if 4 < xs.length then 2 else if nY xs=0 then (if qi xs then (if 12 < fb xs then 2 else 0) else 7) else nY xs
theorem mf (xs:List Tx) (h:nY xs=0):∀ i (hi:i < xs.length),iR xs i xs[i]=0:=by
 have main:∀ (ys:List Tx) (j:Nat),(aW (λi (_:Unit) x=>if iR xs i x=0 then .inr () else .inl (iR xs i x)) (λ_=>(0:Int)) j ys ())=0->∀ i (hi:i < ys.length),iR xs (j+i) ys[i]=0:=by
  intro ys
  induction ys with
  | nil=>grind
  | cons y ys ih=>
   intro j hf i hi
   simp only[aW] at hf
   by_cases h0:iR xs j y=0
   ·rw[if_pos h0] at hf
    cases i with
    | zero=>simpa using h0
    | succ i=>
     have:=ih (j+1) hf i (by simpa using hi)
     grind
   grind
 intro i hi
 have:=main xs 0 h i hi
 grind
theorem qj {xs:List Tx} {i:Nat} {x:Tx} (h:iR xs i x=0):1<=x.1/\jx x=0/\∀ y,0 < i->xs[i - 1]?=some y->y.1 < x.1:=by
 grind [iR,bK]
theorem Hd {xs:List Tx} (h:nY xs=0):xs.Pairwise λx y=>x.1 < y.1:=by
 rw[List.pairwise_iff_getElem]
 intro i j hi hj gB
 have key:∀ d (hd:i+d+1 < xs.length),(xs[i]).1 < (xs[i+d+1]).1:=by
  intro d
  induction d with
  | zero=>
   intro hd
   exact (qj (mf xs h (i+1) hd)).2.2 xs[i] (by omega) (by simp[hi])
  | succ d ih=>
   intro hd
   have h1:=ih (by omega)
   have Y:=(qj (mf xs h (i+d+1+1) hd)).2.2 xs[i+d+1] (by omega) (by grind)
   grind
 have:=key (j - i - 1) (by omega)
 grind
theorem CP {ks:List Key} (h:kq ks=0):ks.Nodup:=by
 have main:∀ (ys:List Key) (j:Nat),(aW (λi (_:Unit) k=>if gy ks i k=0 then .inr () else .inl (gy ks i k)) (λ_=>(0:Int)) j ys ())=0->∀ i (hi:i < ys.length),gy ks (j+i) ys[i]=0:=by
  intro ys
  induction ys with
  | nil=>grind
  | cons y ys ih=>
   intro j hf i hi
   simp only[aW] at hf
   by_cases h0:gy ks j y=0
   ·rw[if_pos h0] at hf
    cases i with
    | zero=>simpa using h0
    | succ i=>
     have:=ih (j+1) hf i (by simpa using hi)
     grind
   grind
 rw[List.nodup_iff_pairwise_ne,List.pairwise_iff_getElem]
 intro i j hi hj gB e
 have h1:=main ks 0 h j hj
 rw[Nat.zero_add] at h1
 unfold gy at h1
 split at h1
 ·split at h1
  ·cases h1
  ·rename_i hn
   refine hn (eY.2 ?_)
   rw[<-e]
   exact List.mem_take_iff_getElem.2 ⟨i,by omega,rfl⟩
 ·cases h1
theorem IP {x:Tx} (h:jx x=0):(x.2.2.2.1:List Key).Nodup:=by
 grind [jx,jg,CP]
end OT
set_option linter.unusedVariables false
set_option linter.unusedSimpArgs false
namespace OT
open Go
def rQ (xs:List Tx):Bool:=xs.all λx=>x.2.2.2.1.all λk=>decide (fJ xs k=x.1)
theorem IQ {xs:List Tx} (hr:xs.Pairwise λx y=>x.1 < y.1) (hn:∀ x ∈ xs,(x.2.2.2.1:List Key).Nodup):rQ xs=qi xs:=by
 have main:∀ (xs:List Tx),(xs.Pairwise λx y=>x.1 < y.1)->(∀ x ∈ xs,(x.2.2.2.1:List Key).Nodup)->((∀ x ∈ xs,∀ k ∈ (x.2.2.2.1:List Key),fJ xs k=x.1)↔(flatK xs).Nodup):=by
  intro xs
  induction xs with
  | nil=>grind [flatK]
  | cons x xs ih=>
   intro hr hn
   obtain ⟨h1,Y⟩:=List.pairwise_cons.1 hr
   have ih:=ih Y (λy hy=>hn y (by simp[hy]))
   have rJ:flatK (x::xs)=x.2.2.2.1++flatK xs:=by simp[flatK]
   rw[rJ,List.nodup_append]
   constructor
   ·intro iP
    have hd:∀ y ∈ xs,∀ k ∈ (y.2.2.2.1:List Key),k ∉ (x.2.2.2.1:List Key):=λy hy k hk hx=>by
     grind
    refine ⟨hn x (by simp),ih.1 λy hy k hk=>?_,λa ha b hb e=>?_⟩
    ·grind [fJ]
    ·subst e
     obtain ⟨y,hy,hk⟩:=List.mem_flatMap.1 hb
     grind
   ·rintro ⟨g1,g2,g3⟩ y hy k hk
    grind [fJ,flatK,cq]
 have hm:=main xs hr hn
 unfold rQ qi
 rw[Bool.eq_iff_iff]
 simp_all
theorem BQ (xs:List Tx) (h:gv xs):bG.ab (xs,())=some (rQ xs,()):=by
 have ht:=h
 obtain ⟨h1,Y⟩:=h
 refine ah (k:=1048577) λk hk=>(bG.ae k _).trans ?_
 have inner:∀ (self:((List Tx)×Int)->Option bG.Out) (e0:Unit->Option bG.Out) (i:Nat) (hi:i < xs.length),bG.r1 k self e0 (xs,()) xs (i:Int) (0:Int)=if (xs[i]).2.2.2.1.any (λy=>!decide (fJ xs y=(xs[i]).1)) then some (false,()) else self (xs,ai ((i:Int)+1)):=λself e0 i hi=>by
  have Kp:=Y _ (List.getElem_mem hi)
  have xO:=Kp.2.2.1
  have:=dI (B:=λe9 v=>bG.B1 k e9 (λz=>bG.Q0 k self e0 (xs,()) xs (i:Int) z) (xs,()) xs (i:Int) v) (xs[i]).2.2.2.1 (λ(_:Unit) (j:Int)=>j) (λ_ _ y=>if !decide (fJ xs y=(xs[i]).1) then .inl (some (false,())) else .inr ()) (λ_=>self (xs,ai ((i:Int)+1))) (λ_ _=>True) (by rw[al];omega)
   (λj hj s e9 _=>by
    show bG.b1 _ _ _ _ _ _=_
    unfold bG.b1
    grind [CO])
   (λ_ _ _ _ _ _=>trivial) (λs e9 _=>by
    show bG.b1 _ _ _ _ _ _=_
    unfold bG.b1
    simp only[Int.natCast_nonneg,if_true,Int.toNat_natCast,List.getElem?_eq_getElem hi,Option.bind_some,Int.lt_irrefl,decide_false,cond_false]
    rfl) () trivial k (by omega)
  rw[jq] at this
  exact this
 have:=bJ (B:=λself v=>bG.B0 k self (λz=>bG.Q1 k (xs,()) z) (xs,()) v) xs (λ(_:Unit) (i:Int)=>(xs,i)) (λ_ _ x=>if x.2.2.2.1.all (λy=>decide (fJ xs y=x.1)) then .inr () else .inl (false,())) (λ_=>(true,())) (λ_ _=>True) (by rw[al];omega)
  (λi hi s self _=>by
   show bG.b0 _ _ _ _ _=_
   grind [bG.b0])
  (λ_ _ _ _ _ _=>trivial) (λs self _=>by
   show bG.b0 _ _ _ _ _=_
   unfold bG.b0
   simp only[Int.lt_irrefl,decide_false,cond_false]
   rfl) () trivial k (by omega)
 rw[o6 (λ(x:Tx)=>x.2.2.2.1.all (λy=>decide (fJ xs y=x.1))) (false,()) (λ_=>(true,()))] at this
 refine Eq.trans this ?_
 grind [rQ]
def cU (S:List Key):List (Key×Bool):=S.map λk=>(k,true)
theorem CQ {α:Type} (k:Ty) (e:k.den×α) (m:List (k.den×α)) (x:k.den):gi k (e::m) x=if k.eq x e.1 then some e.2 else gi k m x:=by
 grind [gi]
theorem E0 {α:Type} (k:Ty) (m:List (k.den×α)) (x:k.den) (y:α) (h:∀ e ∈ m,k.eq x e.1=false):gj k m x y=m++[(x,y)]:=by
 grind [gj]
theorem vJ (S:List Key) (k:Key):gi aF (cU S) k=if cq S k then some true else none:=by
 induction S with
 | nil=>rfl
 | cons s S ih=>
  refine (CQ aF (s,true) (cU S) k).trans ?_
  grind [nX,cq]
theorem IR (S:List Key) (k:Key):AD (gi aF (cU S) k) false=cq S k:=by
 grind [AD,vJ]
theorem BR {S:List Key} {k:Key} (h:cq S k=false):gj aF (cU S) k true=cU (S++[k]):=by
 refine (E0 aF (cU S) k true λe he=>?_).trans ?_
 ·obtain ⟨s,hs,rfl⟩:=List.mem_map.1 he
  grind [nX,cq]
 ·simp only[cU,List.map_append,List.map_cons,List.map_nil]
  rfl
def getM (m:List (Key×Bool)) (k:Key):Bool:=AD (gi aF m k) false
def jr (m:List (Key×Bool)) (k:Key):List (Key×Bool):=gj aF m k true
def j9:List (Key×Bool)->List Key->Option (List (Key×Bool))
 | m,[]=>some m
 | m,k::ks=>if getM m k then none else j9 (jr m k) ks
theorem vK:∀ (m:List (Key×Bool)) (a b:List Key),j9 m (a++b)=(j9 m a).bind λm'=>j9 m' b
 | m,[],b=>rfl
 | m,k::a,b=>by
  simp only[List.cons_append,j9]
  split
  ·rfl
  ·exact vK _ a b
theorem zI:∀ (ks S:List Key),S.Nodup->j9 (cU S) ks=if (S++ks).Nodup then some (cU (S++ks)) else none
 | [],S,h=>by simp[j9,h]
 | k::ks,S,h=>by
  have hg:getM (cU S) k=cq S k:=IR S k
  simp only[j9,hg]
  cases hh:cq S k with
  | true=>
   have:¬ (S++k::ks).Nodup:=λhn=>by
    rw[List.nodup_append] at hn
    exact hn.2.2 k (eY.1 hh) k (by simp) rfl
   simp[this]
  | false=>
   have hk:k ∉ S:=λhm=>by rw[eY.2 hm] at hh;cases hh
   simp only[Bool.false_eq_true,if_false]
   have hp:jr (cU S) k=cU (S++[k]):=BR hh
   rw[hp,zI ks (S++[k]) (by grind)]
   grind
theorem zJ {O:Type} (bad:Option O) (E:List (Key×Bool)->Option O):∀ (ks:List Key) (i:Nat) (m:List (Key×Bool)),aW (λ_ m k=>if getM m k then .inl bad else .inr (jr m k)) E i ks m=match j9 m ks with | none=>bad | some m'=>E m'
 | [],_,_=>rfl
 | k::ks,i,m=>by
  simp only[aW,j9]
  by_cases h:getM m k=true
  ·simp[h]
  ·simp only[h,if_false]
   exact zJ bad E ks _ _
theorem xP {O:Type} (bad:Option O) (E:Option O):∀ (xs:List Tx) (i:Nat) (m:List (Key×Bool)),aW (λ_ m x=>match j9 m x.2.2.2.1 with | none=>.inl bad | some m'=>.inr m') (λ_=>E) i xs m=match j9 m (flatK xs) with | none=>bad | some _=>E
 | [],_,_=>rfl
 | x::xs,i,m=>by
  have rJ:flatK (x::xs)=x.2.2.2.1++flatK xs:=by simp[flatK]
  rw[rJ,vK]
  simp only[aW]
  cases h:j9 m x.2.2.2.1 with
  | none=>rfl
  | some m'=>
   simp only[Option.bind_some]
   exact xP bad E xs _ _
theorem sS (xs:List Tx) (h:gv xs):aL.ab (xs,())=some (dQ xs,()):=by
 have ht:=h
 obtain ⟨h1,Y⟩:=h
 refine ah (k:=1048577) λk hk=>(aL.ae k _).trans ?_
 unfold aL.p dQ
 by_cases h4:4 < xs.length
 ·grind
 have M_:¬ (4:Int) < (xs.length:Int):=by omega
 simp only[h4,M_,decide_false,cond_false,if_false]
 have last:aL.Q2 k (xs,()) xs=some (if 12 < fb xs then 2 else 0,()):=by
  grind [aL.q2,qh]
 have inner:∀ (self:((List Tx)×(List (Key×Bool))×(List Tx)×Int×Int)->Option aL.Out) (e2:List Tx->Option aL.Out) (i:Nat) (hi:i < xs.length) (m:List (Key×Bool)),aL.r2 k self e2 (xs,()) xs xs (xs.length:Int) (i:Int) (xs[i]).2.2.2.1 (List.length (xs[i]).2.2.2.1:Int) (m,(0:Int))=match j9 m (xs[i]).2.2.2.1 with | none=>some ((7:Int),()) | some m'=>self (xs,m',xs,(xs.length:Int),ai ((i:Int)+1)):=λself e2 i hi m=>by
  have xO:=(Y _ (List.getElem_mem hi)).2.2.1
  have:=dI (B:=λe9 v=>aL.B2 k e9 (λz=>aL.Q1 k self e2 (xs,()) xs xs (xs.length:Int) (i:Int) (xs[i]).2.2.2.1 (List.length (xs[i]).2.2.2.1:Int) z) (xs,()) xs xs (xs.length:Int) (i:Int) (xs[i]).2.2.2.1 (List.length (xs[i]).2.2.2.1:Int) v) (xs[i]).2.2.2.1 (λ(m:List (Key×Bool)) (j:Int)=>(m,j)) (λ_ m y=>if getM m y then .inl (some ((7:Int),())) else .inr (jr m y)) (λm=>self (xs,m,xs,(xs.length:Int),ai ((i:Int)+1))) (λ_ _=>True) (by rw[al];omega)
   (λj hj s e9 _=>by
    grind [aL.b2,getM,jr])
   (λ_ _ _ _ _ _=>trivial) (λs e9 _=>by
    show aL.b2 _ _ _ _ _ _ _ _ _ _=_
    unfold aL.b2
    simp only[Int.lt_irrefl,decide_false,cond_false]
    rfl) m trivial k (by omega)
  rw[zJ] at this
  exact this
 have apart:aL.Q0 k (xs,()) ()=some (if qi xs then (if 12 < fb xs then 2 else 0) else 7,()):=by
  have:=dI (B:=λself v=>aL.B1 k self (λz=>aL.Q2 k (xs,()) z) (xs,()) v) xs (λ(m:List (Key×Bool)) (i:Int)=>(xs,m,xs,(xs.length:Int),i)) (λ_ m x=>match j9 m x.2.2.2.1 with | none=>.inl (some ((7:Int),())) | some m'=>.inr m') (λ_=>some (if 12 < fb xs then 2 else 0,())) (λ_ _=>True) (by rw[al];omega)
   (λi hi m self _=>by
    show aL.b1 _ _ _ _ _=_
    grind [aL.b1])
   (λ_ _ _ _ _ _=>trivial) (λs self _=>by
    show aL.b1 _ _ _ _ _=_
    grind [aL.b1]) (cU []) trivial k (by omega)
  rw[xP,zI _ _ List.nodup_nil] at this
  refine Eq.trans this ?_
  grind [qi]
 have:=dI (B:=λself v=>aL.B0 k self (λz=>aL.Q0 k (xs,()) z) (xs,()) v) xs (λ(_:Unit) (i:Int)=>i) (λi _ x=>if iR xs i x=0 then .inr () else .inl (some (iR xs i x,()))) (λ_=>some (if qi xs then (if 12 < fb xs then 2 else 0) else 7,())) (λ_ _=>True) (by rw[al];omega)
  (λi hi s self _=>by
   show aL.b0 _ _ _ _=_
   unfold aL.b0 iR
   have aB:(i:Int) < (xs.length:Int):=by omega
   simp only[aB,decide_true,cond_true,Int.natCast_nonneg,if_true,Int.toNat_natCast,List.getElem?_eq_getElem hi,Option.bind_some,DE,EY _ (Y _ (List.getElem_mem hi))]
   grind [bK,xL,al,Int.toNat_natCast])
  (λ_ _ _ _ _ _=>trivial) (λs self _=>by
   grind [aL.b0]) () trivial k (by omega)
 rw[pj (iR xs)] at this
 refine Eq.trans this ?_
 grind [nY]
theorem xQ (xs:List Tx) (h:gv xs):co.ab (xs,())=some (dQ xs,()):=by
 have ht:=h
 obtain ⟨h1,Y⟩:=h
 refine ah (k:=1048577) λk hk=>(co.ae k _).trans ?_
 unfold co.p dQ
 by_cases h4:4 < xs.length
 ·grind
 have M_:¬ (4:Int) < (xs.length:Int):=by omega
 simp only[h4,M_,decide_false,cond_false,if_false]
 have last:co.Q0 k (xs,()) ()=some (if rQ xs then (if 12 < fb xs then 2 else 0) else 7,()):=by
  grind [co.q0,BQ,ut]
 have:=dI (B:=λself v=>co.B0 k self (λz=>co.Q0 k (xs,()) z) (xs,()) v) xs (λ(_:Unit) (i:Int)=>i) (λi _ x=>if iR xs i x=0 then .inr () else .inl (some (iR xs i x,()))) (λ_=>some (if rQ xs then (if 12 < fb xs then 2 else 0) else 7,())) (λ_ _=>True) (by rw[al];omega)
  (λi hi s self _=>by
   show co.b0 _ _ _ _=_
   unfold co.b0 iR
   have aB:(i:Int) < (xs.length:Int):=by omega
   simp only[aB,decide_true,cond_true,Int.natCast_nonneg,if_true,Int.toNat_natCast,List.getElem?_eq_getElem hi,Option.bind_some,jc,CN _ (Y _ (List.getElem_mem hi)),BO _ (Y _ (List.getElem_mem hi))]
   have hj:(bif !decide (qK xs[i]=0) then some (qK xs[i],()) else bif !decide (jg xs[i]=0) then some (jg xs[i],()) else self (ai ((i:Int)+1)))=match (generalizing:=false) (if jx xs[i]=0 then .inr () else .inl (some (jx xs[i],())):Sum (Option (Int×Unit)) Unit) with | .inl o=>o | .inr _=>self (ai ((i:Int)+1)):=by
    grind [jx]
   grind [bK,xL,al,Int.toNat_natCast])
  (λ_ _ _ _ _ _=>trivial) (λs self _=>by
   grind [co.b0]) () trivial k (by omega)
 rw[pj (iR xs)] at this
 refine Eq.trans this ?_
 show (if nY xs=0 then _ else some (nY xs,()))=_
 by_cases he:nY xs=0
 ·rw[if_pos he,if_pos he,IQ (Hd he) (λx hx=>by
   obtain ⟨i,hi,rfl⟩:=List.mem_iff_getElem.1 hx
   exact IP (qj (mf xs he i hi)).2.1)]
 grind
end OT
set_option linter.unusedVariables false
set_option linter.unusedSimpArgs false
namespace OT
open Go
def dd (S:List Key) (ks:List Key):List Key:=ks.foldl (λS k=>if cq S k then S else S++[k]) S
def iG (rows:List Row):List Key:=rows.map λr=>(r.1,r.2.1,())
def ef (rows:List Row) (xs:List Tx):List Key:=iG rows++flatK xs
theorem CR {α:Type} (k:Ty) (m:List (k.den×α)) (x:k.den) (y:α) {i:Nat} (h:m.findIdx? (λe=>k.eq x e.1)=some i):gj k m x y=m.set i (x,y):=by
 grind [gj]
theorem He {S:List Key} {k:Key} (h:cq S k=true):jr (cU S) k=cU S:=by
 have key:∀ (S:List Key) (i:Nat),(cU S).findIdx? (λe=>Ty.eq aF k e.1)=some i->(cU S)[i]?=some (k,true):=by
  intro S i hi
  have h1:=List.findIdx?_eq_some_iff_findIdx_eq.1 hi
  grind [cU,nX]
 show gj aF (cU S) k true=cU S
 cases hf:(cU S).findIdx? (λe=>Ty.eq aF k e.1) with
 | none=>
  exfalso
  have h1:gi aF (cU S) k=none:=by
   unfold gi
   have Y:=List.findIdx?_eq_none_iff.1 hf
   have:(cU S).find? (λe=>Ty.eq aF k e.1)=none:=List.find?_eq_none.2 λe he=>by grind
   exact congrArg _ this
  grind [vJ]
 | some i=>
  have h1:=key S i hf
  have aB:=(List.getElem?_eq_some_iff.1 h1).1
  refine (CR aF (cU S) k true hf).trans ?_
  show (cU S).set i (k,true)=cU S
  grind [List.set_getElem_self]
theorem BS (S:List Key) (k:Key):jr (cU S) k=cU (if cq S k then S else S++[k]):=by
 cases h:cq S k with
 | true=>grind [He]
 | false=>simp only[Bool.false_eq_true,if_false];exact BR h
theorem DH:∀ (ks S:List Key),ks.foldl jr (cU S)=cU (dd S ks)
 | [],S=>rfl
 | k::ks,S=>by
  rw[List.foldl_cons,BS,DH ks]
  rfl
theorem zK (S a b:List Key):dd S (a++b)=dd (dd S a) b:=List.foldl_append
theorem uu:∀ (ks S:List Key) (k:Key),k ∈ dd S ks↔k ∈ S\/k ∈ ks
 | [],S,k=>by simp[dd]
 | x::ks,S,k=>by
  show k ∈ dd (if cq S x then S else S++[x]) ks↔_
  rw[uu ks]
  grind [cq]
theorem Hf:∀ (ks S:List Key),S.length<=(dd S ks).length
 | [],S=>Nat.le_refl _
 | x::ks,S=>by
  refine Nat.le_trans ?_ (Hf ks (if cq S x then S else S++[x]))
  grind
theorem BT:∀ (ks S:List Key),(S++ks).Nodup->dd S ks=S++ks
 | [],S,_=>by simp[dd]
 | x::ks,S,h=>by
  have hx:cq S x=false:=by
   grind [cq]
  show dd (if cq S x then S else S++[x]) ks=_
  rw[hx]
  simp only[Bool.false_eq_true,if_false]
  rw[BT ks (S++[x]) (by simpa using h)]
  simp
theorem CS {rows:List Row} (h:up rows):(iG rows).Nodup:=by
 unfold iG
 rw[List.nodup_iff_pairwise_ne,List.pairwise_map]
 refine h.imp λ{a b} Hg e=>?_
 grind [rk,lU]
theorem oE {rows:List Row} {xs:List Tx} (h:up rows):rows.length<=(dd [] (ef rows xs)).length:=by
 unfold ef
 rw[zK,BT (iG rows) [] (by simpa using CS h)]
 refine Nat.le_trans ?_ (Hf _ _)
 simp[iG]
def uw:List Key->List Key->Nat
 | _,[]=>0
 | S,k::ks=>(if cq S k then 0 else 1)+uw (S++[k]) ks
theorem yR:∀ (ks S T:List Key),(∀ k,k ∈ S↔k ∈ T)->(dd S ks).length=S.length+uw T ks
 | [],S,T,_=>rfl
 | x::ks,S,T,h=>by
  have hx:cq S x=cq T x:=by grind [eY]
  show (dd (if cq S x then S else S++[x]) ks).length=_
  simp only[uw,<- hx]
  cases hh:cq S x with
  | true=>
   simp only[if_true]
   rw[yR ks S (T++[x]) λk=>?_]
   ·omega
   ·simp only[List.mem_append,List.mem_singleton,<- h k]
    constructor
    ·exact .inl
    ·rintro (h1 | h1)
     ·exact h1
     ·subst h1;exact eY.1 hh
  | false=>
   simp only[Bool.false_eq_true,if_false]
   rw[yR ks (S++[x]) (T++[x]) λk=>by grind]
   grind
def fX (rows:List Row) (xs:List Tx):Nat:=(dd [] (ef rows xs)).length
theorem zL (rows:List Row) (xs:List Tx) (hr:rows.length<=1048576) (h:gv xs):bc.ab (rows,xs,())=some (cU (dd [] (ef rows xs)),()):=by
 obtain ⟨h1,Y⟩:=h
 refine ah (k:=1048577) λk hk=>(bc.ae k _).trans ?_
 have inner:∀ (self:((List (Key×Bool))×(List Tx)×Int×Int)->Option bc.Out) (e2:(List (Key×Bool))->Option bc.Out) (i:Nat) (hi:i < xs.length) (m:List (Key×Bool)),bc.r2 k self e2 (rows,xs,()) xs (xs.length:Int) (i:Int) (xs[i]).2.2.2.1 (List.length (xs[i]).2.2.2.1:Int) (m,(0:Int))=self ((xs[i]).2.2.2.1.foldl jr m,xs,(xs.length:Int),ai ((i:Int)+1)):=λself e2 i hi m=>by
  have xO:=(Y _ (List.getElem_mem hi)).2.2.1
  have:=dI (B:=λe9 v=>bc.B2 k e9 (λz=>bc.Q1 k self e2 (rows,xs,()) xs (xs.length:Int) (i:Int) (xs[i]).2.2.2.1 (List.length (xs[i]).2.2.2.1:Int) z) (rows,xs,()) xs (xs.length:Int) (i:Int) (xs[i]).2.2.2.1 (List.length (xs[i]).2.2.2.1:Int) v) (xs[i]).2.2.2.1 (λ(m:List (Key×Bool)) (j:Int)=>(m,j)) (λ_ m y=>.inr (jr m y)) (λm=>self (m,xs,(xs.length:Int),ai ((i:Int)+1))) (λ_ _=>True) (by rw[al];omega)
   (λj hj s e9 _=>by
    show bc.b2 _ _ _ _ _ _ _ _ _=_
    unfold bc.b2
    have aB:(j:Int) < (List.length (xs[i]).2.2.2.1:Int):=by omega
    simp only[aB,decide_true,cond_true,Int.natCast_nonneg,if_true,Int.toNat_natCast,List.getElem?_eq_getElem hj,Option.bind_some]
    rfl)
   (λ_ _ _ _ _ _=>trivial) (λs e9 _=>by
    show bc.b2 _ _ _ _ _ _ _ _ _=_
    unfold bc.b2
    simp only[Int.lt_irrefl,decide_false,cond_false]
    rfl) m trivial k (by omega)
  rw[gM (g:=jr)] at this
  exact this
 have second:∀ m,bc.r1 k (rows,xs,()) (m,xs,(xs.length:Int),(0:Int))=some ((flatK xs).foldl jr m,()):=λm=>by
  have:=bJ (B:=λself v=>bc.B1 k self (λz=>bc.Q2 k (rows,xs,()) z) (rows,xs,()) v) xs (λ(m:List (Key×Bool)) (i:Int)=>(m,xs,(xs.length:Int),i)) (λ_ m x=>.inr (x.2.2.2.1.foldl jr m)) (λm=>(m,())) (λ_ _=>True) (by rw[al];omega)
   (λi hi m self _=>by
    show bc.b1 _ _ _ _ _=_
    grind [bc.b1])
   (λ_ _ _ _ _ _=>trivial) (λs self _=>by
    show bc.b1 _ _ _ _ _=_
    unfold bc.b1
    simp only[Int.lt_irrefl,decide_false,cond_false]
    rfl) m trivial k (by omega)
  rw[gM (g:=λm (x:Tx)=>x.2.2.2.1.foldl jr m)] at this
  refine Eq.trans this ?_
  have:∀ (xs:List Tx) (m:List (Key×Bool)),xs.foldl (λm (x:Tx)=>x.2.2.2.1.foldl jr m) m=(flatK xs).foldl jr m:=by
   intro xs
   induction xs <;> grind [flatK]
  rw[this]
 have:=dI (B:=λself v=>bc.B0 k self (λz=>bc.Q0 k (rows,xs,()) z) (rows,xs,()) v) rows (λ(m:List (Key×Bool)) (i:Int)=>(m,i)) (λ_ m r=>.inr (jr m (r.1,r.2.1,()))) (λm=>some ((flatK xs).foldl jr m,())) (λ_ _=>True) (by rw[al];omega)
  (λi hi m self _=>by
   show bc.b0 _ _ _ _=_
   unfold bc.b0
   have aB:(i:Int) < (rows.length:Int):=by omega
   simp only[aB,decide_true,cond_true,Int.natCast_nonneg,if_true,Int.toNat_natCast,List.getElem?_eq_getElem hi,Option.bind_some]
   rfl)
  (λ_ _ _ _ _ _=>trivial) (λs self _=>by
   show bc.b0 _ _ _ _=_
   unfold bc.b0
   simp only[Int.lt_irrefl,decide_false,cond_false]
   exact second s) (cU []) trivial k (by omega)
 rw[gM (g:=λm (r:Row)=>jr m (r.1,r.2.1,()))] at this
 refine Eq.trans this ?_
 have e1:rows.foldl (λm (r:Row)=>jr m (r.1,r.2.1,())) (cU [])=(iG rows).foldl jr (cU []):=by unfold iG;rw[List.foldl_map]
 grind [DH,ef]
theorem vL {O:Type} (x:Key) (E:Bool->Option O):∀ (ys:List Key) (j:Nat) (b:Bool),aW (λ_ b y=>if b then .inr (!decide (y=x)) else .inl (E false)) E j ys b=if b then E (!cq ys x) else E false
 | [],_,b=>by cases b <;> rfl
 | y::ys,j,b=>by
  cases b with
  | false=>simp[aW]
  | true=>
   simp only[aW,if_true]
   rw[vL x E ys]
   grind [cq]
theorem BU {O:Type} (all:List Key) (E:Int->O):∀ (ys pre:List Key) (n:Int),all=pre++ys->aW (λi n x=>.inr (if cq (all.take i) x then n else n+1)) E pre.length ys n=E (n+(uw pre ys:Int))
 | [],pre,n,_=>by simp[aW,uw]
 | y::ys,pre,n,h=>by
  simp only[aW]
  have ht:all.take pre.length=pre:=by rw[h];simp
  rw[ht]
  have:=BU all E ys (pre++[y]) (if cq pre y then n else n+1) (by rw[h];simp)
  grind [uw]
def qL (k:Key):List Key:=if k.2.1=0 then [] else [k]
def lO (rows:List Row) (xs:List Tx) (k:Key):Nat:=(dd [] (ef rows xs++qL k)).length
theorem ux (rows:List Row) (xs:List Tx) (kk:Key) (hr:rows.length<=1048576) (hx:xs.length<=1000) (h:∀ x ∈ xs,List.length x.2.2.2.1<=1000):aE.ab (rows,xs,kk,())=some ((lO rows xs kk:Int),()):=by
 refine ah (k:=3000000) λk hk=>(aE.ae k _).trans ?_
 have rJ:(flatK xs).length<=1000*xs.length:=by
  clear hx
  induction xs <;> grind [flatK]
 have EZ:∀ all:List Key,all.length<=2100000->aE.r2 k (rows,xs,kk,()) (all,(0:Int),(0:Int))=some ((uw [] all:Int),()):=λall iP=>by
  have inner:∀ (self:((List Key)×Int×Int)->Option aE.Out) (e4:Int->Option aE.Out) (i:Nat) (hi:i < all.length) (n:Int),aE.r3 k self e4 (rows,xs,kk,()) all n (i:Int) (true,(0:Int))=if cq (all.take i) all[i] then self (all,n,ai ((i:Int)+1)) else self (all,ai (n+1),ai ((i:Int)+1)):=λself e4 i hi n=>by
   have dZ:(all.take i).length=i:=by simp;omega
   have:=dI (B:=λe9 v=>aE.B3 k e9 (λz=>aE.Q2 k self e4 (rows,xs,kk,()) all n (i:Int) z) (rows,xs,kk,()) all n (i:Int) v) (all.take i) (λ(b:Bool) (j:Int)=>(b,j)) (λ_ b y=>if b then .inr (!decide (y=all[i])) else .inl (if false then self (all,ai (n+1),ai ((i:Int)+1)) else self (all,n,ai ((i:Int)+1)))) (λb=>if b then self (all,ai (n+1),ai ((i:Int)+1)) else self (all,n,ai ((i:Int)+1))) (λ_ _=>True) (by rw[al];omega)
    (λj hj b e9 _=>by
     show aE.b3 _ _ _ _ _ _ _=_
     unfold aE.b3
     rw[dZ] at hj
     have aB:(j:Int) < (i:Int):=by omega
     have JQ:j < all.length:=by omega
     have c1:(0:Int)<=(j:Int)/\(j:Int) < (all.length:Int):=by omega
     have c2:(0:Int)<=(i:Int)/\(i:Int) < (all.length:Int):=by omega
     simp only[aB,c1,c2,and_self,decide_true,cond_true,if_true,Int.toNat_natCast,List.getElem?_eq_getElem JQ,List.getElem?_eq_getElem hi,Option.bind_some,nX,List.getElem_take]
     cases b <;> rfl)
    (λ_ _ _ _ _ _=>trivial) (λb e9 _=>by
     show aE.b3 _ _ _ _ _ _ _=_
     unfold aE.b3
     simp only[dZ,Int.lt_irrefl,decide_false,cond_false]
     cases b <;> rfl) true trivial k (by omega)
   have e:=vL all[i] (λb=>if b then self (all,ai (n+1),ai ((i:Int)+1)) else self (all,n,ai ((i:Int)+1))) (all.take i) 0 true
   refine (Eq.trans this e).trans ?_
   grind
  have:=bJ (B:=λself v=>aE.B2 k self (λz=>aE.Q3 k (rows,xs,kk,()) z) (rows,xs,kk,()) v) all (λ(n:Int) (i:Int)=>(all,n,i)) (λi n x=>.inr (if cq (all.take i) x then n else n+1)) (λn=>(n,())) (λi n=>0<=n/\n<=(i:Int)) (by rw[al];omega)
   (λi hi n self hI=>by
    show aE.b2 _ _ _ _ _=_
    grind [aE.b2,bQ])
   (λi hi n n' hI hs=>by
    grind) (λs self _=>by
    show aE.b2 _ _ _ _ _=_
    unfold aE.b2
    simp only[Int.lt_irrefl,decide_false,cond_false]
    rfl) 0 (by omega) k (by omega)
  have e:=BU all (λn=>(n,())) all [] 0 rfl
  refine (Eq.trans this (congrArg some e)).trans ?_
  rw[Int.zero_add]
 have second:aE.r1 k (rows,xs,kk,()) (iG rows,(0:Int))=some ((uw [] (ef rows xs++qL kk):Int),()):=by
  have kK:(iG rows).length=rows.length:=by simp[iG]
  have:=dI (B:=λself v=>aE.B1 k self (λz=>aE.Q1 k (rows,xs,kk,()) z) (rows,xs,kk,()) v) xs (λ(s:List Key) (i:Int)=>(s,i)) (λ_ s x=>.inr (s++x.2.2.2.1)) (λs=>aE.r2 k (rows,xs,kk,()) (s++qL kk,(0:Int),(0:Int))) (λi s=>s.length<=1048576+1000*i) (by rw[al];omega)
   (λi hi s self hI=>by
    grind [aE.b1,cm,Int.natCast_nonneg])
   (λi hi s s' hI hs=>by
    grind) (λs self hI=>by
    show aE.b1 _ _ _ _=_
    unfold aE.b1
    simp only[Int.lt_irrefl,decide_false,cond_false]
    show aE.q1 _ _ _=_
    grind [aE.q1,qL,cm]) (iG rows) (by omega) k (by omega)
  rw[gM (g:=λs (x:Tx)=>s++x.2.2.2.1)] at this
  refine Eq.trans this ?_
  have e:∀ (xs:List Tx) (s:List Key),xs.foldl (λs (x:Tx)=>s++x.2.2.2.1) s=s++flatK xs:=by
   intro xs
   induction xs <;> grind [flatK]
  rw[e]
  have hex:(qL kk).length<=1:=by grind [qL]
  exact EZ _ (by grind)
 have:=dI (B:=λself v=>aE.B0 k self (λz=>aE.Q0 k (rows,xs,kk,()) z) (rows,xs,kk,()) v) rows (λ(s:List Key) (i:Int)=>(s,i)) (λ_ s r=>.inr (s++[(r.1,r.2.1,())])) (λs=>aE.r1 k (rows,xs,kk,()) (s,(0:Int))) (λi s=>s.length=i) (by rw[al];omega)
  (λi hi s self hI=>by
   grind [aE.b0,cm,Int.natCast_nonneg])
  (λi hi s s' hI hs=>by grind) (λs self _=>by
   show aE.b0 _ _ _ _=_
   unfold aE.b0
   simp only[Int.lt_irrefl,decide_false,cond_false]
   rfl) [] rfl k (by omega)
 rw[gM (g:=λs (r:Row)=>s++[(r.1,r.2.1,())])] at this
 have e:∀ (rows:List Row) (s:List Key),rows.foldl (λs (r:Row)=>s++[(r.1,r.2.1,())]) s=s++iG rows:=by
  intro rows
  induction rows <;> grind [iG]
 rw[e,List.nil_append,second] at this
 refine Eq.trans this ?_
 have:=yR (ef rows xs++qL kk) [] [] (λ_=>Iff.rfl)
 grind [lO]
theorem CT (rows:List Row) (xs:List Tx) (hr:rows.length<=1048576) (hx:xs.length<=1000) (h:∀ x ∈ xs,List.length x.2.2.2.1<=1000):aE.ab (rows,xs,((0:Int),(0:Int),()),())=some ((fX rows xs:Int),()):=by
 rw[ux rows xs _ hr hx h]
 unfold lO qL
 simp only[if_true,List.append_nil]
 rfl
theorem Hh {ks:List Key} (h:kq ks=0):∀ k ∈ ks,lN k=true:=by
 have main:∀ (ys:List Key) (j:Nat),(aW (λi (_:Unit) k=>if gy ks i k=0 then .inr () else .inl (gy ks i k)) (λ_=>(0:Int)) j ys ())=0->∀ y ∈ ys,lN y=true:=by
  intro ys
  induction ys <;> grind [aW,gy]
 exact main ks 0 h
structure kE (xs:List Tx):Prop where
 len:xs.length<=4
 ch:∀ x ∈ xs,∀ c ∈ (x.2.1:List Change),fa c=0
 qM:∀ x ∈ xs,List.length x.2.2.2.1<=12
 nG:∀ x ∈ xs,List.length x.2.1<=12
 keys:∀ x ∈ xs,∀ k ∈ (x.2.2.2.1:List Key),lN k=true
theorem nZ {α:Type} {c:α->Int}:∀ {xs:List α},jI c xs=0->∀ x ∈ xs,c x=0
 | [],_,_,h=>by cases h
 | y::ys,h,x,hx=>by
  simp only[jI] at h
  split at h
  ·rcases List.mem_cons.1 hx with e | e
   ·subst e;assumption
   ·exact nZ h x e
  grind
theorem DI:∀ (xs:List Tx) (n:Int),0<=n->n<=xs.foldl (λn x=>n+(List.length x.2.1:Int)) n/\∀ x ∈ xs,(List.length x.2.1:Int)<=xs.foldl (λn x=>n+(List.length x.2.1:Int)) n
 | [],n,h=>⟨Int.le_refl _,λx hx=>by cases hx⟩
 | y::ys,n,h=>by
  obtain ⟨h1,Y⟩:=DI ys (n+(List.length y.2.1:Int)) (by omega)
  grind
theorem gk {xs:List Tx} (h:dQ xs=0):kE xs:=by
 unfold dQ at h
 split at h
 ·cases h
 ·rename_i hl
  split at h
  ·rename_i he
   split at h
   ·split at h
    ·cases h
    ·rename_i hc
     have each:∀ x ∈ xs,jx x=0:=λx hx=>by
      obtain ⟨i,hi,rfl⟩:=List.mem_iff_getElem.1 hx
      exact (qj (mf xs he i hi)).2.1
     refine ⟨by omega,λx hx c OX=>?_,λx hx=>?_,λx hx=>?_,λx hx=>?_⟩
     ·have h1:=each x hx
      unfold jx at h1
      split at h1
      ·rename_i hu
       have Y:=nZ hu c OX
       grind [kD,qI]
      grind
     ·grind [jx,jg]
     ·have:=(DI xs 0 (Int.le_refl _)).2 x hx
      grind [fb]
     grind [jx,jg,Hh]
   ·cases h
  grind
end OT
set_option linter.unusedVariables false
set_option linter.unusedSimpArgs false
namespace OT
open Go
def jJ (c:Change):Change:=(c.2.2.1,c.2.2.2.1,c.1,c.2.1,())
def bu (cs:List Change):List Change:=cs.reverse.map jJ
theorem px (cs:List Change):(bu cs).length=cs.length:=by simp[bu]
theorem nH {cs:List Change} {c:Change} (h:c ∈ bu cs):∃ d ∈ cs,c=jJ d:=by
 grind [bu]
theorem K8 {c:Change} (h:fa c=0):fa (jJ c)=0:=by
 grind [fa,jJ,sameKey]
theorem uy (cs:List Change) (hl:cs.length<=1048576) {O:Type} {B:((List Change×Int)->Option O)->(List Change×Int)->Option O} {E:List Change->Option O}
  (cI:∀ (m:Nat) (hm:m < cs.length) acc self,acc.length<=1048576->B self (acc,(m:Int))=self (acc++[jJ cs[m]],ai ((m:Int) - 1))) (iQ:∀ acc self,B self (acc,(-1:Int))=E acc) :
  ∀ k,cs.length < k->au B k ([],ai ((cs.length:Int) - 1))=E (bu cs):=by
 have main:∀ (m:Nat) (acc:List Change),m<=cs.length->acc.length+m<=cs.length->∀ k,m < k->au B k (acc,(m:Int) - 1)=E (acc++(cs.take m).reverse.map jJ):=by
  intro m
  induction m with
  | zero=>
   intro acc _ _ k hk
   cases k <;> grind [au]
  | succ m ih=>
   intro acc hm ha k hk
   cases k with
   | zero=>omega
   | succ k=>
    show B (au B k) _=_
    have e:((m+1:Nat):Int) - 1=(m:Int):=by omega
    rw[e,cI m (by omega) acc _ (by omega),bQ (by omega),ih _ (by omega) (by simp;omega) k (by omega),List.take_succ_eq_append_getElem (by omega),List.reverse_append,List.map_append,List.append_assoc]
    rfl
 grind [bQ,bu]
theorem E1 (cs:List Change) (hl:cs.length<=1048576):dE.ab (cs,())=some (bu cs,()):=by
 refine ah (k:=cs.length+1) λk hk=>(dE.ae k _).trans ?_
 refine uy cs hl (B:=λself v=>dE.B0 0 self (λz=>dE.Q0 0 (cs,()) z) (cs,()) v) (E:=λz=>some (z,())) (λm hm acc self ha=>?_) (λacc self=>?_) k (by omega)
 ·grind [dE.b0,jJ,cm]
 ·show dE.b0 _ _ _ _=_
  unfold dE.b0
  rfl
theorem sT (cs:List Change) (hl:cs.length<=1048576):dk.ab (cs,())=some (bu cs,()):=by
 refine ah (k:=cs.length+1) λk hk=>(dk.ae k _).trans ?_
 refine uy cs hl (B:=λself v=>dk.B0 0 self (λz=>dk.Q0 0 (cs,()) z) (cs,()) v) (E:=λz=>some (z,())) (λm hm acc self ha=>?_) (λacc self=>?_) k (by omega)
 ·grind [dk.b0,jJ,cm]
 ·show dk.b0 _ _ _ _=_
  unfold dk.b0
  rfl
def bs:List Row->List Change->Option (List Row)
 | s,[]=>some s
 | s,c::cs=>if jd s c then bs (ee s c) cs else none
theorem back_append:∀ (a b:List Change) (s:List Row),bs s (a++b)=(bs s a).bind λt=>bs t b
 | [],b,s=>rfl
 | c::a,b,s=>by
  simp only[List.cons_append,bs]
  split
  ·exact back_append a b _
  ·rfl
theorem zM {O:Type} (bad:O) (fin:List Row->O):∀ (cs:List Change) (i:Nat) (s:List Row),aW (λ_ s c=>if jd s c then .inr (ee s c) else .inl bad) fin i cs s=match bs s cs with | some t=>fin t | none=>bad
 | [],_,_=>rfl
 | c::cs,i,s=>by
  simp only[aW,bs]
  by_cases h:jd s c=true
  ·simp only[h,if_true];exact zM bad fin cs _ _
  ·simp[h]
theorem jh:∀ (cs:List Change) (s t:List Row),Good s->(∀ c ∈ cs,fa c=0)->bs s cs=some t->Good t/\t.length<=s.length+cs.length
 | [],s,t,h,_,hb=>by injection hb with hb;grind
 | c::cs,s,t,h,hc,hb=>by
  simp only[bs] at hb
  split at hb
  ·have h1:=jh cs (ee s c) t (gN h (hc c (by simp))) (λd hd=>hc d (by simp[hd])) hb
   grind [qe]
  ·cases hb
theorem BV {O α:Type} {f:Nat->Unit->α->Sum O Unit} {fin:Unit->O}:∀ (xs:List α) (j:Nat),(∀ i (hi:i < xs.length),f (j+i) () xs[i]=.inr ())->aW f fin j xs ()=fin ()
 | [],_,_=>rfl
 | x::xs,j,h=>by
  have h0:=h 0 (by simp)
  simp only[Nat.add_zero,List.getElem_cons_zero] at h0
  simp only[aW,h0]
  exact BV xs (j+1) λi hi=>by
   have:=h (i+1) (by simp;omega)
   grind
theorem pk {xs:List Row} (h:Good xs) (hl:xs.length<=60):dR xs=0:=by
 unfold dR
 rw[if_neg (by omega),BV xs 0 λi hi=>?_]
 unfold jp
 rw[if_pos (h.ok _ (List.getElem_mem hi)),Nat.zero_add]
 by_cases h0:0 < i
 ·rw[if_pos h0,List.getElem?_eq_getElem (show i - 1 < xs.length by omega)]
  have hu:=h.up
  grind [up,List.pairwise_iff_getElem]
 ·rw[if_neg h0]
theorem xR {s:List Row} {cs:List Change} (h:Good s) (hc:∀ c ∈ cs,fa c=0) (hl:s.length+cs.length<=60):xN s cs=match bs s cs with | some t=>((0:Int),t,()) | none=>((8:Int),([]:List Row),()):=by
 unfold xN
 rw[if_pos (pk h (by omega))]
 have main:∀ (cs:List Change) (s:List Row) (i:Nat),Good s->(∀ c ∈ cs,fa c=0)->s.length+cs.length<=60->(aW kZ qf i cs s).1=match bs s cs with | some t=>((0:Int),t,()) | none=>((8:Int),([]:List Row),()):=by
  intro cs
  induction cs <;> grind [aW,qf,bs,kZ,qe,gN]
 grind
def backs (xs:List Tx):List Change:=xs.flatMap λx=>bu x.2.1
theorem sU {O:Type} (bad:O) (fin:List Row->O):∀ (xs:List Tx) (i:Nat) (s:List Row),aW (λ_ s x=>match bs s (bu x.2.1) with | some t=>.inr t | none=>.inl bad) fin i xs s=match bs s (backs xs) with | some t=>fin t | none=>bad
 | [],_,_=>rfl
 | x::xs,i,s=>by
  have hb:backs (x::xs)=bu x.2.1++backs xs:=by simp[backs]
  rw[hb,back_append]
  simp only[aW]
  cases bs s (bu x.2.1) with
  | none=>rfl
  | some t=>simp only[Option.bind_some];exact sU bad fin xs _ _
theorem hO {cs:List Change} (h:∀ c ∈ cs,fa c=0):∀ c ∈ bu cs,fa c=0:=λc hc=>by
 grind [nH,K8]
theorem BW {cs:List Change} (h:∀ c ∈ cs,cl c):∀ c ∈ bu cs,cl c:=λc hc=>by
 obtain ⟨d,h1,rfl⟩:=nH hc
 exact ⟨(h d h1).2,(h d h1).1⟩
theorem DJ {s:List Row} (h:Good s):∀ x ∈ s,rl x:=λx hx=>by
 have:=jN (h.ok x hx)
 grind [rl,al]
theorem qk (s:List Row) (cs:List Change) (h:Good s) (hc:∀ c ∈ cs,fa c=0) (hl:s.length+cs.length<=1000):cL.ab (s,cs,())=some (match bs s (bu cs) with | some t=>(t,true,()) | none=>(([]:List Row),false,())):=by
 refine ah (k:=1001) λk hk=>(cL.ae k _).trans ?_
 unfold cL.p
 rw[E1 cs (by omega)]
 simp only[Option.bind_some]
 have hlen:=px cs
 have gm:=hO hc
 have:=bJ (B:=λself v=>cL.B0 0 self (λz=>cL.Q0 0 (s,cs,()) (bu cs) z) (s,cs,()) (bu cs) v) (bu cs) (λ(s:List Row) (i:Int)=>(s,i)) (λ_ s c=>if jd s c then .inr (ee s c) else .inl (([]:List Row),false,())) (λs=>(s,true,())) (λi t=>Good t/\t.length<=s.length+i) (by rw[al];omega)
  (λi hi t self hI=>by
   show cL.b0 _ _ _ _ _=_
   unfold cL.b0
   have aB:(i:Int) < ((bu cs).length:Int):=by omega
   have cI:(0:Int)<=(i:Int)/\(i:Int) < ((bu cs).length:Int):=by omega
   simp only[aB,cI,and_self,decide_true,cond_true,if_true,Int.toNat_natCast,List.getElem?_eq_getElem hi,Option.bind_some]
   rw[um t _ hI.1.up (by omega) (mc (gm _ (List.getElem_mem hi))).1]
   grind)
  (λi hi t t' hI hs=>by
   grind [qe,gN]) (λt self _=>by
   show cL.b0 _ _ _ _ _=_
   unfold cL.b0
   simp only[Int.lt_irrefl,decide_false,cond_false]
   rfl) s ⟨h,by omega⟩ k (by omega)
 rw[zM] at this
 refine Eq.trans this ?_
 grind
theorem CU (rows:List Row) (xs:List Tx) (h:Good rows) (hl:rows.length<=12) (hx:kE xs):d9.ab (rows,xs,())=some (match bs rows (backs xs) with | some t=>(t,true,()) | none=>(([]:List Row),false,())):=by
 refine ah (k:=10) λk hk=>(d9.ae k _).trans ?_
 unfold d9.p
 have hc:([]:List Row).length+rows.length<=bX:=cm (by grind)
 rw[if_pos hc,List.nil_append]
 have Na:=hx.len
 have:=bJ (B:=λself v=>d9.B0 0 self (λz=>d9.Q0 0 (rows,xs,()) z) (rows,xs,()) v) xs (λ(s:List Row) (i:Int)=>(s,i)) (λ_ s x=>match bs s (bu x.2.1) with | some t=>.inr t | none=>.inl (([]:List Row),false,())) (λs=>(s,true,())) (λi t=>Good t/\t.length<=12+12*i) (by rw[al];omega)
  (λi hi t self hI=>by
   show d9.b0 _ _ _ _=_
   unfold d9.b0
   have aB:(i:Int) < (xs.length:Int):=by omega
   have hu:=hx.nG _ (List.getElem_mem hi)
   simp only[aB,decide_true,cond_true,Int.natCast_nonneg,if_true,Int.toNat_natCast,List.getElem?_eq_getElem hi,Option.bind_some]
   rw[qk t _ hI.1 (hx.ch _ (List.getElem_mem hi)) (by omega)]
   grind)
  (λi hi t t' hI hs=>by
   have hu:=hx.nG _ (List.getElem_mem hi)
   cases hb:bs t (bu (xs[i]).2.1) with
   | none=>grind
   | some q=>
    rw[hb] at hs
    injection hs with hs
    subst hs
    have:=jh _ _ _ hI.1 (hO (hx.ch _ (List.getElem_mem hi))) hb
    grind [px]) (λt self _=>by
   show d9.b0 _ _ _ _=_
   unfold d9.b0
   simp only[Int.lt_irrefl,decide_false,cond_false]
   rfl) rows ⟨h,by omega⟩ k (by omega)
 rw[sU] at this
 refine Eq.trans this ?_
 grind
theorem BX (rows:List Row) (xs:List Tx) (h:Good rows) (hl:rows.length<=12) (hx:kE xs) (ht:gv xs):de.ab (rows,xs,())=some (match bs rows (backs xs) with | some t=>(t,(0:Int),()) | none=>(([]:List Row),(8:Int),())):=by
 refine ah (k:=10) λk hk=>(de.ae k _).trans ?_
 unfold de.p
 have Na:=hx.len
 have:=bJ (B:=λself v=>de.B0 0 self (λz=>de.Q0 0 (rows,xs,()) z) (rows,xs,()) v) xs (λ(s:List Row) (i:Int)=>(s,i)) (λ_ s x=>match bs s (bu x.2.1) with | some t=>.inr t | none=>.inl (([]:List Row),(8:Int),())) (λs=>(s,(0:Int),())) (λi t=>Good t/\t.length<=12+12*i) (by rw[al];omega)
  (λi hi t self hI=>by
   show de.b0 _ _ _ _=_
   unfold de.b0
   have aB:(i:Int) < (xs.length:Int):=by omega
   have hu:=hx.nG _ (List.getElem_mem hi)
   have gm:=hO (hx.ch _ (List.getElem_mem hi))
   have Pd:=ht.2 _ (List.getElem_mem hi)
   simp only[aB,decide_true,cond_true,Int.natCast_nonneg,if_true,Int.toNat_natCast,List.getElem?_eq_getElem hi,Option.bind_some]
   rw[sT _ Pd.1]
   simp only[Option.bind_some]
   have Be:=px (xs[i]).2.1
   rw[un t _ (by rw[al];omega) (DJ hI.1) (by omega) (BW Pd.2.2.2),xR hI.1 gm (by omega)]
   grind)
  (λi hi t t' hI hs=>by
   have hu:=hx.nG _ (List.getElem_mem hi)
   cases hb:bs t (bu (xs[i]).2.1) with
   | none=>grind
   | some q=>
    rw[hb] at hs
    injection hs with hs
    subst hs
    have:=jh _ _ _ hI.1 (hO (hx.ch _ (List.getElem_mem hi))) hb
    grind [px]) (λt self hI=>by
   grind [de.b0,de.q0,rr]) rows ⟨h,by omega⟩ k (by omega)
 rw[sU] at this
 refine Eq.trans this ?_
 grind
def j_ (n:Int) (xs:List Tx):Bool:=match xs[xs.length - 1]? with
 | some x=>decide (n<=x.1)
 | none=>false
def bM (p:Plain):Int:=
 if dR p.1=0 then
  if dQ p.2.1=0 then
   if bK p.2.2.1 1 100&&!j_ p.2.2.1 p.2.1 then
    if 12 < fX p.1 p.2.1 then 2 else (match bs p.1 (backs p.2.1) with | some _=>0 | none=>8)
   else 3
  else dQ p.2.1
 else dR p.1
def nv (p:Plain):Prop:=List.length p.1<=1048576/\(∀ x ∈ (p.1:List Row),rl x)/\gv p.2.1
theorem DK {O:Type} (n:Int) (xs:List Tx) (hl:xs.length<=1048576) (bad j:Option O) :
  (bif decide ((0:Int) < (xs.length:Int)) then (if 0<=ai ((xs.length:Int) - (1:Int)) then ((xs[(ai ((xs.length:Int) - (1:Int))).toNat]?).bind λx5=>bif decide (n<=x5.1) then bad else j) else none) else j)=if j_ n xs then bad else j:=by
 grind [j_,bQ,Int.toNat_natCast]
theorem nl (p:Plain) (h:nv p):dH.ab (p,())=some (bM p,()):=by
 obtain ⟨rows,xs,n,⟨⟩⟩:=p
 obtain ⟨h1,Y,h3⟩:=h
 simp only at h1 Y h3
 refine ah (k:=0) λk _=>(dH.ae k _).trans ?_
 show dH.p _=_
 unfold dH.p bM
 simp only[rq rows (by rw[al];omega) Y,sS xs h3,kW,zL rows xs h1 h3,Option.bind_some]
 by_cases hr:dR rows=0
 rotate_left
 ·grind
 by_cases ht:dQ xs=0
 rotate_left
 ·grind
 obtain ⟨hg,_⟩:=je hr
 have ap:=gk ht
 simp only[hr,ht,decide_true,Bool.not_true,cond_false,if_true]
 have cI:(decide ((1:Int)<=n)&&decide (n<=100))=bK n 1 100:=rfl
 rw[cI]
 cases bK n 1 100 with
 | false=>rfl
 | true=>
  simp only[Bool.not_true,cond_false,Bool.true_and]
  rw[DK n xs h3.1]
  cases j_ n xs with
  | true=>rfl
  | false=>
   simp only[Bool.not_false,Bool.false_eq_true,if_false,if_true]
   have hlen:(cU (dd [] (ef rows xs))).length=fX rows xs:=by simp[cU,fX]
   by_cases nQ:12 < fX rows xs
   ·grind
   ·have:¬ (12:Int) < ((cU (dd [] (ef rows xs))).length:Int):=by grind
    have kK:rows.length<=12:=by
     have:=oE (xs:=xs) hg.up
     grind [fX]
    grind [BX]
theorem ql (p:Plain) (h:nv p):gb.ab (p,())=some (bM p,()):=by
 obtain ⟨rows,xs,n,⟨⟩⟩:=p
 obtain ⟨h1,Y,h3⟩:=h
 simp only at h1 Y h3
 refine ah (k:=0) λk _=>(gb.ae k _).trans ?_
 show gb.p _=_
 unfold gb.p bM
 simp only[vH rows (by rw[al];omega) Y,xQ xs h3,jc,Option.bind_some]
 by_cases hr:dR rows=0
 rotate_left
 ·grind
 by_cases ht:dQ xs=0
 rotate_left
 ·grind
 obtain ⟨hg,_⟩:=je hr
 have ap:=gk ht
 have Nb:=CT rows xs h1 (by have:=ap.len;omega) (λx hx=>by have:=ap.qM x hx;omega)
 simp only[hr,ht,decide_true,Bool.not_true,cond_false,if_true,Nb,Option.bind_some]
 have cI:(decide ((1:Int)<=n)&&decide (n<=100))=bK n 1 100:=rfl
 rw[cI]
 cases bK n 1 100 with
 | false=>rfl
 | true=>
  simp only[Bool.not_true,cond_false,Bool.true_and]
  rw[DK n xs h3.1]
  cases j_ n xs with
  | true=>rfl
  | false=>
   simp only[Bool.not_false,Bool.false_eq_true,if_false,if_true]
   by_cases nQ:12 < fX rows xs
   ·grind
   ·have:¬ (12:Int) < (fX rows xs:Int):=by omega
    have kK:rows.length<=12:=by
     have:=oE (xs:=xs) hg.up
     grind [fX]
    grind [CU]
end OT
set_option linter.unusedVariables false
set_option linter.unusedSimpArgs false
set_option linter.unusedSectionVars false
namespace OT
open Go
theorem qN {c:Change} (hc:fa c=0) (h:c.1=true):rk c.2.1=ck c:=by
 unfold fa at hc
 rw[h] at hc
 unfold ck
 cases hi:c.2.2.1 with
 | false=>rfl
 | true=>
  rw[hi] at hc
  simp only[Bool.not_true,Bool.false_and,Bool.and_self,Bool.true_and,Bool.false_or] at hc
  split at hc
  ·cases hc
  ·rename_i hn
   have hs:sameKey c.2.1 c.2.2.2.1=true:=by simpa using hn
   rw[sP] at hs
   exact of_decide_eq_true hs
theorem Hj (x:Row):Ty.eq ak x x=true:=by
 have e:Ty.eq ak x x=(decide (x.1=x.1)&&(decide (x.2.1=x.2.1)&&(decide (x.2.2.1=x.2.2.1)&&(decide (x.2.2.2.1=x.2.2.2.1)&&true)))):=rfl
 rw[e]
 simp
theorem qm {xs:List Row} (hu:up xs) {c:Change} (hc:fa c=0):jd xs c=true↔(if c.1=true then c.2.1 ∈ xs else ∀ r ∈ xs,rk r≠ck c):=by
 unfold jd
 cases hw:c.1 with
 | true=>
  have hk:=qN hc hw
  rw[if_pos rfl]
  constructor
  ·intro h
   simp only[Bool.and_eq_true,beq_iff_eq] at h
   obtain ⟨h1,Y⟩:=h
   obtain ⟨hp,_⟩:=kX h1
   rw[h1,List.getElem?_eq_getElem hp] at Y
   simp only[Bool.not_true,Bool.false_or] at Y
   have:=Hc Y
   rw[<-this]
   exact List.getElem_mem hp
  ·intro h
   obtain ⟨i,hi,hx⟩:=List.getElem_of_mem h
   obtain ⟨f1,f2⟩:=qg hu hi (k:=ck c) (by rw[hx];exact hk)
   rw[f1,f2,List.getElem?_eq_getElem hi,hx]
   simp[Hj]
 | false=>
  rw[if_neg (by decide)]
  constructor
  ·intro h r hr he
   obtain ⟨i,hi,hx⟩:=List.getElem_of_mem hr
   have f1:=(qg hu hi (k:=ck c) (by rw[hx];exact he)).1
   rw[f1] at h
   simp at h
  ·intro h
   have:fm xs (ck c)=false:=by
    cases hf:fm xs (ck c) with
    | false=>rfl
    | true=>
     obtain ⟨y,hy,hk⟩:=K6 hf
     exact absurd hk (h y hy)
   rw[this]
   rfl
def agree (K:Int×Int->Prop) (s s':List Row):Prop:=∀ r,K (rk r)->(r ∈ s↔r ∈ s')
theorem E2 {K:Int×Int->Prop} {s s':List Row} (hs:up s) (vB:up s') (h:agree K s s') (c:Change):agree K (ee s c) (ee s' c):=λr hr=>by
 rw[k_ hs,k_ vB,h r hr]
theorem E3 {K:Int×Int->Prop} {s s':List Row} (hs:up s) (vB:up s') (h:agree K s s') {c:Change} (hc:fa c=0) (hk:K (ck c)) (hf:jd s c=true):jd s' c=true:=by
 rw[qm hs hc] at hf
 rw[qm vB hc]
 by_cases hw:c.1=true
 ·rw[if_pos hw] at hf ⊢
  exact (h _ (by rw[qN hc hw];exact hk)).1 hf
 ·rw[if_neg hw] at hf ⊢
  exact λr hr he=>hf r ((h r (by rw[he];exact hk)).2 hr) he
theorem nm {K:Int×Int->Prop}:∀ (cs:List Change) (s s' t:List Row),Good s->Good s'->(∀ c ∈ cs,fa c=0)->(∀ c ∈ cs,K (ck c))->agree K s s'->bs s cs=some t->∃ t',bs s' cs=some t'
 | [],s,s',t,_,_,_,_,_,_=>⟨s',rfl⟩
 | c::cs,s,s',t,hs,vB,hc,hk,h,hb=>by
  simp only[bs] at hb ⊢
  split at hb
  ·rename_i hf
   have rI:=hc c List.mem_cons_self
   rw[if_pos (E3 hs.1 vB.1 h rI (hk c List.mem_cons_self) hf)]
   exact nm cs _ _ t (gN hs rI) (gN vB rI) (λd hd=>hc d (List.mem_cons_of_mem _ hd)) (λd hd=>hk d (List.mem_cons_of_mem _ hd)) (E2 hs.1 vB.1 h c) hb
  ·cases hb
theorem nn:∀ (cs:List Change) (s t:List Row),Good s->(∀ c ∈ cs,fa c=0)->bs s cs=some t->agree (λk=>∀ c ∈ cs,ck c≠k) s t
 | [],s,t,_,_,hb=>by injection hb with hb;subst hb;exact λr _=>Iff.rfl
 | c::cs,s,t,hs,hc,hb=>by
  simp only[bs] at hb
  split at hb
  ·have rI:=hc c List.mem_cons_self
   have ih:=nn cs _ t (gN hs rI) (λd hd=>hc d (List.mem_cons_of_mem _ hd)) hb
   intro r hr
   rw[<-ih r λd hd=>hr d (List.mem_cons_of_mem _ hd),k_ hs.1]
   constructor
   ·exact λh=>.inl ⟨h,λe=>hr c List.mem_cons_self e.symm⟩
   ·rintro (h | ⟨hi,rfl⟩)
    ·exact h.1
    ·exact absurd ((mc rI).1 hi).symm (hr c List.mem_cons_self)
  ·cases hb
theorem IS {rows:List Row} {xs:List Tx} {t:List Row} (hg:Good rows) (hc:∀ x ∈ xs,∀ c ∈ (x.2.1:List Change),fa c=0) (hb:bs rows (backs xs)=some t) {i:Nat} (hi:i < xs.length)
  (hd:∀ j (hj:j < i),∀ c ∈ bu xs[j].2.1,∀ d ∈ bu xs[i].2.1,ck c≠ck d):∃ t',bs rows (bu xs[i].2.1)=some t':=by
 have hx:xs=xs.take i++xs[i]::xs.drop (i+1):=by rw[List.getElem_cons_drop,List.take_append_drop]
 have Sc:backs xs=backs (xs.take i)++(bu xs[i].2.1++backs (xs.drop (i+1))):=by
  conv=>lhs;rw[hx]
  unfold backs
  rw[List.flatMap_append,List.flatMap_cons]
 rw[Sc,back_append] at hb
 have Pe:∀ c ∈ backs (xs.take i),fa c=0:=λc h=>by
  unfold backs at h
  obtain ⟨x,hx,hm⟩:=List.mem_flatMap.1 h
  exact hO (hc x (List.mem_of_mem_take hx)) c hm
 cases h1:bs rows (backs (xs.take i)) with
 | none=>rw[h1] at hb;cases hb
 | some s1=>
  rw[h1,Option.bind_some,back_append] at hb
  cases Y:bs s1 (bu xs[i].2.1) with
  | none=>rw[Y] at hb;cases hb
  | some s2=>
   have hf:=nn _ rows s1 hg Pe h1
   refine nm (K:=λk=>∀ c ∈ backs (xs.take i),ck c≠k) _ s1 rows s2 (jh _ _ _ hg Pe h1).1 hg (hO (hc _ (List.getElem_mem hi))) (λd Sd c zm=>?_) (λr hr=>(hf r hr).symm) Y
   unfold backs at zm
   obtain ⟨x,hx,hm⟩:=List.mem_flatMap.1 zm
   obtain ⟨j,hj,Pf⟩:=List.getElem_of_mem hx
   rw[List.length_take] at hj
   rw[List.getElem_take] at Pf
   subst Pf
   exact hd j (by omega) c hm d Sd
theorem inv_split (cs:List Change) (n:Nat):bu cs=bu (cs.drop n)++bu (cs.take n):=by
 unfold bu
 rw[<-List.map_append,<- List.reverse_append,List.take_append_drop]
theorem zN {rows:List Row} {cs:List Change} {t:List Row} (h:bs rows (bu cs)=some t) (n:Nat):∃ t',bs rows (bu (cs.drop n))=some t':=by
 rw[inv_split cs n,back_append] at h
 cases h1:bs rows (bu (cs.drop n)) with
 | none=>rw[h1] at h;cases h
 | some s=>exact ⟨s,rfl⟩
end OT
set_option linter.unusedVariables false
set_option linter.unusedSimpArgs false
namespace OT
open Go
def gn (xs:List Tx) (t:Int):Int:=jf (λx=>decide (x.1=t)) 0 xs
theorem fQ (xs:List Tx) (t:Int) (h:xs.length<=1048576):dp.ab (xs,t,())=some (gn xs t,()):=by
 refine ah (k:=xs.length+1) λk hk=>(dp.ae k _).trans ?_
 have:=bJ (B:=λself v=>dp.B0 0 self (λz=>dp.Q0 0 (xs,t,()) z) (xs,t,()) v) xs (λ(_:Unit) (i:Int)=>i) (λi _ x=>if decide (x.1=t) then .inl ((i:Int),()) else .inr ()) (λ_=>((-1:Int),())) (λ_ _=>True) (by rw[al];omega)
  (λi hi s self _=>by
   show dp.b0 _ _ _ _=_
   unfold dp.b0
   have aB:(i:Int) < (xs.length:Int):=by omega
   simp only[aB,decide_true,cond_true,Int.natCast_nonneg,if_true,Int.toNat_natCast,List.getElem?_eq_getElem hi,Option.bind_some]
   cases decide ((xs[i]).1=t) <;> rfl)
  (λ_ _ _ _ _ _=>trivial) (λs self _=>by
   show dp.b0 _ _ _ _=_
   unfold dp.b0
   simp only[Int.lt_irrefl,decide_false,cond_false]
   rfl) () trivial k (by omega)
 rw[pi] at this
 exact this
theorem oF (xs:List Tx) (t:Int) (h:xs.length<=1048576):ei.ab (xs,t,())=some (gn xs t,()):=by
 have h1:∀ x:Tx,ky.ab (x,t,())=some (decide (x.1=t),()):=λx=>by
  refine ah (k:=0) λk _=>(ky.ae k _).trans ?_
  rfl
 have Y:∀ m:Nat,bU.ab (xs,((m,t):Nat×Int),())=some (gn xs t,()):=λm=>by
  refine ah (k:=xs.length+1) λk hk=>(bU.ae k _).trans ?_
  have:=bJ (B:=λself v=>bU.B0 0 self (λz=>bU.Q0 0 (xs,((m,t):Nat×Int),()) z) (xs,((m,t):Nat×Int),()) v) xs (λ(_:Unit) (i:Int)=>i) (λi _ x=>if decide (x.1=t) then .inl ((i:Int),()) else .inr ()) (λ_=>((-1:Int),())) (λ_ _=>True) (by rw[al];omega)
   (λi hi s self _=>by
    show bU.b0 _ _ _ _=_
    unfold bU.b0
    have aB:(i:Int) < (xs.length:Int):=by omega
    simp only[aB,decide_true,cond_true,Int.natCast_nonneg,if_true,Int.toNat_natCast,List.getElem?_eq_getElem hi,Option.bind_some,h1]
    cases decide ((xs[i]).1=t) <;> rfl)
   (λ_ _ _ _ _ _=>trivial) (λs self _=>by
    show bU.b0 _ _ _ _=_
    unfold bU.b0
    simp only[Int.lt_irrefl,decide_false,cond_false]
    rfl) () trivial k (by omega)
  rw[pi] at this
  exact this
 refine ah (k:=0) λk _=>(ei.ae k _).trans ?_
 show ei.p _=_
 unfold ei.p
 rw[Y]
 rfl
end OT
