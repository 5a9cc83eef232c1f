/- The proof's parts, merged: Printed by gen.py, a program of this claim  what each Go function computes.. No conditions but those that each states. -/
import Derived.Test.YtaebhfnbgkbdhaaGreatQd
set_option maxRecDepth 100000
set_option linter.unusedVariables false
namespace OT
open Go Go.Proofs.Tryz
namespace cF
abbrev Arg:Type:=ax×Int×Unit
abbrev Out:Type:=(List Op)×ax×Unit
abbrev ps:PQ:=[(.dt (ah bj) (ah bj),bj),(.ro,i64)]
noncomputable def D:FD:={ fn:=f80,tl:=be,ps:=ps,rs:=[((.aa fm),(av (.aa fm)))],gl:=[(9,cc.D.sig),(29,cL.D.sig),(51,am.D.sig)],es:=[0],lv:=[(4,[0,1,5,6,7]),(8,[0,5,6,8])],lx:=[(0,[0,1,5,6]),(2,[0,6])],lf:=[(4,[(5,(.pair (.aa false (.pair .leaf (.pair .leaf (.pair .leaf (.pair .leaf .leaf))))) (.pair (.aa true (.pair .leaf (.pair (.aa false (.pair .leaf (.pair (.pair .leaf (.pair .leaf (.pair .leaf (.pair .leaf .leaf)))) (.pair .leaf (.pair (.pair .leaf (.pair .leaf (.pair .leaf (.pair .leaf .leaf)))) .leaf))))) (.pair (.aa false .leaf) (.pair (.aa false (.pair .leaf (.pair .leaf .leaf))) .leaf))))) (.pair .leaf .leaf))))]),(8,[(5,(.pair (.aa false (.pair .leaf (.pair .leaf (.pair .leaf (.pair .leaf .leaf))))) (.pair (.aa false (.pair .leaf (.pair (.aa false (.pair .leaf (.pair (.pair .leaf (.pair .leaf (.pair .leaf (.pair .leaf .leaf)))) (.pair .leaf (.pair (.pair .leaf (.pair .leaf (.pair .leaf (.pair .leaf .leaf)))) .leaf))))) (.pair (.aa false .leaf) (.pair (.aa false (.pair .leaf (.pair .leaf .leaf))) .leaf))))) (.pair .leaf .leaf))))])],od:=[(6,[0,1,2,3,4,5,6,7])] }
noncomputable def ab (a:Arg):Option Out:=@lift Out λk=>D.W k a
noncomputable def T0 (J:Arg) (Y:Plain×Int):St:={ n:=60,sl:=[(0,.box bj (ah bj) [] J.1),(1,.val i64 J.2.1),(5,.box bJ (.pair (ah (.aa aj)) (.pair (.aa true (ah aB)) (ah (ba [i64])))) [] Y.1),(6,.own (.aa fm) (av (.aa fm)) [] [((1:Int),(0:Int),((0:Int),(0:Int),(0:Int),([]:List UInt8),()),(0:Int),()),((2:Int),(1:Int),((0:Int),(1:Int),(8:Int),([]:List UInt8),()),(0:Int),()),((2:Int),(1:Int),((0:Int),(2:Int),(8:Int),([]:List UInt8),()),(0:Int),()),((7:Int),(1:Int),((0:Int),(0:Int),(0:Int),([]:List UInt8),()),(0:Int),()),((1:Int),(0:Int),((0:Int),(0:Int),(0:Int),([]:List UInt8),()),(0:Int),()),((1:Int),(0:Int),((0:Int),(0:Int),(0:Int),([]:List UInt8),()),(0:Int),())]),(7,.val i64 Y.2)],vr:=[],aA:=[(0,0,false)] }
noncomputable def S0 (rec:RT Out) (J:Arg):(Plain×Int)->Option Out:=λY=>rec (T0 J Y)
noncomputable def cV (K:KT Out) (J:Arg):Plain->Option Out:=λz=>K (.exit 0) ({ n:=60,sl:=[(0,.box bj (ah bj) [] J.1),(1,.val i64 J.2.1),(5,.box bJ (.pair (ah (.aa aj)) (.pair (.aa true (ah aB)) (ah (ba [i64])))) [] z),(6,.own (.aa fm) (av (.aa fm)) [] [((1:Int),(0:Int),((0:Int),(0:Int),(0:Int),([]:List UInt8),()),(0:Int),()),((2:Int),(1:Int),((0:Int),(1:Int),(8:Int),([]:List UInt8),()),(0:Int),()),((2:Int),(1:Int),((0:Int),(2:Int),(8:Int),([]:List UInt8),()),(0:Int),()),((7:Int),(1:Int),((0:Int),(0:Int),(0:Int),([]:List UInt8),()),(0:Int),()),((1:Int),(0:Int),((0:Int),(0:Int),(0:Int),([]:List UInt8),()),(0:Int),()),((1:Int),(0:Int),((0:Int),(0:Int),(0:Int),([]:List UInt8),()),(0:Int),())])],vr:=[],aA:=[(0,0,false)] })
noncomputable def b0 (self:(Plain×Int)->Option Out) (e0:Plain->Option Out) (J:Arg) (Y:Plain×Int):Option Out:=bif decide (Y.2 < ([((1:Int),(0:Int),((0:Int),(0:Int),(0:Int),([]:List UInt8),()),(0:Int),()),((2:Int),(1:Int),((0:Int),(1:Int),(8:Int),([]:List UInt8),()),(0:Int),()),((2:Int),(1:Int),((0:Int),(2:Int),(8:Int),([]:List UInt8),()),(0:Int),()),((7:Int),(1:Int),((0:Int),(0:Int),(0:Int),([]:List UInt8),()),(0:Int),()),((1:Int),(0:Int),((0:Int),(0:Int),(0:Int),([]:List UInt8),()),(0:Int),()),((1:Int),(0:Int),((0:Int),(0:Int),(0:Int),([]:List UInt8),()),(0:Int),())].length:Int)) then (if 0<=Y.2/\Y.2 < ([((1:Int),(0:Int),((0:Int),(0:Int),(0:Int),([]:List UInt8),()),(0:Int),()),((2:Int),(1:Int),((0:Int),(1:Int),(8:Int),([]:List UInt8),()),(0:Int),()),((2:Int),(1:Int),((0:Int),(2:Int),(8:Int),([]:List UInt8),()),(0:Int),()),((7:Int),(1:Int),((0:Int),(0:Int),(0:Int),([]:List UInt8),()),(0:Int),()),((1:Int),(0:Int),((0:Int),(0:Int),(0:Int),([]:List UInt8),()),(0:Int),()),((1:Int),(0:Int),((0:Int),(0:Int),(0:Int),([]:List UInt8),()),(0:Int),())].length:Int) then (([((1:Int),(0:Int),((0:Int),(0:Int),(0:Int),([]:List UInt8),()),(0:Int),()),((2:Int),(1:Int),((0:Int),(1:Int),(8:Int),([]:List UInt8),()),(0:Int),()),((2:Int),(1:Int),((0:Int),(2:Int),(8:Int),([]:List UInt8),()),(0:Int),()),((7:Int),(1:Int),((0:Int),(0:Int),(0:Int),([]:List UInt8),()),(0:Int),()),((1:Int),(0:Int),((0:Int),(0:Int),(0:Int),([]:List UInt8),()),(0:Int),()),((1:Int),(0:Int),((0:Int),(0:Int),(0:Int),([]:List UInt8),()),(0:Int),())][Y.2.toNat]?).bind λaT=>(cc.ab (Y.1,aT,())).bind λbN=>self (bN.1.2.2.1,al (Y.2+(1:Int)))) else none) else e0 Y.1
noncomputable abbrev B0 (_:Nat):=b0
theorem i_ (k:Nat) (rec:RT Out) (K:KT Out) (J:Arg) (Y:Plain×Int):D.N k [1,1,1,0,1,0,0] (T0 J Y) (fw rec (dz [0,1,5,6,7] [(5,(.pair (.aa false (.pair .leaf (.pair .leaf (.pair .leaf (.pair .leaf .leaf))))) (.pair (.aa true (.pair .leaf (.pair (.aa false (.pair .leaf (.pair (.pair .leaf (.pair .leaf (.pair .leaf (.pair .leaf .leaf)))) (.pair .leaf (.pair (.pair .leaf (.pair .leaf (.pair .leaf (.pair .leaf .leaf)))) .leaf))))) (.pair (.aa false .leaf) (.pair (.aa false (.pair .leaf (.pair .leaf .leaf))) .leaf))))) (.pair .leaf .leaf))))]) K)=b0 (S0 rec J) (cV K J) J Y:=by kernel_rfl
noncomputable def T1 (J:Arg) (c9:ax×Plain×(List Op)×Int):St:={ n:=60,sl:=[(0,.box bj (ah bj) [] c9.1),(5,.box bJ (ah bJ) [] c9.2.1),(6,.own (.aa fm) (av (.aa fm)) [] c9.2.2.1),(8,.val i64 c9.2.2.2)],vr:=[],aA:=[(0,0,false)] }
noncomputable def b1 (self:(ax×Plain×(List Op)×Int)->Option Out) (e2:(ax×(List Op))->Option Out) (J:Arg) (c9:ax×Plain×(List Op)×Int):Option Out:=bif decide ((0:Int) < c9.2.2.2) then ((cL.ab (c9.1,c9.2.1.1,c9.2.1.2.1,())).bind λuY=>if c9.2.2.1.length+[uY.1].length<=bV then ((cc.ab (c9.2.1,uY.1,())).bind λKs=>bif decide (Ks.1.1=(0:Int)) then (self (uY.2.1,Ks.1.2.2.1,c9.2.2.1++[uY.1],al (c9.2.2.2 - (1:Int)))) else self (uY.2.1,c9.2.1,c9.2.2.1++[uY.1],al (c9.2.2.2 - (1:Int)))) else none) else e2 (c9.1,c9.2.2.1)
noncomputable abbrev B1 (_:Nat):=b1
noncomputable def q1 (J:Arg) (Kt:(ax×(List Op))):Option Out:=some (Kt.2,Kt.1,())
noncomputable abbrev Q1 (_:Nat):=q1
noncomputable def s1 (k:Nat) (J:Arg):(ax×Plain×(List Op)×Int)->Option Out:=λc9=>D.L k [1,1,1,1,0,1,0,0] [0,5,6,8] [(5,(.pair (.aa false (.pair .leaf (.pair .leaf (.pair .leaf (.pair .leaf .leaf))))) (.pair (.aa false (.pair .leaf (.pair (.aa false (.pair .leaf (.pair (.pair .leaf (.pair .leaf (.pair .leaf (.pair .leaf .leaf)))) (.pair .leaf (.pair (.pair .leaf (.pair .leaf (.pair .leaf (.pair .leaf .leaf)))) .leaf))))) (.pair (.aa false .leaf) (.pair (.aa false (.pair .leaf (.pair .leaf .leaf))) .leaf))))) (.pair .leaf .leaf))))] (ai 2 (aG (D.N k [1,1,1,1,1]) D.K0)) (T1 J c9)
noncomputable def r1 (k:Nat) (J:Arg):(ax×Plain×(List Op)×Int)->Option Out:=au (λw v=>B1 k w (Q1 k J) J v) k
theorem ja (k:Nat) (J:Arg):s1 k J=r1 k J:=
 funext λc9=>aI _ _ _ (T1 J) _ (λrec v=>by kernel_rfl) k c9
noncomputable def q0 (l1:(ax×Plain×(List Op)×Int)->Option Out) (J:Arg) (cJ:Plain):Option Out:=(am.ab (J.1,J.2.1,())).bind λij=>l1 (ij.2.1,cJ,[((1:Int),(0:Int),((0:Int),(0:Int),(0:Int),([]:List UInt8),()),(0:Int),()),((2:Int),(1:Int),((0:Int),(1:Int),(8:Int),([]:List UInt8),()),(0:Int),()),((2:Int),(1:Int),((0:Int),(2:Int),(8:Int),([]:List UInt8),()),(0:Int),()),((7:Int),(1:Int),((0:Int),(0:Int),(0:Int),([]:List UInt8),()),(0:Int),()),((1:Int),(0:Int),((0:Int),(0:Int),(0:Int),([]:List UInt8),()),(0:Int),()),((1:Int),(0:Int),((0:Int),(0:Int),(0:Int),([]:List UInt8),()),(0:Int),())],ij.1)
noncomputable def Q0 (k:Nat) (J:Arg) (cJ:Plain):Option Out:=q0 (r1 k J) J cJ
theorem mQ (k:Nat) (J:Arg) (cJ:Plain):cV (ai 0 (aG (D.N k [1,1,1,1]) D.K0)) J cJ=Q0 k J cJ:=
 Eq.trans (b:=q0 (s1 k J) J cJ) (by kernel_rfl) (by rw[ja];rfl)
noncomputable def s0 (k:Nat) (J:Arg):(Plain×Int)->Option Out:=λY=>D.L k [1,1,1,0,1,0,0] [0,1,5,6,7] [(5,(.pair (.aa false (.pair .leaf (.pair .leaf (.pair .leaf (.pair .leaf .leaf))))) (.pair (.aa true (.pair .leaf (.pair (.aa false (.pair .leaf (.pair (.pair .leaf (.pair .leaf (.pair .leaf (.pair .leaf .leaf)))) (.pair .leaf (.pair (.pair .leaf (.pair .leaf (.pair .leaf (.pair .leaf .leaf)))) .leaf))))) (.pair (.aa false .leaf) (.pair (.aa false (.pair .leaf (.pair .leaf .leaf))) .leaf))))) (.pair .leaf .leaf))))] (ai 0 (aG (D.N k [1,1,1,1]) D.K0)) (T0 J Y)
noncomputable def r0 (k:Nat) (J:Arg):(Plain×Int)->Option Out:=au (λw v=>B0 k w (Q0 k J) J v) k
theorem aO (k:Nat) (J:Arg):s0 k J=r0 k J:=by
 funext Y;
 have h0:cV (ai 0 (aG (D.N k [1,1,1,1]) D.K0)) J=Q0 k J:=funext λz=>mQ k J z
 refine (aI _ _ _ (T0 J) (λself v=>B0 k self (cV (ai 0 (aG (D.N k [1,1,1,1]) D.K0)) J) J v) (λrec v=>i_ k rec (ai 0 (aG (D.N k [1,1,1,1]) D.K0)) J v) k Y).trans ?_
 rw[h0]
 rfl
noncomputable def p (l0:(Plain×Int)->Option Out) (J:Arg):Option Out:=l0 ((([]:List Row),([]:List Tx),(1:Int),()),(0:Int))
theorem ae (k:Nat) (J:Arg):@Eq (Option Out) (D.W k J) (p (r0 k J) J):=
 Eq.trans (b:=p (s0 k J) J) (by kernel_rfl) (by rw[aO])
theorem ok:Ok prog 80 D.sig:=aw func80 aM (by kernel_rfl) (fc cc.ok (fc cL.ok (fc am.ok (an _))))
end cF
namespace ee
abbrev Arg:Type:=ax×Unit
abbrev Out:Type:=Row×ax×Unit
abbrev ps:PQ:=[(.dt (ah bj) (ah bj),bj)]
noncomputable def D:FD:={ fn:=f46,tl:=be,ps:=ps,rs:=[(aj,(ah aj))],gl:=[(51,am.D.sig),(71,aR.D.sig),(83,da.D.sig)],es:=[0] }
noncomputable def ab (a:Arg):Option Out:=@lift Out λk=>D.W k a
noncomputable def p (J:Arg):Option Out:=(da.ab (J.1,())).bind λr2=>(am.ab (r2.2.1,(12:Int),())).bind λr3=>bif decide (r3.1=(0:Int)) then ((aR.ab (r3.2.1,[(-1:Int),(3:Int),(4:Int)],())).bind λr4=>some ((r4.1,r2.1.2),r4.2.1,())) else bif decide (r3.1=(1:Int)) then ((aR.ab (r3.2.1,[(0:Int),(99:Int),(100:Int)],())).bind λr5=>some ((r2.1.1,r5.1,r2.1.2.2),r5.2.1,())) else bif decide (r3.1=(2:Int)) then ((aR.ab (r3.2.1,[(-1:Int),(1000:Int)],())).bind λr6=>some ((r2.1.1,r2.1.2.1,r6.1,r2.1.2.2.2),r6.2.1,())) else bif decide (r3.1=(3:Int)) then ((am.ab (r3.2.1,(3:Int),())).bind λr7=>if 0<=r7.1/\r7.1 < ([([65]:List UInt8),([97,98,99,100,101,102,103,104,105]:List UInt8),([97,32,98]:List UInt8)].length:Int) then (([([65]:List UInt8),([97,98,99,100,101,102,103,104,105]:List UInt8),([97,32,98]:List UInt8)][r7.1.toNat]?).bind λx8=>some ((r2.1.1,r2.1.2.1,r2.1.2.2.1,x8,r2.1.2.2.2.2),r7.2.1,())) else none) else some (r2.1,r3.2.1,())
theorem ae (k:Nat) (J:Arg):@Eq (Option Out) (D.W k J) (p J):=by kernel_rfl
theorem ok:Ok prog 46 D.sig:=aw func46 aM (by kernel_rfl) (fc am.ok (fc aR.ok (fc da.ok (an _))))
end ee
namespace dg
abbrev Arg:Type:=ax×Unit
abbrev Out:Type:=(List Row)×ax×Unit
abbrev ps:PQ:=[(.dt (ah bj) (ah bj),bj)]
noncomputable def D:FD:={ fn:=f50,tl:=be,ps:=ps,rs:=[((.aa aj),(av (.aa aj)))],gl:=[(51,am.D.sig),(83,da.D.sig),(121,bW.D.sig),(122,cD.D.sig)],es:=[0],lv:=[(3,[0,3,4])],lx:=[(0,[0,3])] }
noncomputable def ab (a:Arg):Option Out:=@lift Out λk=>D.W k a
noncomputable def T0 (J:Arg) (cW:ax×(List Row)×Int):St:={ n:=26,sl:=[(0,.box bj (ah bj) [] cW.1),(3,.own (.aa aj) (av (.aa aj)) [] cW.2.1),(4,.val i64 cW.2.2)],vr:=[],aA:=[(0,0,false)] }
noncomputable def b0 (self:(ax×(List Row)×Int)->Option Out) (e0:(ax×(List Row))->Option Out) (J:Arg) (cW:ax×(List Row)×Int):Option Out:=bif decide ((0:Int) < cW.2.2) then ((da.ab (cW.1,())).bind λbN=>(bW.ab (cW.2.1,bN.1.1,bN.1.2.1,())).bind λiD=>bif decide (iD.1 < (0:Int)) then ((cD.ab (cW.2.1,bN.1,())).bind λij=>self (bN.2.1,ij.1,al (cW.2.2 - (1:Int)))) else self (bN.2.1,cW.2.1,al (cW.2.2 - (1:Int)))) else e0 (cW.1,cW.2.1)
noncomputable abbrev B0 (_:Nat):=b0
noncomputable def q0 (J:Arg) (jT:(ax×(List Row))):Option Out:=some (jT.2,jT.1,())
noncomputable abbrev Q0 (_:Nat):=q0
noncomputable def s0 (k:Nat) (J:Arg):(ax×(List Row)×Int)->Option Out:=λcW=>D.L k [1,1,0,1,0,0] [0,3,4] [] (ai 0 (aG (D.N k [1,1,1]) D.K0)) (T0 J cW)
noncomputable def r0 (k:Nat) (J:Arg):(ax×(List Row)×Int)->Option Out:=au (λw v=>B0 k w (Q0 k J) J v) k
theorem aO (k:Nat) (J:Arg):s0 k J=r0 k J:=
 funext λcW=>aI _ _ _ (T0 J) _ (λrec v=>by kernel_rfl) k cW
noncomputable def p (l0:(ax×(List Row)×Int)->Option Out) (J:Arg):Option Out:=(am.ab (J.1,(7:Int),())).bind λr2=>l0 (r2.2.1,([]:List Row),r2.1)
theorem ae (k:Nat) (J:Arg):@Eq (Option Out) (D.W k J) (p (r0 k J) J):=
 Eq.trans (b:=p (s0 k J) J) (by kernel_rfl) (by rw[aO])
theorem ok:Ok prog 50 D.sig:=aw func50 aM (by kernel_rfl) (fc am.ok (fc da.ok (fc bW.ok (fc cD.ok (an _)))))
end dg
namespace dH
abbrev Arg:Type:=ax×Unit
abbrev Out:Type:=(List Row)×ax×Unit
abbrev ps:PQ:=[(.dt (ah bj) (ah bj),bj)]
noncomputable def D:FD:={ fn:=f81,tl:=be,ps:=ps,rs:=[((.aa aj),(av (.aa aj)))],gl:=[(46,ee.D.sig),(50,dg.D.sig),(51,am.D.sig)],es:=[0] }
noncomputable def ab (a:Arg):Option Out:=@lift Out λk=>D.W k a
noncomputable def p (J:Arg):Option Out:=(dg.ab (J.1,())).bind λr2=>(am.ab (r2.2.1,(10:Int),())).bind λr3=>bif decide (r3.1=(0:Int)) then ((ee.ab (r3.2.1,())).bind λr4=>if r2.1.length+[r4.1].length<=bV then (some (r2.1++[r4.1],r4.2.1,())) else none) else bif decide (r3.1=(1:Int)) then (if 0<=(61:Int)/\(61:Int)<=(61:Int)/\(61:Int)<=(bV:Int) then (some (List.replicate 61 ((0:Int),(0:Int),(0:Int),([]:List UInt8),()),r3.2.1,())) else none) else some (r2.1,r3.2.1,())
theorem ae (k:Nat) (J:Arg):@Eq (Option Out) (D.W k J) (p J):=by kernel_rfl
theorem ok:Ok prog 81 D.sig:=aw func81 aM (by kernel_rfl) (fc ee.ok (fc dg.ok (fc am.ok (an _))))
end dH
namespace ef
abbrev Arg:Type:=ax×Unit
abbrev Out:Type:=(List Row)×ax×Unit
abbrev ps:PQ:=[(.dt (ah bj) (ah bj),bj)]
noncomputable def D:FD:={ fn:=f192,tl:=be,ps:=ps,rs:=[((.aa aj),(av (.aa aj)))],gl:=[(51,am.D.sig),(83,da.D.sig),(121,bW.D.sig),(122,cD.D.sig)],es:=[0],lv:=[(3,[0,3,4])],lx:=[(0,[0,3])] }
noncomputable def ab (a:Arg):Option Out:=@lift Out λk=>D.W k a
noncomputable def T0 (J:Arg) (cW:ax×(List Row)×Int):St:={ n:=42,sl:=[(0,.box bj (ah bj) [] cW.1),(3,.own (.aa aj) (av (.aa aj)) [] cW.2.1),(4,.val i64 cW.2.2)],vr:=[],aA:=[(0,0,false)] }
noncomputable def b0 (self:(ax×(List Row)×Int)->Option Out) (e0:(ax×(List Row))->Option Out) (J:Arg) (cW:ax×(List Row)×Int):Option Out:=bif decide ((0:Int) < cW.2.2) then ((da.ab (cW.1,())).bind λbN=>(am.ab (bN.2.1,(2:Int),())).bind λiD=>let yM:=λ(IT:Row)=>((bW.ab (cW.2.1,IT.1,IT.2.1,())).bind λoN=>bif decide (oN.1 < (0:Int)) then ((cD.ab (cW.2.1,IT,())).bind λwi=>self (iD.2.1,wi.1,al (cW.2.2 - (1:Int)))) else self (iD.2.1,cW.2.1,al (cW.2.2 - (1:Int))):Option Out);bif decide (al ((1:Int)+iD.1)=(2:Int)) then (bif decide ((3:Int) < (bN.1.2.2.2.1.length:Int)) then (yM (al ((1:Int)+iD.1),bN.1.2.1,bN.1.2.2.1,([]:List UInt8),bN.1.2.2.2.2)) else yM (al ((1:Int)+iD.1),bN.1.2)) else yM (al ((1:Int)+iD.1),bN.1.2)) else e0 (cW.1,cW.2.1)
noncomputable abbrev B0 (_:Nat):=b0
noncomputable def q0 (J:Arg) (Nf:(ax×(List Row))):Option Out:=some (Nf.2,Nf.1,())
noncomputable abbrev Q0 (_:Nat):=q0
noncomputable def s0 (k:Nat) (J:Arg):(ax×(List Row)×Int)->Option Out:=λcW=>D.L k [1,1,0,1,0,0] [0,3,4] [] (ai 0 (aG (D.N k [1,1,1]) D.K0)) (T0 J cW)
noncomputable def r0 (k:Nat) (J:Arg):(ax×(List Row)×Int)->Option Out:=au (λw v=>B0 k w (Q0 k J) J v) k
theorem aO (k:Nat) (J:Arg):s0 k J=r0 k J:=
 funext λcW=>aI _ _ _ (T0 J) _ (λrec v=>by kernel_rfl) k cW
noncomputable def p (l0:(ax×(List Row)×Int)->Option Out) (J:Arg):Option Out:=(am.ab (J.1,(6:Int),())).bind λr2=>l0 (r2.2.1,[((0:Int),(1:Int),(8:Int),([]:List UInt8),()),((0:Int),(2:Int),(3:Int),([]:List UInt8),())],r2.1)
theorem ae (k:Nat) (J:Arg):@Eq (Option Out) (D.W k J) (p (r0 k J) J):=
 Eq.trans (b:=p (s0 k J) J) (by kernel_rfl) (by rw[aO])
theorem ok:Ok prog 192 D.sig:=aw func192 aM (by kernel_rfl) (fc am.ok (fc da.ok (fc bW.ok (fc cD.ok (an _)))))
end ef
namespace bO
abbrev Arg:Type:=ax×Unit
abbrev Out:Type:=(List Row)×(List Tx)×ax×Unit
abbrev ps:PQ:=[(.dt (ah bj) (ah bj),bj)]
noncomputable def D:FD:={ fn:=f142,tl:=be,ps:=ps,rs:=[((.aa aj),(av (.aa aj))),((.aa aB),(av (.aa aB)))],gl:=[(27,cR.D.sig),(29,cL.D.sig),(51,am.D.sig),(103,eE.D.sig),(105,dp.D.sig),(109,cx.D.sig),(110,cX.D.sig),(192,ef.D.sig)],es:=[0],lv:=[(4,[0,4,5,6])],lx:=[(0,[0,4,5]),(1,[0,4,5,6])],od:=[(10,[0,1,2,3,5,6,4,7,8])] }
noncomputable def ab (a:Arg):Option Out:=@lift Out λk=>D.W k a
noncomputable def T0 (J:Arg) (dN:ax×(List Row)×(List Tx)×Int):St:={ n:=62,sl:=[(0,.box bj (ah bj) [] dN.1),(4,.own (.aa aj) (av (.aa aj)) [] dN.2.1),(5,.own (.aa aB) (av (.aa aB)) [] dN.2.2.1),(6,.val i64 dN.2.2.2)],vr:=[],aA:=[(0,0,false)] }
noncomputable def b0 (self:(ax×(List Row)×(List Tx)×Int)->Option Out) (e0:(ax×(List Row)×(List Tx))->Option Out) (J:Arg) (dN:ax×(List Row)×(List Tx)×Int):Option Out:=bif decide ((0:Int) < dN.2.2.2) then ((cL.ab (dN.1,dN.2.1,dN.2.2.1,())).bind λiD=>(eE.ab (dN.2.1,dN.2.2.1,iD.1,())).bind λij=>bif !decide (ij.1.1=(0:Int)) then (self (iD.2.1,dN.2.1,dN.2.2.1,al (dN.2.2.2 - (1:Int)))) else bif !ij.1.2.1 then (self (iD.2.1,dN.2.1,dN.2.2.1,al (dN.2.2.2 - (1:Int)))) else (cx.ab (dN.2.1,ij.1.2.2.1,())).bind λmP=>(dp.ab (dN.2.2.1,iD.1.2.1,())).bind λyO=>(cX.ab (dN.2.2.1,yO.1,ij.1.2.2.1,())).bind λE1=>self (iD.2.1,mP.1,E1.1,al (dN.2.2.2 - (1:Int)))) else e0 (dN.1,dN.2.1,dN.2.2.1)
noncomputable abbrev B0 (_:Nat):=b0
noncomputable def q0 (J:Arg) (rh:(ax×(List Row)×(List Tx))):Option Out:=(cR.ab (rh.1,(3:Int),())).bind λwi=>bif wi.1 then (if 0<=(0:Int)/\(0:Int) < (rh.2.2.length:Int) then ((rh.2.2[0]?).bind λNg=>(rh.2.2[0]?).bind λQp=>if 0<=(0:Int)/\(0:Int) < (rh.2.2.length:Int) then ((rh.2.2[0]?).bind λIU=>let Qq:=rh.2.2.set 0 (IU.1,IU.2.1,[(0:Int),(Qp.2.1.length:Int)],IU.2.2.2);some (rh.2.1,Qq,wi.2.1,())) else none) else none) else some (rh.2.1,rh.2.2,wi.2.1,())
noncomputable abbrev Q0 (_:Nat):=q0
noncomputable def s0 (k:Nat) (J:Arg):(ax×(List Row)×(List Tx)×Int)->Option Out:=λdN=>D.L k [1,1,1,0,1,0,0] [0,4,5,6] [] (ai 0 (aG (D.N k [1,1,1,1]) D.K0)) (T0 J dN)
noncomputable def r0 (k:Nat) (J:Arg):(ax×(List Row)×(List Tx)×Int)->Option Out:=au (λw v=>B0 k w (Q0 k J) J v) k
theorem aO (k:Nat) (J:Arg):s0 k J=r0 k J:=
 funext λdN=>aI _ _ _ (T0 J) _ (λrec v=>by kernel_rfl) k dN
noncomputable def p (l0:(ax×(List Row)×(List Tx)×Int)->Option Out) (J:Arg):Option Out:=(ef.ab (J.1,())).bind λr2=>(am.ab (r2.2.1,(9:Int),())).bind λr3=>l0 (r3.2.1,r2.1,[((1:Int),([]:List Change),([]:List Int),([]:List Key),()),((2:Int),([]:List Change),([]:List Int),([]:List Key),())],r3.1)
theorem ae (k:Nat) (J:Arg):@Eq (Option Out) (D.W k J) (p (r0 k J) J):=
 Eq.trans (b:=p (s0 k J) J) (by kernel_rfl) (by rw[aO])
theorem ok:Ok prog 142 D.sig:=aw func142 aM (by kernel_rfl) (fc cR.ok (fc cL.ok (fc am.ok (fc eE.ok (fc dp.ok (fc cx.ok (fc cX.ok (fc ef.ok (an _)))))))))
end bO
namespace gj
abbrev Arg:Type:=ax×Unit
abbrev Out:Type:=(List Row)×(List Tx)×ax×Unit
abbrev ps:PQ:=[(.dt (ah bj) (ah bj),bj)]
noncomputable def D:FD:={ fn:=f82,tl:=be,ps:=ps,rs:=[((.aa aj),(av (.aa aj))),((.aa aB),(av (.aa aB)))],gl:=[(46,ee.D.sig),(51,am.D.sig),(71,aR.D.sig),(81,dH.D.sig),(142,bO.D.sig)],es:=[0],fz:=[(14,9,2)],od:=[(6,[0,1,2,3,4,5,6,7,8,9,10,11,12]),(8,[0,1,2,3,4,5,6,7,8,9,10,11,12]),(14,[0,1,2,3,4,5,6,7,8,9,10,11,12])],er:=[(6,[(4,9)]),(8,[(4,9)])] }
noncomputable def ab (a:Arg):Option Out:=@lift Out λk=>D.W k a
noncomputable def p (J:Arg):Option Out:=(bO.ab (J.1,())).bind λr2=>(am.ab (r2.2.2.1,(14:Int),())).bind λr3=>bif decide (r3.1=(0:Int)) then ((aR.ab (r3.2.1,[(1:Int),(3:Int),(100:Int)],())).bind λr4=>(am.ab (r4.2.1,(5:Int),())).bind λr5=>if r2.2.1.length+[(r4.1,([]:List Change),([]:List Int),[((1:Int),r5.1,())],())].length<=bV then (let y6:=r2.2.1++[(r4.1,([]:List Change),([]:List Int),[((1:Int),r5.1,())],())];some (r2.1,y6,r5.2.1,())) else none) else bif decide (r3.1=(1:Int)) then (if 0<=(0:Int)/\(0:Int) < (r2.2.1.length:Int) then ((r2.2.1[0]?).bind λx7=>(aR.ab (r3.2.1,[(0:Int),(9:Int),(-1:Int)],())).bind λr8=>(r2.2.1[0]?).bind λx9=>(r2.2.1[0]?).bind λvy=>if x9.2.2.1.length+[r8.1].length<=bV then (if 0<=(0:Int)/\(0:Int) < ((r2.2.1.set 0 vy).length:Int) then (if 0=0 then ((r2.2.1.set 0 vy)[0]?).bind λzD=>let Nh:=(r2.2.1.set 0 vy).set 0 (zD.1,zD.2.1,x9.2.2.1++[r8.1],zD.2.2.2);some (r2.1,Nh,r8.2.1,()) else none) else none) else none) else none) else bif decide (r3.1=(2:Int)) then (if 0<=(1:Int)/\(1:Int) < (r2.2.1.length:Int) then ((r2.2.1[1]?).bind λud=>(ee.ab (r3.2.1,())).bind λHg=>(r2.2.1[1]?).bind λxF=>(r2.2.1[1]?).bind λqb=>if xF.2.1.length+[(false,((0:Int),(0:Int),(0:Int),([]:List UInt8),()),true,Hg.1,())].length<=bV then (let vz:=xF.2.1++[(false,((0:Int),(0:Int),(0:Int),([]:List UInt8),()),true,Hg.1,())];if 0<=(1:Int)/\(1:Int) < ((r2.2.1.set 1 qb).length:Int) then (if 1=1 then ((r2.2.1.set 1 qb)[1]?).bind λNi=>let R8:=(r2.2.1.set 1 qb).set 1 (Ni.1,vz,Ni.2.2);some (r2.1,R8,Hg.2.1,()) else none) else none) else none) else none) else bif decide (r3.1=(3:Int)) then (if 0<=(5:Int)/\(5:Int)<=(5:Int)/\(5:Int)<=(bV:Int) then (some (r2.1,List.replicate 5 ((0:Int),([]:List Change),([]:List Int),([]:List Key),()),r3.2.1,())) else none) else bif decide (r3.1=(4:Int)) then ((dH.ab (r3.2.1,())).bind λPo=>some (Po.1,r2.2.1,Po.2.1,())) else bif decide (r3.1=(5:Int)) then (if 0<=(1:Int)/\(1:Int) < (r2.2.1.length:Int) then ((r2.2.1[1]?).bind λNj=>if 0<=(0:Int)/\(0:Int) < (r2.2.1.length:Int) then ((r2.2.1[0]?).bind λKu=>(r2.2.1[0]?).bind λMP=>(r2.2.1[0]?).bind λKp=>(r2.2.1[1]?).bind λDM=>(r2.2.1[1]?).bind λNk=>if DM.2.2.2.1.length+MP.2.2.2.1.length<=bV then (if 0<=(1:Int)/\(1:Int) < ((r2.2.1.set 1 Nk).length:Int) then (if 1=1 then ((r2.2.1.set 1 Nk)[1]?).bind λKv=>let R9:=(r2.2.1.set 1 Nk).set 1 (Kv.1,Kv.2.1,Kv.2.2.1,DM.2.2.2.1++MP.2.2.2.1,Kv.2.2.2.2);some (r2.1,R9,r3.2.1,()) else none) else none) else none) else none) else none) else some (r2.1,r2.2.1,r3.2.1,())
theorem ae (k:Nat) (J:Arg):@Eq (Option Out) (D.W k J) (p J):=by kernel_rfl
theorem ok:Ok prog 82 D.sig:=aw func82 aM (by kernel_rfl) (fc ee.ok (fc am.ok (fc aR.ok (fc dH.ok (fc bO.ok (an _))))))
end gj
namespace gM
abbrev Arg:Type:=ax×Unit
abbrev Out:Type:=Plain×ax×Unit
abbrev ps:PQ:=[(.dt (ah bj) (ah bj),bj)]
noncomputable def D:FD:={ fn:=f26,tl:=be,ps:=ps,rs:=[(bJ,(ah bJ))],gl:=[(51,am.D.sig),(71,aR.D.sig),(79,dx.D.sig),(80,cF.D.sig),(81,dH.D.sig),(82,gj.D.sig)],es:=[0] }
noncomputable def ab (a:Arg):Option Out:=@lift Out λk=>D.W k a
noncomputable def p (J:Arg):Option Out:=(cF.ab (J.1,(16:Int),())).bind λr2=>(dx.ab (r2.1,())).bind λr3=>(am.ab (r2.2.1,(14:Int),())).bind λr4=>bif decide (r4.1=(0:Int)) then ((aR.ab (r4.2.1,[(0:Int),(1:Int),(100:Int),(101:Int)],())).bind λr5=>some ((r3.1.2.2.2.1.1,r3.1.2.2.2.1.2.1,r5.1,r3.1.2.2.2.1.2.2.2),r5.2.1,())) else bif decide (r4.1=(1:Int)) then ((dH.ab (r4.2.1,())).bind λr6=>some ((r6.1,r3.1.2.2.2.1.2),r6.2.1,())) else bif decide (r4.1=(2:Int)) then ((gj.ab (r4.2.1,())).bind λr7=>some ((r3.1.2.2.2.1.1,r7.2.1,r3.1.2.2.2.1.2.2),r7.2.2.1,())) else some (r3.1.2.2.2.1,r4.2.1,())
theorem ae (k:Nat) (J:Arg):@Eq (Option Out) (D.W k J) (p J):=by kernel_rfl
theorem ok:Ok prog 26 D.sig:=aw func26 aM (by kernel_rfl) (fc am.ok (fc aR.ok (fc dx.ok (fc cF.ok (fc dH.ok (fc gj.ok (an _)))))))
end gM
namespace gN
abbrev Arg:Type:=ax×Unit
abbrev Out:Type:=Op×ax×Unit
abbrev ps:PQ:=[(.dt (ah bj) (ah bj),bj)]
noncomputable def D:FD:={ fn:=f28,tl:=be,ps:=ps,rs:=[(fm,(ah fm))],gl:=[(29,cL.D.sig),(46,ee.D.sig),(51,am.D.sig),(71,aR.D.sig)],es:=[0] }
noncomputable def ab (a:Arg):Option Out:=@lift Out λk=>D.W k a
noncomputable def p (J:Arg):Option Out:=(cL.ab (J.1,([]:List Row),([]:List Tx),())).bind λr2=>(am.ab (r2.2.1,(10:Int),())).bind λr3=>bif decide (r3.1=(0:Int)) then ((aR.ab (r3.2.1,[(0:Int),(10:Int),(4:Int),(2:Int)],())).bind λr4=>some ((r4.1,r2.1.2),r4.2.1,())) else bif decide (r3.1=(1:Int)) then ((aR.ab (r3.2.1,[(0:Int),(99:Int),(100:Int)],())).bind λr5=>some ((r2.1.1,r5.1,r2.1.2.2),r5.2.1,())) else bif decide (r3.1=(2:Int)) then ((aR.ab (r3.2.1,[(-1:Int),(7:Int),(8:Int)],())).bind λr6=>some ((r2.1.1,r2.1.2.1,r2.1.2.2.1,r6.1,r2.1.2.2.2.2),r6.2.1,())) else bif decide (r3.1=(3:Int)) then ((ee.ab (r3.2.1,())).bind λr7=>some ((r2.1.1,r2.1.2.1,r7.1,r2.1.2.2.2),r7.2.1,())) else some (r2.1,r3.2.1,())
theorem ae (k:Nat) (J:Arg):@Eq (Option Out) (D.W k J) (p J):=by kernel_rfl
theorem ok:Ok prog 28 D.sig:=aw func28 aM (by kernel_rfl) (fc cL.ok (fc ee.ok (fc am.ok (fc aR.ok (an _)))))
end gN
namespace eW
abbrev Arg:Type:=(List UInt8)×Unit
abbrev Out:Type:=Plain×Op×Unit
abbrev ps:PQ:=[(.ro,(.aa u8))]
noncomputable def D:FD:={ fn:=f7,tl:=be,ps:=ps,rs:=[(bJ,(ah bJ)),(fm,(ah fm))],gl:=[(25,iV.D.sig),(26,gM.D.sig),(27,cR.D.sig),(28,gN.D.sig),(29,cL.D.sig)],od:=[(4,[0,1,2,3,4]),(5,[0,1,2,3,4,5,6,7,8])],ar:=[(4,[0]),(5,[0,3,5])],bx:=[(4,[5]),(5,[5])] }
noncomputable def ab (a:Arg):Option Out:=@lift Out λk=>D.W k a
noncomputable def p (J:Arg):Option Out:=(iV.ab (J.1,())).bind λr2=>(gM.ab (r2.1,())).bind λr3=>(cR.ab (r3.2.1,(12:Int),())).bind λr4=>bif r4.1 then ((gN.ab (r4.2.1,())).bind λr5=>some (r3.1,r5.1,())) else (cL.ab (r4.2.1,r3.1.1,r3.1.2.1,())).bind λr6=>some (r3.1,r6.1,())
theorem ae (k:Nat) (J:Arg):@Eq (Option Out) (D.W k J) (p J):=by kernel_rfl
theorem ok:Ok prog 7 D.sig:=aw func7 aM (by kernel_rfl) (fc iV.ok (fc gM.ok (fc cR.ok (fc gN.ok (fc cL.ok (an _))))))
end eW
namespace cd
abbrev Arg:Type:=(List Row)×Unit
abbrev Out:Type:=(List Row)×Unit
abbrev ps:PQ:=[(.ro,(.aa aj))]
noncomputable def D:FD:={ fn:=f87,tl:=be,ps:=ps,rs:=[((.aa aj),(av (.aa aj)))] }
noncomputable def ab (a:Arg):Option Out:=@lift Out λk=>D.W k a
noncomputable def p (J:Arg):Option Out:=qR J.1 (some (([]:List Row),())) (if ([]:List Row).length+J.1.length<=bV then (some (([]:List Row)++J.1,())) else none)
theorem ae (k:Nat) (J:Arg):@Eq (Option Out) (D.W k J) (p J):=by kernel_rfl
theorem ok:Ok prog 87 D.sig:=aw func87 aM (by kernel_rfl) (an _)
end cd
namespace cA
abbrev Arg:Type:=Int×Int×Int×Unit
abbrev Out:Type:=Bool×Unit
abbrev ps:PQ:=[(.ro,i64),(.ro,i64),(.ro,i64)]
noncomputable def D:FD:={ fn:=f43,tl:=be,ps:=ps,rs:=[(.bool,(ah .bool))] }
noncomputable def ab (a:Arg):Option Out:=@lift Out λk=>D.W k a
noncomputable def p (J:Arg):Option Out:=bif decide (J.2.1<=J.1) then (some (decide (J.1<=J.2.2.1),())) else some (false,())
theorem ae (k:Nat) (J:Arg):@Eq (Option Out) (D.W k J) (p J):=by kernel_rfl
theorem ok:Ok prog 43 D.sig:=aw func43 aM (by kernel_rfl) (an _)
end cA
namespace bA
abbrev Arg:Type:=Row×Unit
abbrev Out:Type:=Int×Unit
abbrev ps:PQ:=[(.ro,aj)]
noncomputable def D:FD:={ fn:=f111,tl:=be,ps:=ps,rs:=[(i64,(ah i64))],gl:=[(43,cA.D.sig)],lv:=[(6,[1,26,27])],lx:=[(0,[])] }
noncomputable def ab (a:Arg):Option Out:=@lift Out λk=>D.W k a
noncomputable def T0 (J:Arg) (ik:Int):St:={ n:=43,sl:=[(1,.box aj (ah aj) [] J.1),(26,.val i64 (J.1.2.2.2.1.length:Int)),(27,.val i64 ik)],vr:=[],aA:=[] }
noncomputable def b0 (self:Int->Option Out) (e0:(Unit)->Option Out) (J:Arg) (ik:Int):Option Out:=bif decide (ik < (J.1.2.2.2.1.length:Int)) then (if 0<=ik then ((J.1.2.2.2.1[ik.toNat]?).bind λwh=>bif decide ((wh.toNat:Int) < (97:Int)) then (some ((5:Int),())) else if 0<=ik then ((J.1.2.2.2.1[ik.toNat]?).bind λQr=>bif decide ((122:Int) < (Qr.toNat:Int)) then (some ((5:Int),())) else self (al (ik+(1:Int)))) else none) else none) else e0 ()
noncomputable abbrev B0 (_:Nat):=b0
noncomputable def q0 (J:Arg) (EY:(Unit)):Option Out:=some ((0:Int),())
noncomputable abbrev Q0 (_:Nat):=q0
noncomputable def s0 (k:Nat) (J:Arg):(Int)->Option Out:=λik=>D.L k [1,1,1,0,1,0,0] [1,26,27] [] (ai 0 (aG (D.N k [1,1,1,1]) D.K0)) (T0 J ik)
noncomputable def r0 (k:Nat) (J:Arg):(Int)->Option Out:=au (λw v=>B0 k w (Q0 k J) J v) k
theorem aO (k:Nat) (J:Arg):s0 k J=r0 k J:=
 funext λik=>aI _ _ _ (T0 J) _ (λrec v=>by kernel_rfl) k ik
noncomputable def p (l0:(Int)->Option Out) (J:Arg):Option Out:=(cA.ab (J.1.1,(0:Int),(3:Int),())).bind λr2=>bif !r2.1 then (some ((3:Int),())) else (cA.ab (J.1.2.1,(1:Int),(99:Int),())).bind λr3=>bif !r3.1 then (some ((3:Int),())) else (cA.ab (J.1.2.2.1,(0:Int),(999:Int),())).bind λr4=>bif !r4.1 then (some ((3:Int),())) else bif decide ((8:Int) < (J.1.2.2.2.1.length:Int)) then (some ((5:Int),())) else l0 (0:Int)
theorem ae (k:Nat) (J:Arg):@Eq (Option Out) (D.W k J) (p (r0 k J) J):=
 Eq.trans (b:=p (s0 k J) J) (by kernel_rfl) (by rw[aO])
theorem ok:Ok prog 111 D.sig:=aw func111 aM (by kernel_rfl) (fc cA.ok (an _))
end bA
namespace eF
abbrev Arg:Type:=Row×Row×Unit
abbrev Out:Type:=Bool×Unit
abbrev ps:PQ:=[(.ro,aj),(.ro,aj)]
noncomputable def D:FD:={ fn:=f112,tl:=be,ps:=ps,rs:=[(.bool,(ah .bool))] }
noncomputable def ab (a:Arg):Option Out:=@lift Out λk=>D.W k a
noncomputable def p (J:Arg):Option Out:=bif decide (J.1.1 < J.2.1.1) then (some (true,())) else bif decide (J.1.1=J.2.1.1) then (some (decide (J.1.2.1 < J.2.1.2.1),())) else some (false,())
theorem ae (k:Nat) (J:Arg):@Eq (Option Out) (D.W k J) (p J):=by kernel_rfl
theorem ok:Ok prog 112 D.sig:=aw func112 aM (by kernel_rfl) (an _)
end eF
namespace bC
abbrev Arg:Type:=(List Row)×Unit
abbrev Out:Type:=Int×Unit
abbrev ps:PQ:=[(.ro,(.aa aj))]
noncomputable def D:FD:={ fn:=f41,tl:=be,ps:=ps,rs:=[(i64,(ah i64))],gl:=[(111,bA.D.sig),(112,eF.D.sig)],lv:=[(4,[0,9,10,11])],lx:=[(0,[])],od:=[(9,[0,1,2,3,4,5,6,7,8,9,10,11])] }
noncomputable def ab (a:Arg):Option Out:=@lift Out λk=>D.W k a
noncomputable def T0 (J:Arg) (Y:Int):St:={ n:=34,sl:=[(0,.val (.aa aj) J.1),(9,.val (.aa aj) J.1),(10,.val i64 (J.1.length:Int)),(11,.val i64 Y)],vr:=[],aA:=[] }
noncomputable def b0 (self:Int->Option Out) (e0:(Unit)->Option Out) (J:Arg) (Y:Int):Option Out:=bif decide (Y < (J.1.length:Int)) then (if 0<=Y then ((J.1[Y.toNat]?).bind λaT=>(bA.ab (aT,())).bind λbN=>bif !decide (bN.1=(0:Int)) then (some (bN.1,())) else bif decide ((0:Int) < Y) then (if 0<=al (Y - (1:Int)) then ((J.1[(al (Y - (1:Int))).toNat]?).bind λjS=>(eF.ab (jS,aT,())).bind λij=>bif !ij.1 then (some ((1:Int),())) else self (al (Y+(1:Int)))) else none) else self (al (Y+(1:Int)))) else none) else e0 ()
noncomputable abbrev B0 (_:Nat):=b0
noncomputable def q0 (J:Arg) (jT:(Unit)):Option Out:=some ((0:Int),())
noncomputable abbrev Q0 (_:Nat):=q0
noncomputable def s0 (k:Nat) (J:Arg):(Int)->Option Out:=λY=>D.L k [1,1,0,1,0,0] [0,9,10,11] [] (ai 0 (aG (D.N k [1,1,1]) D.K0)) (T0 J Y)
noncomputable def r0 (k:Nat) (J:Arg):(Int)->Option Out:=au (λw v=>B0 k w (Q0 k J) J v) k
theorem aO (k:Nat) (J:Arg):s0 k J=r0 k J:=
 funext λY=>aI _ _ _ (T0 J) _ (λrec v=>by kernel_rfl) k Y
noncomputable def p (l0:(Int)->Option Out) (J:Arg):Option Out:=bif decide ((60:Int) < (J.1.length:Int)) then (some ((2:Int),())) else l0 (0:Int)
theorem ae (k:Nat) (J:Arg):@Eq (Option Out) (D.W k J) (p (r0 k J) J):=
 Eq.trans (b:=p (s0 k J) J) (by kernel_rfl) (by rw[aO])
theorem ok:Ok prog 41 D.sig:=aw func41 aM (by kernel_rfl) (fc bA.ok (fc eF.ok (an _)))
end bC
namespace fy
abbrev Arg:Type:=Row×Row×Unit
abbrev Out:Type:=Int×Unit
abbrev ps:PQ:=[(.ro,aj),(.ro,aj)]
noncomputable def D:FD:={ fn:=f129,tl:=be,ps:=ps,rs:=[(i64,(ah i64))],gl:=[(112,eF.D.sig)] }
noncomputable def ab (a:Arg):Option Out:=@lift Out λk=>D.W k a
noncomputable def p (J:Arg):Option Out:=(eF.ab (J.1,J.2.1,())).bind λr2=>bif r2.1 then (some ((-1:Int),())) else (eF.ab (J.2.1,J.1,())).bind λr3=>bif r3.1 then (some ((1:Int),())) else some ((0:Int),())
theorem ae (k:Nat) (J:Arg):@Eq (Option Out) (D.W k J) (p J):=by kernel_rfl
theorem ok:Ok prog 129 D.sig:=aw func129 aM (by kernel_rfl) (fc eF.ok (an _))
end fy
namespace dj
abbrev Arg:Type:=Change×Unit
abbrev Out:Type:=Int×Unit
abbrev ps:PQ:=[(.ro,ay)]
noncomputable def D:FD:={ fn:=f53,tl:=be,ps:=ps,rs:=[(i64,(ah i64))],gl:=[(111,bA.D.sig),(129,fy.D.sig)] }
noncomputable def ab (a:Arg):Option Out:=@lift Out λk=>D.W k a
noncomputable def p (J:Arg):Option Out:=let j7:Option Out:=bif J.1.1 then ((bA.ab (J.1.2.1,())).bind λr8=>bif !decide (r8.1=(0:Int)) then (some (r8.1,())) else bif J.1.2.2.1 then ((bA.ab (J.1.2.2.2.1,())).bind λkm=>some (km.1,())) else some ((0:Int),())) else bif J.1.2.2.1 then ((bA.ab (J.1.2.2.2.1,())).bind λmR=>some (mR.1,())) else some ((0:Int),());bif !J.1.1 then (bif !J.1.2.2.1 then (some ((1:Int),())) else bif J.1.1 then (bif J.1.2.2.1 then ((fy.ab (J.1.2.1,J.1.2.2.2.1,())).bind λr2=>bif !decide (r2.1=(0:Int)) then (some ((1:Int),())) else j7) else j7) else j7) else bif J.1.1 then (bif J.1.2.2.1 then ((fy.ab (J.1.2.1,J.1.2.2.2.1,())).bind λr3=>bif !decide (r3.1=(0:Int)) then (some ((1:Int),())) else j7) else j7) else j7
theorem ae (k:Nat) (J:Arg):@Eq (Option Out) (D.W k J) (p J):=by kernel_rfl
theorem ok:Ok prog 53 D.sig:=aw func53 aM (by kernel_rfl) (fc bA.ok (fc fy.ok (an _)))
end dj
namespace bu
abbrev Arg:Type:=Change×Unit
abbrev Out:Type:=Row×Unit
abbrev ps:PQ:=[(.ro,ay)]
noncomputable def D:FD:={ fn:=f58,tl:=be,ps:=ps,rs:=[(aj,(ah aj))] }
noncomputable def ab (a:Arg):Option Out:=@lift Out λk=>D.W k a
noncomputable def p (J:Arg):Option Out:=bif J.1.2.2.1 then (some (J.1.2.2.2.1,())) else some (J.1.2.1,())
theorem ae (k:Nat) (J:Arg):@Eq (Option Out) (D.W k J) (p J):=by kernel_rfl
theorem ok:Ok prog 58 D.sig:=aw func58 aM (by kernel_rfl) (an _)
end bu
namespace az
abbrev Arg:Type:=(List Row)×Row×(Nat×Int)×Unit
abbrev Out:Type:=Int×Bool×Unit
abbrev ps:PQ:=[(.ro,(.aa aj)),(.ro,aj),(.fix 129,.fn)]
noncomputable def D:FD:={ fn:=f130,tl:=be,ps:=ps,rs:=[(i64,(ah i64)),(.bool,(ah .bool))],gl:=[(129,fy.D.sig)],lv:=[(3,[0,2,4,8,9,10])],lx:=[(0,[0,2,4,8,9])],od:=[(5,[0,1,2,3,4,5,6,7]),(8,[0,1,2,3,4,5,6,7,8,9,10,11,12,13,14,15])] }
noncomputable def ab (a:Arg):Option Out:=@lift Out λk=>D.W k a
noncomputable def T0 (J:Arg) (Y:Int×Int):St:={ n:=49,sl:=[(0,.val (.aa aj) J.1),(2,.val .fn ((129,J.2.2.1.2):Nat×Int)),(4,.box aj (ah aj) [] J.2.1),(8,.val i64 (J.1.length:Int)),(9,.val i64 Y.1),(10,.val i64 Y.2)],vr:=[],aA:=[] }
noncomputable def b0 (self:(Int×Int)->Option Out) (e0:Int->Option Out) (J:Arg) (Y:Int×Int):Option Out:=bif decide (Y.1 < Y.2) then (if 0<=al ((IntKind.wrap .u64 (al (Y.1+Y.2))).fdiv (2 ^ 1)) then ((J.1[(al ((IntKind.wrap .u64 (al (Y.1+Y.2))).fdiv (2 ^ 1))).toNat]?).bind λaT=>(fy.ab (aT,J.2.1,())).bind λbN=>bif decide (bN.1 < (0:Int)) then (self (al ((al ((IntKind.wrap .u64 (al (Y.1+Y.2))).fdiv (2 ^ 1)))+(1:Int)),Y.2)) else self (Y.1,al ((IntKind.wrap .u64 (al (Y.1+Y.2))).fdiv (2 ^ 1)))) else none) else e0 Y.1
noncomputable abbrev B0 (_:Nat):=b0
noncomputable def q0 (J:Arg) (cJ:Int):Option Out:=bif decide (cJ < (J.1.length:Int)) then (if 0<=cJ then ((J.1[cJ.toNat]?).bind λwh=>(fy.ab (wh,J.2.1,())).bind λmP=>some (cJ,decide (mP.1=(0:Int)),())) else none) else some (cJ,false,())
noncomputable abbrev Q0 (_:Nat):=q0
noncomputable def s0 (k:Nat) (J:Arg):(Int×Int)->Option Out:=λY=>D.L k [1,1,1,0,0,0] [0,2,4,8,9,10] [] (ai 0 (aG (D.N k [1,1,1,1]) D.K0)) (T0 J Y)
noncomputable def r0 (k:Nat) (J:Arg):(Int×Int)->Option Out:=au (λw v=>B0 k w (Q0 k J) J v) k
theorem aO (k:Nat) (J:Arg):s0 k J=r0 k J:=
 funext λY=>aI _ _ _ (T0 J) _ (λrec v=>by kernel_rfl) k Y
noncomputable def p (l0:(Int×Int)->Option Out) (J:Arg):Option Out:=l0 ((0:Int),(J.1.length:Int))
theorem ae (k:Nat) (J:Arg):@Eq (Option Out) (D.W k J) (p (r0 k J) J):=
 Eq.trans (b:=p (s0 k J) J) (by kernel_rfl) (by rw[aO])
theorem ok:Ok prog 130 D.sig:=aw func130 aM (by kernel_rfl) (fc fy.ok (an _))
end az
namespace eX
abbrev Arg:Type:=Change×(List Row)×Unit
abbrev Out:Type:=Bool×Unit
abbrev ps:PQ:=[(.ro,ay),(.ro,(.aa aj))]
noncomputable def D:FD:={ fn:=f54,tl:=be,ps:=ps,rs:=[(.bool,(ah .bool))],gl:=[(58,bu.D.sig),(130,az.D.sig)],od:=[(2,[0,1,2,3,4,5,6,7,8,9,10,11,12,13,14,15,16,17])] }
noncomputable def ab (a:Arg):Option Out:=@lift Out λk=>D.W k a
noncomputable def p (J:Arg):Option Out:=(bu.ab (J.1,())).bind λr2=>(az.ab (J.2.1,r2.1,((129,0):Nat×Int),())).bind λr3=>bif (r3.2.1 == J.1.1) then (bif !r3.2.1 then (some (true,())) else if 0<=r3.1 then ((J.2.1[r3.1.toNat]?).bind λx4=>some ((Ty.eq aj x4 J.1.2.1),())) else none) else some (false,())
theorem ae (k:Nat) (J:Arg):@Eq (Option Out) (D.W k J) (p J):=by kernel_rfl
theorem ok:Ok prog 54 D.sig:=aw func54 aM (by kernel_rfl) (fc bu.ok (fc az.ok (an _)))
end eX
namespace gO
abbrev Arg:Type:=(List Row)×Change×Unit
abbrev Out:Type:=(List Row)×Unit
abbrev ps:PQ:=[(.ro,(.aa aj)),(.ro,ay)]
noncomputable def D:FD:={ fn:=f150,tl:=be,ps:=ps,rs:=[((.aa aj),(av (.aa aj)))],gl:=[(58,bu.D.sig),(130,az.D.sig)] }
noncomputable def ab (a:Arg):Option Out:=@lift Out λk=>D.W k a
noncomputable def p (J:Arg):Option Out:=(bu.ab (J.2.1,())).bind λr2=>(az.ab (J.1,r2.1,((129,0):Nat×Int),())).bind λr3=>if 0<=r3.1/\r3.1<=(J.1.length:Int) then (if ([]:List Row).length+((J.1.take r3.1.toNat).drop 0).length<=bV then (let y4:=([]:List Row)++((J.1.take r3.1.toNat).drop 0);let j8:=λ(p7:List Row)=>(let Hh:=λ(Kw:Int)=>(if 0<=Kw/\Kw<=(J.1.length:Int) then (if p7.length+((J.1.take J.1.length).drop Kw.toNat).length<=bV then (let Nh:=p7++((J.1.take J.1.length).drop Kw.toNat);some (Nh,())) else none) else none:Option Out);bif r3.2.1 then (Hh (al (r3.1+(1:Int)))) else Hh r3.1:Option Out);bif J.2.1.2.2.1 then (if y4.length+[J.2.1.2.2.2.1].length<=bV then (j8 (y4++[J.2.1.2.2.2.1])) else none) else j8 y4) else none) else none
theorem ae (k:Nat) (J:Arg):@Eq (Option Out) (D.W k J) (p J):=by kernel_rfl
theorem ok:Ok prog 150 D.sig:=aw func150 aM (by kernel_rfl) (fc bu.ok (fc az.ok (an _)))
end gO
namespace bD
abbrev Arg:Type:=(List Row)×(List Change)×Unit
abbrev Out:Type:=lj×Unit
abbrev ps:PQ:=[(.ro,(.aa aj)),(.ro,(.aa ay))]
noncomputable def D:FD:={ fn:=f89,tl:=be,ps:=ps,rs:=[(jk,(av jk))],gl:=[(41,bC.D.sig),(53,dj.D.sig),(54,eX.D.sig),(87,cd.D.sig),(150,gO.D.sig)],lv:=[(6,[4,6,18,19,20])],lx:=[(0,[4,6])] }
noncomputable def ab (a:Arg):Option Out:=@lift Out λk=>D.W k a
noncomputable def T0 (J:Arg) (dN:(List Row)×Int):St:={ n:=45,sl:=[(4,.box jk (av jk) [] ((0:Int),([]:List Row),())),(6,.own (.aa aj) (av (.aa aj)) [] dN.1),(18,.val (.aa ay) J.2.1),(19,.val i64 (J.2.1.length:Int)),(20,.val i64 dN.2)],vr:=[],aA:=[] }
noncomputable def b0 (self:((List Row)×Int)->Option Out) (e0:(List Row)->Option Out) (J:Arg) (dN:(List Row)×Int):Option Out:=bif decide (dN.2 < (J.2.1.length:Int)) then (if 0<=dN.2 then ((J.2.1[dN.2.toNat]?).bind λjS=>(dj.ab (jS,())).bind λij=>bif !decide (ij.1=(0:Int)) then (some ((ij.1,([]:List Row),()),())) else (eX.ab (jS,dN.1,())).bind λmP=>bif !mP.1 then (some (((8:Int),([]:List Row),()),())) else (gO.ab (dN.1,jS,())).bind λyO=>self (yO.1,al (dN.2+(1:Int)))) else none) else e0 dN.1
noncomputable abbrev B0 (_:Nat):=b0
noncomputable def q0 (J:Arg) (ri:(List Row)):Option Out:=bif decide ((60:Int) < (ri.length:Int)) then (some (((2:Int),([]:List Row),()),())) else some (((0:Int),ri,()),())
noncomputable abbrev Q0 (_:Nat):=q0
noncomputable def s0 (k:Nat) (J:Arg):((List Row)×Int)->Option Out:=λdN=>D.L k [1,1,1,0,1,0,0] [4,6,18,19,20] [] (ai 0 (aG (D.N k [1,1,1,1]) D.K0)) (T0 J dN)
noncomputable def r0 (k:Nat) (J:Arg):((List Row)×Int)->Option Out:=au (λw v=>B0 k w (Q0 k J) J v) k
theorem aO (k:Nat) (J:Arg):s0 k J=r0 k J:=
 funext λdN=>aI _ _ _ (T0 J) _ (λrec v=>by kernel_rfl) k dN
noncomputable def p (l0:((List Row)×Int)->Option Out) (J:Arg):Option Out:=(bC.ab (J.1,())).bind λr2=>bif !decide (r2.1=(0:Int)) then (some ((r2.1,([]:List Row),()),())) else (cd.ab (J.1,())).bind λr3=>l0 (r3.1,(0:Int))
theorem ae (k:Nat) (J:Arg):@Eq (Option Out) (D.W k J) (p (r0 k J) J):=
 Eq.trans (b:=p (s0 k J) J) (by kernel_rfl) (by rw[aO])
theorem ok:Ok prog 89 D.sig:=aw func89 aM (by kernel_rfl) (fc bC.ok (fc dj.ok (fc eX.ok (fc cd.ok (fc gO.ok (an _))))))
end bD
namespace dk
abbrev Arg:Type:=(List Change)×Unit
abbrev Out:Type:=(List Change)×Unit
abbrev ps:PQ:=[(.ro,(.aa ay))]
noncomputable def D:FD:={ fn:=f95,tl:=be,ps:=ps,rs:=[((.aa ay),(av (.aa ay)))],lv:=[(3,[0,3,4])],lx:=[(0,[3])] }
noncomputable def ab (a:Arg):Option Out:=@lift Out λk=>D.W k a
noncomputable def T0 (J:Arg) (Y:(List Change)×Int):St:={ n:=30,sl:=[(0,.val (.aa ay) J.1),(3,.own (.aa ay) (av (.aa ay)) [] Y.1),(4,.val i64 Y.2)],vr:=[],aA:=[] }
noncomputable def b0 (self:((List Change)×Int)->Option Out) (e0:(List Change)->Option Out) (J:Arg) (Y:(List Change)×Int):Option Out:=bif decide ((0:Int)<=Y.2) then (if 0<=Y.2 then ((J.1[Y.2.toNat]?).bind λaT=>if Y.1.length+[(aT.2.2.1,aT.2.2.2.1,aT.1,aT.2.1,())].length<=bV then (let BQ:=Y.1++[(aT.2.2.1,aT.2.2.2.1,aT.1,aT.2.1,())];self (BQ,al (Y.2 - (1:Int)))) else none) else none) else e0 Y.1
noncomputable abbrev B0 (_:Nat):=b0
noncomputable def q0 (J:Arg) (cJ:(List Change)):Option Out:=some (cJ,())
noncomputable abbrev Q0 (_:Nat):=q0
noncomputable def s0 (k:Nat) (J:Arg):((List Change)×Int)->Option Out:=λY=>D.L k [1,1,0,1,0,0] [0,3,4] [] (ai 0 (aG (D.N k [1,1,1]) D.K0)) (T0 J Y)
noncomputable def r0 (k:Nat) (J:Arg):((List Change)×Int)->Option Out:=au (λw v=>B0 k w (Q0 k J) J v) k
theorem aO (k:Nat) (J:Arg):s0 k J=r0 k J:=
 funext λY=>aI _ _ _ (T0 J) _ (λrec v=>by kernel_rfl) k Y
noncomputable def p (l0:((List Change)×Int)->Option Out) (J:Arg):Option Out:=l0 (([]:List Change),al ((J.1.length:Int) - (1:Int)))
theorem ae (k:Nat) (J:Arg):@Eq (Option Out) (D.W k J) (p (r0 k J) J):=
 Eq.trans (b:=p (s0 k J) J) (by kernel_rfl) (by rw[aO])
theorem ok:Ok prog 95 D.sig:=aw func95 aM (by kernel_rfl) (an _)
end dk
namespace cg
abbrev Arg:Type:=(List Row)×(List Tx)×Unit
abbrev Out:Type:=(List Row)×Int×Unit
abbrev ps:PQ:=[(.ro,(.aa aj)),(.ro,(.aa aB))]
noncomputable def D:FD:={ fn:=f40,tl:=be,ps:=ps,rs:=[((.aa aj),(av (.aa aj))),(i64,(ah i64))],gl:=[(87,cd.D.sig),(89,bD.D.sig),(95,dk.D.sig)],lv:=[(2,[0,9,10,11])],lx:=[(0,[0])],lf:=[(2,[(0,(.aa false (.pair .leaf (.pair .leaf (.pair .leaf (.pair .leaf .leaf))))))])],od:=[(6,[0,1,2,3])] }
noncomputable def ab (a:Arg):Option Out:=@lift Out λk=>D.W k a
noncomputable def T0 (J:Arg) (Y:(List Row)×Int):St:={ n:=30,sl:=[(0,.val (.aa aj) Y.1),(9,.val (.aa aB) J.2.1),(10,.val i64 (J.2.1.length:Int)),(11,.val i64 Y.2)],vr:=[],aA:=[] }
noncomputable def b0 (self:((List Row)×Int)->Option Out) (e0:(List Row)->Option Out) (J:Arg) (Y:(List Row)×Int):Option Out:=bif decide (Y.2 < (J.2.1.length:Int)) then (if 0<=Y.2 then ((J.2.1[Y.2.toNat]?).bind λaT=>(dk.ab (aT.2.1,())).bind λbN=>(bD.ab (Y.1,bN.1,())).bind λiD=>bif !decide (iD.1.1=(0:Int)) then (some (([]:List Row),iD.1.1,())) else self (iD.1.2.1,al (Y.2+(1:Int)))) else none) else e0 Y.1
noncomputable abbrev B0 (_:Nat):=b0
noncomputable def q0 (J:Arg) (MJ:(List Row)):Option Out:=(cd.ab (MJ,())).bind λmP=>some (mP.1,(0:Int),())
noncomputable abbrev Q0 (_:Nat):=q0
noncomputable def s0 (k:Nat) (J:Arg):((List Row)×Int)->Option Out:=λY=>D.L k [1,0,1,0,0] [0,9,10,11] [(0,(.aa false (.pair .leaf (.pair .leaf (.pair .leaf (.pair .leaf .leaf))))))] (ai 0 (aG (D.N k [1,1]) D.K0)) (T0 J Y)
noncomputable def r0 (k:Nat) (J:Arg):((List Row)×Int)->Option Out:=au (λw v=>B0 k w (Q0 k J) J v) k
theorem aO (k:Nat) (J:Arg):s0 k J=r0 k J:=
 funext λY=>aI _ _ _ (T0 J) _ (λrec v=>by kernel_rfl) k Y
noncomputable def p (l0:((List Row)×Int)->Option Out) (J:Arg):Option Out:=l0 (J.1,(0:Int))
theorem ae (k:Nat) (J:Arg):@Eq (Option Out) (D.W k J) (p (r0 k J) J):=
 Eq.trans (b:=p (s0 k J) J) (by kernel_rfl) (by rw[aO])
theorem ok:Ok prog 40 D.sig:=aw func40 aM (by kernel_rfl) (fc cd.ok (fc bD.ok (fc dk.ok (an _))))
end cg
namespace cG
abbrev Arg:Type:=(List Tx)×Unit
abbrev Out:Type:=Int×Unit
abbrev ps:PQ:=[(.ro,(.aa aB))]
noncomputable def D:FD:={ fn:=f93,tl:=be,ps:=ps,rs:=[(i64,(ah i64))],lv:=[(3,[3,6,7,8])],lx:=[(0,[3])] }
noncomputable def ab (a:Arg):Option Out:=@lift Out λk=>D.W k a
noncomputable def T0 (J:Arg) (Y:Int×Int):St:={ n:=19,sl:=[(3,.val i64 Y.1),(6,.val (.aa aB) J.1),(7,.val i64 (J.1.length:Int)),(8,.val i64 Y.2)],vr:=[],aA:=[] }
noncomputable def b0 (self:(Int×Int)->Option Out) (e0:Int->Option Out) (J:Arg) (Y:Int×Int):Option Out:=bif decide (Y.2 < (J.1.length:Int)) then (if 0<=Y.2 then ((J.1[Y.2.toNat]?).bind λaT=>self (al (Y.1+(aT.2.1.length:Int)),al (Y.2+(1:Int)))) else none) else e0 Y.1
noncomputable abbrev B0 (_:Nat):=b0
noncomputable def q0 (J:Arg) (sH:Int):Option Out:=some (sH,())
noncomputable abbrev Q0 (_:Nat):=q0
noncomputable def s0 (k:Nat) (J:Arg):(Int×Int)->Option Out:=λY=>D.L k [1,1,0,1,0,0] [3,6,7,8] [] (ai 0 (aG (D.N k [1,1,1]) D.K0)) (T0 J Y)
noncomputable def r0 (k:Nat) (J:Arg):(Int×Int)->Option Out:=au (λw v=>B0 k w (Q0 k J) J v) k
theorem aO (k:Nat) (J:Arg):s0 k J=r0 k J:=
 funext λY=>aI _ _ _ (T0 J) _ (λrec v=>by kernel_rfl) k Y
noncomputable def p (l0:(Int×Int)->Option Out) (J:Arg):Option Out:=l0 ((0:Int),(0:Int))
theorem ae (k:Nat) (J:Arg):@Eq (Option Out) (D.W k J) (p (r0 k J) J):=
 Eq.trans (b:=p (s0 k J) J) (by kernel_rfl) (by rw[aO])
theorem ok:Ok prog 93 D.sig:=aw func93 aM (by kernel_rfl) (an _)
end cG
namespace gP
abbrev Arg:Type:=Int×Unit
abbrev Out:Type:=Bool×Unit
abbrev ps:PQ:=[(.ro,i64)]
noncomputable def D:FD:={ fn:=f113,tl:=be,ps:=ps,rs:=[(.bool,(ah .bool))],gl:=[(43,cA.D.sig)] }
noncomputable def ab (a:Arg):Option Out:=@lift Out λk=>D.W k a
noncomputable def p (J:Arg):Option Out:=(cA.ab (J.1,(1:Int),(99:Int),())).bind λr2=>some (r2.1,())
theorem ae (k:Nat) (J:Arg):@Eq (Option Out) (D.W k J) (p J):=by kernel_rfl
theorem ok:Ok prog 113 D.sig:=aw func113 aM (by kernel_rfl) (fc cA.ok (an _))
end gP
namespace dO
abbrev Arg:Type:=Change×Unit
abbrev Out:Type:=Int×Unit
abbrev ps:PQ:=[(.ro,ay)]
noncomputable def D:FD:={ fn:=f90,tl:=be,ps:=ps,rs:=[(i64,(ah i64))],gl:=[(53,dj.D.sig)] }
noncomputable def ab (a:Arg):Option Out:=@lift Out λk=>D.W k a
noncomputable def p (J:Arg):Option Out:=(dj.ab (J.1,())).bind λr2=>bif !decide (r2.1=(0:Int)) then (some (r2.1,())) else bif J.1.1 then (bif J.1.2.2.1 then (bif (Ty.eq aj J.1.2.1 J.1.2.2.2.1) then (some ((1:Int),())) else some ((0:Int),())) else some ((0:Int),())) else some ((0:Int),())
theorem ae (k:Nat) (J:Arg):@Eq (Option Out) (D.W k J) (p J):=by kernel_rfl
theorem ok:Ok prog 90 D.sig:=aw func90 aM (by kernel_rfl) (fc dj.ok (an _))
end dO
namespace cf
abbrev Arg:Type:=Change×Unit
abbrev Out:Type:=Key×Unit
abbrev ps:PQ:=[(.ro,ay)]
noncomputable def D:FD:={ fn:=f92,tl:=be,ps:=ps,rs:=[(aF,(ah aF))],gl:=[(58,bu.D.sig)],od:=[(1,[0,3,1,2,4,5,6,7])] }
noncomputable def ab (a:Arg):Option Out:=@lift Out λk=>D.W k a
noncomputable def p (J:Arg):Option Out:=(bu.ab (J.1,())).bind λr2=>(bu.ab (J.1,())).bind λr3=>some ((r2.1.1,r3.1.2.1,()),())
theorem ae (k:Nat) (J:Arg):@Eq (Option Out) (D.W k J) (p J):=by kernel_rfl
theorem ok:Ok prog 92 D.sig:=aw func92 aM (by kernel_rfl) (fc bu.ok (an _))
end cf
namespace dm
abbrev Arg:Type:=(List Key)×Key×Unit
abbrev Out:Type:=Int×Unit
abbrev ps:PQ:=[(.ro,(.aa aF)),(.ro,aF)]
noncomputable def D:FD:={ fn:=f195,tl:=be,ps:=ps,rs:=[(i64,(ah i64))],lv:=[(2,[0,3,7,8])],lx:=[(0,[])],od:=[(4,[0,1,2,3,4,5])] }
noncomputable def ab (a:Arg):Option Out:=@lift Out λk=>D.W k a
noncomputable def T0 (J:Arg) (Y:Int):St:={ n:=19,sl:=[(0,.val (.aa aF) J.1),(3,.box aF (ah aF) [] J.2.1),(7,.val i64 (J.1.length:Int)),(8,.val i64 Y)],vr:=[],aA:=[] }
noncomputable def b0 (self:Int->Option Out) (e0:(Unit)->Option Out) (J:Arg) (Y:Int):Option Out:=bif decide (Y < (J.1.length:Int)) then (if 0<=Y then ((J.1[Y.toNat]?).bind λaT=>bif (Ty.eq aF J.2.1 aT) then (some (Y,())) else self (al (Y+(1:Int)))) else none) else e0 ()
noncomputable abbrev B0 (_:Nat):=b0
noncomputable def q0 (J:Arg) (sH:(Unit)):Option Out:=some ((-1:Int),())
noncomputable abbrev Q0 (_:Nat):=q0
noncomputable def s0 (k:Nat) (J:Arg):(Int)->Option Out:=λY=>D.L k [1,0,1,0,0] [0,3,7,8] [] (ai 0 (aG (D.N k [1,1]) D.K0)) (T0 J Y)
noncomputable def r0 (k:Nat) (J:Arg):(Int)->Option Out:=au (λw v=>B0 k w (Q0 k J) J v) k
theorem aO (k:Nat) (J:Arg):s0 k J=r0 k J:=
 funext λY=>aI _ _ _ (T0 J) _ (λrec v=>by kernel_rfl) k Y
noncomputable def p (l0:(Int)->Option Out) (J:Arg):Option Out:=l0 (0:Int)
theorem ae (k:Nat) (J:Arg):@Eq (Option Out) (D.W k J) (p (r0 k J) J):=
 Eq.trans (b:=p (s0 k J) J) (by kernel_rfl) (by rw[aO])
theorem ok:Ok prog 195 D.sig:=aw func195 aM (by kernel_rfl) (an _)
end dm
namespace bG
abbrev Arg:Type:=(List Key)×Key×Unit
abbrev Out:Type:=Bool×Unit
abbrev ps:PQ:=[(.ro,(.aa aF)),(.ro,aF)]
noncomputable def D:FD:={ fn:=f151,tl:=be,ps:=ps,rs:=[(.bool,(ah .bool))],gl:=[(195,dm.D.sig)] }
noncomputable def ab (a:Arg):Option Out:=@lift Out λk=>D.W k a
noncomputable def p (J:Arg):Option Out:=(dm.ab (J.1,J.2.1,())).bind λr2=>some (decide ((0:Int)<=r2.1),())
theorem ae (k:Nat) (J:Arg):@Eq (Option Out) (D.W k J) (p J):=by kernel_rfl
theorem ok:Ok prog 151 D.sig:=aw func151 aM (by kernel_rfl) (fc dm.ok (an _))
end bG
namespace jW
abbrev Arg:Type:=Int×Int×Unit
abbrev Out:Type:=Bool×Unit
abbrev ps:PQ:=[(.ro,i64),(.ro,i64)]
noncomputable def D:FD:={ fn:=f164,tl:=be,ps:=ps,rs:=[(.bool,(ah .bool))],gl:=[(43,cA.D.sig)] }
noncomputable def ab (a:Arg):Option Out:=@lift Out λk=>D.W k a
noncomputable def p (J:Arg):Option Out:=(cA.ab (J.1,(0:Int),(3:Int),())).bind λr2=>bif r2.1 then ((cA.ab (J.2.1,(1:Int),(99:Int),())).bind λr3=>some (r3.1,())) else some (false,())
theorem ae (k:Nat) (J:Arg):@Eq (Option Out) (D.W k J) (p J):=by kernel_rfl
theorem ok:Ok prog 164 D.sig:=aw func164 aM (by kernel_rfl) (fc cA.ok (an _))
end jW
namespace bq
abbrev Arg:Type:=Tx×Unit
abbrev Out:Type:=Int×Unit
abbrev ps:PQ:=[(.ro,aB)]
noncomputable def D:FD:={ fn:=f114,tl:=be,ps:=ps,rs:=[(i64,(ah i64))],gl:=[(43,cA.D.sig),(90,dO.D.sig),(92,cf.D.sig),(151,bG.D.sig),(164,jW.D.sig)],lv:=[(2,[1,12,13,14]),(14,[1,6,41,42,43]),(21,[1,57,58,59])],lx:=[(0,[1]),(2,[1]),(4,[])],od:=[(7,[0,1,2,3,4,5]),(25,[0,1,2,3,4,5])] }
noncomputable def ab (a:Arg):Option Out:=@lift Out λk=>D.W k a
noncomputable def T0 (J:Arg) (Y:Int):St:={ n:=77,sl:=[(1,.box aB (ah aB) [] J.1),(12,.val (.aa ay) J.1.2.1),(13,.val i64 (J.1.2.1.length:Int)),(14,.val i64 Y)],vr:=[],aA:=[] }
noncomputable def S0 (rec:RT Out) (J:Arg):(Int)->Option Out:=λY=>rec (T0 J Y)
noncomputable def cV (K:KT Out) (J:Arg):(Unit)->Option Out:=λz=>K (.exit 0) ({ n:=77,sl:=[(1,.box aB (ah aB) [] J.1)],vr:=[],aA:=[] })
noncomputable def b0 (self:Int->Option Out) (e0:(Unit)->Option Out) (J:Arg) (Y:Int):Option Out:=bif decide (Y < (J.1.2.1.length:Int)) then (if 0<=Y then ((J.1.2.1[Y.toNat]?).bind λaT=>(dO.ab (aT,())).bind λbN=>bif !decide (bN.1=(0:Int)) then (some (bN.1,())) else (cf.ab (aT,())).bind λiD=>(bG.ab (J.1.2.2.2.1,iD.1,())).bind λij=>bif !ij.1 then (some ((8:Int),())) else self (al (Y+(1:Int)))) else none) else e0 ()
noncomputable abbrev B0 (_:Nat):=b0
theorem i_ (k:Nat) (rec:RT Out) (K:KT Out) (J:Arg) (Y:Int):D.N k [1,0,1,0,0] (T0 J Y) (fw rec (dz [1,12,13,14] []) K)=b0 (S0 rec J) (cV K J) J Y:=by kernel_rfl
noncomputable def T1 (J:Arg) (cT:Int×Int):St:={ n:=77,sl:=[(1,.box aB (ah aB) [] J.1),(6,.val i64 cT.1),(41,.val (.aa i64) J.1.2.2.1),(42,.val i64 (J.1.2.2.1.length:Int)),(43,.val i64 cT.2)],vr:=[],aA:=[] }
noncomputable def S1 (rec:RT Out) (J:Arg):(Int×Int)->Option Out:=λcT=>rec (T1 J cT)
noncomputable def fR (K:KT Out) (J:Arg):(Unit)->Option Out:=λz=>K (.exit 2) ({ n:=77,sl:=[(1,.box aB (ah aB) [] J.1)],vr:=[],aA:=[] })
noncomputable def b1 (self:(Int×Int)->Option Out) (e2:(Unit)->Option Out) (J:Arg) (cT:Int×Int):Option Out:=bif decide (cT.2 < (J.1.2.2.1.length:Int)) then (if 0<=cT.2 then ((J.1.2.2.1[cT.2.toNat]?).bind λnP=>(cA.ab (nP,cT.1,(J.1.2.1.length:Int),())).bind λxA=>bif !xA.1 then (some ((3:Int),())) else self (nP,al (cT.2+(1:Int)))) else none) else e2 ()
noncomputable abbrev B1 (_:Nat):=b1
theorem o9 (k:Nat) (rec:RT Out) (K:KT Out) (J:Arg) (cT:Int×Int):D.N k [1,1,1,1,0,1,0,0] (T1 J cT) (fw rec (dz [1,6,41,42,43] []) K)=b1 (S1 rec J) (fR K J) J cT:=by kernel_rfl
noncomputable def T2 (J:Arg) (eR:Int):St:={ n:=77,sl:=[(1,.box aB (ah aB) [] J.1),(57,.val (.aa aF) J.1.2.2.2.1),(58,.val i64 (J.1.2.2.2.1.length:Int)),(59,.val i64 eR)],vr:=[],aA:=[] }
noncomputable def b2 (self:Int->Option Out) (e4:(Unit)->Option Out) (J:Arg) (eR:Int):Option Out:=bif decide (eR < (J.1.2.2.2.1.length:Int)) then (if 0<=eR then ((J.1.2.2.2.1[eR.toNat]?).bind λE4=>(jW.ab (E4.1,E4.2.1,())).bind λOl=>bif !Ol.1 then (some ((3:Int),())) else if 0<=eR/\eR<=(J.1.2.2.2.1.length:Int) then ((bG.ab ((J.1.2.2.2.1.take eR.toNat).drop 0,E4,())).bind λOm=>bif Om.1 then (some ((6:Int),())) else self (al (eR+(1:Int)))) else none) else none) else e4 ()
noncomputable abbrev B2 (_:Nat):=b2
noncomputable def q2 (J:Arg) (uW:(Unit)):Option Out:=some ((0:Int),())
noncomputable abbrev Q2 (_:Nat):=q2
noncomputable def s2 (k:Nat) (J:Arg):(Int)->Option Out:=λeR=>D.L k [1,1,1,1,1,0,1,0,0] [1,57,58,59] [] (ai 4 (aG (D.N k [1,1,1,1,1,1]) D.K0)) (T2 J eR)
noncomputable def r2 (k:Nat) (J:Arg):(Int)->Option Out:=au (λw v=>B2 k w (Q2 k J) J v) k
theorem o8 (k:Nat) (J:Arg):s2 k J=r2 k J:=
 funext λeR=>aI _ _ _ (T2 J) _ (λrec v=>by kernel_rfl) k eR
noncomputable def q1 (l2:(Int)->Option Out) (J:Arg) (sJ:(Unit)):Option Out:=l2 (0:Int)
noncomputable def Q1 (k:Nat) (J:Arg) (sJ:(Unit)):Option Out:=q1 (r2 k J) J sJ
theorem o_ (k:Nat) (J:Arg) (sJ:(Unit)):fR (ai 2 (aG (D.N k [1,1,1,1,1]) D.K0)) J sJ=Q1 k J sJ:=
 Eq.trans (b:=q1 (s2 k J) J sJ) (by kernel_rfl) (by rw[o8];rfl)
noncomputable def s1 (k:Nat) (J:Arg):(Int×Int)->Option Out:=λcT=>D.L k [1,1,1,1,0,1,0,0] [1,6,41,42,43] [] (ai 2 (aG (D.N k [1,1,1,1,1]) D.K0)) (T1 J cT)
noncomputable def r1 (k:Nat) (J:Arg):(Int×Int)->Option Out:=au (λw v=>B1 k w (Q1 k J) J v) k
theorem ja (k:Nat) (J:Arg):s1 k J=r1 k J:=by
 funext cT;
 have h2:fR (ai 2 (aG (D.N k [1,1,1,1,1]) D.K0)) J=Q1 k J:=funext λz=>o_ k J z
 refine (aI _ _ _ (T1 J) (λself v=>B1 k self (fR (ai 2 (aG (D.N k [1,1,1,1,1]) D.K0)) J) J v) (λrec v=>o9 k rec (ai 2 (aG (D.N k [1,1,1,1,1]) D.K0)) J v) k cT).trans ?_
 rw[h2]
 rfl
noncomputable def q0 (l1:(Int×Int)->Option Out) (J:Arg) (jT:(Unit)):Option Out:=bif decide ((8:Int) < (J.1.2.2.1.length:Int)) then (some ((2:Int),())) else bif decide ((12:Int) < (J.1.2.2.2.1.length:Int)) then (some ((2:Int),())) else l1 ((0:Int),(0:Int))
noncomputable def Q0 (k:Nat) (J:Arg) (jT:(Unit)):Option Out:=q0 (r1 k J) J jT
theorem mQ (k:Nat) (J:Arg) (jT:(Unit)):cV (ai 0 (aG (D.N k [1,1]) D.K0)) J jT=Q0 k J jT:=
 Eq.trans (b:=q0 (s1 k J) J jT) (by kernel_rfl) (by rw[ja];rfl)
noncomputable def s0 (k:Nat) (J:Arg):(Int)->Option Out:=λY=>D.L k [1,0,1,0,0] [1,12,13,14] [] (ai 0 (aG (D.N k [1,1]) D.K0)) (T0 J Y)
noncomputable def r0 (k:Nat) (J:Arg):(Int)->Option Out:=au (λw v=>B0 k w (Q0 k J) J v) k
theorem aO (k:Nat) (J:Arg):s0 k J=r0 k J:=by
 funext Y;
 have h0:cV (ai 0 (aG (D.N k [1,1]) D.K0)) J=Q0 k J:=funext λz=>mQ k J z
 refine (aI _ _ _ (T0 J) (λself v=>B0 k self (cV (ai 0 (aG (D.N k [1,1]) D.K0)) J) J v) (λrec v=>i_ k rec (ai 0 (aG (D.N k [1,1]) D.K0)) J v) k Y).trans ?_
 rw[h0]
 rfl
noncomputable def p (l0:(Int)->Option Out) (J:Arg):Option Out:=l0 (0:Int)
theorem ae (k:Nat) (J:Arg):@Eq (Option Out) (D.W k J) (p (r0 k J) J):=
 Eq.trans (b:=p (s0 k J) J) (by kernel_rfl) (by rw[aO])
theorem ok:Ok prog 114 D.sig:=aw func114 aM (by kernel_rfl) (fc cA.ok (fc dO.ok (fc cf.ok (fc bG.ok (fc jW.ok (an _))))))
end bq
namespace aL
abbrev Arg:Type:=(List Tx)×Unit
abbrev Out:Type:=Int×Unit
abbrev ps:PQ:=[(.ro,(.aa aB))]
noncomputable def D:FD:={ fn:=f42,tl:=be,ps:=ps,rs:=[(i64,(ah i64))],gl:=[(93,cG.D.sig),(113,gP.D.sig),(114,bq.D.sig)],lv:=[(4,[0,14,15,16]),(16,[0,6,45,46,47]),(19,[0,6,45,46,47,52,53,54])],lx:=[(0,[0]),(2,[0]),(4,[0,6,45,46,47])],od:=[(8,[0,1,2,3,4,5,6,7,8,9,10,11,12])] }
noncomputable def ab (a:Arg):Option Out:=@lift Out λk=>D.W k a
noncomputable def T0 (J:Arg) (Y:Int):St:={ n:=68,sl:=[(0,.val (.aa aB) J.1),(14,.val (.aa aB) J.1),(15,.val i64 (J.1.length:Int)),(16,.val i64 Y)],vr:=[],aA:=[] }
noncomputable def S0 (rec:RT Out) (J:Arg):(Int)->Option Out:=λY=>rec (T0 J Y)
noncomputable def cV (K:KT Out) (J:Arg):(Unit)->Option Out:=λz=>K (.exit 0) ({ n:=68,sl:=[(0,.val (.aa aB) J.1)],vr:=[],aA:=[] })
noncomputable def b0 (self:Int->Option Out) (e0:(Unit)->Option Out) (J:Arg) (Y:Int):Option Out:=bif decide (Y < (J.1.length:Int)) then (if 0<=Y then ((J.1[Y.toNat]?).bind λaT=>(gP.ab (aT.1,())).bind λbN=>bif !bN.1 then (some ((3:Int),())) else bif decide ((0:Int) < Y) then (if 0<=al (Y - (1:Int)) then ((J.1[(al (Y - (1:Int))).toNat]?).bind λjS=>bif decide (aT.1<=jS.1) then (some ((1:Int),())) else (bq.ab (aT,())).bind λmP=>bif !decide (mP.1=(0:Int)) then (some (mP.1,())) else self (al (Y+(1:Int)))) else none) else (bq.ab (aT,())).bind λyO=>bif !decide (yO.1=(0:Int)) then (some (yO.1,())) else self (al (Y+(1:Int)))) else none) else e0 ()
noncomputable abbrev B0 (_:Nat):=b0
theorem i_ (k:Nat) (rec:RT Out) (K:KT Out) (J:Arg) (Y:Int):D.N k [1,1,0,1,0,0] (T0 J Y) (fw rec (dz [0,14,15,16] []) K)=b0 (S0 rec J) (cV K J) J Y:=by kernel_rfl
noncomputable def T1 (J:Arg) (cb:(List Tx)×(List (Key×Bool))×(List Tx)×Int×Int):St:={ n:=68,sl:=[(0,.val (.aa aB) cb.1),(6,.own (.map aF .bool) (av (.map aF .bool)) [] cb.2.1),(45,.val (.aa aB) cb.2.2.1),(46,.val i64 cb.2.2.2.1),(47,.val i64 cb.2.2.2.2)],vr:=[],aA:=[] }
noncomputable def S1 (rec:RT Out) (J:Arg):((List Tx)×(List (Key×Bool))×(List Tx)×Int×Int)->Option Out:=λcb=>rec (T1 J cb)
noncomputable def fR (K:KT Out) (J:Arg):(List Tx)->Option Out:=λz=>K (.exit 2) ({ n:=68,sl:=[(0,.val (.aa aB) z)],vr:=[],aA:=[] })
noncomputable def T2 (J:Arg) (df:List Tx) (mS:List Tx) (mT:Int) (mU:Int) (mV:List Key) (mW:Int) (eR:(List (Key×Bool))×Int):St:={ n:=68,sl:=[(0,.val (.aa aB) df),(6,.own (.map aF .bool) (av (.map aF .bool)) [] eR.1),(45,.val (.aa aB) mS),(46,.val i64 mT),(47,.val i64 mU),(52,.val (.aa aF) mV),(53,.val i64 mW),(54,.val i64 eR.2)],vr:=[],aA:=[] }
noncomputable def b2 (self:((List (Key×Bool))×Int)->Option Out) (e4:(List (Key×Bool))->Option Out) (J:Arg) (df:List Tx) (mS:List Tx) (mT:Int) (mU:Int) (mV:List Key) (mW:Int) (eR:(List (Key×Bool))×Int):Option Out:=bif decide (eR.2 < mW) then (if 0<=eR.2 then ((mV[eR.2.toNat]?).bind λKx=>bif AK (gq aF eR.1 Kx) false then (some ((7:Int),())) else self (gr aF eR.1 Kx true,al (eR.2+(1:Int)))) else none) else e4 eR.1
noncomputable abbrev B2 (_:Nat):=b2
noncomputable def q1 (self:((List Tx)×(List (Key×Bool))×(List Tx)×Int×Int)->Option Out) (e2:(List Tx)->Option Out) (J:Arg) (df:List Tx) (mS:List Tx) (mT:Int) (mU:Int) (mV:List Key) (mW:Int) (On:(List (Key×Bool))):Option Out:=self (df,On,mS,mT,al (mU+(1:Int)))
noncomputable abbrev Q1 (_:Nat):=q1
noncomputable def s2 (k:Nat) (rec:RT Out) (K:KT Out) (J:Arg):(List Tx)->(List Tx)->Int->Int->(List Key)->Int->((List (Key×Bool))×Int)->Option Out:=λdf mS mT mU mV mW=>λeR=>D.L k [1,1,1,1,0,1,0,0,1,1,0,0,1,1,0,0] [0,6,45,46,47,52,53,54] [] (ai 4 (ai 3 (aG (D.N k [1,1,1,1,0,1,0,0,1,1,1]) (fw rec (dz [0,6,45,46,47] []) K)))) (T2 J df mS mT mU mV mW eR)
noncomputable def r2 (k:Nat) (self:((List Tx)×(List (Key×Bool))×(List Tx)×Int×Int)->Option Out) (e2:(List Tx)->Option Out) (J:Arg):(List Tx)->(List Tx)->Int->Int->(List Key)->Int->((List (Key×Bool))×Int)->Option Out:=λdf mS mT mU mV mW=>au (λw v=>B2 k w (Q1 k self e2 J df mS mT mU mV mW) J df mS mT mU mV mW v) k
theorem o8 (k:Nat) (rec:RT Out) (K:KT Out) (J:Arg):s2 k rec K J=r2 k (S1 rec J) (fR K J) J:=
 funext λdf=>funext λmS=>funext λmT=>funext λmU=>funext λmV=>funext λmW=>funext λeR=>aI _ _ _ (T2 J df mS mT mU mV mW) _ (λrec v=>by kernel_rfl) k eR
noncomputable def b1 (self:((List Tx)×(List (Key×Bool))×(List Tx)×Int×Int)->Option Out) (e2:(List Tx)->Option Out) (l2:(List Tx)->(List Tx)->Int->Int->(List Key)->Int->((List (Key×Bool))×Int)->Option Out) (J:Arg) (cb:(List Tx)×(List (Key×Bool))×(List Tx)×Int×Int):Option Out:=bif decide (cb.2.2.2.2 < cb.2.2.2.1) then (if 0<=cb.2.2.2.2 then ((cb.2.2.1[cb.2.2.2.2.toNat]?).bind λnS=>l2 cb.1 cb.2.2.1 cb.2.2.2.1 cb.2.2.2.2 nS.2.2.2.1 (nS.2.2.2.1.length:Int) (cb.2.1,(0:Int))) else none) else e2 cb.1
noncomputable def B1 (k:Nat) (self:((List Tx)×(List (Key×Bool))×(List Tx)×Int×Int)->Option Out) (e2:(List Tx)->Option Out) (J:Arg) (cb:(List Tx)×(List (Key×Bool))×(List Tx)×Int×Int):Option Out:=b1 self e2 (r2 k self e2 J) J cb
theorem o9 (k:Nat) (rec:RT Out) (K:KT Out) (J:Arg) (cb:(List Tx)×(List (Key×Bool))×(List Tx)×Int×Int):D.N k [1,1,1,1,0,1,0,0] (T1 J cb) (fw rec (dz [0,6,45,46,47] []) K)=B1 k (S1 rec J) (fR K J) J cb:=
 Eq.trans (b:=b1 (S1 rec J) (fR K J) (s2 k rec K J) J cb) (by kernel_rfl) (by rw[o8];rfl)
noncomputable def q2 (J:Arg) (As:(List Tx)):Option Out:=(cG.ab (As,())).bind λOo=>bif decide ((12:Int) < Oo.1) then (some ((2:Int),())) else some ((0:Int),())
noncomputable abbrev Q2 (_:Nat):=q2
theorem xB (k:Nat) (J:Arg) (As:(List Tx)):fR (ai 2 (aG (D.N k [1,1,1,1,1]) D.K0)) J As=q2 J As:=by kernel_rfl
noncomputable def s1 (k:Nat) (J:Arg):((List Tx)×(List (Key×Bool))×(List Tx)×Int×Int)->Option Out:=λcb=>D.L k [1,1,1,1,0,1,0,0] [0,6,45,46,47] [] (ai 2 (aG (D.N k [1,1,1,1,1]) D.K0)) (T1 J cb)
noncomputable def r1 (k:Nat) (J:Arg):((List Tx)×(List (Key×Bool))×(List Tx)×Int×Int)->Option Out:=au (λw v=>B1 k w (Q2 k J) J v) k
theorem ja (k:Nat) (J:Arg):s1 k J=r1 k J:=by
 funext cb;
 have h2:fR (ai 2 (aG (D.N k [1,1,1,1,1]) D.K0)) J=Q2 k J:=funext λz=>xB k J z
 refine (aI _ _ _ (T1 J) (λself v=>B1 k self (fR (ai 2 (aG (D.N k [1,1,1,1,1]) D.K0)) J) J v) (λrec v=>o9 k rec (ai 2 (aG (D.N k [1,1,1,1,1]) D.K0)) J v) k cb).trans ?_
 rw[h2]
 rfl
noncomputable def q0 (l1:((List Tx)×(List (Key×Bool))×(List Tx)×Int×Int)->Option Out) (J:Arg) (ri:(Unit)):Option Out:=l1 (J.1,([]:List (Key×Bool)),J.1,(J.1.length:Int),(0:Int))
noncomputable def Q0 (k:Nat) (J:Arg) (ri:(Unit)):Option Out:=q0 (r1 k J) J ri
theorem mQ (k:Nat) (J:Arg) (ri:(Unit)):cV (ai 0 (aG (D.N k [1,1,1]) D.K0)) J ri=Q0 k J ri:=
 Eq.trans (b:=q0 (s1 k J) J ri) (by kernel_rfl) (by rw[ja];rfl)
noncomputable def s0 (k:Nat) (J:Arg):(Int)->Option Out:=λY=>D.L k [1,1,0,1,0,0] [0,14,15,16] [] (ai 0 (aG (D.N k [1,1,1]) D.K0)) (T0 J Y)
noncomputable def r0 (k:Nat) (J:Arg):(Int)->Option Out:=au (λw v=>B0 k w (Q0 k J) J v) k
theorem aO (k:Nat) (J:Arg):s0 k J=r0 k J:=by
 funext Y;
 have h0:cV (ai 0 (aG (D.N k [1,1,1]) D.K0)) J=Q0 k J:=funext λz=>mQ k J z
 refine (aI _ _ _ (T0 J) (λself v=>B0 k self (cV (ai 0 (aG (D.N k [1,1,1]) D.K0)) J) J v) (λrec v=>i_ k rec (ai 0 (aG (D.N k [1,1,1]) D.K0)) J v) k Y).trans ?_
 rw[h0]
 rfl
noncomputable def p (l0:(Int)->Option Out) (J:Arg):Option Out:=bif decide ((4:Int) < (J.1.length:Int)) then (some ((2:Int),())) else l0 (0:Int)
theorem ae (k:Nat) (J:Arg):@Eq (Option Out) (D.W k J) (p (r0 k J) J):=
 Eq.trans (b:=p (s0 k J) J) (by kernel_rfl) (by rw[aO])
theorem ok:Ok prog 42 D.sig:=aw func42 aM (by kernel_rfl) (fc cG.ok (fc gP.ok (fc bq.ok (an _))))
end aL
namespace bc
abbrev Arg:Type:=(List Row)×(List Tx)×Unit
abbrev Out:Type:=(List (Key×Bool))×Unit
abbrev ps:PQ:=[(.ro,(.aa aj)),(.ro,(.aa aB))]
noncomputable def D:FD:={ fn:=f44,tl:=be,ps:=ps,rs:=[((.map aF .bool),(av (.map aF .bool)))],lv:=[(3,[1,5,13,14,15]),(8,[5,26,27,28]),(11,[5,26,27,28,33,34,35])],lx:=[(0,[1,5]),(2,[5]),(4,[5,26,27,28])] }
noncomputable def ab (a:Arg):Option Out:=@lift Out λk=>D.W k a
noncomputable def T0 (J:Arg) (Y:(List (Key×Bool))×Int):St:={ n:=44,sl:=[(1,.val (.aa aB) J.2.1),(5,.own (.map aF .bool) (av (.map aF .bool)) [] Y.1),(13,.val (.aa aj) J.1),(14,.val i64 (J.1.length:Int)),(15,.val i64 Y.2)],vr:=[],aA:=[] }
noncomputable def S0 (rec:RT Out) (J:Arg):((List (Key×Bool))×Int)->Option Out:=λY=>rec (T0 J Y)
noncomputable def cV (K:KT Out) (J:Arg):(List (Key×Bool))->Option Out:=λz=>K (.exit 0) ({ n:=44,sl:=[(1,.val (.aa aB) J.2.1),(5,.own (.map aF .bool) (av (.map aF .bool)) [] z)],vr:=[],aA:=[] })
noncomputable def b0 (self:((List (Key×Bool))×Int)->Option Out) (e0:(List (Key×Bool))->Option Out) (J:Arg) (Y:(List (Key×Bool))×Int):Option Out:=bif decide (Y.2 < (J.1.length:Int)) then (if 0<=Y.2 then ((J.1[Y.2.toNat]?).bind λaT=>let BQ:=gr aF Y.1 (aT.1,aT.2.1,()) true;self (BQ,al (Y.2+(1:Int)))) else none) else e0 Y.1
noncomputable abbrev B0 (_:Nat):=b0
theorem i_ (k:Nat) (rec:RT Out) (K:KT Out) (J:Arg) (Y:(List (Key×Bool))×Int):D.N k [1,1,0,1,0,0] (T0 J Y) (fw rec (dz [1,5,13,14,15] []) K)=b0 (S0 rec J) (cV K J) J Y:=by kernel_rfl
noncomputable def T1 (J:Arg) (ca:(List (Key×Bool))×(List Tx)×Int×Int):St:={ n:=44,sl:=[(5,.own (.map aF .bool) (av (.map aF .bool)) [] ca.1),(26,.val (.aa aB) ca.2.1),(27,.val i64 ca.2.2.1),(28,.val i64 ca.2.2.2)],vr:=[],aA:=[] }
noncomputable def S1 (rec:RT Out) (J:Arg):((List (Key×Bool))×(List Tx)×Int×Int)->Option Out:=λca=>rec (T1 J ca)
noncomputable def fR (K:KT Out) (J:Arg):(List (Key×Bool))->Option Out:=λz=>K (.exit 2) ({ n:=44,sl:=[(5,.own (.map aF .bool) (av (.map aF .bool)) [] z)],vr:=[],aA:=[] })
noncomputable def T2 (J:Arg) (mX:List Tx) (mY:Int) (mZ:Int) (fx:List Key) (df:Int) (ll:(List (Key×Bool))×Int):St:={ n:=44,sl:=[(5,.own (.map aF .bool) (av (.map aF .bool)) [] ll.1),(26,.val (.aa aB) mX),(27,.val i64 mY),(28,.val i64 mZ),(33,.val (.aa aF) fx),(34,.val i64 df),(35,.val i64 ll.2)],vr:=[],aA:=[] }
noncomputable def b2 (self:((List (Key×Bool))×Int)->Option Out) (e4:(List (Key×Bool))->Option Out) (J:Arg) (mX:List Tx) (mY:Int) (mZ:Int) (fx:List Key) (df:Int) (ll:(List (Key×Bool))×Int):Option Out:=bif decide (ll.2 < df) then (if 0<=ll.2 then ((fx[ll.2.toNat]?).bind λEZ=>self (gr aF ll.1 EZ true,al (ll.2+(1:Int)))) else none) else e4 ll.1
noncomputable abbrev B2 (_:Nat):=b2
noncomputable def q1 (self:((List (Key×Bool))×(List Tx)×Int×Int)->Option Out) (e2:(List (Key×Bool))->Option Out) (J:Arg) (mX:List Tx) (mY:Int) (mZ:Int) (fx:List Key) (df:Int) (Oq:(List (Key×Bool))):Option Out:=self (Oq,mX,mY,al (mZ+(1:Int)))
noncomputable abbrev Q1 (_:Nat):=q1
noncomputable def s2 (k:Nat) (rec:RT Out) (K:KT Out) (J:Arg):(List Tx)->Int->Int->(List Key)->Int->((List (Key×Bool))×Int)->Option Out:=λmX mY mZ fx df=>λll=>D.L k [1,1,1,0,1,0,0,1,1,0,0,1,1,0,0] [5,26,27,28,33,34,35] [] (ai 4 (ai 3 (aG (D.N k [1,1,1,0,1,0,0,1,1,1]) (fw rec (dz [5,26,27,28] []) K)))) (T2 J mX mY mZ fx df ll)
noncomputable def r2 (k:Nat) (self:((List (Key×Bool))×(List Tx)×Int×Int)->Option Out) (e2:(List (Key×Bool))->Option Out) (J:Arg):(List Tx)->Int->Int->(List Key)->Int->((List (Key×Bool))×Int)->Option Out:=λmX mY mZ fx df=>au (λw v=>B2 k w (Q1 k self e2 J mX mY mZ fx df) J mX mY mZ fx df v) k
theorem o8 (k:Nat) (rec:RT Out) (K:KT Out) (J:Arg):s2 k rec K J=r2 k (S1 rec J) (fR K J) J:=
 funext λmX=>funext λmY=>funext λmZ=>funext λfx=>funext λdf=>funext λll=>aI _ _ _ (T2 J mX mY mZ fx df) _ (λrec v=>by kernel_rfl) k ll
noncomputable def b1 (self:((List (Key×Bool))×(List Tx)×Int×Int)->Option Out) (e2:(List (Key×Bool))->Option Out) (l2:(List Tx)->Int->Int->(List Key)->Int->((List (Key×Bool))×Int)->Option Out) (J:Arg) (ca:(List (Key×Bool))×(List Tx)×Int×Int):Option Out:=bif decide (ca.2.2.2 < ca.2.2.1) then (if 0<=ca.2.2.2 then ((ca.2.1[ca.2.2.2.toNat]?).bind λsI=>l2 ca.2.1 ca.2.2.1 ca.2.2.2 sI.2.2.2.1 (sI.2.2.2.1.length:Int) (ca.1,(0:Int))) else none) else e2 ca.1
noncomputable def B1 (k:Nat) (self:((List (Key×Bool))×(List Tx)×Int×Int)->Option Out) (e2:(List (Key×Bool))->Option Out) (J:Arg) (ca:(List (Key×Bool))×(List Tx)×Int×Int):Option Out:=b1 self e2 (r2 k self e2 J) J ca
theorem o9 (k:Nat) (rec:RT Out) (K:KT Out) (J:Arg) (ca:(List (Key×Bool))×(List Tx)×Int×Int):D.N k [1,1,1,0,1,0,0] (T1 J ca) (fw rec (dz [5,26,27,28] []) K)=B1 k (S1 rec J) (fR K J) J ca:=
 Eq.trans (b:=b1 (S1 rec J) (fR K J) (s2 k rec K J) J ca) (by kernel_rfl) (by rw[o8];rfl)
noncomputable def q2 (J:Arg) (uW:(List (Key×Bool))):Option Out:=some (uW,())
noncomputable abbrev Q2 (_:Nat):=q2
theorem xB (k:Nat) (J:Arg) (uW:(List (Key×Bool))):fR (ai 2 (aG (D.N k [1,1,1,1]) D.K0)) J uW=q2 J uW:=by kernel_rfl
noncomputable def s1 (k:Nat) (J:Arg):((List (Key×Bool))×(List Tx)×Int×Int)->Option Out:=λca=>D.L k [1,1,1,0,1,0,0] [5,26,27,28] [] (ai 2 (aG (D.N k [1,1,1,1]) D.K0)) (T1 J ca)
noncomputable def r1 (k:Nat) (J:Arg):((List (Key×Bool))×(List Tx)×Int×Int)->Option Out:=au (λw v=>B1 k w (Q2 k J) J v) k
theorem ja (k:Nat) (J:Arg):s1 k J=r1 k J:=by
 funext ca;
 have h2:fR (ai 2 (aG (D.N k [1,1,1,1]) D.K0)) J=Q2 k J:=funext λz=>xB k J z
 refine (aI _ _ _ (T1 J) (λself v=>B1 k self (fR (ai 2 (aG (D.N k [1,1,1,1]) D.K0)) J) J v) (λrec v=>o9 k rec (ai 2 (aG (D.N k [1,1,1,1]) D.K0)) J v) k ca).trans ?_
 rw[h2]
 rfl
noncomputable def q0 (l1:((List (Key×Bool))×(List Tx)×Int×Int)->Option Out) (J:Arg) (cJ:(List (Key×Bool))):Option Out:=l1 (cJ,J.2.1,(J.2.1.length:Int),(0:Int))
noncomputable def Q0 (k:Nat) (J:Arg) (cJ:(List (Key×Bool))):Option Out:=q0 (r1 k J) J cJ
theorem mQ (k:Nat) (J:Arg) (cJ:(List (Key×Bool))):cV (ai 0 (aG (D.N k [1,1,1]) D.K0)) J cJ=Q0 k J cJ:=
 Eq.trans (b:=q0 (s1 k J) J cJ) (by kernel_rfl) (by rw[ja];rfl)
noncomputable def s0 (k:Nat) (J:Arg):((List (Key×Bool))×Int)->Option Out:=λY=>D.L k [1,1,0,1,0,0] [1,5,13,14,15] [] (ai 0 (aG (D.N k [1,1,1]) D.K0)) (T0 J Y)
noncomputable def r0 (k:Nat) (J:Arg):((List (Key×Bool))×Int)->Option Out:=au (λw v=>B0 k w (Q0 k J) J v) k
theorem aO (k:Nat) (J:Arg):s0 k J=r0 k J:=by
 funext Y;
 have h0:cV (ai 0 (aG (D.N k [1,1,1]) D.K0)) J=Q0 k J:=funext λz=>mQ k J z
 refine (aI _ _ _ (T0 J) (λself v=>B0 k self (cV (ai 0 (aG (D.N k [1,1,1]) D.K0)) J) J v) (λrec v=>i_ k rec (ai 0 (aG (D.N k [1,1,1]) D.K0)) J v) k Y).trans ?_
 rw[h0]
 rfl
noncomputable def p (l0:((List (Key×Bool))×Int)->Option Out) (J:Arg):Option Out:=l0 (([]:List (Key×Bool)),(0:Int))
theorem ae (k:Nat) (J:Arg):@Eq (Option Out) (D.W k J) (p (r0 k J) J):=
 Eq.trans (b:=p (s0 k J) J) (by kernel_rfl) (by rw[aO])
theorem ok:Ok prog 44 D.sig:=aw func44 aM (by kernel_rfl) (an _)
end bc
namespace cy
abbrev Arg:Type:=Plain×Unit
abbrev Out:Type:=Int×Unit
abbrev ps:PQ:=[(.ro,bJ)]
noncomputable def D:FD:={ fn:=f11,tl:=be,ps:=ps,rs:=[(i64,(ah i64))],gl:=[(40,cg.D.sig),(41,bC.D.sig),(42,aL.D.sig),(43,cA.D.sig),(44,bc.D.sig)],od:=[(7,[0,1,2,3,4,5,6,7,8,9,10,11,12,13,14,15,16,17,18,19,20,21,22,23])],ar:=[(7,[1,6,11,13,18,20])],bx:=[(7,[1])] }
noncomputable def ab (a:Arg):Option Out:=@lift Out λk=>D.W k a
noncomputable def p (J:Arg):Option Out:=(bC.ab (J.1.1,())).bind λr2=>bif !decide (r2.1=(0:Int)) then (some (r2.1,())) else (aL.ab (J.1.2.1,())).bind λr3=>bif !decide (r3.1=(0:Int)) then (some (r3.1,())) else let j8:Option Out:=(bc.ab (J.1.1,J.1.2.1,())).bind λr9=>bif decide ((12:Int) < (r9.1.length:Int)) then (some ((2:Int),())) else (cg.ab (J.1.1,J.1.2.1,())).bind λkm=>bif !decide (km.2.1=(0:Int)) then (some ((8:Int),())) else some ((0:Int),());(cA.ab (J.1.2.2.1,(1:Int),(100:Int),())).bind λr4=>bif !r4.1 then (some ((3:Int),())) else bif decide ((0:Int) < (J.1.2.1.length:Int)) then (if 0<=al ((J.1.2.1.length:Int) - (1:Int)) then ((J.1.2.1[(al ((J.1.2.1.length:Int) - (1:Int))).toNat]?).bind λx5=>bif decide (J.1.2.2.1<=x5.1) then (some ((3:Int),())) else j8) else none) else j8
theorem ae (k:Nat) (J:Arg):@Eq (Option Out) (D.W k J) (p J):=by kernel_rfl
theorem ok:Ok prog 11 D.sig:=aw func11 aM (by kernel_rfl) (fc cg.ok (fc bC.ok (fc aL.ok (fc cA.ok (fc bc.ok (an _))))))
end cy
namespace gB
abbrev Arg:Type:=Int×Unit
abbrev Out:Type:=Bool×Unit
abbrev ps:PQ:=[(.ro,i64)]
noncomputable def D:FD:={ fn:=f143,tl:=be,ps:=ps,rs:=[(.bool,(ah .bool))] }
noncomputable def ab (a:Arg):Option Out:=@lift Out λk=>D.W k a
noncomputable def p (J:Arg):Option Out:=bif decide (J.1=(2:Int)) then (some (true,())) else bif decide (J.1=(3:Int)) then (some (true,())) else some (decide (J.1=(4:Int)),())
theorem ae (k:Nat) (J:Arg):@Eq (Option Out) (D.W k J) (p J):=by kernel_rfl
theorem ok:Ok prog 143 D.sig:=aw func143 aM (by kernel_rfl) (an _)
end gB
namespace gQ
abbrev Arg:Type:=Op×Unit
abbrev Out:Type:=Int×Unit
abbrev ps:PQ:=[(.ro,fm)]
noncomputable def D:FD:={ fn:=f84,tl:=be,ps:=ps,rs:=[(i64,(ah i64))],gl:=[(43,cA.D.sig),(111,bA.D.sig),(113,gP.D.sig),(143,gB.D.sig)] }
noncomputable def ab (a:Arg):Option Out:=@lift Out λk=>D.W k a
noncomputable def p (J:Arg):Option Out:=let Pp:=λ(Pq:Bool)=>(let zE:Option Out:=let Pr:Option Out:=bif !Pq then ((gP.ab (J.1.2.1,())).bind λR_=>bif !R_.1 then (some ((3:Int),())) else (cA.ab (J.1.2.2.2.1,(0:Int),(7:Int),())).bind λSa=>bif !Sa.1 then (some ((3:Int),())) else (gB.ab (J.1.1,())).bind λSb=>bif Sb.1 then ((bA.ab (J.1.2.2.1,())).bind λSc=>some (Sc.1,())) else some ((0:Int),())) else (cA.ab (J.1.2.2.2.1,(0:Int),(7:Int),())).bind λSd=>bif !Sd.1 then (some ((3:Int),())) else (gB.ab (J.1.1,())).bind λSe=>bif Se.1 then ((bA.ab (J.1.2.2.1,())).bind λSf=>some (Sf.1,())) else some ((0:Int),());bif decide (J.1.1=(4:Int)) then (bif !decide (J.1.2.2.1.2.2.1=(0:Int)) then (some ((1:Int),())) else bif !decide (J.1.2.2.1.2.2.2.1=([]:List UInt8)) then (some ((1:Int),())) else Pr) else Pr;(cA.ab (J.1.1,(1:Int),(9:Int),())).bind λMM=>bif !MM.1 then (some ((1:Int),())) else bif Pq then (bif !decide (J.1.2.1=(0:Int)) then (some ((1:Int),())) else (gB.ab (J.1.1,())).bind λMN=>bif !MN.1 then (bif !(Ty.eq aj J.1.2.2.1 ((0:Int),(0:Int),(0:Int),([]:List UInt8),())) then (some ((1:Int),())) else bif !decide (J.1.1=(6:Int)) then (bif !decide (J.1.2.2.2.1=(0:Int)) then (some ((1:Int),())) else zE) else zE) else bif !decide (J.1.1=(6:Int)) then (bif !decide (J.1.2.2.2.1=(0:Int)) then (some ((1:Int),())) else zE) else zE) else (gB.ab (J.1.1,())).bind λMO=>bif !MO.1 then (bif !(Ty.eq aj J.1.2.2.1 ((0:Int),(0:Int),(0:Int),([]:List UInt8),())) then (some ((1:Int),())) else bif !decide (J.1.1=(6:Int)) then (bif !decide (J.1.2.2.2.1=(0:Int)) then (some ((1:Int),())) else zE) else zE) else bif !decide (J.1.1=(6:Int)) then (bif !decide (J.1.2.2.2.1=(0:Int)) then (some ((1:Int),())) else zE) else zE:Option Out);bif decide (J.1.1=(1:Int)) then (Pp true) else Pp (decide (J.1.1=(9:Int)))
theorem ae (k:Nat) (J:Arg):@Eq (Option Out) (D.W k J) (p J):=by kernel_rfl
theorem ok:Ok prog 84 D.sig:=aw func84 aM (by kernel_rfl) (fc cA.ok (fc bA.ok (fc gP.ok (fc gB.ok (an _)))))
end gQ
namespace ky
abbrev Arg:Type:=Tx×Int×Unit
abbrev Out:Type:=Bool×Unit
abbrev ps:PQ:=[(.ro,aB),(.ro,(.ptr i64))]
noncomputable def D:FD:={ fn:=f145,tl:=be,ps:=ps,rs:=[(.bool,(ah .bool))],cap:=true }
noncomputable def ab (a:Arg):Option Out:=@lift Out λk=>D.W k a
noncomputable def p (J:Arg):Option Out:=some (decide (J.1.1=J.2.1),())
theorem ae (k:Nat) (J:Arg):@Eq (Option Out) (D.W k J) (p J):=by kernel_rfl
theorem ok:Ok prog 145 D.sig:=aw func145 aM (by kernel_rfl) (an _)
end ky
namespace bS
abbrev Arg:Type:=(List Tx)×(Nat×Int)×Unit
abbrev Out:Type:=Int×Unit
abbrev ps:PQ:=[(.ro,(.aa aB)),(.fix 145,.fn)]
noncomputable def D:FD:={ fn:=f144,tl:=be,ps:=ps,rs:=[(i64,(ah i64))],gl:=[(145,ky.D.sig)],lv:=[(2,[0,1,7,8])],lx:=[(0,[])] }
noncomputable def ab (a:Arg):Option Out:=@lift Out λk=>D.W k a
noncomputable def T0 (J:Arg) (Y:Int):St:={ n:=19,sl:=[(0,.val (.aa aB) J.1),(1,.val .fn ((145,J.2.1.2):Nat×Int)),(7,.val i64 (J.1.length:Int)),(8,.val i64 Y)],vr:=[],aA:=[] }
noncomputable def b0 (self:Int->Option Out) (e0:(Unit)->Option Out) (J:Arg) (Y:Int):Option Out:=bif decide (Y < (J.1.length:Int)) then (if 0<=Y then ((J.1[Y.toNat]?).bind λaT=>(ky.ab (aT,J.2.1.2,())).bind λbN=>bif bN.1 then (some (Y,())) else self (al (Y+(1:Int)))) else none) else e0 ()
noncomputable abbrev B0 (_:Nat):=b0
noncomputable def q0 (J:Arg) (cJ:(Unit)):Option Out:=some ((-1:Int),())
noncomputable abbrev Q0 (_:Nat):=q0
noncomputable def s0 (k:Nat) (J:Arg):(Int)->Option Out:=λY=>D.L k [1,0,1,0,0] [0,1,7,8] [] (ai 0 (aG (D.N k [1,1]) D.K0)) (T0 J Y)
noncomputable def r0 (k:Nat) (J:Arg):(Int)->Option Out:=au (λw v=>B0 k w (Q0 k J) J v) k
theorem aO (k:Nat) (J:Arg):s0 k J=r0 k J:=
 funext λY=>aI _ _ _ (T0 J) _ (λrec v=>by kernel_rfl) k Y
noncomputable def p (l0:(Int)->Option Out) (J:Arg):Option Out:=l0 (0:Int)
theorem ae (k:Nat) (J:Arg):@Eq (Option Out) (D.W k J) (p (r0 k J) J):=
 Eq.trans (b:=p (s0 k J) J) (by kernel_rfl) (by rw[aO])
theorem ok:Ok prog 144 D.sig:=aw func144 aM (by kernel_rfl) (fc ky.ok (an _))
end bS
namespace ek
abbrev Arg:Type:=(List Tx)×Int×Unit
abbrev Out:Type:=Int×Unit
abbrev ps:PQ:=[(.ro,(.aa aB)),(.ro,i64)]
noncomputable def D:FD:={ fn:=f85,tl:=be,ps:=ps,rs:=[(i64,(ah i64))],gl:=[(144,bS.D.sig)] }
noncomputable def ab (a:Arg):Option Out:=@lift Out λk=>D.W k a
noncomputable def p (J:Arg):Option Out:=(bS.ab (J.1,((145,J.2.1):Nat×Int),())).bind λr2=>some (r2.1,())
theorem ae (k:Nat) (J:Arg):@Eq (Option Out) (D.W k J) (p J):=by kernel_rfl
theorem ok:Ok prog 85 D.sig:=aw func85 aM (by kernel_rfl) (fc bS.ok (an _))
end ek
namespace cO
abbrev Arg:Type:=(List Row)×Change×Unit
abbrev Out:Type:=Int×Unit
abbrev ps:PQ:=[(.ro,(.aa aj)),(.ro,ay)]
noncomputable def D:FD:={ fn:=f193,tl:=be,ps:=ps,rs:=[(i64,(ah i64))],gl:=[(43,cA.D.sig),(58,bu.D.sig)],lv:=[(4,[3,28,29,30])],lx:=[(0,[])],od:=[(6,[0,1,2,3,4,5,6,7,8,9,10,11,12,13,14,15,16,17,18,19,20,21,22,23,24])],ar:=[(6,[1,2,8,13,17,21])],bx:=[(3,[3]),(6,[6])] }
noncomputable def ab (a:Arg):Option Out:=@lift Out λk=>D.W k a
noncomputable def T0 (J:Arg) (lM:Int):St:={ n:=60,sl:=[(3,.cp ay J.2.1),(28,.val (.aa aj) J.1),(29,.val i64 (J.1.length:Int)),(30,.val i64 lM)],vr:=[],aA:=[] }
noncomputable def b0 (self:Int->Option Out) (e0:(Unit)->Option Out) (J:Arg) (lM:Int):Option Out:=bif decide (lM < (J.1.length:Int)) then (if 0<=lM then ((J.1[lM.toNat]?).bind λxC=>(bu.ab (J.2.1,())).bind λOr=>bif decide (xC.1=Or.1.2.1) then (bif !decide (xC.1=(0:Int)) then (bif !J.2.1.2.2.1 then (some ((8:Int),())) else bif decide (J.2.1.2.2.2.1.2.2.1 < (xC.2.2.2.1.length:Int)) then (some ((8:Int),())) else self (al (lM+(1:Int)))) else self (al (lM+(1:Int)))) else self (al (lM+(1:Int)))) else none) else e0 ()
noncomputable abbrev B0 (_:Nat):=b0
noncomputable def q0 (J:Arg) (nR:(Unit)):Option Out:=some ((0:Int),())
noncomputable abbrev Q0 (_:Nat):=q0
noncomputable def s0 (k:Nat) (J:Arg):(Int)->Option Out:=λlM=>D.L k [1,1,0,1,0,0] [3,28,29,30] [] (ai 0 (aG (D.N k [1,1,1]) D.K0)) (T0 J lM)
noncomputable def r0 (k:Nat) (J:Arg):(Int)->Option Out:=au (λw v=>B0 k w (Q0 k J) J v) k
theorem aO (k:Nat) (J:Arg):s0 k J=r0 k J:=
 funext λlM=>aI _ _ _ (T0 J) _ (λrec v=>by kernel_rfl) k lM
noncomputable def p (l0:(Int)->Option Out) (J:Arg):Option Out:=let Nl:Option Out:=l0 (0:Int);bif J.2.1.2.2.1 then ((cA.ab (J.2.1.2.2.2.1.2.1,(1:Int),(3:Int),())).bind λr2=>bif !r2.1 then (some ((10:Int),())) else bif decide ((8:Int) < J.2.1.2.2.2.1.2.2.1) then (some ((10:Int),())) else bif !decide (J.2.1.2.2.2.1.2.2.2.1=([]:List UInt8)) then (some ((10:Int),())) else Nl) else Nl
theorem ae (k:Nat) (J:Arg):@Eq (Option Out) (D.W k J) (p (r0 k J) J):=
 Eq.trans (b:=p (s0 k J) J) (by kernel_rfl) (by rw[aO])
theorem ok:Ok prog 193 D.sig:=aw func193 aM (by kernel_rfl) (fc cA.ok (fc bu.ok (an _)))
end cO
namespace eY
abbrev Arg:Type:=(List Row)×Int×Unit
abbrev Out:Type:=Int×Bool×Unit
abbrev ps:PQ:=[(.ro,(.aa aj)),(.ro,i64)]
noncomputable def D:FD:={ fn:=f194,tl:=be,ps:=ps,rs:=[(i64,(ah i64)),(.bool,(ah .bool))],lv:=[(2,[1,8,9,10])],lx:=[(0,[])] }
noncomputable def ab (a:Arg):Option Out:=@lift Out λk=>D.W k a
noncomputable def T0 (J:Arg) (Y:Int):St:={ n:=26,sl:=[(1,.val i64 J.2.1),(8,.val (.aa aj) J.1),(9,.val i64 (J.1.length:Int)),(10,.val i64 Y)],vr:=[],aA:=[] }
noncomputable def b0 (self:Int->Option Out) (e0:(Unit)->Option Out) (J:Arg) (Y:Int):Option Out:=bif decide (Y < (J.1.length:Int)) then (if 0<=Y then ((J.1[Y.toNat]?).bind λaT=>bif decide (aT.1=(0:Int)) then (bif decide (aT.2.1=J.2.1) then (some (aT.2.2.1,true,())) else self (al (Y+(1:Int)))) else self (al (Y+(1:Int)))) else none) else e0 ()
noncomputable abbrev B0 (_:Nat):=b0
noncomputable def q0 (J:Arg) (sH:(Unit)):Option Out:=some ((0:Int),false,())
noncomputable abbrev Q0 (_:Nat):=q0
noncomputable def s0 (k:Nat) (J:Arg):(Int)->Option Out:=λY=>D.L k [1,0,1,0,0] [1,8,9,10] [] (ai 0 (aG (D.N k [1,1]) D.K0)) (T0 J Y)
noncomputable def r0 (k:Nat) (J:Arg):(Int)->Option Out:=au (λw v=>B0 k w (Q0 k J) J v) k
theorem aO (k:Nat) (J:Arg):s0 k J=r0 k J:=
 funext λY=>aI _ _ _ (T0 J) _ (λrec v=>by kernel_rfl) k Y
noncomputable def p (l0:(Int)->Option Out) (J:Arg):Option Out:=l0 (0:Int)
theorem ae (k:Nat) (J:Arg):@Eq (Option Out) (D.W k J) (p (r0 k J) J):=
 Eq.trans (b:=p (s0 k J) J) (by kernel_rfl) (by rw[aO])
theorem ok:Ok prog 194 D.sig:=aw func194 aM (by kernel_rfl) (an _)
end eY
namespace jd
abbrev Arg:Type:=(List Row)×Change×Unit
abbrev Out:Type:=Int×Unit
abbrev ps:PQ:=[(.ro,(.aa aj)),(.ro,ay)]
noncomputable def D:FD:={ fn:=f146,tl:=be,ps:=ps,rs:=[(i64,(ah i64))],gl:=[(58,bu.D.sig),(193,cO.D.sig),(194,eY.D.sig)] }
noncomputable def ab (a:Arg):Option Out:=@lift Out λk=>D.W k a
noncomputable def p (J:Arg):Option Out:=(bu.ab (J.2.1,())).bind λr2=>bif decide (r2.1.1=(0:Int)) then ((cO.ab (J.1,J.2.1,())).bind λr3=>some (r3.1,())) else bif !J.2.1.2.2.1 then (some ((0:Int),())) else (eY.ab (J.1,J.2.1.2.2.2.1.1,())).bind λr4=>bif !r4.2.1 then (some ((4:Int),())) else bif decide (r4.1 < (J.2.1.2.2.2.1.2.2.2.1.length:Int)) then (some ((10:Int),())) else some ((0:Int),())
theorem ae (k:Nat) (J:Arg):@Eq (Option Out) (D.W k J) (p J):=by kernel_rfl
theorem ok:Ok prog 146 D.sig:=aw func146 aM (by kernel_rfl) (fc bu.ok (fc cO.ok (fc eY.ok (an _))))
end jd
namespace aQ
abbrev Arg:Type:=(List Row)×(List Tx)×Op×Unit
abbrev Out:Type:=aK×Unit
abbrev ps:PQ:=[(.ro,(.aa aj)),(.ro,(.aa aB)),(.ro,fm)]
noncomputable def D:FD:={ fn:=f86,tl:=be,ps:=ps,rs:=[(bz,(ah bz))],gl:=[(44,bc.D.sig),(93,cG.D.sig),(130,az.D.sig),(146,jd.D.sig)],lv:=[(3,[0,1,5,6,7,24,25,26]),(7,[0,1,5,6,7,24,25,26,36,37,38])],lx:=[(0,[0,1,5,6,7]),(1,[0,1,5,6,7,24,25,26]),(2,[0,1,5,6,7,24,25,26])],od:=[(20,[0,1,2,3,4,5,6,7]),(22,[0,1,2,3,4,5])],ar:=[(20,[3]),(22,[1])],bx:=[(22,[5])] }
noncomputable def ab (a:Arg):Option Out:=@lift Out λk=>D.W k a
noncomputable def T0 (J:Arg) (Y:(List Row)×(List Tx)×Op×aK×Key×(List Tx)×Int×Int):St:={ n:=145,sl:=[(0,.val (.aa aj) Y.1),(1,.val (.aa aB) Y.2.1),(5,.box fm (ah fm) [] Y.2.2.1),(6,.box bz (ah bz) [] Y.2.2.2.1),(7,.box aF (ah aF) [] Y.2.2.2.2.1),(24,.val (.aa aB) Y.2.2.2.2.2.1),(25,.val i64 Y.2.2.2.2.2.2.1),(26,.val i64 Y.2.2.2.2.2.2.2)],vr:=[],aA:=[] }
noncomputable def S0 (rec:RT Out) (J:Arg):((List Row)×(List Tx)×Op×aK×Key×(List Tx)×Int×Int)->Option Out:=λY=>rec (T0 J Y)
noncomputable def cV (K:KT Out) (J:Arg):((List Row)×(List Tx)×Op×aK×Key)->Option Out:=λz=>K (.exit 0) ({ n:=145,sl:=[(0,.val (.aa aj) z.1),(1,.val (.aa aB) z.2.1),(5,.box fm (ah fm) [] z.2.2.1),(6,.box bz (ah bz) [] z.2.2.2.1),(7,.box aF (ah aF) [] z.2.2.2.2)],vr:=[],aA:=[] })
noncomputable def T1 (J:Arg) (cC:List Row) (f5:List Tx) (eK:Op) (c6:aK) (iH:Key) (m9:List Tx) (fZ:Int) (m_:Int) (nc:List Key) (ne:Int) (e_:Int):St:={ n:=145,sl:=[(0,.val (.aa aj) cC),(1,.val (.aa aB) f5),(5,.box fm (ah fm) [] eK),(6,.box bz (ah bz) [] c6),(7,.box aF (ah aF) [] iH),(24,.val (.aa aB) m9),(25,.val i64 fZ),(26,.val i64 m_),(36,.val (.aa aF) nc),(37,.val i64 ne),(38,.val i64 e_)],vr:=[],aA:=[] }
noncomputable def b1 (self:Int->Option Out) (e2:(Unit)->Option Out) (J:Arg) (cC:List Row) (f5:List Tx) (eK:Op) (c6:aK) (iH:Key) (m9:List Tx) (fZ:Int) (m_:Int) (nc:List Key) (ne:Int) (e_:Int):Option Out:=bif decide (e_ < ne) then (if 0<=e_ then ((nc[e_.toNat]?).bind λAu=>bif (Ty.eq aF Au iH) then (some (((7:Int),false,(false,((0:Int),(0:Int),(0:Int),([]:List UInt8),()),false,((0:Int),(0:Int),(0:Int),([]:List UInt8),()),()),()),())) else bif !decide (iH.1=(0:Int)) then (bif (Ty.eq aF Au ((0:Int),iH.1,())) then (some (((7:Int),false,(false,((0:Int),(0:Int),(0:Int),([]:List UInt8),()),false,((0:Int),(0:Int),(0:Int),([]:List UInt8),()),()),()),())) else bif decide (iH.1=(0:Int)) then (bif decide (Au.1=iH.2.1) then (some (((7:Int),false,(false,((0:Int),(0:Int),(0:Int),([]:List UInt8),()),false,((0:Int),(0:Int),(0:Int),([]:List UInt8),()),()),()),())) else self (al (e_+(1:Int)))) else self (al (e_+(1:Int)))) else bif decide (iH.1=(0:Int)) then (bif decide (Au.1=iH.2.1) then (some (((7:Int),false,(false,((0:Int),(0:Int),(0:Int),([]:List UInt8),()),false,((0:Int),(0:Int),(0:Int),([]:List UInt8),()),()),()),())) else self (al (e_+(1:Int)))) else self (al (e_+(1:Int)))) else none) else e2 ()
noncomputable abbrev B1 (_:Nat):=b1
noncomputable def q0 (self:((List Row)×(List Tx)×Op×aK×Key×(List Tx)×Int×Int)->Option Out) (e0:((List Row)×(List Tx)×Op×aK×Key)->Option Out) (J:Arg) (cC:List Row) (f5:List Tx) (eK:Op) (c6:aK) (iH:Key) (m9:List Tx) (fZ:Int) (m_:Int) (nc:List Key) (ne:Int) (SR:(Unit)):Option Out:=self (cC,f5,eK,c6,iH,m9,fZ,al (m_+(1:Int)))
noncomputable abbrev Q0 (_:Nat):=q0
noncomputable def s1 (k:Nat) (rec:RT Out) (K:KT Out) (J:Arg):(List Row)->(List Tx)->Op->aK->Key->(List Tx)->Int->Int->(List Key)->Int->(Int)->Option Out:=λcC f5 eK c6 iH m9 fZ m_ nc ne=>λe_=>D.L k [1,1,0,1,0,0,1,1,0,0,1,1,1,0,0] [0,1,5,6,7,24,25,26,36,37,38] [] (ai 2 (ai 1 (aG (D.N k [1,1,0,1,0,0,1,1,1]) (fw rec (dz [0,1,5,6,7,24,25,26] []) K)))) (T1 J cC f5 eK c6 iH m9 fZ m_ nc ne e_)
noncomputable def r1 (k:Nat) (self:((List Row)×(List Tx)×Op×aK×Key×(List Tx)×Int×Int)->Option Out) (e0:((List Row)×(List Tx)×Op×aK×Key)->Option Out) (J:Arg):(List Row)->(List Tx)->Op->aK->Key->(List Tx)->Int->Int->(List Key)->Int->(Int)->Option Out:=λcC f5 eK c6 iH m9 fZ m_ nc ne=>au (λw v=>B1 k w (Q0 k self e0 J cC f5 eK c6 iH m9 fZ m_ nc ne) J cC f5 eK c6 iH m9 fZ m_ nc ne v) k
theorem ja (k:Nat) (rec:RT Out) (K:KT Out) (J:Arg):s1 k rec K J=r1 k (S0 rec J) (cV K J) J:=
 funext λcC=>funext λf5=>funext λeK=>funext λc6=>funext λiH=>funext λm9=>funext λfZ=>funext λm_=>funext λnc=>funext λne=>funext λe_=>aI _ _ _ (T1 J cC f5 eK c6 iH m9 fZ m_ nc ne) _ (λrec v=>by kernel_rfl) k e_
noncomputable def b0 (self:((List Row)×(List Tx)×Op×aK×Key×(List Tx)×Int×Int)->Option Out) (e0:((List Row)×(List Tx)×Op×aK×Key)->Option Out) (l1:(List Row)->(List Tx)->Op->aK->Key->(List Tx)->Int->Int->(List Key)->Int->(Int)->Option Out) (J:Arg) (Y:(List Row)×(List Tx)×Op×aK×Key×(List Tx)×Int×Int):Option Out:=bif decide (Y.2.2.2.2.2.2.2 < Y.2.2.2.2.2.2.1) then (if 0<=Y.2.2.2.2.2.2.2 then ((Y.2.2.2.2.2.1[Y.2.2.2.2.2.2.2.toNat]?).bind λaT=>bif decide (aT.1=Y.2.2.1.2.1) then (self (Y.1,Y.2.1,Y.2.2.1,Y.2.2.2.1,Y.2.2.2.2.1,Y.2.2.2.2.2.1,Y.2.2.2.2.2.2.1,al (Y.2.2.2.2.2.2.2+(1:Int)))) else l1 Y.1 Y.2.1 Y.2.2.1 Y.2.2.2.1 Y.2.2.2.2.1 Y.2.2.2.2.2.1 Y.2.2.2.2.2.2.1 Y.2.2.2.2.2.2.2 aT.2.2.2.1 (aT.2.2.2.1.length:Int) (0:Int)) else none) else e0 (Y.1,Y.2.1,Y.2.2.1,Y.2.2.2.1,Y.2.2.2.2.1)
noncomputable def B0 (k:Nat) (self:((List Row)×(List Tx)×Op×aK×Key×(List Tx)×Int×Int)->Option Out) (e0:((List Row)×(List Tx)×Op×aK×Key)->Option Out) (J:Arg) (Y:(List Row)×(List Tx)×Op×aK×Key×(List Tx)×Int×Int):Option Out:=b0 self e0 (r1 k self e0 J) J Y
theorem i_ (k:Nat) (rec:RT Out) (K:KT Out) (J:Arg) (Y:(List Row)×(List Tx)×Op×aK×Key×(List Tx)×Int×Int):D.N k [1,1,0,1,0,0] (T0 J Y) (fw rec (dz [0,1,5,6,7,24,25,26] []) K)=B0 k (S0 rec J) (cV K J) J Y:=
 Eq.trans (b:=b0 (S0 rec J) (cV K J) (s1 k rec K J) J Y) (by kernel_rfl) (by rw[ja];rfl)
noncomputable def q1 (J:Arg) (jX:((List Row)×(List Tx)×Op×aK×Key)):Option Out:=(az.ab (jX.1,jX.2.2.1.2.2.1,((129,0):Nat×Int),())).bind λxG=>let Ky:Option Out:=let Kz:Option Out:=let KA:=λ(Av:Change)=>(let KB:=λ(qF:Change)=>((jd.ab (jX.1,qF,())).bind λxH=>bif !decide (xH.1=(0:Int)) then (some ((xH.1,false,(false,((0:Int),(0:Int),(0:Int),([]:List UInt8),()),false,((0:Int),(0:Int),(0:Int),([]:List UInt8),()),()),()),())) else (bc.ab (jX.1,jX.2.1,())).bind λE5=>bif decide ((12:Int) < ((gr aF E5.1 jX.2.2.2.2 true).length:Int)) then (some (((9:Int),false,(false,((0:Int),(0:Int),(0:Int),([]:List UInt8),()),false,((0:Int),(0:Int),(0:Int),([]:List UInt8),()),()),()),())) else (cG.ab (jX.2.1,())).bind λE6=>bif decide ((12:Int)<=E6.1) then (some (((9:Int),false,(false,((0:Int),(0:Int),(0:Int),([]:List UInt8),()),false,((0:Int),(0:Int),(0:Int),([]:List UInt8),()),()),()),())) else bif qF.1 then (bif qF.2.2.1 then (bif (Ty.eq aj qF.2.1 qF.2.2.2.1) then (some (((0:Int),false,(false,((0:Int),(0:Int),(0:Int),([]:List UInt8),()),false,((0:Int),(0:Int),(0:Int),([]:List UInt8),()),()),()),())) else some (((0:Int),true,qF,()),())) else some (((0:Int),true,qF,()),())) else some (((0:Int),true,qF,()),()):Option Out);bif !decide (jX.2.2.1.1=(4:Int)) then (KB (Av.1,Av.2.1,true,jX.2.2.1.2.2.1,Av.2.2.2.2)) else KB Av:Option Out);bif xG.2.1 then (if 0<=xG.1 then ((jX.1[xG.1.toNat]?).bind λOt=>KA (true,Ot,false,((0:Int),(0:Int),(0:Int),([]:List UInt8),()),())) else none) else KA (false,((0:Int),(0:Int),(0:Int),([]:List UInt8),()),false,((0:Int),(0:Int),(0:Int),([]:List UInt8),()),());bif !decide (jX.2.2.1.1=(2:Int)) then (bif !xG.2.1 then (some (((4:Int),false,(false,((0:Int),(0:Int),(0:Int),([]:List UInt8),()),false,((0:Int),(0:Int),(0:Int),([]:List UInt8),()),()),()),())) else Kz) else Kz;bif decide (jX.2.2.1.1=(2:Int)) then (bif xG.2.1 then (some (((6:Int),false,(false,((0:Int),(0:Int),(0:Int),([]:List UInt8),()),false,((0:Int),(0:Int),(0:Int),([]:List UInt8),()),()),()),())) else Ky) else Ky
noncomputable abbrev Q1 (_:Nat):=q1
theorem o_ (k:Nat) (J:Arg) (jX:((List Row)×(List Tx)×Op×aK×Key)):cV (ai 0 (aG (D.N k [1,1,1]) D.K0)) J jX=q1 J jX:=by kernel_rfl
noncomputable def s0 (k:Nat) (J:Arg):((List Row)×(List Tx)×Op×aK×Key×(List Tx)×Int×Int)->Option Out:=λY=>D.L k [1,1,0,1,0,0] [0,1,5,6,7,24,25,26] [] (ai 0 (aG (D.N k [1,1,1]) D.K0)) (T0 J Y)
noncomputable def r0 (k:Nat) (J:Arg):((List Row)×(List Tx)×Op×aK×Key×(List Tx)×Int×Int)->Option Out:=au (λw v=>B0 k w (Q1 k J) J v) k
theorem aO (k:Nat) (J:Arg):s0 k J=r0 k J:=by
 funext Y;
 have h0:cV (ai 0 (aG (D.N k [1,1,1]) D.K0)) J=Q1 k J:=funext λz=>o_ k J z
 refine (aI _ _ _ (T0 J) (λself v=>B0 k self (cV (ai 0 (aG (D.N k [1,1,1]) D.K0)) J) J v) (λrec v=>i_ k rec (ai 0 (aG (D.N k [1,1,1]) D.K0)) J v) k Y).trans ?_
 rw[h0]
 rfl
noncomputable def p (l0:((List Row)×(List Tx)×Op×aK×Key×(List Tx)×Int×Int)->Option Out) (J:Arg):Option Out:=l0 (J.1,J.2.1,J.2.2.1,((0:Int),false,(false,((0:Int),(0:Int),(0:Int),([]:List UInt8),()),false,((0:Int),(0:Int),(0:Int),([]:List UInt8),()),()),()),(J.2.2.1.2.2.1.1,J.2.2.1.2.2.1.2.1,()),J.2.1,(J.2.1.length:Int),(0:Int))
theorem ae (k:Nat) (J:Arg):@Eq (Option Out) (D.W k J) (p (r0 k J) J):=
 Eq.trans (b:=p (s0 k J) J) (by kernel_rfl) (by rw[aO])
theorem ok:Ok prog 86 D.sig:=aw func86 aM (by kernel_rfl) (fc bc.ok (fc cG.ok (fc az.ok (fc jd.ok (an _)))))
end aQ
namespace cM
abbrev Arg:Type:=(List Row)×(List Tx)×Op×Unit
abbrev Out:Type:=aK×Unit
abbrev ps:PQ:=[(.ro,(.aa aj)),(.ro,(.aa aB)),(.ro,fm)]
noncomputable def D:FD:={ fn:=f30,tl:=be,ps:=ps,rs:=[(bz,(ah bz))],gl:=[(41,bC.D.sig),(42,aL.D.sig),(84,gQ.D.sig),(85,ek.D.sig),(86,aQ.D.sig)],lv:=[(2,[0,1,5,6,16,17,18])],lx:=[(0,[0,1,5,6])],od:=[(1,[0,2,4,8,1,3,5,6,7]),(22,[0,1,2,3,4,5,6,7,8])] }
noncomputable def ab (a:Arg):Option Out:=@lift Out λk=>D.W k a
noncomputable def T0 (J:Arg) (oO:List Int) (qc:Int) (ik:Int):St:={ n:=79,sl:=[(0,.val (.aa aj) J.1),(1,.val (.aa aB) J.2.1),(5,.box fm (ah fm) [] J.2.2.1),(6,.box bz (ah bz) [] ((0:Int),false,(false,((0:Int),(0:Int),(0:Int),([]:List UInt8),()),false,((0:Int),(0:Int),(0:Int),([]:List UInt8),()),()),())),(16,.own (.aa i64) (av (.aa i64)) [] oO),(17,.val i64 qc),(18,.val i64 ik)],vr:=[],aA:=[] }
noncomputable def b0 (self:Int->Option Out) (e0:(Unit)->Option Out) (J:Arg) (oO:List Int) (qc:Int) (ik:Int):Option Out:=bif decide (ik < qc) then (if 0<=ik/\ik < (oO.length:Int) then ((oO[ik.toNat]?).bind λNm=>bif !decide (Nm=(0:Int)) then (some ((Nm,false,(false,((0:Int),(0:Int),(0:Int),([]:List UInt8),()),false,((0:Int),(0:Int),(0:Int),([]:List UInt8),()),()),()),())) else self (al (ik+(1:Int)))) else none) else e0 ()
noncomputable abbrev B0 (_:Nat):=b0
noncomputable def q0 (J:Arg) (oO:List Int) (qc:Int) (ri:(Unit)):Option Out:=bif decide (J.2.2.1.1=(1:Int)) then (bif decide ((4:Int)<=(J.2.1.length:Int)) then (some (((2:Int),false,(false,((0:Int),(0:Int),(0:Int),([]:List UInt8),()),false,((0:Int),(0:Int),(0:Int),([]:List UInt8),()),()),()),())) else some (((0:Int),false,(false,((0:Int),(0:Int),(0:Int),([]:List UInt8),()),false,((0:Int),(0:Int),(0:Int),([]:List UInt8),()),()),()),())) else bif decide (J.2.2.1.1=(9:Int)) then (some (((0:Int),false,(false,((0:Int),(0:Int),(0:Int),([]:List UInt8),()),false,((0:Int),(0:Int),(0:Int),([]:List UInt8),()),()),()),())) else (ek.ab (J.2.1,J.2.2.1.2.1,())).bind λoN=>bif decide (oN.1 < (0:Int)) then (some (((4:Int),false,(false,((0:Int),(0:Int),(0:Int),([]:List UInt8),()),false,((0:Int),(0:Int),(0:Int),([]:List UInt8),()),()),()),())) else let BR:Option Out:=some (((0:Int),false,(false,((0:Int),(0:Int),(0:Int),([]:List UInt8),()),false,((0:Int),(0:Int),(0:Int),([]:List UInt8),()),()),()),());bif decide (J.2.2.1.1=(5:Int)) then (if 0<=oN.1 then ((J.2.1[oN.1.toNat]?).bind λQs=>bif decide ((8:Int)<=(Qs.2.2.1.length:Int)) then (some (((2:Int),false,(false,((0:Int),(0:Int),(0:Int),([]:List UInt8),()),false,((0:Int),(0:Int),(0:Int),([]:List UInt8),()),()),()),())) else BR) else none) else bif decide (J.2.2.1.1=(6:Int)) then (if 0<=oN.1 then ((J.2.1[oN.1.toNat]?).bind λNg=>bif decide ((Ng.2.2.1.length:Int)<=J.2.2.1.2.2.2.1) then (some (((3:Int),false,(false,((0:Int),(0:Int),(0:Int),([]:List UInt8),()),false,((0:Int),(0:Int),(0:Int),([]:List UInt8),()),()),()),())) else BR) else none) else bif decide (J.2.2.1.1=(2:Int)) then (bif decide (J.2.2.1.1=(2:Int)) then ((aQ.ab (J.1,J.2.1,J.2.2.1,())).bind λIK=>some (IK.1,())) else BR) else bif decide (J.2.2.1.1=(3:Int)) then (bif decide (J.2.2.1.1=(3:Int)) then ((aQ.ab (J.1,J.2.1,J.2.2.1,())).bind λQt=>some (Qt.1,())) else BR) else bif decide (J.2.2.1.1=(4:Int)) then ((aQ.ab (J.1,J.2.1,J.2.2.1,())).bind λQu=>some (Qu.1,())) else BR
noncomputable abbrev Q0 (_:Nat):=q0
noncomputable def s0 (k:Nat) (J:Arg):(List Int)->Int->(Int)->Option Out:=λoO qc=>λik=>D.L k [1,0,1,0,0] [0,1,5,6,16,17,18] [] (ai 0 (aG (D.N k [1,1]) D.K0)) (T0 J oO qc ik)
noncomputable def r0 (k:Nat) (J:Arg):(List Int)->Int->(Int)->Option Out:=λoO qc=>au (λw v=>B0 k w (Q0 k J oO qc) J oO qc v) k
theorem aO (k:Nat) (J:Arg):s0 k J=r0 k J:=
 funext λoO=>funext λqc=>funext λik=>aI _ _ _ (T0 J oO qc) _ (λrec v=>by kernel_rfl) k ik
noncomputable def p (l0:(List Int)->Int->(Int)->Option Out) (J:Arg):Option Out:=(bC.ab (J.1,())).bind λr2=>(aL.ab (J.2.1,())).bind λr3=>(gQ.ab (J.2.2.1,())).bind λr4=>l0 [r2.1,r3.1,r4.1] ([r2.1,r3.1,r4.1].length:Int) (0:Int)
theorem ae (k:Nat) (J:Arg):@Eq (Option Out) (D.W k J) (p (r0 k J) J):=
 Eq.trans (b:=p (s0 k J) J) (by kernel_rfl) (by rw[aO])
theorem ok:Ok prog 30 D.sig:=aw func30 aM (by kernel_rfl) (fc bC.ok (fc aL.ok (fc gQ.ok (fc ek.ok (fc aQ.ok (an _))))))
end cM
namespace d6
abbrev Arg:Type:=(List Change)×Unit
abbrev Out:Type:=(List Change)×Unit
abbrev ps:PQ:=[(.ro,(.aa ay))]
noncomputable def D:FD:={ fn:=f147,tl:=be,ps:=ps,rs:=[((.aa ay),(av (.aa ay)))] }
noncomputable def ab (a:Arg):Option Out:=@lift Out λk=>D.W k a
noncomputable def p (J:Arg):Option Out:=qR J.1 (some (([]:List Change),())) (if ([]:List Change).length+J.1.length<=bV then (some (([]:List Change)++J.1,())) else none)
theorem ae (k:Nat) (J:Arg):@Eq (Option Out) (D.W k J) (p J):=by kernel_rfl
theorem ok:Ok prog 147 D.sig:=aw func147 aM (by kernel_rfl) (an _)
end d6
namespace en
abbrev Arg:Type:=(List Int)×Unit
abbrev Out:Type:=(List Int)×Unit
abbrev ps:PQ:=[(.ro,(.aa i64))]
noncomputable def D:FD:={ fn:=f148,tl:=be,ps:=ps,rs:=[((.aa i64),(av (.aa i64)))] }
noncomputable def ab (a:Arg):Option Out:=@lift Out λk=>D.W k a
noncomputable def p (J:Arg):Option Out:=qR J.1 (some (([]:List Int),())) (if ([]:List Int).length+J.1.length<=bV then (some (([]:List Int)++J.1,())) else none)
theorem ae (k:Nat) (J:Arg):@Eq (Option Out) (D.W k J) (p J):=by kernel_rfl
theorem ok:Ok prog 148 D.sig:=aw func148 aM (by kernel_rfl) (an _)
end en
namespace eZ
abbrev Arg:Type:=(List Key)×Unit
abbrev Out:Type:=(List Key)×Unit
abbrev ps:PQ:=[(.ro,(.aa aF))]
noncomputable def D:FD:={ fn:=f149,tl:=be,ps:=ps,rs:=[((.aa aF),(av (.aa aF)))] }
noncomputable def ab (a:Arg):Option Out:=@lift Out λk=>D.W k a
noncomputable def p (J:Arg):Option Out:=qR J.1 (some (([]:List Key),())) (if ([]:List Key).length+J.1.length<=bV then (some (([]:List Key)++J.1,())) else none)
theorem ae (k:Nat) (J:Arg):@Eq (Option Out) (D.W k J) (p J):=by kernel_rfl
theorem ok:Ok prog 149 D.sig:=aw func149 aM (by kernel_rfl) (an _)
end eZ
namespace bY
abbrev Arg:Type:=(List Tx)×Unit
abbrev Out:Type:=(List Tx)×Unit
abbrev ps:PQ:=[(.ro,(.aa aB))]
noncomputable def D:FD:={ fn:=f88,tl:=be,ps:=ps,rs:=[((.aa aB),(av (.aa aB)))],gl:=[(147,d6.D.sig),(148,en.D.sig),(149,eZ.D.sig)],lv:=[(3,[3,6,7,8])],lx:=[(0,[3])],od:=[(5,[0,1,2,3,4,6,7,9,10,5,8,11,12,13,14,15])] }
noncomputable def ab (a:Arg):Option Out:=@lift Out λk=>D.W k a
noncomputable def T0 (J:Arg) (Y:(List Tx)×Int):St:={ n:=29,sl:=[(3,.own (.aa aB) (av (.aa aB)) [] Y.1),(6,.val (.aa aB) J.1),(7,.val i64 (J.1.length:Int)),(8,.val i64 Y.2)],vr:=[],aA:=[] }
noncomputable def b0 (self:((List Tx)×Int)->Option Out) (e0:(List Tx)->Option Out) (J:Arg) (Y:(List Tx)×Int):Option Out:=bif decide (Y.2 < (J.1.length:Int)) then (if 0<=Y.2 then ((J.1[Y.2.toNat]?).bind λaT=>(d6.ab (aT.2.1,())).bind λbN=>(en.ab (aT.2.2.1,())).bind λiD=>(eZ.ab (aT.2.2.2.1,())).bind λij=>if Y.1.length+[(aT.1,bN.1,iD.1,ij.1,())].length<=bV then (let IM:=Y.1++[(aT.1,bN.1,iD.1,ij.1,())];self (IM,al (Y.2+(1:Int)))) else none) else none) else e0 Y.1
noncomputable abbrev B0 (_:Nat):=b0
noncomputable def q0 (J:Arg) (EY:(List Tx)):Option Out:=some (EY,())
noncomputable abbrev Q0 (_:Nat):=q0
noncomputable def s0 (k:Nat) (J:Arg):((List Tx)×Int)->Option Out:=λY=>D.L k [1,1,0,1,0,0] [3,6,7,8] [] (ai 0 (aG (D.N k [1,1,1]) D.K0)) (T0 J Y)
noncomputable def r0 (k:Nat) (J:Arg):((List Tx)×Int)->Option Out:=au (λw v=>B0 k w (Q0 k J) J v) k
theorem aO (k:Nat) (J:Arg):s0 k J=r0 k J:=
 funext λY=>aI _ _ _ (T0 J) _ (λrec v=>by kernel_rfl) k Y
noncomputable def p (l0:((List Tx)×Int)->Option Out) (J:Arg):Option Out:=l0 (([]:List Tx),(0:Int))
theorem ae (k:Nat) (J:Arg):@Eq (Option Out) (D.W k J) (p (r0 k J) J):=
 Eq.trans (b:=p (s0 k J) J) (by kernel_rfl) (by rw[aO])
theorem ok:Ok prog 88 D.sig:=aw func88 aM (by kernel_rfl) (fc d6.ok (fc en.ok (fc eZ.ok (an _))))
end bY
namespace gx
abbrev Arg:Type:=Plain×Unit
abbrev Out:Type:=Plain×Unit
abbrev ps:PQ:=[(.ro,bJ)]
noncomputable def D:FD:={ fn:=f31,tl:=be,ps:=ps,rs:=[(bJ,(av bJ))],gl:=[(87,cd.D.sig),(88,bY.D.sig)],od:=[(1,[0,1,3,4,6,7,2,5,8,9])] }
noncomputable def ab (a:Arg):Option Out:=@lift Out λk=>D.W k a
noncomputable def p (J:Arg):Option Out:=(cd.ab (J.1.1,())).bind λr2=>(bY.ab (J.1.2.1,())).bind λr3=>some ((r2.1,r3.1,J.1.2.2.1,()),())
theorem ae (k:Nat) (J:Arg):@Eq (Option Out) (D.W k J) (p J):=by kernel_rfl
theorem ok:Ok prog 31 D.sig:=aw func31 aM (by kernel_rfl) (fc cd.ok (fc bY.ok (an _)))
end gx
namespace cB
abbrev Arg:Type:=Plain×(List Change)×Unit
abbrev Out:Type:=Int×Plain×Unit
abbrev ps:PQ:=[(.dt (.pair (av (.aa aj)) (.pair (.aa true (.pair (ah i64) (.pair (ah (.aa ay)) (av (ba [(.aa i64),(.aa aF)]))))) (ah (ba [i64])))) (.pair (av (.aa aj)) (.pair (.aa true (.pair (ah i64) (.pair (ah (.aa ay)) (av (ba [(.aa i64),(.aa aF)]))))) (ah (ba [i64])))),bJ),(.ro,(.aa ay))]
noncomputable def D:FD:={ fn:=f32,tl:=be,ps:=ps,rs:=[(i64,(ah i64))],gl:=[(89,bD.D.sig)],es:=[0] }
noncomputable def ab (a:Arg):Option Out:=@lift Out λk=>D.W k a
noncomputable def p (J:Arg):Option Out:=(bD.ab (J.1.1,J.2.1,())).bind λr2=>bif decide (r2.1.1=(0:Int)) then (some (r2.1.1,(r2.1.2.1,J.1.2),())) else some (r2.1.1,J.1,())
theorem ae (k:Nat) (J:Arg):@Eq (Option Out) (D.W k J) (p J):=by kernel_rfl
theorem ok:Ok prog 32 D.sig:=aw func32 aM (by kernel_rfl) (fc bD.ok (an _))
end cB
namespace ft
abbrev Arg:Type:=(List Tx)×Key×Unit
abbrev Out:Type:=Int×Unit
abbrev ps:PQ:=[(.ro,(.aa aB)),(.ro,aF)]
noncomputable def D:FD:={ fn:=f91,tl:=be,ps:=ps,rs:=[(i64,(ah i64))],gl:=[(151,bG.D.sig)],lv:=[(2,[3,7,8,9])],lx:=[(0,[])] }
noncomputable def ab (a:Arg):Option Out:=@lift Out λk=>D.W k a
noncomputable def T0 (J:Arg) (Y:Int):St:={ n:=20,sl:=[(3,.box aF (ah aF) [] J.2.1),(7,.val (.aa aB) J.1),(8,.val i64 (J.1.length:Int)),(9,.val i64 Y)],vr:=[],aA:=[] }
noncomputable def b0 (self:Int->Option Out) (e0:(Unit)->Option Out) (J:Arg) (Y:Int):Option Out:=bif decide (Y < (J.1.length:Int)) then (if 0<=Y then ((J.1[Y.toNat]?).bind λaT=>(bG.ab (aT.2.2.2.1,J.2.1,())).bind λbN=>bif bN.1 then (some (aT.1,())) else self (al (Y+(1:Int)))) else none) else e0 ()
noncomputable abbrev B0 (_:Nat):=b0
noncomputable def q0 (J:Arg) (cJ:(Unit)):Option Out:=some ((0:Int),())
noncomputable abbrev Q0 (_:Nat):=q0
noncomputable def s0 (k:Nat) (J:Arg):(Int)->Option Out:=λY=>D.L k [1,0,1,0,0] [3,7,8,9] [] (ai 0 (aG (D.N k [1,1]) D.K0)) (T0 J Y)
noncomputable def r0 (k:Nat) (J:Arg):(Int)->Option Out:=au (λw v=>B0 k w (Q0 k J) J v) k
theorem aO (k:Nat) (J:Arg):s0 k J=r0 k J:=
 funext λY=>aI _ _ _ (T0 J) _ (λrec v=>by kernel_rfl) k Y
noncomputable def p (l0:(Int)->Option Out) (J:Arg):Option Out:=l0 (0:Int)
theorem ae (k:Nat) (J:Arg):@Eq (Option Out) (D.W k J) (p (r0 k J) J):=
 Eq.trans (b:=p (s0 k J) J) (by kernel_rfl) (by rw[aO])
theorem ok:Ok prog 91 D.sig:=aw func91 aM (by kernel_rfl) (fc bG.ok (an _))
end ft
namespace il
abbrev Arg:Type:=(List Tx)×Int×Change×Unit
abbrev Out:Type:=(List Tx)×Unit
abbrev ps:PQ:=[(.ro,(.aa aB)),(.ro,i64),(.ro,ay)]
noncomputable def D:FD:={ fn:=f94,tl:=be,ps:=ps,rs:=[((.aa aB),(av (.aa aB)))],gl:=[(88,bY.D.sig),(92,cf.D.sig),(151,bG.D.sig)],od:=[(3,[0,1,2,3,4,5,6,7,8,9,10]),(4,[0,1,2,3,4,5,6,7]),(5,[0,1,2,3,4,5,6,7,8,9,10,11])] }
noncomputable def ab (a:Arg):Option Out:=@lift Out λk=>D.W k a
noncomputable def p (J:Arg):Option Out:=(bY.ab (J.1,())).bind λr2=>if 0<=J.2.1/\J.2.1 < (r2.1.length:Int) then ((r2.1[J.2.1.toNat]?).bind λx3=>(r2.1[J.2.1.toNat]?).bind λx4=>(r2.1[J.2.1.toNat]?).bind λx5=>if x4.2.1.length+[J.2.2.1].length<=bV then (if J.2.1.toNat=J.2.1.toNat then ((r2.1.set J.2.1.toNat x5)[J.2.1.toNat]?).bind λx6=>let y7:=(r2.1.set J.2.1.toNat x5).set J.2.1.toNat (x6.1,x4.2.1++[J.2.2.1],x6.2.2);(y7[J.2.1.toNat]?).bind λx8=>(cf.ab (J.2.2.1,())).bind λr9=>(y7[J.2.1.toNat]?).bind λvy=>(bG.ab (vy.2.2.2.1,r9.1,())).bind λmR=>bif !mR.1 then ((y7[J.2.1.toNat]?).bind λvx=>(cf.ab (J.2.2.1,())).bind λzC=>(y7[J.2.1.toNat]?).bind λxE=>(y7[J.2.1.toNat]?).bind λxF=>if xE.2.2.2.1.length+[zC.1].length<=bV then (if J.2.1.toNat=J.2.1.toNat then ((y7.set J.2.1.toNat xF)[J.2.1.toNat]?).bind λqb=>let vz:=(y7.set J.2.1.toNat xF).set J.2.1.toNat (qb.1,qb.2.1,qb.2.2.1,xE.2.2.2.1++[zC.1],qb.2.2.2.2);some (vz,()) else none) else none) else some (y7,()) else none) else none) else none
theorem ae (k:Nat) (J:Arg):@Eq (Option Out) (D.W k J) (p J):=by kernel_rfl
theorem ok:Ok prog 94 D.sig:=aw func94 aM (by kernel_rfl) (fc bY.ok (fc cf.ok (fc bG.ok (an _))))
end il
namespace eL
abbrev Arg:Type:=(List Tx)×Int×Change×Unit
abbrev Out:Type:=t_×Unit
abbrev ps:PQ:=[(.ro,(.aa aB)),(.ro,i64),(.ro,ay)]
noncomputable def D:FD:={ fn:=f33,tl:=be,ps:=ps,rs:=[(sG,(av sG))],gl:=[(42,aL.D.sig),(85,ek.D.sig),(90,dO.D.sig),(91,ft.D.sig),(92,cf.D.sig),(93,cG.D.sig),(94,il.D.sig)] }
noncomputable def ab (a:Arg):Option Out:=@lift Out λk=>D.W k a
noncomputable def p (J:Arg):Option Out:=(aL.ab (J.1,())).bind λr2=>bif !decide (r2.1=(0:Int)) then (some ((r2.1,([]:List Tx),()),())) else (ek.ab (J.1,J.2.1,())).bind λr3=>bif decide (r3.1 < (0:Int)) then (some (((4:Int),([]:List Tx),()),())) else (dO.ab (J.2.2.1,())).bind λr4=>bif !decide (r4.1=(0:Int)) then (some ((r4.1,([]:List Tx),()),())) else (cf.ab (J.2.2.1,())).bind λr5=>(ft.ab (J.1,r5.1,())).bind λr6=>let Hh:Option Out:=(cG.ab (J.1,())).bind λrJ=>bif decide ((12:Int)<=rJ.1) then (some (((2:Int),([]:List Tx),()),())) else bif decide (r6.1=(0:Int)) then (if 0<=r3.1 then ((J.1[r3.1.toNat]?).bind λud=>bif decide ((12:Int)<=(ud.2.2.2.1.length:Int)) then (some (((2:Int),([]:List Tx),()),())) else (il.ab (J.1,r3.1,J.2.2.1,())).bind λSg=>some (((0:Int),Sg.1,()),())) else none) else (il.ab (J.1,r3.1,J.2.2.1,())).bind λSh=>some (((0:Int),Sh.1,()),());bif !decide (r6.1=(0:Int)) then (bif !decide (r6.1=J.2.1) then (some (((7:Int),([]:List Tx),()),())) else Hh) else Hh
theorem ae (k:Nat) (J:Arg):@Eq (Option Out) (D.W k J) (p J):=by kernel_rfl
theorem ok:Ok prog 33 D.sig:=aw func33 aM (by kernel_rfl) (fc aL.ok (fc ek.ok (fc dO.ok (fc ft.ok (fc cf.ok (fc cG.ok (fc il.ok (an _))))))))
end eL
namespace iu
abbrev Arg:Type:=(List Tx)×Int×Unit
abbrev Out:Type:=(List Tx)×Int×Unit
abbrev ps:PQ:=[(.ro,(.aa aB)),(.ro,i64)]
noncomputable def D:FD:={ fn:=f34,tl:=be,ps:=ps,rs:=[((.aa aB),(av (.aa aB))),(i64,(ah i64))],gl:=[(85,ek.D.sig),(88,bY.D.sig)],od:=[(3,[0,1,2,3,4,5,6,7,8,9,10,11,12,13,14]),(4,[0,1,2,3,4,5,6,7,8])] }
noncomputable def ab (a:Arg):Option Out:=@lift Out λk=>D.W k a
noncomputable def p (J:Arg):Option Out:=(bY.ab (J.1,())).bind λr2=>(ek.ab (r2.1,J.2.1,())).bind λr3=>if 0<=r3.1/\r3.1 < (r2.1.length:Int) then ((r2.1[r3.1.toNat]?).bind λx4=>(r2.1[r3.1.toNat]?).bind λx5=>(r2.1[r3.1.toNat]?).bind λx6=>(r2.1[r3.1.toNat]?).bind λx7=>(r2.1[r3.1.toNat]?).bind λx8=>if x7.2.2.1.length+[(x6.2.1.length:Int)].length<=bV then (if r3.1.toNat=r3.1.toNat then ((r2.1.set r3.1.toNat x8)[r3.1.toNat]?).bind λx9=>let Nn:=(r2.1.set r3.1.toNat x8).set r3.1.toNat (x9.1,x9.2.1,x7.2.2.1++[(x6.2.1.length:Int)],x9.2.2.2);(Nn[r3.1.toNat]?).bind λzD=>(Nn[r3.1.toNat]?).bind λvx=>some (Nn,al ((vx.2.2.1.length:Int) - (1:Int)),()) else none) else none) else none
theorem ae (k:Nat) (J:Arg):@Eq (Option Out) (D.W k J) (p J):=by kernel_rfl
theorem ok:Ok prog 34 D.sig:=aw func34 aM (by kernel_rfl) (fc ek.ok (fc bY.ok (an _)))
end iu
namespace iE
open Go.Proofs
abbrev Arg:Type:=(List Tx)×Int×(Int)×Unit
abbrev Out:Type:=(List Tx)×Unit
noncomputable def ab (a:Arg):Option Out:=yK aB a
noncomputable def sig:kE:={ ps:=[(.fi (av (.aa aB)),(.aa aB)),(.ro,i64),(.ro,i64)],rs:=[((.aa aB),av (.aa aB))],F:=ab,vd:=λv H=>BP v.2.1 v.2.2.1 H }
def Si:Go.Shelf.Ren:=⟨λ| 45=>96 | n=>n,λ| 22=>25 | 23=>76 | 3=>3 | 4=>4 | 0=>0 | n=>n,λn=>n⟩
theorem lay:SlLaysE0.n45 prog Si:=⟨by kernel_rfl,⟨f96.name,by decide,func96.trans (congrArg some (by kernel_rfl))⟩,underlying0,isAgg0,sizeOf0,zeroValue0,underlying3,isAgg3,sizeOf3,zeroValue3,underlying4,isAgg4,sizeOf4,zeroValue4,underlying25,isAgg25,sizeOf25,zeroValue25⟩
theorem ok:Ok prog 96 sig:=Hf (e:=aB) lay (by kernel_rfl) (by decide) (by decide) ⟨f96,func96,by kernel_rfl,by kernel_rfl,by kernel_rfl⟩
end iE
namespace fE
abbrev Arg:Type:=(List Tx)×Op×Unit
abbrev Out:Type:=(List Tx)×(List Change)×Unit
abbrev ps:PQ:=[(.ro,(.aa aB)),(.ro,fm)]
noncomputable def D:FD:={ fn:=f35,tl:=be,ps:=ps,rs:=[((.aa aB),(av (.aa aB))),((.aa ay),(av (.aa ay)))],gl:=[(85,ek.D.sig),(88,bY.D.sig),(95,dk.D.sig),(96,iE.sig)],od:=[(5,[0,1,2,3,4,5,6,7,8]),(8,[0,1,2,3,4,5,6,7,8,9,10,11])] }
noncomputable def ab (a:Arg):Option Out:=@lift Out λk=>D.W k a
noncomputable def p (J:Arg):Option Out:=(bY.ab (J.1,())).bind λr2=>(ek.ab (r2.1,J.2.1.2.1,())).bind λr3=>if 0<=r3.1/\r3.1 < (r2.1.length:Int) then (bif decide (J.2.1.1=(6:Int)) then ((r2.1[r3.1.toNat]?).bind λx4=>(r2.1[r3.1.toNat]?).bind λx5=>if 0<=J.2.1.2.2.2.1/\J.2.1.2.2.2.1 < (x5.2.2.1.length:Int) then ((r2.1[r3.1.toNat]?).bind λx6=>(x6.2.2.1[J.2.1.2.2.2.1.toNat]?).bind λx7=>(r2.1[r3.1.toNat]?).bind λx8=>(r2.1[r3.1.toNat]?).bind λx9=>if 0<=x7/\x7<=(x9.2.1.length:Int) then ((r2.1[r3.1.toNat]?).bind λvy=>(dk.ab ((vy.2.1.take x9.2.1.length).drop x7.toNat,())).bind λmR=>(r2.1[r3.1.toNat]?).bind λvx=>(r2.1[r3.1.toNat]?).bind λud=>if 0<=x7/\x7<=(ud.2.1.length:Int) then ((r2.1[r3.1.toNat]?).bind λxE=>(r2.1[r3.1.toNat]?).bind λxF=>if r3.1.toNat=r3.1.toNat then ((r2.1.set r3.1.toNat xF)[r3.1.toNat]?).bind λqb=>let vz:=(r2.1.set r3.1.toNat xF).set r3.1.toNat (qb.1,(xE.2.1.take x7.toNat).drop 0,qb.2.2);(vz[r3.1.toNat]?).bind λNi=>(vz[r3.1.toNat]?).bind λPj=>if 0<=al (J.2.1.2.2.2.1+(1:Int))/\al (J.2.1.2.2.2.1+(1:Int))<=(Pj.2.2.1.length:Int) then ((vz[r3.1.toNat]?).bind λSj=>(vz[r3.1.toNat]?).bind λNj=>if r3.1.toNat=r3.1.toNat then ((vz.set r3.1.toNat Nj)[r3.1.toNat]?).bind λKu=>let Sk:=(vz.set r3.1.toNat Nj).set r3.1.toNat (Ku.1,Ku.2.1,(Sj.2.2.1.take (al (J.2.1.2.2.2.1+(1:Int))).toNat).drop 0,Ku.2.2.2);some (Sk,mR.1,()) else none) else none else none) else none) else none) else none) else (r2.1[r3.1.toNat]?).bind λKp=>(r2.1[r3.1.toNat]?).bind λDM=>(dk.ab (DM.2.1,())).bind λKq=>(iE.ab (r2.1,r3.1,al (r3.1+(1:Int)),())).bind λKr=>some (Kr.1,Kq.1,())) else none
theorem ae (k:Nat) (J:Arg):@Eq (Option Out) (D.W k J) (p J):=by kernel_rfl
theorem ok:Ok prog 35 D.sig:=aw func35 aM (by kernel_rfl) (fc ek.ok (fc bY.ok (fc dk.ok (fc iE.ok (an _)))))
end fE
namespace d_
abbrev Arg:Type:=Plain×Op×Unit
abbrev Out:Type:=gA×Unit
abbrev ps:PQ:=[(.ro,bJ),(.ro,fm)]
noncomputable def D:FD:={ fn:=f8,tl:=be,ps:=ps,rs:=[(eB,(av eB))],gl:=[(11,cy.D.sig),(30,cM.D.sig),(31,gx.D.sig),(32,cB.D.sig),(33,eL.D.sig),(34,iu.D.sig),(35,fE.D.sig)] }
noncomputable def ab (a:Arg):Option Out:=@lift Out λk=>D.W k a
noncomputable def p (J:Arg):Option Out:=(cy.ab (J.1,())).bind λr2=>bif !decide (r2.1=(0:Int)) then (some ((r2.1,(0:Int),(([]:List Row),([]:List Tx),(0:Int),()),()),())) else (cM.ab (J.1.1,J.1.2.1,J.2.1,())).bind λr3=>bif !decide (r3.1.1=(0:Int)) then (some ((r3.1.1,(0:Int),(([]:List Row),([]:List Tx),(0:Int),()),()),())) else (gx.ab (J.1,())).bind λr4=>bif decide (J.2.1.1=(1:Int)) then (bif decide (J.1.2.2.1=(100:Int)) then (some (((9:Int),(0:Int),(([]:List Row),([]:List Tx),(0:Int),()),()),())) else if r4.1.2.1.length+[(J.1.2.2.1,([]:List Change),([]:List Int),([]:List Key),())].length<=bV then (let y5:=r4.1.2.1++[(J.1.2.2.1,([]:List Change),([]:List Int),([]:List Key),())];some (((0:Int),J.1.2.2.1,(r4.1.1,y5,al (r4.1.2.2.1+(1:Int)),r4.1.2.2.2),()),())) else none) else bif r3.1.2.1 then ((cB.ab (r4.1,[r3.1.2.2.1],())).bind λr6=>bif !decide (r6.1=(0:Int)) then (some ((r6.1,(0:Int),(([]:List Row),([]:List Tx),(0:Int),()),()),())) else (eL.ab (J.1.2.1,J.2.1.2.1,r3.1.2.2.1,())).bind λr7=>bif !decide (r7.1.1=(0:Int)) then (some ((r7.1.1,(0:Int),(([]:List Row),([]:List Tx),(0:Int),()),()),())) else some (((0:Int),(0:Int),(r6.2.1.1,r7.1.2.1,r6.2.1.2.2),()),())) else bif decide (J.2.1.1=(5:Int)) then ((iu.ab (J.1.2.1,J.2.1.2.1,())).bind λr8=>some (((0:Int),r8.2.1,(r4.1.1,r8.1,r4.1.2.2),()),())) else bif decide (J.2.1.1=(6:Int)) then ((fE.ab (J.1.2.1,J.2.1,())).bind λr9=>(cB.ab (r4.1,r9.2.1,())).bind λkm=>bif !decide (km.1=(0:Int)) then (some ((km.1,(0:Int),(([]:List Row),([]:List Tx),(0:Int),()),()),())) else some (((0:Int),(0:Int),(km.2.1.1,r9.1,km.2.1.2.2),()),())) else bif decide (J.2.1.1=(8:Int)) then ((fE.ab (J.1.2.1,J.2.1,())).bind λmR=>(cB.ab (r4.1,mR.2.1,())).bind λrJ=>bif !decide (rJ.1=(0:Int)) then (some ((rJ.1,(0:Int),(([]:List Row),([]:List Tx),(0:Int),()),()),())) else some (((0:Int),(0:Int),(rJ.2.1.1,mR.1,rJ.2.1.2.2),()),())) else bif decide (J.2.1.1=(7:Int)) then ((fE.ab (J.1.2.1,J.2.1,())).bind λzC=>some (((0:Int),(0:Int),(r4.1.1,zC.1,r4.1.2.2),()),())) else some (((0:Int),(0:Int),r4.1,()),())
theorem ae (k:Nat) (J:Arg):@Eq (Option Out) (D.W k J) (p J):=by kernel_rfl
theorem ok:Ok prog 8 D.sig:=aw func8 aM (by kernel_rfl) (fc cy.ok (fc cM.ok (fc gx.ok (fc cB.ok (fc eL.ok (fc iu.ok (fc fE.ok (an _))))))))
end d_
namespace eu
abbrev Arg:Type:=Plain×Unit
abbrev Out:Type:=lj×Unit
abbrev ps:PQ:=[(.ro,bJ)]
noncomputable def D:FD:={ fn:=f10,tl:=be,ps:=ps,rs:=[(jk,(av jk))],gl:=[(11,cy.D.sig),(40,cg.D.sig)] }
noncomputable def ab (a:Arg):Option Out:=@lift Out λk=>D.W k a
noncomputable def p (J:Arg):Option Out:=(cy.ab (J.1,())).bind λr2=>bif !decide (r2.1=(0:Int)) then (some ((r2.1,([]:List Row),()),())) else (cg.ab (J.1.1,J.1.2.1,())).bind λr3=>some (((0:Int),r3.1,()),())
theorem ae (k:Nat) (J:Arg):@Eq (Option Out) (D.W k J) (p J):=by kernel_rfl
theorem ok:Ok prog 10 D.sig:=aw func10 aM (by kernel_rfl) (fc cy.ok (fc cg.ok (an _)))
end eu
namespace eg
abbrev Arg:Type:=(List Row)×(List Row)×Unit
abbrev Out:Type:=Bool×Unit
abbrev ps:PQ:=[(.ro,(.aa aj)),(.ro,(.aa aj))]
noncomputable def D:FD:={ fn:=f12,tl:=be,ps:=ps,rs:=[(.bool,(ah .bool))],lv:=[(4,[0,1,5])],lx:=[(0,[])],od:=[(6,[0,1,2,3,4,5,6,7,8])] }
noncomputable def ab (a:Arg):Option Out:=@lift Out λk=>D.W k a
noncomputable def T0 (J:Arg) (Y:Int):St:={ n:=26,sl:=[(0,.val (.aa aj) J.1),(1,.val (.aa aj) J.2.1),(5,.val i64 Y)],vr:=[],aA:=[] }
noncomputable def b0 (self:Int->Option Out) (e0:(Unit)->Option Out) (J:Arg) (Y:Int):Option Out:=bif decide (Y < (J.1.length:Int)) then (if 0<=Y then ((J.1[Y.toNat]?).bind λaT=>if 0<=Y then ((J.2.1[Y.toNat]?).bind λub=>bif !(Ty.eq aj aT ub) then (some (false,())) else self (al (Y+(1:Int)))) else none) else none) else e0 ()
noncomputable abbrev B0 (_:Nat):=b0
noncomputable def q0 (J:Arg) (cJ:(Unit)):Option Out:=some (true,())
noncomputable abbrev Q0 (_:Nat):=q0
noncomputable def s0 (k:Nat) (J:Arg):(Int)->Option Out:=λY=>D.L k [1,1,0,1,0,0] [0,1,5] [] (ai 0 (aG (D.N k [1,1,1]) D.K0)) (T0 J Y)
noncomputable def r0 (k:Nat) (J:Arg):(Int)->Option Out:=au (λw v=>B0 k w (Q0 k J) J v) k
theorem aO (k:Nat) (J:Arg):s0 k J=r0 k J:=
 funext λY=>aI _ _ _ (T0 J) _ (λrec v=>by kernel_rfl) k Y
noncomputable def p (l0:(Int)->Option Out) (J:Arg):Option Out:=bif !decide ((J.1.length:Int)=(J.2.1.length:Int)) then (some (false,())) else l0 (0:Int)
theorem ae (k:Nat) (J:Arg):@Eq (Option Out) (D.W k J) (p (r0 k J) J):=
 Eq.trans (b:=p (s0 k J) J) (by kernel_rfl) (by rw[aO])
theorem ok:Ok prog 12 D.sig:=aw func12 aM (by kernel_rfl) (an _)
end eg
namespace dy
abbrev Arg:Type:=(List UInt8)×Unit
abbrev Out:Type:=Bool×Unit
abbrev ps:PQ:=[(.ro,(.aa u8))]
noncomputable def D:FD:={ fn:=f3,tl:=be,ps:=ps,rs:=[(.bool,(ah .bool))],gl:=[(6,lk.D.sig),(7,eW.D.sig),(8,d_.D.sig),(9,cc.D.sig),(10,eu.D.sig),(11,cy.D.sig),(12,eg.D.sig)],od:=[(6,[0,1,4,5,2,3,6,7]),(9,[0,1,2,3,4,5,6,7,8,9,10,11,12,13,14,15,16,17,18,19,20,21,22])],ar:=[(9,[1,6,11,16,17,18])],bx:=[(9,[3,4,5,6,7])] }
noncomputable def ab (a:Arg):Option Out:=@lift Out λk=>D.W k a
noncomputable def p (J:Arg):Option Out:=(lk.ab (J.1,())).bind λr2=>bif r2.1 then (some (true,())) else (eW.ab (J.1,())).bind λr3=>(d_.ab (r3.1,r3.2.1,())).bind λr4=>bif !decide (r4.1.1=(0:Int)) then ((cc.ab (r3.1,r3.2.1,())).bind λr5=>some (decide (r5.1.1=r4.1.1),())) else (eu.ab (r3.1,())).bind λr6=>(eu.ab (r4.1.2.2.1,())).bind λr7=>(cy.ab (r4.1.2.2.1,())).bind λr8=>bif !decide (r8.1=(0:Int)) then (some (false,())) else bif !decide (r6.1.1=(0:Int)) then (some (false,())) else bif !decide (r7.1.1=(0:Int)) then (some (false,())) else (cc.ab (r3.1,r3.2.1,())).bind λr9=>bif !decide (r4.1.2.1=r9.1.2.1) then (some (false,())) else bif decide (r3.2.1.1=(7:Int)) then ((eg.ab (r4.1.2.2.1.1,r3.1.1,())).bind λkm=>bif km.1 then (some (decide ((r4.1.2.2.1.2.1.length:Int)=al ((r3.1.2.1.length:Int) - (1:Int))),())) else some (false,())) else (eg.ab (r6.1.2.1,r7.1.2.1,())).bind λmR=>bif mR.1 then (bif decide (r3.1.2.2.1<=r4.1.2.2.1.2.2.1) then (bif !decide (r3.2.1.1=(8:Int)) then (bif !decide (r3.2.1.1=(1:Int)) then (some (true,())) else some (decide ((r4.1.2.2.1.2.1.length:Int)=al ((r3.1.2.1.length:Int)+(1:Int))),())) else bif decide ((r4.1.2.2.1.2.1.length:Int)=al ((r3.1.2.1.length:Int) - (1:Int))) then (bif !decide (r3.2.1.1=(1:Int)) then (some (true,())) else some (decide ((r4.1.2.2.1.2.1.length:Int)=al ((r3.1.2.1.length:Int)+(1:Int))),())) else some (false,())) else some (false,())) else some (false,())
theorem ae (k:Nat) (J:Arg):@Eq (Option Out) (D.W k J) (p J):=by kernel_rfl
theorem ok:Ok prog 3 D.sig:=aw func3 aM (by kernel_rfl) (fc lk.ok (fc eW.ok (fc d_.ok (fc cc.ok (fc eu.ok (fc cy.ok (fc eg.ok (an _))))))))
end dy
end OT
set_option linter.unusedVariables false
set_option linter.unusedSimpArgs false
namespace OT
open Go
end OT
set_option linter.unusedVariables false
set_option linter.unusedSimpArgs false
namespace OT
open Go
theorem je (a b c:Int):bg.ab (a,b,c,())=some (decide (b<=a)&&decide (a<=c),()):=by
 refine ag (k:=0) λk _=>(bg.ae k _).trans ?_
 show bg.p _=_
 unfold bg.p
 by_cases h:b<=a <;> simp[h]
theorem kU (a b c:Int):cA.ab (a,b,c,())=some (decide (b<=a)&&decide (a<=c),()):=by
 refine ag (k:=0) λk _=>(cA.ae k _).trans ?_
 show cA.p _=_
 unfold cA.p
 by_cases h:b<=a <;> simp[h]
theorem DN (a:Int):gP.ab (a,())=some (decide (1<=a)&&decide (a<=99),()):=by
 refine ag (k:=0) λk _=>(gP.ae k _).trans ?_
 show gP.p _=_
 unfold gP.p
 simp[kU]
def bK (a b c:Int):Bool:=decide (b<=a)&&decide (a<=c)
theorem gR {S O α:Type} {g:S->α->S} {fin:S->O}:∀ (xs:List α) (i:Nat) (s:S),aX (λ_ s x=>.inr (g s x)) fin i xs s=fin (xs.foldl g s)
 | [],_,_=>rfl
 | x::xs,i,s=>by simp only[aX,List.foldl_cons];exact gR xs _ _
theorem ue {α:Type}:∀ (xs s:List α),xs.foldl (λs x=>s++[x]) s=s++xs
 | [],s=>by simp
 | x::xs,s=>by rw[List.foldl_cons,ue];simp
abbrev SS:Type:=List (List UInt8)
end OT
set_option linter.unusedVariables false
set_option linter.unusedSimpArgs false
namespace OT
open Go
def ox (c:UInt8):Bool:=!decide ((c.toNat:Int) < 97)&&!decide ((122:Int) < (c.toNat:Int))
def nT (s:List UInt8):Bool:=s.all ox&&decide (s.length<=8)
def cY (x:Row):Int:=if bK x.1 0 3&&(bK x.2.1 1 99&&bK x.2.2.1 0 999) then (if nT x.2.2.2.1 then 0 else 5) else 3
theorem len8 (s:List UInt8):decide ((s.length:Int)<=8)=decide (s.length<=8):=by
 grind
theorem CT (s:List UInt8) (h:s.length<=maxLen):fq.ab (s,())=some (nT s,()):=by
 refine ag (k:=s.length+1) λk hk=>(fq.ae k _).trans ?_
 have:=bI (B:=λself v=>fq.B0 0 self (λz=>fq.Q0 0 (s,()) z) (s,()) v) s (λ(_:Unit) (i:Int)=>i) (λ_ _ x=>if ox x then .inr () else .inl (false,())) (λ_=>(decide (s.length<=8),())) (λ_ _=>True) h
  (λi hi _ self _=>by
   grind [fq.b0,ox]) (λ_ _ _ _ _ _=>trivial) (λ_ self _=>by
   grind [fq.b0,fq.q0,len8]) () trivial k (by omega)
 refine this.trans ?_
 rw[o6 ox (false,()) (λ_=>(decide (s.length<=8),()))]
 grind [nT]
theorem pa (x:Row) (h:List.length x.2.2.2.1<=maxLen):cu.ab (x,())=some (cY x,()):=by
 refine ag (k:=0) λk _=>(cu.ae k _).trans ?_
 show cu.p _=_
 unfold cu.p cY bK
 simp only[je,CT _ h,Option.bind_some]
 grind
theorem pc (x:Row) (h:List.length x.2.2.2.1<=maxLen):bA.ab (x,())=some (cY x,()):=by
 refine ag (k:=List.length x.2.2.2.1+1) λk hk=>(bA.ae k _).trans ?_
 have:=bI (B:=λself v=>bA.B0 0 self (λz=>bA.Q0 0 (x,()) z) (x,()) v) x.2.2.2.1 (λ(_:Unit) (i:Int)=>i) (λ_ _ c=>if ox c then .inr () else .inl (5,())) (λ_=>(0,())) (λ_ _=>True) h
  (λi hi _ self _=>by
   grind [bA.b0,ox]) (λ_ _ _ _ _ _=>trivial) (λ_ self _=>by
   grind [bA.b0,bA.q0]) () trivial k (by omega)
 rw[o6 ox (5,()) (λ_=>(0,()))] at this
 have this:bA.r0 k (x,()) 0=_:=this
 unfold bA.p cY bK nT
 simp only[kU,this,Option.bind_some]
 have h8:decide ((8:Int) < (List.length x.2.2.2.1:Int))=!decide (List.length x.2.2.2.1<=8):=by
  grind
 rw[h8]
 cases decide ((0:Int)<=x.1) <;> cases decide (x.1<=3) <;> cases decide ((1:Int)<=x.2.1) <;> cases decide (x.2.1<=99) <;> cases decide ((0:Int)<=x.2.2.1) <;> cases decide (x.2.2.1<=999) <;> cases decide (List.length x.2.2.2.1<=8) <;> cases (x.2.2.2.1).all ox <;> rfl
def rl (x:Row):Prop:=List.length x.2.2.2.1<=maxLen
def cl (c:Change):Prop:=rl c.2.1/\rl c.2.2.2.1
def sameKey (a b:Row):Bool:=decide (a.1=b.1)&&decide (a.2.1=b.2.1)
def cN (a b:Int×Int):Bool:=decide (a.1 < b.1)||(decide (a.1=b.1)&&decide (a.2 < b.2))
def ec (c:Change):Int:=if (!c.1&&!c.2.2.1)||(c.1&&c.2.2.1&&!sameKey c.2.1 c.2.2.2.1) then 1 else if c.1&&!decide (cY c.2.1=0) then cY c.2.1 else if c.2.2.1 then cY c.2.2.2.1 else 0
def qG (c:Change):Int:=if ec c=0 then (if c.1&&c.2.2.1&&Ty.eq aj c.2.1 c.2.2.2.1 then 1 else 0) else ec c
def ck (c:Change):Int×Int:=if c.2.2.1 then (c.2.2.2.1.1,c.2.2.2.1.2.1) else (c.2.1.1,c.2.1.2.1)
theorem Ae (c:Change) (h:cl c):gg.ab (c,())=some (ec c,()):=by
 refine ag (k:=0) λk _=>(gg.ae k _).trans ?_
 show gg.p _=_
 unfold gg.p ec sameKey
 simp only[pa _ h.1,pa _ h.2,Option.bind_some]
 grind
theorem vA (a b:Row):eF.ab (a,b,())=some (cN (a.1,a.2.1) (b.1,b.2.1),()):=by
 refine ag (k:=0) λk _=>(eF.ae k _).trans ?_
 grind [eF.p,cN]
theorem wj (a b:Row):fy.ab (a,b,())=some (if cN (a.1,a.2.1) (b.1,b.2.1) then -1 else if cN (b.1,b.2.1) (a.1,a.2.1) then 1 else 0,()):=by
 refine ag (k:=0) λk _=>(fy.ae k _).trans ?_
 grind [fy.p,vA]
theorem xI (a b:Row):decide ((if cN (a.1,a.2.1) (b.1,b.2.1) then (-1:Int) else if cN (b.1,b.2.1) (a.1,a.2.1) then 1 else 0)=0)=sameKey a b:=by
 grind [cN,sameKey]
theorem tk (c:Change) (h:cl c):dj.ab (c,())=some (ec c,()):=by
 refine ag (k:=0) λk _=>(dj.ae k _).trans ?_
 show dj.p _=_
 unfold dj.p ec
 simp only[pc _ h.1,pc _ h.2,wj,Option.bind_some,xI]
 grind
theorem yP (c:Change) (h:cl c):hM.ab (c,())=some (qG c,()):=by
 refine ag (k:=0) λk _=>(hM.ae k _).trans ?_
 grind [hM.p,qG,Ae]
theorem zF (c:Change) (h:cl c):dO.ab (c,())=some (qG c,()):=by
 refine ag (k:=0) λk _=>(dO.ae k _).trans ?_
 grind [dO.p,qG,tk]
theorem pe (c:Change):d8.ab (c,())=some ((ck c).1,(ck c).2,()):=by
 refine ag (k:=0) λk _=>(d8.ae k _).trans ?_
 grind [d8.p,ck]
def rK (c:Change):Row:=if c.2.2.1 then c.2.2.2.1 else c.2.1
theorem qH (c:Change):((rK c).1,(rK c).2.1)=ck c:=by grind [rK,ck]
theorem nf (c:Change):bu.ab (c,())=some (rK c,()):=by
 refine ag (k:=0) λk _=>(bu.ae k _).trans ?_
 grind [bu.p,rK]
theorem Ou (n:Nat) (m:Nat):decide ((m:Int) < (n:Int))=decide (m < n):=by
 grind
theorem xJ {i:Nat} (hi:0 < i) (h:i<=maxLen):al ((i:Int) - 1)=((i - 1:Nat):Int):=by
 grind [ak,ct]
end OT
set_option linter.unusedVariables false
set_option linter.unusedSimpArgs false
namespace OT
open Go
def rk (x:Row):Int×Int:=(x.1,x.2.1)
theorem sK (a b:Int×Int):cN a b=true↔a.1 < b.1\/(a.1=b.1/\a.2 < b.2):=by grind [cN]
theorem pg {a b c:Int×Int} (h1:cN a b=true) (h2:cN b c=true):cN a c=true:=by
 grind [sK]
theorem lS (a:Int×Int):cN a a=false:=by
 grind [sK]
theorem Hj {a b:Int×Int} (h:cN a b=true):cN b a=false:=by
 grind [sK]
theorem sL {a b:Int×Int} (h1:cN a b=false) (h2:cN b a=false):a=b:=by
 grind [sK]
def up (xs:List Row):Prop:=xs.Pairwise (λa b=>cN (rk a) (rk b)=true)
theorem nD {x:Row} {xs:List Row}:up (x::xs)↔(∀ y ∈ xs,cN (rk x) (rk y)=true)/\up xs:=List.pairwise_cons
def pos:List Row->Int×Int->Nat
 | [],_=>0
 | x::xs,k=>if cN (rk x) k then pos xs k+1 else 0
theorem uf:∀ (xs:List Row) (k:Int×Int),pos xs k<=xs.length
 | [],_=>Nat.le_refl _
 | x::xs,k=>by simp only[pos];split <;> simp[uf xs k]
theorem rL:∀ (xs:List Row) (k:Int×Int) (i:Nat) (h:i < xs.length),i < pos xs k->cN (rk xs[i]) k=true
 | x::xs,k,i,h,hp=>by
  simp only[pos] at hp
  split at hp
  ·rename_i hx
   cases i with
   | zero=>exact hx
   | succ i=>exact rL xs k i (by simpa using h) (by omega)
  ·omega
theorem oy:∀ (xs:List Row) (k:Int×Int) (i:Nat) (h:i < xs.length),up xs->pos xs k<=i->cN (rk xs[i]) k=false
 | x::xs,k,i,h,hu,hp=>by
  simp only[pos] at hp
  split at hp
  ·cases i with
   | zero=>omega
   | succ i=>exact oy xs k i (by simpa using h) (nD.1 hu).2 (by omega)
  ·rename_i hx
   have hx:cN (rk x) k=false:=by simpa using hx
   cases i with
   | zero=>exact hx
   | succ i=>
    have kg:i < xs.length:=by simpa using h
    have hm:cN (rk x) (rk xs[i])=true:=(nD.1 hu).1 _ (List.getElem_mem _)
    grind [pg]
def fu (xs:List Row) (k:Int×Int):Bool:=match xs[pos xs k]? with
 | some x=>decide (rk x=k)
 | none=>false
theorem ko {xs:List Row} {k:Int×Int} (h:fu xs k=true):∃ hp:pos xs k < xs.length,rk xs[pos xs k]=k:=by
 grind [fu]
theorem No (a b:Row):decide ((if cN (a.1,a.2.1) (b.1,b.2.1) then (-1:Int) else if cN (b.1,b.2.1) (a.1,a.2.1) then 1 else 0) < 0)=cN (rk a) (rk b):=by
 grind [rk]
theorem sM (a b:Row):sameKey a b=decide (rk a=rk b):=by
 grind [sameKey,rk]
theorem half (lo hi:Nat) (h:lo+hi<=4611686018427387904):al ((IntKind.wrap .u64 (al ((lo:Int)+(hi:Int)))).fdiv (2 ^ 1))=(((lo+hi) / 2:Nat):Int):=by
 grind [ct,IntKind.wrap,IntKind.bits]
theorem ug (xs:List Row) (key:Row) (f:Nat×Int) (hu:up xs) (hl:xs.length<=2000000):az.ab (xs,key,f,())=some ((pos xs (rk key):Int),fu xs (rk key),()):=by
 have hp:=uf xs (rk key)
 have hq:az.Q0 0 (xs,key,f,()) (pos xs (rk key):Int)=some ((pos xs (rk key):Int),fu xs (rk key),()):=by
  grind [az.q0,fu,wj,xI,sM]
 refine ag (k:=xs.length+1) λk hk=>(az.ae k _).trans ?_
 refine xx (B:=λself v=>az.B0 0 self (λz=>az.Q0 0 (xs,key,f,()) z) (xs,key,f,()) v) (λ_=>((pos xs (rk key):Int),fu xs (rk key),()))
  (λv=>∃ lo hi:Nat,v=((lo:Int),(hi:Int))/\lo<=pos xs (rk key)/\pos xs (rk key)<=hi/\hi<=xs.length) (λv=>(v.2 - v.1).toNat) (λv hv self=>?_) k (0,(xs.length:Int)) ⟨0,xs.length,rfl,by omega,hp,by omega⟩ (by simp;omega)
 obtain ⟨lo,hi,rfl,h1,h2,h3⟩:=hv
 by_cases aE:lo < hi
 ·right
  have sf:(lo:Int) < (hi:Int):=by omega
  have hm:(lo+hi) / 2 < xs.length:=by omega
  have hb:∀ self,az.B0 0 self (λz=>az.Q0 0 (xs,key,f,()) z) (xs,key,f,()) ((lo:Int),(hi:Int))=if cN (rk xs[(lo+hi) / 2]) (rk key) then self (al ((((lo+hi) / 2:Nat):Int)+1),(hi:Int)) else self ((lo:Int),(((lo+hi) / 2:Nat):Int)):=λself=>by
   grind [az.b0,half,Int.toNat_natCast,wj,No]
  cases hc:cN (rk xs[(lo+hi) / 2]) (rk key) with
  | true=>
   refine ⟨((((lo+hi) / 2+1:Nat):Int),(hi:Int)),?_,rfl,⟨_,_,rfl,?_,h2,h3⟩,by grind⟩
   all_goals grind [ct,oy]
  | false=>
   refine ⟨((lo:Int),(((lo+hi) / 2:Nat):Int)),?_,rfl,⟨_,_,rfl,h1,?_,by omega⟩,by grind⟩
   all_goals grind [rL]
 grind [az.b0]
def im (xs:List Row) (c:Change):Bool:=(fu xs (ck c) == c.1)&&(!fu xs (ck c)||(match xs[pos xs (ck c)]? with | some x=>Ty.eq aj x c.2.1 | none=>true))
def dQ (xs:List Row) (c:Change):List Row:=xs.take (pos xs (ck c))++(if c.2.2.1 then [c.2.2.2.1] else [])++xs.drop (pos xs (ck c)+if fu xs (ck c) then 1 else 0)
theorem Hk (c:Change):rk (rK c)=ck c:=qH c
theorem Hl (c:Change) (xs:List Row) (hu:up xs) (hl:xs.length<=2000000):eX.ab (c,xs,())=some (im xs c,()):=by
 refine ag (k:=0) λk _=>(eX.ae k _).trans ?_
 grind [eX.p,im,nf,ug,Hk,ko]
theorem E7 (xs:List Row) (c:Change) (hu:up xs) (hl:xs.length<=2000000):gO.ab (xs,c,())=some (dQ xs c,()):=by
 refine ag (k:=0) λk _=>(gO.ae k _).trans ?_
 show gO.p _=_
 unfold gO.p dQ
 have hp:=uf xs (ck c)
 have zy:0<=((pos xs (ck c):Nat):Int)/\((pos xs (ck c):Nat):Int)<=(xs.length:Int):=by omega
 have c1:([]:List Row).length+(List.take (pos xs (ck c)) xs).length<=bV:=cm (by simp;omega)
 simp only[nf,ug xs _ _ hu hl,Hk,Option.bind_some,zy,and_self,if_true,Int.toNat_natCast,c1,List.drop_zero,List.nil_append,List.take_length]
 have c2:(List.take (pos xs (ck c)) xs).length+[c.2.2.2.1].length<=bV:=cm (by simp;omega)
 have hd:∀ (p7:List Row) (n:Nat),p7.length<=2000001->p7.length+(List.drop n xs).length<=bV:=λp7 n h=>cm (by grind)
 have hw:al (((pos xs (ck c):Nat):Int)+1)=((pos xs (ck c)+1:Nat):Int):=by grind [ct]
 have c3:=hd (List.take (pos xs (ck c)) xs++[c.2.2.2.1])
 have c4:=hd (List.take (pos xs (ck c)) xs)
 have l3:(List.take (pos xs (ck c)) xs++[c.2.2.2.1]).length<=2000001:=by simp;omega
 have l4:(List.take (pos xs (ck c)) xs).length<=2000001:=by simp;omega
 cases hf:fu xs (ck c) with
 | false=>
  grind
 | true=>
  obtain ⟨de,_⟩:=ko hf
  grind
theorem tm (a b:Row):e8.ab (a,b,())=some (cN (rk a) (rk b),()):=by
 refine ag (k:=0) λk _=>(e8.ae k _).trans ?_
 grind [e8.p,cN,rk]
theorem DO {xs:List Row} {k:Int×Int} (h:fu xs k=true):∃ y ∈ xs,rk y=k:=by
 obtain ⟨hp,hk⟩:=ko h
 grind
theorem DP (k:Int×Int):∀ (xs:List Row) (j:Nat),up xs->aX (λi (_:Unit) x=>if rk x=k then .inl ((i:Int),()) else .inr ()) (λ_=>((-1:Int),())) j xs ()=if fu xs k then (((j+pos xs k:Nat):Int),()) else (-1,())
 | [],j,_=>by simp[aX,fu]
 | x::xs,j,hu=>by
  have hu:=nD.1 hu
  simp only[aX]
  by_cases hx:rk x=k
  ·grind [lS,fu,pos]
  ·simp only[hx,if_false]
   rw[DP k xs (j+1) hu.2]
   grind [pos,fu]
def lw (xs:List Row) (k:Int×Int):Int:=if fu xs k then (pos xs k:Int) else -1
theorem oz (xs:List Row) (t k:Int) (hu:up xs) (hl:xs.length<=2000000):bW.ab (xs,t,k,())=some (lw xs (t,k),()):=by
 refine ag (k:=xs.length+1) λf hf=>(bW.ae f _).trans ?_
 have:=bI (B:=λself v=>bW.B0 0 self (λz=>bW.Q0 0 (xs,t,k,()) z) (xs,t,k,()) v) xs (λ(_:Unit) (i:Int)=>i) (λi _ x=>if rk x=(t,k) then .inl ((i:Int),()) else .inr ()) (λ_=>((-1:Int),())) (λ_ _=>True) (by rw[ak];omega)
  (λi hi _ self _=>by
   grind [bW.b0,rk]) (λ_ _ _ _ _ _=>trivial) (λ_ self _=>by
   grind [bW.b0,bW.q0]) () trivial f (by omega)
 rw[DP (t,k) xs 0 hu] at this
 have this:bW.r0 f (xs,t,k,()) 0=_:=this
 grind [bW.p,lw]
theorem BS {O:Type} (k:Int×Int) (g:Nat->O) (n:Nat):∀ (xs:List Row) (j:Nat),j+xs.length=n->aX (λi (_:Unit) x=>if cN (rk x) k then .inr () else .inl (g i)) (λ_=>g n) j xs ()=g (j+pos xs k)
 | [],j,h=>by grind [aX,pos]
 | x::xs,j,h=>by
  simp only[aX,pos]
  cases hb:cN (rk x) k with
  | true=>
   simp only[if_true]
   rw[BS k g n xs (j+1) (by grind)]
   congr 1;omega
  | false=>simp
def kV (xs:List Row) (r:Row):List Row:=xs.take (pos xs (rk r))++[r]++xs.drop (pos xs (rk r))
theorem sN (xs:List Row) (r:Row) (hl:xs.length<=2000000):cD.ab (xs,r,())=some (kV xs r,()):=by
 refine ag (k:=xs.length+1) λf hf=>(cD.ae f _).trans ?_
 have hq:∀ i:Nat,i<=xs.length->cD.Q0 0 (xs,r,()) (i:Int)=some (xs.take i++[r]++xs.drop i,()):=λi hi=>by
  show cD.q0 _ _=_
  unfold cD.q0
  have zy:0<=(i:Int)/\(i:Int)<=(xs.length:Int):=by omega
  have c1:([]:List Row).length+(List.take i xs).length<=bV:=cm (by simp;omega)
  have c2:(List.take i xs).length+[r].length<=bV:=cm (by simp;omega)
  have c3:(List.take i xs++[r]).length+(List.drop i xs).length<=bV:=cm (by simp;omega)
  grind
 have:=bI (B:=λself v=>cD.B0 0 self (λz=>cD.Q0 0 (xs,r,()) z) (xs,r,()) v) xs (λ(_:Unit) (i:Int)=>i) (λi _ x=>if cN (rk x) (rk r) then .inr () else .inl (xs.take i++[r]++xs.drop i,())) (λ_=>(xs.take xs.length++[r]++xs.drop xs.length,())) (λ_ _=>True) (by rw[ak];omega)
  (λi hi _ self _=>by
   show cD.b0 _ _ _ _=_
   unfold cD.b0
   have aE:(i:Int) < (xs.length:Int):=by omega
   simp only[aE,decide_true,cond_true,Int.natCast_nonneg,if_true,Int.toNat_natCast,List.getElem?_eq_getElem hi,Option.bind_some,tm]
   cases cN (rk xs[i]) (rk r) <;> grind) (λ_ _ _ _ _ _=>trivial) (λ_ self _=>by
   grind [cD.b0]) () trivial f (by omega)
 rw[BS (rk r) (λi=>(xs.take i++[r]++xs.drop i,())) xs.length xs 0 (by omega)] at this
 refine this.trans ?_
 simp[kV]
theorem wk (t:Int):∀ (xs:List Row) (j:Nat) (s:List Row),aX (O:=List Row×Unit) (λi s x=>if (i:Int)=t then .inr s else .inr (s++[x])) (λs=>(s,())) j xs s=(s++(if (j:Int)<=t/\t < j+xs.length then xs.take (t - j).toNat++xs.drop ((t - j).toNat+1) else xs),())
 | [],j,s=>by
  grind [aX]
 | x::xs,j,s=>by
  simp only[aX]
  by_cases h:(j:Int)=t
  ·have h1:¬ (((j+1:Nat):Int)<=t/\t < ((j+1:Nat):Int)+(xs.length:Int)):=by omega
   have h2:(j:Int)<=t/\t < (j:Int)+((x::xs).length:Int):=by simp;omega
   have h3:(t - j).toNat=0:=by omega
   simp only[h,if_true]
   rw[wk t xs (j+1) s,if_neg h1]
   grind
  ·simp only[h,if_false]
   rw[wk t xs (j+1) (s++[x])]
   grind
def wl (xs:List Row) (k:Int×Int):List Row:=if fu xs k then xs.take (pos xs k)++xs.drop (pos xs k+1) else xs
theorem xK (k:Int×Int):∀ (l1 l2:List Row),(∀ x ∈ l1,cN (rk x) k=true)->pos (l1++l2) k=l1.length+pos l2 k
 | [],l2,_=>by simp
 | x::l1,l2,h=>by
  simp only[List.cons_append,pos,h x List.mem_cons_self,if_true,List.length_cons]
  rw[xK k l1 l2 λy hy=>h y (List.mem_cons_of_mem _ hy)]
  omega
theorem qd {xs:List Row} {k:Int×Int} {x:Row} (h:x ∈ xs.take (pos xs k)):cN (rk x) k=true:=by
 obtain ⟨i,hi,e⟩:=List.mem_iff_getElem.1 h
 grind [rL]
theorem IV {xs:List Row} {k:Int×Int} (hu:up xs) {n:Nat} (hn:pos xs k<=n):pos (xs.drop n) k=0:=by
 grind [List.drop_eq_nil_of_le,List.drop_eq_getElem_cons,pos,oy]
theorem Ll {xs:List Row} {k:Int×Int} {r:Row} (hu:up xs) (hk:rk r=k):kV (wl xs k) r=xs.take (pos xs k)++[r]++xs.drop (pos xs k+if fu xs k then 1 else 0):=by
 have hp:=uf xs k
 have key:∀ n,pos xs k<=n->pos (xs.take (pos xs k)++xs.drop n) k=pos xs k:=λn hn=>by
  grind [xK,qd,IV]
 have hl:(xs.take (pos xs k)).length=pos xs k:=by grind
 unfold kV wl
 grind
theorem uh (xs:List Row) (c:Change) (hu:up xs) (hl:xs.length<=2000000) (hc:c.2.2.1=true->rk c.2.2.2.1=ck c):cx.ab (xs,c,())=some (if im xs c then (dQ xs c,true,()) else ([],false,())):=by
 refine ag (k:=xs.length+1) λf hf=>(cx.ae f _).trans ?_
 have hp:=uf xs (ck c)
 have Hm:=bI (B:=λself v=>cx.B0 0 self (λz=>cx.Q0 0 (xs,c,()) (lw xs (ck c)) z) (xs,c,()) (lw xs (ck c)) v) (O:=List Row×Bool×Unit) xs (λ(s:List Row) (i:Int)=>(s,i)) (λi s x=>if (i:Int)=lw xs (ck c) then .inr s else .inr (s++[x]))
  (λs=>(if c.2.2.1 then kV s c.2.2.2.1 else s,true,())) (λi s=>s.length<=i) (by rw[ak];omega)
  (λi hi s self hI=>by
   grind [cx.b0,cm]) (λi hi s s' hI hf=>by
   grind) (λs self hI=>by
   grind [cx.b0,cx.q0,sN]) [] (Nat.le_refl _) f (by omega)
 have EX:∀ (KC:List Row) (j:Nat) (s:List Row),aX (O:=List Row×Bool×Unit) (λi s x=>if (i:Int)=lw xs (ck c) then .inr s else .inr (s++[x])) (λs=>(if c.2.2.1 then kV s c.2.2.2.1 else s,true,())) j KC s
   = (λs=>(if c.2.2.1 then kV s c.2.2.2.1 else s,true,())) (aX (O:=List Row×Unit) (λi s x=>if (i:Int)=lw xs (ck c) then .inr s else .inr (s++[x])) (λs=>(s,())) j KC s).1:=by
  intro KC
  induction KC <;> grind [aX]
 rw[EX,wk (lw xs (ck c)) xs 0 []] at Hm
 have Qv:([]++(if ((0:Nat):Int)<=lw xs (ck c)/\lw xs (ck c) < ((0:Nat):Int)+(xs.length:Int) then xs.take (lw xs (ck c) - ((0:Nat):Int)).toNat++xs.drop ((lw xs (ck c) - ((0:Nat):Int)).toNat+1) else xs))=wl xs (ck c):=by
  grind [lw,wl,fu]
 simp only[Qv] at Hm
 have Hm:cx.r0 f (xs,c,()) (lw xs (ck c)) (([]:List Row),(0:Int))=_:=Hm
 unfold cx.p im
 simp only[pe,oz xs _ _ hu hl,Option.bind_some,Hm]
 have ST:(if c.2.2.1 then kV (wl xs (ck c)) c.2.2.2.1 else wl xs (ck c))=dQ xs c:=by
  unfold dQ
  cases hi:c.2.2.1 with
  | true=>grind [Ll]
  | false=>
   simp only[Bool.false_eq_true,if_false,List.append_nil]
   unfold wl
   cases fu xs (ck c) <;> simp_all
 grind [fu,lw,Int.toNat_natCast]
end OT
set_option linter.unusedVariables false
set_option linter.unusedSimpArgs false
namespace OT
open Go
def jn (xs:List Row) (i:Nat) (x:Row):Sum (Int×Unit) Unit:=
 if cY x=0 then (if 0 < i then (match xs[i - 1]? with | some y=>if cN (rk y) (rk x) then .inr () else .inl (1,()) | none=>.inl (1,())) else .inr ()) else .inl (cY x,())
def dR (xs:List Row):Int:=if 60 < xs.length then 2 else (aX (λi (_:Unit) x=>jn xs i x) (λ_=>((0:Int),())) 0 xs ()).1
theorem vB (xs:List Row) (hl:xs.length<=maxLen) (h:∀ c ∈ xs,rl c):c_.ab (xs,())=some (dR xs,()):=by
 refine ag (k:=xs.length+1) λk hk=>(c_.ae k _).trans ?_
 have:=bI (B:=λself v=>c_.B0 0 self (λz=>c_.Q0 0 (xs,()) z) (xs,()) v) xs (λ(_:Unit) (i:Int)=>i) (λi _ x=>jn xs i x) (λ_=>(0,())) (λ_ _=>True) hl
  (λi hi _ self _=>by
   show c_.b0 _ _ _ _=_
   unfold c_.b0 jn
   have aE:(i:Int) < (xs.length:Int):=by omega
   simp only[aE,decide_true,cond_true,Int.natCast_nonneg,if_true,Int.toNat_natCast,List.getElem?_eq_getElem hi,Option.bind_some,pa _ (h _ (List.getElem_mem hi))]
   grind [xJ,Int.toNat_natCast,tm]) (λ_ _ _ _ _ _=>trivial) (λ_ self _=>by
   grind [c_.b0,c_.q0]) () trivial k (by omega)
 have this:c_.r0 k (xs,()) 0=_:=this
 grind [c_.p,dR]
theorem rj (xs:List Row) (hl:xs.length<=maxLen) (h:∀ c ∈ xs,rl c):bC.ab (xs,())=some (dR xs,()):=by
 refine ag (k:=xs.length+1) λk hk=>(bC.ae k _).trans ?_
 have:=bI (B:=λself v=>bC.B0 0 self (λz=>bC.Q0 0 (xs,()) z) (xs,()) v) xs (λ(_:Unit) (i:Int)=>i) (λi _ x=>jn xs i x) (λ_=>(0,())) (λ_ _=>True) hl
  (λi hi _ self _=>by
   show bC.b0 _ _ _ _=_
   unfold bC.b0 jn rk
   have aE:(i:Int) < (xs.length:Int):=by omega
   simp only[aE,decide_true,cond_true,Int.natCast_nonneg,if_true,Int.toNat_natCast,List.getElem?_eq_getElem hi,Option.bind_some,pc _ (h _ (List.getElem_mem hi))]
   grind [xJ,Int.toNat_natCast,vA]) (λ_ _ _ _ _ _=>trivial) (λ_ self _=>by
   grind [bC.b0,bC.q0]) () trivial k (by omega)
 have this:bC.r0 k (xs,()) 0=_:=this
 grind [bC.p,dR]
theorem zG {α:Type} {f:Nat->Unit->α->Sum (Int×Unit) Unit} (hf:∀ i s x o,f i s x=.inl o->o.1≠0):∀ (xs:List α) (j:Nat),(aX f (λ_=>((0:Int),())) j xs ()).1=0->∀ i (hi:i < xs.length),f (j+i) () xs[i]=.inr ()
 | x::xs,j,h,i,hi=>by
  simp only[aX] at h
  cases hx:f j () x with
  | inl o=>grind
  | inr u=>
   rw[hx] at h
   cases i with
   | zero=>exact hx
   | succ i=>
    have:=zG hf xs (j+1) h i (by simpa using hi)
    grind
theorem Hn:∀ (xs:List Row),(∀ i (hi:i < xs.length),0 < i->cN (rk (xs[i - 1]'(by omega))) (rk xs[i])=true)->up xs
 | [],_=>List.Pairwise.nil
 | [x],_=>List.pairwise_singleton _ _
 | x::y::xs,h=>by
  have hu:up (y::xs):=Hn (y::xs) λi hi h0=>by
   have:=h (i+1) (by grind) (by omega)
   grind
  have tD:cN (rk x) (rk y)=true:=h 1 (by simp) (by omega)
  refine nD.2 ⟨λz hz=>?_,hu⟩
  rcases List.mem_cons.1 hz with rfl | hz
  ·exact tD
  ·exact pg tD ((nD.1 hu).1 z hz)
theorem jK {x:Row} (h:cY x=0):List.length x.2.2.2.1<=8:=by
 grind [cY,nT]
structure Good (xs:List Row):Prop where
 up:up xs
 ok:∀ x ∈ xs,cY x=0
theorem gC {xs:List Row} (h:dR xs=0):Good xs/\xs.length<=60:=by
 unfold dR at h
 split at h
 ·cases h
 ·rename_i hl
  have hn:=zG (f:=λi (_:Unit) x=>jn xs i x) (λi s x o ho=>by
   grind [jn]) xs 0 h
  have h1:∀ i (hi:i < xs.length),cY xs[i]=0:=λi hi=>by
   grind [jn]
  refine ⟨⟨Hn xs λi hi h0=>?_,λx hx=>?_⟩,by omega⟩
  ·grind [jn]
  ·obtain ⟨i,hi,rfl⟩:=List.mem_iff_getElem.1 hx
   exact h1 i hi
theorem lm {c:Change} (h:ec c=0):(c.2.2.1=true->rk c.2.2.2.1=ck c)/\(c.2.2.1=true->cY c.2.2.2.1=0):=by
 grind [rk,ck,ec]
theorem gk {xs:List Row} {c:Change} (h:Good xs) (hc:ec c=0):Good (dQ xs c):=by
 obtain ⟨hk,hr⟩:=lm hc
 have hb:=h.up
 constructor
 ·unfold dQ up
  have h1:(xs.take (pos xs (ck c))).Pairwise (λa b=>cN (rk a) (rk b)=true):=hb.sublist (List.take_sublist _ _)
  have wN:∀ n,(xs.drop n).Pairwise (λa b=>cN (rk a) (rk b)=true):=λn=>hb.sublist (List.drop_sublist _ _)
  have Np:∀ y ∈ xs.drop (pos xs (ck c)+if fu xs (ck c) then 1 else 0),cN (ck c) (rk y)=true:=λy hy=>by
   obtain ⟨i,e⟩:=List.mem_iff_getElem?.1 hy
   rw[List.getElem?_drop] at e
   obtain ⟨aE,e1⟩:=List.getElem?_eq_some_iff.1 e
   have hn:=oy xs (ck c) _ aE hb (by omega)
   rw[e1] at hn
   clear e1 aE
   cases Du:cN (ck c) (rk y) with
   | true=>rfl
   | false=>
    have he:=sL Du hn
    exfalso
    cases hf:fu xs (ck c) with
    | true=>
     obtain ⟨hp,ta⟩:=ko hf
     rw[hf] at e
     simp only[if_true] at e
     obtain ⟨aE,e⟩:=List.getElem?_eq_some_iff.1 e
     have:=List.pairwise_iff_getElem.1 hb (pos xs (ck c)) (pos xs (ck c)+1+i) hp aE (by omega)
     grind
    | false=>
     rw[hf] at e
     simp only[Bool.false_eq_true,if_false,Nat.add_zero] at e
     obtain ⟨aE,e⟩:=List.getElem?_eq_some_iff.1 e
     have hp:pos xs (ck c) < xs.length:=by omega
     have td:=oy xs (ck c) _ hp hb (Nat.le_refl _)
     have ci:rk xs[pos xs (ck c)]≠ck c:=λe2=>by
      grind [fu]
     have Te:cN (ck c) (rk xs[pos xs (ck c)])=true:=by
      grind [sL]
     cases i with
     | zero=>
      grind
     | succ i=>
      have:=List.pairwise_iff_getElem.1 hb (pos xs (ck c)) (pos xs (ck c)+(i+1)) hp aE (by omega)
      grind
  have Sl:∀ a ∈ xs.take (pos xs (ck c)),∀ y ∈ xs.drop (pos xs (ck c)+if fu xs (ck c) then 1 else 0),cN (rk a) (rk y)=true:=λa ha y hy=>pg (qd ha) (Np y hy)
  grind [qd]
 ·intro x hx
  unfold dQ at hx
  rcases List.mem_append.1 hx with hx | hx
  ·rcases List.mem_append.1 hx with hx | hx
   ·exact h.ok x (List.mem_of_mem_take hx)
   grind
  ·exact h.ok x (List.mem_of_mem_drop hx)
theorem qe (xs:List Row) (c:Change):(dQ xs c).length<=xs.length+1:=by
 grind [dQ]
def kW (i:Nat) (s:List Row) (c:Change):Sum (lj×Unit) (List Row):=if ec c=0 then (if im s c then .inr (dQ s c) else .inl ((8,[],()),())) else .inl ((ec c,[],()),())
def qf (s:List Row):lj×Unit:=if 60 < s.length then ((2,[],()),()) else ((0,s,()),())
def xL (xs:List Row) (cs:List Change):lj:=if dR xs=0 then (aX kW qf 0 cs xs).1 else (dR xs,[],())
theorem IW (n i:Nat) (s s':List Row) (c:Change) (h:Good s/\s.length<=60+i) (hf:kW n s c=.inr s'):Good s'/\s'.length<=60+(i+1):=by
 grind [kW,gk,qe]
theorem rm (xs:List Row) (h:xs.length<=1048576):cd.ab (xs,())=some (xs,()):=by
 refine ag (k:=0) λk _=>(cd.ae k _).trans ?_
 show cd.p _=_
 unfold cd.p
 have c1:([]:List Row).length+xs.length<=bV:=cm (by grind)
 exact uV (λe=>by grind) (by grind)
theorem ui (xs:List Row) (cs:List Change) (hl:xs.length<=maxLen) (h:∀ x ∈ xs,rl x) (rE:cs.length<=1048576) (hc:∀ c ∈ cs,cl c):bD.ab (xs,cs,())=some (xL xs cs,()):=by
 refine ag (k:=cs.length+1) λk hk=>(bD.ae k _).trans ?_
 unfold bD.p xL
 simp only[rj xs hl h,Option.bind_some]
 by_cases h0:dR xs=0
 ·obtain ⟨hg,hn⟩:=gC h0
  simp only[h0,decide_true,Bool.not_true,cond_false,if_true,rm xs (by omega),Option.bind_some]
  exact bI (B:=λself v=>bD.B0 0 self (λz=>bD.Q0 0 (xs,cs,()) z) (xs,cs,()) v) cs (λ(s:List Row) (i:Int)=>(s,i)) kW qf (λi s=>Good s/\s.length<=60+i) (by rw[ak];omega)
   (λi hi s self hI=>by
    show bD.b0 _ _ _ _=_
    unfold bD.b0 kW
    have aE:(i:Int) < (cs.length:Int):=by omega
    simp only[aE,decide_true,cond_true,Int.natCast_nonneg,if_true,Int.toNat_natCast,List.getElem?_eq_getElem hi,Option.bind_some,tk _ (hc _ (List.getElem_mem hi)),Hl _ s hI.1.up (by omega),E7 s _ hI.1.up (by omega)]
    grind) (λi hi s s' hI hf=>IW _ i s s' _ hI hf) (λs self hI=>by
    grind [bD.b0,qf,bD.q0]) xs ⟨hg,by omega⟩ k (by omega)
 grind
theorem DQ:∀ {xs:List Row},(∀ x ∈ xs,cY x=0)->zz (.aa aj) xs<=9*xs.length
 | [],_=>Nat.le_refl _
 | x::xs,h=>by
  have h1:zz (.aa aj) (x::xs:List Row)=zz aj x+1+zz (.aa aj) xs:=yJ (e:=aj) x xs
  have h2:=jK (h x List.mem_cons_self)
  have h3:zz aj x=0+(0+(0+(List.length x.2.2.2.1+0))):=rfl
  have h4:=DQ λy hy=>h y (List.mem_cons_of_mem _ hy)
  grind
end OT
set_option linter.unusedVariables false
set_option linter.unusedSimpArgs false
set_option linter.unusedSectionVars false
namespace OT
open Go
theorem oA {xs:List Row} {k:Int×Int} (hu:up xs) {i:Nat} (hi:i < xs.length) (hk:rk xs[i]=k):fu xs k=true/\pos xs k=i:=by
 have h1:¬ i < pos xs k:=λaE=>by
  have:=rL xs k i hi aE
  rw[hk,lS] at this
  cases this
 have hp:pos xs k < xs.length:=by omega
 have h2:pos xs k=i:=by
  by_cases he:pos xs k=i
  ·exact he
  ·have h3:=List.pairwise_iff_getElem.1 hu (pos xs k) i hp hi (by omega)
   have h4:=oy xs k (pos xs k) hp hu (Nat.le_refl _)
   rw[hk] at h3
   rw[h3] at h4
   cases h4
 refine ⟨?_,h2⟩
 unfold fu
 rw[h2,List.getElem?_eq_getElem hi]
 simpa using hk
theorem jY {xs:List Row} (hu:up xs) (c:Change) (r:Row):r ∈ dQ xs c↔(r ∈ xs/\rk r≠ck c)\/(c.2.2.1=true/\r=c.2.2.2.1):=by
 have key:(r ∈ xs.take (pos xs (ck c))\/r ∈ xs.drop (pos xs (ck c)+if fu xs (ck c) then 1 else 0))↔(r ∈ xs/\rk r≠ck c):=by
  constructor
  ·rintro (h | h)
   ·exact ⟨List.mem_of_mem_take h,λhe=>by have:=qd h;rw[he,lS] at this;cases this⟩
   ·refine ⟨List.mem_of_mem_drop h,λhe=>?_⟩
    obtain ⟨i,hi,hr⟩:=List.getElem_of_mem h
    rw[List.getElem_drop] at hr
    rw[List.length_drop] at hi
    obtain ⟨f1,f2⟩:=oA hu (i:=pos xs (ck c)+(if fu xs (ck c) then 1 else 0)+i) (k:=ck c) (by omega) (by rw[hr];exact he)
    rw[f1] at f2
    simp only[if_true] at f2
    omega
  ·rintro ⟨h,ci⟩
   obtain ⟨i,hi,hr⟩:=List.getElem_of_mem h
   by_cases h1:i < pos xs (ck c)
   ·left
    rw[List.mem_take_iff_getElem]
    exact ⟨i,by omega,hr⟩
   ·right
    rw[List.mem_drop_iff_getElem]
    by_cases hf:fu xs (ck c)=true
    ·rw[if_pos hf]
     obtain ⟨hp,hk⟩:=ko hf
     have:i≠pos xs (ck c):=λhe=>ci (by subst he;rw[<-hr];exact hk)
     exact ⟨i - (pos xs (ck c)+1),by omega,by rw[<-hr];congr 1;omega⟩
    ·rw[if_neg hf]
     exact ⟨i - (pos xs (ck c)+0),by omega,by rw[<-hr];congr 1;omega⟩
 unfold dQ
 rw[List.mem_append,List.mem_append]
 constructor
 ·rintro ((h | h) | h)
  ·exact .inl (key.1 (.inl h))
  ·cases hi:c.2.2.1 with
   | true=>rw[hi] at h;exact .inr ⟨rfl,List.mem_singleton.1 h⟩
   | false=>rw[hi] at h;cases h
  ·exact .inl (key.1 (.inr h))
 ·rintro (h | ⟨hi,rfl⟩)
  ·rcases key.2 h with h | h
   ·exact .inl (.inl h)
   ·exact .inr h
  ·rw[hi];exact .inl (.inr (List.mem_singleton.2 rfl))
theorem Ho {a b:Row} (h:Ty.eq aj a b=true):a=b:=by
 have e:Ty.eq aj a b=(decide (a.1=b.1)&&(decide (a.2.1=b.2.1)&&(decide (a.2.2.1=b.2.2.1)&&(decide (a.2.2.2.1=b.2.2.2.1)&&true)))):=rfl
 rw[e] at h
 simp only[Bool.and_eq_true,decide_eq_true_eq,and_true] at h
 obtain ⟨J,a2,a3,a4,⟨⟩⟩:=a
 obtain ⟨b1,b2,b3,b4,⟨⟩⟩:=b
 obtain ⟨h1,h2,h3,h4⟩:=h
 simp only at h1 h2 h3 h4
 rw[h1,h2,h3,h4]
end OT
set_option linter.unusedVariables false
set_option linter.unusedSimpArgs false
namespace OT
open Go
theorem dI {V S O α:Type} {B:(V->Option O)->V->Option O} (xs:List α) (enc:S->Int->V) (f:Nat->S->α->Sum (Option O) S) (fin:S->Option O) (I:Nat->S->Prop) (yG:xs.length<=maxLen)
  (cw:∀ (i:Nat) (hi:i < xs.length) (s:S) self,I i s->B self (enc s (i:Int))=match f i s xs[i] with | .inl o=>o | .inr s'=>self (enc s' (al ((i:Int)+1))))
  (hI:∀ (i:Nat) (hi:i < xs.length) (s s':S),I i s->f i s xs[i]=.inr s'->I (i+1) s')
  (iS:∀ (s:S) self,I xs.length s->B self (enc s (xs.length:Int))=fin s) (s:S) (h0:I 0 s):∀ k,xs.length < k->au B k (enc s 0)=aX f fin 0 xs s:=by
 have main:∀ (m i:Nat) (s:S),xs.length - i=m->i<=xs.length->I i s->∀ k,m < k->au B k (enc s (i:Int))=aX f fin i (xs.drop i) s:=by
  intro m
  induction m with
  | zero=>
   intro i s hm hi hs k hk
   have kg:i=xs.length:=by omega
   subst kg
   cases k <;> grind [au,aX]
  | succ m ih=>
   intro i s hm hi hs k hk
   have aE:i < xs.length:=by omega
   cases k <;> grind [au,List.drop_eq_getElem_cons,aX,ct,ak]
 intro k hk
 simpa using main xs.length 0 s (by omega) (by omega) h0 k hk
theorem jo {O α:Type} (p:α->Bool) (a:O) (fin:Unit->O):∀ (xs:List α) (i:Nat),aX (λ_ _ x=>if p x then .inl a else .inr ()) fin i xs ()=if xs.any p then a else fin ()
 | [],_=>rfl
 | x::xs,i=>by
  simp only[aX,List.any_cons]
  by_cases h:p x=true
  ·simp[h]
  ·simp[h,jo p a fin xs (i+1)]
def kq {α:Type} (p:α->Bool):Nat->List α->Int
 | _,[]=>-1
 | i,x::xs=>if p x then (i:Int) else kq p (i+1) xs
theorem ph {α:Type} (p:α->Bool):∀ (xs:List α) (i:Nat),aX (λi _ x=>if p x then .inl ((i:Int),()) else .inr ()) (λ_=>((-1:Int),())) i xs ()=(kq p i xs,())
 | [],_=>rfl
 | x::xs,i=>by
  simp only[aX,kq]
  by_cases h:p x=true
  ·simp[h]
  ·simp[h,ph p xs (i+1)]
theorem zH {α:Type} (p:α->Bool):∀ (xs:List α) (i:Nat),decide (0<=kq p i xs)=xs.any p
 | [],_=>rfl
 | x::xs,i=>by
  simp only[kq,List.any_cons]
  by_cases h:p x=true
  ·simp[h]
  ·simp[h,zH p xs (i+1)]
theorem sO {α:Type} (p:α->Bool):∀ (xs:List α) (i:Nat),0<=kq p i xs->∃ (j:Nat) (hj:j < xs.length),kq p i xs=((i+j:Nat):Int)/\p xs[j]=true
 | [],_,h=>by simp[kq] at h
 | x::xs,i,h=>by
  simp only[kq] at h ⊢
  by_cases hp:p x=true
  ·exact ⟨0,by simp,by simp[hp],hp⟩
  ·rw[if_neg hp] at h ⊢
   obtain ⟨j,hj,h1,h2⟩:=sO p xs (i+1) h
   exact ⟨j+1,by simp;omega,by rw[h1];omega,by simpa using h2⟩
theorem nU (a b:Key):Ty.eq aF a b=decide (a=b):=by
 obtain ⟨J,a2,⟨⟩⟩:=a
 obtain ⟨b1,b2,⟨⟩⟩:=b
 show (decide (J=b1)&&(decide (a2=b2)&&true))=decide ((J,a2,())=(b1,b2,()))
 grind
def cZ (c:Change):Key:=((ck c).1,(ck c).2,())
def cq (ks:List Key) (k:Key):Bool:=ks.any λx=>decide (x=k)
theorem e7 {ks:List Key} {k:Key}:cq ks k=true↔k ∈ ks:=by simp[cq]
def lN (k:Key):Bool:=bK k.1 0 3&&bK k.2.1 1 99
theorem uj (c:Change):eC.ab (c,())=some (cZ c,()):=by
 refine ag (k:=0) λk _=>(eC.ae k _).trans ?_
 show eC.p _=_
 unfold eC.p
 simp only[pe,Option.bind_some]
 rfl
theorem yQ (c:Change):cf.ab (c,())=some (cZ c,()):=by
 refine ag (k:=0) λk _=>(cf.ae k _).trans ?_
 grind [cf.p,cZ,nf,qH]
theorem CU (x:Key):jl.ab (x,())=some (lN x,()):=by
 refine ag (k:=0) λk _=>(jl.ae k _).trans ?_
 grind [jl.p,lN,bK,je]
theorem IX (x:Key):jW.ab (x.1,x.2.1,())=some (lN x,()):=by
 refine ag (k:=0) λk _=>(jW.ae k _).trans ?_
 grind [jW.p,lN,bK,kU]
theorem wm (x:Tx) (k0:Key) (h:List.length x.2.2.2.1<=maxLen):cn.ab (x,k0,())=some (cq x.2.2.2.1 k0,()):=by
 refine ag (k:=List.length x.2.2.2.1+1) λk hk=>(cn.ae k _).trans ?_
 have:=bI (B:=λself v=>cn.B0 0 self (λz=>cn.Q0 0 (x,k0,()) z) (x,k0,()) v) x.2.2.2.1 (λ(_:Unit) (i:Int)=>i) (λ_ _ y=>if decide (y=k0) then .inl (true,()) else .inr ()) (λ_=>(false,())) (λ_ _=>True) h
  (λi hi s self _=>by
   grind [cn.b0,nU])
  (λ_ _ _ _ _ _=>trivial) (λs self _=>by
   show cn.b0 _ _ _ _=_
   unfold cn.b0
   simp only[Int.lt_irrefl,decide_false,cond_false]
   rfl) () trivial k (by omega)
 rw[jo] at this
 refine Eq.trans this ?_
 grind [cq]
theorem contains_eq (ks:List Key) (k0:Key) (h:ks.length<=maxLen):bG.ab (ks,k0,())=some (cq ks k0,()):=by
 have Ml:dm.ab (ks,k0,())=some (kq (λy=>decide (k0=y)) 0 ks,()):=by
  refine ag (k:=ks.length+1) λk hk=>(dm.ae k _).trans ?_
  have:=bI (B:=λself v=>dm.B0 0 self (λz=>dm.Q0 0 (ks,k0,()) z) (ks,k0,()) v) ks (λ(_:Unit) (i:Int)=>i) (λi _ y=>if decide (k0=y) then .inl ((i:Int),()) else .inr ()) (λ_=>((-1:Int),())) (λ_ _=>True) h
   (λi hi s self _=>by
    grind [dm.b0,nU])
   (λ_ _ _ _ _ _=>trivial) (λs self _=>by
    show dm.b0 _ _ _ _=_
    unfold dm.b0
    simp only[Int.lt_irrefl,decide_false,cond_false]
    rfl) () trivial k (by omega)
  rw[ph] at this
  exact this
 refine ag (k:=0) λk _=>(bG.ae k _).trans ?_
 grind [bG.p,zH,cq]
def tl (x:Tx):Prop:=List.length x.2.1<=1048576/\List.length x.2.2.1<=1048576/\List.length x.2.2.2.1<=1048576/\∀ c ∈ x.2.1,cl c
def kC (ks:List Key) (c:Change):Int:=if qG c=0 then (if cq ks (cZ c) then 0 else 8) else qG c
def uk (n last:Int) (ms:List Int):Bool:=aX (λ_ last m=>if bK m last n then .inr m else .inl false) (λ_=>true) 0 ms last
def gD (ks:List Key) (i:Nat) (k:Key):Int:=if lN k then (if cq (ks.take i) k then 6 else 0) else 3
def kt (ks:List Key):Int:=aX (λi (_:Unit) k=>if gD ks i k=0 then .inr () else .inl (gD ks i k)) (λ_=>(0:Int)) 0 ks ()
def jf (x:Tx):Int:=if decide (8 < List.length x.2.2.1)||decide (12 < List.length x.2.2.2.1) then 2 else if uk (List.length x.2.1:Int) 0 x.2.2.1 then kt x.2.2.2.1 else 3
def qI (x:Tx):Int:=jG (kC x.2.2.2.1) x.2.1
theorem BT (n:Int) (E:Option (Int×Unit)):∀ (ms:List Int) (i:Nat) (last:Int),aX (λ_ last m=>if bK m last n then .inr m else .inl (some ((3:Int),()))) (λ_=>E) i ms last=if aX (λ_ last m=>if bK m last n then .inr m else .inl false) (λ_=>true) i ms last then E else some ((3:Int),())
 | [],_,_=>rfl
 | m::ms,i,last=>by
  simp only[aX]
  by_cases hb:bK m last n=true
  ·simp only[hb,if_true];exact BT n E ms _ _
  ·simp[hb]
theorem CV (x:Tx) (h:tl x):eD.ab (x,())=some (qI x,()):=by
 obtain ⟨h1,h2,h3,h4⟩:=h
 refine ag (k:=List.length x.2.1+1) λk hk=>(eD.ae k _).trans ?_
 have:=bI (B:=λself v=>eD.B0 0 self (λz=>eD.Q0 0 (x,()) z) (x,()) v) x.2.1 (λ(_:Unit) (i:Int)=>i) (λ_ _ c=>if kC x.2.2.2.1 c=0 then .inr () else .inl (kC x.2.2.2.1 c,())) (λ_=>(0,())) (λ_ _=>True) (by rw[ak];omega)
  (λi hi s self _=>by
   show eD.b0 _ _ _ _=_
   unfold eD.b0
   have aE:(i:Int) < (List.length x.2.1:Int):=by omega
   simp only[aE,decide_true,cond_true,Int.natCast_nonneg,if_true,Int.toNat_natCast,List.getElem?_eq_getElem hi,Option.bind_some,yP _ (h4 _ (List.getElem_mem hi)),uj]
   grind [wm,ak,kC])
  (λ_ _ _ _ _ _=>trivial) (λs self _=>by
   show eD.b0 _ _ _ _=_
   unfold eD.b0
   simp only[Int.lt_irrefl,decide_false,cond_false]
   rfl) () trivial k (by omega)
 rw[xy (kC x.2.2.2.1) (λc=>(c,())) (λ_=>((0:Int),()))] at this
 refine Eq.trans this ?_
 grind [qI]
theorem IY {m last n:Int} (h:0<=last):(bK m 0 n&&decide (last<=m))=bK m last n:=by
 grind [bK]
theorem BU (x:Tx) (h:tl x):a9.ab (x,())=some (jf x,()):=by
 obtain ⟨h1,h2,h3,h4⟩:=h
 refine ag (k:=20) λk hk=>(a9.ae k _).trans ?_
 unfold a9.p jf
 by_cases hm:8 < List.length x.2.2.1
 ·grind
 have Sm:¬ (8:Int) < (List.length x.2.2.1:Int):=by omega
 by_cases fg:12 < List.length x.2.2.2.1
 ·grind
 have DD:¬ (12:Int) < (List.length x.2.2.2.1:Int):=by omega
 simp only[hm,Sm,DD,fg,decide_false,cond_false,Bool.or_self,Bool.false_eq_true,if_false]
 have second:a9.r1 k (x,()) (x,(0:Int))=some (kt x.2.2.2.1,()):=by
  have inner:∀ (self:(Tx×Int)->Option a9.Out) (e2:Unit->Option a9.Out) (i:Nat) (hi:i < List.length x.2.2.2.1),a9.r2 k self e2 (x,()) x (i:Int) (0:Int)=if cq (x.2.2.2.1.take i) (x.2.2.2.1)[i] then some ((6:Int),()) else self (x,al ((i:Int)+1)):=λself e2 i hi=>by
   have dZ:(x.2.2.2.1.take i).length=i:=by simp;omega
   have:=dI (B:=λfa v=>a9.B2 k fa (λz=>a9.Q1 k self e2 (x,()) x (i:Int) z) (x,()) x (i:Int) v) (x.2.2.2.1.take i) (λ(_:Unit) (j:Int)=>j) (λ_ _ y=>if decide (y=(x.2.2.2.1)[i]) then .inl (some ((6:Int),())) else .inr ()) (λ_=>self (x,al ((i:Int)+1))) (λ_ _=>True) (by rw[ak];omega)
    (λj hj s fa _=>by
     grind [a9.b2,nU])
    (λ_ _ _ _ _ _=>trivial) (λs fa _=>by
     show a9.b2 _ _ _ _ _ _=_
     unfold a9.b2
     simp only[dZ,Int.lt_irrefl,decide_false,cond_false]
     rfl) () trivial k (by omega)
   rw[jo] at this
   exact this
  have:=bI (B:=λself v=>a9.B1 k self (λz=>a9.Q2 k (x,()) z) (x,()) v) x.2.2.2.1 (λ(_:Unit) (i:Int)=>(x,i)) (λi _ y=>if gD x.2.2.2.1 i y=0 then .inr () else .inl (gD x.2.2.2.1 i y,())) (λ_=>(0,())) (λ_ _=>True) (by rw[ak];omega)
   (λi hi s self _=>by
    show a9.b1 _ _ _ _ _=_
    grind [a9.b1,gD,Int.toNat_natCast,CU])
   (λ_ _ _ _ _ _=>trivial) (λs self _=>by
    show a9.b1 _ _ _ _ _=_
    unfold a9.b1
    simp only[Int.lt_irrefl,decide_false,cond_false]
    rfl) () trivial k (by omega)
  refine Eq.trans this ?_
  unfold kt
  generalize KD:x.2.2.2.1=ks
  have gen:∀ (f:Nat->Key->Int) (ys:List Key) (i:Nat),aX (λi (_:Unit) y=>if f i y=0 then .inr () else .inl (f i y,())) (λ_=>((0:Int),())) i ys ()=(aX (λi (_:Unit) y=>if f i y=0 then .inr () else .inl (f i y)) (λ_=>(0:Int)) i ys (),()):=by
   intro f ys
   induction ys <;> grind [aX]
  simp_all
 have:=dI (B:=λself v=>a9.B0 k self (λz=>a9.Q0 k (x,()) z) (x,()) v) x.2.2.1 (λ(_:Int) (i:Int)=>i) (λi last m=>if bK m last (List.length x.2.1:Int) then .inr m else .inl (some ((3:Int),()))) (λ_=>some (kt x.2.2.2.1,()))
  (λi last=>0<=last/\(i=0->last=0)/\∀ y,0 < i->x.2.2.1[i - 1]?=some y->last=y) (by rw[ak];omega)
  (λi hi last self hI=>by
   obtain ⟨i1,i2,i3⟩:=hI
   show a9.b0 _ _ _ _=_
   unfold a9.b0
   have aE:(i:Int) < (List.length x.2.2.1:Int):=by omega
   simp only[aE,decide_true,cond_true,Int.natCast_nonneg,if_true,Int.toNat_natCast,List.getElem?_eq_getElem hi,Option.bind_some,je]
   generalize DJ:(x.2.2.1)[i]=m
   rw[<-IY i1]
   show (bif !bK m 0 (List.length x.2.1:Int) then _ else _)=_
   cases Gf:bK m 0 (List.length x.2.1:Int) with
   | false=>rfl
   | true=>
    have Ps:0<=m:=by
     grind [bK]
    simp only[Bool.not_true,cond_false,Bool.true_and]
    by_cases h0:i=0
    ·grind
    ·have KE:i - 1 < List.length x.2.2.1:=by omega
     have hl:=i3 (x.2.2.1)[i - 1] (by omega) (List.getElem?_eq_getElem KE)
     have hp:(0:Int) < (i:Int):=by omega
     simp only[hp,decide_true,cond_true,xJ (show 0 < i by omega) (by rw[ak];omega),Int.natCast_nonneg,if_true,Int.toNat_natCast,List.getElem?_eq_getElem KE,Option.bind_some]
     grind)
  (λi hi last SV hI hs=>by
   grind [bK])
  (λlast self hI=>by
   show a9.b0 _ _ _ _=_
   unfold a9.b0
   simp only[Int.lt_irrefl,decide_false,cond_false]
   exact second) 0 ⟨Int.le_refl _,λ_=>rfl,λ_ h=>by omega⟩ k (by omega)
 refine Eq.trans this ?_
 unfold uk
 rw[BT]
 grind
end OT
set_option linter.unusedVariables false
set_option linter.unusedSimpArgs false
namespace OT
open Go
def jv (x:Tx):Int:=if qI x=0 then jf x else qI x
theorem zI {α:Type} (c:Nat->α->Int):∀ (xs:List α) (i:Nat),aX (λi (_:Unit) y=>if c i y=0 then .inr () else .inl (c i y,())) (λ_=>((0:Int),())) i xs ()=(aX (λi (_:Unit) y=>if c i y=0 then .inr () else .inl (c i y)) (λ_=>(0:Int)) i xs (),())
 | [],_=>rfl
 | y::ys,i=>by simp only[aX];by_cases h0:c i y=0 <;> simp[h0,zI c ys (i+1)]
theorem pi {α:Type} (c:Nat->α->Int) (E:Option (Int×Unit)):∀ (xs:List α) (i:Nat),aX (λi (_:Unit) y=>if c i y=0 then .inr () else .inl (some (c i y,()))) (λ_=>E) i xs () =
  if aX (λi (_:Unit) y=>if c i y=0 then .inr () else .inl (c i y)) (λ_=>(0:Int)) i xs ()=0 then E else some (aX (λi (_:Unit) y=>if c i y=0 then .inr () else .inl (c i y)) (λ_=>(0:Int)) i xs (),())
 | [],_=>rfl
 | y::ys,i=>by simp only[aX];by_cases h0:c i y=0 <;> simp[h0,pi c E ys (i+1)]
theorem vC {α:Type} (c:α->Int):∀ (xs:List α) (i:Nat),aX (λ_ (_:Unit) y=>if c y=0 then .inr () else .inl (c y)) (λ_=>(0:Int)) i xs ()=jG c xs
 | [],_=>rfl
 | y::ys,i=>by simp only[aX,jG];by_cases h0:c y=0 <;> simp[h0,vC c ys (i+1)]
theorem E8 (x:Tx) (h:tl x):bq.ab (x,())=some (jv x,()):=by
 obtain ⟨h1,h2,h3,h4⟩:=h
 refine ag (k:=1048577) λk hk=>(bq.ae k _).trans ?_
 have E9:List.length x.2.2.2.1<=12->bq.r2 k (x,()) (0:Int)=some (kt x.2.2.2.1,()):=λhl=>by
  have:=bI (B:=λself v=>bq.B2 k self (λz=>bq.Q2 k (x,()) z) (x,()) v) x.2.2.2.1 (λ(_:Unit) (i:Int)=>i) (λi _ y=>if gD x.2.2.2.1 i y=0 then .inr () else .inl (gD x.2.2.2.1 i y,())) (λ_=>(0,())) (λ_ _=>True) (by rw[ak];omega)
   (λi hi s self _=>by
    grind [bq.b2,gD,IX,contains_eq,ak])
   (λ_ _ _ _ _ _=>trivial) (λs self _=>by
    show bq.b2 _ _ _ _=_
    unfold bq.b2
    simp only[Int.lt_irrefl,decide_false,cond_false]
    rfl) () trivial k (by omega)
  rw[zI (gD x.2.2.2.1)] at this
  exact this
 have second:List.length x.2.2.1<=8->List.length x.2.2.2.1<=12->bq.r1 k (x,()) ((0:Int),(0:Int))=some (if uk (List.length x.2.1:Int) 0 x.2.2.1 then kt x.2.2.2.1 else 3,()):=λhm hl=>by
  have:=dI (B:=λself v=>bq.B1 k self (λz=>bq.Q1 k (x,()) z) (x,()) v) x.2.2.1 (λ(last:Int) (i:Int)=>(last,i)) (λ_ last m=>if bK m last (List.length x.2.1:Int) then .inr m else .inl (some ((3:Int),()))) (λ_=>some (kt x.2.2.2.1,())) (λ_ _=>True) (by rw[ak];omega)
   (λi hi last self _=>by
    grind [bq.b1,kU,bK])
   (λ_ _ _ _ _ _=>trivial) (λlast self _=>by
    show bq.b1 _ _ _ _=_
    unfold bq.b1
    simp only[Int.lt_irrefl,decide_false,cond_false]
    exact E9 hl) 0 trivial k (by omega)
  rw[BT] at this
  refine Eq.trans this ?_
  grind [uk]
 have after:bq.Q0 k (x,()) ()=some (jf x,()):=by
  show bq.q0 _ _ _=_
  grind [bq.q0,jf]
 have:=dI (B:=λself v=>bq.B0 k self (λz=>bq.Q0 k (x,()) z) (x,()) v) x.2.1 (λ(_:Unit) (i:Int)=>i) (λ_ _ c=>if kC x.2.2.2.1 c=0 then .inr () else .inl (some (kC x.2.2.2.1 c,()))) (λ_=>some (jf x,())) (λ_ _=>True) (by rw[ak];omega)
  (λi hi s self _=>by
   show bq.b0 _ _ _ _=_
   unfold bq.b0
   have aE:(i:Int) < (List.length x.2.1:Int):=by omega
   simp only[aE,decide_true,cond_true,Int.natCast_nonneg,if_true,Int.toNat_natCast,List.getElem?_eq_getElem hi,Option.bind_some,zF _ (h4 _ (List.getElem_mem hi)),yQ]
   grind [contains_eq,ak,kC])
  (λ_ _ _ _ _ _=>trivial) (λs self _=>by
   grind [bq.b0]) () trivial k (by omega)
 rw[pi (λ_=>kC x.2.2.2.1),vC] at this
 refine Eq.trans this ?_
 grind [jv,qI]
def fP (xs:List Tx) (k:Key):Int:=match xs with
 | []=>0
 | x::xs=>if cq x.2.2.2.1 k then x.1 else fP xs k
def gy (xs:List Tx):Prop:=xs.length<=1048576/\∀ x ∈ xs,tl x
theorem ul (k:Key):∀ (xs:List Tx) (i:Nat),aX (λ_ (_:Unit) x=>if cq x.2.2.2.1 k then .inl (x.1,()) else .inr ()) (λ_=>((0:Int),())) i xs ()=(fP xs k,())
 | [],_=>rfl
 | x::xs,i=>by simp only[aX,fP];cases cq x.2.2.2.1 k <;> simp[ul k xs (i+1)]
theorem BV {x:Tx} (h:tl x):List.length x.2.2.2.1<=maxLen:=by rw[ak];have:=h.2.2.1;omega
theorem CW (xs:List Tx) (k0:Key) (h:gy xs):eU.ab (xs,k0,())=some (fP xs k0,()):=by
 obtain ⟨h1,h2⟩:=h
 refine ag (k:=xs.length+1) λk hk=>(eU.ae k _).trans ?_
 have:=bI (B:=λself v=>eU.B0 0 self (λz=>eU.Q0 0 (xs,k0,()) z) (xs,k0,()) v) xs (λ(_:Unit) (i:Int)=>i) (λ_ _ x=>if cq x.2.2.2.1 k0 then .inl (x.1,()) else .inr ()) (λ_=>(0,())) (λ_ _=>True) (by rw[ak];omega)
  (λi hi s self _=>by
   grind [eU.b0,wm,BV])
  (λ_ _ _ _ _ _=>trivial) (λs self _=>by
   show eU.b0 _ _ _ _=_
   unfold eU.b0
   simp only[Int.lt_irrefl,decide_false,cond_false]
   rfl) () trivial k (by omega)
 rw[ul] at this
 exact this
def fd (xs:List Tx):Int:=xs.foldl (λn x=>n+(List.length x.2.1:Int)) 0
theorem um (xs:List Tx) (h:gy xs):cQ.ab (xs,())=some (fd xs,()):=by
 obtain ⟨h1,h2⟩:=h
 refine ag (k:=xs.length+1) λk hk=>(cQ.ae k _).trans ?_
 have:=bI (B:=λself v=>cQ.B0 0 self (λz=>cQ.Q0 0 (xs,()) z) (xs,()) v) xs (λ(n:Int) (i:Int)=>(n,i)) (λ_ n x=>.inr (n+(List.length x.2.1:Int))) (λn=>(n,())) (λi n=>0<=n/\n<=1048576*(i:Int)) (by rw[ak];omega)
  (λi hi n self hI=>by
   show cQ.b0 _ _ _ _=_
   unfold cQ.b0
   have aE:(i:Int) < (xs.length:Int):=by omega
   have hx:=(h2 _ (List.getElem_mem hi)).1
   grind [ct])
  (λi hi n n' hI hs=>by
   injection hs with hs
   have hx:=(h2 _ (List.getElem_mem hi)).1
   omega) (λs self _=>by
   show cQ.b0 _ _ _ _=_
   unfold cQ.b0
   simp only[Int.lt_irrefl,decide_false,cond_false]
   rfl) 0 (by omega) k (by omega)
 rw[gR] at this
 exact this
theorem qg (xs:List Tx) (h:gy xs):cG.ab (xs,())=some (fd xs,()):=by
 obtain ⟨h1,h2⟩:=h
 refine ag (k:=xs.length+1) λk hk=>(cG.ae k _).trans ?_
 have:=bI (B:=λself v=>cG.B0 0 self (λz=>cG.Q0 0 (xs,()) z) (xs,()) v) xs (λ(n:Int) (i:Int)=>(n,i)) (λ_ n x=>.inr (n+(List.length x.2.1:Int))) (λn=>(n,())) (λi n=>0<=n/\n<=1048576*(i:Int)) (by rw[ak];omega)
  (λi hi n self hI=>by
   show cG.b0 _ _ _ _=_
   unfold cG.b0
   have aE:(i:Int) < (xs.length:Int):=by omega
   have hx:=(h2 _ (List.getElem_mem hi)).1
   grind [ct])
  (λi hi n n' hI hs=>by
   injection hs with hs
   have hx:=(h2 _ (List.getElem_mem hi)).1
   omega) (λs self _=>by
   show cG.b0 _ _ _ _=_
   unfold cG.b0
   simp only[Int.lt_irrefl,decide_false,cond_false]
   rfl) 0 (by omega) k (by omega)
 rw[gR] at this
 exact this
def iT (xs:List Tx) (i:Nat) (x:Tx):Int:=if bK x.1 1 99 then (if 0 < i then (match xs[i - 1]? with
    | some y=>if x.1<=y.1 then 1 else jv x
    | none=>1) else jv x) else 3
def nV (xs:List Tx):Int:=aX (λi (_:Unit) x=>if iT xs i x=0 then .inr () else .inl (iT xs i x)) (λ_=>(0:Int)) 0 xs ()
def flatK (xs:List Tx):List Key:=xs.flatMap λx=>x.2.2.2.1
def qh (xs:List Tx):Bool:=decide (flatK xs).Nodup
def du (xs:List Tx):Int:=if 4 < xs.length then 2 else if nV xs=0 then (if qh xs then (if 12 < fd xs then 2 else 0) else 7) else nV xs
theorem l9 (xs:List Tx) (h:nV xs=0):∀ i (hi:i < xs.length),iT xs i xs[i]=0:=by
 have main:∀ (ys:List Tx) (j:Nat),(aX (λi (_:Unit) x=>if iT xs i x=0 then .inr () else .inl (iT xs i x)) (λ_=>(0:Int)) j ys ())=0->∀ i (hi:i < ys.length),iT xs (j+i) ys[i]=0:=by
  intro ys
  induction ys with
  | nil=>grind
  | cons y ys ih=>
   intro j hf i hi
   simp only[aX] at hf
   by_cases h0:iT xs j y=0
   ·rw[if_pos h0] at hf
    cases i with
    | zero=>simpa using h0
    | succ i=>
     have:=ih (j+1) hf i (by simpa using hi)
     grind
   grind
 intro i hi
 have:=main xs 0 h i hi
 grind
theorem qi {xs:List Tx} {i:Nat} {x:Tx} (h:iT xs i x=0):1<=x.1/\jv x=0/\∀ y,0 < i->xs[i - 1]?=some y->y.1 < x.1:=by
 grind [iT,bK]
theorem Hq {xs:List Tx} (h:nV xs=0):xs.Pairwise λx y=>x.1 < y.1:=by
 rw[List.pairwise_iff_getElem]
 intro i j hi hj gG
 have key:∀ d (hd:i+d+1 < xs.length),(xs[i]).1 < (xs[i+d+1]).1:=by
  intro d
  induction d with
  | zero=>
   intro hd
   exact (qi (l9 xs h (i+1) hd)).2.2 xs[i] (by omega) (by simp[hi])
  | succ d ih=>
   intro hd
   have h1:=ih (by omega)
   have h2:=(qi (l9 xs h (i+d+1+1) hd)).2.2 xs[i+d+1] (by omega) (by grind)
   grind
 have:=key (j - i - 1) (by omega)
 grind
theorem CX {ks:List Key} (h:kt ks=0):ks.Nodup:=by
 have main:∀ (ys:List Key) (j:Nat),(aX (λi (_:Unit) k=>if gD ks i k=0 then .inr () else .inl (gD ks i k)) (λ_=>(0:Int)) j ys ())=0->∀ i (hi:i < ys.length),gD ks (j+i) ys[i]=0:=by
  intro ys
  induction ys with
  | nil=>grind
  | cons y ys ih=>
   intro j hf i hi
   simp only[aX] at hf
   by_cases h0:gD ks j y=0
   ·rw[if_pos h0] at hf
    cases i with
    | zero=>simpa using h0
    | succ i=>
     have:=ih (j+1) hf i (by simpa using hi)
     grind
   grind
 rw[List.nodup_iff_pairwise_ne,List.pairwise_iff_getElem]
 intro i j hi hj gG e
 have h1:=main ks 0 h j hj
 rw[Nat.zero_add] at h1
 unfold gD at h1
 split at h1
 ·split at h1
  ·cases h1
  ·rename_i hn
   refine hn (e7.2 ?_)
   rw[<-e]
   exact List.mem_take_iff_getElem.2 ⟨i,by omega,rfl⟩
 ·cases h1
theorem IZ {x:Tx} (h:jv x=0):(x.2.2.2.1:List Key).Nodup:=by
 grind [jv,jf,CX]
end OT
set_option linter.unusedVariables false
set_option linter.unusedSimpArgs false
namespace OT
open Go
def rM (xs:List Tx):Bool:=xs.all λx=>x.2.2.2.1.all λk=>decide (fP xs k=x.1)
theorem I0 {xs:List Tx} (hr:xs.Pairwise λx y=>x.1 < y.1) (hn:∀ x ∈ xs,(x.2.2.2.1:List Key).Nodup):rM xs=qh xs:=by
 have main:∀ (xs:List Tx),(xs.Pairwise λx y=>x.1 < y.1)->(∀ x ∈ xs,(x.2.2.2.1:List Key).Nodup)->((∀ x ∈ xs,∀ k ∈ (x.2.2.2.1:List Key),fP xs k=x.1)↔(flatK xs).Nodup):=by
  intro xs
  induction xs with
  | nil=>grind [flatK]
  | cons x xs ih=>
   intro hr hn
   obtain ⟨h1,h2⟩:=List.pairwise_cons.1 hr
   have ih:=ih h2 (λy hy=>hn y (by simp[hy]))
   have pV:flatK (x::xs)=x.2.2.2.1++flatK xs:=by simp[flatK]
   rw[pV,List.nodup_append]
   constructor
   ·intro iR
    have hd:∀ y ∈ xs,∀ k ∈ (y.2.2.2.1:List Key),k ∉ (x.2.2.2.1:List Key):=λy hy k hk hx=>by
     grind
    refine ⟨hn x (by simp),ih.1 λy hy k hk=>?_,λa ha b hb e=>?_⟩
    ·grind [fP]
    ·subst e
     obtain ⟨y,hy,hk⟩:=List.mem_flatMap.1 hb
     grind
   ·rintro ⟨g1,g2,g3⟩ y hy k hk
    grind [fP,flatK,cq]
 have hm:=main xs hr hn
 unfold rM qh
 rw[Bool.eq_iff_iff]
 simp_all
theorem BW (xs:List Tx) (h:gy xs):bF.ab (xs,())=some (rM xs,()):=by
 have ht:=h
 obtain ⟨h1,h2⟩:=h
 refine ag (k:=1048577) λk hk=>(bF.ae k _).trans ?_
 have inner:∀ (self:((List Tx)×Int)->Option bF.Out) (e0:Unit->Option bF.Out) (i:Nat) (hi:i < xs.length),bF.r1 k self e0 (xs,()) xs (i:Int) (0:Int)=if (xs[i]).2.2.2.1.any (λy=>!decide (fP xs y=(xs[i]).1)) then some (false,()) else self (xs,al ((i:Int)+1)):=λself e0 i hi=>by
  have KF:=h2 _ (List.getElem_mem hi)
  have xM:=KF.2.2.1
  have:=dI (B:=λfa v=>bF.B1 k fa (λz=>bF.Q0 k self e0 (xs,()) xs (i:Int) z) (xs,()) xs (i:Int) v) (xs[i]).2.2.2.1 (λ(_:Unit) (j:Int)=>j) (λ_ _ y=>if !decide (fP xs y=(xs[i]).1) then .inl (some (false,())) else .inr ()) (λ_=>self (xs,al ((i:Int)+1))) (λ_ _=>True) (by rw[ak];omega)
   (λj hj s fa _=>by
    show bF.b1 _ _ _ _ _ _=_
    unfold bF.b1
    grind [CW])
   (λ_ _ _ _ _ _=>trivial) (λs fa _=>by
    show bF.b1 _ _ _ _ _ _=_
    unfold bF.b1
    simp only[Int.natCast_nonneg,if_true,Int.toNat_natCast,List.getElem?_eq_getElem hi,Option.bind_some,Int.lt_irrefl,decide_false,cond_false]
    rfl) () trivial k (by omega)
  rw[jo] at this
  exact this
 have:=bI (B:=λself v=>bF.B0 k self (λz=>bF.Q1 k (xs,()) z) (xs,()) v) xs (λ(_:Unit) (i:Int)=>(xs,i)) (λ_ _ x=>if x.2.2.2.1.all (λy=>decide (fP xs y=x.1)) then .inr () else .inl (false,())) (λ_=>(true,())) (λ_ _=>True) (by rw[ak];omega)
  (λi hi s self _=>by
   show bF.b0 _ _ _ _ _=_
   grind [bF.b0])
  (λ_ _ _ _ _ _=>trivial) (λs self _=>by
   show bF.b0 _ _ _ _ _=_
   unfold bF.b0
   simp only[Int.lt_irrefl,decide_false,cond_false]
   rfl) () trivial k (by omega)
 rw[o6 (λ(x:Tx)=>x.2.2.2.1.all (λy=>decide (fP xs y=x.1))) (false,()) (λ_=>(true,()))] at this
 refine Eq.trans this ?_
 grind [rM]
def cU (S:List Key):List (Key×Bool):=S.map λk=>(k,true)
theorem CY {α:Type} (k:Ty) (e:k.den×α) (m:List (k.den×α)) (x:k.den):gq k (e::m) x=if k.eq x e.1 then some e.2 else gq k m x:=by
 grind [gq]
theorem E_ {α:Type} (k:Ty) (m:List (k.den×α)) (x:k.den) (y:α) (h:∀ e ∈ m,k.eq x e.1=false):gr k m x y=m++[(x,y)]:=by
 grind [gr]
theorem vD (S:List Key) (k:Key):gq aF (cU S) k=if cq S k then some true else none:=by
 induction S with
 | nil=>rfl
 | cons s S ih=>
  refine (CY aF (s,true) (cU S) k).trans ?_
  grind [nU,cq]
theorem I1 (S:List Key) (k:Key):AK (gq aF (cU S) k) false=cq S k:=by
 grind [AK,vD]
theorem BX {S:List Key} {k:Key} (h:cq S k=false):gr aF (cU S) k true=cU (S++[k]):=by
 refine (E_ aF (cU S) k true λe he=>?_).trans ?_
 ·obtain ⟨s,hs,rfl⟩:=List.mem_map.1 he
  grind [nU,cq]
 ·simp only[cU,List.map_append,List.map_cons,List.map_nil]
  rfl
def getM (m:List (Key×Bool)) (k:Key):Bool:=AK (gq aF m k) false
def jp (m:List (Key×Bool)) (k:Key):List (Key×Bool):=gr aF m k true
def jZ:List (Key×Bool)->List Key->Option (List (Key×Bool))
 | m,[]=>some m
 | m,k::ks=>if getM m k then none else jZ (jp m k) ks
theorem vE:∀ (m:List (Key×Bool)) (a b:List Key),jZ m (a++b)=(jZ m a).bind λm'=>jZ m' b
 | m,[],b=>rfl
 | m,k::a,b=>by
  simp only[List.cons_append,jZ]
  split
  ·rfl
  ·exact vE _ a b
theorem zJ:∀ (ks S:List Key),S.Nodup->jZ (cU S) ks=if (S++ks).Nodup then some (cU (S++ks)) else none
 | [],S,h=>by simp[jZ,h]
 | k::ks,S,h=>by
  have hg:getM (cU S) k=cq S k:=I1 S k
  simp only[jZ,hg]
  cases hh:cq S k with
  | true=>
   have:¬ (S++k::ks).Nodup:=λhn=>by
    rw[List.nodup_append] at hn
    exact hn.2.2 k (e7.1 hh) k (by simp) rfl
   simp[this]
  | false=>
   have hk:k ∉ S:=λhm=>by rw[e7.2 hm] at hh;cases hh
   simp only[Bool.false_eq_true,if_false]
   have hp:jp (cU S) k=cU (S++[k]):=BX hh
   rw[hp,zJ ks (S++[k]) (by grind)]
   grind
theorem zK {O:Type} (bad:Option O) (E:List (Key×Bool)->Option O):∀ (ks:List Key) (i:Nat) (m:List (Key×Bool)),aX (λ_ m k=>if getM m k then .inl bad else .inr (jp m k)) E i ks m=match jZ m ks with | none=>bad | some m'=>E m'
 | [],_,_=>rfl
 | k::ks,i,m=>by
  simp only[aX,jZ]
  by_cases h:getM m k=true
  ·simp[h]
  ·simp only[h,if_false]
   exact zK bad E ks _ _
theorem xN {O:Type} (bad:Option O) (E:Option O):∀ (xs:List Tx) (i:Nat) (m:List (Key×Bool)),aX (λ_ m x=>match jZ m x.2.2.2.1 with | none=>.inl bad | some m'=>.inr m') (λ_=>E) i xs m=match jZ m (flatK xs) with | none=>bad | some _=>E
 | [],_,_=>rfl
 | x::xs,i,m=>by
  have pV:flatK (x::xs)=x.2.2.2.1++flatK xs:=by simp[flatK]
  rw[pV,vE]
  simp only[aX]
  cases h:jZ m x.2.2.2.1 with
  | none=>rfl
  | some m'=>
   simp only[Option.bind_some]
   exact xN bad E xs _ _
theorem sP (xs:List Tx) (h:gy xs):aL.ab (xs,())=some (du xs,()):=by
 have ht:=h
 obtain ⟨h1,h2⟩:=h
 refine ag (k:=1048577) λk hk=>(aL.ae k _).trans ?_
 unfold aL.p du
 by_cases h4:4 < xs.length
 ·grind
 have Nq:¬ (4:Int) < (xs.length:Int):=by omega
 simp only[h4,Nq,decide_false,cond_false,if_false]
 have last:aL.Q2 k (xs,()) xs=some (if 12 < fd xs then 2 else 0,()):=by
  grind [aL.q2,qg]
 have inner:∀ (self:((List Tx)×(List (Key×Bool))×(List Tx)×Int×Int)->Option aL.Out) (e2:List Tx->Option aL.Out) (i:Nat) (hi:i < xs.length) (m:List (Key×Bool)),aL.r2 k self e2 (xs,()) xs xs (xs.length:Int) (i:Int) (xs[i]).2.2.2.1 (List.length (xs[i]).2.2.2.1:Int) (m,(0:Int))=match jZ m (xs[i]).2.2.2.1 with | none=>some ((7:Int),()) | some m'=>self (xs,m',xs,(xs.length:Int),al ((i:Int)+1)):=λself e2 i hi m=>by
  have xM:=(h2 _ (List.getElem_mem hi)).2.2.1
  have:=dI (B:=λfa v=>aL.B2 k fa (λz=>aL.Q1 k self e2 (xs,()) xs xs (xs.length:Int) (i:Int) (xs[i]).2.2.2.1 (List.length (xs[i]).2.2.2.1:Int) z) (xs,()) xs xs (xs.length:Int) (i:Int) (xs[i]).2.2.2.1 (List.length (xs[i]).2.2.2.1:Int) v) (xs[i]).2.2.2.1 (λ(m:List (Key×Bool)) (j:Int)=>(m,j)) (λ_ m y=>if getM m y then .inl (some ((7:Int),())) else .inr (jp m y)) (λm=>self (xs,m,xs,(xs.length:Int),al ((i:Int)+1))) (λ_ _=>True) (by rw[ak];omega)
   (λj hj s fa _=>by
    grind [aL.b2,getM,jp])
   (λ_ _ _ _ _ _=>trivial) (λs fa _=>by
    show aL.b2 _ _ _ _ _ _ _ _ _ _=_
    unfold aL.b2
    simp only[Int.lt_irrefl,decide_false,cond_false]
    rfl) m trivial k (by omega)
  rw[zK] at this
  exact this
 have apart:aL.Q0 k (xs,()) ()=some (if qh xs then (if 12 < fd xs then 2 else 0) else 7,()):=by
  have:=dI (B:=λself v=>aL.B1 k self (λz=>aL.Q2 k (xs,()) z) (xs,()) v) xs (λ(m:List (Key×Bool)) (i:Int)=>(xs,m,xs,(xs.length:Int),i)) (λ_ m x=>match jZ m x.2.2.2.1 with | none=>.inl (some ((7:Int),())) | some m'=>.inr m') (λ_=>some (if 12 < fd xs then 2 else 0,())) (λ_ _=>True) (by rw[ak];omega)
   (λi hi m self _=>by
    show aL.b1 _ _ _ _ _=_
    grind [aL.b1])
   (λ_ _ _ _ _ _=>trivial) (λs self _=>by
    show aL.b1 _ _ _ _ _=_
    grind [aL.b1]) (cU []) trivial k (by omega)
  rw[xN,zJ _ _ List.nodup_nil] at this
  refine Eq.trans this ?_
  grind [qh]
 have:=dI (B:=λself v=>aL.B0 k self (λz=>aL.Q0 k (xs,()) z) (xs,()) v) xs (λ(_:Unit) (i:Int)=>i) (λi _ x=>if iT xs i x=0 then .inr () else .inl (some (iT xs i x,()))) (λ_=>some (if qh xs then (if 12 < fd xs then 2 else 0) else 7,())) (λ_ _=>True) (by rw[ak];omega)
  (λi hi s self _=>by
   show aL.b0 _ _ _ _=_
   unfold aL.b0 iT
   have aE:(i:Int) < (xs.length:Int):=by omega
   simp only[aE,decide_true,cond_true,Int.natCast_nonneg,if_true,Int.toNat_natCast,List.getElem?_eq_getElem hi,Option.bind_some,DN,E8 _ (h2 _ (List.getElem_mem hi))]
   grind [bK,xJ,ak,Int.toNat_natCast])
  (λ_ _ _ _ _ _=>trivial) (λs self _=>by
   grind [aL.b0]) () trivial k (by omega)
 rw[pi (iT xs)] at this
 refine Eq.trans this ?_
 grind [nV]
theorem xO (xs:List Tx) (h:gy xs):co.ab (xs,())=some (du xs,()):=by
 have ht:=h
 obtain ⟨h1,h2⟩:=h
 refine ag (k:=1048577) λk hk=>(co.ae k _).trans ?_
 unfold co.p du
 by_cases h4:4 < xs.length
 ·grind
 have Nq:¬ (4:Int) < (xs.length:Int):=by omega
 simp only[h4,Nq,decide_false,cond_false,if_false]
 have last:co.Q0 k (xs,()) ()=some (if rM xs then (if 12 < fd xs then 2 else 0) else 7,()):=by
  grind [co.q0,BW,um]
 have:=dI (B:=λself v=>co.B0 k self (λz=>co.Q0 k (xs,()) z) (xs,()) v) xs (λ(_:Unit) (i:Int)=>i) (λi _ x=>if iT xs i x=0 then .inr () else .inl (some (iT xs i x,()))) (λ_=>some (if rM xs then (if 12 < fd xs then 2 else 0) else 7,())) (λ_ _=>True) (by rw[ak];omega)
  (λi hi s self _=>by
   show co.b0 _ _ _ _=_
   unfold co.b0 iT
   have aE:(i:Int) < (xs.length:Int):=by omega
   simp only[aE,decide_true,cond_true,Int.natCast_nonneg,if_true,Int.toNat_natCast,List.getElem?_eq_getElem hi,Option.bind_some,je,CV _ (h2 _ (List.getElem_mem hi)),BU _ (h2 _ (List.getElem_mem hi))]
   have hj:(bif !decide (qI xs[i]=0) then some (qI xs[i],()) else bif !decide (jf xs[i]=0) then some (jf xs[i],()) else self (al ((i:Int)+1)))=match (generalizing:=false) (if jv xs[i]=0 then .inr () else .inl (some (jv xs[i],())):Sum (Option (Int×Unit)) Unit) with | .inl o=>o | .inr _=>self (al ((i:Int)+1)):=by
    grind [jv]
   grind [bK,xJ,ak,Int.toNat_natCast])
  (λ_ _ _ _ _ _=>trivial) (λs self _=>by
   grind [co.b0]) () trivial k (by omega)
 rw[pi (iT xs)] at this
 refine Eq.trans this ?_
 show (if nV xs=0 then _ else some (nV xs,()))=_
 by_cases he:nV xs=0
 ·rw[if_pos he,if_pos he,I0 (Hq he) (λx hx=>by
   obtain ⟨i,hi,rfl⟩:=List.mem_iff_getElem.1 hx
   exact IZ (qi (l9 xs he i hi)).2.1)]
 grind
end OT
set_option linter.unusedVariables false
set_option linter.unusedSimpArgs false
namespace OT
open Go
def dd (S:List Key) (ks:List Key):List Key:=ks.foldl (λS k=>if cq S k then S else S++[k]) S
def iI (rows:List Row):List Key:=rows.map λr=>(r.1,r.2.1,())
def eh (rows:List Row) (xs:List Tx):List Key:=iI rows++flatK xs
theorem CZ {α:Type} (k:Ty) (m:List (k.den×α)) (x:k.den) (y:α) {i:Nat} (h:m.findIdx? (λe=>k.eq x e.1)=some i):gr k m x y=m.set i (x,y):=by
 grind [gr]
theorem Hr {S:List Key} {k:Key} (h:cq S k=true):jp (cU S) k=cU S:=by
 have key:∀ (S:List Key) (i:Nat),(cU S).findIdx? (λe=>Ty.eq aF k e.1)=some i->(cU S)[i]?=some (k,true):=by
  intro S i hi
  have h1:=List.findIdx?_eq_some_iff_findIdx_eq.1 hi
  grind [cU,nU]
 show gr aF (cU S) k true=cU S
 cases hf:(cU S).findIdx? (λe=>Ty.eq aF k e.1) with
 | none=>
  exfalso
  have h1:gq aF (cU S) k=none:=by
   unfold gq
   have h2:=List.findIdx?_eq_none_iff.1 hf
   have:(cU S).find? (λe=>Ty.eq aF k e.1)=none:=List.find?_eq_none.2 λe he=>by grind
   exact congrArg _ this
  grind [vD]
 | some i=>
  have h1:=key S i hf
  have aE:=(List.getElem?_eq_some_iff.1 h1).1
  refine (CZ aF (cU S) k true hf).trans ?_
  show (cU S).set i (k,true)=cU S
  grind [List.set_getElem_self]
theorem BY (S:List Key) (k:Key):jp (cU S) k=cU (if cq S k then S else S++[k]):=by
 cases h:cq S k with
 | true=>grind [Hr]
 | false=>simp only[Bool.false_eq_true,if_false];exact BX h
theorem DR:∀ (ks S:List Key),ks.foldl jp (cU S)=cU (dd S ks)
 | [],S=>rfl
 | k::ks,S=>by
  rw[List.foldl_cons,BY,DR ks]
  rfl
theorem zL (S a b:List Key):dd S (a++b)=dd (dd S a) b:=List.foldl_append
theorem un:∀ (ks S:List Key) (k:Key),k ∈ dd S ks↔k ∈ S\/k ∈ ks
 | [],S,k=>by simp[dd]
 | x::ks,S,k=>by
  show k ∈ dd (if cq S x then S else S++[x]) ks↔_
  rw[un ks]
  grind [cq]
theorem Hs:∀ (ks S:List Key),S.length<=(dd S ks).length
 | [],S=>Nat.le_refl _
 | x::ks,S=>by
  refine Nat.le_trans ?_ (Hs ks (if cq S x then S else S++[x]))
  grind
theorem BZ:∀ (ks S:List Key),(S++ks).Nodup->dd S ks=S++ks
 | [],S,_=>by simp[dd]
 | x::ks,S,h=>by
  have hx:cq S x=false:=by
   grind [cq]
  show dd (if cq S x then S else S++[x]) ks=_
  rw[hx]
  simp only[Bool.false_eq_true,if_false]
  rw[BZ ks (S++[x]) (by simpa using h)]
  simp
theorem C0 {rows:List Row} (h:up rows):(iI rows).Nodup:=by
 unfold iI
 rw[List.nodup_iff_pairwise_ne,List.pairwise_map]
 refine h.imp λ{a b} Ht e=>?_
 grind [rk,lS]
theorem l_ {rows:List Row} {xs:List Tx} (h:up rows):rows.length<=(dd [] (eh rows xs)).length:=by
 unfold eh
 rw[zL,BZ (iI rows) [] (by simpa using C0 h)]
 refine Nat.le_trans ?_ (Hs _ _)
 simp[iI]
def uo:List Key->List Key->Nat
 | _,[]=>0
 | S,k::ks=>(if cq S k then 0 else 1)+uo (S++[k]) ks
theorem yR:∀ (ks S T:List Key),(∀ k,k ∈ S↔k ∈ T)->(dd S ks).length=S.length+uo T ks
 | [],S,T,_=>rfl
 | x::ks,S,T,h=>by
  have hx:cq S x=cq T x:=by grind [e7]
  show (dd (if cq S x then S else S++[x]) ks).length=_
  simp only[uo,<- hx]
  cases hh:cq S x with
  | true=>
   simp only[if_true]
   rw[yR ks S (T++[x]) λk=>?_]
   ·omega
   ·simp only[List.mem_append,List.mem_singleton,<- h k]
    constructor
    ·exact .inl
    ·rintro (h1 | h1)
     ·exact h1
     ·subst h1;exact e7.1 hh
  | false=>
   simp only[Bool.false_eq_true,if_false]
   rw[yR ks (S++[x]) (T++[x]) λk=>by grind]
   grind
def fQ (rows:List Row) (xs:List Tx):Nat:=(dd [] (eh rows xs)).length
theorem zM (rows:List Row) (xs:List Tx) (hr:rows.length<=1048576) (h:gy xs):bc.ab (rows,xs,())=some (cU (dd [] (eh rows xs)),()):=by
 obtain ⟨h1,h2⟩:=h
 refine ag (k:=1048577) λk hk=>(bc.ae k _).trans ?_
 have inner:∀ (self:((List (Key×Bool))×(List Tx)×Int×Int)->Option bc.Out) (e2:(List (Key×Bool))->Option bc.Out) (i:Nat) (hi:i < xs.length) (m:List (Key×Bool)),bc.r2 k self e2 (rows,xs,()) xs (xs.length:Int) (i:Int) (xs[i]).2.2.2.1 (List.length (xs[i]).2.2.2.1:Int) (m,(0:Int))=self ((xs[i]).2.2.2.1.foldl jp m,xs,(xs.length:Int),al ((i:Int)+1)):=λself e2 i hi m=>by
  have xM:=(h2 _ (List.getElem_mem hi)).2.2.1
  have:=dI (B:=λfa v=>bc.B2 k fa (λz=>bc.Q1 k self e2 (rows,xs,()) xs (xs.length:Int) (i:Int) (xs[i]).2.2.2.1 (List.length (xs[i]).2.2.2.1:Int) z) (rows,xs,()) xs (xs.length:Int) (i:Int) (xs[i]).2.2.2.1 (List.length (xs[i]).2.2.2.1:Int) v) (xs[i]).2.2.2.1 (λ(m:List (Key×Bool)) (j:Int)=>(m,j)) (λ_ m y=>.inr (jp m y)) (λm=>self (m,xs,(xs.length:Int),al ((i:Int)+1))) (λ_ _=>True) (by rw[ak];omega)
   (λj hj s fa _=>by
    show bc.b2 _ _ _ _ _ _ _ _ _=_
    unfold bc.b2
    have aE:(j:Int) < (List.length (xs[i]).2.2.2.1:Int):=by omega
    simp only[aE,decide_true,cond_true,Int.natCast_nonneg,if_true,Int.toNat_natCast,List.getElem?_eq_getElem hj,Option.bind_some]
    rfl)
   (λ_ _ _ _ _ _=>trivial) (λs fa _=>by
    show bc.b2 _ _ _ _ _ _ _ _ _=_
    unfold bc.b2
    simp only[Int.lt_irrefl,decide_false,cond_false]
    rfl) m trivial k (by omega)
  rw[gR (g:=jp)] at this
  exact this
 have second:∀ m,bc.r1 k (rows,xs,()) (m,xs,(xs.length:Int),(0:Int))=some ((flatK xs).foldl jp m,()):=λm=>by
  have:=bI (B:=λself v=>bc.B1 k self (λz=>bc.Q2 k (rows,xs,()) z) (rows,xs,()) v) xs (λ(m:List (Key×Bool)) (i:Int)=>(m,xs,(xs.length:Int),i)) (λ_ m x=>.inr (x.2.2.2.1.foldl jp m)) (λm=>(m,())) (λ_ _=>True) (by rw[ak];omega)
   (λi hi m self _=>by
    show bc.b1 _ _ _ _ _=_
    grind [bc.b1])
   (λ_ _ _ _ _ _=>trivial) (λs self _=>by
    show bc.b1 _ _ _ _ _=_
    unfold bc.b1
    simp only[Int.lt_irrefl,decide_false,cond_false]
    rfl) m trivial k (by omega)
  rw[gR (g:=λm (x:Tx)=>x.2.2.2.1.foldl jp m)] at this
  refine Eq.trans this ?_
  have:∀ (xs:List Tx) (m:List (Key×Bool)),xs.foldl (λm (x:Tx)=>x.2.2.2.1.foldl jp m) m=(flatK xs).foldl jp m:=by
   intro xs
   induction xs <;> grind [flatK]
  rw[this]
 have:=dI (B:=λself v=>bc.B0 k self (λz=>bc.Q0 k (rows,xs,()) z) (rows,xs,()) v) rows (λ(m:List (Key×Bool)) (i:Int)=>(m,i)) (λ_ m r=>.inr (jp m (r.1,r.2.1,()))) (λm=>some ((flatK xs).foldl jp m,())) (λ_ _=>True) (by rw[ak];omega)
  (λi hi m self _=>by
   show bc.b0 _ _ _ _=_
   unfold bc.b0
   have aE:(i:Int) < (rows.length:Int):=by omega
   simp only[aE,decide_true,cond_true,Int.natCast_nonneg,if_true,Int.toNat_natCast,List.getElem?_eq_getElem hi,Option.bind_some]
   rfl)
  (λ_ _ _ _ _ _=>trivial) (λs self _=>by
   show bc.b0 _ _ _ _=_
   unfold bc.b0
   simp only[Int.lt_irrefl,decide_false,cond_false]
   exact second s) (cU []) trivial k (by omega)
 rw[gR (g:=λm (r:Row)=>jp m (r.1,r.2.1,()))] at this
 refine Eq.trans this ?_
 have e1:rows.foldl (λm (r:Row)=>jp m (r.1,r.2.1,())) (cU [])=(iI rows).foldl jp (cU []):=by unfold iI;rw[List.foldl_map]
 grind [DR,eh]
theorem vF {O:Type} (x:Key) (E:Bool->Option O):∀ (ys:List Key) (j:Nat) (b:Bool),aX (λ_ b y=>if b then .inr (!decide (y=x)) else .inl (E false)) E j ys b=if b then E (!cq ys x) else E false
 | [],_,b=>by cases b <;> rfl
 | y::ys,j,b=>by
  cases b with
  | false=>simp[aX]
  | true=>
   simp only[aX,if_true]
   rw[vF x E ys]
   grind [cq]
theorem B4 {O:Type} (all:List Key) (E:Int->O):∀ (ys pre:List Key) (n:Int),all=pre++ys->aX (λi n x=>.inr (if cq (all.take i) x then n else n+1)) E pre.length ys n=E (n+(uo pre ys:Int))
 | [],pre,n,_=>by simp[aX,uo]
 | y::ys,pre,n,h=>by
  simp only[aX]
  have ht:all.take pre.length=pre:=by rw[h];simp
  rw[ht]
  have:=B4 all E ys (pre++[y]) (if cq pre y then n else n+1) (by rw[h];simp)
  grind [uo]
def qJ (k:Key):List Key:=if k.2.1=0 then [] else [k]
def lO (rows:List Row) (xs:List Tx) (k:Key):Nat:=(dd [] (eh rows xs++qJ k)).length
theorem uq (rows:List Row) (xs:List Tx) (kk:Key) (hr:rows.length<=1048576) (hx:xs.length<=1000) (h:∀ x ∈ xs,List.length x.2.2.2.1<=1000):aD.ab (rows,xs,kk,())=some ((lO rows xs kk:Int),()):=by
 refine ag (k:=3000000) λk hk=>(aD.ae k _).trans ?_
 have pV:(flatK xs).length<=1000*xs.length:=by
  clear hx
  induction xs <;> grind [flatK]
 have E9:∀ all:List Key,all.length<=2100000->aD.r2 k (rows,xs,kk,()) (all,(0:Int),(0:Int))=some ((uo [] all:Int),()):=λall iR=>by
  have inner:∀ (self:((List Key)×Int×Int)->Option aD.Out) (e4:Int->Option aD.Out) (i:Nat) (hi:i < all.length) (n:Int),aD.r3 k self e4 (rows,xs,kk,()) all n (i:Int) (true,(0:Int))=if cq (all.take i) all[i] then self (all,n,al ((i:Int)+1)) else self (all,al (n+1),al ((i:Int)+1)):=λself e4 i hi n=>by
   have dZ:(all.take i).length=i:=by simp;omega
   have:=dI (B:=λfa v=>aD.B3 k fa (λz=>aD.Q2 k self e4 (rows,xs,kk,()) all n (i:Int) z) (rows,xs,kk,()) all n (i:Int) v) (all.take i) (λ(b:Bool) (j:Int)=>(b,j)) (λ_ b y=>if b then .inr (!decide (y=all[i])) else .inl (if false then self (all,al (n+1),al ((i:Int)+1)) else self (all,n,al ((i:Int)+1)))) (λb=>if b then self (all,al (n+1),al ((i:Int)+1)) else self (all,n,al ((i:Int)+1))) (λ_ _=>True) (by rw[ak];omega)
    (λj hj b fa _=>by
     show aD.b3 _ _ _ _ _ _ _=_
     unfold aD.b3
     rw[dZ] at hj
     have aE:(j:Int) < (i:Int):=by omega
     have J6:j < all.length:=by omega
     have c1:(0:Int)<=(j:Int)/\(j:Int) < (all.length:Int):=by omega
     have c2:(0:Int)<=(i:Int)/\(i:Int) < (all.length:Int):=by omega
     simp only[aE,c1,c2,and_self,decide_true,cond_true,if_true,Int.toNat_natCast,List.getElem?_eq_getElem J6,List.getElem?_eq_getElem hi,Option.bind_some,nU,List.getElem_take]
     cases b <;> rfl)
    (λ_ _ _ _ _ _=>trivial) (λb fa _=>by
     show aD.b3 _ _ _ _ _ _ _=_
     unfold aD.b3
     simp only[dZ,Int.lt_irrefl,decide_false,cond_false]
     cases b <;> rfl) true trivial k (by omega)
   have e:=vF all[i] (λb=>if b then self (all,al (n+1),al ((i:Int)+1)) else self (all,n,al ((i:Int)+1))) (all.take i) 0 true
   refine (Eq.trans this e).trans ?_
   grind
  have:=bI (B:=λself v=>aD.B2 k self (λz=>aD.Q3 k (rows,xs,kk,()) z) (rows,xs,kk,()) v) all (λ(n:Int) (i:Int)=>(all,n,i)) (λi n x=>.inr (if cq (all.take i) x then n else n+1)) (λn=>(n,())) (λi n=>0<=n/\n<=(i:Int)) (by rw[ak];omega)
   (λi hi n self hI=>by
    show aD.b2 _ _ _ _ _=_
    grind [aD.b2,ct])
   (λi hi n n' hI hs=>by
    grind) (λs self _=>by
    show aD.b2 _ _ _ _ _=_
    unfold aD.b2
    simp only[Int.lt_irrefl,decide_false,cond_false]
    rfl) 0 (by omega) k (by omega)
  have e:=B4 all (λn=>(n,())) all [] 0 rfl
  refine (Eq.trans this (congrArg some e)).trans ?_
  rw[Int.zero_add]
 have second:aD.r1 k (rows,xs,kk,()) (iI rows,(0:Int))=some ((uo [] (eh rows xs++qJ kk):Int),()):=by
  have kh:(iI rows).length=rows.length:=by simp[iI]
  have:=dI (B:=λself v=>aD.B1 k self (λz=>aD.Q1 k (rows,xs,kk,()) z) (rows,xs,kk,()) v) xs (λ(s:List Key) (i:Int)=>(s,i)) (λ_ s x=>.inr (s++x.2.2.2.1)) (λs=>aD.r2 k (rows,xs,kk,()) (s++qJ kk,(0:Int),(0:Int))) (λi s=>s.length<=1048576+1000*i) (by rw[ak];omega)
   (λi hi s self hI=>by
    grind [aD.b1,cm,Int.natCast_nonneg])
   (λi hi s s' hI hs=>by
    grind) (λs self hI=>by
    show aD.b1 _ _ _ _=_
    unfold aD.b1
    simp only[Int.lt_irrefl,decide_false,cond_false]
    show aD.q1 _ _ _=_
    grind [aD.q1,qJ,cm]) (iI rows) (by omega) k (by omega)
  rw[gR (g:=λs (x:Tx)=>s++x.2.2.2.1)] at this
  refine Eq.trans this ?_
  have e:∀ (xs:List Tx) (s:List Key),xs.foldl (λs (x:Tx)=>s++x.2.2.2.1) s=s++flatK xs:=by
   intro xs
   induction xs <;> grind [flatK]
  rw[e]
  have hex:(qJ kk).length<=1:=by grind [qJ]
  exact E9 _ (by grind)
 have:=dI (B:=λself v=>aD.B0 k self (λz=>aD.Q0 k (rows,xs,kk,()) z) (rows,xs,kk,()) v) rows (λ(s:List Key) (i:Int)=>(s,i)) (λ_ s r=>.inr (s++[(r.1,r.2.1,())])) (λs=>aD.r1 k (rows,xs,kk,()) (s,(0:Int))) (λi s=>s.length=i) (by rw[ak];omega)
  (λi hi s self hI=>by
   grind [aD.b0,cm,Int.natCast_nonneg])
  (λi hi s s' hI hs=>by grind) (λs self _=>by
   show aD.b0 _ _ _ _=_
   unfold aD.b0
   simp only[Int.lt_irrefl,decide_false,cond_false]
   rfl) [] rfl k (by omega)
 rw[gR (g:=λs (r:Row)=>s++[(r.1,r.2.1,())])] at this
 have e:∀ (rows:List Row) (s:List Key),rows.foldl (λs (r:Row)=>s++[(r.1,r.2.1,())]) s=s++iI rows:=by
  intro rows
  induction rows <;> grind [iI]
 rw[e,List.nil_append,second] at this
 refine Eq.trans this ?_
 have:=yR (eh rows xs++qJ kk) [] [] (λ_=>Iff.rfl)
 grind [lO]
theorem C3 (rows:List Row) (xs:List Tx) (hr:rows.length<=1048576) (hx:xs.length<=1000) (h:∀ x ∈ xs,List.length x.2.2.2.1<=1000):aD.ab (rows,xs,((0:Int),(0:Int),()),())=some ((fQ rows xs:Int),()):=by
 rw[uq rows xs _ hr hx h]
 unfold lO qJ
 simp only[if_true,List.append_nil]
 rfl
theorem Hu {ks:List Key} (h:kt ks=0):∀ k ∈ ks,lN k=true:=by
 have main:∀ (ys:List Key) (j:Nat),(aX (λi (_:Unit) k=>if gD ks i k=0 then .inr () else .inl (gD ks i k)) (λ_=>(0:Int)) j ys ())=0->∀ y ∈ ys,lN y=true:=by
  intro ys
  induction ys <;> grind [aX,gD]
 exact main ks 0 h
structure kD (xs:List Tx):Prop where
 len:xs.length<=4
 ch:∀ x ∈ xs,∀ c ∈ (x.2.1:List Change),ec c=0
 qK:∀ x ∈ xs,List.length x.2.2.2.1<=12
 ng:∀ x ∈ xs,List.length x.2.1<=12
 keys:∀ x ∈ xs,∀ k ∈ (x.2.2.2.1:List Key),lN k=true
theorem nW {α:Type} {c:α->Int}:∀ {xs:List α},jG c xs=0->∀ x ∈ xs,c x=0
 | [],_,_,h=>by cases h
 | y::ys,h,x,hx=>by
  simp only[jG] at h
  split at h
  ·rcases List.mem_cons.1 hx with e | e
   ·subst e;assumption
   ·exact nW h x e
  grind
theorem DS:∀ (xs:List Tx) (n:Int),0<=n->n<=xs.foldl (λn x=>n+(List.length x.2.1:Int)) n/\∀ x ∈ xs,(List.length x.2.1:Int)<=xs.foldl (λn x=>n+(List.length x.2.1:Int)) n
 | [],n,h=>⟨Int.le_refl _,λx hx=>by cases hx⟩
 | y::ys,n,h=>by
  obtain ⟨h1,h2⟩:=DS ys (n+(List.length y.2.1:Int)) (by omega)
  grind
theorem eo {xs:List Tx} (h:du xs=0):kD xs:=by
 unfold du at h
 split at h
 ·cases h
 ·rename_i hl
  split at h
  ·rename_i he
   split at h
   ·split at h
    ·cases h
    ·rename_i hc
     have each:∀ x ∈ xs,jv x=0:=λx hx=>by
      obtain ⟨i,hi,rfl⟩:=List.mem_iff_getElem.1 hx
      exact (qi (l9 xs he i hi)).2.1
     refine ⟨by omega,λx hx c Pb=>?_,λx hx=>?_,λx hx=>?_,λx hx=>?_⟩
     ·have h1:=each x hx
      unfold jv at h1
      split at h1
      ·rename_i hu
       have h2:=nW hu c Pb
       grind [kC,qG]
      grind
     ·grind [jv,jf]
     ·have:=(DS xs 0 (Int.le_refl _)).2 x hx
      grind [fd]
     grind [jv,jf,Hu]
   ·cases h
  grind
end OT
set_option linter.unusedVariables false
set_option linter.unusedSimpArgs false
namespace OT
open Go
def ip (c:Change):Change:=(c.2.2.1,c.2.2.2.1,c.1,c.2.1,())
def br (cs:List Change):List Change:=cs.reverse.map ip
theorem nE (cs:List Change):(br cs).length=cs.length:=by simp[br]
theorem nF {cs:List Change} {c:Change} (h:c ∈ br cs):∃ d ∈ cs,c=ip d:=by
 grind [br]
theorem Lm {c:Change} (h:ec c=0):ec (ip c)=0:=by
 grind [ec,ip,sameKey]
theorem ur (cs:List Change) (hl:cs.length<=1048576) {O:Type} {B:((List Change×Int)->Option O)->(List Change×Int)->Option O} {E:List Change->Option O}
  (cw:∀ (m:Nat) (hm:m < cs.length) acc self,acc.length<=1048576->B self (acc,(m:Int))=self (acc++[ip cs[m]],al ((m:Int) - 1))) (iS:∀ acc self,B self (acc,(-1:Int))=E acc) :
  ∀ k,cs.length < k->au B k ([],al ((cs.length:Int) - 1))=E (br cs):=by
 have main:∀ (m:Nat) (acc:List Change),m<=cs.length->acc.length+m<=cs.length->∀ k,m < k->au B k (acc,(m:Int) - 1)=E (acc++(cs.take m).reverse.map ip):=by
  intro m
  induction m with
  | zero=>
   intro acc _ _ k hk
   cases k <;> grind [au]
  | succ m ih=>
   intro acc hm ha k hk
   cases k with
   | zero=>omega
   | succ k=>
    show B (au B k) _=_
    have e:((m+1:Nat):Int) - 1=(m:Int):=by omega
    rw[e,cw m (by omega) acc _ (by omega),ct (by omega),ih _ (by omega) (by simp;omega) k (by omega),List.take_succ_eq_append_getElem (by omega),List.reverse_append,List.map_append,List.append_assoc]
    rfl
 grind [ct,br]
theorem Fc (cs:List Change) (hl:cs.length<=1048576):dF.ab (cs,())=some (br cs,()):=by
 refine ag (k:=cs.length+1) λk hk=>(dF.ae k _).trans ?_
 refine ur cs hl (B:=λself v=>dF.B0 0 self (λz=>dF.Q0 0 (cs,()) z) (cs,()) v) (E:=λz=>some (z,())) (λm hm acc self ha=>?_) (λacc self=>?_) k (by omega)
 ·grind [dF.b0,ip,cm]
 ·show dF.b0 _ _ _ _=_
  unfold dF.b0
  rfl
theorem sQ (cs:List Change) (hl:cs.length<=1048576):dk.ab (cs,())=some (br cs,()):=by
 refine ag (k:=cs.length+1) λk hk=>(dk.ae k _).trans ?_
 refine ur cs hl (B:=λself v=>dk.B0 0 self (λz=>dk.Q0 0 (cs,()) z) (cs,()) v) (E:=λz=>some (z,())) (λm hm acc self ha=>?_) (λacc self=>?_) k (by omega)
 ·grind [dk.b0,ip,cm]
 ·show dk.b0 _ _ _ _=_
  unfold dk.b0
  rfl
def bd:List Row->List Change->Option (List Row)
 | s,[]=>some s
 | s,c::cs=>if im s c then bd (dQ s c) cs else none
theorem back_append:∀ (a b:List Change) (s:List Row),bd s (a++b)=(bd s a).bind λt=>bd t b
 | [],b,s=>rfl
 | c::a,b,s=>by
  simp only[List.cons_append,bd]
  split
  ·exact back_append a b _
  ·rfl
theorem zN {O:Type} (bad:O) (fin:List Row->O):∀ (cs:List Change) (i:Nat) (s:List Row),aX (λ_ s c=>if im s c then .inr (dQ s c) else .inl bad) fin i cs s=match bd s cs with | some t=>fin t | none=>bad
 | [],_,_=>rfl
 | c::cs,i,s=>by
  simp only[aX,bd]
  by_cases h:im s c=true
  ·simp only[h,if_true];exact zN bad fin cs _ _
  ·simp[h]
theorem fL:∀ (cs:List Change) (s t:List Row),Good s->(∀ c ∈ cs,ec c=0)->bd s cs=some t->Good t/\t.length<=s.length+cs.length
 | [],s,t,h,_,hb=>by injection hb with hb;grind
 | c::cs,s,t,h,hc,hb=>by
  simp only[bd] at hb
  split at hb
  ·have h1:=fL cs (dQ s c) t (gk h (hc c (by simp))) (λd hd=>hc d (by simp[hd])) hb
   grind [qe]
  ·cases hb
theorem B5 {O α:Type} {f:Nat->Unit->α->Sum O Unit} {fin:Unit->O}:∀ (xs:List α) (j:Nat),(∀ i (hi:i < xs.length),f (j+i) () xs[i]=.inr ())->aX f fin j xs ()=fin ()
 | [],_,_=>rfl
 | x::xs,j,h=>by
  have h0:=h 0 (by simp)
  simp only[Nat.add_zero,List.getElem_cons_zero] at h0
  simp only[aX,h0]
  exact B5 xs (j+1) λi hi=>by
   have:=h (i+1) (by simp;omega)
   grind
theorem sR {xs:List Row} (h:Good xs) (hl:xs.length<=60):dR xs=0:=by
 unfold dR
 rw[if_neg (by omega),B5 xs 0 λi hi=>?_]
 unfold jn
 rw[if_pos (h.ok _ (List.getElem_mem hi)),Nat.zero_add]
 by_cases h0:0 < i
 ·rw[if_pos h0,List.getElem?_eq_getElem (show i - 1 < xs.length by omega)]
  have hu:=h.up
  grind [up,List.pairwise_iff_getElem]
 ·rw[if_neg h0]
theorem xP {s:List Row} {cs:List Change} (h:Good s) (hc:∀ c ∈ cs,ec c=0) (hl:s.length+cs.length<=60):xL s cs=match bd s cs with | some t=>((0:Int),t,()) | none=>((8:Int),([]:List Row),()):=by
 unfold xL
 rw[if_pos (sR h (by omega))]
 have main:∀ (cs:List Change) (s:List Row) (i:Nat),Good s->(∀ c ∈ cs,ec c=0)->s.length+cs.length<=60->(aX kW qf i cs s).1=match bd s cs with | some t=>((0:Int),t,()) | none=>((8:Int),([]:List Row),()):=by
  intro cs
  induction cs <;> grind [aX,qf,bd,kW,qe,gk]
 grind
def dh (xs:List Tx):List Change:=xs.flatMap λx=>br x.2.1
theorem sS {O:Type} (bad:O) (fin:List Row->O):∀ (xs:List Tx) (i:Nat) (s:List Row),aX (λ_ s x=>match bd s (br x.2.1) with | some t=>.inr t | none=>.inl bad) fin i xs s=match bd s (dh xs) with | some t=>fin t | none=>bad
 | [],_,_=>rfl
 | x::xs,i,s=>by
  have hb:dh (x::xs)=br x.2.1++dh xs:=by simp[dh]
  rw[hb,back_append]
  simp only[aX]
  cases bd s (br x.2.1) with
  | none=>rfl
  | some t=>simp only[Option.bind_some];exact sS bad fin xs _ _
theorem fM {cs:List Change} (h:∀ c ∈ cs,ec c=0):∀ c ∈ br cs,ec c=0:=λc hc=>by
 grind [nF,Lm]
theorem B6 {cs:List Change} (h:∀ c ∈ cs,cl c):∀ c ∈ br cs,cl c:=λc hc=>by
 obtain ⟨d,h1,rfl⟩:=nF hc
 exact ⟨(h d h1).2,(h d h1).1⟩
theorem DT {s:List Row} (h:Good s):∀ x ∈ s,rl x:=λx hx=>by
 have:=jK (h.ok x hx)
 grind [rl,ak]
theorem qj (s:List Row) (cs:List Change) (h:Good s) (hc:∀ c ∈ cs,ec c=0) (hl:s.length+cs.length<=1000):cK.ab (s,cs,())=some (match bd s (br cs) with | some t=>(t,true,()) | none=>(([]:List Row),false,())):=by
 refine ag (k:=1001) λk hk=>(cK.ae k _).trans ?_
 unfold cK.p
 rw[Fc cs (by omega)]
 simp only[Option.bind_some]
 have hlen:=nE cs
 have gS:=fM hc
 have:=bI (B:=λself v=>cK.B0 0 self (λz=>cK.Q0 0 (s,cs,()) (br cs) z) (s,cs,()) (br cs) v) (br cs) (λ(s:List Row) (i:Int)=>(s,i)) (λ_ s c=>if im s c then .inr (dQ s c) else .inl (([]:List Row),false,())) (λs=>(s,true,())) (λi t=>Good t/\t.length<=s.length+i) (by rw[ak];omega)
  (λi hi t self hI=>by
   show cK.b0 _ _ _ _ _=_
   unfold cK.b0
   have aE:(i:Int) < ((br cs).length:Int):=by omega
   have cw:(0:Int)<=(i:Int)/\(i:Int) < ((br cs).length:Int):=by omega
   simp only[aE,cw,and_self,decide_true,cond_true,if_true,Int.toNat_natCast,List.getElem?_eq_getElem hi,Option.bind_some]
   rw[uh t _ hI.1.up (by omega) (lm (gS _ (List.getElem_mem hi))).1]
   grind)
  (λi hi t t' hI hs=>by
   grind [qe,gk]) (λt self _=>by
   show cK.b0 _ _ _ _ _=_
   unfold cK.b0
   simp only[Int.lt_irrefl,decide_false,cond_false]
   rfl) s ⟨h,by omega⟩ k (by omega)
 rw[zN] at this
 refine Eq.trans this ?_
 grind
theorem C4 (rows:List Row) (xs:List Tx) (h:Good rows) (hl:rows.length<=12) (hx:kD xs):d9.ab (rows,xs,())=some (match bd rows (dh xs) with | some t=>(t,true,()) | none=>(([]:List Row),false,())):=by
 refine ag (k:=10) λk hk=>(d9.ae k _).trans ?_
 unfold d9.p
 have hc:([]:List Row).length+rows.length<=bV:=cm (by grind)
 rw[if_pos hc,List.nil_append]
 have Nr:=hx.len
 have:=bI (B:=λself v=>d9.B0 0 self (λz=>d9.Q0 0 (rows,xs,()) z) (rows,xs,()) v) xs (λ(s:List Row) (i:Int)=>(s,i)) (λ_ s x=>match bd s (br x.2.1) with | some t=>.inr t | none=>.inl (([]:List Row),false,())) (λs=>(s,true,())) (λi t=>Good t/\t.length<=12+12*i) (by rw[ak];omega)
  (λi hi t self hI=>by
   show d9.b0 _ _ _ _=_
   unfold d9.b0
   have aE:(i:Int) < (xs.length:Int):=by omega
   have hu:=hx.ng _ (List.getElem_mem hi)
   simp only[aE,decide_true,cond_true,Int.natCast_nonneg,if_true,Int.toNat_natCast,List.getElem?_eq_getElem hi,Option.bind_some]
   rw[qj t _ hI.1 (hx.ch _ (List.getElem_mem hi)) (by omega)]
   grind)
  (λi hi t t' hI hs=>by
   have hu:=hx.ng _ (List.getElem_mem hi)
   cases hb:bd t (br (xs[i]).2.1) with
   | none=>grind
   | some q=>
    rw[hb] at hs
    injection hs with hs
    subst hs
    have:=fL _ _ _ hI.1 (fM (hx.ch _ (List.getElem_mem hi))) hb
    grind [nE]) (λt self _=>by
   show d9.b0 _ _ _ _=_
   unfold d9.b0
   simp only[Int.lt_irrefl,decide_false,cond_false]
   rfl) rows ⟨h,by omega⟩ k (by omega)
 rw[sS] at this
 refine Eq.trans this ?_
 grind
theorem ut (rows:List Row) (xs:List Tx) (h:Good rows) (hl:rows.length<=12) (hx:kD xs) (ht:gy xs):cg.ab (rows,xs,())=some (match bd rows (dh xs) with | some t=>(t,(0:Int),()) | none=>(([]:List Row),(8:Int),())):=by
 refine ag (k:=10) λk hk=>(cg.ae k _).trans ?_
 unfold cg.p
 have Nr:=hx.len
 have:=bI (B:=λself v=>cg.B0 0 self (λz=>cg.Q0 0 (rows,xs,()) z) (rows,xs,()) v) xs (λ(s:List Row) (i:Int)=>(s,i)) (λ_ s x=>match bd s (br x.2.1) with | some t=>.inr t | none=>.inl (([]:List Row),(8:Int),())) (λs=>(s,(0:Int),())) (λi t=>Good t/\t.length<=12+12*i) (by rw[ak];omega)
  (λi hi t self hI=>by
   show cg.b0 _ _ _ _=_
   unfold cg.b0
   have aE:(i:Int) < (xs.length:Int):=by omega
   have hu:=hx.ng _ (List.getElem_mem hi)
   have gS:=fM (hx.ch _ (List.getElem_mem hi))
   have Pt:=ht.2 _ (List.getElem_mem hi)
   simp only[aE,decide_true,cond_true,Int.natCast_nonneg,if_true,Int.toNat_natCast,List.getElem?_eq_getElem hi,Option.bind_some]
   rw[sQ _ Pt.1]
   simp only[Option.bind_some]
   have Bl:=nE (xs[i]).2.1
   rw[ui t _ (by rw[ak];omega) (DT hI.1) (by omega) (B6 Pt.2.2.2),xP hI.1 gS (by omega)]
   grind)
  (λi hi t t' hI hs=>by
   have hu:=hx.ng _ (List.getElem_mem hi)
   cases hb:bd t (br (xs[i]).2.1) with
   | none=>grind
   | some q=>
    rw[hb] at hs
    injection hs with hs
    subst hs
    have:=fL _ _ _ hI.1 (fM (hx.ch _ (List.getElem_mem hi))) hb
    grind [nE]) (λt self hI=>by
   grind [cg.b0,cg.q0,rm]) rows ⟨h,by omega⟩ k (by omega)
 rw[sS] at this
 refine Eq.trans this ?_
 grind
def j0 (n:Int) (xs:List Tx):Bool:=match xs[xs.length - 1]? with
 | some x=>decide (n<=x.1)
 | none=>false
def bt (p:Plain):Int:=
 if dR p.1=0 then
  if du p.2.1=0 then
   if bK p.2.2.1 1 100&&!j0 p.2.2.1 p.2.1 then
    if 12 < fQ p.1 p.2.1 then 2 else (match bd p.1 (dh p.2.1) with | some _=>0 | none=>8)
   else 3
  else du p.2.1
 else dR p.1
def oB (p:Plain):Prop:=List.length p.1<=1048576/\(∀ x ∈ (p.1:List Row),rl x)/\gy p.2.1
theorem DU {O:Type} (n:Int) (xs:List Tx) (hl:xs.length<=1048576) (bad j:Option O) :
  (bif decide ((0:Int) < (xs.length:Int)) then (if 0<=al ((xs.length:Int) - (1:Int)) then ((xs[(al ((xs.length:Int) - (1:Int))).toNat]?).bind λx5=>bif decide (n<=x5.1) then bad else j) else none) else j)=if j0 n xs then bad else j:=by
 grind [j0,ct,Int.toNat_natCast]
theorem kX (p:Plain) (h:oB p):cy.ab (p,())=some (bt p,()):=by
 obtain ⟨rows,xs,n,⟨⟩⟩:=p
 obtain ⟨h1,h2,h3⟩:=h
 simp only at h1 h2 h3
 refine ag (k:=0) λk _=>(cy.ae k _).trans ?_
 show cy.p _=_
 unfold cy.p bt
 simp only[rj rows (by rw[ak];omega) h2,sP xs h3,kU,zM rows xs h1 h3,Option.bind_some]
 by_cases hr:dR rows=0
 rotate_left
 ·grind
 by_cases ht:du xs=0
 rotate_left
 ·grind
 obtain ⟨hg,_⟩:=gC hr
 have ap:=eo ht
 simp only[hr,ht,decide_true,Bool.not_true,cond_false,if_true]
 have cw:(decide ((1:Int)<=n)&&decide (n<=100))=bK n 1 100:=rfl
 rw[cw]
 cases bK n 1 100 with
 | false=>rfl
 | true=>
  simp only[Bool.not_true,cond_false,Bool.true_and]
  rw[DU n xs h3.1]
  cases j0 n xs with
  | true=>rfl
  | false=>
   simp only[Bool.not_false,Bool.false_eq_true,if_false,if_true]
   have hlen:(cU (dd [] (eh rows xs))).length=fQ rows xs:=by simp[cU,fQ]
   by_cases lK:12 < fQ rows xs
   ·grind
   ·have:¬ (12:Int) < ((cU (dd [] (eh rows xs))).length:Int):=by grind
    have kh:rows.length<=12:=by
     have:=l_ (xs:=xs) hg.up
     grind [fQ]
    grind [ut]
theorem qk (p:Plain) (h:oB p):gi.ab (p,())=some (bt p,()):=by
 obtain ⟨rows,xs,n,⟨⟩⟩:=p
 obtain ⟨h1,h2,h3⟩:=h
 simp only at h1 h2 h3
 refine ag (k:=0) λk _=>(gi.ae k _).trans ?_
 show gi.p _=_
 unfold gi.p bt
 simp only[vB rows (by rw[ak];omega) h2,xO xs h3,je,Option.bind_some]
 by_cases hr:dR rows=0
 rotate_left
 ·grind
 by_cases ht:du xs=0
 rotate_left
 ·grind
 obtain ⟨hg,_⟩:=gC hr
 have ap:=eo ht
 have Ns:=C3 rows xs h1 (by have:=ap.len;omega) (λx hx=>by have:=ap.qK x hx;omega)
 simp only[hr,ht,decide_true,Bool.not_true,cond_false,if_true,Ns,Option.bind_some]
 have cw:(decide ((1:Int)<=n)&&decide (n<=100))=bK n 1 100:=rfl
 rw[cw]
 cases bK n 1 100 with
 | false=>rfl
 | true=>
  simp only[Bool.not_true,cond_false,Bool.true_and]
  rw[DU n xs h3.1]
  cases j0 n xs with
  | true=>rfl
  | false=>
   simp only[Bool.not_false,Bool.false_eq_true,if_false,if_true]
   by_cases lK:12 < fQ rows xs
   ·grind
   ·have:¬ (12:Int) < (fQ rows xs:Int):=by omega
    have kh:rows.length<=12:=by
     have:=l_ (xs:=xs) hg.up
     grind [fQ]
    grind [C4]
end OT
