/- The proof's parts, merged: Printed by gen.py, a program of this claim  what each Go function computes.. No conditions but those that each states. -/
import Derived.Test.YtghckfpmmofmnaaGreatUe
set_option maxRecDepth 100000
set_option linter.unusedVariables false
namespace OT
open Go Go.Proofs.Tryz
noncomputable section
variable (k:Nat)
namespace cn
abbrev A:=(List Row)×(List Tx)×Op×Unit
abbrev O:=br×Unit
abbrev P:=Option O
noncomputable def D:FD:={ fn:=f107,tl:=a_,ps:=[(.ro,(.aa a8)),(.ro,(.aa bp)),(.ro,il)],rs:=[(et,(ai et))],gl:=[(175,dp.D.sig),(181,jr.D.sig),(185,bn.D.sig),(187,tw.D.sig)],lv:=[(3,[0,1,5,6,7,24,25,26]),(7,[0,1,5,6,7,24,25,26,36,37,38])],lx:=[(0,[0,1,5,6,7]),(1,[0,1,5,6,7,24,25,26]),(2,[0,1,5,6,7,24,25,26])],od:=[(20,[0,1,2,3,4,5,6,7]),(22,[0,1,2,3,4,5])],ar:=[(20,[3]),(22,[1])],bx:=[(22,[5])] }
def ab (a:A):P:=@lift O λk=>D.W k a
def T0 (a1:A) (U:(List Row)×(List Tx)×Op×br×Key×(List Tx)×Int×Int):St:={ n:=145,sl:=[(0,.val (.aa a8) U.1),(1,.val (.aa bp) U.2.1),(5,.box il (ai il) [] U.2.2.1),(6,.box et (ai et) [] U.2.2.2.1),(7,.box be (ai be) [] U.2.2.2.2.1),(24,.val (.aa bp) U.2.2.2.2.2.1),(25,.val i64 U.2.2.2.2.2.2.1),(26,.val i64 U.2.2.2.2.2.2.2)],vr:=[],ay:=[] }
def S0 (rec:RT O) (a1:A):((List Row)×(List Tx)×Op×br×Key×(List Tx)×Int×Int)->P:=λU=>rec (T0 a1 U)
def dn (K:KT O) (a1:A):((List Row)×(List Tx)×Op×br×Key)->P:=λz=>K (.exit 0) ({ n:=145,sl:=[(0,.val (.aa a8) z.1),(1,.val (.aa bp) z.2.1),(5,.box il (ai il) [] z.2.2.1),(6,.box et (ai et) [] z.2.2.2.1),(7,.box be (ai be) [] z.2.2.2.2)],vr:=[],ay:=[] })
def T1 (a1:A) (ek:List Row) (dr:List Tx) (cw:Op) (cj:br) (ct:Key) (fd:List Tx) (ly:Int) (lz:Int) (yX:List Key) (yY:Int) (ov:Int):St:={ n:=145,sl:=[(0,.val (.aa a8) ek),(1,.val (.aa bp) dr),(5,.box il (ai il) [] cw),(6,.box et (ai et) [] cj),(7,.box be (ai be) [] ct),(24,.val (.aa bp) fd),(25,.val i64 ly),(26,.val i64 lz),(36,.val (.aa be) yX),(37,.val i64 yY),(38,.val i64 ov)],vr:=[],ay:=[] }
def b1 (self:Int->P) (e2:(Unit)->P) (a1:A) (ek:List Row) (dr:List Tx) (cw:Op) (cj:br) (ct:Key) (fd:List Tx) (ly:Int) (lz:Int) (yX:List Key) (yY:Int) (ov:Int):P:=cond (decide (ov < yY)) (if 0<=ov then ((yX[ov.toNat]?).bind λOK=>cond (Ty.eq be OK ct) (some ((7,false,(false,(0,0,0,([]:Byt),()),false,(0,0,0,([]:Byt),()),()),()),()))<|cond (!decide (ct.1=0)) (cond (Ty.eq be OK (0,ct.1,())) (some ((7,false,(false,(0,0,0,([]:Byt),()),false,(0,0,0,([]:Byt),()),()),()),()))<|cond (decide (ct.1=0)) (cond (decide (OK.1=ct.2.1)) (some ((7,false,(false,(0,0,0,([]:Byt),()),false,(0,0,0,([]:Byt),()),()),()),()))<|self (af (ov+1)))<|self (af (ov+1)))<|cond (decide (ct.1=0)) (cond (decide (OK.1=ct.2.1)) (some ((7,false,(false,(0,0,0,([]:Byt),()),false,(0,0,0,([]:Byt),()),()),()),()))<|self (af (ov+1)))<|self (af (ov+1))) else none)<|e2 ()
def q0 (self:((List Row)×(List Tx)×Op×br×Key×(List Tx)×Int×Int)->P) (e0:((List Row)×(List Tx)×Op×br×Key)->P) (a1:A) (ek:List Row) (dr:List Tx) (cw:Op) (cj:br) (ct:Key) (fd:List Tx) (ly:Int) (lz:Int) (yX:List Key) (yY:Int) (adR:(Unit)):P:=self (ek,dr,cw,cj,ct,fd,ly,af (lz+1))
def s1 (rec:RT O) (K:KT O) (a1:A):(List Row)->(List Tx)->Op->br->Key->(List Tx)->Int->Int->(List Key)->Int->(Int)->P:=λek dr cw cj ct fd ly lz yX yY=>λov=>D.L k [1,1,0,1,0,0,1,1,0,0,1,1,1,0,0] [0,1,5,6,7,24,25,26,36,37,38] [] (ak 2 (ak 1 (av (D.N k [1,1,0,1,0,0,1,1,1]) (jY rec (gv [0,1,5,6,7,24,25,26] []) K)))) (T1 a1 ek dr cw cj ct fd ly lz yX yY ov)
def r1 (self:((List Row)×(List Tx)×Op×br×Key×(List Tx)×Int×Int)->P) (e0:((List Row)×(List Tx)×Op×br×Key)->P) (a1:A):(List Row)->(List Tx)->Op->br->Key->(List Tx)->Int->Int->(List Key)->Int->(Int)->P:=λek dr cw cj ct fd ly lz yX yY=>al (λw v=>b1 w (q0 self e0 a1 ek dr cw cj ct fd ly lz yX yY) a1 ek dr cw cj ct fd ly lz yX yY v) k
theorem nz (rec:RT O) (K:KT O) (a1:A):s1 k rec K a1=r1 k (S0 rec a1) (dn K a1) a1:=
 funext λek=>funext λdr=>funext λcw=>funext λcj=>funext λct=>funext λfd=>funext λly=>funext λlz=>funext λyX=>funext λyY=>funext λov=>ap _ _ _ (T1 a1 ek dr cw cj ct fd ly lz yX yY) _ (λrec v=>Bye) k ov
def b0 (self:((List Row)×(List Tx)×Op×br×Key×(List Tx)×Int×Int)->P) (e0:((List Row)×(List Tx)×Op×br×Key)->P) (l1:(List Row)->(List Tx)->Op->br->Key->(List Tx)->Int->Int->(List Key)->Int->(Int)->P) (a1:A) (U:(List Row)×(List Tx)×Op×br×Key×(List Tx)×Int×Int):P:=cond (decide (U.2.2.2.2.2.2.2 < U.2.2.2.2.2.2.1)) (if 0<=U.2.2.2.2.2.2.2 then ((U.2.2.2.2.2.1[U.2.2.2.2.2.2.2.toNat]?).bind λaT=>cond (decide (aT.1=U.2.2.1.2.1)) (self (U.1,U.2.1,U.2.2.1,U.2.2.2.1,U.2.2.2.2.1,U.2.2.2.2.2.1,U.2.2.2.2.2.2.1,af (U.2.2.2.2.2.2.2+1)))<|l1 U.1 U.2.1 U.2.2.1 U.2.2.2.1 U.2.2.2.2.1 U.2.2.2.2.2.1 U.2.2.2.2.2.2.1 U.2.2.2.2.2.2.2 aT.2.2.2.1 (aT.2.2.2.1.length:Int) 0) else none)<|e0 (U.1,U.2.1,U.2.2.1,U.2.2.2.1,U.2.2.2.2.1)
def B0 (self:((List Row)×(List Tx)×Op×br×Key×(List Tx)×Int×Int)->P) (e0:((List Row)×(List Tx)×Op×br×Key)->P) (a1:A) (U:(List Row)×(List Tx)×Op×br×Key×(List Tx)×Int×Int):P:=b0 self e0 (r1 k self e0 a1) a1 U
theorem nA (rec:RT O) (K:KT O) (a1:A) (U:(List Row)×(List Tx)×Op×br×Key×(List Tx)×Int×Int):D.N k [1,1,0,1,0,0] (T0 a1 U) (jY rec (gv [0,1,5,6,7,24,25,26] []) K)=B0 k (S0 rec a1) (dn K a1) a1 U:=
 aQ (b:=b0 (S0 rec a1) (dn K a1) (s1 k rec K a1) a1 U) Bye (by rw[nz];rfl)
def q1 (a1:A) (pw:((List Row)×(List Tx)×Op×br×Key)):P:=(bn.ab (pw.1,pw.2.2.1.2.2.1,((186,0):Nat×Int),())).bind λDm=>let aaY:P:=let aaZ:P:=let aa0:=λ(OL:Change)=>(let aa1:=λ(Dn:Change)=>((tw.ab (pw.1,Dn,())).bind λK_=>cond (!decide (K_.1=0)) (some ((K_.1,false,(false,(0,0,0,([]:Byt),()),false,(0,0,0,([]:Byt),()),()),()),()))<|(dp.ab (pw.1,pw.2.1,())).bind λVu=>cond (decide (12 < ((nP be Vu.1 pw.2.2.2.2 true).length:Int))) (some ((9,false,(false,(0,0,0,([]:Byt),()),false,(0,0,0,([]:Byt),()),()),()),()))<|(jr.ab (pw.2.1,())).bind λVv=>cond (decide (12<=Vv.1)) (some ((9,false,(false,(0,0,0,([]:Byt),()),false,(0,0,0,([]:Byt),()),()),()),()))<|cond Dn.1 (cond Dn.2.2.1 (cond (Ty.eq a8 Dn.2.1 Dn.2.2.2.1) (some ((0,false,(false,(0,0,0,([]:Byt),()),false,(0,0,0,([]:Byt),()),()),()),()))<|some ((0,true,Dn,()),()))<|some ((0,true,Dn,()),()))<|some ((0,true,Dn,()),()):P);cond (!decide (pw.2.2.1.1=4)) (aa1 (OL.1,OL.2.1,true,pw.2.2.1.2.2.1,OL.2.2.2.2))<|aa1 OL:P);cond Dm.2.1 (if 0<=Dm.1 then ((pw.1[Dm.1.toNat]?).bind λadW=>aa0 (true,adW,false,(0,0,0,([]:Byt),()),())) else none)<|aa0 (false,(0,0,0,([]:Byt),()),false,(0,0,0,([]:Byt),()),());cond (!decide (pw.2.2.1.1=2)) (cond (!Dm.2.1) (some ((4,false,(false,(0,0,0,([]:Byt),()),false,(0,0,0,([]:Byt),()),()),()),()))<|aaZ)<|aaZ;cond (decide (pw.2.2.1.1=2)) (cond Dm.2.1 (some ((6,false,(false,(0,0,0,([]:Byt),()),false,(0,0,0,([]:Byt),()),()),()),()))<|aaY)<|aaY
theorem rV (a1:A) (pw:((List Row)×(List Tx)×Op×br×Key)):dn (ak 0 (av (D.N k [1,1,1]) D.K0)) a1 pw=q1 a1 pw:=Bye
def s0 (a1:A):((List Row)×(List Tx)×Op×br×Key×(List Tx)×Int×Int)->P:=λU=>D.L k [1,1,0,1,0,0] [0,1,5,6,7,24,25,26] [] (ak 0 (av (D.N k [1,1,1]) D.K0)) (T0 a1 U)
def r0 (a1:A):((List Row)×(List Tx)×Op×br×Key×(List Tx)×Int×Int)->P:=al (λw v=>B0 k w (q1 a1) a1 v) k
theorem aq (a1:A):s0 k a1=r0 k a1:=by
 funext U;have h0:dn (ak 0 (av (D.N k [1,1,1]) D.K0)) a1=q1 a1:=funext λz=>rV k a1 z;refine (ap _ _ _ (T0 a1) (λself v=>B0 k self (dn (ak 0 (av (D.N k [1,1,1]) D.K0)) a1) a1 v) (λrec v=>nA k rec (ak 0 (av (D.N k [1,1,1]) D.K0)) a1 v) k U).trans ?_;rw[h0];rfl
def p (l0:((List Row)×(List Tx)×Op×br×Key×(List Tx)×Int×Int)->P) (a1:A):P:=l0 (a1.1,a1.2.1,a1.2.2.1,(0,false,(false,(0,0,0,([]:Byt),()),false,(0,0,0,([]:Byt),()),()),()),(a1.2.2.1.2.2.1.1,a1.2.2.1.2.2.1.2.1,()),a1.2.1,(a1.2.1.length:Int),0)
theorem ae (a1:A):@Eq P (D.W k a1) (p (r0 k a1) a1):=
 aQ (b:=p (s0 k a1) a1) Bye (by rw[aq])
theorem ok:Ok prog 107 D.sig:=am func107 au Bye (fc dp.ok (fc jr.ok (fc bn.ok (fc tw.ok (aj _)))))
end cn
namespace jE
abbrev A:=(List Row)×(List Tx)×Op×Unit
abbrev O:=br×Unit
abbrev P:=Option O
noncomputable def D:FD:={ fn:=f47,tl:=a_,ps:=[(.ro,(.aa a8)),(.ro,(.aa bp)),(.ro,il)],rs:=[(et,(ai et))],gl:=[(103,fi.D.sig),(104,cc.D.sig),(105,rp.D.sig),(106,mM.D.sig),(107,cn.D.sig)],lv:=[(2,[0,1,5,6,16,17,18])],lx:=[(0,[0,1,5,6])],od:=[(1,[0,2,4,8,1,3,5,6,7]),(22,[0,1,2,3,4,5,6,7,8])] }
def ab (a:A):P:=@lift O λk=>D.W k a
variable (a1:A)
def T0 (gt:List Int) (Cy:Int) (jo:Int):St:={ n:=79,sl:=[(0,.val (.aa a8) a1.1),(1,.val (.aa bp) a1.2.1),(5,.box il (ai il) [] a1.2.2.1),(6,.box et (ai et) [] ((0:Int),false,(false,((0:Int),(0:Int),(0:Int),([]:Byt),()),false,((0:Int),(0:Int),(0:Int),([]:Byt),()),()),())),(16,.own (.aa i64) (ah (.aa i64)) [] gt),(17,.val i64 Cy),(18,.val i64 jo)],vr:=[],ay:=[] }
def b0 (self:Int->P) (e0:(Unit)->P) (a1:A) (gt:List Int) (Cy:Int) (jo:Int):P:=cond (decide (jo < Cy)) (if 0<=jo/\jo < (gt.length:Int) then ((gt[jo.toNat]?).bind λE5=>cond (!decide (E5=0)) (some ((E5,false,(false,(0,0,0,([]:Byt),()),false,(0,0,0,([]:Byt),()),()),()),()))<|self (af (jo+1))) else none)<|e0 ()
def q0 (gt:List Int) (Cy:Int) (wC:(Unit)):P:=cond (decide (a1.2.2.1.1=1)) (cond (decide (4<=(a1.2.1.length:Int))) (some ((2,false,(false,(0,0,0,([]:Byt),()),false,(0,0,0,([]:Byt),()),()),()),()))<|some ((0,false,(false,(0,0,0,([]:Byt),()),false,(0,0,0,([]:Byt),()),()),()),()))<|cond (decide (a1.2.2.1.1=9)) (some ((0,false,(false,(0,0,0,([]:Byt),()),false,(0,0,0,([]:Byt),()),()),()),()))<|(mM.ab (a1.2.1,a1.2.2.1.2.1,())).bind λvV=>cond (decide (vV.1 < 0)) (some ((4,false,(false,(0,0,0,([]:Byt),()),false,(0,0,0,([]:Byt),()),()),()),()))<|let G7:P:=some ((0,false,(false,(0,0,0,([]:Byt),()),false,(0,0,0,([]:Byt),()),()),()),());cond (decide (a1.2.2.1.1=5)) (if 0<=vV.1 then ((a1.2.1[vV.1.toNat]?).bind λwD=>cond (decide (8<=(wD.2.2.1.length:Int))) (some ((2,false,(false,(0,0,0,([]:Byt),()),false,(0,0,0,([]:Byt),()),()),()),()))<|G7) else none)<|cond (decide (a1.2.2.1.1=6)) (if 0<=vV.1 then ((a1.2.1[vV.1.toNat]?).bind λxS=>cond (decide ((xS.2.2.1.length:Int)<=a1.2.2.1.2.2.2.1)) (some ((3,false,(false,(0,0,0,([]:Byt),()),false,(0,0,0,([]:Byt),()),()),()),()))<|G7) else none)<|cond (decide (a1.2.2.1.1=2)) (cond (decide (a1.2.2.1.1=2)) ((cn.ab (a1.1,a1.2.1,a1.2.2.1,())).bind λQc=>some (Qc.1,()))<|G7)<|cond (decide (a1.2.2.1.1=3)) (cond (decide (a1.2.2.1.1=3)) ((cn.ab (a1.1,a1.2.1,a1.2.2.1,())).bind λCw=>some (Cw.1,()))<|G7)<|cond (decide (a1.2.2.1.1=4)) ((cn.ab (a1.1,a1.2.1,a1.2.2.1,())).bind λVl=>some (Vl.1,()))<|G7
def r0:(List Int)->Int->(Int)->P:=λgt Cy=>al (λw v=>b0 w (q0 a1 gt Cy) a1 gt Cy v) k
theorem aq:@Eq ((List Int)->Int->(Int)->P) (λgt Cy=>λjo=>D.L k [1,0,1,0,0] [0,1,5,6,16,17,18] [] (ak 0 (av (D.N k [1,1]) D.K0)) (T0 a1 gt Cy jo)) (r0 k a1):=
 funext λgt=>funext λCy=>funext λjo=>ap _ _ _ (T0 a1 gt Cy) _ (λrec v=>Bye) k jo
def p (l0:(List Int)->Int->(Int)->P) (a1:A):P:=(fi.ab (a1.1,())).bind λr2=>(cc.ab (a1.2.1,())).bind λr3=>(rp.ab (a1.2.2.1,())).bind λr4=>l0 [r2.1,r3.1,r4.1] ([r2.1,r3.1,r4.1].length:Int) 0
theorem ae:@Eq P (D.W k a1) (p (r0 k a1) a1):=By8 (aq k a1) Bye
theorem ok:Ok prog 47 D.sig:=am func47 au Bye (fc fi.ok (fc cc.ok (fc rp.ok (fc mM.ok (fc cn.ok (aj _))))))
end jE
namespace p6
abbrev A:=az×Unit
abbrev O:=(List Row)×Unit
noncomputable def D:FD:={ fn:=f48,tl:=a_,ps:=[(.ro,dc)],rs:=[((.aa a8),(ah (.aa a8)))],gl:=[(99,en.D.sig),(101,kT.D.sig)] }
def ab (a:A):Option O:=@lift O λk=>D.W k a
def p (a1:A):Option O:=(en.ab (a1.1.2.1,())).bind λr2=>(kT.ab (r2.1,())).bind λr3=>some (r3.1,())
theorem ae (a1:A):@Eq (Option O) (D.W k a1) (p a1):=Bye
theorem ok:Ok prog 48 D.sig:=am func48 au Bye (fc en.ok (fc kT.ok (aj _)))
end p6
namespace lK
abbrev A:=(List Byt)×Unit
abbrev O:=(List Byt)×Unit
abbrev P:=Option O
noncomputable def D:FD:={ fn:=f82,tl:=a_,ps:=[(.ro,(.aa (.aa u8)))],rs:=[((.aa (.aa u8)),(ah (.aa (.aa u8))))],gl:=[(114,b_.D.sig)],lv:=[(3,[3,6,7,8])],lx:=[(0,[3])] }
def ab (a:A):P:=@lift O λk=>D.W k a
variable (a1:A)
def T0 (U:(List Byt)×Int):St:={ n:=19,sl:=[(3,.own (.aa (.aa u8)) (ah (.aa (.aa u8))) [] U.1),(6,.val (.aa (.aa u8)) a1.1),(7,.val i64 (a1.1.length:Int)),(8,.val i64 U.2)],vr:=[],ay:=[] }
def b0 (self:((List Byt)×Int)->P) (e0:(List Byt)->P) (a1:A) (U:(List Byt)×Int):P:=cond (decide (U.2 < (a1.1.length:Int))) (if 0<=U.2 then ((a1.1[U.2.toNat]?).bind λaT=>(b_.ab (aT,())).bind λdq=>if U.1.length+[dq.1].length<=cg then (self (U.1++[dq.1],af (U.2+1))) else none) else none)<|e0 U.1
def q0 (a1:A) (fj:(List Byt)):P:=some (fj,())
def r0:((List Byt)×Int)->P:=al (λw v=>b0 w (q0 a1) a1 v) k
theorem aq:@Eq (((List Byt)×Int)->P) (λU=>D.L k [1,1,0,1,0,0] [3,6,7,8] [] (ak 0 (av (D.N k [1,1,1]) D.K0)) (T0 a1 U)) (r0 k a1):=
 funext λU=>ap _ _ _ (T0 a1) _ (λrec v=>Bye) k U
def p (l0:((List Byt)×Int)->P) (a1:A):P:=l0 (([]:List Byt),0)
theorem ae:@Eq P (D.W k a1) (p (r0 k a1) a1):=By8 (aq k a1) Bye
theorem ok:Ok prog 82 D.sig:=am func82 au Bye (fc b_.ok (aj _))
end lK
namespace sD
abbrev A:=Log×Unit
abbrev O:=Log×Unit
noncomputable def D:FD:={ fn:=f83,tl:=a_,ps:=[(.ro,jc)],rs:=[(jc,(ah jc))],gl:=[(114,b_.D.sig)],od:=[(1,[0,1,3,4,2,5,6,7])] }
def ab (a:A):Option O:=@lift O λk=>D.W k a
def p (a1:A):Option O:=(b_.ab (a1.1.1,())).bind λr2=>(b_.ab (a1.1.2.1,())).bind λr3=>some ((r2.1,r3.1,()),())
theorem ae (a1:A):@Eq (Option O) (D.W k a1) (p a1):=Bye
theorem ok:Ok prog 83 D.sig:=am func83 au Bye (fc b_.ok (aj _))
end sD
namespace l5
abbrev A:=(List Change)×Unit
abbrev O:=(List Change)×Unit
noncomputable def D:FD:={ fn:=f188,tl:=a_,ps:=[(.ro,(.aa aw))],rs:=[((.aa aw),(ah (.aa aw)))] }
def ab (a:A):Option O:=@lift O λk=>D.W k a
def p (a1:A):Option O:=BL a1.1 (some (([]:List Change),())) (if ([]:List Change).length+a1.1.length<=cg then (some (([]:List Change)++a1.1,())) else none)
theorem ae (a1:A):@Eq (Option O) (D.W k a1) (p a1):=Bye
theorem ok:Ok prog 188 D.sig:=am func188 au Bye (aj _)
end l5
namespace mN
abbrev A:=(List Int)×Unit
abbrev O:=(List Int)×Unit
noncomputable def D:FD:={ fn:=f189,tl:=a_,ps:=[(.ro,(.aa i64))],rs:=[((.aa i64),(ah (.aa i64)))] }
def ab (a:A):Option O:=@lift O λk=>D.W k a
def p (a1:A):Option O:=BL a1.1 (some (([]:List Int),())) (if ([]:List Int).length+a1.1.length<=cg then (some (([]:List Int)++a1.1,())) else none)
theorem ae (a1:A):@Eq (Option O) (D.W k a1) (p a1):=Bye
theorem ok:Ok prog 189 D.sig:=am func189 au Bye (aj _)
end mN
namespace nV
abbrev A:=(List Key)×Unit
abbrev O:=(List Key)×Unit
noncomputable def D:FD:={ fn:=f190,tl:=a_,ps:=[(.ro,(.aa be))],rs:=[((.aa be),(ah (.aa be)))] }
def ab (a:A):Option O:=@lift O λk=>D.W k a
def p (a1:A):Option O:=BL a1.1 (some (([]:List Key),())) (if ([]:List Key).length+a1.1.length<=cg then (some (([]:List Key)++a1.1,())) else none)
theorem ae (a1:A):@Eq (Option O) (D.W k a1) (p a1):=Bye
theorem ok:Ok prog 190 D.sig:=am func190 au Bye (aj _)
end nV
namespace ir
abbrev A:=(List Tx)×Unit
abbrev O:=(List Tx)×Unit
abbrev P:=Option O
noncomputable def D:FD:={ fn:=f108,tl:=a_,ps:=[(.ro,(.aa bp))],rs:=[((.aa bp),(ah (.aa bp)))],gl:=[(188,l5.D.sig),(189,mN.D.sig),(190,nV.D.sig)],lv:=[(3,[3,6,7,8])],lx:=[(0,[3])],od:=[(5,[0,1,2,3,4,6,7,9,10,5,8,11,12,13,14,15])] }
def ab (a:A):P:=@lift O λk=>D.W k a
variable (a1:A)
def T0 (U:(List Tx)×Int):St:={ n:=29,sl:=[(3,.own (.aa bp) (ah (.aa bp)) [] U.1),(6,.val (.aa bp) a1.1),(7,.val i64 (a1.1.length:Int)),(8,.val i64 U.2)],vr:=[],ay:=[] }
def b0 (self:((List Tx)×Int)->P) (e0:(List Tx)->P) (a1:A) (U:(List Tx)×Int):P:=cond (decide (U.2 < (a1.1.length:Int))) (if 0<=U.2 then ((a1.1[U.2.toNat]?).bind λaT=>(l5.ab (aT.2.1,())).bind λdq=>(mN.ab (aT.2.2.1,())).bind λlV=>(nV.ab (aT.2.2.2.1,())).bind λkV=>if U.1.length+[(aT.1,dq.1,lV.1,kV.1,())].length<=cg then (let DP:=U.1++[(aT.1,dq.1,lV.1,kV.1,())];self (DP,af (U.2+1))) else none) else none)<|e0 U.1
def q0 (a1:A) (xR:(List Tx)):P:=some (xR,())
def r0:((List Tx)×Int)->P:=al (λw v=>b0 w (q0 a1) a1 v) k
theorem aq:@Eq (((List Tx)×Int)->P) (λU=>D.L k [1,1,0,1,0,0] [3,6,7,8] [] (ak 0 (av (D.N k [1,1,1]) D.K0)) (T0 a1 U)) (r0 k a1):=
 funext λU=>ap _ _ _ (T0 a1) _ (λrec v=>Bye) k U
def p (l0:((List Tx)×Int)->P) (a1:A):P:=l0 (([]:List Tx),0)
theorem ae:@Eq P (D.W k a1) (p (r0 k a1) a1):=By8 (aq k a1) Bye
theorem ok:Ok prog 108 D.sig:=am func108 au Bye (fc l5.ok (fc mN.ok (fc nV.ok (aj _))))
end ir
namespace pj
abbrev A:=az×Unit
abbrev O:=az×Unit
noncomputable def D:FD:={ fn:=f50,tl:=a_,ps:=[(.ro,dc)],rs:=[(dc,(ah dc))],gl:=[(82,lK.D.sig),(83,sD.D.sig),(108,ir.D.sig)],od:=[(1,[0,1,2,3,5,6,8,9,11,12,4,7,10,13,14])] }
def ab (a:A):Option O:=@lift O λk=>D.W k a
def p (a1:A):Option O:=(lK.ab (a1.1.2.1,())).bind λr2=>(sD.ab (a1.1.2.2.1,())).bind λr3=>(ir.ab (a1.1.2.2.2.1,())).bind λr4=>some ((a1.1.1,r2.1,r3.1,r4.1,a1.1.2.2.2.2.1,()),())
theorem ae (a1:A):@Eq (Option O) (D.W k a1) (p a1):=Bye
theorem ok:Ok prog 50 D.sig:=am func50 au Bye (fc lK.ok (fc sD.ok (fc ir.ok (aj _))))
end pj
namespace sE
abbrev A:=Log×Unit
abbrev O:=Byt×Unit
noncomputable def D:FD:={ fn:=f144,tl:=a_,ps:=[(.ro,jc)],rs:=[((.aa u8),(ah (.aa u8)))],gl:=[(114,b_.D.sig)],od:=[(1,[0,1,3,4,2,5,6])] }
def ab (a:A):Option O:=@lift O λk=>D.W k a
def p (a1:A):Option O:=(b_.ab (a1.1.1,())).bind λr2=>if r2.1.length+a1.1.2.1.length<=cg then (some (r2.1++a1.1.2.1,())) else none
theorem ae (a1:A):@Eq (Option O) (D.W k a1) (p a1):=Bye
theorem ok:Ok prog 144 D.sig:=am func144 au Bye (fc b_.ok (aj _))
end sE
namespace oK
abbrev A:=Log×Unit
abbrev O:=Log×Unit
noncomputable def D:FD:={ fn:=f84,tl:=a_,ps:=[(.ro,jc)],rs:=[(jc,(ah jc))],gl:=[(144,sE.D.sig)] }
def ab (a:A):Option O:=@lift O λk=>D.W k a
def p (a1:A):Option O:=(sE.ab (a1.1,())).bind λr2=>some ((r2.1,([]:Byt),()),())
theorem ae (a1:A):@Eq (Option O) (D.W k a1) (p a1):=Bye
theorem ok:Ok prog 84 D.sig:=am func84 au Bye (fc sE.ok (aj _))
end oK
namespace kZ
abbrev A:=Log×bq×Unit
abbrev O:=Log×Bool×Unit
noncomputable def D:FD:={ fn:=f191,tl:=a_,ps:=[(.ro,jc),(.ro,jv)],rs:=[(jc,(ai jc)),(.bool,(ai .bool))],gl:=[(49,jV.D.sig),(114,b_.D.sig),(262,gm.D.sig)],od:=[(4,[0,1,2,3,5,4,6,7,8,9])],ar:=[(4,[1,3])],bx:=[(4,[2])] }
def ab (a:A):Option O:=@lift O λk=>D.W k a
def p (a1:A):Option O:=(gm.ab (a1.2.1,())).bind λr2=>(jV.ab (a1.1,())).bind λr3=>cond (decide (16000 < af (r3.1+(r2.1.length:Int)))) (some (a1.1,false,()))<|(b_.ab (a1.1.2.1,())).bind λr4=>if r4.1.length+r2.1.length<=cg then (some ((a1.1.1,r4.1++r2.1,()),true,())) else none
theorem ae (a1:A):@Eq (Option O) (D.W k a1) (p a1):=Bye
theorem ok:Ok prog 191 D.sig:=am func191 au Bye (fc jV.ok (fc b_.ok (fc gm.ok (aj _))))
end kZ
namespace mm
abbrev A:=az×bq×Unit
abbrev O:=Int×az×Unit
noncomputable def D:FD:={ fn:=f109,tl:=a_,ps:=[(.jp (ai dc) (ai dc),dc),(.ro,jv)],rs:=[(i64,(ai i64))],gl:=[(191,kZ.D.sig)],es:=[0],fz:=[(1,3,7),(1,4,7)],od:=[(1,[0,1,2,3,4,5,6,7,8,9,10,11])],ar:=[(1,[])],pd:=[(1,[9])],er:=[(1,[(3,12),(4,12)])] }
def ab (a:A):Option O:=@lift O λk=>D.W k a
def p (a1:A):Option O:=(kZ.ab (a1.1.2.2.1,a1.2.1,())).bind λr2=>cond (!r2.2.1) (some (9,a1.1,()))<|some (0,(a1.1.1,a1.1.2.1,r2.1,a1.1.2.2.2),())
theorem ae (a1:A):@Eq (Option O) (D.W k a1) (p a1):=Bye
theorem ok:Ok prog 109 D.sig:=am func109 au Bye (fc kZ.ok (aj _))
end mm
namespace nW
abbrev A:=az×bq×Unit
abbrev O:=Int×az×Unit
noncomputable def D:FD:={ fn:=f109,tl:=a_,ps:=[(.jp Byy Byy,dc),(.ro,jv)],rs:=[(i64,(ai i64))],gl:=[(191,kZ.D.sig)],es:=[0],fz:=[(1,3,7),(1,4,7)],od:=[(1,[0,1,2,3,4,5,6,7,8,9,10,11])],ar:=[(1,[])],pd:=[(1,[9])],er:=[(1,[(3,12),(4,12)])] }
def ab (a:A):Option O:=@lift O λk=>D.W k a
def p (a1:A):Option O:=(kZ.ab (a1.1.2.2.1,a1.2.1,())).bind λr2=>cond (!r2.2.1) (some (9,a1.1,()))<|some (0,(a1.1.1,a1.1.2.1,r2.1,a1.1.2.2.2),())
theorem ae (a1:A):@Eq (Option O) (D.W k a1) (p a1):=Bye
theorem ok:Ok prog 109 D.sig:=am func109 au Bye (fc kZ.ok (aj _))
end nW
namespace sh
abbrev A:=(List Byt)×Unit
abbrev O:=ax×Unit
noncomputable def D:FD:={ fn:=f264,tl:=a_,ps:=[(.ro,(.aa (.aa u8)))],rs:=[((.ptr cx),(ah (.ptr cx)))],gl:=[(82,lK.D.sig)] }
def ab (a:A):Option O:=@lift O λk=>D.W k a
def p (a1:A):Option O:=(lK.ab (a1.1,())).bind λr2=>some ((r2.1,([]:List ci),()),())
theorem ae (a1:A):@Eq (Option O) (D.W k a1) (p a1):=Bye
theorem ok:Ok prog 264 D.sig:=am func264 au Bye (fc lK.ok (aj _))
end sh
namespace qp
abbrev A:=(List Seen)×Int×Int×Unit
abbrev O:=Seen×Bool×Unit
abbrev P:=Option O
noncomputable def D:FD:={ fn:=f265,tl:=a_,ps:=[(.ro,(.aa ge)),(.ro,i64),(.ro,i64)],rs:=[(ge,(ai ge)),(.bool,(ai .bool))],lv:=[(2,[1,2,6,10,11,12])],lx:=[(0,[6])] }
def ab (a:A):P:=@lift O λk=>D.W k a
variable (a1:A)
def T0 (U:Int):St:={ n:=31,sl:=[(1,.val i64 a1.2.1),(2,.val i64 a1.2.2.1),(6,.box ge (ai ge) [] (((0:Int),(0:Int),(0:Int),([]:Byt),()),(0:Int),(0:Int),false,(0:Int),(0:Int),())),(10,.val (.aa ge) a1.1),(11,.val i64 (a1.1.length:Int)),(12,.val i64 U)],vr:=[],ay:=[] }
def b0 (self:Int->P) (e0:(Unit)->P) (a1:A) (U:Int):P:=cond (decide (U < (a1.1.length:Int))) (if 0<=U then ((a1.1[U.toNat]?).bind λaT=>cond (decide (aT.1.1=a1.2.1)) (cond (decide (aT.1.2.1=a1.2.2.1)) (some (aT,true,()))<|self (af (U+1)))<|self (af (U+1))) else none)<|e0 ()
def q0 (a1:A) (mZ:(Unit)):P:=some (((0,0,0,([]:Byt),()),0,0,false,0,0,()),false,())
def r0:(Int)->P:=al (λw v=>b0 w (q0 a1) a1 v) k
theorem aq:@Eq ((Int)->P) (λU=>D.L k [1,0,1,0,0] [1,2,6,10,11,12] [] (ak 0 (av (D.N k [1,1]) D.K0)) (T0 a1 U)) (r0 k a1):=
 funext λU=>ap _ _ _ (T0 a1) _ (λrec v=>Bye) k U
def p (l0:(Int)->P) (a1:A):P:=l0 0
theorem ae:@Eq P (D.W k a1) (p (r0 k a1) a1):=By8 (aq k a1) Bye
theorem ok:Ok prog 265 D.sig:=am func265 au Bye (aj _)
end qp
namespace lL
abbrev A:=ax×Unit
abbrev O:=d9×Unit
noncomputable def D:FD:={ fn:=f270,tl:=a_,ps:=[(.tc (ah cx),cx)],rs:=[(eg,(ah eg))],fz:=[(1,3,7),(1,7,7)],od:=[(1,[0,1,2,3,4,5,6,7,8,9])] }
def ab (a:A):Option O:=@lift O λk=>D.W k a
def p (a1:A):Option O:=some ((0,a1.1.2.1,a1.1.1,()),())
theorem ae (a1:A):@Eq (Option O) (D.W k a1) (p a1):=Bye
theorem ok:Ok prog 270 D.sig:=am func270 au Bye (aj _)
end lL
namespace nq
abbrev A:=ax×Bool×Unit
abbrev O:=d9×Unit
noncomputable def D:FD:={ fn:=f266,tl:=a_,ps:=[(.tc (ah cx),cx),(.ro,.bool)],rs:=[(eg,(ah eg))],gl:=[(270,lL.D.sig)] }
def ab (a:A):Option O:=@lift O λk=>D.W k a
def p (a1:A):Option O:=cond (!a1.2.1) (some ((9,([]:List ci),([]:List Byt),()),()))<|(lL.ab (a1.1,())).bind λr2=>some (r2.1,())
theorem ae (a1:A):@Eq (Option O) (D.W k a1) (p a1):=Bye
theorem ok:Ok prog 266 D.sig:=am func266 au Bye (fc lL.ok (aj _))
end nq
namespace mn
abbrev A:=Byt×Byt×Unit
abbrev O:=Int×Unit
noncomputable def D:FD:={ fn:=f353,tl:=a_,ps:=[(.ro,(.aa u8)),(.ro,(.aa u8))],rs:=[(i64,(ai i64))],gl:=[(169,bg.D.sig)] }
def ab (a:A):Option O:=@lift O λk=>D.W k a
def p (a1:A):Option O:=(bg.ab (a1.1,())).bind λr2=>cond (!decide (r2.1=0)) (some (r2.1,()))<|cond (decide ((a1.2.1.length:Int) < 1)) (some (1,()))<|cond (decide (20 < (a1.2.1.length:Int))) (some (1,()))<|some (0,())
theorem ae (a1:A):@Eq (Option O) (D.W k a1) (p a1):=Bye
theorem ok:Ok prog 353 D.sig:=am func353 au Bye (fc bg.ok (aj _))
end mn
namespace k_
abbrev A:=Byt×Unit
abbrev O:=Int×Unit
abbrev P:=Option O
noncomputable def D:FD:={ fn:=f354,tl:=a_,ps:=[(.ro,(.aa u8))],rs:=[(i64,(ai i64))],gl:=[(170,ez.D.sig),(253,lZ.D.sig)],lv:=[(3,[0,3,12,13])],lx:=[(0,[3])] }
def ab (a:A):P:=@lift O λk=>D.W k a
variable (a1:A)
def T0 (ei:Int) (cr:Int×Int):St:={ n:=27,sl:=[(0,.val (.aa u8) a1.1),(3,.val i64 cr.1),(12,.val i64 ei),(13,.val i64 cr.2)],vr:=[],ay:=[] }
def b0 (self:(Int×Int)->P) (e0:Int->P) (a1:A) (ei:Int) (cr:Int×Int):P:=cond (decide (cr.2 < ei)) ((lZ.ab (a1.1,cr.2,())).bind λkV=>self (af (cr.1 - kV.2.1),af (cr.2+1)))<|e0 cr.1
def q0 (a1:A) (ei:Int) (nt:Int):P:=some (nt,())
def r0:Int->(Int×Int)->P:=λei=>al (λw v=>b0 w (q0 a1 ei) a1 ei v) k
theorem aq:@Eq (Int->(Int×Int)->P) (λei=>λcr=>D.L k [1,1,0,1,0,0] [0,3,12,13] [] (ak 0 (av (D.N k [1,1,1]) D.K0)) (T0 a1 ei cr)) (r0 k a1):=
 funext λei=>funext λcr=>ap _ _ _ (T0 a1 ei) _ (λrec v=>Bye) k cr
def p (l0:Int->(Int×Int)->P) (a1:A):P:=(ez.ab (a1.1,())).bind λr2=>(ez.ab (a1.1,())).bind λr3=>l0 r3.1 (af (62 - (af (2*r2.1))),0)
theorem ae:@Eq P (D.W k a1) (p (r0 k a1) a1):=By8 (aq k a1) Bye
theorem ok:Ok prog 354 D.sig:=am func354 au Bye (fc ez.ok (fc lZ.ok (aj _)))
end k_
namespace oz
abbrev A:=Byt×Int×Int×Byt×Unit
abbrev O:=Byt×Unit
noncomputable def D:FD:={ fn:=f355,tl:=a_,ps:=[(.ro,(.aa u8)),(.ro,i64),(.ro,i64),(.ro,(.aa u8))],rs:=[((.aa u8),(ah (.aa u8)))],gl:=[(114,b_.D.sig)] }
def ab (a:A):Option O:=@lift O λk=>D.W k a
def p (a1:A):Option O:=(b_.ab (a1.1,())).bind λr2=>if 0<=a1.2.2.1/\a1.2.2.1<=(r2.1.length:Int) then (let y3:=oM r2.1 a1.2.2.1.toNat (min a1.2.2.2.1.length (r2.1.length - a1.2.2.1.toNat)) a1.2.2.2.1;if 0<=af (2+(af (2*a1.2.1)))/\af (2+(af (2*a1.2.1))) < (y3.length:Int) then ((y3[(af ((2:Int)+(af ((2:Int)*a1.2.1)))).toNat]?).bind λx4=>let y5:=y3.set (af (2+(af (2*a1.2.1)))).toNat (UInt8.ofInt a1.2.2.1);if 0<=af (3+(af (2*a1.2.1)))/\af (3+(af (2*a1.2.1))) < (y5.length:Int) then ((y5[(af ((3:Int)+(af ((2:Int)*a1.2.1)))).toNat]?).bind λx6=>let y7:=y5.set (af (3+(af (2*a1.2.1)))).toNat (UInt8.ofInt (a1.2.2.2.1.length:Int));some (y7,())) else none) else none) else none
theorem ae (a1:A):@Eq (Option O) (D.W k a1) (p a1):=Bye
theorem ok:Ok prog 355 D.sig:=am func355 au Bye (fc b_.ok (aj _))
end oz
namespace h_
abbrev A:=Byt×Byt×Unit
abbrev O:=yP×Unit
abbrev P:=Option O
noncomputable def D:FD:={ fn:=f336,tl:=a_,ps:=[(.ro,(.aa u8)),(.ro,(.aa u8))],rs:=[(lH,(ah lH))],gl:=[(170,ez.D.sig),(353,mn.D.sig),(354,k_.D.sig),(355,oz.D.sig)],lv:=[(6,[0,1,4,6,7])],lx:=[(0,[0,1,4,6,7])] }
def ab (a:A):P:=@lift O λk=>D.W k a
variable (a1:A)
def T0 (ei:Int) (cr:Int):St:={ n:=88,sl:=[(0,.val (.aa u8) a1.1),(1,.val (.aa u8) a1.2.1),(4,.box lH (ah lH) [] ((0:Int),(0:Int),([]:Byt),())),(6,.val i64 ei),(7,.val i64 cr)],vr:=[],ay:=[] }
def b0 (self:Int->P) (e0:Int->P) (a1:A) (ei:Int) (cr:Int):P:=cond (decide (cr < ei)) (if 0<=af (3+(af (2*cr))) then ((a1.1[(af ((3:Int)+(af ((2:Int)*cr)))).toNat]?).bind λuT=>cond (!decide ((uT.toNat:Int)=0)) (self (af (cr+1)))<|e0 cr) else none)<|e0 cr
def q0 (ei:Int) (nt:Int):P:=let G7:=λ(ZJ:Int)=>((k_.ab (a1.1,())).bind λVw=>cond (decide (Vw.1 < af ((a1.2.1.length:Int)+ZJ))) (some ((9,0,([]:Byt),()),()))<|(a1.1[1]?).bind λwE=>cond (decide (af ((af (wE.toNat:Int)) - (af ((af (2+(af (2*ei))))+ZJ))) < (a1.2.1.length:Int))) (some ((8,0,([]:Byt),()),()))<|(oz.ab (a1.1,nt,af ((af (wE.toNat:Int)) - (a1.2.1.length:Int)),a1.2.1,())).bind λyS=>if 0<=(0:Int)/\0 < (yS.1.length:Int) then ((yS.1[0]?).bind λFf=>let Cz:=yS.1.set 0 (UInt8.ofInt (af (ei+(af (ZJ.tdiv 2)))));if 0<=(1:Int)/\1 < (Cz.length:Int) then ((Cz[1]?).bind λaeH=>let ZK:=Cz.set 1 (UInt8.ofInt (af ((af (wE.toNat:Int)) - (a1.2.1.length:Int))));some ((0,nt,ZK,()),())) else none) else none:P);cond (decide (nt=ei)) (cond (decide (ei=16)) (some ((2,0,([]:Byt),()),()))<|G7 2)<|G7 0
def r0:Int->(Int)->P:=λei=>al (λw v=>b0 w (q0 a1 ei) a1 ei v) k
theorem aq:@Eq (Int->(Int)->P) (λei=>λcr=>D.L k [1,1,1,1,0,0,0] [0,1,4,6,7] [] (ak 0 (av (D.N k [1,1,1,1,1]) D.K0)) (T0 a1 ei cr)) (r0 k a1):=
 funext λei=>funext λcr=>ap _ _ _ (T0 a1 ei) _ (λrec v=>Bye) k cr
def p (l0:Int->(Int)->P) (a1:A):P:=(mn.ab (a1.1,a1.2.1,())).bind λr2=>cond (!decide (r2.1=0)) (some ((r2.1,0,([]:Byt),()),()))<|(ez.ab (a1.1,())).bind λr3=>l0 r3.1 0
theorem ae:@Eq P (D.W k a1) (p (r0 k a1) a1):=By8 (aq k a1) Bye
theorem ok:Ok prog 336 D.sig:=am func336 au Bye (fc ez.ok (fc mn.ok (fc k_.ok (fc oz.ok (aj _)))))
end h_
namespace f9
abbrev A:=ax×Int×Byt×Unit
abbrev O:=ax×Unit
noncomputable def D:FD:={ fn:=f338,tl:=a_,ps:=[(.jp (ah cx) (ah cx),cx),(.ro,i64),(.ro,(.aa u8))],rs:=[],gl:=[(114,b_.D.sig)],es:=[0],od:=[(1,[0,1,2,3,4,5,6,7,8,9,10,11]),(2,[0,1,2,3,4,5,6,7,8,9,10]),(3,[0,1,2,3,4,5,6,7,8]),(4,[0,1,2,3,4,5,6,7,8,9,10,11,12,13])] }
def ab (a:A):Option O:=@lift O λk=>D.W k a
def p (a1:A):Option O:=let j9:=λ(p8:ax)=>((b_.ab (a1.2.2.1,())).bind λsX=>if p8.2.1.length+[(a1.2.1,sX.1,())].length<=cg then (some ((p8.1,p8.2.1++[(a1.2.1,sX.1,())],p8.2.2),())) else none:Option O);cond (decide (a1.2.1=(a1.1.1.length:Int))) ((b_.ab (a1.2.2.1,())).bind λr2=>if a1.1.1.length+[r2.1].length<=cg then (j9 (a1.1.1++[r2.1],a1.1.2)) else none)<|if 0<=a1.2.1/\a1.2.1 < (a1.1.1.length:Int) then ((a1.1.1[a1.2.1.toNat]?).bind λx3=>(a1.1.1[a1.2.1.toNat]?).bind λx4=>cond (decide (x4=a1.2.2.1)) (some (a1.1,()))<|(b_.ab (a1.2.2.1,())).bind λr5=>if 0<=a1.2.1/\a1.2.1 < (a1.1.1.length:Int) then ((a1.1.1[a1.2.1.toNat]?).bind λx6=>j9 (a1.1.1.set a1.2.1.toNat r5.1,a1.1.2)) else none) else none
theorem ae (a1:A):@Eq (Option O) (D.W k a1) (p a1):=Bye
theorem ok:Ok prog 338 D.sig:=am func338 au Bye (fc b_.ok (aj _))
end f9
namespace gu
abbrev A:=Byt×Unit
abbrev O:=yP×Unit
abbrev P:=Option O
noncomputable def D:FD:={ fn:=f356,tl:=a_,ps:=[(.ro,(.aa u8))],rs:=[(lH,(ah lH))],gl:=[(169,bg.D.sig),(170,ez.D.sig),(171,g_.D.sig),(173,mD.D.sig)],lv:=[(9,[0,2,5,6,25,26])],lx:=[(0,[2,5,6]),(1,[0,2,5,6,25,26])] }
def ab (a:A):P:=@lift O λk=>D.W k a
variable (a1:A)
def T0 (gt:Int) (jo:Byt×Int×Int):St:={ n:=59,sl:=[(0,.val (.aa u8) a1.1),(2,.box lH (ah lH) [] ((0:Int),(0:Int),([]:Byt),())),(5,.own (.aa u8) (ah (.aa u8)) [] jo.1),(6,.val i64 jo.2.1),(25,.val i64 gt),(26,.val i64 jo.2.2)],vr:=[],ay:=[] }
def b0 (self:(Byt×Int×Int)->P) (e0:(Byt×Int)->P) (a1:A) (gt:Int) (jo:Byt×Int×Int):P:=cond (decide (jo.2.2 < gt)) ((g_.ab (a1.1,jo.2.2,())).bind λlU=>cond (!lU.1) (self (jo.1,jo.2.1,af (jo.2.2+1)))<|(mD.ab (a1.1,jo.2.2,())).bind λri=>if 0<=af (jo.2.1 - (ri.1.length:Int))/\af (jo.2.1 - (ri.1.length:Int))<=(jo.1.length:Int) then (let JL:=oM jo.1 (af (jo.2.1 - (ri.1.length:Int))).toNat (min ri.1.length (jo.1.length - (af (jo.2.1 - (ri.1.length:Int))).toNat)) ri.1;if 0<=af (2+(af (2*jo.2.2)))/\af (2+(af (2*jo.2.2))) < (JL.length:Int) then ((JL[(af ((2:Int)+(af ((2:Int)*jo.2.2)))).toNat]?).bind λQd=>let ZD:=JL.set (af (2+(af (2*jo.2.2)))).toNat (UInt8.ofInt (af (jo.2.1 - (ri.1.length:Int))));self (ZD,af (jo.2.1 - (ri.1.length:Int)),af (jo.2.2+1))) else none) else none)<|e0 (jo.1,jo.2.1)
def q0 (a1:A) (gt:Int) (Vx:(Byt×Int)):P:=if 0<=(1:Int)/\1 < (Vx.1.length:Int) then ((Vx.1[1]?).bind λG6=>some ((0,0,Vx.1.set 1 (UInt8.ofInt Vx.2),()),())) else none
def r0:Int->(Byt×Int×Int)->P:=λgt=>al (λw v=>b0 w (q0 a1 gt) a1 gt v) k
theorem aq:@Eq (Int->(Byt×Int×Int)->P) (λgt=>λjo=>D.L k [1,1,1,1,1,1,0,1,0,0] [0,2,5,6,25,26] [] (ak 0 (av (D.N k [1,1,1,1,1,1,1]) D.K0)) (T0 a1 gt jo)) (r0 k a1):=
 funext λgt=>funext λjo=>ap _ _ _ (T0 a1 gt) _ (λrec v=>Bye) k jo
def p (l0:Int->(Byt×Int×Int)->P) (a1:A):P:=(bg.ab (a1.1,())).bind λr2=>cond (!decide (r2.1=0)) (some ((r2.1,0,([]:Byt),()),()))<|(ez.ab (a1.1,())).bind λr3=>if 0<=(64:Int)/\(64:Int)<=64/\64<=(cg:Int) then (if 0<=af (2+(af (2*r3.1)))/\af (2+(af (2*r3.1)))<=(a1.1.length:Int) then (let y4:=oM (List.replicate 64 (0:UInt8)) 0 (min ((a1.1.take (af (2+(af (2*r3.1)))).toNat).drop 0).length (List.replicate 64 (0:UInt8)).length) ((a1.1.take (af (2+(af (2*r3.1)))).toNat).drop 0);l0 r3.1 (y4,64,0)) else none) else none
theorem ae:@Eq P (D.W k a1) (p (r0 k a1) a1):=By8 (aq k a1) Bye
theorem ok:Ok prog 356 D.sig:=am func356 au Bye (fc bg.ok (fc ez.ok (fc g_.ok (fc mD.ok (aj _)))))
end gu
namespace kf
abbrev A:=ax×Int×Unit
abbrev O:=ax×Unit
noncomputable def D:FD:={ fn:=f337,tl:=a_,ps:=[(.jp (ah cx) (ah cx),cx),(.ro,i64)],rs:=[],gl:=[(338,f9.D.sig),(356,gu.D.sig)],es:=[0] }
def ab (a:A):Option O:=@lift O λk=>D.W k a
def p (a1:A):Option O:=if 0<=a1.2.1/\a1.2.1 < (a1.1.1.length:Int) then ((a1.1.1[a1.2.1.toNat]?).bind λx2=>(a1.1.1[a1.2.1.toNat]?).bind λx3=>(gu.ab (x3,())).bind λr4=>(f9.ab (a1.1,a1.2.1,r4.1.2.2.1,())).bind λr5=>some (r5.1,())) else none
theorem ae (a1:A):@Eq (Option O) (D.W k a1) (p a1):=Bye
theorem ok:Ok prog 337 D.sig:=am func337 au Bye (fc f9.ok (fc gu.ok (aj _)))
end kf
namespace fx
abbrev A:=ax×Byt×Int×Unit
abbrev O:=Int×Int×Bool×ax×Unit
abbrev P:=Option O
noncomputable def D:FD:={ fn:=f306,tl:=a_,ps:=[(.jp (ah cx) (ah cx),cx),(.ro,(.aa u8)),(.ro,i64)],rs:=[(i64,(ai i64)),(i64,(ai i64)),(.bool,(ai .bool))],gl:=[(193,iy.D.sig),(336,h_.D.sig),(337,kf.D.sig),(338,f9.D.sig)],es:=[0],lv:=[(2,[0,1,2,16,17])],lx:=[(0,[0,1]),(1,[0,1,2,16,17])],od:=[(11,[0,1,2,3,4,5]),(16,[0,1,2,3,4,5,6,7,8]),(17,[0,1,2,3,4,5,6,7,8,9,10])] }
def ab (a:A):P:=@lift O λk=>D.W k a
variable (a1:A)
def T0 (U:ax×Int):St:={ n:=85,sl:=[(0,.box cx (ah cx) [] U.1),(1,.val (.aa u8) a1.2.1),(2,.val i64 a1.2.2.1),(16,.val i64 (a1.1.1.length:Int)),(17,.val i64 U.2)],vr:=[],ay:=[(0,0,false)] }
def b0 (self:(ax×Int)->P) (e0:ax->P) (a1:A) (U:ax×Int):P:=cond (decide (U.2 < (a1.1.1.length:Int))) (cond (decide (U.2=a1.2.2.1)) (self (U.1,af (U.2+1)))<|if 0<=U.2/\U.2 < (U.1.1.length:Int) then ((U.1.1[U.2.toNat]?).bind λaT=>(U.1.1[U.2.toNat]?).bind λjJ=>(h_.ab (jJ,a1.2.1,())).bind λlV=>let Qf:=λ(acT:ax) (tO:yP)=>(cond (decide (tO.1=0)) ((f9.ab (acT,U.2,tO.2.2.1,())).bind λCw=>some (U.2,tO.2.1,true,Cw.1,()))<|self (acT,af (U.2+1)):P);cond (decide (lV.1.1=8)) ((kf.ab (U.1,U.2,())).bind λkV=>if 0<=U.2/\U.2 < (kV.1.1.length:Int) then ((kV.1.1[U.2.toNat]?).bind λuW=>(kV.1.1[U.2.toNat]?).bind λE5=>(h_.ab (E5,a1.2.1,())).bind λE_=>Qf kV.1 E_.1) else none)<|Qf U.1 lV.1) else none)<|e0 U.1
def q0 (MC:ax):P:=cond (decide ((MC.1.length:Int)=12)) (some (0,0,false,MC,()))<|(iy.ab ((0:UInt8),())).bind λVm=>(h_.ab (Vm.1,a1.2.1,())).bind λVw=>(f9.ab (MC,(MC.1.length:Int),Vw.1.2.2.1,())).bind λVy=>some (af ((Vy.1.1.length:Int) - 1),Vw.1.2.1,true,Vy.1,())
def r0:(ax×Int)->P:=al (λw v=>b0 w (q0 a1) a1 v) k
theorem aq:@Eq ((ax×Int)->P) (λU=>D.L k [1,0,1,0,0] [0,1,2,16,17] [] (ak 0 (av (D.N k [1,1]) D.K0)) (T0 a1 U)) (r0 k a1):=
 funext λU=>ap _ _ _ (T0 a1) _ (λrec v=>Bye) k U
def p (l0:(ax×Int)->P) (a1:A):P:=l0 (a1.1,0)
theorem ae:@Eq P (D.W k a1) (p (r0 k a1) a1):=By8 (aq k a1) Bye
theorem ok:Ok prog 306 D.sig:=am func306 au Bye (fc iy.ok (fc h_.ok (fc kf.ok (fc f9.ok (aj _)))))
end fx
namespace oL
abbrev A:=Int×Row×Unit
abbrev O:=Byt×Unit
noncomputable def D:FD:={ fn:=f307,tl:=a_,ps:=[(.ro,i64),(.ro,a8)],rs:=[((.aa u8),(ah (.aa u8)))] }
def ab (a:A):Option O:=@lift O λk=>D.W k a
def p (a1:A):Option O:=if [UInt8.ofInt a1.1,UInt8.ofInt a1.2.1.1,UInt8.ofInt a1.2.1.2.1,UInt8.ofInt (a1.2.1.2.2.1.fdiv (2 ^ 8)),UInt8.ofInt a1.2.1.2.2.1,UInt8.ofInt (a1.2.1.2.2.2.1.length:Int)].length+a1.2.1.2.2.2.1.length<=cg then (let y2:=[UInt8.ofInt a1.1,UInt8.ofInt a1.2.1.1,UInt8.ofInt a1.2.1.2.1,UInt8.ofInt (a1.2.1.2.2.1.fdiv (2 ^ 8)),UInt8.ofInt a1.2.1.2.2.1,UInt8.ofInt (a1.2.1.2.2.2.1.length:Int)]++a1.2.1.2.2.2.1;some (y2,())) else none
theorem ae (a1:A):@Eq (Option O) (D.W k a1) (p a1):=Bye
theorem ok:Ok prog 307 D.sig:=am func307 au Bye (aj _)
end oL
namespace o6
abbrev A:=ax×Row×Unit
abbrev O:=Bool×ax×Unit
noncomputable def D:FD:={ fn:=f267,tl:=a_,ps:=[(.jp (ah cx) (ah cx),cx),(.ro,a8)],rs:=[(.bool,(ai .bool))],gl:=[(306,fx.D.sig),(307,oL.D.sig)],es:=[0] }
def ab (a:A):Option O:=@lift O λk=>D.W k a
def p (a1:A):Option O:=(oL.ab (0,a1.2.1,())).bind λr2=>(fx.ab (a1.1,r2.1,(-1),())).bind λr3=>some (r3.2.2.1,r3.2.2.2.1,())
theorem ae (a1:A):@Eq (Option O) (D.W k a1) (p a1):=Bye
theorem ok:Ok prog 267 D.sig:=am func267 au Bye (fc fx.ok (fc oL.ok (aj _)))
end o6
namespace p_
abbrev A:=Byt×Int×Byt×Unit
abbrev O:=yP×Unit
noncomputable def D:FD:={ fn:=f339,tl:=a_,ps:=[(.ro,(.aa u8)),(.ro,i64),(.ro,(.aa u8))],rs:=[(lH,(ah lH))],gl:=[(170,ez.D.sig),(171,g_.D.sig),(253,lZ.D.sig),(353,mn.D.sig),(354,k_.D.sig),(355,oz.D.sig)] }
def ab (a:A):Option O:=@lift O λk=>D.W k a
def p (a1:A):Option O:=(mn.ab (a1.1,a1.2.2.1,())).bind λr2=>cond (!decide (r2.1=0)) (some ((r2.1,0,([]:Byt),()),()))<|(g_.ab (a1.1,a1.2.1,())).bind λr3=>cond (!r3.1) (some ((4,0,([]:Byt),()),()))<|(lZ.ab (a1.1,a1.2.1,())).bind λr4=>cond (decide ((a1.2.2.1.length:Int)<=r4.2.1)) ((oz.ab (a1.1,a1.2.1,af ((af (r4.1+r4.2.1)) - (a1.2.2.1.length:Int)),a1.2.2.1,())).bind λr5=>some ((0,a1.2.1,r5.1,()),()))<|(k_.ab (a1.1,())).bind λr6=>cond (decide (af (r6.1+r4.2.1) < (a1.2.2.1.length:Int))) (some ((9,0,([]:Byt),()),()))<|(a1.1[1]?).bind λx7=>(ez.ab (a1.1,())).bind λr8=>cond (decide (af ((af (x7.toNat:Int)) - (af (2+(af (2*r8.1))))) < (a1.2.2.1.length:Int))) (some ((8,0,([]:Byt),()),()))<|(oz.ab (a1.1,a1.2.1,af ((af (x7.toNat:Int)) - (a1.2.2.1.length:Int)),a1.2.2.1,())).bind λr9=>if 0<=(1:Int)/\1 < (r9.1.length:Int) then ((r9.1[1]?).bind λGg=>let y11:=r9.1.set 1 (UInt8.ofInt (af ((af (x7.toNat:Int)) - (a1.2.2.1.length:Int))));some ((0,a1.2.1,y11,()),())) else none
theorem ae (a1:A):@Eq (Option O) (D.W k a1) (p a1):=Bye
theorem ok:Ok prog 339 D.sig:=am func339 au Bye (fc ez.ok (fc g_.ok (fc lZ.ok (fc mn.ok (fc k_.ok (fc oz.ok (aj _)))))))
end p_
namespace mp
abbrev A:=ax×Int×Int×Byt×Unit
abbrev O:=Bool×ax×Unit
noncomputable def D:FD:={ fn:=f308,tl:=a_,ps:=[(.jp (ah cx) (ah cx),cx),(.ro,i64),(.ro,i64),(.ro,(.aa u8))],rs:=[(.bool,(ai .bool))],gl:=[(337,kf.D.sig),(338,f9.D.sig),(339,p_.D.sig)],es:=[0] }
def ab (a:A):Option O:=@lift O λk=>D.W k a
def p (a1:A):Option O:=if 0<=a1.2.1/\a1.2.1 < (a1.1.1.length:Int) then ((a1.1.1[a1.2.1.toNat]?).bind λx2=>(a1.1.1[a1.2.1.toNat]?).bind λx3=>(p_.ab (x3,a1.2.2.1,a1.2.2.2.1,())).bind λr4=>cond (decide (r4.1.1=8)) ((kf.ab (a1.1,a1.2.1,())).bind λr5=>if 0<=a1.2.1/\a1.2.1 < (r5.1.1.length:Int) then ((r5.1.1[a1.2.1.toNat]?).bind λx6=>(r5.1.1[a1.2.1.toNat]?).bind λx7=>(p_.ab (x7,a1.2.2.1,a1.2.2.2.1,())).bind λr8=>cond (!decide (r8.1.1=0)) (some (false,r5.1,()))<|(f9.ab (r5.1,a1.2.1,r8.1.2.2.1,())).bind λsX=>some (true,sX.1,())) else none)<|cond (!decide (r4.1.1=0)) (some (false,a1.1,()))<|(f9.ab (a1.1,a1.2.1,r4.1.2.2.1,())).bind λnC=>some (true,nC.1,())) else none
theorem ae (a1:A):@Eq (Option O) (D.W k a1) (p a1):=Bye
theorem ok:Ok prog 308 D.sig:=am func308 au Bye (fc kf.ok (fc f9.ok (fc p_.ok (aj _))))
end mp
namespace uJ
abbrev A:=Int×Int×Unit
abbrev O:=Byt×Unit
noncomputable def D:FD:={ fn:=f309,tl:=a_,ps:=[(.ro,i64),(.ro,i64)],rs:=[((.aa u8),(ah (.aa u8)))] }
def ab (a:A):Option O:=@lift O λk=>D.W k a
def p (a1:A):Option O:=some ([(1:UInt8),UInt8.ofInt a1.1,UInt8.ofInt a1.2.1],())
theorem ae (a1:A):@Eq (Option O) (D.W k a1) (p a1):=Bye
theorem ok:Ok prog 309 D.sig:=am func309 au Bye (aj _)
end uJ
namespace om
abbrev A:=Byt×Int×Unit
abbrev O:=yP×Unit
abbrev P:=Option O
noncomputable def D:FD:={ fn:=f340,tl:=a_,ps:=[(.ro,(.aa u8)),(.ro,i64)],rs:=[(lH,(ah lH))],gl:=[(114,b_.D.sig),(169,bg.D.sig),(171,g_.D.sig)],lv:=[(9,[1,4,6])],lx:=[(0,[1,4,6])] }
def ab (a:A):P:=@lift O λk=>D.W k a
variable (a1:A)
def T0 (jz:Byt):St:={ n:=54,sl:=[(1,.val i64 a1.2.1),(4,.box lH (ah lH) [] ((0:Int),(0:Int),([]:Byt),())),(6,.own (.aa u8) (ah (.aa u8)) [] jz)],vr:=[],ay:=[] }
def b0 (self:Byt->P) (e0:Byt->P) (a1:A) (jz:Byt):P:=if 0<=(0:Int)/\0 < (jz.length:Int) then ((jz[0]?).bind λQd=>cond (decide (0 < (Qd.toNat:Int))) (if 0<=(0:Int)/\0 < (jz.length:Int) then ((jz[0]?).bind λwD=>if 0<=af ((af (2*(af (wD.toNat:Int))))+1)/\af ((af (2*(af (wD.toNat:Int))))+1) < (jz.length:Int) then ((jz[(af ((af ((2:Int)*(af (wD.toNat:Int))))+(1:Int))).toNat]?).bind λxS=>cond (decide ((xS.toNat:Int)=0)) (if 0<=(0:Int)/\0 < (jz.length:Int) then ((jz[0]?).bind λG6=>if 0<=(0:Int)/\0 < (jz.length:Int) then ((jz[0]?).bind λuX=>let Fg:=jz.set 0 (UInt8.ofInt ((G6.toNat:Int) - 1));self Fg) else none) else none)<|e0 jz) else none) else none)<|e0 jz) else none
def q0 (ZH:Byt):P:=some ((0,a1.2.1,ZH,()),())
def r0:Byt->P:=al (λw v=>b0 w (q0 a1) a1 v) k
theorem aq:@Eq (Byt->P) (λjz=>D.L k [1,1,1,1,1,1,0,0,0] [1,4,6] [] (ak 0 (av (D.N k [1,1,1,1,1,1,1]) D.K0)) (T0 a1 jz)) (r0 k a1):=
 funext λjz=>ap _ _ _ (T0 a1) _ (λrec v=>Bye) k jz
def p (l0:Byt->P) (a1:A):P:=(bg.ab (a1.1,())).bind λr2=>cond (!decide (r2.1=0)) (some ((r2.1,0,([]:Byt),()),()))<|(g_.ab (a1.1,a1.2.1,())).bind λr3=>cond (!r3.1) (some ((4,0,([]:Byt),()),()))<|(b_.ab (a1.1,())).bind λr4=>if 0<=af (2+(af (2*a1.2.1)))/\af (2+(af (2*a1.2.1))) < (r4.1.length:Int) then ((r4.1[(af ((2:Int)+(af ((2:Int)*a1.2.1)))).toNat]?).bind λx5=>let y6:=r4.1.set (af (2+(af (2*a1.2.1)))).toNat (0:UInt8);if 0<=af (3+(af (2*a1.2.1)))/\af (3+(af (2*a1.2.1))) < (y6.length:Int) then ((y6[(af ((3:Int)+(af ((2:Int)*a1.2.1)))).toNat]?).bind λx7=>let y8:=y6.set (af (3+(af (2*a1.2.1)))).toNat (0:UInt8);l0 y8) else none) else none
theorem ae:@Eq P (D.W k a1) (p (r0 k a1) a1):=By8 (aq k a1) Bye
theorem ok:Ok prog 340 D.sig:=am func340 au Bye (fc b_.ok (fc bg.ok (fc g_.ok (aj _))))
end om
namespace ky
abbrev A:=ax×Int×Int×Unit
abbrev O:=ax×Unit
noncomputable def D:FD:={ fn:=f310,tl:=a_,ps:=[(.jp (ah cx) (ah cx),cx),(.ro,i64),(.ro,i64)],rs:=[],gl:=[(338,f9.D.sig),(340,om.D.sig)],es:=[0] }
def ab (a:A):Option O:=@lift O λk=>D.W k a
def p (a1:A):Option O:=if 0<=a1.2.1/\a1.2.1 < (a1.1.1.length:Int) then ((a1.1.1[a1.2.1.toNat]?).bind λx2=>(a1.1.1[a1.2.1.toNat]?).bind λx3=>(om.ab (x3,a1.2.2.1,())).bind λr4=>(f9.ab (a1.1,a1.2.1,r4.1.2.2.1,())).bind λr5=>some (r5.1,())) else none
theorem ae (a1:A):@Eq (Option O) (D.W k a1) (p a1):=Bye
theorem ok:Ok prog 310 D.sig:=am func310 au Bye (fc f9.ok (fc om.ok (aj _)))
end ky
namespace kQ
abbrev A:=ax×Seen×Row×Unit
abbrev O:=Bool×ax×Unit
noncomputable def D:FD:={ fn:=f268,tl:=a_,ps:=[(.jp (ah cx) (ah cx),cx),(.ro,ge),(.ro,a8)],rs:=[(.bool,(ai .bool))],gl:=[(306,fx.D.sig),(307,oL.D.sig),(308,mp.D.sig),(309,uJ.D.sig),(310,ky.D.sig)],es:=[0],od:=[(6,[0,1,2,3,4,5,6,7,8]),(8,[0,1,3,4,2,5,6,7,8,9,10,11,12]),(11,[0,1,2,3,4,5,6,7,8])] }
def ab (a:A):Option O:=@lift O λk=>D.W k a
def p (a1:A):Option O:=cond (Ty.eq a8 a1.2.1.1 a1.2.2.1) (some (true,a1.1,()))<|let Gf:=λ(p9:Int)=>((oL.ab (p9,a1.2.2.1,())).bind λnC=>(mp.ab (a1.1,a1.2.1.2.2.2.2.1,a1.2.1.2.2.2.2.2.1,nC.1,())).bind λqD=>cond qD.1 (some (true,qD.2.1,()))<|(oL.ab (2,a1.2.2.1,())).bind λyR=>(fx.ab (qD.2.1,yR.1,a1.2.1.2.2.2.2.1,())).bind λvF=>cond (!vF.2.2.1) (some (false,vF.2.2.2.1,()))<|(uJ.ab (vF.1,vF.2.1,())).bind λBf=>(mp.ab (vF.2.2.2.1,a1.2.1.2.1,a1.2.1.2.2.1,Bf.1,())).bind λCv=>cond a1.2.1.2.2.2.1 ((ky.ab (Cv.2.1,a1.2.1.2.2.2.2.1,a1.2.1.2.2.2.2.2.1,())).bind λAv=>some (true,Av.1,()))<|some (true,Cv.2.1,()):Option O);cond a1.2.1.2.2.2.1 (Gf 2)<|Gf 0
theorem ae (a1:A):@Eq (Option O) (D.W k a1) (p a1):=Bye
theorem ok:Ok prog 268 D.sig:=am func268 au Bye (fc fx.ok (fc oL.ok (fc mp.ok (fc uJ.ok (fc ky.ok (aj _))))))
end kQ
namespace lM
abbrev A:=ax×Seen×Unit
abbrev O:=ax×Unit
noncomputable def D:FD:={ fn:=f269,tl:=a_,ps:=[(.jp (ah cx) (ah cx),cx),(.ro,ge)],rs:=[],gl:=[(310,ky.D.sig)],es:=[0] }
def ab (a:A):Option O:=@lift O λk=>D.W k a
def p (a1:A):Option O:=(ky.ab (a1.1,a1.2.1.2.1,a1.2.1.2.2.1,())).bind λr2=>cond a1.2.1.2.2.2.1 ((ky.ab (r2.1,a1.2.1.2.2.2.2.1,a1.2.1.2.2.2.2.2.1,())).bind λr3=>some (r3.1,()))<|some (r2.1,())
theorem ae (a1:A):@Eq (Option O) (D.W k a1) (p a1):=Bye
theorem ok:Ok prog 269 D.sig:=am func269 au Bye (fc ky.ok (aj _))
end lM
namespace qq
abbrev A:=(List Byt)×Change×Unit
abbrev O:=d9×Unit
noncomputable def D:FD:={ fn:=f192,tl:=a_,ps:=[(.ro,(.aa (.aa u8))),(.ro,aw)],rs:=[(eg,(ah eg))],gl:=[(99,en.D.sig),(101,kT.D.sig),(133,dh.D.sig),(208,iz.D.sig),(263,kq.D.sig),(264,sh.D.sig),(265,qp.D.sig),(266,nq.D.sig),(267,o6.D.sig),(268,kQ.D.sig),(269,lM.D.sig),(270,lL.D.sig)],od:=[(6,[0,1,2,3,4]),(9,[0,1,4,2,3,5,6,7,8,9,10,11,12,13])],ar:=[(9,[1,4])],bx:=[(9,[3])],pd:=[(9,[11])] }
def ab (a:A):Option O:=@lift O λk=>D.W k a
def p (a1:A):Option O:=(en.ab (a1.1,())).bind λr2=>let XQ:=λ(p16:Int)=>(cond (!decide (p16=0)) (some ((p16,([]:List ci),([]:List Byt),()),()))<|(kT.ab (r2.1,())).bind λG3=>(kq.ab (a1.2.1,G3.1,())).bind λr19=>cond (!r19.1) (some ((8,([]:List ci),([]:List Byt),()),()))<|(sh.ab (a1.1,())).bind λr20=>(dh.ab (a1.2.1,())).bind λI0=>(dh.ab (a1.2.1,())).bind λr22=>(qp.ab (r2.1,I0.1.1,r22.1.2.1,())).bind λXT=>cond (!a1.2.1.1) ((o6.ab (r20.1,a1.2.1.2.2.2.1,())).bind λDl=>(nq.ab (Dl.2.1,Dl.1,())).bind λXU=>some (XU.1,()))<|cond a1.2.1.2.2.1 ((kQ.ab (r20.1,XT.1,a1.2.1.2.2.2.1,())).bind λTE=>(nq.ab (TE.2.1,TE.1,())).bind λr27=>some (r27.1,()))<|(lM.ab (r20.1,XT.1,())).bind λr28=>(lL.ab (r28.1,())).bind λr29=>some (r29.1,()):Option O);cond (decide (r2.2.1=0)) ((iz.ab (a1.2.1,())).bind λr3=>XQ r3.1)<|XQ r2.2.1
theorem ae (a1:A):@Eq (Option O) (D.W k a1) (p a1):=Bye
theorem ok:Ok prog 192 D.sig:=am func192 au Bye (fc en.ok (fc kT.ok (fc dh.ok (fc iz.ok (fc kq.ok (fc sh.ok (fc qp.ok (fc nq.ok (fc o6.ok (fc kQ.ok (fc lM.ok (fc lL.ok (aj _)))))))))))))
end qq
namespace jF
abbrev A:=Byt×Byt×Unit
abbrev O:=(List ci)×Unit
abbrev P:=Option O
noncomputable def D:FD:={ fn:=f194,tl:=a_,ps:=[(.ro,(.aa u8)),(.ro,(.aa u8))],rs:=[((.aa pN),(ah (.aa pN)))],gl:=[(114,b_.D.sig)],lv:=[(3,[0,1,5,6]),(7,[0,1,5,6,7])],lx:=[(0,[5]),(1,[0,1,5,6]),(2,[0,1,5,6,7])],od:=[(5,[0,1,2,3,4,5,6,7,8]),(7,[0,1,2,3,4,5,6,7,8,9,10,11,12])] }
def ab (a:A):P:=@lift O λk=>D.W k a
def T0 (a1:A) (U:Byt×Byt×(List ci)×Int):St:={ n:=49,sl:=[(0,.val (.aa u8) U.1),(1,.val (.aa u8) U.2.1),(5,.own (.aa pN) (ah (.aa pN)) [] U.2.2.1),(6,.val i64 U.2.2.2)],vr:=[],ay:=[] }
def S0 (rec:RT O) (a1:A):(Byt×Byt×(List ci)×Int)->P:=λU=>rec (T0 a1 U)
def dn (K:KT O) (a1:A):(List ci)->P:=λz=>K (.exit 0) ({ n:=49,sl:=[(5,.own (.aa pN) (ah (.aa pN)) [] z)],vr:=[],ay:=[] })
def T1 (a1:A) (dr:Byt) (cw:Byt) (cj:List ci) (ct:Int) (cq:Int):St:={ n:=49,sl:=[(0,.val (.aa u8) dr),(1,.val (.aa u8) cw),(5,.own (.aa pN) (ah (.aa pN)) [] cj),(6,.val i64 ct),(7,.val i64 cq)],vr:=[],ay:=[] }
def b1 (self:Int->P) (e2:Int->P) (a1:A) (dr:Byt) (cw:Byt) (cj:List ci) (ct:Int) (cq:Int):P:=cond (decide (cq < 64)) (if 0<=cq then ((dr[cq.toNat]?).bind λE7=>if 0<=cq then ((cw[cq.toNat]?).bind λwa=>cond (!decide ((E7.toNat:Int)=(wa.toNat:Int))) (self (af (cq+1)))<|e2 cq) else none) else none)<|e2 cq
def q0 (self:(Byt×Byt×(List ci)×Int)->P) (e0:(List ci)->P) (a1:A) (dr:Byt) (cw:Byt) (cj:List ci) (ct:Int) (uU:Int):P:=if 0<=ct/\ct<=uU/\uU<=(cw.length:Int) then ((b_.ab ((cw.take uU.toNat).drop ct.toNat,())).bind λuZ=>if cj.length+[(ct,uZ.1,())].length<=cg then (self (dr,cw,cj++[(ct,uZ.1,())],af (uU+1))) else none) else none
def s1 (rec:RT O) (K:KT O) (a1:A):Byt->Byt->(List ci)->Int->(Int)->P:=λdr cw cj ct=>λcq=>D.L k [1,1,0,1,0,0,1,0,0,1,1,0,0,0] [0,1,5,6,7] [] (ak 2 (av (D.N k [1,1,0,1,0,0,1,0,0,1,1,1]) (ak 1 (av (D.N k [1,1,0,1,0,0,1,1]) (jY rec (gv [0,1,5,6] []) K))))) (T1 a1 dr cw cj ct cq)
def r1 (self:(Byt×Byt×(List ci)×Int)->P) (e0:(List ci)->P) (a1:A):Byt->Byt->(List ci)->Int->(Int)->P:=λdr cw cj ct=>al (λw v=>b1 w (q0 self e0 a1 dr cw cj ct) a1 dr cw cj ct v) k
theorem nz (rec:RT O) (K:KT O) (a1:A):s1 k rec K a1=r1 k (S0 rec a1) (dn K a1) a1:=
 funext λdr=>funext λcw=>funext λcj=>funext λct=>funext λcq=>ap _ _ _ (T1 a1 dr cw cj ct) _ (λrec v=>Bye) k cq
def b0 (self:(Byt×Byt×(List ci)×Int)->P) (e0:(List ci)->P) (l1:Byt->Byt->(List ci)->Int->(Int)->P) (a1:A) (U:Byt×Byt×(List ci)×Int):P:=cond (decide (U.2.2.2 < 64)) (if 0<=U.2.2.2 then ((U.1[U.2.2.2.toNat]?).bind λaT=>if 0<=U.2.2.2 then ((U.2.1[U.2.2.2.toNat]?).bind λjJ=>cond (decide ((aT.toNat:Int)=(jJ.toNat:Int))) (self (U.1,U.2.1,U.2.2.1,af (U.2.2.2+1)))<|l1 U.1 U.2.1 U.2.2.1 U.2.2.2 U.2.2.2) else none) else none)<|e0 U.2.2.1
def B0 (self:(Byt×Byt×(List ci)×Int)->P) (e0:(List ci)->P) (a1:A) (U:Byt×Byt×(List ci)×Int):P:=b0 self e0 (r1 k self e0 a1) a1 U
theorem nA (rec:RT O) (K:KT O) (a1:A) (U:Byt×Byt×(List ci)×Int):D.N k [1,1,0,1,0,0] (T0 a1 U) (jY rec (gv [0,1,5,6] []) K)=B0 k (S0 rec a1) (dn K a1) a1 U:=
 aQ (b:=b0 (S0 rec a1) (dn K a1) (s1 k rec K a1) a1 U) Bye (by rw[nz];rfl)
def q1 (a1:A) (Ip:(List ci)):P:=some (Ip,())
theorem rV (a1:A) (Ip:(List ci)):dn (ak 0 (av (D.N k [1,1,1]) D.K0)) a1 Ip=q1 a1 Ip:=Bye
def s0 (a1:A):(Byt×Byt×(List ci)×Int)->P:=λU=>D.L k [1,1,0,1,0,0] [0,1,5,6] [] (ak 0 (av (D.N k [1,1,1]) D.K0)) (T0 a1 U)
def r0 (a1:A):(Byt×Byt×(List ci)×Int)->P:=al (λw v=>B0 k w (q1 a1) a1 v) k
theorem aq (a1:A):s0 k a1=r0 k a1:=by
 funext U;have h0:dn (ak 0 (av (D.N k [1,1,1]) D.K0)) a1=q1 a1:=funext λz=>rV k a1 z;refine (ap _ _ _ (T0 a1) (λself v=>B0 k self (dn (ak 0 (av (D.N k [1,1,1]) D.K0)) a1) a1 v) (λrec v=>nA k rec (ak 0 (av (D.N k [1,1,1]) D.K0)) a1 v) k U).trans ?_;rw[h0];rfl
def p (l0:(Byt×Byt×(List ci)×Int)->P) (a1:A):P:=l0 (a1.1,a1.2.1,([]:List ci),0)
theorem ae (a1:A):@Eq P (D.W k a1) (p (r0 k a1) a1):=
 aQ (b:=p (s0 k a1) a1) Bye (by rw[aq])
theorem ok:Ok prog 194 D.sig:=am func194 au Bye (fc b_.ok (aj _))
end jF
namespace cz
abbrev A:=az×(List Change)×Int×Int×Unit
abbrev O:=Int×az×Unit
abbrev P:=Option O
noncomputable def D:FD:={ fn:=f110,tl:=a_,ps:=[(.jp Byy Byy,dc),(.ro,(.aa aw)),(.ro,i64),(.ro,i64)],rs:=[(i64,(ai i64))],gl:=[(109,nW.D.sig),(114,b_.D.sig),(192,qq.D.sig),(193,iy.D.sig),(194,jF.D.sig)],es:=[0],fz:=[(4,7,1)],lv:=[(2,[0,2,3,15,16,17]),(8,[0,2,3,15,16,17,33,34,35])],lx:=[(0,[0]),(2,[0,2,3,15,16,17])],od:=[(4,[0,1,2,3,4,5,6,7]),(10,[0,1,2,3,4,5,6,7]),(11,[0,1,2,3,4,5,6,7,8,9,10]),(12,[0,1,2,3,4,5,6,7,8,9,10,11,12,13,14,15,16,17,18]),(15,[0,1,2,3,4,5,6,7,8,9,10])],ar:=[(4,[4])],bx:=[(4,[10])],pd:=[(4,[6])],er:=[(4,[(3,8)])] }
def ab (a:A):P:=@lift O λk=>D.W k a
def T0 (a1:A) (U:az×Int×Int×(List Change)×Int×Int):St:={ n:=90,sl:=[(0,.box dc Byy [] U.1),(2,.val i64 U.2.1),(3,.val i64 U.2.2.1),(15,.val (.aa aw) U.2.2.2.1),(16,.val i64 U.2.2.2.2.1),(17,.val i64 U.2.2.2.2.2)],vr:=[],ay:=[(0,0,false)] }
def S0 (rec:RT O) (a1:A):(az×Int×Int×(List Change)×Int×Int)->P:=λU=>rec (T0 a1 U)
def dn (K:KT O) (a1:A):az->P:=λz=>K (.exit 0) ({ n:=90,sl:=[(0,.box dc (.pair (ai .bool) (.pair (ah (.aa (.aa u8))) (.pair (ai jc) (.pair (.aa true (.pair (ai i64) (.pair (ai (.aa aw)) (ah (bu [(.aa i64),(.aa be)]))))) (ai (bu [i64])))))) [] z)],vr:=[],ay:=[(0,0,false)] })
def T1 (a1:A) (dr:Int) (cw:Int) (cj:List Change) (ct:Int) (fd:Int) (ly:List ci) (lz:Int) (cq:az×Int):St:={ n:=90,sl:=[(0,.box dc Byy [] cq.1),(2,.val i64 dr),(3,.val i64 cw),(15,.val (.aa aw) cj),(16,.val i64 ct),(17,.val i64 fd),(33,.val (.aa pN) ly),(34,.val i64 lz),(35,.val i64 cq.2)],vr:=[],ay:=[(0,0,false)] }
def b1 (self:(az×Int)->P) (e2:az->P) (a1:A) (dr:Int) (cw:Int) (cj:List Change) (ct:Int) (fd:Int) (ly:List ci) (lz:Int) (cq:az×Int):P:=cond (decide (cq.2 < lz)) (if 0<=cq.2 then ((ly[cq.2.toNat]?).bind λxK=>let aa2:=λ(OM:az)=>(if 0<=xK.1/\xK.1 < (OM.2.1.length:Int) then ((OM.2.1[xK.1.toNat]?).bind λadX=>(OM.2.1[xK.1.toNat]?).bind λVz=>(jF.ab (Vz,xK.2.1,())).bind λVA=>(nW.ab (OM,(dr,cw,xK.1,VA.1,()),())).bind λtz=>cond (!decide (tz.1=0)) (some (tz.1,tz.2.1,()))<|(b_.ab (xK.2.1,())).bind λVB=>if 0<=xK.1/\xK.1 < (tz.2.1.2.1.length:Int) then ((tz.2.1.2.1[xK.1.toNat]?).bind λadY=>self ((tz.2.1.1,tz.2.1.2.1.set xK.1.toNat VB.1,tz.2.1.2.2),af (cq.2+1))) else none) else none:P);cond (decide (xK.1=(cq.1.2.1.length:Int))) ((iy.ab ((0:UInt8),())).bind λOJ=>if cq.1.2.1.length+[OJ.1].length<=cg then (aa2 (cq.1.1,cq.1.2.1++[OJ.1],cq.1.2.2)) else none)<|aa2 cq.1) else none)<|e2 cq.1
def q0 (self:(az×Int×Int×(List Change)×Int×Int)->P) (e0:az->P) (a1:A) (dr:Int) (cw:Int) (cj:List Change) (ct:Int) (fd:Int) (ly:List ci) (lz:Int) (adZ:az):P:=self (adZ,dr,cw,cj,ct,af (fd+1))
def s1 (rec:RT O) (K:KT O) (a1:A):Int->Int->(List Change)->Int->Int->(List ci)->Int->(az×Int)->P:=λdr cw cj ct fd ly lz=>λcq=>D.L k [1,0,1,0,0,1,1,0,0,1,1,1,1,0,0] [0,2,3,15,16,17,33,34,35] [] (ak 2 (ak 1 (av (D.N k [1,0,1,0,0,1,1,1]) (jY rec (gv [0,2,3,15,16,17] []) K)))) (T1 a1 dr cw cj ct fd ly lz cq)
def r1 (self:(az×Int×Int×(List Change)×Int×Int)->P) (e0:az->P) (a1:A):Int->Int->(List Change)->Int->Int->(List ci)->Int->(az×Int)->P:=λdr cw cj ct fd ly lz=>al (λw v=>b1 w (q0 self e0 a1 dr cw cj ct fd ly lz) a1 dr cw cj ct fd ly lz v) k
theorem nz (rec:RT O) (K:KT O) (a1:A):s1 k rec K a1=r1 k (S0 rec a1) (dn K a1) a1:=
 funext λdr=>funext λcw=>funext λcj=>funext λct=>funext λfd=>funext λly=>funext λlz=>funext λcq=>ap _ _ _ (T1 a1 dr cw cj ct fd ly lz) _ (λrec v=>Bye) k cq
def b0 (self:(az×Int×Int×(List Change)×Int×Int)->P) (e0:az->P) (l1:Int->Int->(List Change)->Int->Int->(List ci)->Int->(az×Int)->P) (a1:A) (U:az×Int×Int×(List Change)×Int×Int):P:=cond (decide (U.2.2.2.2.2 < U.2.2.2.2.1)) (if 0<=U.2.2.2.2.2 then ((U.2.2.2.1[U.2.2.2.2.2.toNat]?).bind λaT=>(qq.ab (U.1.2.1,aT,())).bind λdq=>cond (!decide (dq.1.1=0)) (some (dq.1.1,U.1,()))<|l1 U.2.1 U.2.2.1 U.2.2.2.1 U.2.2.2.2.1 U.2.2.2.2.2 dq.1.2.1 (dq.1.2.1.length:Int) (U.1,0)) else none)<|e0 U.1
def B0 (self:(az×Int×Int×(List Change)×Int×Int)->P) (e0:az->P) (a1:A) (U:az×Int×Int×(List Change)×Int×Int):P:=b0 self e0 (r1 k self e0 a1) a1 U
theorem nA (rec:RT O) (K:KT O) (a1:A) (U:az×Int×Int×(List Change)×Int×Int):D.N k [1,0,1,0,0] (T0 a1 U) (jY rec (gv [0,2,3,15,16,17] []) K)=B0 k (S0 rec a1) (dn K a1) a1 U:=
 aQ (b:=b0 (S0 rec a1) (dn K a1) (s1 k rec K a1) a1 U) Bye (by rw[nz];rfl)
def q1 (a1:A) (ON:az):P:=some (0,ON,())
theorem rV (a1:A) (ON:az):dn (ak 0 (av (D.N k [1,1]) D.K0)) a1 ON=q1 a1 ON:=Bye
def s0 (a1:A):(az×Int×Int×(List Change)×Int×Int)->P:=λU=>D.L k [1,0,1,0,0] [0,2,3,15,16,17] [] (ak 0 (av (D.N k [1,1]) D.K0)) (T0 a1 U)
def r0 (a1:A):(az×Int×Int×(List Change)×Int×Int)->P:=al (λw v=>B0 k w (q1 a1) a1 v) k
theorem aq (a1:A):s0 k a1=r0 k a1:=by
 funext U;have h0:dn (ak 0 (av (D.N k [1,1]) D.K0)) a1=q1 a1:=funext λz=>rV k a1 z;refine (ap _ _ _ (T0 a1) (λself v=>B0 k self (dn (ak 0 (av (D.N k [1,1]) D.K0)) a1) a1 v) (λrec v=>nA k rec (ak 0 (av (D.N k [1,1]) D.K0)) a1 v) k U).trans ?_;rw[h0];rfl
def p (l0:(az×Int×Int×(List Change)×Int×Int)->P) (a1:A):P:=l0 (a1.1,a1.2.2.1,a1.2.2.2.1,a1.2.1,(a1.2.1.length:Int),0)
theorem ae (a1:A):@Eq P (D.W k a1) (p (r0 k a1) a1):=
 aQ (b:=p (s0 k a1) a1) Bye (by rw[aq])
theorem ok:Ok prog 110 D.sig:=am func110 au Bye (fc nW.ok (fc b_.ok (fc qq.ok (fc iy.ok (fc jF.ok (aj _))))))
end cz
namespace oS
abbrev A:=(List Tx)×Key×Unit
abbrev O:=Int×Unit
abbrev P:=Option O
noncomputable def D:FD:={ fn:=f195,tl:=a_,ps:=[(.ro,(.aa bp)),(.ro,be)],rs:=[(i64,(ai i64))],gl:=[(258,fw.D.sig)],lv:=[(2,[3,7,8,9])],lx:=[(0,[])] }
def ab (a:A):P:=@lift O λk=>D.W k a
variable (a1:A)
def T0 (U:Int):St:={ n:=20,sl:=[(3,.box be (ai be) [] a1.2.1),(7,.val (.aa bp) a1.1),(8,.val i64 (a1.1.length:Int)),(9,.val i64 U)],vr:=[],ay:=[] }
def b0 (self:Int->P) (e0:(Unit)->P) (a1:A) (U:Int):P:=cond (decide (U < (a1.1.length:Int))) (if 0<=U then ((a1.1[U.toNat]?).bind λaT=>(fw.ab (aT.2.2.2.1,a1.2.1,())).bind λdq=>cond dq.1 (some (aT.1,()))<|self (af (U+1))) else none)<|e0 ()
def q0 (a1:A) (fj:(Unit)):P:=some (0,())
def r0:(Int)->P:=al (λw v=>b0 w (q0 a1) a1 v) k
theorem aq:@Eq ((Int)->P) (λU=>D.L k [1,0,1,0,0] [3,7,8,9] [] (ak 0 (av (D.N k [1,1]) D.K0)) (T0 a1 U)) (r0 k a1):=
 funext λU=>ap _ _ _ (T0 a1) _ (λrec v=>Bye) k U
def p (l0:(Int)->P) (a1:A):P:=l0 0
theorem ae:@Eq P (D.W k a1) (p (r0 k a1) a1):=By8 (aq k a1) Bye
theorem ok:Ok prog 195 D.sig:=am func195 au Bye (fc fw.ok (aj _))
end oS
namespace rY
abbrev A:=(List Tx)×Int×Change×Unit
abbrev O:=(List Tx)×Unit
noncomputable def D:FD:={ fn:=f197,tl:=a_,ps:=[(.ro,(.aa bp)),(.ro,i64),(.ro,aw)],rs:=[((.aa bp),(ah (.aa bp)))],gl:=[(108,ir.D.sig),(196,iF.D.sig),(258,fw.D.sig)],od:=[(3,[0,1,2,3,4,5,6,7,8,9,10]),(4,[0,1,2,3,4,5,6,7]),(5,[0,1,2,3,4,5,6,7,8,9,10,11])] }
def ab (a:A):Option O:=@lift O λk=>D.W k a
def p (a1:A):Option O:=(ir.ab (a1.1,())).bind λr2=>if 0<=a1.2.1/\a1.2.1 < (r2.1.length:Int) then ((r2.1[a1.2.1.toNat]?).bind λx3=>(r2.1[a1.2.1.toNat]?).bind λx4=>(r2.1[a1.2.1.toNat]?).bind λx5=>if x4.2.1.length+[a1.2.2.1].length<=cg then (if a1.2.1.toNat=a1.2.1.toNat then ((r2.1.set a1.2.1.toNat x5)[a1.2.1.toNat]?).bind λx6=>let y7:=(r2.1.set a1.2.1.toNat x5).set a1.2.1.toNat (x6.1,x4.2.1++[a1.2.2.1],x6.2.2);(y7[a1.2.1.toNat]?).bind λx8=>(iF.ab (a1.2.2.1,())).bind λr9=>(y7[a1.2.1.toNat]?).bind λGg=>(fw.ab (Gg.2.2.2.1,r9.1,())).bind λnC=>cond (!nC.1) ((y7[a1.2.1.toNat]?).bind λTF=>(iF.ab (a1.2.2.1,())).bind λyR=>(y7[a1.2.1.toNat]?).bind λG5=>(y7[a1.2.1.toNat]?).bind λXW=>if G5.2.2.2.1.length+[yR.1].length<=cg then (if a1.2.1.toNat=a1.2.1.toNat then ((y7.set a1.2.1.toNat XW)[a1.2.1.toNat]?).bind λNs=>let Nu:=(y7.set a1.2.1.toNat XW).set a1.2.1.toNat (Ns.1,Ns.2.1,Ns.2.2.1,G5.2.2.2.1++[yR.1],Ns.2.2.2.2);some (Nu,()) else none) else none)<|some (y7,()) else none) else none) else none
theorem ae (a1:A):@Eq (Option O) (D.W k a1) (p a1):=Bye
theorem ok:Ok prog 197 D.sig:=am func197 au Bye (fc ir.ok (fc iF.ok (fc fw.ok (aj _))))
end rY
namespace nF
abbrev A:=(List Tx)×Int×Change×Unit
abbrev O:=G0×Unit
noncomputable def D:FD:={ fn:=f111,tl:=a_,ps:=[(.ro,(.aa bp)),(.ro,i64),(.ro,aw)],rs:=[(E4,(ah E4))],gl:=[(104,cc.D.sig),(106,mM.D.sig),(131,lJ.D.sig),(181,jr.D.sig),(195,oS.D.sig),(196,iF.D.sig),(197,rY.D.sig)] }
def ab (a:A):Option O:=@lift O λk=>D.W k a
def p (a1:A):Option O:=(cc.ab (a1.1,())).bind λr2=>cond (!decide (r2.1=0)) (some ((r2.1,([]:List Tx),()),()))<|(mM.ab (a1.1,a1.2.1,())).bind λr3=>cond (decide (r3.1 < 0)) (some ((4,([]:List Tx),()),()))<|(lJ.ab (a1.2.2.1,())).bind λr4=>cond (!decide (r4.1=0)) (some ((r4.1,([]:List Tx),()),()))<|(iF.ab (a1.2.2.1,())).bind λr5=>(oS.ab (a1.1,r5.1,())).bind λr6=>let XV:Option O:=(jr.ab (a1.1,())).bind λqD=>cond (decide (12<=qD.1)) (some ((2,([]:List Tx),()),()))<|cond (decide (r6.1=0)) (if 0<=r3.1 then ((a1.1[r3.1.toNat]?).bind λK7=>cond (decide (12<=(K7.2.2.2.1.length:Int))) (some ((2,([]:List Tx),()),()))<|(rY.ab (a1.1,r3.1,a1.2.2.1,())).bind λBf=>some ((0,Bf.1,()),())) else none)<|(rY.ab (a1.1,r3.1,a1.2.2.1,())).bind λCv=>some ((0,Cv.1,()),());cond (!decide (r6.1=0)) (cond (!decide (r6.1=a1.2.1)) (some ((7,([]:List Tx),()),()))<|XV)<|XV
theorem ae (a1:A):@Eq (Option O) (D.W k a1) (p a1):=Bye
theorem ok:Ok prog 111 D.sig:=am func111 au Bye (fc cc.ok (fc mM.ok (fc lJ.ok (fc jr.ok (fc oS.ok (fc iF.ok (fc rY.ok (aj _))))))))
end nF
namespace tQ
abbrev A:=(List Tx)×Int×Unit
abbrev O:=(List Tx)×Int×Unit
noncomputable def D:FD:={ fn:=f112,tl:=a_,ps:=[(.ro,(.aa bp)),(.ro,i64)],rs:=[((.aa bp),(ah (.aa bp))),(i64,(ai i64))],gl:=[(106,mM.D.sig),(108,ir.D.sig)],od:=[(3,[0,1,2,3,4,5,6,7,8,9,10,11,12,13,14]),(4,[0,1,2,3,4,5,6,7,8])] }
def ab (a:A):Option O:=@lift O λk=>D.W k a
def p (a1:A):Option O:=(ir.ab (a1.1,())).bind λr2=>(mM.ab (r2.1,a1.2.1,())).bind λr3=>if 0<=r3.1/\r3.1 < (r2.1.length:Int) then ((r2.1[r3.1.toNat]?).bind λx4=>(r2.1[r3.1.toNat]?).bind λx5=>(r2.1[r3.1.toNat]?).bind λx6=>(r2.1[r3.1.toNat]?).bind λx7=>(r2.1[r3.1.toNat]?).bind λx8=>if x7.2.2.1.length+[(x6.2.1.length:Int)].length<=cg then (if r3.1.toNat=r3.1.toNat then ((r2.1.set r3.1.toNat x8)[r3.1.toNat]?).bind λx9=>let XR:=(r2.1.set r3.1.toNat x8).set r3.1.toNat (x9.1,x9.2.1,x7.2.2.1++[(x6.2.1.length:Int)],x9.2.2.2);(XR[r3.1.toNat]?).bind λXS=>(XR[r3.1.toNat]?).bind λTF=>some (XR,af ((TF.2.2.1.length:Int) - 1),()) else none) else none) else none
theorem ae (a1:A):@Eq (Option O) (D.W k a1) (p a1):=Bye
theorem ok:Ok prog 112 D.sig:=am func112 au Bye (fc mM.ok (fc ir.ok (aj _)))
end tQ
namespace sF
open Go.Proofs
abbrev A:=(List Tx)×Int×(Int)×Unit
abbrev O:=(List Tx)×Unit
def ab (a:A):Option O:=Mz bp a
def sig:v6:={ ps:=[(.pG (ah (.aa bp)),(.aa bp)),(.ro,i64),(.ro,i64)],rs:=[((.aa bp),ah (.aa bp))],F:=ab,Ga:=λv H=>Qb v.2.1 v.2.2.1 H }
def ren:Go.Shelf.Ren:=⟨λ| 45=>198 | n=>n,λ| 22=>36 | 23=>157 | 3=>3 | 4=>4 | 0=>0 | n=>n,λn=>n⟩
theorem lay:SlLaysE0.n45 prog ren:=⟨by kernel_rfl,⟨f198.name,by decide,func198.trans (cP some Bye)⟩,underlying0,isAgg0,sizeOf0,zeroValue0,underlying3,isAgg3,sizeOf3,zeroValue3,underlying4,isAgg4,sizeOf4,zeroValue4,underlying36,isAgg36,sizeOf36,zeroValue36⟩
theorem ok:Ok prog 198 sig:=XK (e:=bp) lay Bye (by decide) (by decide) ⟨f198,func198,by kernel_rfl,by kernel_rfl,by kernel_rfl⟩
end sF
namespace rJ
abbrev A:=(List Tx)×Op×Unit
abbrev O:=(List Tx)×(List Change)×Unit
noncomputable def D:FD:={ fn:=f113,tl:=a_,ps:=[(.ro,(.aa bp)),(.ro,il)],rs:=[((.aa bp),(ah (.aa bp))),((.aa aw),(ah (.aa aw)))],gl:=[(106,mM.D.sig),(108,ir.D.sig),(134,kO.D.sig),(198,sF.sig)],od:=[(5,[0,1,2,3,4,5,6,7,8]),(8,[0,1,2,3,4,5,6,7,8,9,10,11])] }
def ab (a:A):Option O:=@lift O λk=>D.W k a
def p (a1:A):Option O:=(ir.ab (a1.1,())).bind λr2=>(mM.ab (r2.1,a1.2.1.2.1,())).bind λr3=>if 0<=r3.1/\r3.1 < (r2.1.length:Int) then (cond (decide (a1.2.1.1=6)) ((r2.1[r3.1.toNat]?).bind λx4=>(r2.1[r3.1.toNat]?).bind λx5=>if 0<=a1.2.1.2.2.2.1/\a1.2.1.2.2.2.1 < (x5.2.2.1.length:Int) then ((r2.1[r3.1.toNat]?).bind λx6=>(x6.2.2.1[a1.2.1.2.2.2.1.toNat]?).bind λx7=>(r2.1[r3.1.toNat]?).bind λx8=>(r2.1[r3.1.toNat]?).bind λx9=>if 0<=x7/\x7<=(x9.2.1.length:Int) then ((r2.1[r3.1.toNat]?).bind λGg=>(kO.ab ((Gg.2.1.take x9.2.1.length).drop x7.toNat,())).bind λnC=>(r2.1[r3.1.toNat]?).bind λTF=>(r2.1[r3.1.toNat]?).bind λK7=>if 0<=x7/\x7<=(K7.2.1.length:Int) then ((r2.1[r3.1.toNat]?).bind λG5=>(r2.1[r3.1.toNat]?).bind λXW=>if r3.1.toNat=r3.1.toNat then ((r2.1.set r3.1.toNat XW)[r3.1.toNat]?).bind λNs=>let Nu:=(r2.1.set r3.1.toNat XW).set r3.1.toNat (Ns.1,(G5.2.1.take x7.toNat).drop 0,Ns.2.2);(Nu[r3.1.toNat]?).bind λx18=>(Nu[r3.1.toNat]?).bind λXN=>if 0<=af (a1.2.1.2.2.2.1+1)/\af (a1.2.1.2.2.2.1+1)<=(XN.2.2.1.length:Int) then ((Nu[r3.1.toNat]?).bind λTD=>(Nu[r3.1.toNat]?).bind λXO=>if r3.1.toNat=r3.1.toNat then ((Nu.set r3.1.toNat XO)[r3.1.toNat]?).bind λXP=>let y23:=(Nu.set r3.1.toNat XO).set r3.1.toNat (XP.1,XP.2.1,(TD.2.2.1.take (af (a1.2.1.2.2.2.1+1)).toNat).drop 0,XP.2.2.2);some (y23,nC.1,()) else none) else none else none) else none) else none) else none)<|(r2.1[r3.1.toNat]?).bind λx24=>(r2.1[r3.1.toNat]?).bind λx25=>(kO.ab (x25.2.1,())).bind λTE=>(sF.ab (r2.1,r3.1,af (r3.1+1),())).bind λr27=>some (r27.1,TE.1,())) else none
theorem ae (a1:A):@Eq (Option O) (D.W k a1) (p a1):=Bye
theorem ok:Ok prog 113 D.sig:=am func113 au Bye (fc mM.ok (fc ir.ok (fc kO.ok (fc sF.ok (aj _)))))
end rJ
namespace cy
abbrev A:=az×Op×br×Unit
abbrev O:=Int×Int×az×Unit
abbrev P:=Option O
noncomputable def D:FD:={ fn:=f51,tl:=a_,ps:=[(.jp Byy (ai dc),dc),(.ro,il),(.ro,et)],rs:=[(i64,(ai i64)),(i64,(ai i64))],gl:=[(84,oK.D.sig),(109,mm.D.sig),(110,cz.D.sig),(111,nF.D.sig),(112,tQ.D.sig),(113,rJ.D.sig),(114,b_.D.sig)],es:=[0],fz:=[(31,3,8)],lv:=[(32,[0,187,188,189])],lx:=[(1,[0])],lf:=[(32,[(0,Byc)])],od:=[(4,[0,1,2,3,4,5,6,7,8,9,10,11,12,13,14]),(6,[0,1,2,3,4,5,6,7,8,9,10,11,12,13,14]),(11,[0,1,2,3,4,5,6,7,8,9,10]),(13,[0,1,2,3]),(15,[0,1,2,3,4,5,6,7,8,9,10,11]),(19,[0,1,2,3,4,5,6,7,8,9,10]),(26,[0,1,2,3,4,5,6,7,8,9,10,11,12])],ar:=[(11,[5,7])],bx:=[(11,[4,5])],pd:=[(11,[9])],er:=[(6,[(3,15)]),(11,[(3,11)])] }
def ab (a:A):P:=@lift O λk=>D.W k a
variable (a1:A)
def T0 (yZ:az×Int):St:={ n:=214,sl:=[(0,.box dc (ai dc) [] yZ.1),(187,.val (.aa (.aa u8)) a1.1.2.1),(188,.val i64 (a1.1.2.1.length:Int)),(189,.val i64 yZ.2)],vr:=[],ay:=[(0,0,false)] }
def b0 (self:(az×Int)->P) (e1:az->P) (a1:A) (yZ:az×Int):P:=cond (decide (yZ.2 < (a1.1.2.1.length:Int))) (if 0<=yZ.2 then ((a1.1.2.1[yZ.2.toNat]?).bind λG4=>(b_.ab (G4,())).bind λVy=>(mm.ab (yZ.1,(4,0,yZ.2,[((0:Int),Vy.1,())],()),())).bind λyS=>cond (!decide (yS.1=0)) (some (0,yS.1,yS.2.1,()))<|self (yS.2.1,af (yZ.2+1))) else none)<|e1 yZ.1
def q0 (a1:A) (MB:az):P:=(oK.ab (MB.2.2.1,())).bind λZI=>some (0,0,(MB.1,MB.2.1,ZI.1,MB.2.2.2),())
def r0:(az×Int)->P:=al (λw v=>b0 w (q0 a1) a1 v) k
theorem aq:@Eq ((az×Int)->P) (λyZ=>D.L k [1,0,0,1,1,1,1,1,1,1,1,1,1,1,0,0,1,0,0] [0,187,188,189] [(0,Byc)] (ak 1 (av (D.N k [1,0,0,1,1,1,1,1,1,1,1,1,1,1,0,1]) (ak 0 (av (D.N k [1,1]) D.K0)))) (T0 a1 yZ)) (r0 k a1):=
 funext λyZ=>ap _ _ _ (T0 a1) _ (λrec v=>Bye) k yZ
def p (l0:(az×Int)->P) (a1:A):P:=cond (decide (a1.2.1.1=1)) (cond (decide (a1.1.2.2.2.2.1=100)) (some (0,9,a1.1,()))<|if a1.1.2.2.2.1.length+[(a1.1.2.2.2.2.1,([]:List Change),([]:List Int),([]:List Key),())].length<=cg then (let y2:=a1.1.2.2.2.1++[(a1.1.2.2.2.2.1,([]:List Change),([]:List Int),([]:List Key),())];cond (decide (af (a1.1.2.2.2.2.1+1)=af (a1.1.2.2.2.2.1+1))&&true) ((mm.ab ((a1.1.1,a1.1.2.1,a1.1.2.2.1,y2,af (a1.1.2.2.2.2.1+1),a1.1.2.2.2.2.2),(1,af ((af (a1.1.2.2.2.2.1+1)) - 1),0,([]:List ci),()),())).bind λr3=>cond (decide (r3.2.1.2.2.2.2.1=af (a1.1.2.2.2.2.1+1))&&true) (some (af ((af (a1.1.2.2.2.2.1+1)) - 1),r3.1,r3.2.1,()))<|none)<|none) else none)<|cond a1.2.2.1.2.1 ((cz.ab (a1.1,[a1.2.2.1.2.2.1],2,a1.2.1.2.1,())).bind λr4=>cond (!decide (r4.1=0)) (some (0,r4.1,r4.2.1,()))<|(nF.ab (r4.2.1.2.2.2.1,a1.2.1.2.1,a1.2.2.1.2.2.1,())).bind λr5=>some (0,r5.1.1,(r4.2.1.1,r4.2.1.2.1,r4.2.1.2.2.1,r5.1.2.1,r4.2.1.2.2.2.2),()))<|cond (decide (a1.2.1.1=5)) ((tQ.ab (a1.1.2.2.2.1,a1.2.1.2.1,())).bind λr6=>some (r6.2.1,0,(a1.1.1,a1.1.2.1,a1.1.2.2.1,r6.1,a1.1.2.2.2.2),()))<|cond (decide (a1.2.1.1=6)) ((rJ.ab (a1.1.2.2.2.1,a1.2.1,())).bind λr7=>(cz.ab ((a1.1.1,a1.1.2.1,a1.1.2.2.1,r7.1,a1.1.2.2.2.2),r7.2.1,3,a1.2.1.2.1,())).bind λr8=>cond (decide (r8.1=0)) (cond (decide (a1.2.1.1=8)) ((mm.ab (r8.2.1,(6,a1.2.1.2.1,0,([]:List ci),()),())).bind λr9=>some (0,r9.1,r9.2.1,()))<|some (0,r8.1,r8.2.1,()))<|some (0,r8.1,r8.2.1,()))<|cond (decide (a1.2.1.1=8)) ((rJ.ab (a1.1.2.2.2.1,a1.2.1,())).bind λsX=>(cz.ab ((a1.1.1,a1.1.2.1,a1.1.2.2.1,sX.1,a1.1.2.2.2.2),sX.2.1,3,a1.2.1.2.1,())).bind λnC=>cond (decide (nC.1=0)) (cond (decide (a1.2.1.1=8)) ((mm.ab (nC.2.1,(6,a1.2.1.2.1,0,([]:List ci),()),())).bind λqD=>some (0,qD.1,qD.2.1,()))<|some (0,nC.1,nC.2.1,()))<|some (0,nC.1,nC.2.1,()))<|cond (decide (a1.2.1.1=7)) ((rJ.ab (a1.1.2.2.2.1,a1.2.1,())).bind λyR=>(mm.ab ((a1.1.1,a1.1.2.1,a1.1.2.2.1,yR.1,a1.1.2.2.2.2),(5,a1.2.1.2.1,0,([]:List ci),()),())).bind λvF=>(oK.ab (vF.2.1.2.2.1,())).bind λBf=>some (0,vF.1,(vF.2.1.1,vF.2.1.2.1,Bf.1,vF.2.1.2.2.2),()))<|cond (decide (a1.2.1.1=9)) (l0 (a1.1,0))<|some (0,0,a1.1,())
theorem ae:@Eq P (D.W k a1) (p (r0 k a1) a1):=By8 (aq k a1) Bye
theorem ok:Ok prog 51 D.sig:=am func51 au Bye (fc oK.ok (fc mm.ok (fc cz.ok (fc nF.ok (fc tQ.ok (fc rJ.ok (fc b_.ok (aj _))))))))
end cy
namespace mq
abbrev A:=az×Op×Unit
abbrev O:=se×Unit
noncomputable def D:FD:={ fn:=f12,tl:=a_,ps:=[(.ro,dc),(.ro,il)],rs:=[(nR,(ah nR))],gl:=[(46,p5.D.sig),(47,jE.D.sig),(48,p6.D.sig),(49,jV.D.sig),(50,pj.D.sig),(51,cy.D.sig)],fz:=[(6,0,7),(6,3,7)],od:=[(6,[0,2,3,4,1,5,6,7])],ar:=[(6,[4])],bx:=[(6,[3])],pd:=[(6,[6])],er:=[(6,[(0,8),(3,8)])] }
def ab (a:A):Option O:=@lift O λk=>D.W k a
def p (a1:A):Option O:=(p5.ab (a1.1,())).bind λr2=>cond (!decide (r2.1=0)) (some ((r2.1,0,(false,([]:List Byt),(([]:Byt),([]:Byt),()),([]:List Tx),0,()),()),()))<|cond (!a1.1.1) (some ((8,0,(false,([]:List Byt),(([]:Byt),([]:Byt),()),([]:List Tx),0,()),()),()))<|(p6.ab (a1.1,())).bind λr3=>(jE.ab (r3.1,a1.1.2.2.2.1,a1.2.1,())).bind λr4=>cond (!decide (r4.1.1=0)) (some ((r4.1.1,0,(false,([]:List Byt),(([]:Byt),([]:Byt),()),([]:List Tx),0,()),()),()))<|let j9:Option O:=(pj.ab (a1.1,())).bind λsX=>(cy.ab (sX.1,a1.2.1,r4.1,())).bind λnC=>cond (!decide (nC.2.1=0)) (some ((nC.2.1,0,(false,([]:List Byt),(([]:Byt),([]:Byt),()),([]:List Tx),0,()),()),()))<|(pj.ab (nC.2.2.1,())).bind λqD=>some ((0,nC.1,qD.1,()),());(jV.ab (a1.1.2.2.1,())).bind λr5=>cond (decide (4000 < r5.1)) (cond (!decide (a1.2.1.1=6)) (cond (!decide (a1.2.1.1=8)) (some ((9,0,(false,([]:List Byt),(([]:Byt),([]:Byt),()),([]:List Tx),0,()),()),()))<|j9)<|j9)<|j9
theorem ae (a1:A):@Eq (Option O) (D.W k a1) (p a1):=Bye
theorem ok:Ok prog 12 D.sig:=am func12 au Bye (fc p5.ok (fc jE.ok (fc p6.ok (fc jV.ok (fc pj.ok (fc cy.ok (aj _)))))))
end mq
namespace nX
abbrev A:=Byt×Byt×Unit
abbrev O:=Bool×Unit
abbrev P:=Option O
noncomputable def D:FD:={ fn:=f115,tl:=a_,ps:=[(.ro,(.aa u8)),(.ro,(.aa u8))],rs:=[(.bool,(ai .bool))],lv:=[(4,[0,1,5])],lx:=[(0,[])],od:=[(6,[0,1,2,3,4,5,6,7,8])] }
def ab (a:A):P:=@lift O λk=>D.W k a
variable (a1:A)
def T0 (U:Int):St:={ n:=26,sl:=[(0,.val (.aa u8) a1.1),(1,.val (.aa u8) a1.2.1),(5,.val i64 U)],vr:=[],ay:=[] }
def b0 (self:Int->P) (e0:(Unit)->P) (a1:A) (U:Int):P:=cond (decide (U < (a1.1.length:Int))) (if 0<=U then ((a1.1[U.toNat]?).bind λaT=>if 0<=U then ((a1.2.1[U.toNat]?).bind λjJ=>cond (!decide ((aT.toNat:Int)=(jJ.toNat:Int))) (some (false,()))<|self (af (U+1))) else none) else none)<|e0 ()
def q0 (a1:A) (fj:(Unit)):P:=some (true,())
def r0:(Int)->P:=al (λw v=>b0 w (q0 a1) a1 v) k
theorem aq:@Eq ((Int)->P) (λU=>D.L k [1,1,0,1,0,0] [0,1,5] [] (ak 0 (av (D.N k [1,1,1]) D.K0)) (T0 a1 U)) (r0 k a1):=
 funext λU=>ap _ _ _ (T0 a1) _ (λrec v=>Bye) k U
def p (l0:(Int)->P) (a1:A):P:=cond (!decide ((a1.1.length:Int)=(a1.2.1.length:Int))) (some (false,()))<|l0 0
theorem ae:@Eq P (D.W k a1) (p (r0 k a1) a1):=By8 (aq k a1) Bye
theorem ok:Ok prog 115 D.sig:=am func115 au Bye (aj _)
end nX
namespace s_
abbrev A:=(List Byt)×(List Byt)×Unit
abbrev O:=Bool×Unit
abbrev P:=Option O
noncomputable def D:FD:={ fn:=f52,tl:=a_,ps:=[(.ro,(.aa (.aa u8))),(.ro,(.aa (.aa u8)))],rs:=[(.bool,(ai .bool))],gl:=[(115,nX.D.sig)],lv:=[(4,[0,1,5])],lx:=[(0,[])],od:=[(6,[0,1,2,3,4,5,6,7,8,9])] }
def ab (a:A):P:=@lift O λk=>D.W k a
variable (a1:A)
def T0 (U:Int):St:={ n:=27,sl:=[(0,.val (.aa (.aa u8)) a1.1),(1,.val (.aa (.aa u8)) a1.2.1),(5,.val i64 U)],vr:=[],ay:=[] }
def b0 (self:Int->P) (e0:(Unit)->P) (a1:A) (U:Int):P:=cond (decide (U < (a1.1.length:Int))) (if 0<=U then ((a1.1[U.toNat]?).bind λaT=>if 0<=U then ((a1.2.1[U.toNat]?).bind λjJ=>(nX.ab (aT,jJ,())).bind λlV=>cond (!lV.1) (some (false,()))<|self (af (U+1))) else none) else none)<|e0 ()
def q0 (a1:A) (vW:(Unit)):P:=some (true,())
def r0:(Int)->P:=al (λw v=>b0 w (q0 a1) a1 v) k
theorem aq:@Eq ((Int)->P) (λU=>D.L k [1,1,0,1,0,0] [0,1,5] [] (ak 0 (av (D.N k [1,1,1]) D.K0)) (T0 a1 U)) (r0 k a1):=
 funext λU=>ap _ _ _ (T0 a1) _ (λrec v=>Bye) k U
def p (l0:(Int)->P) (a1:A):P:=cond (!decide ((a1.1.length:Int)=(a1.2.1.length:Int))) (some (false,()))<|l0 0
theorem ae:@Eq P (D.W k a1) (p (r0 k a1) a1):=By8 (aq k a1) Bye
theorem ok:Ok prog 52 D.sig:=am func52 au Bye (fc nX.ok (aj _))
end s_
namespace u7
abbrev A:=Log×Log×Unit
abbrev O:=Bool×Unit
noncomputable def D:FD:={ fn:=f53,tl:=a_,ps:=[(.ro,jc),(.ro,jc)],rs:=[(.bool,(ai .bool))],gl:=[(115,nX.D.sig)] }
def ab (a:A):Option O:=@lift O λk=>D.W k a
def p (a1:A):Option O:=(nX.ab (a1.1.1,a1.2.1.1,())).bind λr2=>cond (!r2.1) (some (false,()))<|(nX.ab (a1.1.2.1,a1.2.1.2.1,())).bind λr3=>cond (!r3.1) (some (false,()))<|some (true,())
theorem ae (a1:A):@Eq (Option O) (D.W k a1) (p a1):=Bye
theorem ok:Ok prog 53 D.sig:=am func53 au Bye (fc nX.ok (aj _))
end u7
namespace oo
abbrev A:=(List Int)×(List Int)×Unit
abbrev O:=Bool×Unit
abbrev P:=Option O
noncomputable def D:FD:={ fn:=f59,tl:=a_,ps:=[(.ro,(.aa i64)),(.ro,(.aa i64))],rs:=[(.bool,(ai .bool))],lv:=[(4,[0,1,5])],lx:=[(0,[])],od:=[(6,[0,1,2,3,4,5,6,7,8])] }
def ab (a:A):P:=@lift O λk=>D.W k a
variable (a1:A)
def T0 (U:Int):St:={ n:=26,sl:=[(0,.val (.aa i64) a1.1),(1,.val (.aa i64) a1.2.1),(5,.val i64 U)],vr:=[],ay:=[] }
def b0 (self:Int->P) (e0:(Unit)->P) (a1:A) (U:Int):P:=cond (decide (U < (a1.1.length:Int))) (if 0<=U then ((a1.1[U.toNat]?).bind λaT=>if 0<=U then ((a1.2.1[U.toNat]?).bind λjJ=>cond (!decide (aT=jJ)) (some (false,()))<|self (af (U+1))) else none) else none)<|e0 ()
def q0 (a1:A) (fj:(Unit)):P:=some (true,())
def r0:(Int)->P:=al (λw v=>b0 w (q0 a1) a1 v) k
theorem aq:@Eq ((Int)->P) (λU=>D.L k [1,1,0,1,0,0] [0,1,5] [] (ak 0 (av (D.N k [1,1,1]) D.K0)) (T0 a1 U)) (r0 k a1):=
 funext λU=>ap _ _ _ (T0 a1) _ (λrec v=>Bye) k U
def p (l0:(Int)->P) (a1:A):P:=cond (!decide ((a1.1.length:Int)=(a1.2.1.length:Int))) (some (false,()))<|l0 0
theorem ae:@Eq P (D.W k a1) (p (r0 k a1) a1):=By8 (aq k a1) Bye
theorem ok:Ok prog 59 D.sig:=am func59 au Bye (aj _)
end oo
namespace qa
abbrev A:=Row×Row×Unit
abbrev O:=Bool×Unit
noncomputable def D:FD:={ fn:=f122,tl:=a_,ps:=[(.ro,a8),(.ro,a8)],rs:=[(.bool,(ai .bool))] }
def ab (a:A):Option O:=@lift O λk=>D.W k a
def p (a1:A):Option O:=cond (!decide (a1.1.1=a1.2.1.1)) (some (false,()))<|cond (!decide (a1.1.2.1=a1.2.1.2.1)) (some (false,()))<|cond (!decide (a1.1.2.2.1=a1.2.1.2.2.1)) (some (false,()))<|cond (!decide (a1.1.2.2.2.1=a1.2.1.2.2.2.1)) (some (false,()))<|some (true,())
theorem ae (a1:A):@Eq (Option O) (D.W k a1) (p a1):=Bye
theorem ok:Ok prog 122 D.sig:=am func122 au Bye (aj _)
end qa
namespace qt
abbrev A:=Change×Change×Unit
abbrev O:=Bool×Unit
noncomputable def D:FD:={ fn:=f135,tl:=a_,ps:=[(.ro,aw),(.ro,aw)],rs:=[(.bool,(ai .bool))],gl:=[(122,qa.D.sig)] }
def ab (a:A):Option O:=@lift O λk=>D.W k a
def p (a1:A):Option O:=cond (!(a1.1.1 == a1.2.1.1)) (some (false,()))<|(qa.ab (a1.1.2.1,a1.2.1.2.1,())).bind λr2=>cond (!r2.1) (some (false,()))<|cond (!(a1.1.2.2.1 == a1.2.1.2.2.1)) (some (false,()))<|(qa.ab (a1.1.2.2.2.1,a1.2.1.2.2.2.1,())).bind λr3=>cond (!r3.1) (some (false,()))<|some (true,())
theorem ae (a1:A):@Eq (Option O) (D.W k a1) (p a1):=Bye
theorem ok:Ok prog 135 D.sig:=am func135 au Bye (fc qa.ok (aj _))
end qt
namespace sq
abbrev A:=(List Change)×(List Change)×Unit
abbrev O:=Bool×Unit
abbrev P:=Option O
noncomputable def D:FD:={ fn:=f73,tl:=a_,ps:=[(.ro,(.aa aw)),(.ro,(.aa aw))],rs:=[(.bool,(ai .bool))],gl:=[(135,qt.D.sig)],lv:=[(4,[0,1,5])],lx:=[(0,[])],od:=[(6,[0,1,2,3,4,5,6,7,8,9])] }
def ab (a:A):P:=@lift O λk=>D.W k a
variable (a1:A)
def T0 (U:Int):St:={ n:=27,sl:=[(0,.val (.aa aw) a1.1),(1,.val (.aa aw) a1.2.1),(5,.val i64 U)],vr:=[],ay:=[] }
def b0 (self:Int->P) (e0:(Unit)->P) (a1:A) (U:Int):P:=cond (decide (U < (a1.1.length:Int))) (if 0<=U then ((a1.1[U.toNat]?).bind λaT=>if 0<=U then ((a1.2.1[U.toNat]?).bind λjJ=>(qt.ab (aT,jJ,())).bind λlV=>cond (!lV.1) (some (false,()))<|self (af (U+1))) else none) else none)<|e0 ()
def q0 (a1:A) (vW:(Unit)):P:=some (true,())
def r0:(Int)->P:=al (λw v=>b0 w (q0 a1) a1 v) k
theorem aq:@Eq ((Int)->P) (λU=>D.L k [1,1,0,1,0,0] [0,1,5] [] (ak 0 (av (D.N k [1,1,1]) D.K0)) (T0 a1 U)) (r0 k a1):=
 funext λU=>ap _ _ _ (T0 a1) _ (λrec v=>Bye) k U
def p (l0:(Int)->P) (a1:A):P:=cond (!decide ((a1.1.length:Int)=(a1.2.1.length:Int))) (some (false,()))<|l0 0
theorem ae:@Eq P (D.W k a1) (p (r0 k a1) a1):=By8 (aq k a1) Bye
theorem ok:Ok prog 73 D.sig:=am func73 au Bye (fc qt.ok (aj _))
end sq
namespace tA
abbrev A:=Key×Key×Unit
abbrev O:=Bool×Unit
noncomputable def D:FD:={ fn:=f271,tl:=a_,ps:=[(.ro,be),(.ro,be)],rs:=[(.bool,(ai .bool))] }
def ab (a:A):Option O:=@lift O λk=>D.W k a
def p (a1:A):Option O:=cond (!decide (a1.1.1=a1.2.1.1)) (some (false,()))<|cond (!decide (a1.1.2.1=a1.2.1.2.1)) (some (false,()))<|some (true,())
theorem ae (a1:A):@Eq (Option O) (D.W k a1) (p a1):=Bye
theorem ok:Ok prog 271 D.sig:=am func271 au Bye (aj _)
end tA
namespace vQ
abbrev A:=(List Key)×(List Key)×Unit
abbrev O:=Bool×Unit
abbrev P:=Option O
noncomputable def D:FD:={ fn:=f199,tl:=a_,ps:=[(.ro,(.aa be)),(.ro,(.aa be))],rs:=[(.bool,(ai .bool))],gl:=[(271,tA.D.sig)],lv:=[(4,[0,1,5])],lx:=[(0,[])],od:=[(6,[0,1,2,3,4,5,6,7,8,9])] }
def ab (a:A):P:=@lift O λk=>D.W k a
variable (a1:A)
def T0 (U:Int):St:={ n:=27,sl:=[(0,.val (.aa be) a1.1),(1,.val (.aa be) a1.2.1),(5,.val i64 U)],vr:=[],ay:=[] }
def b0 (self:Int->P) (e0:(Unit)->P) (a1:A) (U:Int):P:=cond (decide (U < (a1.1.length:Int))) (if 0<=U then ((a1.1[U.toNat]?).bind λaT=>if 0<=U then ((a1.2.1[U.toNat]?).bind λjJ=>(tA.ab (aT,jJ,())).bind λlV=>cond (!lV.1) (some (false,()))<|self (af (U+1))) else none) else none)<|e0 ()
def q0 (a1:A) (vW:(Unit)):P:=some (true,())
def r0:(Int)->P:=al (λw v=>b0 w (q0 a1) a1 v) k
theorem aq:@Eq ((Int)->P) (λU=>D.L k [1,1,0,1,0,0] [0,1,5] [] (ak 0 (av (D.N k [1,1,1]) D.K0)) (T0 a1 U)) (r0 k a1):=
 funext λU=>ap _ _ _ (T0 a1) _ (λrec v=>Bye) k U
def p (l0:(Int)->P) (a1:A):P:=cond (!decide ((a1.1.length:Int)=(a1.2.1.length:Int))) (some (false,()))<|l0 0
theorem ae:@Eq P (D.W k a1) (p (r0 k a1) a1):=By8 (aq k a1) Bye
theorem ok:Ok prog 199 D.sig:=am func199 au Bye (fc tA.ok (aj _))
end vQ
namespace uK
abbrev A:=Tx×Tx×Unit
abbrev O:=Bool×Unit
noncomputable def D:FD:={ fn:=f116,tl:=a_,ps:=[(.ro,bp),(.ro,bp)],rs:=[(.bool,(ai .bool))],gl:=[(59,oo.D.sig),(73,sq.D.sig),(199,vQ.D.sig)] }
def ab (a:A):Option O:=@lift O λk=>D.W k a
def p (a1:A):Option O:=cond (!decide (a1.1.1=a1.2.1.1)) (some (false,()))<|(sq.ab (a1.1.2.1,a1.2.1.2.1,())).bind λr2=>cond (!r2.1) (some (false,()))<|(oo.ab (a1.1.2.2.1,a1.2.1.2.2.1,())).bind λr3=>cond (!r3.1) (some (false,()))<|(vQ.ab (a1.1.2.2.2.1,a1.2.1.2.2.2.1,())).bind λr4=>cond (!r4.1) (some (false,()))<|some (true,())
theorem ae (a1:A):@Eq (Option O) (D.W k a1) (p a1):=Bye
theorem ok:Ok prog 116 D.sig:=am func116 au Bye (fc oo.ok (fc sq.ok (fc vQ.ok (aj _))))
end uK
namespace w7
abbrev A:=(List Tx)×(List Tx)×Unit
abbrev O:=Bool×Unit
abbrev P:=Option O
noncomputable def D:FD:={ fn:=f54,tl:=a_,ps:=[(.ro,(.aa bp)),(.ro,(.aa bp))],rs:=[(.bool,(ai .bool))],gl:=[(116,uK.D.sig)],lv:=[(4,[0,1,5])],lx:=[(0,[])],od:=[(6,[0,1,2,3,4,5,6,7,8,9])] }
def ab (a:A):P:=@lift O λk=>D.W k a
variable (a1:A)
def T0 (U:Int):St:={ n:=27,sl:=[(0,.val (.aa bp) a1.1),(1,.val (.aa bp) a1.2.1),(5,.val i64 U)],vr:=[],ay:=[] }
def b0 (self:Int->P) (e0:(Unit)->P) (a1:A) (U:Int):P:=cond (decide (U < (a1.1.length:Int))) (if 0<=U then ((a1.1[U.toNat]?).bind λaT=>if 0<=U then ((a1.2.1[U.toNat]?).bind λjJ=>(uK.ab (aT,jJ,())).bind λlV=>cond (!lV.1) (some (false,()))<|self (af (U+1))) else none) else none)<|e0 ()
def q0 (a1:A) (vW:(Unit)):P:=some (true,())
def r0:(Int)->P:=al (λw v=>b0 w (q0 a1) a1 v) k
theorem aq:@Eq ((Int)->P) (λU=>D.L k [1,1,0,1,0,0] [0,1,5] [] (ak 0 (av (D.N k [1,1,1]) D.K0)) (T0 a1 U)) (r0 k a1):=
 funext λU=>ap _ _ _ (T0 a1) _ (λrec v=>Bye) k U
def p (l0:(Int)->P) (a1:A):P:=cond (!decide ((a1.1.length:Int)=(a1.2.1.length:Int))) (some (false,()))<|l0 0
theorem ae:@Eq P (D.W k a1) (p (r0 k a1) a1):=By8 (aq k a1) Bye
theorem ok:Ok prog 54 D.sig:=am func54 au Bye (fc uK.ok (aj _))
end w7
namespace sG
abbrev A:=az×az×Unit
abbrev O:=Bool×Unit
noncomputable def D:FD:={ fn:=f14,tl:=a_,ps:=[(.ro,dc),(.ro,dc)],rs:=[(.bool,(ai .bool))],gl:=[(52,s_.D.sig),(53,u7.D.sig),(54,w7.D.sig)] }
def ab (a:A):Option O:=@lift O λk=>D.W k a
def p (a1:A):Option O:=cond (!(a1.1.1 == a1.2.1.1)) (some (false,()))<|(s_.ab (a1.1.2.1,a1.2.1.2.1,())).bind λr2=>cond (!r2.1) (some (false,()))<|(u7.ab (a1.1.2.2.1,a1.2.1.2.2.1,())).bind λr3=>cond (!r3.1) (some (false,()))<|(w7.ab (a1.1.2.2.2.1,a1.2.1.2.2.2.1,())).bind λr4=>cond (!r4.1) (some (false,()))<|cond (!decide (a1.1.2.2.2.2.1=a1.2.1.2.2.2.2.1)) (some (false,()))<|some (true,())
theorem ae (a1:A):@Eq (Option O) (D.W k a1) (p a1):=Bye
theorem ok:Ok prog 14 D.sig:=am func14 au Bye (fc s_.ok (fc u7.ok (fc w7.ok (aj _))))
end sG
namespace mr
abbrev A:=Byt×Int×Unit
abbrev O:=Int×Byt×Unit
abbrev P:=Option O
noncomputable def D:FD:={ fn:=f117,tl:=a_,ps:=[(.lD (ah (.aa u8)),(.aa u8)),(.ro,i64)],rs:=[(i64,(ai i64))],es:=[0],lv:=[(2,[0,1,5])],lx:=[(0,[0,1])] }
def ab (a:A):P:=@lift O λk=>D.W k a
variable (a1:A)
def T0 (a1:A) (U:Byt×Int×Int):St:={ n:=20,sl:=[(0,.own (.aa u8) (ah (.aa u8)) [] U.1),(1,.val i64 U.2.1),(5,.val i64 U.2.2)],vr:=[],ay:=[(0,0,true)] }
def b0 (self:(Byt×Int×Int)->P) (e0:(Byt×Int)->P) (a1:A) (U:Byt×Int×Int):P:=cond (decide (U.2.2 < (U.1.length:Int))) (if 0<=U.2.2/\U.2.2 < (U.1.length:Int) then ((U.1[U.2.2.toNat]?).bind λaT=>let pQ:=U.1.set U.2.2.toNat (UInt8.ofInt U.2.1);self (pQ,af (U.2.1+1),af (U.2.2+1))) else none)<|e0 (U.1,U.2.1)
def q0 (a1:A) (fj:(Byt×Int)):P:=some (fj.2,fj.1,())
def r0:(Byt×Int×Int)->P:=al (λw v=>b0 w (q0 a1) a1 v) k
theorem aq:@Eq ((Byt×Int×Int)->P) (λU=>D.L k [1,0,1,0,0] [0,1,5] [] (ak 0 (av (D.N k [1,1]) D.K0)) (T0 a1 U)) (r0 k a1):=
 funext λU=>ap _ _ _ (T0 a1) _ (λrec v=>Bye) k U
def p (l0:(Byt×Int×Int)->P) (a1:A):P:=l0 (a1.1,a1.2.1,0)
theorem ae:@Eq P (D.W k a1) (p (r0 k a1) a1):=By8 (aq k a1) Bye
theorem ok:Ok prog 117 D.sig:=am func117 au Bye (aj _)
end mr
namespace rB
abbrev A:=(List Byt)×Int×Unit
abbrev O:=Int×(List Byt)×Unit
abbrev P:=Option O
noncomputable def D:FD:={ fn:=f55,tl:=a_,ps:=[(.lD (ah (.aa (.aa u8))),(.aa (.aa u8))),(.ro,i64)],rs:=[(i64,(ai i64))],gl:=[(117,mr.D.sig)],es:=[0],lv:=[(2,[0,1,5])],lx:=[(0,[0,1])] }
def ab (a:A):P:=@lift O λk=>D.W k a
variable (a1:A)
def T0 (a1:A) (U:(List Byt)×Int×Int):St:={ n:=19,sl:=[(0,.own (.aa (.aa u8)) (ah (.aa (.aa u8))) [] U.1),(1,.val i64 U.2.1),(5,.val i64 U.2.2)],vr:=[],ay:=[(0,0,true)] }
def b0 (self:((List Byt)×Int×Int)->P) (e0:((List Byt)×Int)->P) (a1:A) (U:(List Byt)×Int×Int):P:=cond (decide (U.2.2 < (U.1.length:Int))) (if 0<=U.2.2/\U.2.2 < (U.1.length:Int) then ((U.1[U.2.2.toNat]?).bind λaT=>(U.1[U.2.2.toNat]?).bind λjJ=>(U.1[U.2.2.toNat]?).bind λey=>(mr.ab (ey,U.2.1,())).bind λkV=>(U.1[U.2.2.toNat]?).bind λuW=>self (U.1.set U.2.2.toNat kV.2.1,kV.1,af (U.2.2+1))) else none)<|e0 (U.1,U.2.1)
def q0 (a1:A) (xR:((List Byt)×Int)):P:=some (xR.2,xR.1,())
def r0:((List Byt)×Int×Int)->P:=al (λw v=>b0 w (q0 a1) a1 v) k
theorem aq:@Eq (((List Byt)×Int×Int)->P) (λU=>D.L k [1,0,1,0,0] [0,1,5] [] (ak 0 (av (D.N k [1,1]) D.K0)) (T0 a1 U)) (r0 k a1):=
 funext λU=>ap _ _ _ (T0 a1) _ (λrec v=>Bye) k U
def p (l0:((List Byt)×Int×Int)->P) (a1:A):P:=l0 (a1.1,a1.2.1,0)
theorem ae:@Eq P (D.W k a1) (p (r0 k a1) a1):=By8 (aq k a1) Bye
theorem ok:Ok prog 55 D.sig:=am func55 au Bye (fc mr.ok (aj _))
end rB
namespace sH
abbrev A:=Log×Int×Unit
abbrev O:=Int×Log×Unit
noncomputable def D:FD:={ fn:=f56,tl:=a_,ps:=[(.lD (ah jc),jc),(.ro,i64)],rs:=[(i64,(ai i64))],gl:=[(117,mr.D.sig)],es:=[2] }
def ab (a:A):Option O:=@lift O λk=>D.W k a
def p (a1:A):Option O:=(mr.ab (a1.1.1,a1.2.1,())).bind λr2=>(mr.ab (a1.1.2.1,r2.1,())).bind λr3=>some (r3.1,(r2.2.1,r3.2.1,a1.1.2.2),())
theorem ae (a1:A):@Eq (Option O) (D.W k a1) (p a1):=Bye
theorem ok:Ok prog 56 D.sig:=am func56 au Bye (fc mr.ok (aj _))
end sH
namespace lA
abbrev A:=(List Int)×Int×Unit
abbrev O:=Int×(List Int)×Unit
abbrev P:=Option O
noncomputable def D:FD:={ fn:=f62,tl:=a_,ps:=[(.lD (ah (.aa i64)),(.aa i64)),(.ro,i64)],rs:=[(i64,(ai i64))],es:=[0],lv:=[(2,[0,1,5])],lx:=[(0,[0,1])] }
def ab (a:A):P:=@lift O λk=>D.W k a
variable (a1:A)
def T0 (a1:A) (U:(List Int)×Int×Int):St:={ n:=19,sl:=[(0,.own (.aa i64) (ah (.aa i64)) [] U.1),(1,.val i64 U.2.1),(5,.val i64 U.2.2)],vr:=[],ay:=[(0,0,true)] }
def b0 (self:((List Int)×Int×Int)->P) (e0:((List Int)×Int)->P) (a1:A) (U:(List Int)×Int×Int):P:=cond (decide (U.2.2 < (U.1.length:Int))) (if 0<=U.2.2/\U.2.2 < (U.1.length:Int) then ((U.1[U.2.2.toNat]?).bind λaT=>self (U.1.set U.2.2.toNat U.2.1,af (U.2.1+1),af (U.2.2+1))) else none)<|e0 (U.1,U.2.1)
def q0 (a1:A) (mZ:((List Int)×Int)):P:=some (mZ.2,mZ.1,())
def r0:((List Int)×Int×Int)->P:=al (λw v=>b0 w (q0 a1) a1 v) k
theorem aq:@Eq (((List Int)×Int×Int)->P) (λU=>D.L k [1,0,1,0,0] [0,1,5] [] (ak 0 (av (D.N k [1,1]) D.K0)) (T0 a1 U)) (r0 k a1):=
 funext λU=>ap _ _ _ (T0 a1) _ (λrec v=>Bye) k U
def p (l0:((List Int)×Int×Int)->P) (a1:A):P:=l0 (a1.1,a1.2.1,0)
theorem ae:@Eq P (D.W k a1) (p (r0 k a1) a1):=By8 (aq k a1) Bye
theorem ok:Ok prog 62 D.sig:=am func62 au Bye (aj _)
end lA
namespace dx
abbrev A:=Int×Unit
abbrev O:=Byt×Unit
abbrev P:=Option O
noncomputable def D:FD:={ fn:=f61,tl:=a_,ps:=[(.ro,i64)],rs:=[(.str,(ai .str))],lv:=[(4,[0,3])],lx:=[(0,[3])] }
def ab (a:A):P:=@lift O λk=>D.W k a
variable (a1:A)
def T0 (a1:A) (U:Int×Byt):St:={ n:=20,sl:=[(0,.val i64 U.1),(3,.val .str U.2)],vr:=[],ay:=[] }
def b0 (self:(Int×Byt)->P) (e0:Byt->P) (a1:A) (U:Int×Byt):P:=cond (decide (0 < U.1)) (if [UInt8.ofInt (af ((48:Int)+(U.1.tmod (10:Int))))].length+U.2.length<=cg then (self (af (U.1.tdiv 10),[UInt8.ofInt (af ((48:Int)+(U.1.tmod (10:Int))))]++U.2)) else none)<|e0 U.2
abbrev B0 (_:Nat):=b0
def q0 (a1:A) (acU:Byt):P:=if ([109]:Byt).length+acU.length<=cg then (some (([109]:Byt)++acU,())) else none
abbrev Q0 (_:Nat):=q0
def r0:(Int×Byt)->P:=al (λw v=>B0 k w (Q0 k a1) a1 v) k
theorem aq:@Eq ((Int×Byt)->P) (λU=>D.L k [1,1,1,0,0,0] [0,3] [] (ak 0 (av (D.N k [1,1,1,1]) D.K0)) (T0 a1 U)) (r0 k a1):=
 funext λU=>ap _ _ _ (T0 a1) _ (λrec v=>Bye) k U
def p (l0:(Int×Byt)->P) (a1:A):P:=cond (decide (a1.1<=0)) (some (([109,48]:Byt),()))<|l0 (a1.1,([]:Byt))
theorem ae:@Eq P (D.W k a1) (p (r0 k a1) a1):=By8 (aq k a1) Bye
theorem ok:Ok prog 61 D.sig:=am func61 au Bye (aj _)
end dx
namespace o7
abbrev A:=(List Change)×Int×Unit
abbrev O:=Int×(List Change)×Unit
abbrev P:=Option O
noncomputable def D:FD:={ fn:=f74,tl:=a_,ps:=[(.lD (ah (.aa aw)),(.aa aw)),(.ro,i64)],rs:=[(i64,(ai i64))],gl:=[(61,dx.D.sig)],es:=[0],lv:=[(2,[0,1,5])],lx:=[(0,[0,1])] }
def ab (a:A):P:=@lift O λk=>D.W k a
variable (a1:A)
def T0 (a1:A) (U:(List Change)×Int×Int):St:={ n:=97,sl:=[(0,.own (.aa aw) (ah (.aa aw)) [] U.1),(1,.val i64 U.2.1),(5,.val i64 U.2.2)],vr:=[],ay:=[(0,0,true)] }
def b0 (self:((List Change)×Int×Int)->P) (e0:((List Change)×Int)->P) (a1:A) (U:(List Change)×Int×Int):P:=cond (decide (U.2.2 < (U.1.length:Int))) (if 0<=U.2.2/\U.2.2 < (U.1.length:Int) then ((U.1[U.2.2.toNat]?).bind λaT=>let pQ:=U.1.set U.2.2.toNat (decide (U.2.1.tmod (3:Int)=0),aT.2);if 0<=U.2.2/\U.2.2 < (pQ.length:Int) then ((pQ[U.2.2.toNat]?).bind λey=>let xp:=pQ.set U.2.2.toNat (ey.1,(af (U.2.1+1),ey.2.1.2),ey.2.2);if 0<=U.2.2/\U.2.2 < (xp.length:Int) then ((xp[U.2.2.toNat]?).bind λuW=>let JO:=xp.set U.2.2.toNat (uW.1,(uW.2.1.1,af ((af (U.2.1+1))+1),uW.2.1.2.2),uW.2.2);if 0<=U.2.2/\U.2.2 < (JO.length:Int) then ((JO[U.2.2.toNat]?).bind λvY=>let y0:=JO.set U.2.2.toNat (vY.1,(vY.2.1.1,vY.2.1.2.1,af ((af ((af (U.2.1+1))+1))+1),vY.2.1.2.2.2),vY.2.2);(dx.ab (af ((af ((af ((af (U.2.1+1))+1))+1))+1),())).bind λZG=>if 0<=U.2.2/\U.2.2 < (y0.length:Int) then ((y0[U.2.2.toNat]?).bind λxS=>let Qe:=y0.set U.2.2.toNat (xS.1,(xS.2.1.1,xS.2.1.2.1,xS.2.1.2.2.1,ZG.1,xS.2.1.2.2.2.2),xS.2.2);if 0<=U.2.2/\U.2.2 < (Qe.length:Int) then ((Qe[U.2.2.toNat]?).bind λuX=>let Fg:=Qe.set U.2.2.toNat (uX.1,uX.2.1,decide ((af ((af ((af ((af ((af (U.2.1+1))+1))+1))+1))+1)).tmod (3:Int)=0),uX.2.2.2);if 0<=U.2.2/\U.2.2 < (Fg.length:Int) then ((Fg[U.2.2.toNat]?).bind λxq=>let JM:=Fg.set U.2.2.toNat (xq.1,xq.2.1,xq.2.2.1,(af ((af ((af ((af ((af ((af (U.2.1+1))+1))+1))+1))+1))+1),xq.2.2.2.1.2),xq.2.2.2.2);if 0<=U.2.2/\U.2.2 < (JM.length:Int) then ((JM[U.2.2.toNat]?).bind λwE=>let Qg:=JM.set U.2.2.toNat (wE.1,wE.2.1,wE.2.2.1,(wE.2.2.2.1.1,af ((af ((af ((af ((af ((af ((af (U.2.1+1))+1))+1))+1))+1))+1))+1),wE.2.2.2.1.2.2),wE.2.2.2.2);if 0<=U.2.2/\U.2.2 < (Qg.length:Int) then ((Qg[U.2.2.toNat]?).bind λFf=>let Cz:=Qg.set U.2.2.toNat (Ff.1,Ff.2.1,Ff.2.2.1,(Ff.2.2.2.1.1,Ff.2.2.2.1.2.1,af ((af ((af ((af ((af ((af ((af ((af (U.2.1+1))+1))+1))+1))+1))+1))+1))+1),Ff.2.2.2.1.2.2.2),Ff.2.2.2.2);(dx.ab (af ((af ((af ((af ((af ((af ((af ((af ((af (U.2.1+1))+1))+1))+1))+1))+1))+1))+1))+1),())).bind λaeI=>if 0<=U.2.2/\U.2.2 < (Cz.length:Int) then ((Cz[U.2.2.toNat]?).bind λG8=>let aeJ:=Cz.set U.2.2.toNat (G8.1,G8.2.1,G8.2.2.1,(G8.2.2.2.1.1,G8.2.2.2.1.2.1,G8.2.2.2.1.2.2.1,aeI.1,G8.2.2.2.1.2.2.2.2),G8.2.2.2.2);self (aeJ,af ((af ((af ((af ((af ((af ((af ((af ((af ((af (U.2.1+1))+1))+1))+1))+1))+1))+1))+1))+1))+1),af (U.2.2+1))) else none) else none) else none) else none) else none) else none) else none) else none) else none) else none)<|e0 (U.1,U.2.1)
def q0 (a1:A) (acV:((List Change)×Int)):P:=some (acV.2,acV.1,())
def r0:((List Change)×Int×Int)->P:=al (λw v=>b0 w (q0 a1) a1 v) k
theorem aq:@Eq (((List Change)×Int×Int)->P) (λU=>D.L k [1,0,1,0,0] [0,1,5] [] (ak 0 (av (D.N k [1,1]) D.K0)) (T0 a1 U)) (r0 k a1):=
 funext λU=>ap _ _ _ (T0 a1) _ (λrec v=>Bye) k U
def p (l0:((List Change)×Int×Int)->P) (a1:A):P:=l0 (a1.1,a1.2.1,0)
theorem ae:@Eq P (D.W k a1) (p (r0 k a1) a1):=By8 (aq k a1) Bye
theorem ok:Ok prog 74 D.sig:=am func74 au Bye (fc dx.ok (aj _))
end o7
namespace rK
abbrev A:=(List Key)×Int×Unit
abbrev O:=Int×(List Key)×Unit
abbrev P:=Option O
noncomputable def D:FD:={ fn:=f118,tl:=a_,ps:=[(.lD (ah (.aa be)),(.aa be)),(.ro,i64)],rs:=[(i64,(ai i64))],es:=[0],lv:=[(2,[0,1,5])],lx:=[(0,[0,1])] }
def ab (a:A):P:=@lift O λk=>D.W k a
variable (a1:A)
def T0 (a1:A) (U:(List Key)×Int×Int):St:={ n:=27,sl:=[(0,.own (.aa be) (ah (.aa be)) [] U.1),(1,.val i64 U.2.1),(5,.val i64 U.2.2)],vr:=[],ay:=[(0,0,true)] }
def b0 (self:((List Key)×Int×Int)->P) (e0:((List Key)×Int)->P) (a1:A) (U:(List Key)×Int×Int):P:=cond (decide (U.2.2 < (U.1.length:Int))) (if 0<=U.2.2/\U.2.2 < (U.1.length:Int) then ((U.1[U.2.2.toNat]?).bind λaT=>let pQ:=U.1.set U.2.2.toNat (U.2.1,aT.2);if 0<=U.2.2/\U.2.2 < (pQ.length:Int) then ((pQ[U.2.2.toNat]?).bind λey=>let xp:=pQ.set U.2.2.toNat (ey.1,af (U.2.1+1),ey.2.2);self (xp,af ((af (U.2.1+1))+1),af (U.2.2+1))) else none) else none)<|e0 (U.1,U.2.1)
def q0 (a1:A) (nt:((List Key)×Int)):P:=some (nt.2,nt.1,())
def r0:((List Key)×Int×Int)->P:=al (λw v=>b0 w (q0 a1) a1 v) k
theorem aq:@Eq (((List Key)×Int×Int)->P) (λU=>D.L k [1,0,1,0,0] [0,1,5] [] (ak 0 (av (D.N k [1,1]) D.K0)) (T0 a1 U)) (r0 k a1):=
 funext λU=>ap _ _ _ (T0 a1) _ (λrec v=>Bye) k U
def p (l0:((List Key)×Int×Int)->P) (a1:A):P:=l0 (a1.1,a1.2.1,0)
theorem ae:@Eq P (D.W k a1) (p (r0 k a1) a1):=By8 (aq k a1) Bye
theorem ok:Ok prog 118 D.sig:=am func118 au Bye (aj _)
end rK
namespace uu
abbrev A:=(List Tx)×Int×Unit
abbrev O:=Int×(List Tx)×Unit
abbrev P:=Option O
noncomputable def D:FD:={ fn:=f57,tl:=a_,ps:=[(.lD (ah (.aa bp)),(.aa bp)),(.ro,i64)],rs:=[(i64,(ai i64))],gl:=[(62,lA.D.sig),(74,o7.D.sig),(118,rK.D.sig)],es:=[0],lv:=[(2,[0,1,5])],lx:=[(0,[0,1])] }
def ab (a:A):P:=@lift O λk=>D.W k a
variable (a1:A)
def T0 (a1:A) (U:(List Tx)×Int×Int):St:={ n:=41,sl:=[(0,.own (.aa bp) (ah (.aa bp)) [] U.1),(1,.val i64 U.2.1),(5,.val i64 U.2.2)],vr:=[],ay:=[(0,0,true)] }
def b0 (self:((List Tx)×Int×Int)->P) (e0:((List Tx)×Int)->P) (a1:A) (U:(List Tx)×Int×Int):P:=cond (decide (U.2.2 < (U.1.length:Int))) (if 0<=U.2.2/\U.2.2 < (U.1.length:Int) then ((U.1[U.2.2.toNat]?).bind λaT=>let pQ:=U.1.set U.2.2.toNat (U.2.1,aT.2);if 0<=U.2.2/\U.2.2 < (pQ.length:Int) then ((pQ[U.2.2.toNat]?).bind λey=>(pQ[U.2.2.toNat]?).bind λuT=>(pQ[U.2.2.toNat]?).bind λuW=>(o7.ab (uW.2.1,af (U.2.1+1),())).bind λri=>(pQ[U.2.2.toNat]?).bind λvY=>let y0:=pQ.set U.2.2.toNat (vY.1,ri.2.1,vY.2.2);if 0<=U.2.2/\U.2.2 < (y0.length:Int) then ((y0[U.2.2.toNat]?).bind λwD=>(y0[U.2.2.toNat]?).bind λxS=>(y0[U.2.2.toNat]?).bind λG6=>(lA.ab (G6.2.2.1,ri.1,())).bind λCw=>(y0[U.2.2.toNat]?).bind λFc=>let MD:=y0.set U.2.2.toNat (Fc.1,Fc.2.1,Cw.2.1,Fc.2.2.2);if 0<=U.2.2/\U.2.2 < (MD.length:Int) then ((MD[U.2.2.toNat]?).bind λG4=>(MD[U.2.2.toNat]?).bind λwE=>(MD[U.2.2.toNat]?).bind λaeK=>(rK.ab (aeK.2.2.2.1,Cw.1,())).bind λVn=>(MD[U.2.2.toNat]?).bind λVC=>let aeL:=MD.set U.2.2.toNat (VC.1,VC.2.1,VC.2.2.1,Vn.2.1,VC.2.2.2.2);self (aeL,Vn.1,af (U.2.2+1))) else none) else none) else none) else none)<|e0 (U.1,U.2.1)
def q0 (a1:A) (acW:((List Tx)×Int)):P:=some (acW.2,acW.1,())
def r0:((List Tx)×Int×Int)->P:=al (λw v=>b0 w (q0 a1) a1 v) k
theorem aq:@Eq (((List Tx)×Int×Int)->P) (λU=>D.L k [1,0,1,0,0] [0,1,5] [] (ak 0 (av (D.N k [1,1]) D.K0)) (T0 a1 U)) (r0 k a1):=
 funext λU=>ap _ _ _ (T0 a1) _ (λrec v=>Bye) k U
def p (l0:((List Tx)×Int×Int)->P) (a1:A):P:=l0 (a1.1,a1.2.1,0)
theorem ae:@Eq P (D.W k a1) (p (r0 k a1) a1):=By8 (aq k a1) Bye
theorem ok:Ok prog 57 D.sig:=am func57 au Bye (fc lA.ok (fc o7.ok (fc rK.ok (aj _))))
end uu
namespace qH
abbrev A:=az×Int×Unit
abbrev O:=Int×az×Unit
noncomputable def D:FD:={ fn:=f15,tl:=a_,ps:=[(.lD (ah dc),dc),(.ro,i64)],rs:=[(i64,(ai i64))],gl:=[(55,rB.D.sig),(56,sH.D.sig),(57,uu.D.sig)],es:=[2] }
def ab (a:A):Option O:=@lift O λk=>D.W k a
def p (a1:A):Option O:=(rB.ab (a1.1.2.1,a1.2.1,())).bind λr2=>(sH.ab (a1.1.2.2.1,r2.1,())).bind λr3=>(uu.ab (a1.1.2.2.2.1,r3.1,())).bind λr4=>some (r4.1,(a1.1.1,r2.2.1,r3.2.1,r4.2.1,a1.1.2.2.2.2),())
theorem ae (a1:A):@Eq (Option O) (D.W k a1) (p a1):=Bye
theorem ok:Ok prog 15 D.sig:=am func15 au Bye (fc rB.ok (fc sH.ok (fc uu.ok (aj _))))
end qH
namespace mt
abbrev A:=Byt×Int×Unit
abbrev O:=Int×Unit
abbrev P:=Option O
noncomputable def D:FD:={ fn:=f200,tl:=a_,ps:=[(.ro,(.aa u8)),(.ro,i64)],rs:=[(i64,(ai i64))],lv:=[(2,[0,1,5])],lx:=[(0,[1])] }
def ab (a:A):P:=@lift O λk=>D.W k a
variable (a1:A)
def T0 (U:Int×Int):St:={ n:=22,sl:=[(0,.val (.aa u8) a1.1),(1,.val i64 U.1),(5,.val i64 U.2)],vr:=[],ay:=[] }
def b0 (self:(Int×Int)->P) (e0:Int->P) (a1:A) (U:Int×Int):P:=cond (decide (U.2 < (a1.1.length:Int))) (if 0<=U.2 then ((a1.1[U.2.toNat]?).bind λaT=>cond (!decide ((aT.toNat:Int)=((UInt8.ofInt U.1).toNat:Int))) (some ((-1),()))<|self (af (U.1+1),af (U.2+1))) else none)<|e0 U.1
def q0 (a1:A) (mZ:Int):P:=some (mZ,())
def r0:(Int×Int)->P:=al (λw v=>b0 w (q0 a1) a1 v) k
theorem aq:@Eq ((Int×Int)->P) (λU=>D.L k [1,0,1,0,0] [0,1,5] [] (ak 0 (av (D.N k [1,1]) D.K0)) (T0 a1 U)) (r0 k a1):=
 funext λU=>ap _ _ _ (T0 a1) _ (λrec v=>Bye) k U
def p (l0:(Int×Int)->P) (a1:A):P:=l0 (a1.2.1,0)
theorem ae:@Eq P (D.W k a1) (p (r0 k a1) a1):=By8 (aq k a1) Bye
theorem ok:Ok prog 200 D.sig:=am func200 au Bye (aj _)
end mt
namespace rC
abbrev A:=(List Byt)×Int×Unit
abbrev O:=Int×Unit
abbrev P:=Option O
noncomputable def D:FD:={ fn:=f119,tl:=a_,ps:=[(.ro,(.aa (.aa u8))),(.ro,i64)],rs:=[(i64,(ai i64))],gl:=[(200,mt.D.sig)],lv:=[(2,[0,1,5])],lx:=[(0,[1])] }
def ab (a:A):P:=@lift O λk=>D.W k a
variable (a1:A)
def T0 (U:Int×Int):St:={ n:=21,sl:=[(0,.val (.aa (.aa u8)) a1.1),(1,.val i64 U.1),(5,.val i64 U.2)],vr:=[],ay:=[] }
def b0 (self:(Int×Int)->P) (e0:Int->P) (a1:A) (U:Int×Int):P:=cond (decide (U.2 < (a1.1.length:Int))) (if 0<=U.2 then ((a1.1[U.2.toNat]?).bind λaT=>(mt.ab (aT,U.1,())).bind λdq=>cond (decide (dq.1 < 0)) (some ((-1),()))<|self (dq.1,af (U.2+1))) else none)<|e0 U.1
def q0 (a1:A) (fj:Int):P:=some (fj,())
def r0:(Int×Int)->P:=al (λw v=>b0 w (q0 a1) a1 v) k
theorem aq:@Eq ((Int×Int)->P) (λU=>D.L k [1,0,1,0,0] [0,1,5] [] (ak 0 (av (D.N k [1,1]) D.K0)) (T0 a1 U)) (r0 k a1):=
 funext λU=>ap _ _ _ (T0 a1) _ (λrec v=>Bye) k U
def p (l0:(Int×Int)->P) (a1:A):P:=l0 (a1.2.1,0)
theorem ae:@Eq P (D.W k a1) (p (r0 k a1) a1):=By8 (aq k a1) Bye
theorem ok:Ok prog 119 D.sig:=am func119 au Bye (fc mt.ok (aj _))
end rC
namespace sI
abbrev A:=Log×Int×Unit
abbrev O:=Int×Unit
noncomputable def D:FD:={ fn:=f120,tl:=a_,ps:=[(.ro,jc),(.ro,i64)],rs:=[(i64,(ai i64))],gl:=[(200,mt.D.sig)] }
def ab (a:A):Option O:=@lift O λk=>D.W k a
def p (a1:A):Option O:=(mt.ab (a1.1.1,a1.2.1,())).bind λr2=>cond (decide (r2.1 < 0)) (some ((-1),()))<|(mt.ab (a1.1.2.1,r2.1,())).bind λr3=>cond (decide (r3.1 < 0)) (some ((-1),()))<|some (r3.1,())
theorem ae (a1:A):@Eq (Option O) (D.W k a1) (p a1):=Bye
theorem ok:Ok prog 120 D.sig:=am func120 au Bye (fc mt.ok (aj _))
end sI
namespace lB
abbrev A:=(List Int)×Int×Unit
abbrev O:=Int×Unit
abbrev P:=Option O
noncomputable def D:FD:={ fn:=f63,tl:=a_,ps:=[(.ro,(.aa i64)),(.ro,i64)],rs:=[(i64,(ai i64))],lv:=[(2,[0,1,5])],lx:=[(0,[1])] }
def ab (a:A):P:=@lift O λk=>D.W k a
variable (a1:A)
def T0 (U:Int×Int):St:={ n:=21,sl:=[(0,.val (.aa i64) a1.1),(1,.val i64 U.1),(5,.val i64 U.2)],vr:=[],ay:=[] }
def b0 (self:(Int×Int)->P) (e0:Int->P) (a1:A) (U:Int×Int):P:=cond (decide (U.2 < (a1.1.length:Int))) (if 0<=U.2 then ((a1.1[U.2.toNat]?).bind λaT=>cond (!decide (aT=U.1)) (some ((-1),()))<|self (af (U.1+1),af (U.2+1))) else none)<|e0 U.1
def q0 (a1:A) (mZ:Int):P:=some (mZ,())
def r0:(Int×Int)->P:=al (λw v=>b0 w (q0 a1) a1 v) k
theorem aq:@Eq ((Int×Int)->P) (λU=>D.L k [1,0,1,0,0] [0,1,5] [] (ak 0 (av (D.N k [1,1]) D.K0)) (T0 a1 U)) (r0 k a1):=
 funext λU=>ap _ _ _ (T0 a1) _ (λrec v=>Bye) k U
def p (l0:(Int×Int)->P) (a1:A):P:=l0 (a1.2.1,0)
theorem ae:@Eq P (D.W k a1) (p (r0 k a1) a1):=By8 (aq k a1) Bye
theorem ok:Ok prog 63 D.sig:=am func63 au Bye (aj _)
end lB
namespace o8
abbrev A:=(List Change)×Int×Unit
abbrev O:=Int×Unit
abbrev P:=Option O
noncomputable def D:FD:={ fn:=f201,tl:=a_,ps:=[(.ro,(.aa aw)),(.ro,i64)],rs:=[(i64,(ai i64))],gl:=[(61,dx.D.sig)],lv:=[(2,[0,1,5])],lx:=[(0,[1])],od:=[(16,[0,1,2,3,4,5,6,7,8]),(31,[0,1,2,3,4,5,6,7,8])] }
def ab (a:A):P:=@lift O λk=>D.W k a
variable (a1:A)
def T0 (U:Int×Int):St:={ n:=117,sl:=[(0,.val (.aa aw) a1.1),(1,.val i64 U.1),(5,.val i64 U.2)],vr:=[],ay:=[] }
def b0 (self:(Int×Int)->P) (e0:Int->P) (a1:A) (U:Int×Int):P:=cond (decide (U.2 < (a1.1.length:Int))) (if 0<=U.2 then ((a1.1[U.2.toNat]?).bind λaT=>cond (!(aT.1 == (decide (U.1.tmod (3:Int)=0)))) (some ((-1),()))<|if 0<=U.2 then ((a1.1[U.2.toNat]?).bind λjJ=>cond (!decide (jJ.2.1.1=af (U.1+1))) (some ((-1),()))<|if 0<=U.2 then ((a1.1[U.2.toNat]?).bind λey=>cond (!decide (ey.2.1.2.1=af ((af (U.1+1))+1))) (some ((-1),()))<|if 0<=U.2 then ((a1.1[U.2.toNat]?).bind λuT=>cond (!decide (uT.2.1.2.2.1=af ((af ((af (U.1+1))+1))+1))) (some ((-1),()))<|if 0<=U.2 then ((a1.1[U.2.toNat]?).bind λuW=>(dx.ab (af ((af ((af ((af (U.1+1))+1))+1))+1),())).bind λri=>cond (!decide (uW.2.1.2.2.2.1=ri.1)) (some ((-1),()))<|if 0<=U.2 then ((a1.1[U.2.toNat]?).bind λvY=>cond (!(vY.2.2.1 == (decide ((af ((af ((af ((af ((af (U.1+1))+1))+1))+1))+1)).tmod (3:Int)=0)))) (some ((-1),()))<|if 0<=U.2 then ((a1.1[U.2.toNat]?).bind λQd=>cond (!decide (Qd.2.2.2.1.1=af ((af ((af ((af ((af ((af (U.1+1))+1))+1))+1))+1))+1))) (some ((-1),()))<|if 0<=U.2 then ((a1.1[U.2.toNat]?).bind λwD=>cond (!decide (wD.2.2.2.1.2.1=af ((af ((af ((af ((af ((af ((af (U.1+1))+1))+1))+1))+1))+1))+1))) (some ((-1),()))<|if 0<=U.2 then ((a1.1[U.2.toNat]?).bind λxS=>cond (!decide (xS.2.2.2.1.2.2.1=af ((af ((af ((af ((af ((af ((af ((af (U.1+1))+1))+1))+1))+1))+1))+1))+1))) (some ((-1),()))<|if 0<=U.2 then ((a1.1[U.2.toNat]?).bind λG6=>(dx.ab (af ((af ((af ((af ((af ((af ((af ((af ((af (U.1+1))+1))+1))+1))+1))+1))+1))+1))+1),())).bind λCw=>cond (!decide (G6.2.2.2.1.2.2.2.1=Cw.1)) (some ((-1),()))<|self (af ((af ((af ((af ((af ((af ((af ((af ((af ((af (U.1+1))+1))+1))+1))+1))+1))+1))+1))+1))+1),af (U.2+1))) else none) else none) else none) else none) else none) else none) else none) else none) else none) else none)<|e0 U.1
def q0 (a1:A) (MC:Int):P:=some (MC,())
def r0:(Int×Int)->P:=al (λw v=>b0 w (q0 a1) a1 v) k
theorem aq:@Eq ((Int×Int)->P) (λU=>D.L k [1,0,1,0,0] [0,1,5] [] (ak 0 (av (D.N k [1,1]) D.K0)) (T0 a1 U)) (r0 k a1):=
 funext λU=>ap _ _ _ (T0 a1) _ (λrec v=>Bye) k U
def p (l0:(Int×Int)->P) (a1:A):P:=l0 (a1.2.1,0)
theorem ae:@Eq P (D.W k a1) (p (r0 k a1) a1):=By8 (aq k a1) Bye
theorem ok:Ok prog 201 D.sig:=am func201 au Bye (fc dx.ok (aj _))
end o8
namespace rL
abbrev A:=(List Key)×Int×Unit
abbrev O:=Int×Unit
abbrev P:=Option O
noncomputable def D:FD:={ fn:=f202,tl:=a_,ps:=[(.ro,(.aa be)),(.ro,i64)],rs:=[(i64,(ai i64))],lv:=[(2,[0,1,5])],lx:=[(0,[1])] }
def ab (a:A):P:=@lift O λk=>D.W k a
variable (a1:A)
def T0 (U:Int×Int):St:={ n:=31,sl:=[(0,.val (.aa be) a1.1),(1,.val i64 U.1),(5,.val i64 U.2)],vr:=[],ay:=[] }
def b0 (self:(Int×Int)->P) (e0:Int->P) (a1:A) (U:Int×Int):P:=cond (decide (U.2 < (a1.1.length:Int))) (if 0<=U.2 then ((a1.1[U.2.toNat]?).bind λaT=>cond (!decide (aT.1=U.1)) (some ((-1),()))<|if 0<=U.2 then ((a1.1[U.2.toNat]?).bind λjJ=>cond (!decide (jJ.2.1=af (U.1+1))) (some ((-1),()))<|self (af ((af (U.1+1))+1),af (U.2+1))) else none) else none)<|e0 U.1
def q0 (a1:A) (fj:Int):P:=some (fj,())
def r0:(Int×Int)->P:=al (λw v=>b0 w (q0 a1) a1 v) k
theorem aq:@Eq ((Int×Int)->P) (λU=>D.L k [1,0,1,0,0] [0,1,5] [] (ak 0 (av (D.N k [1,1]) D.K0)) (T0 a1 U)) (r0 k a1):=
 funext λU=>ap _ _ _ (T0 a1) _ (λrec v=>Bye) k U
def p (l0:(Int×Int)->P) (a1:A):P:=l0 (a1.2.1,0)
theorem ae:@Eq P (D.W k a1) (p (r0 k a1) a1):=By8 (aq k a1) Bye
theorem ok:Ok prog 202 D.sig:=am func202 au Bye (aj _)
end rL
namespace uw
abbrev A:=(List Tx)×Int×Unit
abbrev O:=Int×Unit
abbrev P:=Option O
noncomputable def D:FD:={ fn:=f121,tl:=a_,ps:=[(.ro,(.aa bp)),(.ro,i64)],rs:=[(i64,(ai i64))],gl:=[(63,lB.D.sig),(201,o8.D.sig),(202,rL.D.sig)],lv:=[(2,[0,1,5])],lx:=[(0,[1])] }
def ab (a:A):P:=@lift O λk=>D.W k a
variable (a1:A)
def T0 (U:Int×Int):St:={ n:=49,sl:=[(0,.val (.aa bp) a1.1),(1,.val i64 U.1),(5,.val i64 U.2)],vr:=[],ay:=[] }
def b0 (self:(Int×Int)->P) (e0:Int->P) (a1:A) (U:Int×Int):P:=cond (decide (U.2 < (a1.1.length:Int))) (if 0<=U.2 then ((a1.1[U.2.toNat]?).bind λaT=>cond (!decide (aT.1=U.1)) (some ((-1),()))<|if 0<=U.2 then ((a1.1[U.2.toNat]?).bind λjJ=>(o8.ab (jJ.2.1,af (U.1+1),())).bind λlV=>cond (decide (lV.1 < 0)) (some ((-1),()))<|if 0<=U.2 then ((a1.1[U.2.toNat]?).bind λuT=>(lB.ab (uT.2.2.1,lV.1,())).bind λlU=>cond (decide (lU.1 < 0)) (some ((-1),()))<|if 0<=U.2 then ((a1.1[U.2.toNat]?).bind λE5=>(rL.ab (E5.2.2.2.1,lU.1,())).bind λE_=>cond (decide (E_.1 < 0)) (some ((-1),()))<|self (E_.1,af (U.2+1))) else none) else none) else none) else none)<|e0 U.1
def q0 (a1:A) (ZE:Int):P:=some (ZE,())
def r0:(Int×Int)->P:=al (λw v=>b0 w (q0 a1) a1 v) k
theorem aq:@Eq ((Int×Int)->P) (λU=>D.L k [1,0,1,0,0] [0,1,5] [] (ak 0 (av (D.N k [1,1]) D.K0)) (T0 a1 U)) (r0 k a1):=
 funext λU=>ap _ _ _ (T0 a1) _ (λrec v=>Bye) k U
def p (l0:(Int×Int)->P) (a1:A):P:=l0 (a1.2.1,0)
theorem ae:@Eq P (D.W k a1) (p (r0 k a1) a1):=By8 (aq k a1) Bye
theorem ok:Ok prog 121 D.sig:=am func121 au Bye (fc lB.ok (fc o8.ok (fc rL.ok (aj _))))
end uw
namespace qI
abbrev A:=az×Int×Unit
abbrev O:=Int×Unit
noncomputable def D:FD:={ fn:=f58,tl:=a_,ps:=[(.ro,dc),(.ro,i64)],rs:=[(i64,(ai i64))],gl:=[(119,rC.D.sig),(120,sI.D.sig),(121,uw.D.sig)] }
def ab (a:A):Option O:=@lift O λk=>D.W k a
def p (a1:A):Option O:=(rC.ab (a1.1.2.1,a1.2.1,())).bind λr2=>cond (decide (r2.1 < 0)) (some ((-1),()))<|(sI.ab (a1.1.2.2.1,r2.1,())).bind λr3=>cond (decide (r3.1 < 0)) (some ((-1),()))<|(uw.ab (a1.1.2.2.2.1,r3.1,())).bind λr4=>cond (decide (r4.1 < 0)) (some ((-1),()))<|some (r4.1,())
theorem ae (a1:A):@Eq (Option O) (D.W k a1) (p a1):=Bye
theorem ok:Ok prog 58 D.sig:=am func58 au Bye (fc rC.ok (fc sI.ok (fc uw.ok (aj _))))
end qI
namespace w8
abbrev A:=(List Op)×Int×Unit
abbrev O:=Int×Unit
abbrev P:=Option O
noncomputable def D:FD:={ fn:=f18,tl:=a_,ps:=[(.ro,(.aa il)),(.ro,i64)],rs:=[(i64,(ai i64))],gl:=[(8,tq.D.sig)],lv:=[(5,[0,1,5])],lx:=[(0,[1])] }
def ab (a:A):P:=@lift O λk=>D.W k a
variable (a1:A)
def T0 (U:Int×Int):St:={ n:=27,sl:=[(0,.val (.aa il) a1.1),(1,.val i64 U.1),(5,.val i64 U.2)],vr:=[],ay:=[] }
def b0 (self:(Int×Int)->P) (e0:Int->P) (a1:A) (U:Int×Int):P:=cond (decide (U.2 < (a1.1.length:Int))) (if 0<=U.2 then ((a1.1[U.2.toNat]?).bind λaT=>(tq.ab (aT,U.1,())).bind λdq=>cond (decide (dq.1 < 0)) (some ((-1),()))<|self (dq.1,af (U.2+1))) else none)<|e0 U.1
def q0 (a1:A) (fj:Int):P:=some (fj,())
def r0:(Int×Int)->P:=al (λw v=>b0 w (q0 a1) a1 v) k
theorem aq:@Eq ((Int×Int)->P) (λU=>D.L k [1,1,1,0,1,0,0] [0,1,5] [] (ak 0 (av (D.N k [1,1,1,1]) D.K0)) (T0 a1 U)) (r0 k a1):=
 funext λU=>ap _ _ _ (T0 a1) _ (λrec v=>Bye) k U
def p (l0:(Int×Int)->P) (a1:A):P:=cond (decide (af (a1.2.1 - (a1.1.length:Int)) < 0)) (some ((-1),()))<|l0 (af (a1.2.1 - (a1.1.length:Int)),0)
theorem ae:@Eq P (D.W k a1) (p (r0 k a1) a1):=By8 (aq k a1) Bye
theorem ok:Ok prog 18 D.sig:=am func18 au Bye (fc tq.ok (aj _))
end w8
namespace lj
abbrev A:=(List Op)×Unit
abbrev O:=eu×Unit
abbrev P:=Option O
noncomputable def D:FD:={ fn:=f19,tl:=a_,ps:=[(.ro,(.aa il))],rs:=[(jy,Btt)],gl:=[(41,oV.D.sig)],fz:=[(7,1,7)],lv:=[(5,[0,2,3,4])],lx:=[(0,[2,3])],lf:=[(5,[(3,Byd)])],od:=[(7,[0,1,2,3,4,5,6,7])],ar:=[(7,[])],pd:=[(7,[6])],er:=[(7,[(1,8)])] }
def ab (a:A):P:=@lift O λk=>D.W k a
variable (a1:A)
def T0 (U:eu×Int):St:={ n:=45,sl:=[(0,.val (.aa il) a1.1),(2,.box jy (ah jy) [] ((0:Int),([]:List Int),([]:List Int),(false,([]:List Byt),(([]:Byt),([]:Byt),()),([]:List Tx),(0:Int),()),())),(3,.box jy Btt [] U.1),(4,.val i64 U.2)],vr:=[],ay:=[] }
def b0 (self:(eu×Int)->P) (e0:eu->P) (a1:A) (U:eu×Int):P:=cond (decide (U.2 < (a1.1.length:Int))) (if 0<=U.2 then ((a1.1[U.2.toNat]?).bind λaT=>(oV.ab (U.1.2.2.2.1,aT,())).bind λdq=>if U.1.2.1.length+[dq.1.1].length<=cg then (if U.1.2.2.1.length+[dq.1.2.1].length<=cg then (cond (decide (dq.1.1=0)) (self ((U.1.1,U.1.2.1++[dq.1.1],U.1.2.2.1++[dq.1.2.1],dq.1.2.2.1,U.1.2.2.2.2),af (U.2+1)))<|self ((U.1.1,U.1.2.1++[dq.1.1],U.1.2.2.1++[dq.1.2.1],U.1.2.2.2),af (U.2+1))) else none) else none) else none)<|e0 U.1
def q0 (a1:A) (fj:eu):P:=some (fj,())
def r0:(eu×Int)->P:=al (λw v=>b0 w (q0 a1) a1 v) k
theorem aq:@Eq ((eu×Int)->P) (λU=>D.L k [1,1,1,0,1,0,0] [0,2,3,4] [(3,Byd)] (ak 0 (av (D.N k [1,1,1,1]) D.K0)) (T0 a1 U)) (r0 k a1):=
 funext λU=>ap _ _ _ (T0 a1) _ (λrec v=>Bye) k U
def p (l0:(eu×Int)->P) (a1:A):P:=cond (decide (60 < (a1.1.length:Int))) (some ((2,([]:List Int),([]:List Int),(false,([]:List Byt),(([]:Byt),([]:Byt),()),([]:List Tx),0,()),()),()))<|l0 ((0,([]:List Int),([]:List Int),(true,([]:List Byt),(([]:Byt),([]:Byt),()),([]:List Tx),1,()),()),0)
theorem ae:@Eq P (D.W k a1) (p (r0 k a1) a1):=By8 (aq k a1) Bye
theorem ok:Ok prog 19 D.sig:=am func19 au Bye (fc oV.ok (aj _))
end lj
namespace rZ
abbrev A:=(List Op)×Unit
abbrev O:=(List Op)×Unit
abbrev P:=Option O
noncomputable def D:FD:={ fn:=f20,tl:=a_,ps:=[(.ro,(.aa il))],rs:=[((.aa il),(ah (.aa il)))],gl:=[(11,uI.D.sig)],lv:=[(3,[0,3,4])],lx:=[(0,[3])] }
def ab (a:A):P:=@lift O λk=>D.W k a
variable (a1:A)
def T0 (U:(List Op)×Int):St:={ n:=23,sl:=[(0,.val (.aa il) a1.1),(3,.own (.aa il) (ah (.aa il)) [] U.1),(4,.val i64 U.2)],vr:=[],ay:=[] }
def b0 (self:((List Op)×Int)->P) (e0:(List Op)->P) (a1:A) (U:(List Op)×Int):P:=cond (decide (U.2 < (a1.1.length:Int))) (if 0<=U.2 then ((a1.1[U.2.toNat]?).bind λaT=>(uI.ab (aT,())).bind λdq=>if 0<=U.2/\U.2 < (U.1.length:Int) then ((U.1[U.2.toNat]?).bind λey=>self (U.1.set U.2.toNat dq.1,af (U.2+1))) else none) else none)<|e0 U.1
def q0 (a1:A) (vW:(List Op)):P:=some (vW,())
def r0:((List Op)×Int)->P:=al (λw v=>b0 w (q0 a1) a1 v) k
theorem aq:@Eq (((List Op)×Int)->P) (λU=>D.L k [1,1,0,1,0,0] [0,3,4] [] (ak 0 (av (D.N k [1,1,1]) D.K0)) (T0 a1 U)) (r0 k a1):=
 funext λU=>ap _ _ _ (T0 a1) _ (λrec v=>Bye) k U
def p (l0:((List Op)×Int)->P) (a1:A):P:=if 0<=(a1.1.length:Int)/\(a1.1.length:Int)<=(a1.1.length:Int)/\(a1.1.length:Int)<=(cg:Int) then (l0 (List.replicate (a1.1.length:Int).toNat (0,0,(0,0,0,([]:Byt),()),0,()),0)) else none
theorem ae:@Eq P (D.W k a1) (p (r0 k a1) a1):=By8 (aq k a1) Bye
theorem ok:Ok prog 20 D.sig:=am func20 au Bye (fc uI.ok (aj _))
end rZ
namespace kH
abbrev A:=(List Op)×Unit
abbrev O:=eu×Unit
abbrev P:=Option O
noncomputable def D:FD:={ fn:=f21,tl:=a_,ps:=[(.ro,(.aa il))],rs:=[(jy,(ah jy))],gl:=[(12,mq.D.sig)],lv:=[(5,[2,3,13,14,15])],lx:=[(0,[2,3])] }
def ab (a:A):P:=@lift O λk=>D.W k a
variable (a1:A)
def T0 (U:eu×Int):St:={ n:=45,sl:=[(2,.box jy (ah jy) [] ((0:Int),([]:List Int),([]:List Int),(false,([]:List Byt),(([]:Byt),([]:Byt),()),([]:List Tx),(0:Int),()),())),(3,.box jy (ah jy) [] U.1),(13,.val (.aa il) a1.1),(14,.val i64 (a1.1.length:Int)),(15,.val i64 U.2)],vr:=[],ay:=[] }
def b0 (self:(eu×Int)->P) (e0:eu->P) (a1:A) (U:eu×Int):P:=cond (decide (U.2 < (a1.1.length:Int))) (if 0<=U.2 then ((a1.1[U.2.toNat]?).bind λaT=>(mq.ab (U.1.2.2.2.1,aT,())).bind λdq=>cond (decide (dq.1.1=0)) (if U.1.2.1.length+[dq.1.1].length<=cg then (if U.1.2.2.1.length+[dq.1.2.1].length<=cg then (self ((U.1.1,U.1.2.1++[dq.1.1],U.1.2.2.1++[dq.1.2.1],dq.1.2.2.1,U.1.2.2.2.2),af (U.2+1))) else none) else none)<|if U.1.2.1.length+[dq.1.1].length<=cg then (if U.1.2.2.1.length+[dq.1.2.1].length<=cg then (self ((U.1.1,U.1.2.1++[dq.1.1],U.1.2.2.1++[dq.1.2.1],U.1.2.2.2),af (U.2+1))) else none) else none) else none)<|e0 U.1
def q0 (a1:A) (fj:eu):P:=some (fj,())
def r0:(eu×Int)->P:=al (λw v=>b0 w (q0 a1) a1 v) k
theorem aq:@Eq ((eu×Int)->P) (λU=>D.L k [1,1,1,0,1,0,0] [2,3,13,14,15] [] (ak 0 (av (D.N k [1,1,1,1]) D.K0)) (T0 a1 U)) (r0 k a1):=
 funext λU=>ap _ _ _ (T0 a1) _ (λrec v=>Bye) k U
def p (l0:(eu×Int)->P) (a1:A):P:=cond (decide (60 < (a1.1.length:Int))) (some ((2,([]:List Int),([]:List Int),(false,([]:List Byt),(([]:Byt),([]:Byt),()),([]:List Tx),0,()),()),()))<|l0 ((0,([]:List Int),([]:List Int),(true,([]:List Byt),(([]:Byt),([]:Byt),()),([]:List Tx),1,()),()),0)
theorem ae:@Eq P (D.W k a1) (p (r0 k a1) a1):=By8 (aq k a1) Bye
theorem ok:Ok prog 21 D.sig:=am func21 au Bye (fc mq.ok (aj _))
end kH
namespace nG
abbrev A:=eu×eu×Unit
abbrev O:=Bool×Unit
noncomputable def D:FD:={ fn:=f22,tl:=a_,ps:=[(.ro,jy),(.ro,jy)],rs:=[(.bool,(ai .bool))],gl:=[(14,sG.D.sig),(59,oo.D.sig)] }
def ab (a:A):Option O:=@lift O λk=>D.W k a
def p (a1:A):Option O:=cond (!decide (a1.1.1=a1.2.1.1)) (some (false,()))<|(oo.ab (a1.1.2.1,a1.2.1.2.1,())).bind λr2=>cond (!r2.1) (some (false,()))<|(oo.ab (a1.1.2.2.1,a1.2.1.2.2.1,())).bind λr3=>cond (!r3.1) (some (false,()))<|(sG.ab (a1.1.2.2.2.1,a1.2.1.2.2.2.1,())).bind λr4=>cond (!r4.1) (some (false,()))<|some (true,())
theorem ae (a1:A):@Eq (Option O) (D.W k a1) (p a1):=Bye
theorem ok:Ok prog 22 D.sig:=am func22 au Bye (fc sG.ok (fc oo.ok (aj _)))
end nG
namespace uL
abbrev A:=Op×Op×Unit
abbrev O:=Bool×Unit
noncomputable def D:FD:={ fn:=f60,tl:=a_,ps:=[(.ro,il),(.ro,il)],rs:=[(.bool,(ai .bool))],gl:=[(122,qa.D.sig)] }
def ab (a:A):Option O:=@lift O λk=>D.W k a
def p (a1:A):Option O:=cond (!decide (a1.1.1=a1.2.1.1)) (some (false,()))<|cond (!decide (a1.1.2.1=a1.2.1.2.1)) (some (false,()))<|(qa.ab (a1.1.2.2.1,a1.2.1.2.2.1,())).bind λr2=>cond (!r2.1) (some (false,()))<|cond (!decide (a1.1.2.2.2.1=a1.2.1.2.2.2.1)) (some (false,()))<|some (true,())
theorem ae (a1:A):@Eq (Option O) (D.W k a1) (p a1):=Bye
theorem ok:Ok prog 60 D.sig:=am func60 au Bye (fc qa.ok (aj _))
end uL
namespace w9
abbrev A:=(List Op)×(List Op)×Unit
abbrev O:=Bool×Unit
abbrev P:=Option O
noncomputable def D:FD:={ fn:=f23,tl:=a_,ps:=[(.ro,(.aa il)),(.ro,(.aa il))],rs:=[(.bool,(ai .bool))],gl:=[(60,uL.D.sig)],lv:=[(4,[0,1,5])],lx:=[(0,[])],od:=[(6,[0,1,2,3,4,5,6,7,8,9])] }
def ab (a:A):P:=@lift O λk=>D.W k a
variable (a1:A)
def T0 (U:Int):St:={ n:=27,sl:=[(0,.val (.aa il) a1.1),(1,.val (.aa il) a1.2.1),(5,.val i64 U)],vr:=[],ay:=[] }
def b0 (self:Int->P) (e0:(Unit)->P) (a1:A) (U:Int):P:=cond (decide (U < (a1.1.length:Int))) (if 0<=U then ((a1.1[U.toNat]?).bind λaT=>if 0<=U then ((a1.2.1[U.toNat]?).bind λjJ=>(uL.ab (aT,jJ,())).bind λlV=>cond (!lV.1) (some (false,()))<|self (af (U+1))) else none) else none)<|e0 ()
def q0 (a1:A) (vW:(Unit)):P:=some (true,())
def r0:(Int)->P:=al (λw v=>b0 w (q0 a1) a1 v) k
theorem aq:@Eq ((Int)->P) (λU=>D.L k [1,1,0,1,0,0] [0,1,5] [] (ak 0 (av (D.N k [1,1,1]) D.K0)) (T0 a1 U)) (r0 k a1):=
 funext λU=>ap _ _ _ (T0 a1) _ (λrec v=>Bye) k U
def p (l0:(Int)->P) (a1:A):P:=cond (!decide ((a1.1.length:Int)=(a1.2.1.length:Int))) (some (false,()))<|l0 0
theorem ae:@Eq P (D.W k a1) (p (r0 k a1) a1):=By8 (aq k a1) Bye
theorem ok:Ok prog 23 D.sig:=am func23 au Bye (fc uL.ok (aj _))
end w9
namespace ux
abbrev A:=(List Op)×Int×Unit
abbrev O:=Int×(List Op)×Unit
abbrev P:=Option O
noncomputable def D:FD:={ fn:=f24,tl:=a_,ps:=[(.lD (ah (.aa il)),(.aa il)),(.ro,i64)],rs:=[(i64,(ai i64))],gl:=[(61,dx.D.sig)],es:=[0],lv:=[(2,[0,1,5])],lx:=[(0,[0,1])] }
def ab (a:A):P:=@lift O λk=>D.W k a
variable (a1:A)
def T0 (a1:A) (U:(List Op)×Int×Int):St:={ n:=67,sl:=[(0,.own (.aa il) (ah (.aa il)) [] U.1),(1,.val i64 U.2.1),(5,.val i64 U.2.2)],vr:=[],ay:=[(0,0,true)] }
def b0 (self:((List Op)×Int×Int)->P) (e0:((List Op)×Int)->P) (a1:A) (U:(List Op)×Int×Int):P:=cond (decide (U.2.2 < (U.1.length:Int))) (if 0<=U.2.2/\U.2.2 < (U.1.length:Int) then ((U.1[U.2.2.toNat]?).bind λaT=>let pQ:=U.1.set U.2.2.toNat (U.2.1,aT.2);if 0<=U.2.2/\U.2.2 < (pQ.length:Int) then ((pQ[U.2.2.toNat]?).bind λey=>let xp:=pQ.set U.2.2.toNat (ey.1,af (U.2.1+1),ey.2.2);if 0<=U.2.2/\U.2.2 < (xp.length:Int) then ((xp[U.2.2.toNat]?).bind λuW=>let JO:=xp.set U.2.2.toNat (uW.1,uW.2.1,(af ((af (U.2.1+1))+1),uW.2.2.1.2),uW.2.2.2);if 0<=U.2.2/\U.2.2 < (JO.length:Int) then ((JO[U.2.2.toNat]?).bind λvY=>let y0:=JO.set U.2.2.toNat (vY.1,vY.2.1,(vY.2.2.1.1,af ((af ((af (U.2.1+1))+1))+1),vY.2.2.1.2.2),vY.2.2.2);if 0<=U.2.2/\U.2.2 < (y0.length:Int) then ((y0[U.2.2.toNat]?).bind λwD=>let ZL:=y0.set U.2.2.toNat (wD.1,wD.2.1,(wD.2.2.1.1,wD.2.2.1.2.1,af ((af ((af ((af (U.2.1+1))+1))+1))+1),wD.2.2.1.2.2.2),wD.2.2.2);(dx.ab (af ((af ((af ((af ((af (U.2.1+1))+1))+1))+1))+1),())).bind λQc=>if 0<=U.2.2/\U.2.2 < (ZL.length:Int) then ((ZL[U.2.2.toNat]?).bind λuX=>let Fg:=ZL.set U.2.2.toNat (uX.1,uX.2.1,(uX.2.2.1.1,uX.2.2.1.2.1,uX.2.2.1.2.2.1,Qc.1,uX.2.2.1.2.2.2.2),uX.2.2.2);if 0<=U.2.2/\U.2.2 < (Fg.length:Int) then ((Fg[U.2.2.toNat]?).bind λxq=>let JM:=Fg.set U.2.2.toNat (xq.1,xq.2.1,xq.2.2.1,af ((af ((af ((af ((af ((af (U.2.1+1))+1))+1))+1))+1))+1),xq.2.2.2.2);self (JM,af ((af ((af ((af ((af ((af ((af (U.2.1+1))+1))+1))+1))+1))+1))+1),af (U.2.2+1))) else none) else none) else none) else none) else none) else none) else none)<|e0 (U.1,U.2.1)
def q0 (a1:A) (JN:((List Op)×Int)):P:=some (JN.2,JN.1,())
def r0:((List Op)×Int×Int)->P:=al (λw v=>b0 w (q0 a1) a1 v) k
theorem aq:@Eq (((List Op)×Int×Int)->P) (λU=>D.L k [1,0,1,0,0] [0,1,5] [] (ak 0 (av (D.N k [1,1]) D.K0)) (T0 a1 U)) (r0 k a1):=
 funext λU=>ap _ _ _ (T0 a1) _ (λrec v=>Bye) k U
def p (l0:((List Op)×Int×Int)->P) (a1:A):P:=l0 (a1.1,a1.2.1,0)
theorem ae:@Eq P (D.W k a1) (p (r0 k a1) a1):=By8 (aq k a1) Bye
theorem ok:Ok prog 24 D.sig:=am func24 au Bye (fc dx.ok (aj _))
end ux
namespace oD
abbrev A:=eu×Int×Unit
abbrev O:=Int×eu×Unit
noncomputable def D:FD:={ fn:=f25,tl:=a_,ps:=[(.lD (ah jy),jy),(.ro,i64)],rs:=[(i64,(ai i64))],gl:=[(15,qH.D.sig),(62,lA.D.sig)],es:=[2] }
def ab (a:A):Option O:=@lift O λk=>D.W k a
def p (a1:A):Option O:=(lA.ab (a1.1.2.1,a1.2.1,())).bind λr2=>(lA.ab (a1.1.2.2.1,r2.1,())).bind λr3=>(qH.ab (a1.1.2.2.2.1,r3.1,())).bind λr4=>some (r4.1,(a1.1.1,r2.2.1,r3.2.1,r4.2.1,a1.1.2.2.2.2),())
theorem ae (a1:A):@Eq (Option O) (D.W k a1) (p a1):=Bye
theorem ok:Ok prog 25 D.sig:=am func25 au Bye (fc qH.ok (fc lA.ok (aj _)))
end oD
namespace ns
abbrev A:=eu×Int×Unit
abbrev O:=Int×Unit
noncomputable def D:FD:={ fn:=f26,tl:=a_,ps:=[(.ro,jy),(.ro,i64)],rs:=[(i64,(ai i64))],gl:=[(58,qI.D.sig),(63,lB.D.sig)] }
def ab (a:A):Option O:=@lift O λk=>D.W k a
def p (a1:A):Option O:=(lB.ab (a1.1.2.1,a1.2.1,())).bind λr2=>cond (decide (r2.1 < 0)) (some ((-1),()))<|(lB.ab (a1.1.2.2.1,r2.1,())).bind λr3=>cond (decide (r3.1 < 0)) (some ((-1),()))<|(qI.ab (a1.1.2.2.2.1,r3.1,())).bind λr4=>cond (decide (r4.1 < 0)) (some ((-1),()))<|some (r4.1,())
theorem ae (a1:A):@Eq (Option O) (D.W k a1) (p a1):=Bye
theorem ok:Ok prog 26 D.sig:=am func26 au Bye (fc qI.ok (fc lB.ok (aj _)))
end ns
namespace f_
abbrev A:=(List Op)×Unit
abbrev O:=Bool×Unit
abbrev ps:PQ:=[(.ro,(.aa il))]
noncomputable def D:FD:={ fn:=f4,tl:=a_,ps:=ps,rs:=[(.bool,(ai .bool))],gl:=[(18,w8.D.sig),(19,lj.D.sig),(20,rZ.D.sig),(21,kH.D.sig),(22,nG.D.sig),(23,w9.D.sig),(24,ux.D.sig),(25,oD.D.sig),(26,ns.D.sig)] }
def ab (a:A):Option O:=@lift O λk=>D.W k a
def p (a1:A):Option O:=(w8.ab (a1.1,1048576,())).bind λr2=>cond (decide (r2.1 < 0)) (some (true,()))<|(rZ.ab (a1.1,())).bind λr3=>(lj.ab (r3.1,())).bind λr4=>(rZ.ab (a1.1,())).bind λr5=>(kH.ab (r5.1,())).bind λr6=>(nG.ab (r6.1,r4.1,())).bind λr7=>cond (!r7.1) (some (false,()))<|(rZ.ab (a1.1,())).bind λr8=>(w9.ab (r5.1,r8.1,())).bind λr9=>cond (!r9.1) (some (false,()))<|(ux.ab (r5.1,1,())).bind λsX=>cond (decide (sX.1 < 0)) (some (false,()))<|(nG.ab (r6.1,r4.1,())).bind λnC=>cond (!nC.1) (some (false,()))<|(oD.ab (r6.1,1,())).bind λqD=>(ns.ab (qD.2.1,1,())).bind λyR=>cond (decide (yR.1 < 0)) (some (false,()))<|cond (!decide (yR.1=qD.1)) (some (false,()))<|(rZ.ab (a1.1,())).bind λvF=>(kH.ab (vF.1,())).bind λBf=>(nG.ab (Bf.1,r4.1,())).bind λCv=>cond (!Cv.1) (some (false,()))<|(ns.ab (qD.2.1,1,())).bind λAv=>cond (decide (Av.1 < 0)) (some (false,()))<|cond (!decide (Av.1=qD.1)) (some (false,()))<|some (true,())
theorem ae (a1:A):@Eq (Option O) (D.W k a1) (p a1):=Bye
theorem ok:Ok prog 4 D.sig:=am func4 au Bye (fc w8.ok (fc lj.ok (fc rZ.ok (fc kH.ok (fc nG.ok (fc w9.ok (fc ux.ok (fc oD.ok (fc ns.ok (aj _))))))))))
end f_
end
end OT
set_option linter.unusedSimpArgs false
namespace OT
open Go
noncomputable def La (n:Int):List UInt8:=((dx.ab (n,())).map (·.1)).getD []
theorem z7 (n:Int) (h:n<=9223372036854775807):dx.ab (n,())=some (La n,()):=by
 have main:∃ t,dx.ab (n,())=some (t,()):=by
  by_cases hn:n<=0
  ·refine ⟨[109,48],ag (k:=0) λk _=>(dx.ae k _).trans ?_⟩
   grind [dx.p]
  ·have key:∀ (f:Nat) (m:Int) (out:List UInt8),0<=m->m<=9223372036854775807->m < 10 ^ f->out.length+f<=100->∃ t,t.length<=100/\∀ k,f < k->al (λself v=>dx.B0 0 self (λz=>dx.Q0 0 (n,()) z) (n,()) v) k (m,out)=some (109::t,()):=by
    intro f
    induction f with
    | zero=>
     intro m out h0 h9 h1 h2;have hm:m=0:=by grind
     subst hm;refine ⟨out,by omega,λk hk=>?_⟩
     cases k <;> grind [Cs,dx.b0,dx.q0,cg]
    | succ f ih=>
     intro m out h0 h9 h1 h2;by_cases hm:0 < m
     ·have hq0:0<=m.tdiv 10:=Int.tdiv_nonneg h0 Bys
      have hq:m.tdiv 10 < 10 ^ f:=by
       grind
      have hd:=Int.emod_nonneg m (b:=10) Bys;have hd2:=Int.emod_lt_of_pos m (b:=10) Bys;obtain ⟨t,t1,t2⟩:=ih (m.tdiv 10) ([UInt8.ofInt (af (48+m.tmod 10))]++out) hq0 (by grind) hq (by simp;omega);refine ⟨t,t1,λk hk=>?_⟩
      cases k <;> grind [Cs,dx.b0,bi,cg]
     ·have hm:m=0:=by omega
      subst hm;refine ⟨out,by omega,λk hk=>?_⟩
      cases k <;> grind [Cs,dx.b0,dx.q0,cg]
   obtain ⟨t,t1,t2⟩:=key 19 n [] Bys h Bys (by simp);refine ⟨109::t,ag (k:=20) λk hk=>(dx.ae k _).trans ?_⟩
   unfold dx.p;simp only[hn,aI,aF];exact t2 k Bys
 grind [La]
theorem ZM (x:Row) (n:Int) (hx:Cq a8 x) (h0:0<=n) (h1:n<=1048576):to.ab (x,n,())=some (wB n (zz a8 x),()):=by
 have hz:zz a8 x=(0+(0+(0+(List.length x.2.2.2.1+0)))):=rfl;refine ag (k:=0) λk _=>(to.ae k _).trans ?_;show to.p _=_;unfold to.p;have hw:af (n - (List.length x.2.2.2.1:Int))=n - (List.length x.2.2.2.1:Int):=bi (by have h9:=hx.2.2.2.1;grind [Cq,ao]);grind [wB]
theorem abG (x:Op) (n:Int) (hx:Cq il x) (h0:0<=n) (h1:n<=1048576):tq.ab (x,n,())=some (wB n (zz il x),()):=by
 have hz:zz il x=(0+(0+((0+(0+(0+(List.length x.2.2.1.2.2.2.1+0))))+(0+0)))):=rfl;refine ag (k:=0) λk _=>(tq.ae k _).trans ?_;show tq.p _=_;unfold tq.p;have Gc:zz a8 x.2.2.1=(0+(0+(0+(List.length x.2.2.1.2.2.2.1+0)))):=rfl;simp only[ZM x.2.2.1 (n) hx.2.2.1 Bys Bys,aA];grind [wB]
theorem ZN (x:Row) (h:zz a8 x<=1048576):uY.ab (x,())=some (x,()):=by
 have hz:zz a8 x=(0+(0+(0+(List.length x.2.2.2.1+0)))):=rfl;refine ag (k:=0) λk _=>(uY.ae k _).trans ?_;grind [uY.p]
theorem abH (x:Op) (h:zz il x<=1048576):uI.ab (x,())=some (x,()):=by
 have hz:zz il x=(0+(0+((0+(0+(0+(List.length x.2.2.1.2.2.2.1+0))))+(0+0)))):=rfl;have Gc:zz a8 x.2.2.1=(0+(0+(0+(List.length x.2.2.1.2.2.2.1+0)))):=rfl;refine ag (k:=0) λk _=>(uI.ae k _).trans ?_;grind [uI.p,ZN]
theorem G9 (x:List UInt8) (h:zz (.aa u8) x<=4611686018427387904):nX.ab (x,x,())=some (true,()):=P8 (e:=u8) (f:=λ(a b:UInt8)=>some (decide ((a.toNat:Int)=(b.toNat:Int)),())) (λx k=>nX.ae k (x,x,())) (λa _=>by simp) x h
theorem Ol (x:List (List UInt8)) (h:zz (.aa (.aa u8)) x<=4611686018427387904):s_.ab (x,x,())=some (true,()):=P8 (e:=(.aa u8)) (f:=λ(a b:List UInt8)=>nX.ab (a,b,())) (λx k=>s_.ae k (x,x,())) G9 x h
theorem VD (x:Log) (h:zz jc x<=4611686018427387904):u7.ab (x,x,())=some (true,()):=by
 have hz:zz jc x=(zz (.aa u8) x.1+(zz (.aa u8) x.2.1+0)):=rfl;refine ag (k:=0) λk _=>(u7.ae k _).trans ?_;grind [u7.p,G9]
theorem Gh (x:List Int) (h:zz (.aa i64) x<=4611686018427387904):oo.ab (x,x,())=some (true,()):=P8 (e:=i64) (f:=λ(a b:Int)=>some (decide (a=b),())) (λx k=>oo.ae k (x,x,())) (λa _=>by simp) x h
theorem Lb (x:Row) (h:zz a8 x<=4611686018427387904):qa.ab (x,x,())=some (true,()):=by
 have hz:zz a8 x=(0+(0+(0+(List.length x.2.2.2.1+0)))):=rfl;refine ag (k:=0) λk _=>(qa.ae k _).trans ?_;grind [qa.p]
theorem Om (x:Change) (h:zz aw x<=4611686018427387904):qt.ab (x,x,())=some (true,()):=by
 have hz:zz aw x=(0+((0+(0+(0+(List.length x.2.1.2.2.2.1+0))))+(0+((0+(0+(0+(List.length x.2.2.2.1.2.2.2.1+0))))+0)))):=rfl;have GP:zz a8 x.2.1=(0+(0+(0+(List.length x.2.1.2.2.2.1+0)))):=rfl;have hz3:zz a8 x.2.2.2.1=(0+(0+(0+(List.length x.2.2.2.1.2.2.2.1+0)))):=rfl;refine ag (k:=0) λk _=>(qt.ae k _).trans ?_;grind [qt.p,Lb]
theorem ME (x:List Change) (h:zz (.aa aw) x<=4611686018427387904):sq.ab (x,x,())=some (true,()):=P8 (e:=aw) (f:=λ(a b:Change)=>qt.ab (a,b,())) (λx k=>sq.ae k (x,x,())) Om x h
theorem VE (x:Key) (h:zz be x<=4611686018427387904):tA.ab (x,x,())=some (true,()):=by
 have hz:zz be x=(0+(0+0)):=rfl;refine ag (k:=0) λk _=>(tA.ae k _).trans ?_;grind [tA.p]
theorem Sb (x:List Key) (h:zz (.aa be) x<=4611686018427387904):vQ.ab (x,x,())=some (true,()):=P8 (e:=be) (f:=λ(a b:Key)=>tA.ab (a,b,())) (λx k=>vQ.ae k (x,x,())) VE x h
theorem XX (x:Tx) (h:zz bp x<=4611686018427387904):uK.ab (x,x,())=some (true,()):=by
 have hz:zz bp x=(0+(zz (.aa aw) x.2.1+(zz (.aa i64) x.2.2.1+(zz (.aa be) x.2.2.2.1+0)))):=rfl;refine ag (k:=0) λk _=>(uK.ae k _).trans ?_;grind [uK.p,ME,Gh,Sb]
theorem VF (x:List Tx) (h:zz (.aa bp) x<=4611686018427387904):w7.ab (x,x,())=some (true,()):=P8 (e:=bp) (f:=λ(a b:Tx)=>uK.ab (a,b,())) (λx k=>w7.ae k (x,x,())) XX x h
theorem Qh (x:az) (h:zz dc x<=4611686018427387904):sG.ab (x,x,())=some (true,()):=by
 have hz:zz dc x=(0+(zz (.aa (.aa u8)) x.2.1+((zz (.aa u8) x.2.2.1.1+(zz (.aa u8) x.2.2.1.2.1+0))+(zz (.aa bp) x.2.2.2.1+(0+0))))):=rfl;have Gc:zz jc x.2.2.1=(zz (.aa u8) x.2.2.1.1+(zz (.aa u8) x.2.2.1.2.1+0)):=rfl;refine ag (k:=0) λk _=>(sG.ae k _).trans ?_;grind [sG.p,Ol,VD,VF]
def acX (x:UInt8) (k:Int) (y:UInt8) (k':Int):Prop:=y=(UInt8.ofInt (k))/\k+1=k'
theorem MF (x:List UInt8) (k:Int) (h0:0<=k) (h1:k+32*((zz (.aa u8) x:Nat):Int)<=qj):∃ (k':Int) (y:List UInt8),mr.ab (x,k,())=some (k',y,())/\mt.ab (y,k,())=some (k',())/\k<=k'/\k'<=k+32*((zz (.aa u8) x:Nat):Int):=by
 have hB:qj=4611686018427387904:=rfl
 exact TA (α:=UInt8) (zz u8) acX (λx k f=>mr.ae f (x,k,())) (λy k f=>mt.ae f (y,k,())) (λ(x:UInt8) k h0 h1=>by
   exact ⟨_,_,by omega,by omega,⟨rfl,rfl⟩⟩) (λi (acc:List (UInt8)) k self (x y:UInt8) k' hi hx h0 h1 h2 h3 hE a7=>by
   obtain ⟨rfl,rfl⟩:=hE
   grind [bi]) (λ_ i (ys:List (UInt8)) k self (x y:UInt8) k' hi hx h0 h1 h2 h3 hE a7=>by
   obtain ⟨rfl,rfl⟩:=hE
   grind [bi]) x k h0 h1
def abI (x:List UInt8) (k:Int) (y:List UInt8) (k':Int):Prop:=∃ (r1:Int) (y1:List UInt8),mr.ab (x,k,())=some (r1,y1,())/\mt.ab (y1,k,())=some (r1,())/\k<=r1/\r1<=k+32*((zz (.aa u8) x:Nat):Int)/\y=y1/\r1=k'
theorem ZO (x:List (List UInt8)) (k:Int) (h0:0<=k) (h1:k+32*((zz (.aa (.aa u8)) x:Nat):Int)<=qj):∃ (k':Int) (y:List (List UInt8)),rB.ab (x,k,())=some (k',y,())/\rC.ab (y,k,())=some (k',())/\k<=k'/\k'<=k+32*((zz (.aa (.aa u8)) x:Nat):Int):=by
 have hB:qj=4611686018427387904:=rfl
 exact TA (α:=List UInt8) (zz (.aa u8)) abI (λx k f=>rB.ae f (x,k,())) (λy k f=>rC.ae f (y,k,())) (λ(x:List UInt8) k h0 h1=>by
   obtain ⟨r1,y1,e1,f1,g1,i1⟩:=MF x (k) Bys Bys
   exact ⟨_,_,by omega,by omega,⟨r1,y1,e1,f1,g1,i1,rfl,rfl⟩⟩) (λi (acc:List (List UInt8)) k self (x y:List UInt8) k' hi hx h0 h1 h2 h3 hE a7=>by
   obtain ⟨r1,y1,e1,f1,g1,i1,rfl,rfl⟩:=hE
   grind) (λ_ i (ys:List (List UInt8)) k self (x y:List UInt8) k' hi hx h0 h1 h2 h3 hE a7=>by
   obtain ⟨r1,y1,e1,f1,g1,i1,rfl,rfl⟩:=hE
   grind) x k h0 h1
theorem ad3 (x:Log) (k:Int) (h0:0<=k) (h1:k+32*((zz jc x:Nat):Int)<=qj):∃ (k':Int) (y:Log),sH.ab (x,k,())=some (k',y,())/\sI.ab (y,k,())=some (k',())/\k<=k'/\k'<=k+32*((zz jc x:Nat):Int):=by
 have hB:qj=4611686018427387904:=rfl;have hz:zz jc x=(zz (.aa u8) x.1+(zz (.aa u8) x.2.1+0)):=rfl;obtain ⟨k1,y1,e1,f1,g1,i1⟩:=MF x.1 k Bys Bys;have n1:¬ k1 < 0:=by omega
 obtain ⟨k2,y2,e2,f2,g2,i2⟩:=MF x.2.1 k1 Bys Bys;have n2:¬ k2 < 0:=by omega
 refine ⟨k2,(y1,y2,x.2.2),ag (k:=0) λf _=>(sH.ae f _).trans ?_,ag (k:=0) λf _=>(sI.ae f _).trans ?_,by omega,by omega⟩
 all_goals grind [sH.p,sI.p]
def abJ (x:Int) (k:Int) (y:Int) (k':Int):Prop:=y=(k)/\k+1=k'
theorem JP (x:List Int) (k:Int) (h0:0<=k) (h1:k+32*((zz (.aa i64) x:Nat):Int)<=qj):∃ (k':Int) (y:List Int),lA.ab (x,k,())=some (k',y,())/\lB.ab (y,k,())=some (k',())/\k<=k'/\k'<=k+32*((zz (.aa i64) x:Nat):Int):=by
 have hB:qj=4611686018427387904:=rfl
 exact TA (α:=Int) (zz i64) abJ (λx k f=>lA.ae f (x,k,())) (λy k f=>lB.ae f (y,k,())) (λ(x:Int) k h0 h1=>by
   exact ⟨_,_,by omega,by omega,⟨rfl,rfl⟩⟩) (λi (acc:List (Int)) k self (x y:Int) k' hi hx h0 h1 h2 h3 hE a7=>by
   obtain ⟨rfl,rfl⟩:=hE
   grind [bi]) (λ_ i (ys:List (Int)) k self (x y:Int) k' hi hx h0 h1 h2 h3 hE a7=>by
   obtain ⟨rfl,rfl⟩:=hE
   grind [bi]) x k h0 h1
def ZP (x:Change) (k:Int) (y:Change) (k':Int):Prop:=y=((decide ((k).tmod (3:Int)=(0:Int))),((k+1),(k+1+1),(k+1+1+1),(La (k+1+1+1+1)),x.2.1.2.2.2.2),(decide ((k+1+1+1+1+1).tmod (3:Int)=(0:Int))),((k+1+1+1+1+1+1),(k+1+1+1+1+1+1+1),(k+1+1+1+1+1+1+1+1),(La (k+1+1+1+1+1+1+1+1+1)),x.2.2.2.1.2.2.2.2),x.2.2.2.2)/\k+1+1+1+1+1+1+1+1+1+1=k'
theorem XY (x:List Change) (k:Int) (h0:0<=k) (h1:k+32*((zz (.aa aw) x:Nat):Int)<=qj):∃ (k':Int) (y:List Change),o7.ab (x,k,())=some (k',y,())/\o8.ab (y,k,())=some (k',())/\k<=k'/\k'<=k+32*((zz (.aa aw) x:Nat):Int):=by
 have hB:qj=4611686018427387904:=rfl
 exact TA (α:=Change) (zz aw) ZP (λx k f=>o7.ae f (x,k,())) (λy k f=>o8.ae f (y,k,())) (λ(x:Change) k h0 h1=>by
   have hz:zz aw x=(0+((0+(0+(0+(List.length x.2.1.2.2.2.1+0))))+(0+((0+(0+(0+(List.length x.2.2.2.1.2.2.2.1+0))))+0)))):=rfl
   exact ⟨_,_,by omega,by omega,⟨rfl,rfl⟩⟩) (λi (acc:List (Change)) k self (x y:Change) k' hi hx h0 h1 h2 h3 hE a7=>by
   have hz:zz aw x=(0+((0+(0+(0+(List.length x.2.1.2.2.2.1+0))))+(0+((0+(0+(0+(List.length x.2.2.2.1.2.2.2.1+0))))+0)))):=rfl;obtain ⟨rfl,rfl⟩:=hE
   simp (disch:=omega) only [a7,aO,aS,aN,cM,aK,aC,hx,aA,bQ,Ct,gZ,bi,z7]) (λ_ i (ys:List (Change)) k self (x y:Change) k' hi hx h0 h1 h2 h3 hE a7=>by
   have hz:zz aw x=(0+((0+(0+(0+(List.length x.2.1.2.2.2.1+0))))+(0+((0+(0+(0+(List.length x.2.2.2.1.2.2.2.1+0))))+0)))):=rfl;obtain ⟨rfl,rfl⟩:=hE
   simp (disch:=omega) only [a7,aO,aS,aN,cM,aK,aC,hx,aA,bi,z7,beq_self_eq_true,aU,aF,aI]) x k h0 h1
def ad5 (x:Key) (k:Int) (y:Key) (k':Int):Prop:=y=((k),(k+1),x.2.2)/\k+1+1=k'
theorem acY (x:List Key) (k:Int) (h0:0<=k) (h1:k+32*((zz (.aa be) x:Nat):Int)<=qj):∃ (k':Int) (y:List Key),rK.ab (x,k,())=some (k',y,())/\rL.ab (y,k,())=some (k',())/\k<=k'/\k'<=k+32*((zz (.aa be) x:Nat):Int):=by
 have hB:qj=4611686018427387904:=rfl
 exact TA (α:=Key) (zz be) ad5 (λx k f=>rK.ae f (x,k,())) (λy k f=>rL.ae f (y,k,())) (λ(x:Key) k h0 h1=>by
   have hz:zz be x=(0+(0+0)):=rfl
   exact ⟨_,_,by omega,by omega,⟨rfl,rfl⟩⟩) (λi (acc:List (Key)) k self (x y:Key) k' hi hx h0 h1 h2 h3 hE a7=>by
   have hz:zz be x=(0+(0+0)):=rfl;obtain ⟨rfl,rfl⟩:=hE
   grind [List.set_set,bi]) (λ_ i (ys:List (Key)) k self (x y:Key) k' hi hx h0 h1 h2 h3 hE a7=>by
   have hz:zz be x=(0+(0+0)):=rfl;obtain ⟨rfl,rfl⟩:=hE
   grind [bi]) x k h0 h1
def aeM (x:Tx) (k:Int) (y:Tx) (k':Int):Prop:=∃ (r1:Int) (y1:List Change),∃ (r2:Int) (y2:List Int),∃ (r3:Int) (y3:List Key),o7.ab (x.2.1,k+1,())=some (r1,y1,())/\o8.ab (y1,k+1,())=some (r1,())/\k+1<=r1/\r1<=k+1+32*((zz (.aa aw) x.2.1:Nat):Int)/\lA.ab (x.2.2.1,r1,())=some (r2,y2,())/\lB.ab (y2,r1,())=some (r2,())/\r1<=r2/\r2<=r1+32*((zz (.aa i64) x.2.2.1:Nat):Int)/\rK.ab (x.2.2.2.1,r2,())=some (r3,y3,())/\rL.ab (y3,r2,())=some (r3,())/\r2<=r3/\r3<=r2+32*((zz (.aa be) x.2.2.2.1:Nat):Int)/\y=((k),y1,y2,y3,x.2.2.2.2)/\r3=k'
theorem ad6 (x:List Tx) (k:Int) (h0:0<=k) (h1:k+32*((zz (.aa bp) x:Nat):Int)<=qj):∃ (k':Int) (y:List Tx),uu.ab (x,k,())=some (k',y,())/\uw.ab (y,k,())=some (k',())/\k<=k'/\k'<=k+32*((zz (.aa bp) x:Nat):Int):=by
 have hB:qj=4611686018427387904:=rfl
 exact TA (α:=Tx) (zz bp) aeM (λx k f=>uu.ae f (x,k,())) (λy k f=>uw.ae f (y,k,())) (λ(x:Tx) k h0 h1=>by
   have hz:zz bp x=(0+(zz (.aa aw) x.2.1+(zz (.aa i64) x.2.2.1+(zz (.aa be) x.2.2.2.1+0)))):=rfl;obtain ⟨r1,y1,e1,f1,g1,i1⟩:=XY x.2.1 (k+1) Bys Bys;obtain ⟨r2,y2,e2,f2,g2,i2⟩:=JP x.2.2.1 (r1) Bys Bys;obtain ⟨r3,y3,e3,f3,g3,i3⟩:=acY x.2.2.2.1 (r2) Bys Bys
   exact ⟨_,_,by omega,by omega,⟨r1,y1,r2,y2,r3,y3,e1,f1,g1,i1,e2,f2,g2,i2,e3,f3,g3,i3,rfl,rfl⟩⟩) (λi (acc:List (Tx)) k self (x y:Tx) k' hi hx h0 h1 h2 h3 hE a7=>by
   have hz:zz bp x=(0+(zz (.aa aw) x.2.1+(zz (.aa i64) x.2.2.1+(zz (.aa be) x.2.2.2.1+0)))):=rfl;obtain ⟨r1,y1,r2,y2,r3,y3,e1,f1,g1,i1,e2,f2,g2,i2,e3,f3,g3,i3,rfl,rfl⟩:=hE
   simp (disch:=omega) only [a7,aO,aS,aN,cM,aK,aC,hx,aA,bQ,Ct,gZ,bi,z7,e1,e2,e3]) (λ_ i (ys:List (Tx)) k self (x y:Tx) k' hi hx h0 h1 h2 h3 hE a7=>by
   have hz:zz bp x=(0+(zz (.aa aw) x.2.1+(zz (.aa i64) x.2.2.1+(zz (.aa be) x.2.2.2.1+0)))):=rfl;obtain ⟨r1,y1,r2,y2,r3,y3,e1,f1,g1,i1,e2,f2,g2,i2,e3,f3,g3,i3,rfl,rfl⟩:=hE
   grind [bi]) x k h0 h1
theorem abK (x:az) (k:Int) (h0:0<=k) (h1:k+32*((zz dc x:Nat):Int)<=qj):∃ (k':Int) (y:az),qH.ab (x,k,())=some (k',y,())/\qI.ab (y,k,())=some (k',())/\k<=k'/\k'<=k+32*((zz dc x:Nat):Int):=by
 have hB:qj=4611686018427387904:=rfl;have hz:zz dc x=(0+(zz (.aa (.aa u8)) x.2.1+((zz (.aa u8) x.2.2.1.1+(zz (.aa u8) x.2.2.1.2.1+0))+(zz (.aa bp) x.2.2.2.1+(0+0))))):=rfl;obtain ⟨k1,y1,e1,f1,g1,i1⟩:=ZO x.2.1 k Bys Bys;have n1:¬ k1 < 0:=by omega
 have Gc:zz jc x.2.2.1=(zz (.aa u8) x.2.2.1.1+(zz (.aa u8) x.2.2.1.2.1+0)):=rfl;obtain ⟨k2,y2,e2,f2,g2,i2⟩:=ad3 x.2.2.1 k1 Bys Bys;have n2:¬ k2 < 0:=by omega
 obtain ⟨k3,y3,e3,f3,g3,i3⟩:=ad6 x.2.2.2.1 k2 Bys Bys;have n3:¬ k3 < 0:=by omega
 refine ⟨k3,(x.1,y1,y2,y3,x.2.2.2.2.1,x.2.2.2.2.2),ag (k:=0) λf _=>(qH.ae f _).trans ?_,ag (k:=0) λf _=>(qI.ae f _).trans ?_,by omega,by omega⟩
 all_goals grind [qH.p,qI.p]
theorem ZQ (x:List Op) (n:Int) (hx:Cq (.aa il) x) (h0:0<=n) (h1:n<=1048576):w8.ab (x,n,())=some (wB n (zz (.aa il) x),()):=szG (e:=il) (f:=λa n=>tq.ab (a,n,())) (λx n k=>w8.ae k (x,n,())) abG x n hx h0 h1
theorem ZR (x:List Op) (h:zz (.aa il) x<=1048576):rZ.ab (x,())=some (x,()):=toG (e:=il) (f:=λa=>uI.ab (a,())) (λx k=>rZ.ae k (x,())) abH x h
theorem Lc (x:eu) (h:zz jy x<=4611686018427387904):nG.ab (x,x,())=some (true,()):=by
 have hz:zz jy x=(0+(zz (.aa i64) x.2.1+(zz (.aa i64) x.2.2.1+((0+(zz (.aa (.aa u8)) x.2.2.2.1.2.1+((zz (.aa u8) x.2.2.2.1.2.2.1.1+(zz (.aa u8) x.2.2.2.1.2.2.1.2.1+0))+(zz (.aa bp) x.2.2.2.1.2.2.2.1+(0+0)))))+0)))):=rfl;have hz3:zz dc x.2.2.2.1=(0+(zz (.aa (.aa u8)) x.2.2.2.1.2.1+((zz (.aa u8) x.2.2.2.1.2.2.1.1+(zz (.aa u8) x.2.2.2.1.2.2.1.2.1+0))+(zz (.aa bp) x.2.2.2.1.2.2.2.1+(0+0))))):=rfl;refine ag (k:=0) λk _=>(nG.ae k _).trans ?_;grind [nG.p,Gh,Qh]
theorem XZ (x:Op) (h:zz il x<=4611686018427387904):uL.ab (x,x,())=some (true,()):=by
 have hz:zz il x=(0+(0+((0+(0+(0+(List.length x.2.2.1.2.2.2.1+0))))+(0+0)))):=rfl;have Gc:zz a8 x.2.2.1=(0+(0+(0+(List.length x.2.2.1.2.2.2.1+0)))):=rfl;refine ag (k:=0) λk _=>(uL.ae k _).trans ?_;grind [uL.p,Lb]
theorem VG (x:List Op) (h:zz (.aa il) x<=4611686018427387904):w9.ab (x,x,())=some (true,()):=P8 (e:=il) (f:=λ(a b:Op)=>uL.ab (a,b,())) (λx k=>w9.ae k (x,x,())) XZ x h
def aeN (x:Op) (k:Int) (y:Op) (k':Int):Prop:=y=((k),(k+1),((k+1+1),(k+1+1+1),(k+1+1+1+1),(La (k+1+1+1+1+1)),x.2.2.1.2.2.2.2),(k+1+1+1+1+1+1),x.2.2.2.2)/\k+1+1+1+1+1+1+1=k'
theorem ad7 (x:List Op) (k:Int) (h0:0<=k) (h1:k+32*((zz (.aa il) x:Nat):Int)<=qj):∃ (k':Int) (y:List Op),ux.ab (x,k,())=some (k',y,())/\k<=k'/\k'<=k+32*((zz (.aa il) x:Nat):Int):=by
 have hB:qj=4611686018427387904:=rfl
 exact mkG (α:=Op) (zz il) aeN (λx k f=>ux.ae f (x,k,())) (λ(x:Op) k h0 h1=>by
   have hz:zz il x=(0+(0+((0+(0+(0+(List.length x.2.2.1.2.2.2.1+0))))+(0+0)))):=rfl
   exact ⟨_,_,by omega,by omega,⟨rfl,rfl⟩⟩) (λi (acc:List (Op)) k self (x y:Op) k' hi hx h0 h1 h2 h3 hE a7=>by
   have hz:zz il x=(0+(0+((0+(0+(0+(List.length x.2.2.1.2.2.2.1+0))))+(0+0)))):=rfl;obtain ⟨rfl,rfl⟩:=hE
   simp (disch:=omega) only [a7,aO,aS,aN,cM,aK,aC,hx,aA,bQ,Ct,gZ,bi,z7]) x k h0 h1
theorem VH (x:eu) (k:Int) (h0:0<=k) (h1:k+32*((zz jy x:Nat):Int)<=qj):∃ (k':Int) (y:eu),oD.ab (x,k,())=some (k',y,())/\ns.ab (y,k,())=some (k',())/\k<=k'/\k'<=k+32*((zz jy x:Nat):Int):=by
 have hB:qj=4611686018427387904:=rfl;have hz:zz jy x=(0+(zz (.aa i64) x.2.1+(zz (.aa i64) x.2.2.1+((0+(zz (.aa (.aa u8)) x.2.2.2.1.2.1+((zz (.aa u8) x.2.2.2.1.2.2.1.1+(zz (.aa u8) x.2.2.2.1.2.2.1.2.1+0))+(zz (.aa bp) x.2.2.2.1.2.2.2.1+(0+0)))))+0)))):=rfl;obtain ⟨k1,y1,e1,f1,g1,i1⟩:=JP x.2.1 k Bys Bys;have n1:¬ k1 < 0:=by omega
 obtain ⟨k2,y2,e2,f2,g2,i2⟩:=JP x.2.2.1 k1 Bys Bys;have n2:¬ k2 < 0:=by omega
 have hz3:zz dc x.2.2.2.1=(0+(zz (.aa (.aa u8)) x.2.2.2.1.2.1+((zz (.aa u8) x.2.2.2.1.2.2.1.1+(zz (.aa u8) x.2.2.2.1.2.2.1.2.1+0))+(zz (.aa bp) x.2.2.2.1.2.2.2.1+(0+0))))):=rfl;obtain ⟨k3,y3,e3,f3,g3,i3⟩:=abK x.2.2.2.1 k2 Bys Bys;have n3:¬ k3 < 0:=by omega
 refine ⟨k3,(x.1,y1,y2,y3,x.2.2.2.2),ag (k:=0) λf _=>(oD.ae f _).trans ?_,ag (k:=0) λf _=>(ns.ae f _).trans ?_,by omega,by omega⟩
 all_goals grind [oD.p,ns.p]
end OT
namespace OT
open Go
theorem qu (a b c:Int):co.ab (a,b,c,())=some (decide (b<=a)&&decide (a<=c),()):=by
 refine ag (k:=0) λk _=>(co.ae k _).trans ?_;show co.p _=_;unfold co.p;by_cases h:b<=a <;> simp[h]
theorem si (a b c:Int):e8.ab (a,b,c,())=some (decide (b<=a)&&decide (a<=c),()):=by
 refine ag (k:=0) λk _=>(e8.ae k _).trans ?_;show e8.p _=_;unfold e8.p;by_cases h:b<=a <;> simp[h]
theorem MG (a:Int):oI.ab (a,())=some (decide (1<=a)&&decide (a<=99),()):=by
 refine ag (k:=0) λk _=>(oI.ae k _).trans ?_;show oI.p _=_;unfold oI.p;simp[si]
def dm (a b c:Int):Bool:=decide (b<=a)&&decide (a<=c)
theorem mg (s:List UInt8) (h:s.length<=200000000000):b_.ab (s,())=some (s,()):=by
 refine ag (k:=0) λk _=>(b_.ae k _).trans ?_;show b_.p _=_;unfold b_.p;have:([]:List UInt8).length+s.length<=cg:=c9 (by simpa using h);rw[aG this,cK]
theorem oT (s:List UInt8) (h:s.length<=200000000000):cu.ab (s,())=some (s,()):=by
 refine ag (k:=0) λk _=>(cu.ae k _).trans ?_;show cu.p _=_;unfold cu.p;have:([]:List UInt8).length+s.length<=cg:=c9 (by simpa using h);rw[aG this,cK]
theorem ic {S O α:Type} {g:S->α->S} {fin:S->O}:∀ (xs:List α) (i:Nat) (s:S),bt (λ_ s x=>.inr (g s x)) fin i xs s=fin (xs.foldl g s)
 | [],_,_=>rfl
 | x::xs,i,s=>by simp only[bt,eD];exact ic xs _ _
theorem Aw {α:Type}:∀ (xs s:List α),xs.foldl (λs x=>s++[x]) s=s++xs
 | [],s=>by simp
 | x::xs,s=>by rw[eD,Aw];simp
abbrev oA:Type:=List (List UInt8)
def gp (ps:oA):Prop:=ps.length<=12/\∀ p ∈ ps,p.length=64
def uy:List UInt8:=((List.replicate 64 (0:UInt8)).set 0 0).set 1 64
theorem CA:uy.length=64:=by simp[uy]
theorem Gj (ps:oA) (h:gp ps):lK.ab (ps,())=some (ps,()):=by
 obtain ⟨h1,h2⟩:=h;refine ag (k:=14) λk hk=>(lK.ae k _).trans ?_
 have:=c8 (B:=λself v=>lK.b0 self (λz=>lK.q0 (ps,()) z) (ps,()) v) ps (λ(s:oA) (i:Int)=>(s,i)) (λ_ s x=>.inr (s++[x])) (λs=>(s,())) (λi s=>s.length=i) (by rw[ao];omega)
  (λi hi s self hI=>by
   show lK.b0 _ _ _ _=_;unfold lK.b0;have a7:(i:Int) < (ps.length:Int):=by omega
   have hx:=h2 ps[i] (aJ hi);simp only[a7,aO,aS,aN,aK,aC,aB hi,aA];rw[mg _ Bys];have hc:s.length+[ps[i]].length<=cg:=c9 (by simp only[aZ,bR];omega)
   simp only[aA,hc,aK])
  (λi hi s s' hI hs=>by injection hs with hs;rw[<-hs];simp[hI]) (λs self hI=>by
   show lK.b0 _ _ _ _=_;unfold lK.b0;simp only[aV,aI,aF]
   rfl) [] rfl k Bys
 rw[ic,Aw] at this;exact this
theorem AZ (ps:oA) (h:gp ps):jR.ab (ps,())=some (ps,()):=by
 obtain ⟨h1,h2⟩:=h;refine ag (k:=14) λk hk=>(jR.ae k _).trans ?_
 have:=c8 (B:=λself v=>jR.b0 self (λz=>jR.q0 (ps,()) z) (ps,()) v) ps (λ(s:oA) (i:Int)=>(s,i)) (λ_ s x=>.inr (s++[x])) (λs=>(s,())) (λi s=>s.length=i) (by rw[ao];omega)
  (λi hi s self hI=>by
   show jR.b0 _ _ _ _=_;unfold jR.b0;have a7:(i:Int) < (ps.length:Int):=by omega
   have hx:=h2 ps[i] (aJ hi);simp only[a7,aO,aS,aN,aK,aC,aB hi,aA];rw[oT _ Bys];have hc:s.length+[ps[i]].length<=cg:=c9 (by simp only[aZ,bR];omega)
   simp only[aA,hc,aK])
  (λi hi s s' hI hs=>by injection hs with hs;rw[<-hs];simp[hI]) (λs self hI=>by
   show jR.b0 _ _ _ _=_;unfold jR.b0;simp only[aV,aI,aF]
   rfl) [] rfl k Bys
 rw[ic,Aw] at this;exact this
end OT
namespace OT
open Go
def bl (x:ci):Int:=(List.length x.2.1:Int)
def mu (s:Int) (x:ci):Sum (Int×Unit) Int:=
 if dm x.1 0 63 then (if dm (bl x) 1 64 then (if 64 < x.1+bl x then .inl (3,()) else if x.1 < s then .inl (1,()) else .inr (x.1+bl x+1)) else .inl (3,())) else .inl (3,())
def Fh (s:Int) (xs:List ci):Int:=(bt (λ_ s x=>mu s x) (λ_=>((0:Int),())) 0 xs s).1
def ui (xs:List ci):Int:=if 64 < xs.length then 2 else Fh 0 xs
theorem Nv {s s':Int} {x:ci} (h:mu s x=.inr s'):0<=x.1/\x.1<=63/\1<=bl x/\bl x<=64/\x.1+bl x<=64/\s<=x.1/\s'=x.1+bl x+1:=by
 grind [mu,dm]
theorem Qi {s:Int} {x:ci} {o:Int×Unit} (h:mu s x=.inl o):o.1≠0:=by
 grind [mu]
theorem TG {S O α:Type} {f:S->α->Sum O S} {fin:S->O}:∀ (xs:List α) (i j:Nat) (s:S),bt (λ_ s x=>f s x) fin i xs s=bt (λ_ s x=>f s x) fin j xs s
 | [],_,_,_=>rfl
 | x::xs,i,j,s=>by
  simp only[bt];split
  ·rfl
  ·exact TG xs _ _ _
theorem Ld (s:Int) (x:ci) (xs:List ci):Fh s (x::xs)=match mu s x with | .inl o=>o.1 | .inr s'=>Fh s' xs:=by
 unfold Fh;simp only[bt]
 cases h:mu s x with
 | inl o=>rfl
 | inr s'=>simp only;rw[TG xs 1 0]
theorem Le:∀ (xs:List ci) (s:Int),Fh s xs=0->∀ x ∈ xs,0<=x.1/\x.1<=63/\1<=bl x/\bl x<=64
 | [],_,_,_,hx=>by cases hx
 | y::ys,s,h,x,hx=>by
  rw[Ld] at h
  cases hs:mu s y with
  | inl o=>grind [Qi]
  | inr s'=>
   rw[hs] at h;have:=Nv hs;rcases bB.1 hx with e | e
   ·grind
   ·exact Le ys s' h x e
theorem VI {xs:List ci} (h:ui xs=0):List.length xs<=64/\∀ x ∈ xs,0<=x.1/\x.1<=63/\1<=bl x/\bl x<=64:=by
 unfold ui at h;split at h
 ·cases h
 ·exact ⟨by omega,Le xs 0 h⟩
theorem X0 {y z:ci} {ys:List ci} (h:ui (y::z::ys)=0):List.length y.2.1≠64:=by
 grind [ui,Ld,mu,bl]
theorem Sc (xs:List ci):kw.ab (xs,())=some (ui xs,()):=by
 refine ag (k:=66) λk hk=>(kw.ae k _).trans ?_;unfold kw.p ui;by_cases hl:64 < xs.length
 ·grind
 have Ge:¬ (64:Int) < (xs.length:Int):=by omega
 have:=c8 (B:=λself v=>kw.b0 self (λz=>kw.q0 (xs,()) z) (xs,()) v) xs (λ(s:Int) (i:Int)=>(s,i)) (λ_ s x=>mu s x) (λ_=>(0,())) (λ_ _=>True) (by rw[ao];omega)
  (λi hi s self _=>by
   show kw.b0 _ _ _ _=_;unfold kw.b0
   grind [Int.natCast_nonneg,Int.toNat_natCast,si,mu,bl,dm,bi]) (λ_ _ _ _ _ _=>trivial) (λs self _=>by
   grind [kw.b0,kw.q0]) 0 trivial k Bys
 simp only[hl,aR,Ge,aI,aF];exact this
def Lf (k:Int) (xs:List ci):Int:=match xs with
 | []=>1
 | y::_=>if decide (k=4)&&!decide (List.length y.2.1=64) then 1 else 0
def rM (r:bq):Int:=
 if !dm r.1 1 6||(!dm r.1 2 4&&(!decide (r.2.2.1=0)||decide (0 < List.length r.2.2.2.1)))||(decide (r.1=4)&&!decide (r.2.1=0)) then 1
 else if (!decide (r.1=4)&&!dm r.2.1 1 99)||!dm r.2.2.1 0 11 then 3
 else if !dm r.1 2 4 then 0
 else if ui r.2.2.2.1=0 then Lf r.1 r.2.2.2.1 else ui r.2.2.2.1
theorem Qj (k:Int):pT.ab (k,())=some (dm k 2 4,()):=by
 refine ag (k:=0) λn _=>(pT.ae n _).trans ?_;grind [pT.p,dm,decide]
theorem Lg (r:bq):kM.ab (r,())=some (rM r,()):=by
 obtain ⟨k,t,p,xs,⟨⟩⟩:=r;refine ag (k:=0) λn _=>(kM.ae n _).trans ?_;show kM.p _=_;unfold kM.p rM;simp only[si,Qj,MG,Sc,aA,show ∀ a b c:Int,(decide (b<=a)&&decide (a<=c))=dm a b c from λ_ _ _=>rfl];have h0:decide ((0:Int) < (xs.length:Int))=decide (0 < xs.length):=by simp
 rw[h0]
 have hk:dm k 2 4=false->decide (k=4)=false:=by
  intro h;by_cases e:k=4
  ·subst e;cases h
  ·simp[e]
 have X4:∀ y:ci,decide ((List.length y.2.1:Int)=64)=decide (List.length y.2.1=64):=λy=>by
  grind
 have hz:decide (0 < xs.length)=false->xs=[]:=by
  simp_all
 have hh:ui xs=0->(bif decide ((List.length xs:Int)=0) then some ((1:Int),()) else bif decide (k=4) then bif !decide ((List.length xs:Int)=1) then some ((1:Int),()) else (xs[0]?).bind λx23=>bif !decide ((List.length x23.2.1:Int)=64) then some ((1:Int),()) else some (0,()) else some (0,()))=some (Lf k xs,()):=by
  intro hr
  cases xs with
  | nil=>rfl
  | cons y ys=>
   have:¬ ((List.length (y::ys):Int)=0):=by grind
   simp only[this,aI,aF,Lf,dJ,aA,X4]
   cases ys with
   | nil=>grind
   | cons z ys=>
    have h1:=X0 hr;grind
 cases mY:dm k 2 4 with
 | false=>
  have hk4:=hk mY;have CB:ui ([]:List ci)=0:=rfl;grind
 | true=>
  grind
theorem Ax {r:bq} (h:rM r=0):1<=r.1/\r.1<=6/\0<=r.2.1/\r.2.1<=99/\0<=r.2.2.1/\r.2.2.1<=11/\List.length r.2.2.2.1<=64/\∀ x ∈ r.2.2.2.1,0<=x.1/\x.1<=63/\1<=bl x/\bl x<=64:=by
 obtain ⟨k,t,p,xs,⟨⟩⟩:=r;unfold rM at h;split at h
 all_goals grind [VI,dm]
end OT
namespace OT
open Go
theorem Fl:iy.ab ((0:UInt8),())=some (uy,()):=by
 refine ag (k:=66) λk hk=>(iy.ae k _).trans ?_;unfold iy.p
 have:=c8 (B:=λself v=>iy.b0 self (λz=>iy.q0 ((0:UInt8),()) z) ((0:UInt8),()) v) (List.replicate 64 (0:UInt8)) (λ(s:List UInt8) (i:Int)=>(s,i)) (λ_ s _=>.inr s) (λs=>(uy,())) (λ_ s=>s=List.replicate 64 (0:UInt8)) (by rw[ao];simp)
  (λi hi s self hI=>by
   show iy.b0 _ _ _ _=_;unfold iy.b0;subst hI;simp only[cY] at hi ⊢;have a7:(i:Int) < ((64:Nat):Int):=by omega
   have gb:(0:Int)<=(i:Int)/\(i:Int) < ((64:Nat):Int):=by omega
   have hg:(List.replicate 64 (0:UInt8))[i]?=some 0:=(fX (n:=64) (i:=i) (a:=(0:UInt8))).trans (aG hi);have hs:(List.replicate 64 (0:UInt8)).set i 0=List.replicate 64 (0:UInt8):=List.set_replicate_self
   simp only[a7,gb,cM,aO,aS,aK,aC,hg,aA,hs])
  (λi hi s s' hI hs=>by injection hs with hs;rw[<-hs,hI]) (λs self hI=>by
   show iy.b0 _ _ _ _=_;unfold iy.b0;subst hI;simp only[cY,aV,aI,aF]
   rfl) (List.replicate 64 (0:UInt8)) rfl k (by simp;omega)
 rw[ic (g:=λs _=>s)] at this
 have hc:(0:Int)<=64/\(64:Int)<=64/\(64:Int)<=(cg:Int):=⟨by omega,by omega,by simp only[cg];omega⟩
 rw[aG hc];exact this
theorem Lh:l9.ab ((0:UInt8),())=some (uy,()):=by
 refine ag (k:=66) λk hk=>(l9.ae k _).trans ?_;unfold l9.p
 have:=c8 (B:=λself v=>l9.b0 self (λz=>l9.q0 ((0:UInt8),()) z) ((0:UInt8),()) v) (List.replicate 64 (0:UInt8)) (λ(s:List UInt8) (i:Int)=>(s,i)) (λ_ s _=>.inr s) (λs=>(uy,())) (λ_ s=>s=List.replicate 64 (0:UInt8)) (by rw[ao];simp)
  (λi hi s self hI=>by
   show l9.b0 _ _ _ _=_;unfold l9.b0;subst hI;simp only[cY] at hi ⊢;have a7:(i:Int) < (64:Int):=by omega
   have gb:(0:Int)<=(i:Int)/\(i:Int) < ((64:Nat):Int):=by omega
   have hg:(List.replicate 64 (0:UInt8))[i]?=some 0:=(fX (n:=64) (i:=i) (a:=(0:UInt8))).trans (aG hi);have hs:(List.replicate 64 (0:UInt8)).set i 0=List.replicate 64 (0:UInt8):=List.set_replicate_self
   simp only[a7,gb,cM,aO,aS,aK,aC,hg,aA,hs])
  (λi hi s s' hI hs=>by injection hs with hs;rw[<-hs,hI]) (λs self hI=>by
   show l9.b0 _ _ _ _=_;unfold l9.b0;subst hI;have:¬ (((64:Nat):Int) < 64):=by omega
   simp only[cY,this,aI,aF]
   rfl) (List.replicate 64 (0:UInt8)) rfl k (by simp;omega)
 rw[ic (g:=λs _=>s)] at this
 have hc:(0:Int)<=64/\(64:Int)<=64/\(64:Int)<=(cg:Int):=⟨by omega,by omega,by simp only[cg];omega⟩
 rw[aG hc];exact this
end OT
namespace OT
open Go
def JQ (p:List UInt8) (r:ci):List UInt8:=oM p r.1.toNat (min (List.length r.2.1) (p.length - r.1.toNat)) r.2.1
def uz (p:List UInt8) (rs:List ci):List UInt8:=rs.foldl JQ p
theorem Qk {p:List UInt8} {r:ci} (h:r.1.toNat<=p.length):(JQ p r).length=p.length:=sb _ _ Bys Bys
theorem Li:∀ (rs:List ci) (p:List UInt8),p.length=64->(∀ r ∈ rs,0<=r.1/\r.1<=63)->(uz p rs).length=64
 | [],p,h,_=>h
 | r::rs,p,h,hr=>by
  have:=hr r (by simp);exact Li rs _ (by grind [Qk]) (λx hx=>hr x (by simp[hx]))
theorem MH (p:List UInt8) (rs:List ci) (hp:p.length=64) (hl:rs.length<=64) (hr:∀ r ∈ rs,0<=r.1/\r.1<=63):lw.ab (p,rs,())=some (uz p rs,()):=by
 refine ag (k:=66) λk hk=>(lw.ae k _).trans ?_;unfold lw.p;rw[mg _ (by grind)]
 have:=c8 (B:=λself v=>lw.b0 self (λz=>lw.q0 (p,rs,()) z) (p,rs,()) v) rs (λ(s:List UInt8) (i:Int)=>(s,i)) (λ_ s r=>.inr (JQ s r)) (λs=>(s,())) (λ_ s=>s.length=64) (by rw[ao];omega)
  (λi hi s self hI=>by
   show lw.b0 _ _ _ _=_;unfold lw.b0;have a7:(i:Int) < (rs.length:Int):=by omega
   have hx:=hr rs[i] (aJ hi);have gb:(0:Int)<=(rs[i]).1/\(rs[i]).1<=(s.length:Int):=by omega
   simp only[a7,aO,aS,aN,aK,aC,aB hi,aA,gb,cM]
   rfl)
  (λi hi s s' hI hs=>by
   grind [Qk]) (λs self hI=>by
   show lw.b0 _ _ _ _=_;unfold lw.b0;simp only[aV,aI,aF]
   rfl) p hp k Bys
 rw[ic] at this;exact this
theorem ZS (ps:oA) (h:ps.length<=12):mL.ab (ps,())=some (ps,()):=by
 refine ag (k:=0) λk _=>(mL.ae k _).trans ?_;show mL.p _=_;unfold mL.p;refine Ef (λe=>by grind) ?_;grind [c9]
def JR (q:oA) (r:bq):oA:=q.set r.2.2.1.toNat (uz (q.getD r.2.2.1.toNat []) r.2.2.2.1)
def px (ps:oA) (r:bq):Sum Int oA:=
 if rM r=0 then (if dm r.1 2 4 then (if (ps.length:Int) < r.2.2.1 then .inl 1 else .inr (JR (if r.2.2.1=(ps.length:Int) then ps++[uy] else ps) r)) else .inr ps) else .inl (rM r)
theorem Nw {ps:oA} {r:bq} {c:Int} (h:px ps r=.inl c):c≠0:=by
 grind [px]
theorem Ny {q:oA} {r:bq} (hq:gp q) (hr:rM r=0) (hp:r.2.2.1.toNat < q.length):gp (JR q r):=by
 have hg:=Ax hr;refine ⟨by simp[JR];exact hq.1,λp hm=>?_⟩
 rcases eE hm with h | h
 ·exact hq.2 p h
 ·subst h;have hx:q.getD r.2.2.1.toNat []=q[r.2.2.1.toNat]:=by simp[hp]
  rw[hx];exact Li _ _ (hq.2 _ (aJ hp)) (λx hx=>by grind)
theorem Ll {ps vG:oA} {r:bq} (hp:gp ps) (h:px ps r=.inr vG):gp vG:=by
 unfold px at h;split at h
 ·rename_i hr;have hg:=Ax hr;split at h
  ·split at h
   ·cases h
   ·rename_i hl;injection h with h;subst h;split
    ·rename_i he;refine Ny ⟨by simp;omega,λp hm=>?_⟩ hr (by simp;omega);rcases bG.1 hm with hm | hm
     ·exact hp.2 p hm
     grind [CA]
    grind [Ny]
  grind
 ·cases h
theorem Lm (ps:oA) (r:bq) (hp:gp ps) (hr:rM r=0):oW.ab (ps,r,())=some (match px ps r with | .inl c=>(([]:oA),c,()) | .inr vG=>(vG,(0:Int),())):=by
 refine ag (k:=0) λk _=>(oW.ae k _).trans ?_;show oW.p _=_;have hg:=Ax hr;unfold oW.p px;simp only[Qj,hr,aK,aA]
 cases ht:dm r.1 2 4 with
 | false=>rfl
 | true=>
  simp only[aU,aF,aK];by_cases hl:(ps.length:Int) < r.2.2.1
  ·grind
  have Ay:¬ r.2.2.1=12:=by omega
  simp only[hl,Ay,aI,aF,aR,ZS ps hp.1,aA]
  have key:∀ q:oA,gp q->r.2.2.1.toNat < q.length->(if 0<=r.2.2.1/\r.2.2.1 < (q.length:Int) then ((q[r.2.2.1.toNat]?).bind λXS=>(lw.ab (XS,r.2.2.2.1,())).bind λqD=>if 0<=r.2.2.1/\r.2.2.1 < (q.length:Int) then ((q[r.2.2.1.toNat]?).bind λK7=>some (q.set r.2.2.1.toNat qD.1,(0:Int),())) else none) else none:Option oW.O)=some (JR q r,(0:Int),()):=λq hq a7=>by
   have hc:0<=r.2.2.1/\r.2.2.1 < (q.length:Int):=by omega
   simp only[hc,cM,aK,aB a7,aA];rw[MH _ _ (hq.2 _ (aJ a7)) hg.2.2.2.2.2.2.1 (λx hx=>by grind)];grind [JR]
  by_cases he:r.2.2.1=(ps.length:Int)
  ·have hcc:ps.length+[uy].length<=cg:=c9 (by grind);rw[aG he];simp only[he,aO,aS,Fl,aA,hcc,aK];rw[<-he];refine key _ ⟨by simp;omega,λp hm=>?_⟩ (by simp;omega);rcases bG.1 hm with hm | hm
   ·exact hp.2 p hm
   grind [CA]
  grind
def z8 (xs:List bq):oA×Int×Unit:=bt (λ_ ps r=>match px ps r with | .inl c=>.inl (([]:oA),c,()) | .inr vG=>.inr vG) (λps=>(ps,(0:Int),())) 0 xs []
theorem VJ (xs:List bq):(z8 xs).2.1=0->gp (z8 xs).1:=by
 have main:∀ (xs:List bq) (i:Nat) (ps:oA),gp ps->(bt (λ_ ps r=>match px ps r with | .inl c=>.inl (([]:oA),c,()) | .inr vG=>.inr vG) (λps=>(ps,(0:Int),())) i xs ps).2.1=0->gp (bt (λ_ ps r=>match px ps r with | .inl c=>.inl (([]:oA),c,()) | .inr vG=>.inr vG) (λps=>(ps,(0:Int),())) i xs ps).1:=by
  intro xs
  induction xs <;> grind [bt,Nw,Ll]
 exact main xs 0 [] ⟨by simp,λ_ h=>by cases h⟩
theorem Sd (xs:List bq) (hx:xs.length<=maxLen):rm.ab (xs,())=some (z8 xs):=by
 refine ag (k:=xs.length+1) λk hk=>(rm.ae k _).trans ?_
 exact c8 (B:=λself v=>rm.b0 self (λz=>rm.q0 (xs,()) z) (xs,()) v) xs (λ(s:oA) (i:Int)=>(s,i)) (λ_ ps r=>match px ps r with | .inl c=>.inl (([]:oA),c,()) | .inr vG=>.inr vG) (λps=>(ps,(0:Int),())) (λ_ s=>gp s) hx
  (λi hi s self hI=>by
   grind [rm.b0,Int.toNat_natCast,Lg,Lm,px])
  (λi hi s s' hI hs=>by
   grind [Ll]) (λs self hI=>by
   show rm.b0 _ _ _ _=_;unfold rm.b0;simp only[aV,aI,aF]
   rfl) [] ⟨by simp,λ_ h=>by cases h⟩ k Bys
theorem ZT (ps:oA) (h:gp ps):zz (.aa (.aa u8)) ps<=12*65:=by
 obtain ⟨h1,h2⟩:=h
 have main:∀ ps:oA,(∀ p ∈ ps,p.length=64)->zz (.aa (.aa u8)) ps=65*ps.length:=by
  intro ps
  induction ps <;> grind [zz,kK,Dk]
 grind
end OT
set_option linter.unusedSectionVars false
namespace OT
open Go
theorem I1 {V R:Type} {B:(V->Option R)->V->Option R} (f:V->Option R) (I:V->Prop) (μ:V->Nat)
  (h:∀ v,I v->∀ self,B self v=f v\/∃ v',B self v=self v'/\f v'=f v/\I v'/\μ v' < μ v):∀ (k:Nat) (v:V),I v->μ v < k->al B k v=f v
 | 0,v,_,hk=>by omega
 | k+1,v,hI,hk=>by
  show B (al B k) v=f v
  rcases h v hI (al B k) with h1 | ⟨v',h1,h2,h3,h4⟩
  ·exact h1
  ·rw[h1,I1 f I μ h k v' h3 Bys,h2]
def DQ (out:List ci) (y:UInt8):List ci:=match out[out.length - 1]? with
 | some r=>out.set (out.length - 1) (r.1,r.2.1++[y],())
 | none=>out
theorem JS (out:List ci) (j:Int) (bs:List UInt8) (y:UInt8):DQ (out++[(j,bs,())]) y=out++[(j,bs++[y],())]:=by
 grind [DQ]
def y9:Nat->List (UInt8×UInt8)->List ci->Bool->List ci
 | _,[],out,_=>out
 | i,(x,y)::l,out,op=>if x=y then y9 (i+1) l out false else y9 (i+1) l (DQ (if op then out else out++[((i:Int),([]:List UInt8),())]) y) true
def xL (a b:List UInt8):List ci:=y9 0 (a.zip b) [] false
theorem JT (out:List ci) (y:UInt8):(DQ out y).length=out.length:=by
 grind [DQ]
theorem Ql {out:List ci} {y:UInt8} {n:Nat} (h:∀ r ∈ out,List.length r.2.1<=n):∀ r ∈ DQ out y,List.length r.2.1<=n+1:=λr hr=>by
 grind [DQ]
theorem G_:∀ (l:List (UInt8×UInt8)) (i:Nat) (out:List ci) (op:Bool),out.length<=i->(∀ r ∈ out,List.length r.2.1<=i)->(y9 i l out op).length<=i+l.length/\∀ r ∈ y9 i l out op,List.length r.2.1<=i+l.length
 | [],i,out,op,h1,h2=>⟨h1,h2⟩
 | (x,y)::l,i,out,op,h1,h2=>by
  simp only[y9];have e:i+((x,y)::l).length=i+1+l.length:=by grind
  rw[e];split
  ·exact G_ l (i+1) out false Bys λr hr=>by grind
  ·refine G_ l (i+1) _ true ?_ ?_
   ·grind [JT]
   ·refine Ql λr hr=>?_;grind
theorem I2 {a b:List UInt8} (h:a.length=64):(xL a b).length<=64/\∀ r ∈ xL a b,List.length r.2.1<=64:=by
 grind [G_,xL]
def runN:List (UInt8×UInt8)->Nat
 | []=>0
 | (x,y)::l=>if x=y then 0 else runN l+1
theorem MI:∀ (l:List (UInt8×UInt8)) (i:Nat) (out:List ci) (j:Int) (bs:List UInt8),y9 i l (out++[(j,bs,())]) true=y9 (i+runN l+1) (l.drop (runN l+1)) (out++[(j,bs++(l.take (runN l)).map (·.2),())]) false
 | [],i,out,j,bs=>by simp[y9,runN]
 | (x,y)::l,i,out,j,bs=>by
  simp only[y9,runN];by_cases h:x=y
  ·simp[h]
  ·simp only[h,aR,aK];rw[JS,MI l (i+1) out j (bs++[y])];grind
theorem Qm {x y:UInt8}:((x.toNat:Int)=(y.toNat:Int))↔x=y:=by
 constructor
 ·intro h;exact fT.1 Bys
 grind
theorem wG {a b:List UInt8} {i:Nat} (ha:i < a.length) (hb:i < b.length):(a.zip b).drop i=(a[i],b[i])::(a.zip b).drop (i+1):=by
 grind [List.drop_eq_getElem_cons]
section
variable {a b:List UInt8} (ha:a.length=64) (hb:b.length=64)
include ha hb
theorem I3:pE.ab (a,b,())=some (xL a b,()):=by
 refine ag (k:=100) λk hk=>(pE.ae k _).trans ?_
 have:=tm (B:=λself v=>pE.b0 self (pE.q0 (a,b,())) (a,b,()) v) (λv=>(y9 v.2.2.toNat ((a.zip b).drop v.2.2.toNat) v.1 v.2.1,()))
  (λv=>0<=v.2.2/\v.2.2<=64/\List.length v.1<=v.2.2.toNat/\(v.2.1=true->v.1≠[])/\∀ r ∈ v.1,List.length r.2.1<=v.2.2.toNat) (λv=>64 - v.2.2.toNat) (λv hv self=>by
   obtain ⟨out,op,n⟩:=v;obtain ⟨h0,h1,h2,h3,h4⟩:=hv;simp only at h0 h1 h2 h3 h4
   obtain ⟨i,rfl⟩:∃ i:Nat,n=(i:Int):=⟨n.toNat,by omega⟩
   simp only[aC] at h2 h4;unfold pE.b0;by_cases hi:i=64
   ·left;subst hi;have:¬ ((64:Nat):Int) < (a.length:Int):=by omega
    simp only[this,aI,aF,aC];rw[fE (by grind)];rfl
   ·right;have hia:i < a.length:=by omega
    have hib:i < b.length:=by omega
    have a7:(i:Int) < (a.length:Int):=by omega
    have hw:af ((i:Int)+1)=((i+1:Nat):Int):=by grind [bi]
    simp only[a7,aO,aS,aN,aK,aC,aB hia,aB hib,aA,hw,Qm];by_cases he:a[i]=b[i]
    ·refine ⟨(out,false,((i+1:Nat):Int)),by grind,?_,⟨aN _,by grind,by grind,(λe=>by cases e),λr hr=>by grind⟩,by grind⟩
     grind [wG,y9]
    ·have key:∀ (q:List ci),q≠[]->q.length<=i+1->(∀ r ∈ q,List.length r.2.1<=i)->(if 0<=af ((q.length:Int) - (1:Int))/\af ((q.length:Int) - (1:Int)) < (q.length:Int) then (q[(af ((q.length:Int) - (1:Int))).toNat]?).bind λuX=>(q[(af ((q.length:Int) - (1:Int))).toNat]?).bind λxq=>(q[(af ((q.length:Int) - (1:Int))).toNat]?).bind λG4=>if xq.2.1.length+[b[i]].length<=cg then ((q.set (af ((q.length:Int) - (1:Int))).toNat G4)[(af ((q.length:Int) - (1:Int))).toNat]?).bind λwE=>self ((q.set (af ((q.length:Int) - (1:Int))).toNat G4).set (af ((q.length:Int) - (1:Int))).toNat (wE.1,xq.2.1++[b[i]],wE.2.2),true,((i+1:Nat):Int)) else none else none)=self (DQ q b[i],true,((i+1:Nat):Int)):=λq hq hl hr=>by
      have Jy:0 < q.length:=List.length_pos_iff.2 hq;have xz:af ((q.length:Int) - 1)=((q.length - 1:Nat):Int):=by grind [bi]
      have afq:q.length - 1 < q.length:=by omega
      rw[xz,aG ⟨aN _,by omega⟩];grind [c9,DQ,List.set_getElem_self]
     simp only[he,aI,aF];have hlen:out.length+[((i:Int),([]:List UInt8),())].length<=cg:=c9 (by grind);refine ⟨(DQ (if op then out else out++[((i:Int),([]:List UInt8),())]) b[i],true,((i+1:Nat):Int)),?_,?_,⟨aN _,by grind,?_,λ_ hn=>?_,?_⟩,by grind⟩
     ·cases op with
      | true=>
       simp only[aU,aF,aK];exact key out (h3 rfl) Bys h4
      | false=>
       simp only[cI,aS,aE,aR];rw[aG hlen];refine key _ (by simp) (by grind) λr hr=>?_;grind
     ·grind [Int.toNat_natCast,wG,y9]
     ·grind [JT]
     ·grind [JT]
     ·simp only[aC];refine Ql λr hr=>?_
      grind) k (([]:List ci),false,(0:Int)) ⟨fD _,by grind,aW _,(λe=>by cases e),λr hr=>by cases hr⟩ (by grind)
 exact this
theorem Se:jF.ab (a,b,())=some (xL a b,()):=by
 refine ag (k:=200) λk hk=>(jF.ae k _).trans ?_
 have:=tm (B:=λself v=>jF.B0 k self (jF.q1 (a,b,())) (a,b,()) v) (λv=>(y9 v.2.2.2.toNat ((a.zip b).drop v.2.2.2.toNat) v.2.2.1 false,()))
  (λv=>v.1=a/\v.2.1=b/\0<=v.2.2.2/\v.2.2.2<=65/\List.length v.2.2.1<=v.2.2.2.toNat) (λv=>65 - v.2.2.2.toNat) (λv hv self=>by
   obtain ⟨a',b',out,n⟩:=v;obtain ⟨rfl,rfl,h0,h1,h2⟩:=hv;simp only at h0 h1 h2 ha hb
   obtain ⟨i,rfl⟩:∃ i:Nat,n=(i:Int):=⟨n.toNat,by omega⟩
   simp only[aC] at h2;show jF.b0 _ _ _ _ _=_\/∃ v',jF.b0 _ _ _ _ _=_/\_;unfold jF.b0;by_cases hi:64<=i
   ·left;have:¬ (i:Int) < (64:Int):=by omega
    simp only[this,aI,aF,aC];rw[fE (by grind)];rfl
   ·right;have hia:i < a'.length:=by omega
    have hib:i < b'.length:=by omega
    have a7:(i:Int) < (64:Int):=by omega
    have hw:af ((i:Int)+1)=((i+1:Nat):Int):=by grind [bi]
    simp only[a7,aO,aS,aN,aK,aC,aB hia,aB hib,aA,hw,Qm];by_cases he:a'[i]=b'[i]
    ·refine ⟨(a',b',out,((i+1:Nat):Int)),by grind,?_,⟨rfl,rfl,by grind,by grind,by grind⟩,by grind⟩
     grind [wG,y9]
    ·simp only[he,aI,aF]
     obtain ⟨n,hn⟩:∃ n,n=runN ((a'.zip b').drop i):=⟨_,rfl⟩
     have hle:∀ l:List (UInt8×UInt8),runN l<=l.length:=λl=>by
      induction l <;> grind [runN]
     have DM:i+n<=64:=by
      grind
     have gb:jF.r1 k self (jF.q1 (a',b',())) (a',b',()) a' b' out (i:Int) (i:Int)=jF.q0 self (jF.q1 (a',b',())) (a',b',()) a' b' out (i:Int) ((i+n:Nat):Int):=by
      have:=I1 (B:=λw v=>jF.b1 w (jF.q0 self (jF.q1 (a',b',())) (a',b',()) a' b' out (i:Int)) (a',b',()) a' b' out (i:Int) v) (λv=>jF.q0 self (jF.q1 (a',b',())) (a',b',()) a' b' out (i:Int) (v+(runN ((a'.zip b').drop v.toNat):Int)))
       (λv=>0<=v/\v<=64) (λv=>64 - v.toNat) (λv hv ae8=>by
        obtain ⟨g0,g1⟩:=hv
        obtain ⟨j,rfl⟩:∃ j:Nat,v=(j:Int):=⟨v.toNat,by omega⟩
        unfold jF.b1;by_cases hj:j=64
        ·grind
        ·have hja:j < a'.length:=by omega
         have hjb:j < b'.length:=by omega
         have a7:(j:Int) < (64:Int):=by omega
         have hw:af ((j:Int)+1)=((j+1:Nat):Int):=by grind [bi]
         simp only[a7,aO,aS,aN,aK,aC,aB hja,aB hjb,aA,hw,Qm];by_cases he2:a'[j]=b'[j]
         ·grind [wG,runN]
         grind [Int.toNat_natCast,wG,runN]) k (i:Int) ⟨by omega,by omega⟩ (by grind)
      refine this.trans ?_;grind
     have hn1:1<=n:=by
      grind [wG,runN]
     refine ⟨(a',b',out++[((i:Int),(b'.take (i+n)).drop i,())],((i+n+1:Nat):Int)),?_,?_,⟨rfl,rfl,by grind,by grind,by grind⟩,by grind⟩
     ·refine gb.trans ?_;unfold jF.q0;rw[aG ⟨by omega,by omega,by omega⟩];simp only[aC];grind [mg,c9,bi]
     ·simp only[aC];rw[wG hia hib];simp only[y9,he,aR,aE]
      have yf:n=runN ((a'.zip b').drop (i+1))+1:=by
       grind [wG,runN]
      rw[JS,MI];have e1:i+1+runN ((a'.zip b').drop (i+1))+1=i+n+1:=by omega
      have e2:((a'.zip b').drop (i+1)).drop (runN ((a'.zip b').drop (i+1))+1)=(a'.zip b').drop (i+n+1):=by grind [List.drop_drop]
      rw[e1,e2]
      grind [List.map_snd_zip,List.map_take,List.map_drop,List.drop_eq_getElem_cons]) k (a,b,([]:List ci),(0:Int)) ⟨rfl,rfl,by grind,by grind,aW _⟩ (by grind)
 exact this
end
end OT
namespace OT
open Go
def Gk:Int->List ci->Option Int
 | s,[]=>some s
 | s,x::xs=>match mu s x with
  | .inl _=>none
  | .inr s'=>Gk s' xs
theorem TH:∀ (xs:List ci) (s:Int) (y:ci),Gk s (xs++[y])=(Gk s xs).bind λt=>match mu t y with | .inl _=>none | .inr t'=>some t'
 | [],s,y=>by
  simp only[cK,Gk,aA]
 | x::xs,s,y=>by
  simp only[dA,Gk]
  cases mu s x with
  | inl _=>rfl
  | inr t=>exact TH xs t y
theorem JU:∀ (xs:List ci) (i:Nat) (s t:Int),Gk s xs=some t->bt (λ_ s x=>mu s x) (λ_=>((0:Int),())) i xs s=((0:Int),())
 | [],i,s,t,h=>rfl
 | x::xs,i,s,t,h=>by
  simp only[Gk] at h;simp only[bt]
  cases hx:mu s x with
  | inl _=>rw[hx] at h;cases h
  | inr s'=>rw[hx] at h;exact JU xs (i+1) s' t h
theorem TJ:∀ (l:List (UInt8×UInt8)),runN l<=l.length
 | []=>aH _
 | (x,y)::l=>by
  simp only[runN];split
  ·exact aW _
  ·have:=TJ l;simp only[aZ];omega
theorem Qn:∀ (l:List (UInt8×UInt8)) (q:UInt8×UInt8),l[runN l]?=some q->q.1=q.2
 | [],q,h=>by simp[runN] at h
 | (x,y)::l,q,h=>by
  simp only[runN] at h;split at h
  ·rename_i he;simp only[dJ,aP] at h;subst h;exact he
  ·simp only[eO] at h;exact Qn l q h
theorem Is {a b:List UInt8} (ha:a.length=64) (hb:b.length=64) (i j:Nat) (hi:i<=64):(b.take i++a.drop i)[j]?=if j < i then b[j]? else a[j]?:=by
 rw[eY];have hl:(b.take i).length=i:=by rw[cO];omega
 rw[hl];by_cases h:j < i
 ·rw[aG h,aG h,bS,aG h]
 ·rw[aL h,aL h,bP,show i+(j - i)=j by omega]
theorem X5 (p y:List UInt8) (lo n j:Nat) (hn:n<=y.length) (hp:lo+n<=p.length):(oM p lo n y)[j]?=if j < lo then p[j]? else if j < lo+n then y[j - lo]? else p[j]?:=by
 unfold oM;rw[bT,eY];have h1:(p.take lo).length=lo:=by rw[cO];omega
 rw[h1];by_cases h:j < lo
 ·rw[aG h,aG h,bS,aG h]
 rw[aL h,aL h,eY];have h2:(y.take n).length=n:=by rw[cO];omega
 rw[h2];by_cases h3:j < lo+n
 ·rw[aG Bys,aG h3,bS,aG Bys]
 ·rw[aL Bys,aL h3,bP,show lo+n+(j - lo - n)=j by omega]
theorem VK (p:List UInt8) (rs:List ci) (r:ci):uz p (rs++[r])=JQ (uz p rs) r:=by
 unfold uz;rw[iH];rfl
theorem JV {a b:List UInt8} (ha:a.length=64) (hb:b.length=64):∀ (m:Nat) (l:List (UInt8×UInt8)) (i:Nat) (out:List ci) (s:Int),l.length<=m->l=(a.zip b).drop i->Gk 0 out=some s->s<=(i:Int)->uz a out=b.take i++a.drop i->(∃ t,Gk 0 (y9 i l out false)=some t)/\uz a (y9 i l out false)=b
 | m,[],i,out,s,_,hl,hs,hsi,Be=>by
  have hz:(a.zip b).length=64:=by rw[iW];omega
  have hi:64<=i:=by
   have:=cP List.length hl;rw[bU,hz] at this;simp only[bR] at this;omega
  refine ⟨⟨s,hs⟩,?_⟩
  show uz a out=b;rw[Be,fF Bys,fZ Bys,cV]
 | 0,q::l,i,out,s,hm,_,_,_,_=>by simp at hm
 | m+1,(x,y)::l,i,out,s,hm,hl,hs,hsi,Be=>by
  have hz:(a.zip b).length=64:=by rw[iW];omega
  have hi:i+(l.length+1)=64:=by
   have:=cP List.length hl;rw[bU,hz] at this;simp only[aZ] at this;omega
  have xm:∀ j,j < l.length+1->(a.zip b)[i+j]?=((x,y)::l)[j]?:=λj hj=>by
   rw[hl,bP]
  have TK:∀ j (u v:UInt8),((x,y)::l)[j]?=some (u,v)->a[i+j]?=some u/\b[i+j]?=some v:=λj u v h=>by
   have hj:j < l.length+1:=by
    have:=(aM.1 h).1
    simpa using this
   rw[<-xm j hj,List.getElem?_zip_eq_some] at h;exact h
  have Bc:l=(a.zip b).drop (i+1):=by
   rw[<-dD,<- hl];rfl
  have h0:=TK 0 x y rfl;rw[dY] at h0;simp only[y9];by_cases sT:x=y
  ·rw[aG sT];refine JV ha hb m l (i+1) out s (by simp only[aZ] at hm;omega) Bc hs Bys ?_;rw[Be];refine dT λj=>?_;rw[Is ha hb i j Bys,Is ha hb (i+1) j Bys];by_cases h1:j < i
   ·rw[aG h1,aG Bys]
   ·by_cases h2:j=i
    ·rw[aL h1,aG Bys,h2,h0.1,h0.2,sT]
    ·rw[aL h1,aL Bys]
  ·rw[aL sT];simp only[aE,aR];rw[JS,MI]
   obtain ⟨n,hn⟩:∃ n,n=runN l:=⟨_,rfl⟩
   have yf:=TJ l;rw[<-hn] at yf ⊢
   obtain ⟨bs,PI⟩:∃ bs,bs=[]++[y]++(l.take n).map (·.2):=⟨_,rfl⟩
   have Qa:bs.length=n+1:=by rw[PI];simp;omega
   have hbg:∀ j,j < n+1->bs[j]?=b[i+j]?:=λj hj=>by
    cases j with
    | zero=>rw[PI,dY,h0.2];rfl
    | succ j=>
     have hj2:j < l.length:=by omega
     have hq:=TK (j+1) l[j].1 l[j].2 (by simp only[eO];exact aB hj2);rw[hq.2,PI];simp only[cK,fK,eO,eM,bS];rw[aG Bys,aB hj2];rfl
   rw[<-PI]
   have da:Gk 0 (out++[((i:Int),bs,())])=some ((i:Int)+((n+1:Nat):Int)+1):=by
    rw[TH,hs,aA];have h1:bl ((i:Int),bs,())=((n+1:Nat):Int):=by show (bs.length:Int)=_;rw[Qa]
    have h2:mu s ((i:Int),bs,())=.inr ((i:Int)+((n+1:Nat):Int)+1):=by
     unfold mu;rw[h1];have g1:dm (i:Int) 0 63=true:=by unfold dm;simp only[aD,bA];omega
     have g2:dm ((n+1:Nat):Int) 1 64=true:=by unfold dm;simp only[aD,bA];omega
     simp only;rw[aG g1,aG g2,aL Bys,aL Bys]
    rw[h2]
   have aeO:uz a (out++[((i:Int),bs,())])=b.take (i+1+n+1)++a.drop (i+1+n+1):=by
    rw[VK,Be];unfold JQ;simp only[aC];have gy:(b.take i++a.drop i).length=64:=by rw[bK,cO,bU];omega
    rw[gy,Nat.min_eq_left (by rw[Qa];omega),Qa];refine dT λj=>?_;rw[X5 _ _ _ _ _ Bys (by rw[gy];omega),Is ha hb i j Bys];by_cases hle:i+1+n+1<=64
    ·rw[Is ha hb _ j hle];by_cases c1:j < i
     ·rw[aG c1,aG c1,aG Bys]
     ·by_cases c2:j < i+(n+1)
      ·rw[aL c1,aG c2,aG Bys,hbg (j - i) Bys,show i+(j - i)=j by omega]
      ·rw[aL c1,aL c2,aL c1];by_cases c3:j=i+1+n
       ·have Tm:n < l.length:=by omega
        have hq:=TK (n+1) l[n].1 l[n].2 (by simp only[eO];exact aB Tm);have he:=Qn l l[n] (by rw[<-hn];exact aB Tm);rw[aG Bys,c3,show i+1+n=i+(n+1) by omega,hq.1,hq.2,he]
       ·rw[aL Bys]
    ·rw[fF Bys,fZ Bys,cV];by_cases c1:j < i
     ·rw[aG c1,aG c1]
     ·by_cases c2:j < i+(n+1)
      ·rw[aL c1,aG c2,hbg (j - i) Bys,show i+(j - i)=j by omega]
      ·rw[aL c1,aL c2,aL c1,eX Bys,eX Bys]
   refine JV ha hb m (l.drop (n+1)) (i+1+n+1) _ _ (by rw[bU];simp only[aZ] at hm;omega) ?_ da Bys aeO;rw[Bc,dD,show i+1+(n+1)=i+1+n+1 by omega]
theorem Ln {a b:List UInt8} (ha:a.length=64) (hb:b.length=64):uz a (xL a b)=b/\ui (xL a b)=0:=by
 obtain ⟨⟨t,h1⟩,h2⟩:=JV ha hb 64 (a.zip b) 0 [] 0 (by rw[iW];omega) rfl rfl (fD 0) (by simp[uz]);refine ⟨h2,?_⟩
 unfold ui;rw[aL (by have:=(I2 (b:=b) ha).1;omega)];unfold Fh;have:=JU (xL a b) 0 0 t h1;rw[this]
theorem abL {a b:List UInt8} (ha:a.length=64) (hb:b.length=64) (h:a≠b):xL a b≠[]:=λhe=>by
 have:=(Ln ha hb).1;rw[he] at this;exact h this
end OT
