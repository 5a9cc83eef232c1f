/- The proof's parts, merged: Printed by gen.py, a program of this claim  what each Go function computes.. No conditions but those that each states. -/
import Derived.Test.YtgnicpenjinbiaaGreatUd
set_option maxRecDepth 100000
set_option linter.unusedVariables false
namespace OT
open Go Go.Proofs.Tryz
noncomputable section
variable (k:Nat)
namespace ux
abbrev A:=(List Row)×Change×Unit
abbrev O:=Int×Unit
noncomputable def D:FD:={ fn:=f157,tl:=ba,ps:=[(.ro,(.aa ay)),(.ro,au)],rs:=[(i64,(ah i64))],gl:=[(215,du.D.sig),(217,kG.D.sig),(218,oV.D.sig)] }
def ab (a:A):Option O:=@lift O λk=>D.W k a
def p (a1:A):Option O:=(du.ab (a1.2.1,())).bind λr2=>cond (decide (r2.1.1=0)) ((kG.ab (a1.1,a1.2.1,())).bind λr3=>some (r3.1,()))<|cond (!a1.2.1.2.2.1) (some (0,()))<|(oV.ab (a1.1,a1.2.1.2.2.2.1.1,())).bind λr4=>cond (!r4.2.1) (some (4,()))<|cond (decide (r4.1 < (a1.2.1.2.2.2.1.2.2.2.1.length:Int))) (some (10,()))<|some (0,())
theorem af (a1:A):@Eq (Option O) (D.W k a1) (p a1):=Bye
theorem ok:Ok prog 157 D.sig:=al func157 ap Bye (fc du.ok (fc kG.ok (fc oV.ok (aj _))))
end ux
namespace cz
abbrev A:=(List Row)×(List Tx)×Op×Unit
abbrev O:=b_×Unit
abbrev P:=Option O
noncomputable def D:FD:={ fn:=f85,tl:=ba,ps:=[(.ro,(.aa ay)),(.ro,(.aa bm)),(.ro,l7)],rs:=[(fb,(ah fb))],gl:=[(100,dx.D.sig),(142,kg.D.sig),(155,bY.D.sig),(157,ux.D.sig)],lv:=[(3,[0,1,5,6,7,24,25,26]),(7,[0,1,5,6,7,24,25,26,36,37,38])],lx:=[(0,[0,1,5,6,7]),(1,[0,1,5,6,7,24,25,26]),(2,[0,1,5,6,7,24,25,26])],od:=[(20,[0,1,2,3,4,5,6,7]),(22,[0,1,2,3,4,5])],ar:=[(20,[3]),(22,[1])],bx:=[(22,[5])] }
def ab (a:A):P:=@lift O λk=>D.W k a
def T0 (a1:A) (U:(List Row)×(List Tx)×Op×b_×Key×(List Tx)×Int×Int):St:={ n:=145,sl:=[(0,.val (.aa ay) U.1),(1,.val (.aa bm) U.2.1),(5,.box l7 (ah l7) [] U.2.2.1),(6,.box fb (ah fb) [] U.2.2.2.1),(7,.box bk (ah bk) [] U.2.2.2.2.1),(24,.val (.aa bm) U.2.2.2.2.2.1),(25,.val i64 U.2.2.2.2.2.2.1),(26,.val i64 U.2.2.2.2.2.2.2)],vr:=[],az:=[] }
def S0 (rec:RT O) (a1:A):((List Row)×(List Tx)×Op×b_×Key×(List Tx)×Int×Int)->P:=λU=>rec (T0 a1 U)
def dq (K:KT O) (a1:A):((List Row)×(List Tx)×Op×b_×Key)->P:=λz=>K (.exit 0) ({ n:=145,sl:=[(0,.val (.aa ay) z.1),(1,.val (.aa bm) z.2.1),(5,.box l7 (ah l7) [] z.2.2.1),(6,.box fb (ah fb) [] z.2.2.2.1),(7,.box bk (ah bk) [] z.2.2.2.2)],vr:=[],az:=[] })
def T1 (a1:A) (fd:List Row) (dz:List Tx) (de:Op) (cw:b_) (da:Key) (fy:List Tx) (jv:Int) (my:Int) (zY:List Key) (zZ:Int) (pq:Int):St:={ n:=145,sl:=[(0,.val (.aa ay) fd),(1,.val (.aa bm) dz),(5,.box l7 (ah l7) [] de),(6,.box fb (ah fb) [] cw),(7,.box bk (ah bk) [] da),(24,.val (.aa bm) fy),(25,.val i64 jv),(26,.val i64 my),(36,.val (.aa bk) zY),(37,.val i64 zZ),(38,.val i64 pq)],vr:=[],az:=[] }
def b1 (self:Int->P) (e2:(Unit)->P) (a1:A) (fd:List Row) (dz:List Tx) (de:Op) (cw:b_) (da:Key) (fy:List Tx) (jv:Int) (my:Int) (zY:List Key) (zZ:Int) (pq:Int):P:=cond (decide (pq < zZ)) (if 0<=pq then ((zY[pq.toNat]?).bind λQu=>cond (Ty.eq bk Qu da) (some ((7,false,(false,(0,0,0,([]:Byt),()),false,(0,0,0,([]:Byt),()),()),()),()))<|cond (!decide (da.1=0)) (cond (Ty.eq bk Qu (0,da.1,())) (some ((7,false,(false,(0,0,0,([]:Byt),()),false,(0,0,0,([]:Byt),()),()),()),()))<|cond (decide (da.1=0)) (cond (decide (Qu.1=da.2.1)) (some ((7,false,(false,(0,0,0,([]:Byt),()),false,(0,0,0,([]:Byt),()),()),()),()))<|self (ae (pq+1)))<|self (ae (pq+1)))<|cond (decide (da.1=0)) (cond (decide (Qu.1=da.2.1)) (some ((7,false,(false,(0,0,0,([]:Byt),()),false,(0,0,0,([]:Byt),()),()),()),()))<|self (ae (pq+1)))<|self (ae (pq+1))) else none)<|e2 ()
def q0 (self:((List Row)×(List Tx)×Op×b_×Key×(List Tx)×Int×Int)->P) (e0:((List Row)×(List Tx)×Op×b_×Key)->P) (a1:A) (fd:List Row) (dz:List Tx) (de:Op) (cw:b_) (da:Key) (fy:List Tx) (jv:Int) (my:Int) (zY:List Key) (zZ:Int) (agm:(Unit)):P:=self (fd,dz,de,cw,da,fy,jv,ae (my+1))
def s1 (rec:RT O) (K:KT O) (a1:A):(List Row)->(List Tx)->Op->b_->Key->(List Tx)->Int->Int->(List Key)->Int->(Int)->P:=λfd dz de cw da fy jv my zY zZ=>λpq=>D.L k [1,1,0,1,0,0,1,1,0,0,1,1,1,0,0] [0,1,5,6,7,24,25,26,36,37,38] [] (ak 2 (ak 1 (ax (D.N k [1,1,0,1,0,0,1,1,1]) (kU rec (iv [0,1,5,6,7,24,25,26] []) K)))) (T1 a1 fd dz de cw da fy jv my zY zZ pq)
def r1 (self:((List Row)×(List Tx)×Op×b_×Key×(List Tx)×Int×Int)->P) (e0:((List Row)×(List Tx)×Op×b_×Key)->P) (a1:A):(List Row)->(List Tx)->Op->b_->Key->(List Tx)->Int->Int->(List Key)->Int->(Int)->P:=λfd dz de cw da fy jv my zY zZ=>ao (λw v=>b1 w (q0 self e0 a1 fd dz de cw da fy jv my zY zZ) a1 fd dz de cw da fy jv my zY zZ v) k
theorem nU (rec:RT O) (K:KT O) (a1:A):s1 k rec K a1=r1 k (S0 rec a1) (dq K a1) a1:=
 funext λfd=>funext λdz=>funext λde=>funext λcw=>funext λda=>funext λfy=>funext λjv=>funext λmy=>funext λzY=>funext λzZ=>funext λpq=>aq _ _ _ (T1 a1 fd dz de cw da fy jv my zY zZ) _ (λrec v=>Bye) k pq
def b0 (self:((List Row)×(List Tx)×Op×b_×Key×(List Tx)×Int×Int)->P) (e0:((List Row)×(List Tx)×Op×b_×Key)->P) (l1:(List Row)->(List Tx)->Op->b_->Key->(List Tx)->Int->Int->(List Key)->Int->(Int)->P) (a1:A) (U:(List Row)×(List Tx)×Op×b_×Key×(List Tx)×Int×Int):P:=cond (decide (U.2.2.2.2.2.2.2 < U.2.2.2.2.2.2.1)) (if 0<=U.2.2.2.2.2.2.2 then ((U.2.2.2.2.2.1[U.2.2.2.2.2.2.2.toNat]?).bind λbg=>cond (decide (bg.1=U.2.2.1.2.1)) (self (U.1,U.2.1,U.2.2.1,U.2.2.2.1,U.2.2.2.2.1,U.2.2.2.2.2.1,U.2.2.2.2.2.2.1,ae (U.2.2.2.2.2.2.2+1)))<|l1 U.1 U.2.1 U.2.2.1 U.2.2.2.1 U.2.2.2.2.1 U.2.2.2.2.2.1 U.2.2.2.2.2.2.1 U.2.2.2.2.2.2.2 bg.2.2.2.1 (bg.2.2.2.1.length:Int) 0) else none)<|e0 (U.1,U.2.1,U.2.2.1,U.2.2.2.1,U.2.2.2.2.1)
def B0 (self:((List Row)×(List Tx)×Op×b_×Key×(List Tx)×Int×Int)->P) (e0:((List Row)×(List Tx)×Op×b_×Key)->P) (a1:A) (U:(List Row)×(List Tx)×Op×b_×Key×(List Tx)×Int×Int):P:=b0 self e0 (r1 k self e0 a1) a1 U
theorem nT (rec:RT O) (K:KT O) (a1:A) (U:(List Row)×(List Tx)×Op×b_×Key×(List Tx)×Int×Int):D.N k [1,1,0,1,0,0] (T0 a1 U) (kU rec (iv [0,1,5,6,7,24,25,26] []) K)=B0 k (S0 rec a1) (dq K a1) a1 U:=
 aV (b:=b0 (S0 rec a1) (dq K a1) (s1 k rec K a1) a1 U) Bye (by rw[nU];rfl)
def q1 (a1:A) (qC:((List Row)×(List Tx)×Op×b_×Key)):P:=(bY.ab (qC.1,qC.2.2.1.2.2.1,((156,0):Nat×Int),())).bind λEj=>let acR:P:=let acS:P:=let acT:=λ(Qv:Change)=>(let acU:=λ(Ek:Change)=>((ux.ab (qC.1,Ek,())).bind λMM=>cond (!decide (MM.1=0)) (some ((MM.1,false,(false,(0,0,0,([]:Byt),()),false,(0,0,0,([]:Byt),()),()),()),()))<|(dx.ab (qC.1,qC.2.1,())).bind λXc=>cond (decide (12 < ((oU bk Xc.1 qC.2.2.2.2 true).length:Int))) (some ((9,false,(false,(0,0,0,([]:Byt),()),false,(0,0,0,([]:Byt),()),()),()),()))<|(kg.ab (qC.2.1,())).bind λXd=>cond (decide (12<=Xd.1)) (some ((9,false,(false,(0,0,0,([]:Byt),()),false,(0,0,0,([]:Byt),()),()),()),()))<|cond Ek.1 (cond Ek.2.2.1 (cond (Ty.eq ay Ek.2.1 Ek.2.2.2.1) (some ((0,false,(false,(0,0,0,([]:Byt),()),false,(0,0,0,([]:Byt),()),()),()),()))<|some ((0,true,Ek,()),()))<|some ((0,true,Ek,()),()))<|some ((0,true,Ek,()),()):P);cond (!decide (qC.2.2.1.1=4)) (acU (Qv.1,Qv.2.1,true,qC.2.2.1.2.2.1,Qv.2.2.2.2))<|acU Qv:P);cond Ej.2.1 (if 0<=Ej.1 then ((qC.1[Ej.1.toNat]?).bind λagn=>acT (true,agn,false,(0,0,0,([]:Byt),()),())) else none)<|acT (false,(0,0,0,([]:Byt),()),false,(0,0,0,([]:Byt),()),());cond (!decide (qC.2.2.1.1=2)) (cond (!Ej.2.1) (some ((4,false,(false,(0,0,0,([]:Byt),()),false,(0,0,0,([]:Byt),()),()),()),()))<|acS)<|acS;cond (decide (qC.2.2.1.1=2)) (cond Ej.2.1 (some ((6,false,(false,(0,0,0,([]:Byt),()),false,(0,0,0,([]:Byt),()),()),()),()))<|acR)<|acR
theorem tc (a1:A) (qC:((List Row)×(List Tx)×Op×b_×Key)):dq (ak 0 (ax (D.N k [1,1,1]) D.K0)) a1 qC=q1 a1 qC:=Bye
def s0 (a1:A):((List Row)×(List Tx)×Op×b_×Key×(List Tx)×Int×Int)->P:=λU=>D.L k [1,1,0,1,0,0] [0,1,5,6,7,24,25,26] [] (ak 0 (ax (D.N k [1,1,1]) D.K0)) (T0 a1 U)
def r0 (a1:A):((List Row)×(List Tx)×Op×b_×Key×(List Tx)×Int×Int)->P:=ao (λw v=>B0 k w (q1 a1) a1 v) k
theorem av (a1:A):s0 k a1=r0 k a1:=by
 funext U;have h0:dq (ak 0 (ax (D.N k [1,1,1]) D.K0)) a1=q1 a1:=funext λz=>tc k a1 z;refine (aq _ _ _ (T0 a1) (λself v=>B0 k self (dq (ak 0 (ax (D.N k [1,1,1]) D.K0)) a1) a1 v) (λrec v=>nT k rec (ak 0 (ax (D.N k [1,1,1]) D.K0)) a1 v) k U).trans ?_;rw[h0];rfl
def p (l0:((List Row)×(List Tx)×Op×b_×Key×(List Tx)×Int×Int)->P) (a1:A):P:=l0 (a1.1,a1.2.1,a1.2.2.1,(0,false,(false,(0,0,0,([]:Byt),()),false,(0,0,0,([]:Byt),()),()),()),(a1.2.2.1.2.2.1.1,a1.2.2.1.2.2.1.2.1,()),a1.2.1,(a1.2.1.length:Int),0)
theorem af (a1:A):@Eq P (D.W k a1) (p (r0 k a1) a1):=
 aV (b:=p (s0 k a1) a1) Bye (by rw[av])
theorem ok:Ok prog 85 D.sig:=al func85 ap Bye (fc dx.ok (fc kg.ok (fc bY.ok (fc ux.ok (aj _)))))
end cz
namespace je
abbrev A:=(List Row)×(List Tx)×Op×Unit
abbrev O:=b_×Unit
abbrev P:=Option O
noncomputable def D:FD:={ fn:=f37,tl:=ba,ps:=[(.ro,(.aa ay)),(.ro,(.aa bm)),(.ro,l7)],rs:=[(fb,(ah fb))],gl:=[(81,gd.D.sig),(82,ct.D.sig),(83,sx.D.sig),(84,nM.D.sig),(85,cz.D.sig)],lv:=[(2,[0,1,5,6,16,17,18])],lx:=[(0,[0,1,5,6])],od:=[(1,[0,2,4,8,1,3,5,6,7]),(22,[0,1,2,3,4,5,6,7,8])] }
def ab (a:A):P:=@lift O λk=>D.W k a
variable (a1:A)
def T0 (iF:List Int) (td:Int) (jX:Int):St:={ n:=79,sl:=[(0,.val (.aa ay) a1.1),(1,.val (.aa bm) a1.2.1),(5,.box l7 (ah l7) [] a1.2.2.1),(6,.box fb (ah fb) [] ((0:Int),false,(false,((0:Int),(0:Int),(0:Int),([]:Byt),()),false,((0:Int),(0:Int),(0:Int),([]:Byt),()),()),())),(16,.own (.aa i64) (ai (.aa i64)) [] iF),(17,.val i64 td),(18,.val i64 jX)],vr:=[],az:=[] }
def b0 (self:Int->P) (e0:(Unit)->P) (a1:A) (iF:List Int) (td:Int) (jX:Int):P:=cond (decide (jX < td)) (if 0<=jX/\jX < (iF.length:Int) then ((iF[jX.toNat]?).bind λpR=>cond (!decide (pR=0)) (some ((pR,false,(false,(0,0,0,([]:Byt),()),false,(0,0,0,([]:Byt),()),()),()),()))<|self (ae (jX+1))) else none)<|e0 ()
def q0 (iF:List Int) (td:Int) (xv:(Unit)):P:=cond (decide (a1.2.2.1.1=1)) (cond (decide (4<=(a1.2.1.length:Int))) (some ((2,false,(false,(0,0,0,([]:Byt),()),false,(0,0,0,([]:Byt),()),()),()),()))<|some ((0,false,(false,(0,0,0,([]:Byt),()),false,(0,0,0,([]:Byt),()),()),()),()))<|cond (decide (a1.2.2.1.1=9)) (some ((0,false,(false,(0,0,0,([]:Byt),()),false,(0,0,0,([]:Byt),()),()),()),()))<|(nM.ab (a1.2.1,a1.2.2.1.2.1,())).bind λtP=>cond (decide (tP.1 < 0)) (some ((4,false,(false,(0,0,0,([]:Byt),()),false,(0,0,0,([]:Byt),()),()),()),()))<|let Iu:P:=some ((0,false,(false,(0,0,0,([]:Byt),()),false,(0,0,0,([]:Byt),()),()),()),());cond (decide (a1.2.2.1.1=5)) (if 0<=tP.1 then ((a1.2.1[tP.1.toNat]?).bind λGE=>cond (decide (8<=(GE.2.2.1.length:Int))) (some ((2,false,(false,(0,0,0,([]:Byt),()),false,(0,0,0,([]:Byt),()),()),()),()))<|Iu) else none)<|cond (decide (a1.2.2.1.1=6)) (if 0<=tP.1 then ((a1.2.1[tP.1.toNat]?).bind λLc=>cond (decide ((Lc.2.2.1.length:Int)<=a1.2.2.1.2.2.2.1)) (some ((3,false,(false,(0,0,0,([]:Byt),()),false,(0,0,0,([]:Byt),()),()),()),()))<|Iu) else none)<|cond (decide (a1.2.2.1.1=2)) (cond (decide (a1.2.2.1.1=2)) ((cz.ab (a1.1,a1.2.1,a1.2.2.1,())).bind λabj=>some (abj.1,()))<|Iu)<|cond (decide (a1.2.2.1.1=3)) (cond (decide (a1.2.2.1.1=3)) ((cz.ab (a1.1,a1.2.1,a1.2.2.1,())).bind λzR=>some (zR.1,()))<|Iu)<|cond (decide (a1.2.2.1.1=4)) ((cz.ab (a1.1,a1.2.1,a1.2.2.1,())).bind λOa=>some (Oa.1,()))<|Iu
def r0:(List Int)->Int->(Int)->P:=λiF td=>ao (λw v=>b0 w (q0 a1 iF td) a1 iF td v) k
theorem av:@Eq ((List Int)->Int->(Int)->P) (λiF td=>λjX=>D.L k [1,0,1,0,0] [0,1,5,6,16,17,18] [] (ak 0 (ax (D.N k [1,1]) D.K0)) (T0 a1 iF td jX)) (r0 k a1):=
 funext λiF=>funext λtd=>funext λjX=>aq _ _ _ (T0 a1 iF td) _ (λrec v=>Bye) k jX
def p (l0:(List Int)->Int->(Int)->P) (a1:A):P:=(gd.ab (a1.1,())).bind λr2=>(ct.ab (a1.2.1,())).bind λr3=>(sx.ab (a1.2.2.1,())).bind λr4=>l0 [r2.1,r3.1,r4.1] ([r2.1,r3.1,r4.1].length:Int) 0
theorem af:@Eq P (D.W k a1) (p (r0 k a1) a1):=By8 (av k a1) Bye
theorem ok:Ok prog 37 D.sig:=al func37 ap Bye (fc gd.ok (fc ct.ok (fc sx.ok (fc nM.ok (fc cz.ok (aj _))))))
end je
namespace rm
abbrev A:=aw×Unit
abbrev O:=(List Row)×Unit
noncomputable def D:FD:={ fn:=f38,tl:=ba,ps:=[(.ro,e_)],rs:=[((.aa ay),(ai (.aa ay)))],gl:=[(56,fe.D.sig),(57,lT.D.sig)] }
def ab (a:A):Option O:=@lift O λk=>D.W k a
def p (a1:A):Option O:=(fe.ab (a1.1.2.1,())).bind λr2=>(lT.ab (r2.1,())).bind λr3=>some (r3.1,())
theorem af (a1:A):@Eq (Option O) (D.W k a1) (p a1):=Bye
theorem ok:Ok prog 38 D.sig:=al func38 ap Bye (fc fe.ok (fc lT.ok (aj _)))
end rm
namespace mM
abbrev A:=(List Byt)×Unit
abbrev O:=(List Byt)×Unit
abbrev P:=Option O
noncomputable def D:FD:={ fn:=f80,tl:=ba,ps:=[(.ro,(.aa (.aa u8)))],rs:=[((.aa (.aa u8)),(ai (.aa (.aa u8))))],gl:=[(91,cj.D.sig)],lv:=[(3,[3,6,7,8])],lx:=[(0,[3])] }
def ab (a:A):P:=@lift O λk=>D.W k a
variable (a1:A)
def T0 (U:(List Byt)×Int):St:={ n:=19,sl:=[(3,.own (.aa (.aa u8)) (ai (.aa (.aa u8))) [] U.1),(6,.val (.aa (.aa u8)) a1.1),(7,.val i64 (a1.1.length:Int)),(8,.val i64 U.2)],vr:=[],az:=[] }
def b0 (self:((List Byt)×Int)->P) (e0:(List Byt)->P) (a1:A) (U:(List Byt)×Int):P:=cond (decide (U.2 < (a1.1.length:Int))) (if 0<=U.2 then ((a1.1[U.2.toNat]?).bind λbg=>(cj.ab (bg,())).bind λbr=>if U.1.length+[br.1].length<=be then (self (U.1++[br.1],ae (U.2+1))) else none) else none)<|e0 U.1
def q0 (a1:A) (fm:(List Byt)):P:=some (fm,())
def r0:((List Byt)×Int)->P:=ao (λw v=>b0 w (q0 a1) a1 v) k
theorem av:@Eq (((List Byt)×Int)->P) (λU=>D.L k [1,1,0,1,0,0] [3,6,7,8] [] (ak 0 (ax (D.N k [1,1,1]) D.K0)) (T0 a1 U)) (r0 k a1):=
 funext λU=>aq _ _ _ (T0 a1) _ (λrec v=>Bye) k U
def p (l0:((List Byt)×Int)->P) (a1:A):P:=l0 (([]:List Byt),0)
theorem af:@Eq P (D.W k a1) (p (r0 k a1) a1):=By8 (av k a1) Bye
theorem ok:Ok prog 80 D.sig:=al func80 ap Bye (fc cj.ok (aj _))
end mM
namespace tQ
abbrev A:=Log×Unit
abbrev O:=Log×Unit
noncomputable def D:FD:={ fn:=f86,tl:=ba,ps:=[(.ro,ma)],rs:=[(ma,(ai ma))],gl:=[(91,cj.D.sig)],od:=[(1,[0,1,3,4,2,5,6,7])] }
def ab (a:A):Option O:=@lift O λk=>D.W k a
def p (a1:A):Option O:=(cj.ab (a1.1.1,())).bind λr2=>(cj.ab (a1.1.2.1,())).bind λr3=>some ((r2.1,r3.1,()),())
theorem af (a1:A):@Eq (Option O) (D.W k a1) (p a1):=Bye
theorem ok:Ok prog 86 D.sig:=al func86 ap Bye (fc cj.ok (aj _))
end tQ
namespace m9
abbrev A:=(List Change)×Unit
abbrev O:=(List Change)×Unit
noncomputable def D:FD:={ fn:=f158,tl:=ba,ps:=[(.ro,(.aa au))],rs:=[((.aa au),(ai (.aa au)))] }
def ab (a:A):Option O:=@lift O λk=>D.W k a
def p (a1:A):Option O:=CQ a1.1 (some (([]:List Change),())) (if ([]:List Change).length+a1.1.length<=be then (some (([]:List Change)++a1.1,())) else none)
theorem af (a1:A):@Eq (Option O) (D.W k a1) (p a1):=Bye
theorem ok:Ok prog 158 D.sig:=al func158 ap Bye (aj _)
end m9
namespace nN
abbrev A:=(List Int)×Unit
abbrev O:=(List Int)×Unit
noncomputable def D:FD:={ fn:=f159,tl:=ba,ps:=[(.ro,(.aa i64))],rs:=[((.aa i64),(ai (.aa i64)))] }
def ab (a:A):Option O:=@lift O λk=>D.W k a
def p (a1:A):Option O:=CQ a1.1 (some (([]:List Int),())) (if ([]:List Int).length+a1.1.length<=be then (some (([]:List Int)++a1.1,())) else none)
theorem af (a1:A):@Eq (Option O) (D.W k a1) (p a1):=Bye
theorem ok:Ok prog 159 D.sig:=al func159 ap Bye (aj _)
end nN
namespace oW
abbrev A:=(List Key)×Unit
abbrev O:=(List Key)×Unit
noncomputable def D:FD:={ fn:=f160,tl:=ba,ps:=[(.ro,(.aa bk))],rs:=[((.aa bk),(ai (.aa bk)))] }
def ab (a:A):Option O:=@lift O λk=>D.W k a
def p (a1:A):Option O:=CQ a1.1 (some (([]:List Key),())) (if ([]:List Key).length+a1.1.length<=be then (some (([]:List Key)++a1.1,())) else none)
theorem af (a1:A):@Eq (Option O) (D.W k a1) (p a1):=Bye
theorem ok:Ok prog 160 D.sig:=al func160 ap Bye (aj _)
end oW
namespace h_
abbrev A:=(List Tx)×Unit
abbrev O:=(List Tx)×Unit
abbrev P:=Option O
noncomputable def D:FD:={ fn:=f87,tl:=ba,ps:=[(.ro,(.aa bm))],rs:=[((.aa bm),(ai (.aa bm)))],gl:=[(158,m9.D.sig),(159,nN.D.sig),(160,oW.D.sig)],lv:=[(3,[3,6,7,8])],lx:=[(0,[3])],od:=[(5,[0,1,2,3,4,6,7,9,10,5,8,11,12,13,14,15])] }
def ab (a:A):P:=@lift O λk=>D.W k a
variable (a1:A)
def T0 (U:(List Tx)×Int):St:={ n:=29,sl:=[(3,.own (.aa bm) (ai (.aa bm)) [] U.1),(6,.val (.aa bm) a1.1),(7,.val i64 (a1.1.length:Int)),(8,.val i64 U.2)],vr:=[],az:=[] }
def b0 (self:((List Tx)×Int)->P) (e0:(List Tx)->P) (a1:A) (U:(List Tx)×Int):P:=cond (decide (U.2 < (a1.1.length:Int))) (if 0<=U.2 then ((a1.1[U.2.toNat]?).bind λbg=>(m9.ab (bg.2.1,())).bind λbr=>(nN.ab (bg.2.2.1,())).bind λfu=>(oW.ab (bg.2.2.2.1,())).bind λfw=>if U.1.length+[(bg.1,br.1,fu.1,fw.1,())].length<=be then (let EP:=U.1++[(bg.1,br.1,fu.1,fw.1,())];self (EP,ae (U.2+1))) else none) else none)<|e0 U.1
def q0 (a1:A) (BY:(List Tx)):P:=some (BY,())
def r0:((List Tx)×Int)->P:=ao (λw v=>b0 w (q0 a1) a1 v) k
theorem av:@Eq (((List Tx)×Int)->P) (λU=>D.L k [1,1,0,1,0,0] [3,6,7,8] [] (ak 0 (ax (D.N k [1,1,1]) D.K0)) (T0 a1 U)) (r0 k a1):=
 funext λU=>aq _ _ _ (T0 a1) _ (λrec v=>Bye) k U
def p (l0:((List Tx)×Int)->P) (a1:A):P:=l0 (([]:List Tx),0)
theorem af:@Eq P (D.W k a1) (p (r0 k a1) a1):=By8 (av k a1) Bye
theorem ok:Ok prog 87 D.sig:=al func87 ap Bye (fc m9.ok (fc nN.ok (fc oW.ok (aj _))))
end h_
namespace qq
abbrev A:=aw×Unit
abbrev O:=aw×Unit
noncomputable def D:FD:={ fn:=f40,tl:=ba,ps:=[(.ro,e_)],rs:=[(e_,(ai e_))],gl:=[(80,mM.D.sig),(86,tQ.D.sig),(87,h_.D.sig)],od:=[(1,[0,1,2,3,5,6,8,9,11,12,4,7,10,13,14])] }
def ab (a:A):Option O:=@lift O λk=>D.W k a
def p (a1:A):Option O:=(mM.ab (a1.1.2.1,())).bind λr2=>(tQ.ab (a1.1.2.2.1,())).bind λr3=>(h_.ab (a1.1.2.2.2.1,())).bind λr4=>some ((a1.1.1,r2.1,r3.1,r4.1,a1.1.2.2.2.2.1,()),())
theorem af (a1:A):@Eq (Option O) (D.W k a1) (p a1):=Bye
theorem ok:Ok prog 40 D.sig:=al func40 ap Bye (fc mM.ok (fc tQ.ok (fc h_.ok (aj _))))
end qq
namespace pS
abbrev A:=(List Tx)×Key×Unit
abbrev O:=Int×Unit
abbrev P:=Option O
noncomputable def D:FD:={ fn:=f140,tl:=ba,ps:=[(.ro,(.aa bm)),(.ro,bk)],rs:=[(i64,(ah i64))],gl:=[(214,gv.D.sig)],lv:=[(2,[3,7,8,9])],lx:=[(0,[])] }
def ab (a:A):P:=@lift O λk=>D.W k a
variable (a1:A)
def T0 (U:Int):St:={ n:=20,sl:=[(3,.box bk (ah bk) [] a1.2.1),(7,.val (.aa bm) a1.1),(8,.val i64 (a1.1.length:Int)),(9,.val i64 U)],vr:=[],az:=[] }
def b0 (self:Int->P) (e0:(Unit)->P) (a1:A) (U:Int):P:=cond (decide (U < (a1.1.length:Int))) (if 0<=U then ((a1.1[U.toNat]?).bind λbg=>(gv.ab (bg.2.2.2.1,a1.2.1,())).bind λbr=>cond br.1 (some (bg.1,()))<|self (ae (U+1))) else none)<|e0 ()
def q0 (a1:A) (fm:(Unit)):P:=some (0,())
def r0:(Int)->P:=ao (λw v=>b0 w (q0 a1) a1 v) k
theorem av:@Eq ((Int)->P) (λU=>D.L k [1,0,1,0,0] [3,7,8,9] [] (ak 0 (ax (D.N k [1,1]) D.K0)) (T0 a1 U)) (r0 k a1):=
 funext λU=>aq _ _ _ (T0 a1) _ (λrec v=>Bye) k U
def p (l0:(Int)->P) (a1:A):P:=l0 0
theorem af:@Eq P (D.W k a1) (p (r0 k a1) a1):=By8 (av k a1) Bye
theorem ok:Ok prog 140 D.sig:=al func140 ap Bye (fc gv.ok (aj _))
end pS
namespace th
abbrev A:=(List Tx)×Int×Change×Unit
abbrev O:=(List Tx)×Unit
noncomputable def D:FD:={ fn:=f143,tl:=ba,ps:=[(.ro,(.aa bm)),(.ro,i64),(.ro,au)],rs:=[((.aa bm),(ai (.aa bm)))],gl:=[(87,h_.D.sig),(141,jr.D.sig),(214,gv.D.sig)],od:=[(3,[0,1,2,3,4,5,6,7,8,9,10]),(4,[0,1,2,3,4,5,6,7]),(5,[0,1,2,3,4,5,6,7,8,9,10,11])] }
def ab (a:A):Option O:=@lift O λk=>D.W k a
def p (a1:A):Option O:=(h_.ab (a1.1,())).bind λr2=>if 0<=a1.2.1/\a1.2.1 < (r2.1.length:Int) then ((r2.1[a1.2.1.toNat]?).bind λx3=>(r2.1[a1.2.1.toNat]?).bind λx4=>(r2.1[a1.2.1.toNat]?).bind λx5=>if x4.2.1.length+[a1.2.2.1].length<=be then (if a1.2.1.toNat=a1.2.1.toNat then ((r2.1.set a1.2.1.toNat x5)[a1.2.1.toNat]?).bind λx6=>let y7:=(r2.1.set a1.2.1.toNat x5).set a1.2.1.toNat (x6.1,x4.2.1++[a1.2.2.1],x6.2.2);(y7[a1.2.1.toNat]?).bind λx8=>(jr.ab (a1.2.2.1,())).bind λr9=>(y7[a1.2.1.toNat]?).bind λDr=>(gv.ab (Dr.2.2.2.1,r9.1,())).bind λnJ=>cond (!nJ.1) ((y7[a1.2.1.toNat]?).bind λKl=>(jr.ab (a1.2.2.1,())).bind λzg=>(y7[a1.2.1.toNat]?).bind λIv=>(y7[a1.2.1.toNat]?).bind λVn=>if Iv.2.2.2.1.length+[zg.1].length<=be then (if a1.2.1.toNat=a1.2.1.toNat then ((y7.set a1.2.1.toNat Vn)[a1.2.1.toNat]?).bind λHE=>let Pg:=(y7.set a1.2.1.toNat Vn).set a1.2.1.toNat (HE.1,HE.2.1,HE.2.2.1,Iv.2.2.2.1++[zg.1],HE.2.2.2.2);some (Pg,()) else none) else none)<|some (y7,()) else none) else none) else none
theorem af (a1:A):@Eq (Option O) (D.W k a1) (p a1):=Bye
theorem ok:Ok prog 143 D.sig:=al func143 ap Bye (fc h_.ok (fc jr.ok (fc gv.ok (aj _))))
end th
namespace kH
abbrev A:=(List Tx)×Int×Change×Unit
abbrev O:=Is×Unit
noncomputable def D:FD:={ fn:=f74,tl:=ba,ps:=[(.ro,(.aa bm)),(.ro,i64),(.ro,au)],rs:=[(Gy,(ai Gy))],gl:=[(82,ct.D.sig),(84,nM.D.sig),(139,mL.D.sig),(140,pS.D.sig),(141,jr.D.sig),(142,kg.D.sig),(143,th.D.sig)] }
def ab (a:A):Option O:=@lift O λk=>D.W k a
def p (a1:A):Option O:=(ct.ab (a1.1,())).bind λr2=>cond (!decide (r2.1=0)) (some ((r2.1,([]:List Tx),()),()))<|(nM.ab (a1.1,a1.2.1,())).bind λr3=>cond (decide (r3.1 < 0)) (some ((4,([]:List Tx),()),()))<|(mL.ab (a1.2.2.1,())).bind λr4=>cond (!decide (r4.1=0)) (some ((r4.1,([]:List Tx),()),()))<|(jr.ab (a1.2.2.1,())).bind λr5=>(pS.ab (a1.1,r5.1,())).bind λr6=>let Zq:Option O:=(kg.ab (a1.1,())).bind λqb=>cond (decide (12<=qb.1)) (some ((2,([]:List Tx),()),()))<|cond (decide (r6.1=0)) (if 0<=r3.1 then ((a1.1[r3.1.toNat]?).bind λFq=>cond (decide (12<=(Fq.2.2.2.1.length:Int))) (some ((2,([]:List Tx),()),()))<|(th.ab (a1.1,r3.1,a1.2.2.1,())).bind λEl=>some ((0,El.1,()),())) else none)<|(th.ab (a1.1,r3.1,a1.2.2.1,())).bind λFo=>some ((0,Fo.1,()),());cond (!decide (r6.1=0)) (cond (!decide (r6.1=a1.2.1)) (some ((7,([]:List Tx),()),()))<|Zq)<|Zq
theorem af (a1:A):@Eq (Option O) (D.W k a1) (p a1):=Bye
theorem ok:Ok prog 74 D.sig:=al func74 ap Bye (fc ct.ok (fc nM.ok (fc mL.ok (fc pS.ok (fc jr.ok (fc kg.ok (fc th.ok (aj _))))))))
end kH
namespace pT
abbrev A:=(List Tx)×Int×Unit
abbrev O:=(List Tx)×Int×Unit
noncomputable def D:FD:={ fn:=f75,tl:=ba,ps:=[(.ro,(.aa bm)),(.ro,i64)],rs:=[((.aa bm),(ai (.aa bm))),(i64,(ah i64))],gl:=[(84,nM.D.sig),(87,h_.D.sig)],od:=[(3,[0,1,2,3,4,5,6,7,8,9,10,11,12,13,14]),(4,[0,1,2,3,4,5,6,7,8])] }
def ab (a:A):Option O:=@lift O λk=>D.W k a
def p (a1:A):Option O:=(h_.ab (a1.1,())).bind λr2=>(nM.ab (r2.1,a1.2.1,())).bind λr3=>if 0<=r3.1/\r3.1 < (r2.1.length:Int) then ((r2.1[r3.1.toNat]?).bind λx4=>(r2.1[r3.1.toNat]?).bind λx5=>(r2.1[r3.1.toNat]?).bind λx6=>(r2.1[r3.1.toNat]?).bind λx7=>(r2.1[r3.1.toNat]?).bind λx8=>if x7.2.2.1.length+[(x6.2.1.length:Int)].length<=be then (if r3.1.toNat=r3.1.toNat then ((r2.1.set r3.1.toNat x8)[r3.1.toNat]?).bind λx9=>let Zs:=(r2.1.set r3.1.toNat x8).set r3.1.toNat (x9.1,x9.2.1,x7.2.2.1++[(x6.2.1.length:Int)],x9.2.2.2);(Zs[r3.1.toNat]?).bind λPe=>(Zs[r3.1.toNat]?).bind λKl=>some (Zs,ae ((Kl.2.2.1.length:Int) - 1),()) else none) else none) else none
theorem af (a1:A):@Eq (Option O) (D.W k a1) (p a1):=Bye
theorem ok:Ok prog 75 D.sig:=al func75 ap Bye (fc nM.ok (fc h_.ok (aj _)))
end pT
namespace tR
open Go.Proofs
abbrev A:=(List Tx)×Int×(Int)×Unit
abbrev O:=(List Tx)×Unit
def ab (a:A):Option O:=N9 bm a
def sig:wY:={ ps:=[(.pN (ai (.aa bm)),(.aa bm)),(.ro,i64),(.ro,i64)],rs:=[((.aa bm),ai (.aa bm))],F:=ab,Hv:=λv H=>R8 v.2.1 v.2.2.1 H }
def ren:Go.Shelf.Ren:=⟨λ| 45=>145 | n=>n,λ| 22=>30 | 23=>112 | 3=>3 | 4=>4 | 0=>0 | n=>n,λn=>n⟩
theorem lay:SlLaysE0.n45 prog ren:=⟨by kernel_rfl,⟨f145.name,by decide,func145.trans (cV some Bye)⟩,underlying0,isAgg0,sizeOf0,zeroValue0,underlying3,isAgg3,sizeOf3,zeroValue3,underlying4,isAgg4,sizeOf4,zeroValue4,underlying30,isAgg30,sizeOf30,zeroValue30⟩
theorem ok:Ok prog 145 sig:=Zp (e:=bm) lay Bye (by decide) (by decide) ⟨f145,func145,by kernel_rfl,by kernel_rfl,by kernel_rfl⟩
end tR
namespace np
abbrev A:=(List Tx)×Op×Unit
abbrev O:=(List Tx)×(List Change)×Unit
noncomputable def D:FD:={ fn:=f76,tl:=ba,ps:=[(.ro,(.aa bm)),(.ro,l7)],rs:=[((.aa bm),(ai (.aa bm))),((.aa au),(ai (.aa au)))],gl:=[(84,nM.D.sig),(87,h_.D.sig),(144,lL.D.sig),(145,tR.sig)],od:=[(5,[0,1,2,3,4,5,6,7,8]),(8,[0,1,2,3,4,5,6,7,8,9,10,11])] }
def ab (a:A):Option O:=@lift O λk=>D.W k a
def p (a1:A):Option O:=(h_.ab (a1.1,())).bind λr2=>(nM.ab (r2.1,a1.2.1.2.1,())).bind λr3=>if 0<=r3.1/\r3.1 < (r2.1.length:Int) then (cond (decide (a1.2.1.1=6)) ((r2.1[r3.1.toNat]?).bind λx4=>(r2.1[r3.1.toNat]?).bind λx5=>if 0<=a1.2.1.2.2.2.1/\a1.2.1.2.2.2.1 < (x5.2.2.1.length:Int) then ((r2.1[r3.1.toNat]?).bind λx6=>(x6.2.2.1[a1.2.1.2.2.2.1.toNat]?).bind λx7=>(r2.1[r3.1.toNat]?).bind λx8=>(r2.1[r3.1.toNat]?).bind λx9=>if 0<=x7/\x7<=(x9.2.1.length:Int) then ((r2.1[r3.1.toNat]?).bind λDr=>(lL.ab ((Dr.2.1.take x9.2.1.length).drop x7.toNat,())).bind λnJ=>(r2.1[r3.1.toNat]?).bind λKl=>(r2.1[r3.1.toNat]?).bind λFq=>if 0<=x7/\x7<=(Fq.2.1.length:Int) then ((r2.1[r3.1.toNat]?).bind λIv=>(r2.1[r3.1.toNat]?).bind λVn=>if r3.1.toNat=r3.1.toNat then ((r2.1.set r3.1.toNat Vn)[r3.1.toNat]?).bind λHE=>let Pg:=(r2.1.set r3.1.toNat Vn).set r3.1.toNat (HE.1,(Iv.2.1.take x7.toNat).drop 0,HE.2.2);(Pg[r3.1.toNat]?).bind λx18=>(Pg[r3.1.toNat]?).bind λVo=>if 0<=ae (a1.2.1.2.2.2.1+1)/\ae (a1.2.1.2.2.2.1+1)<=(Vo.2.2.1.length:Int) then ((Pg[r3.1.toNat]?).bind λVp=>(Pg[r3.1.toNat]?).bind λZt=>if r3.1.toNat=r3.1.toNat then ((Pg.set r3.1.toNat Zt)[r3.1.toNat]?).bind λZu=>let y23:=(Pg.set r3.1.toNat Zt).set r3.1.toNat (Zu.1,Zu.2.1,(Vp.2.2.1.take (ae (a1.2.1.2.2.2.1+1)).toNat).drop 0,Zu.2.2.2);some (y23,nJ.1,()) else none) else none else none) else none) else none) else none)<|(r2.1[r3.1.toNat]?).bind λx24=>(r2.1[r3.1.toNat]?).bind λZv=>(lL.ab (Zv.2.1,())).bind λMN=>(tR.ab (r2.1,r3.1,ae (r3.1+1),())).bind λVq=>some (Vq.1,MN.1,())) else none
theorem af (a1:A):@Eq (Option O) (D.W k a1) (p a1):=Bye
theorem ok:Ok prog 76 D.sig:=al func76 ap Bye (fc nM.ok (fc h_.ok (fc lL.ok (fc tR.ok (aj _)))))
end np
namespace lX
abbrev A:=Log×bz×Unit
abbrev O:=Log×Bool×Unit
noncomputable def D:FD:={ fn:=f161,tl:=ba,ps:=[(.ro,ma),(.ro,jW)],rs:=[(ma,(ah ma)),(.bool,(ah .bool))],gl:=[(39,j_.D.sig),(91,cj.D.sig),(219,ir.D.sig)],od:=[(4,[0,1,2,3,5,4,6,7,8,9])],ar:=[(4,[1,3])],bx:=[(4,[2])] }
def ab (a:A):Option O:=@lift O λk=>D.W k a
def p (a1:A):Option O:=(ir.ab (a1.2.1,())).bind λr2=>(j_.ab (a1.1,())).bind λr3=>cond (decide (16000 < ae (r3.1+(r2.1.length:Int)))) (some (a1.1,false,()))<|(cj.ab (a1.1.2.1,())).bind λr4=>if r4.1.length+r2.1.length<=be then (some ((a1.1.1,r4.1++r2.1,()),true,())) else none
theorem af (a1:A):@Eq (Option O) (D.W k a1) (p a1):=Bye
theorem ok:Ok prog 161 D.sig:=al func161 ap Bye (fc j_.ok (fc cj.ok (fc ir.ok (aj _))))
end lX
namespace nq
abbrev A:=aw×bz×Unit
abbrev O:=Int×aw×Unit
noncomputable def D:FD:={ fn:=f88,tl:=ba,ps:=[(.ii (ah e_) (ah e_),e_),(.ro,jW)],rs:=[(i64,(ah i64))],gl:=[(161,lX.D.sig)],es:=[0],fz:=[(1,3,7),(1,4,7)],od:=[(1,[0,1,2,3,4,5,6,7,8,9,10,11])],ar:=[(1,[])],pd:=[(1,[9])],er:=[(1,[(3,12),(4,12)])] }
def ab (a:A):Option O:=@lift O λk=>D.W k a
def p (a1:A):Option O:=(lX.ab (a1.1.2.2.1,a1.2.1,())).bind λr2=>cond (!r2.2.1) (some (9,a1.1,()))<|some (0,(a1.1.1,a1.1.2.1,r2.1,a1.1.2.2.2),())
theorem af (a1:A):@Eq (Option O) (D.W k a1) (p a1):=Bye
theorem ok:Ok prog 88 D.sig:=al func88 ap Bye (fc lX.ok (aj _))
end nq
namespace oX
abbrev A:=aw×bz×Unit
abbrev O:=Int×aw×Unit
noncomputable def D:FD:={ fn:=f88,tl:=ba,ps:=[(.ii Byb Byb,e_),(.ro,jW)],rs:=[(i64,(ah i64))],gl:=[(161,lX.D.sig)],es:=[0],fz:=[(1,3,7),(1,4,7)],od:=[(1,[0,1,2,3,4,5,6,7,8,9,10,11])],ar:=[(1,[])],pd:=[(1,[9])],er:=[(1,[(3,12),(4,12)])] }
def ab (a:A):Option O:=@lift O λk=>D.W k a
def p (a1:A):Option O:=(lX.ab (a1.1.2.2.1,a1.2.1,())).bind λr2=>cond (!r2.2.1) (some (9,a1.1,()))<|some (0,(a1.1.1,a1.1.2.1,r2.1,a1.1.2.2.2),())
theorem af (a1:A):@Eq (Option O) (D.W k a1) (p a1):=Bye
theorem ok:Ok prog 88 D.sig:=al func88 ap Bye (fc lX.ok (aj _))
end oX
namespace tz
abbrev A:=(List Byt)×Unit
abbrev O:=kf×Unit
noncomputable def D:FD:={ fn:=f220,tl:=ba,ps:=[(.ro,(.aa (.aa u8)))],rs:=[((.ptr ft),(ai (.ptr ft)))],gl:=[(80,mM.D.sig)] }
def ab (a:A):Option O:=@lift O λk=>D.W k a
def p (a1:A):Option O:=(mM.ab (a1.1,())).bind λr2=>some ((r2.1,([]:List cv),()),())
theorem af (a1:A):@Eq (Option O) (D.W k a1) (p a1):=Bye
theorem ok:Ok prog 220 D.sig:=al func220 ap Bye (fc mM.ok (aj _))
end tz
namespace rA
abbrev A:=(List Seen)×Int×Int×Unit
abbrev O:=Seen×Bool×Unit
abbrev P:=Option O
noncomputable def D:FD:={ fn:=f221,tl:=ba,ps:=[(.ro,(.aa ij)),(.ro,i64),(.ro,i64)],rs:=[(ij,(ah ij)),(.bool,(ah .bool))],lv:=[(2,[1,2,6,10,11,12])],lx:=[(0,[6])] }
def ab (a:A):P:=@lift O λk=>D.W k a
variable (a1:A)
def T0 (U:Int):St:={ n:=31,sl:=[(1,.val i64 a1.2.1),(2,.val i64 a1.2.2.1),(6,.box ij (ah ij) [] (((0:Int),(0:Int),(0:Int),([]:Byt),()),(0:Int),(0:Int),false,(0:Int),(0:Int),())),(10,.val (.aa ij) a1.1),(11,.val i64 (a1.1.length:Int)),(12,.val i64 U)],vr:=[],az:=[] }
def b0 (self:Int->P) (e0:(Unit)->P) (a1:A) (U:Int):P:=cond (decide (U < (a1.1.length:Int))) (if 0<=U then ((a1.1[U.toNat]?).bind λbg=>cond (decide (bg.1.1=a1.2.1)) (cond (decide (bg.1.2.1=a1.2.2.1)) (some (bg,true,()))<|self (ae (U+1)))<|self (ae (U+1))) else none)<|e0 ()
def q0 (a1:A) (qf:(Unit)):P:=some (((0,0,0,([]:Byt),()),0,0,false,0,0,()),false,())
def r0:(Int)->P:=ao (λw v=>b0 w (q0 a1) a1 v) k
theorem av:@Eq ((Int)->P) (λU=>D.L k [1,0,1,0,0] [1,2,6,10,11,12] [] (ak 0 (ax (D.N k [1,1]) D.K0)) (T0 a1 U)) (r0 k a1):=
 funext λU=>aq _ _ _ (T0 a1) _ (λrec v=>Bye) k U
def p (l0:(Int)->P) (a1:A):P:=l0 0
theorem af:@Eq P (D.W k a1) (p (r0 k a1) a1):=By8 (av k a1) Bye
theorem ok:Ok prog 221 D.sig:=al func221 ap Bye (aj _)
end rA
namespace mN
abbrev A:=kf×Unit
abbrev O:=ek×Unit
noncomputable def D:FD:={ fn:=f226,tl:=ba,ps:=[(.tq (ai ft),ft)],rs:=[(et,(ai et))],fz:=[(1,3,7),(1,7,7)],od:=[(1,[0,1,2,3,4,5,6,7,8,9])] }
def ab (a:A):Option O:=@lift O λk=>D.W k a
def p (a1:A):Option O:=some ((0,a1.1.2.1,a1.1.1,()),())
theorem af (a1:A):@Eq (Option O) (D.W k a1) (p a1):=Bye
theorem ok:Ok prog 226 D.sig:=al func226 ap Bye (aj _)
end mN
namespace ov
abbrev A:=kf×Bool×Unit
abbrev O:=ek×Unit
noncomputable def D:FD:={ fn:=f222,tl:=ba,ps:=[(.tq (ai ft),ft),(.ro,.bool)],rs:=[(et,(ai et))],gl:=[(226,mN.D.sig)] }
def ab (a:A):Option O:=@lift O λk=>D.W k a
def p (a1:A):Option O:=cond (!a1.2.1) (some ((9,([]:List cv),([]:List Byt),()),()))<|(mN.ab (a1.1,())).bind λr2=>some (r2.1,())
theorem af (a1:A):@Eq (Option O) (D.W k a1) (p a1):=Bye
theorem ok:Ok prog 222 D.sig:=al func222 ap Bye (fc mN.ok (aj _))
end ov
namespace nr
abbrev A:=Byt×Byt×Unit
abbrev O:=Int×Unit
noncomputable def D:FD:={ fn:=f327,tl:=ba,ps:=[(.ro,(.aa u8)),(.ro,(.aa u8))],rs:=[(i64,(ah i64))],gl:=[(118,bi.D.sig)] }
def ab (a:A):Option O:=@lift O λk=>D.W k a
def p (a1:A):Option O:=(bi.ab (a1.1,())).bind λr2=>cond (!decide (r2.1=0)) (some (r2.1,()))<|cond (decide ((a1.2.1.length:Int) < 1)) (some (1,()))<|cond (decide (20 < (a1.2.1.length:Int))) (some (1,()))<|some (0,())
theorem af (a1:A):@Eq (Option O) (D.W k a1) (p a1):=Bye
theorem ok:Ok prog 327 D.sig:=al func327 ap Bye (fc bi.ok (aj _))
end nr
namespace lY
abbrev A:=Byt×Unit
abbrev O:=Int×Unit
abbrev P:=Option O
noncomputable def D:FD:={ fn:=f328,tl:=ba,ps:=[(.ro,(.aa u8))],rs:=[(i64,(ah i64))],gl:=[(119,fj.D.sig),(194,mZ.D.sig)],lv:=[(3,[0,3,12,13])],lx:=[(0,[3])] }
def ab (a:A):P:=@lift O λk=>D.W k a
variable (a1:A)
def T0 (ez:Int) (c_:Int×Int):St:={ n:=27,sl:=[(0,.val (.aa u8) a1.1),(3,.val i64 c_.1),(12,.val i64 ez),(13,.val i64 c_.2)],vr:=[],az:=[] }
def b0 (self:(Int×Int)->P) (e0:Int->P) (a1:A) (ez:Int) (c_:Int×Int):P:=cond (decide (c_.2 < ez)) ((mZ.ab (a1.1,c_.2,())).bind λfw=>self (ae (c_.1 - fw.2.1),ae (c_.2+1)))<|e0 c_.1
def q0 (a1:A) (ez:Int) (oM:Int):P:=some (oM,())
def r0:Int->(Int×Int)->P:=λez=>ao (λw v=>b0 w (q0 a1 ez) a1 ez v) k
theorem av:@Eq (Int->(Int×Int)->P) (λez=>λc_=>D.L k [1,1,0,1,0,0] [0,3,12,13] [] (ak 0 (ax (D.N k [1,1,1]) D.K0)) (T0 a1 ez c_)) (r0 k a1):=
 funext λez=>funext λc_=>aq _ _ _ (T0 a1 ez) _ (λrec v=>Bye) k c_
def p (l0:Int->(Int×Int)->P) (a1:A):P:=(fj.ab (a1.1,())).bind λr2=>(fj.ab (a1.1,())).bind λr3=>l0 r3.1 (ae (62 - (ae (2*r2.1))),0)
theorem af:@Eq P (D.W k a1) (p (r0 k a1) a1):=By8 (av k a1) Bye
theorem ok:Ok prog 328 D.sig:=al func328 ap Bye (fc fj.ok (fc mZ.ok (aj _)))
end lY
namespace pr
abbrev A:=Byt×Int×Int×Byt×Unit
abbrev O:=Byt×Unit
noncomputable def D:FD:={ fn:=f329,tl:=ba,ps:=[(.ro,(.aa u8)),(.ro,i64),(.ro,i64),(.ro,(.aa u8))],rs:=[((.aa u8),(ai (.aa u8)))],gl:=[(91,cj.D.sig)] }
def ab (a:A):Option O:=@lift O λk=>D.W k a
def p (a1:A):Option O:=(cj.ab (a1.1,())).bind λr2=>if 0<=a1.2.2.1/\a1.2.2.1<=(r2.1.length:Int) then (let y3:=pO r2.1 a1.2.2.1.toNat (min a1.2.2.2.1.length (r2.1.length - a1.2.2.1.toNat)) a1.2.2.2.1;if 0<=ae (2+(ae (2*a1.2.1)))/\ae (2+(ae (2*a1.2.1))) < (y3.length:Int) then ((y3[(ae ((2:Int)+(ae ((2:Int)*a1.2.1)))).toNat]?).bind λx4=>let y5:=y3.set (ae (2+(ae (2*a1.2.1)))).toNat (UInt8.ofInt a1.2.2.1);if 0<=ae (3+(ae (2*a1.2.1)))/\ae (3+(ae (2*a1.2.1))) < (y5.length:Int) then ((y5[(ae ((3:Int)+(ae ((2:Int)*a1.2.1)))).toNat]?).bind λx6=>let y7:=y5.set (ae (3+(ae (2*a1.2.1)))).toNat (UInt8.ofInt (a1.2.2.2.1.length:Int));some (y7,())) else none) else none) else none
theorem af (a1:A):@Eq (Option O) (D.W k a1) (p a1):=Bye
theorem ok:Ok prog 329 D.sig:=al func329 ap Bye (fc cj.ok (aj _))
end pr
namespace jf
abbrev A:=Byt×Byt×Unit
abbrev O:=zQ×Unit
abbrev P:=Option O
noncomputable def D:FD:={ fn:=f303,tl:=ba,ps:=[(.ro,(.aa u8)),(.ro,(.aa u8))],rs:=[(mJ,(ai mJ))],gl:=[(119,fj.D.sig),(327,nr.D.sig),(328,lY.D.sig),(329,pr.D.sig)],lv:=[(6,[0,1,4,6,7])],lx:=[(0,[0,1,4,6,7])] }
def ab (a:A):P:=@lift O λk=>D.W k a
variable (a1:A)
def T0 (ez:Int) (c_:Int):St:={ n:=88,sl:=[(0,.val (.aa u8) a1.1),(1,.val (.aa u8) a1.2.1),(4,.box mJ (ai mJ) [] ((0:Int),(0:Int),([]:Byt),())),(6,.val i64 ez),(7,.val i64 c_)],vr:=[],az:=[] }
def b0 (self:Int->P) (e0:Int->P) (a1:A) (ez:Int) (c_:Int):P:=cond (decide (c_ < ez)) (if 0<=ae (3+(ae (2*c_))) then ((a1.1[(ae ((3:Int)+(ae ((2:Int)*c_)))).toNat]?).bind λzS=>cond (!decide ((zS.toNat:Int)=0)) (self (ae (c_+1)))<|e0 c_) else none)<|e0 c_
def q0 (ez:Int) (oM:Int):P:=let Iu:=λ(abk:Int)=>((lY.ab (a1.1,())).bind λGF=>cond (decide (GF.1 < ae ((a1.2.1.length:Int)+abk))) (some ((9,0,([]:Byt),()),()))<|(a1.1[1]?).bind λGG=>cond (decide (ae ((ae (GG.toNat:Int)) - (ae ((ae (2+(ae (2*ez))))+abk))) < (a1.2.1.length:Int))) (some ((8,0,([]:Byt),()),()))<|(pr.ab (a1.1,oM,ae ((ae (GG.toNat:Int)) - (a1.2.1.length:Int)),a1.2.1,())).bind λyp=>if 0<=(0:Int)/\0 < (yp.1.length:Int) then ((yp.1[0]?).bind λah1=>let Gz:=yp.1.set 0 (UInt8.ofInt (ae (ez+(ae (abk.tdiv 2)))));if 0<=(1:Int)/\1 < (Gz.length:Int) then ((Gz[1]?).bind λah2=>let Sa:=Gz.set 1 (UInt8.ofInt (ae ((ae (GG.toNat:Int)) - (a1.2.1.length:Int))));some ((0,oM,Sa,()),())) else none) else none:P);cond (decide (oM=ez)) (cond (decide (ez=16)) (some ((2,0,([]:Byt),()),()))<|Iu 2)<|Iu 0
def r0:Int->(Int)->P:=λez=>ao (λw v=>b0 w (q0 a1 ez) a1 ez v) k
theorem av:@Eq (Int->(Int)->P) (λez=>λc_=>D.L k [1,1,1,1,0,0,0] [0,1,4,6,7] [] (ak 0 (ax (D.N k [1,1,1,1,1]) D.K0)) (T0 a1 ez c_)) (r0 k a1):=
 funext λez=>funext λc_=>aq _ _ _ (T0 a1 ez) _ (λrec v=>Bye) k c_
def p (l0:Int->(Int)->P) (a1:A):P:=(nr.ab (a1.1,a1.2.1,())).bind λr2=>cond (!decide (r2.1=0)) (some ((r2.1,0,([]:Byt),()),()))<|(fj.ab (a1.1,())).bind λr3=>l0 r3.1 0
theorem af:@Eq P (D.W k a1) (p (r0 k a1) a1):=By8 (av k a1) Bye
theorem ok:Ok prog 303 D.sig:=al func303 ap Bye (fc fj.ok (fc nr.ok (fc lY.ok (fc pr.ok (aj _)))))
end jf
namespace gy
abbrev A:=kf×Int×Byt×Unit
abbrev O:=kf×Unit
noncomputable def D:FD:={ fn:=f305,tl:=ba,ps:=[(.ii (ai ft) (ai ft),ft),(.ro,i64),(.ro,(.aa u8))],rs:=[],gl:=[(91,cj.D.sig)],es:=[0],od:=[(1,[0,1,2,3,4,5,6,7,8,9,10,11]),(2,[0,1,2,3,4,5,6,7,8,9,10]),(3,[0,1,2,3,4,5,6,7,8]),(4,[0,1,2,3,4,5,6,7,8,9,10,11,12,13])] }
def ab (a:A):Option O:=@lift O λk=>D.W k a
def p (a1:A):Option O:=let j9:=λ(p8:kf)=>((cj.ab (a1.2.2.1,())).bind λqI=>if p8.2.1.length+[(a1.2.1,qI.1,())].length<=be then (some ((p8.1,p8.2.1++[(a1.2.1,qI.1,())],p8.2.2),())) else none:Option O);cond (decide (a1.2.1=(a1.1.1.length:Int))) ((cj.ab (a1.2.2.1,())).bind λr2=>if a1.1.1.length+[r2.1].length<=be then (j9 (a1.1.1++[r2.1],a1.1.2)) else none)<|if 0<=a1.2.1/\a1.2.1 < (a1.1.1.length:Int) then ((a1.1.1[a1.2.1.toNat]?).bind λx3=>(a1.1.1[a1.2.1.toNat]?).bind λx4=>cond (decide (x4=a1.2.2.1)) (some (a1.1,()))<|(cj.ab (a1.2.2.1,())).bind λr5=>if 0<=a1.2.1/\a1.2.1 < (a1.1.1.length:Int) then ((a1.1.1[a1.2.1.toNat]?).bind λx6=>j9 (a1.1.1.set a1.2.1.toNat r5.1,a1.1.2)) else none) else none
theorem af (a1:A):@Eq (Option O) (D.W k a1) (p a1):=Bye
theorem ok:Ok prog 305 D.sig:=al func305 ap Bye (fc cj.ok (aj _))
end gy
namespace iN
abbrev A:=Byt×Unit
abbrev O:=zQ×Unit
abbrev P:=Option O
noncomputable def D:FD:={ fn:=f330,tl:=ba,ps:=[(.ro,(.aa u8))],rs:=[(mJ,(ai mJ))],gl:=[(118,bi.D.sig),(119,fj.D.sig),(120,jd.D.sig),(122,nz.D.sig)],lv:=[(9,[0,2,5,6,25,26])],lx:=[(0,[2,5,6]),(1,[0,2,5,6,25,26])] }
def ab (a:A):P:=@lift O λk=>D.W k a
variable (a1:A)
def T0 (iF:Int) (jX:Byt×Int×Int):St:={ n:=59,sl:=[(0,.val (.aa u8) a1.1),(2,.box mJ (ai mJ) [] ((0:Int),(0:Int),([]:Byt),())),(5,.own (.aa u8) (ai (.aa u8)) [] jX.1),(6,.val i64 jX.2.1),(25,.val i64 iF),(26,.val i64 jX.2.2)],vr:=[],az:=[] }
def b0 (self:(Byt×Int×Int)->P) (e0:(Byt×Int)->P) (a1:A) (iF:Int) (jX:Byt×Int×Int):P:=cond (decide (jX.2.2 < iF)) ((jd.ab (a1.1,jX.2.2,())).bind λmK=>cond (!mK.1) (self (jX.1,jX.2.1,ae (jX.2.2+1)))<|(nz.ab (a1.1,jX.2.2,())).bind λuR=>if 0<=ae (jX.2.1 - (uR.1.length:Int))/\ae (jX.2.1 - (uR.1.length:Int))<=(jX.1.length:Int) then (let Ld:=pO jX.1 (ae (jX.2.1 - (uR.1.length:Int))).toNat (min uR.1.length (jX.1.length - (ae (jX.2.1 - (uR.1.length:Int))).toNat)) uR.1;if 0<=ae (2+(ae (2*jX.2.2)))/\ae (2+(ae (2*jX.2.2))) < (Ld.length:Int) then ((Ld[(ae ((2:Int)+(ae ((2:Int)*jX.2.2)))).toNat]?).bind λabl=>let R_:=Ld.set (ae (2+(ae (2*jX.2.2)))).toNat (UInt8.ofInt (ae (jX.2.1 - (uR.1.length:Int))));self (R_,ae (jX.2.1 - (uR.1.length:Int)),ae (jX.2.2+1))) else none) else none)<|e0 (jX.1,jX.2.1)
def q0 (a1:A) (iF:Int) (Xe:(Byt×Int)):P:=if 0<=(1:Int)/\1 < (Xe.1.length:Int) then ((Xe.1[1]?).bind λW3=>some ((0,0,Xe.1.set 1 (UInt8.ofInt Xe.2),()),())) else none
def r0:Int->(Byt×Int×Int)->P:=λiF=>ao (λw v=>b0 w (q0 a1 iF) a1 iF v) k
theorem av:@Eq (Int->(Byt×Int×Int)->P) (λiF=>λjX=>D.L k [1,1,1,1,1,1,0,1,0,0] [0,2,5,6,25,26] [] (ak 0 (ax (D.N k [1,1,1,1,1,1,1]) D.K0)) (T0 a1 iF jX)) (r0 k a1):=
 funext λiF=>funext λjX=>aq _ _ _ (T0 a1 iF) _ (λrec v=>Bye) k jX
def p (l0:Int->(Byt×Int×Int)->P) (a1:A):P:=(bi.ab (a1.1,())).bind λr2=>cond (!decide (r2.1=0)) (some ((r2.1,0,([]:Byt),()),()))<|(fj.ab (a1.1,())).bind λr3=>if 0<=(64:Int)/\(64:Int)<=64/\64<=(be:Int) then (if 0<=ae (2+(ae (2*r3.1)))/\ae (2+(ae (2*r3.1)))<=(a1.1.length:Int) then (let y4:=pO (List.replicate 64 (0:UInt8)) 0 (min ((a1.1.take (ae (2+(ae (2*r3.1)))).toNat).drop 0).length (List.replicate 64 (0:UInt8)).length) ((a1.1.take (ae (2+(ae (2*r3.1)))).toNat).drop 0);l0 r3.1 (y4,64,0)) else none) else none
theorem af:@Eq P (D.W k a1) (p (r0 k a1) a1):=By8 (av k a1) Bye
theorem ok:Ok prog 330 D.sig:=al func330 ap Bye (fc bi.ok (fc fj.ok (fc jd.ok (fc nz.ok (aj _)))))
end iN
namespace lc
abbrev A:=kf×Int×Unit
abbrev O:=kf×Unit
noncomputable def D:FD:={ fn:=f304,tl:=ba,ps:=[(.ii (ai ft) (ai ft),ft),(.ro,i64)],rs:=[],gl:=[(305,gy.D.sig),(330,iN.D.sig)],es:=[0] }
def ab (a:A):Option O:=@lift O λk=>D.W k a
def p (a1:A):Option O:=if 0<=a1.2.1/\a1.2.1 < (a1.1.1.length:Int) then ((a1.1.1[a1.2.1.toNat]?).bind λx2=>(a1.1.1[a1.2.1.toNat]?).bind λx3=>(iN.ab (x3,())).bind λr4=>(gy.ab (a1.1,a1.2.1,r4.1.2.2.1,())).bind λr5=>some (r5.1,())) else none
theorem af (a1:A):@Eq (Option O) (D.W k a1) (p a1):=Bye
theorem ok:Ok prog 304 D.sig:=al func304 ap Bye (fc gy.ok (fc iN.ok (aj _)))
end lc
namespace gw
abbrev A:=kf×Byt×Int×Unit
abbrev O:=Int×Int×Bool×kf×Unit
abbrev P:=Option O
noncomputable def D:FD:={ fn:=f268,tl:=ba,ps:=[(.ii (ai ft) (ai ft),ft),(.ro,(.aa u8)),(.ro,i64)],rs:=[(i64,(ah i64)),(i64,(ah i64)),(.bool,(ah .bool))],gl:=[(163,jw.D.sig),(303,jf.D.sig),(304,lc.D.sig),(305,gy.D.sig)],es:=[0],lv:=[(2,[0,1,2,16,17])],lx:=[(0,[0,1]),(1,[0,1,2,16,17])],od:=[(11,[0,1,2,3,4,5]),(16,[0,1,2,3,4,5,6,7,8]),(17,[0,1,2,3,4,5,6,7,8,9,10])] }
def ab (a:A):P:=@lift O λk=>D.W k a
variable (a1:A)
def T0 (U:kf×Int):St:={ n:=85,sl:=[(0,.box ft (ai ft) [] U.1),(1,.val (.aa u8) a1.2.1),(2,.val i64 a1.2.2.1),(16,.val i64 (a1.1.1.length:Int)),(17,.val i64 U.2)],vr:=[],az:=[(0,0,false)] }
def b0 (self:(kf×Int)->P) (e0:kf->P) (a1:A) (U:kf×Int):P:=cond (decide (U.2 < (a1.1.1.length:Int))) (cond (decide (U.2=a1.2.2.1)) (self (U.1,ae (U.2+1)))<|if 0<=U.2/\U.2 < (U.1.1.length:Int) then ((U.1.1[U.2.toNat]?).bind λbg=>(U.1.1[U.2.toNat]?).bind λpA=>(jf.ab (pA,a1.2.1,())).bind λfu=>let Sd:=λ(aeZ:kf) (uS:zQ)=>(cond (decide (uS.1=0)) ((gy.ab (aeZ,U.2,uS.2.2.1,())).bind λzR=>some (U.2,uS.2.1,true,zR.1,()))<|self (aeZ,ae (U.2+1)):P);cond (decide (fu.1.1=8)) ((lc.ab (U.1,U.2,())).bind λfw=>if 0<=U.2/\U.2 < (fw.1.1.length:Int) then ((fw.1.1[U.2.toNat]?).bind λWW=>(fw.1.1[U.2.toNat]?).bind λpR=>(jf.ab (pR,a1.2.1,())).bind λge=>Sd fw.1 ge.1) else none)<|Sd U.1 fu.1) else none)<|e0 U.1
def q0 (Xf:kf):P:=cond (decide ((Xf.1.length:Int)=12)) (some (0,0,false,Xf,()))<|(jw.ab ((0:UInt8),())).bind λN_=>(jf.ab (N_.1,a1.2.1,())).bind λGF=>(gy.ab (Xf,(Xf.1.length:Int),GF.1.2.2.1,())).bind λOb=>some (ae ((Ob.1.1.length:Int) - 1),GF.1.2.1,true,Ob.1,())
def r0:(kf×Int)->P:=ao (λw v=>b0 w (q0 a1) a1 v) k
theorem av:@Eq ((kf×Int)->P) (λU=>D.L k [1,0,1,0,0] [0,1,2,16,17] [] (ak 0 (ax (D.N k [1,1]) D.K0)) (T0 a1 U)) (r0 k a1):=
 funext λU=>aq _ _ _ (T0 a1) _ (λrec v=>Bye) k U
def p (l0:(kf×Int)->P) (a1:A):P:=l0 (a1.1,0)
theorem af:@Eq P (D.W k a1) (p (r0 k a1) a1):=By8 (av k a1) Bye
theorem ok:Ok prog 268 D.sig:=al func268 ap Bye (fc jw.ok (fc jf.ok (fc lc.ok (fc gy.ok (aj _)))))
end gw
namespace pK
abbrev A:=Int×Row×Unit
abbrev O:=Byt×Unit
noncomputable def D:FD:={ fn:=f269,tl:=ba,ps:=[(.ro,i64),(.ro,ay)],rs:=[((.aa u8),(ai (.aa u8)))] }
def ab (a:A):Option O:=@lift O λk=>D.W k a
def p (a1:A):Option O:=if [UInt8.ofInt a1.1,UInt8.ofInt a1.2.1.1,UInt8.ofInt a1.2.1.2.1,UInt8.ofInt (a1.2.1.2.2.1.fdiv (2 ^ 8)),UInt8.ofInt a1.2.1.2.2.1,UInt8.ofInt (a1.2.1.2.2.2.1.length:Int)].length+a1.2.1.2.2.2.1.length<=be then (let y2:=[UInt8.ofInt a1.1,UInt8.ofInt a1.2.1.1,UInt8.ofInt a1.2.1.2.1,UInt8.ofInt (a1.2.1.2.2.1.fdiv (2 ^ 8)),UInt8.ofInt a1.2.1.2.2.1,UInt8.ofInt (a1.2.1.2.2.2.1.length:Int)]++a1.2.1.2.2.2.1;some (y2,())) else none
theorem af (a1:A):@Eq (Option O) (D.W k a1) (p a1):=Bye
theorem ok:Ok prog 269 D.sig:=al func269 ap Bye (aj _)
end pK
namespace qh
abbrev A:=kf×Row×Unit
abbrev O:=Bool×kf×Unit
noncomputable def D:FD:={ fn:=f223,tl:=ba,ps:=[(.ii (ai ft) (ai ft),ft),(.ro,ay)],rs:=[(.bool,(ah .bool))],gl:=[(268,gw.D.sig),(269,pK.D.sig)],es:=[0] }
def ab (a:A):Option O:=@lift O λk=>D.W k a
def p (a1:A):Option O:=(pK.ab (0,a1.2.1,())).bind λr2=>(gw.ab (a1.1,r2.1,(-1),())).bind λr3=>some (r3.2.2.1,r3.2.2.2.1,())
theorem af (a1:A):@Eq (Option O) (D.W k a1) (p a1):=Bye
theorem ok:Ok prog 223 D.sig:=al func223 ap Bye (fc gw.ok (fc pK.ok (aj _)))
end qh
namespace rn
abbrev A:=Byt×Int×Byt×Unit
abbrev O:=zQ×Unit
noncomputable def D:FD:={ fn:=f306,tl:=ba,ps:=[(.ro,(.aa u8)),(.ro,i64),(.ro,(.aa u8))],rs:=[(mJ,(ai mJ))],gl:=[(119,fj.D.sig),(120,jd.D.sig),(194,mZ.D.sig),(327,nr.D.sig),(328,lY.D.sig),(329,pr.D.sig)] }
def ab (a:A):Option O:=@lift O λk=>D.W k a
def p (a1:A):Option O:=(nr.ab (a1.1,a1.2.2.1,())).bind λr2=>cond (!decide (r2.1=0)) (some ((r2.1,0,([]:Byt),()),()))<|(jd.ab (a1.1,a1.2.1,())).bind λr3=>cond (!r3.1) (some ((4,0,([]:Byt),()),()))<|(mZ.ab (a1.1,a1.2.1,())).bind λr4=>cond (decide ((a1.2.2.1.length:Int)<=r4.2.1)) ((pr.ab (a1.1,a1.2.1,ae ((ae (r4.1+r4.2.1)) - (a1.2.2.1.length:Int)),a1.2.2.1,())).bind λr5=>some ((0,a1.2.1,r5.1,()),()))<|(lY.ab (a1.1,())).bind λr6=>cond (decide (ae (r6.1+r4.2.1) < (a1.2.2.1.length:Int))) (some ((9,0,([]:Byt),()),()))<|(a1.1[1]?).bind λx7=>(fj.ab (a1.1,())).bind λr8=>cond (decide (ae ((ae (x7.toNat:Int)) - (ae (2+(ae (2*r8.1))))) < (a1.2.2.1.length:Int))) (some ((8,0,([]:Byt),()),()))<|(pr.ab (a1.1,a1.2.1,ae ((ae (x7.toNat:Int)) - (a1.2.2.1.length:Int)),a1.2.2.1,())).bind λr9=>if 0<=(1:Int)/\1 < (r9.1.length:Int) then ((r9.1[1]?).bind λDr=>let y11:=r9.1.set 1 (UInt8.ofInt (ae ((ae (x7.toNat:Int)) - (a1.2.2.1.length:Int))));some ((0,a1.2.1,y11,()),())) else none
theorem af (a1:A):@Eq (Option O) (D.W k a1) (p a1):=Bye
theorem ok:Ok prog 306 D.sig:=al func306 ap Bye (fc fj.ok (fc jd.ok (fc mZ.ok (fc nr.ok (fc lY.ok (fc pr.ok (aj _)))))))
end rn
namespace ns
abbrev A:=kf×Int×Int×Byt×Unit
abbrev O:=Bool×kf×Unit
noncomputable def D:FD:={ fn:=f270,tl:=ba,ps:=[(.ii (ai ft) (ai ft),ft),(.ro,i64),(.ro,i64),(.ro,(.aa u8))],rs:=[(.bool,(ah .bool))],gl:=[(304,lc.D.sig),(305,gy.D.sig),(306,rn.D.sig)],es:=[0] }
def ab (a:A):Option O:=@lift O λk=>D.W k a
def p (a1:A):Option O:=if 0<=a1.2.1/\a1.2.1 < (a1.1.1.length:Int) then ((a1.1.1[a1.2.1.toNat]?).bind λx2=>(a1.1.1[a1.2.1.toNat]?).bind λx3=>(rn.ab (x3,a1.2.2.1,a1.2.2.2.1,())).bind λr4=>cond (decide (r4.1.1=8)) ((lc.ab (a1.1,a1.2.1,())).bind λr5=>if 0<=a1.2.1/\a1.2.1 < (r5.1.1.length:Int) then ((r5.1.1[a1.2.1.toNat]?).bind λx6=>(r5.1.1[a1.2.1.toNat]?).bind λx7=>(rn.ab (x7,a1.2.2.1,a1.2.2.2.1,())).bind λr8=>cond (!decide (r8.1.1=0)) (some (false,r5.1,()))<|(gy.ab (r5.1,a1.2.1,r8.1.2.2.1,())).bind λqI=>some (true,qI.1,())) else none)<|cond (!decide (r4.1.1=0)) (some (false,a1.1,()))<|(gy.ab (a1.1,a1.2.1,r4.1.2.2.1,())).bind λnJ=>some (true,nJ.1,())) else none
theorem af (a1:A):@Eq (Option O) (D.W k a1) (p a1):=Bye
theorem ok:Ok prog 270 D.sig:=al func270 ap Bye (fc lc.ok (fc gy.ok (fc rn.ok (aj _))))
end ns
namespace vQ
abbrev A:=Int×Int×Unit
abbrev O:=Byt×Unit
noncomputable def D:FD:={ fn:=f271,tl:=ba,ps:=[(.ro,i64),(.ro,i64)],rs:=[((.aa u8),(ai (.aa u8)))] }
def ab (a:A):Option O:=@lift O λk=>D.W k a
def p (a1:A):Option O:=some ([(1:UInt8),UInt8.ofInt a1.1,UInt8.ofInt a1.2.1],())
theorem af (a1:A):@Eq (Option O) (D.W k a1) (p a1):=Bye
theorem ok:Ok prog 271 D.sig:=al func271 ap Bye (aj _)
end vQ
namespace pg
abbrev A:=Byt×Int×Unit
abbrev O:=zQ×Unit
abbrev P:=Option O
noncomputable def D:FD:={ fn:=f307,tl:=ba,ps:=[(.ro,(.aa u8)),(.ro,i64)],rs:=[(mJ,(ai mJ))],gl:=[(91,cj.D.sig),(118,bi.D.sig),(120,jd.D.sig)],lv:=[(9,[1,4,6])],lx:=[(0,[1,4,6])] }
def ab (a:A):P:=@lift O λk=>D.W k a
variable (a1:A)
def T0 (ku:Byt):St:={ n:=54,sl:=[(1,.val i64 a1.2.1),(4,.box mJ (ai mJ) [] ((0:Int),(0:Int),([]:Byt),())),(6,.own (.aa u8) (ai (.aa u8)) [] ku)],vr:=[],az:=[] }
def b0 (self:Byt->P) (e0:Byt->P) (a1:A) (ku:Byt):P:=if 0<=(0:Int)/\0 < (ku.length:Int) then ((ku[0]?).bind λabl=>cond (decide (0 < (abl.toNat:Int))) (if 0<=(0:Int)/\0 < (ku.length:Int) then ((ku[0]?).bind λGE=>if 0<=ae ((ae (2*(ae (GE.toNat:Int))))+1)/\ae ((ae (2*(ae (GE.toNat:Int))))+1) < (ku.length:Int) then ((ku[(ae ((ae ((2:Int)*(ae (GE.toNat:Int))))+(1:Int))).toNat]?).bind λLc=>cond (decide ((Lc.toNat:Int)=0)) (if 0<=(0:Int)/\0 < (ku.length:Int) then ((ku[0]?).bind λW3=>if 0<=(0:Int)/\0 < (ku.length:Int) then ((ku[0]?).bind λLb=>let abe:=ku.set 0 (UInt8.ofInt ((W3.toNat:Int) - 1));self abe) else none) else none)<|e0 ku) else none) else none)<|e0 ku) else none
def q0 (abm:Byt):P:=some ((0,a1.2.1,abm,()),())
def r0:Byt->P:=ao (λw v=>b0 w (q0 a1) a1 v) k
theorem av:@Eq (Byt->P) (λku=>D.L k [1,1,1,1,1,1,0,0,0] [1,4,6] [] (ak 0 (ax (D.N k [1,1,1,1,1,1,1]) D.K0)) (T0 a1 ku)) (r0 k a1):=
 funext λku=>aq _ _ _ (T0 a1) _ (λrec v=>Bye) k ku
def p (l0:Byt->P) (a1:A):P:=(bi.ab (a1.1,())).bind λr2=>cond (!decide (r2.1=0)) (some ((r2.1,0,([]:Byt),()),()))<|(jd.ab (a1.1,a1.2.1,())).bind λr3=>cond (!r3.1) (some ((4,0,([]:Byt),()),()))<|(cj.ab (a1.1,())).bind λr4=>if 0<=ae (2+(ae (2*a1.2.1)))/\ae (2+(ae (2*a1.2.1))) < (r4.1.length:Int) then ((r4.1[(ae ((2:Int)+(ae ((2:Int)*a1.2.1)))).toNat]?).bind λx5=>let y6:=r4.1.set (ae (2+(ae (2*a1.2.1)))).toNat (0:UInt8);if 0<=ae (3+(ae (2*a1.2.1)))/\ae (3+(ae (2*a1.2.1))) < (y6.length:Int) then ((y6[(ae ((3:Int)+(ae ((2:Int)*a1.2.1)))).toNat]?).bind λx7=>let y8:=y6.set (ae (3+(ae (2*a1.2.1)))).toNat (0:UInt8);l0 y8) else none) else none
theorem af:@Eq P (D.W k a1) (p (r0 k a1) a1):=By8 (av k a1) Bye
theorem ok:Ok prog 307 D.sig:=al func307 ap Bye (fc cj.ok (fc bi.ok (fc jd.ok (aj _))))
end pg
namespace ly
abbrev A:=kf×Int×Int×Unit
abbrev O:=kf×Unit
noncomputable def D:FD:={ fn:=f272,tl:=ba,ps:=[(.ii (ai ft) (ai ft),ft),(.ro,i64),(.ro,i64)],rs:=[],gl:=[(305,gy.D.sig),(307,pg.D.sig)],es:=[0] }
def ab (a:A):Option O:=@lift O λk=>D.W k a
def p (a1:A):Option O:=if 0<=a1.2.1/\a1.2.1 < (a1.1.1.length:Int) then ((a1.1.1[a1.2.1.toNat]?).bind λx2=>(a1.1.1[a1.2.1.toNat]?).bind λx3=>(pg.ab (x3,a1.2.2.1,())).bind λr4=>(gy.ab (a1.1,a1.2.1,r4.1.2.2.1,())).bind λr5=>some (r5.1,())) else none
theorem af (a1:A):@Eq (Option O) (D.W k a1) (p a1):=Bye
theorem ok:Ok prog 272 D.sig:=al func272 ap Bye (fc gy.ok (fc pg.ok (aj _)))
end ly
namespace lN
abbrev A:=kf×Seen×Row×Unit
abbrev O:=Bool×kf×Unit
noncomputable def D:FD:={ fn:=f224,tl:=ba,ps:=[(.ii (ai ft) (ai ft),ft),(.ro,ij),(.ro,ay)],rs:=[(.bool,(ah .bool))],gl:=[(268,gw.D.sig),(269,pK.D.sig),(270,ns.D.sig),(271,vQ.D.sig),(272,ly.D.sig)],es:=[0],od:=[(6,[0,1,2,3,4,5,6,7,8]),(8,[0,1,3,4,2,5,6,7,8,9,10,11,12]),(11,[0,1,2,3,4,5,6,7,8])] }
def ab (a:A):Option O:=@lift O λk=>D.W k a
def p (a1:A):Option O:=cond (Ty.eq ay a1.2.1.1 a1.2.2.1) (some (true,a1.1,()))<|let HD:=λ(p9:Int)=>((pK.ab (p9,a1.2.2.1,())).bind λnJ=>(ns.ab (a1.1,a1.2.1.2.2.2.2.1,a1.2.1.2.2.2.2.2.1,nJ.1,())).bind λqb=>cond qb.1 (some (true,qb.2.1,()))<|(pK.ab (2,a1.2.2.1,())).bind λzg=>(gw.ab (qb.2.1,zg.1,a1.2.1.2.2.2.2.1,())).bind λxx=>cond (!xx.2.2.1) (some (false,xx.2.2.2.1,()))<|(vQ.ab (xx.1,xx.2.1,())).bind λEl=>(ns.ab (xx.2.2.2.1,a1.2.1.2.1,a1.2.1.2.2.1,El.1,())).bind λFo=>cond a1.2.1.2.2.2.1 ((ly.ab (Fo.2.1,a1.2.1.2.2.2.2.1,a1.2.1.2.2.2.2.2.1,())).bind λEh=>some (true,Eh.1,()))<|some (true,Fo.2.1,()):Option O);cond a1.2.1.2.2.2.1 (HD 2)<|HD 0
theorem af (a1:A):@Eq (Option O) (D.W k a1) (p a1):=Bye
theorem ok:Ok prog 224 D.sig:=al func224 ap Bye (fc gw.ok (fc pK.ok (fc ns.ok (fc vQ.ok (fc ly.ok (aj _))))))
end lN
namespace mO
abbrev A:=kf×Seen×Unit
abbrev O:=kf×Unit
noncomputable def D:FD:={ fn:=f225,tl:=ba,ps:=[(.ii (ai ft) (ai ft),ft),(.ro,ij)],rs:=[],gl:=[(272,ly.D.sig)],es:=[0] }
def ab (a:A):Option O:=@lift O λk=>D.W k a
def p (a1:A):Option O:=(ly.ab (a1.1,a1.2.1.2.1,a1.2.1.2.2.1,())).bind λr2=>cond a1.2.1.2.2.2.1 ((ly.ab (r2.1,a1.2.1.2.2.2.2.1,a1.2.1.2.2.2.2.2.1,())).bind λr3=>some (r3.1,()))<|some (r2.1,())
theorem af (a1:A):@Eq (Option O) (D.W k a1) (p a1):=Bye
theorem ok:Ok prog 225 D.sig:=al func225 ap Bye (fc ly.ok (aj _))
end mO
namespace rB
abbrev A:=(List Byt)×Change×Unit
abbrev O:=ek×Unit
noncomputable def D:FD:={ fn:=f162,tl:=ba,ps:=[(.ro,(.aa (.aa u8))),(.ro,au)],rs:=[(et,(ai et))],gl:=[(56,fe.D.sig),(57,lT.D.sig),(211,jq.D.sig),(212,ln.D.sig),(215,du.D.sig),(220,tz.D.sig),(221,rA.D.sig),(222,ov.D.sig),(223,qh.D.sig),(224,lN.D.sig),(225,mO.D.sig),(226,mN.D.sig)],od:=[(6,[0,1,2,3,4]),(9,[0,1,4,2,3,5,6,7,8,9,10,11,12,13])],ar:=[(9,[1,4])],bx:=[(9,[3])],pd:=[(9,[11])] }
def ab (a:A):Option O:=@lift O λk=>D.W k a
def p (a1:A):Option O:=(fe.ab (a1.1,())).bind λr2=>let Zw:=λ(p16:Int)=>(cond (!decide (p16=0)) (some ((p16,([]:List cv),([]:List Byt),()),()))<|(lT.ab (r2.1,())).bind λEi=>(ln.ab (a1.2.1,Ei.1,())).bind λr19=>cond (!r19.1) (some ((8,([]:List cv),([]:List Byt),()),()))<|(tz.ab (a1.1,())).bind λr20=>(du.ab (a1.2.1,())).bind λFs=>(du.ab (a1.2.1,())).bind λSe=>(rA.ab (r2.1,Fs.1.1,Se.1.2.1,())).bind λZx=>cond (!a1.2.1.1) ((qh.ab (r20.1,a1.2.1.2.2.2.1,())).bind λEg=>(ov.ab (Eg.2.1,Eg.1,())).bind λZr=>some (Zr.1,()))<|cond a1.2.1.2.2.1 ((lN.ab (r20.1,Zx.1,a1.2.1.2.2.2.1,())).bind λMN=>(ov.ab (MN.2.1,MN.1,())).bind λVq=>some (Vq.1,()))<|(mO.ab (r20.1,Zx.1,())).bind λr28=>(mN.ab (r28.1,())).bind λr29=>some (r29.1,()):Option O);cond (decide (r2.2.1=0)) ((jq.ab (a1.2.1,())).bind λr3=>Zw r3.1)<|Zw r2.2.1
theorem af (a1:A):@Eq (Option O) (D.W k a1) (p a1):=Bye
theorem ok:Ok prog 162 D.sig:=al func162 ap Bye (fc fe.ok (fc lT.ok (fc jq.ok (fc ln.ok (fc du.ok (fc tz.ok (fc rA.ok (fc ov.ok (fc qh.ok (fc lN.ok (fc mO.ok (fc mN.ok (aj _)))))))))))))
end rB
namespace kw
abbrev A:=Byt×Byt×Unit
abbrev O:=(List cv)×Unit
abbrev P:=Option O
noncomputable def D:FD:={ fn:=f164,tl:=ba,ps:=[(.ro,(.aa u8)),(.ro,(.aa u8))],rs:=[((.aa qX),(ai (.aa qX)))],gl:=[(91,cj.D.sig)],lv:=[(3,[0,1,5,6]),(7,[0,1,5,6,7])],lx:=[(0,[5]),(1,[0,1,5,6]),(2,[0,1,5,6,7])],od:=[(5,[0,1,2,3,4,5,6,7,8]),(7,[0,1,2,3,4,5,6,7,8,9,10,11,12])] }
def ab (a:A):P:=@lift O λk=>D.W k a
def T0 (a1:A) (U:Byt×Byt×(List cv)×Int):St:={ n:=49,sl:=[(0,.val (.aa u8) U.1),(1,.val (.aa u8) U.2.1),(5,.own (.aa qX) (ai (.aa qX)) [] U.2.2.1),(6,.val i64 U.2.2.2)],vr:=[],az:=[] }
def S0 (rec:RT O) (a1:A):(Byt×Byt×(List cv)×Int)->P:=λU=>rec (T0 a1 U)
def dq (K:KT O) (a1:A):(List cv)->P:=λz=>K (.exit 0) ({ n:=49,sl:=[(5,.own (.aa qX) (ai (.aa qX)) [] z)],vr:=[],az:=[] })
def T1 (a1:A) (dz:Byt) (de:Byt) (cw:List cv) (da:Int) (c9:Int):St:={ n:=49,sl:=[(0,.val (.aa u8) dz),(1,.val (.aa u8) de),(5,.own (.aa qX) (ai (.aa qX)) [] cw),(6,.val i64 da),(7,.val i64 c9)],vr:=[],az:=[] }
def b1 (self:Int->P) (e2:Int->P) (a1:A) (dz:Byt) (de:Byt) (cw:List cv) (da:Int) (c9:Int):P:=cond (decide (c9 < 64)) (if 0<=c9 then ((dz[c9.toNat]?).bind λGH=>if 0<=c9 then ((de[c9.toNat]?).bind λw_=>cond (!decide ((GH.toNat:Int)=(w_.toNat:Int))) (self (ae (c9+1)))<|e2 c9) else none) else none)<|e2 c9
def q0 (self:(Byt×Byt×(List cv)×Int)->P) (e0:(List cv)->P) (a1:A) (dz:Byt) (de:Byt) (cw:List cv) (da:Int) (wb:Int):P:=if 0<=da/\da<=wb/\wb<=(de.length:Int) then ((cj.ab ((de.take wb.toNat).drop da.toNat,())).bind λwc=>if cw.length+[(da,wc.1,())].length<=be then (self (dz,de,cw++[(da,wc.1,())],ae (wb+1))) else none) else none
def s1 (rec:RT O) (K:KT O) (a1:A):Byt->Byt->(List cv)->Int->(Int)->P:=λdz de cw da=>λc9=>D.L k [1,1,0,1,0,0,1,0,0,1,1,0,0,0] [0,1,5,6,7] [] (ak 2 (ax (D.N k [1,1,0,1,0,0,1,0,0,1,1,1]) (ak 1 (ax (D.N k [1,1,0,1,0,0,1,1]) (kU rec (iv [0,1,5,6] []) K))))) (T1 a1 dz de cw da c9)
def r1 (self:(Byt×Byt×(List cv)×Int)->P) (e0:(List cv)->P) (a1:A):Byt->Byt->(List cv)->Int->(Int)->P:=λdz de cw da=>ao (λw v=>b1 w (q0 self e0 a1 dz de cw da) a1 dz de cw da v) k
theorem nU (rec:RT O) (K:KT O) (a1:A):s1 k rec K a1=r1 k (S0 rec a1) (dq K a1) a1:=
 funext λdz=>funext λde=>funext λcw=>funext λda=>funext λc9=>aq _ _ _ (T1 a1 dz de cw da) _ (λrec v=>Bye) k c9
def b0 (self:(Byt×Byt×(List cv)×Int)->P) (e0:(List cv)->P) (l1:Byt->Byt->(List cv)->Int->(Int)->P) (a1:A) (U:Byt×Byt×(List cv)×Int):P:=cond (decide (U.2.2.2 < 64)) (if 0<=U.2.2.2 then ((U.1[U.2.2.2.toNat]?).bind λbg=>if 0<=U.2.2.2 then ((U.2.1[U.2.2.2.toNat]?).bind λpA=>cond (decide ((bg.toNat:Int)=(pA.toNat:Int))) (self (U.1,U.2.1,U.2.2.1,ae (U.2.2.2+1)))<|l1 U.1 U.2.1 U.2.2.1 U.2.2.2 U.2.2.2) else none) else none)<|e0 U.2.2.1
def B0 (self:(Byt×Byt×(List cv)×Int)->P) (e0:(List cv)->P) (a1:A) (U:Byt×Byt×(List cv)×Int):P:=b0 self e0 (r1 k self e0 a1) a1 U
theorem nT (rec:RT O) (K:KT O) (a1:A) (U:Byt×Byt×(List cv)×Int):D.N k [1,1,0,1,0,0] (T0 a1 U) (kU rec (iv [0,1,5,6] []) K)=B0 k (S0 rec a1) (dq K a1) a1 U:=
 aV (b:=b0 (S0 rec a1) (dq K a1) (s1 k rec K a1) a1 U) Bye (by rw[nU];rfl)
def q1 (a1:A) (JQ:(List cv)):P:=some (JQ,())
theorem tc (a1:A) (JQ:(List cv)):dq (ak 0 (ax (D.N k [1,1,1]) D.K0)) a1 JQ=q1 a1 JQ:=Bye
def s0 (a1:A):(Byt×Byt×(List cv)×Int)->P:=λU=>D.L k [1,1,0,1,0,0] [0,1,5,6] [] (ak 0 (ax (D.N k [1,1,1]) D.K0)) (T0 a1 U)
def r0 (a1:A):(Byt×Byt×(List cv)×Int)->P:=ao (λw v=>B0 k w (q1 a1) a1 v) k
theorem av (a1:A):s0 k a1=r0 k a1:=by
 funext U;have h0:dq (ak 0 (ax (D.N k [1,1,1]) D.K0)) a1=q1 a1:=funext λz=>tc k a1 z;refine (aq _ _ _ (T0 a1) (λself v=>B0 k self (dq (ak 0 (ax (D.N k [1,1,1]) D.K0)) a1) a1 v) (λrec v=>nT k rec (ak 0 (ax (D.N k [1,1,1]) D.K0)) a1 v) k U).trans ?_;rw[h0];rfl
def p (l0:(Byt×Byt×(List cv)×Int)->P) (a1:A):P:=l0 (a1.1,a1.2.1,([]:List cv),0)
theorem af (a1:A):@Eq P (D.W k a1) (p (r0 k a1) a1):=
 aV (b:=p (s0 k a1) a1) Bye (by rw[av])
theorem ok:Ok prog 164 D.sig:=al func164 ap Bye (fc cj.ok (aj _))
end kw
namespace dg
abbrev A:=aw×(List Change)×Int×Int×Unit
abbrev O:=Int×aw×Unit
abbrev P:=Option O
noncomputable def D:FD:={ fn:=f89,tl:=ba,ps:=[(.ii Byb Byb,e_),(.ro,(.aa au)),(.ro,i64),(.ro,i64)],rs:=[(i64,(ah i64))],gl:=[(88,oX.D.sig),(91,cj.D.sig),(162,rB.D.sig),(163,jw.D.sig),(164,kw.D.sig)],es:=[0],fz:=[(4,7,1)],lv:=[(2,[0,2,3,15,16,17]),(8,[0,2,3,15,16,17,33,34,35])],lx:=[(0,[0]),(2,[0,2,3,15,16,17])],od:=[(4,[0,1,2,3,4,5,6,7]),(10,[0,1,2,3,4,5,6,7]),(11,[0,1,2,3,4,5,6,7,8,9,10]),(12,[0,1,2,3,4,5,6,7,8,9,10,11,12,13,14,15,16,17,18]),(15,[0,1,2,3,4,5,6,7,8,9,10])],ar:=[(4,[4])],bx:=[(4,[10])],pd:=[(4,[6])],er:=[(4,[(3,8)])] }
def ab (a:A):P:=@lift O λk=>D.W k a
def T0 (a1:A) (U:aw×Int×Int×(List Change)×Int×Int):St:={ n:=90,sl:=[(0,.box e_ Byb [] U.1),(2,.val i64 U.2.1),(3,.val i64 U.2.2.1),(15,.val (.aa au) U.2.2.2.1),(16,.val i64 U.2.2.2.2.1),(17,.val i64 U.2.2.2.2.2)],vr:=[],az:=[(0,0,false)] }
def S0 (rec:RT O) (a1:A):(aw×Int×Int×(List Change)×Int×Int)->P:=λU=>rec (T0 a1 U)
def dq (K:KT O) (a1:A):aw->P:=λz=>K (.exit 0) ({ n:=90,sl:=[(0,.box e_ (.pair (ah .bool) (.pair (ai (.aa (.aa u8))) (.pair (ah ma) (.pair (.aa true (.pair (ah i64) (.pair (ah (.aa au)) (ai (bq [(.aa i64),(.aa bk)]))))) (ah (bq [i64])))))) [] z)],vr:=[],az:=[(0,0,false)] })
def T1 (a1:A) (dz:Int) (de:Int) (cw:List Change) (da:Int) (fy:Int) (jv:List cv) (my:Int) (c9:aw×Int):St:={ n:=90,sl:=[(0,.box e_ Byb [] c9.1),(2,.val i64 dz),(3,.val i64 de),(15,.val (.aa au) cw),(16,.val i64 da),(17,.val i64 fy),(33,.val (.aa qX) jv),(34,.val i64 my),(35,.val i64 c9.2)],vr:=[],az:=[(0,0,false)] }
def b1 (self:(aw×Int)->P) (e2:aw->P) (a1:A) (dz:Int) (de:Int) (cw:List Change) (da:Int) (fy:Int) (jv:List cv) (my:Int) (c9:aw×Int):P:=cond (decide (c9.2 < my)) (if 0<=c9.2 then ((jv[c9.2.toNat]?).bind λyE=>let acV:=λ(Qw:aw)=>(if 0<=yE.1/\yE.1 < (Qw.2.1.length:Int) then ((Qw.2.1[yE.1.toNat]?).bind λago=>(Qw.2.1[yE.1.toNat]?).bind λXg=>(kw.ab (Xg,yE.2.1,())).bind λXh=>(oX.ab (Qw,(dz,de,yE.1,Xh.1,()),())).bind λuy=>cond (!decide (uy.1=0)) (some (uy.1,uy.2.1,()))<|(cj.ab (yE.2.1,())).bind λXi=>if 0<=yE.1/\yE.1 < (uy.2.1.2.1.length:Int) then ((uy.2.1.2.1[yE.1.toNat]?).bind λagp=>self ((uy.2.1.1,uy.2.1.2.1.set yE.1.toNat Xi.1,uy.2.1.2.2),ae (c9.2+1))) else none) else none:P);cond (decide (yE.1=(c9.1.2.1.length:Int))) ((jw.ab ((0:UInt8),())).bind λJP=>if c9.1.2.1.length+[JP.1].length<=be then (acV (c9.1.1,c9.1.2.1++[JP.1],c9.1.2.2)) else none)<|acV c9.1) else none)<|e2 c9.1
def q0 (self:(aw×Int×Int×(List Change)×Int×Int)->P) (e0:aw->P) (a1:A) (dz:Int) (de:Int) (cw:List Change) (da:Int) (fy:Int) (jv:List cv) (my:Int) (agq:aw):P:=self (agq,dz,de,cw,da,ae (fy+1))
def s1 (rec:RT O) (K:KT O) (a1:A):Int->Int->(List Change)->Int->Int->(List cv)->Int->(aw×Int)->P:=λdz de cw da fy jv my=>λc9=>D.L k [1,0,1,0,0,1,1,0,0,1,1,1,1,0,0] [0,2,3,15,16,17,33,34,35] [] (ak 2 (ak 1 (ax (D.N k [1,0,1,0,0,1,1,1]) (kU rec (iv [0,2,3,15,16,17] []) K)))) (T1 a1 dz de cw da fy jv my c9)
def r1 (self:(aw×Int×Int×(List Change)×Int×Int)->P) (e0:aw->P) (a1:A):Int->Int->(List Change)->Int->Int->(List cv)->Int->(aw×Int)->P:=λdz de cw da fy jv my=>ao (λw v=>b1 w (q0 self e0 a1 dz de cw da fy jv my) a1 dz de cw da fy jv my v) k
theorem nU (rec:RT O) (K:KT O) (a1:A):s1 k rec K a1=r1 k (S0 rec a1) (dq K a1) a1:=
 funext λdz=>funext λde=>funext λcw=>funext λda=>funext λfy=>funext λjv=>funext λmy=>funext λc9=>aq _ _ _ (T1 a1 dz de cw da fy jv my) _ (λrec v=>Bye) k c9
def b0 (self:(aw×Int×Int×(List Change)×Int×Int)->P) (e0:aw->P) (l1:Int->Int->(List Change)->Int->Int->(List cv)->Int->(aw×Int)->P) (a1:A) (U:aw×Int×Int×(List Change)×Int×Int):P:=cond (decide (U.2.2.2.2.2 < U.2.2.2.2.1)) (if 0<=U.2.2.2.2.2 then ((U.2.2.2.1[U.2.2.2.2.2.toNat]?).bind λbg=>(rB.ab (U.1.2.1,bg,())).bind λbr=>cond (!decide (br.1.1=0)) (some (br.1.1,U.1,()))<|l1 U.2.1 U.2.2.1 U.2.2.2.1 U.2.2.2.2.1 U.2.2.2.2.2 br.1.2.1 (br.1.2.1.length:Int) (U.1,0)) else none)<|e0 U.1
def B0 (self:(aw×Int×Int×(List Change)×Int×Int)->P) (e0:aw->P) (a1:A) (U:aw×Int×Int×(List Change)×Int×Int):P:=b0 self e0 (r1 k self e0 a1) a1 U
theorem nT (rec:RT O) (K:KT O) (a1:A) (U:aw×Int×Int×(List Change)×Int×Int):D.N k [1,0,1,0,0] (T0 a1 U) (kU rec (iv [0,2,3,15,16,17] []) K)=B0 k (S0 rec a1) (dq K a1) a1 U:=
 aV (b:=b0 (S0 rec a1) (dq K a1) (s1 k rec K a1) a1 U) Bye (by rw[nU];rfl)
def q1 (a1:A) (Qx:aw):P:=some (0,Qx,())
theorem tc (a1:A) (Qx:aw):dq (ak 0 (ax (D.N k [1,1]) D.K0)) a1 Qx=q1 a1 Qx:=Bye
def s0 (a1:A):(aw×Int×Int×(List Change)×Int×Int)->P:=λU=>D.L k [1,0,1,0,0] [0,2,3,15,16,17] [] (ak 0 (ax (D.N k [1,1]) D.K0)) (T0 a1 U)
def r0 (a1:A):(aw×Int×Int×(List Change)×Int×Int)->P:=ao (λw v=>B0 k w (q1 a1) a1 v) k
theorem av (a1:A):s0 k a1=r0 k a1:=by
 funext U;have h0:dq (ak 0 (ax (D.N k [1,1]) D.K0)) a1=q1 a1:=funext λz=>tc k a1 z;refine (aq _ _ _ (T0 a1) (λself v=>B0 k self (dq (ak 0 (ax (D.N k [1,1]) D.K0)) a1) a1 v) (λrec v=>nT k rec (ak 0 (ax (D.N k [1,1]) D.K0)) a1 v) k U).trans ?_;rw[h0];rfl
def p (l0:(aw×Int×Int×(List Change)×Int×Int)->P) (a1:A):P:=l0 (a1.1,a1.2.2.1,a1.2.2.2.1,a1.2.1,(a1.2.1.length:Int),0)
theorem af (a1:A):@Eq P (D.W k a1) (p (r0 k a1) a1):=
 aV (b:=p (s0 k a1) a1) Bye (by rw[av])
theorem ok:Ok prog 89 D.sig:=al func89 ap Bye (fc oX.ok (fc cj.ok (fc rB.ok (fc jw.ok (fc kw.ok (aj _))))))
end dg
namespace tS
abbrev A:=Log×Unit
abbrev O:=Byt×Unit
noncomputable def D:FD:={ fn:=f129,tl:=ba,ps:=[(.ro,ma)],rs:=[((.aa u8),(ai (.aa u8)))],gl:=[(91,cj.D.sig)],od:=[(1,[0,1,3,4,2,5,6])] }
def ab (a:A):Option O:=@lift O λk=>D.W k a
def p (a1:A):Option O:=(cj.ab (a1.1.1,())).bind λr2=>if r2.1.length+a1.1.2.1.length<=be then (some (r2.1++a1.1.2.1,())) else none
theorem af (a1:A):@Eq (Option O) (D.W k a1) (p a1):=Bye
theorem ok:Ok prog 129 D.sig:=al func129 ap Bye (fc cj.ok (aj _))
end tS
namespace pL
abbrev A:=Log×Unit
abbrev O:=Log×Unit
noncomputable def D:FD:={ fn:=f90,tl:=ba,ps:=[(.ro,ma)],rs:=[(ma,(ai ma))],gl:=[(129,tS.D.sig)] }
def ab (a:A):Option O:=@lift O λk=>D.W k a
def p (a1:A):Option O:=(tS.ab (a1.1,())).bind λr2=>some ((r2.1,([]:Byt),()),())
theorem af (a1:A):@Eq (Option O) (D.W k a1) (p a1):=Bye
theorem ok:Ok prog 90 D.sig:=al func90 ap Bye (fc tS.ok (aj _))
end pL
namespace df
abbrev A:=aw×Op×b_×Unit
abbrev O:=Int×Int×aw×Unit
abbrev P:=Option O
noncomputable def D:FD:={ fn:=f41,tl:=ba,ps:=[(.ii Byb (ah e_),e_),(.ro,l7),(.ro,fb)],rs:=[(i64,(ah i64)),(i64,(ah i64))],gl:=[(74,kH.D.sig),(75,pT.D.sig),(76,np.D.sig),(88,nq.D.sig),(89,dg.D.sig),(90,pL.D.sig),(91,cj.D.sig)],es:=[0],fz:=[(31,3,8)],lv:=[(32,[0,187,188,189])],lx:=[(1,[0])],lf:=[(32,[(0,Byd)])],od:=[(4,[0,1,2,3,4,5,6,7,8,9,10,11,12,13,14]),(6,[0,1,2,3,4,5,6,7,8,9,10,11,12,13,14]),(11,[0,1,2,3,4,5,6,7,8,9,10]),(13,[0,1,2,3]),(15,[0,1,2,3,4,5,6,7,8,9,10,11]),(19,[0,1,2,3,4,5,6,7,8,9,10]),(26,[0,1,2,3,4,5,6,7,8,9,10,11,12])],ar:=[(11,[5,7])],bx:=[(11,[4,5])],pd:=[(11,[9])],er:=[(6,[(3,15)]),(11,[(3,11)])] }
def ab (a:A):P:=@lift O λk=>D.W k a
variable (a1:A)
def T0 (z6:aw×Int):St:={ n:=214,sl:=[(0,.box e_ (ah e_) [] z6.1),(187,.val (.aa (.aa u8)) a1.1.2.1),(188,.val i64 (a1.1.2.1.length:Int)),(189,.val i64 z6.2)],vr:=[],az:=[(0,0,false)] }
def b0 (self:(aw×Int)->P) (e1:aw->P) (a1:A) (z6:aw×Int):P:=cond (decide (z6.2 < (a1.1.2.1.length:Int))) (if 0<=z6.2 then ((a1.1.2.1[z6.2.toNat]?).bind λLe=>(cj.ab (Le,())).bind λOb=>(nq.ab (z6.1,(4,0,z6.2,[((0:Int),Ob.1,())],()),())).bind λyp=>cond (!decide (yp.1=0)) (some (0,yp.1,yp.2.1,()))<|self (yp.2.1,ae (z6.2+1))) else none)<|e1 z6.1
def q0 (a1:A) (Oc:aw):P:=(pL.ab (Oc.2.2.1,())).bind λSc=>some (0,0,(Oc.1,Oc.2.1,Sc.1,Oc.2.2.2),())
def r0:(aw×Int)->P:=ao (λw v=>b0 w (q0 a1) a1 v) k
theorem av:@Eq ((aw×Int)->P) (λz6=>D.L k [1,0,0,1,1,1,1,1,1,1,1,1,1,1,0,0,1,0,0] [0,187,188,189] [(0,Byd)] (ak 1 (ax (D.N k [1,0,0,1,1,1,1,1,1,1,1,1,1,1,0,1]) (ak 0 (ax (D.N k [1,1]) D.K0)))) (T0 a1 z6)) (r0 k a1):=
 funext λz6=>aq _ _ _ (T0 a1) _ (λrec v=>Bye) k z6
def p (l0:(aw×Int)->P) (a1:A):P:=cond (decide (a1.2.1.1=1)) (cond (decide (a1.1.2.2.2.2.1=100)) (some (0,9,a1.1,()))<|if a1.1.2.2.2.1.length+[(a1.1.2.2.2.2.1,([]:List Change),([]:List Int),([]:List Key),())].length<=be then (let y2:=a1.1.2.2.2.1++[(a1.1.2.2.2.2.1,([]:List Change),([]:List Int),([]:List Key),())];cond (decide (ae (a1.1.2.2.2.2.1+1)=ae (a1.1.2.2.2.2.1+1))&&true) ((nq.ab ((a1.1.1,a1.1.2.1,a1.1.2.2.1,y2,ae (a1.1.2.2.2.2.1+1),a1.1.2.2.2.2.2),(1,ae ((ae (a1.1.2.2.2.2.1+1)) - 1),0,([]:List cv),()),())).bind λr3=>cond (decide (r3.2.1.2.2.2.2.1=ae (a1.1.2.2.2.2.1+1))&&true) (some (ae ((ae (a1.1.2.2.2.2.1+1)) - 1),r3.1,r3.2.1,()))<|none)<|none) else none)<|cond a1.2.2.1.2.1 ((dg.ab (a1.1,[a1.2.2.1.2.2.1],2,a1.2.1.2.1,())).bind λr4=>cond (!decide (r4.1=0)) (some (0,r4.1,r4.2.1,()))<|(kH.ab (r4.2.1.2.2.2.1,a1.2.1.2.1,a1.2.2.1.2.2.1,())).bind λr5=>some (0,r5.1.1,(r4.2.1.1,r4.2.1.2.1,r4.2.1.2.2.1,r5.1.2.1,r4.2.1.2.2.2.2),()))<|cond (decide (a1.2.1.1=5)) ((pT.ab (a1.1.2.2.2.1,a1.2.1.2.1,())).bind λr6=>some (r6.2.1,0,(a1.1.1,a1.1.2.1,a1.1.2.2.1,r6.1,a1.1.2.2.2.2),()))<|cond (decide (a1.2.1.1=6)) ((np.ab (a1.1.2.2.2.1,a1.2.1,())).bind λr7=>(dg.ab ((a1.1.1,a1.1.2.1,a1.1.2.2.1,r7.1,a1.1.2.2.2.2),r7.2.1,3,a1.2.1.2.1,())).bind λr8=>cond (decide (r8.1=0)) (cond (decide (a1.2.1.1=8)) ((nq.ab (r8.2.1,(6,a1.2.1.2.1,0,([]:List cv),()),())).bind λr9=>some (0,r9.1,r9.2.1,()))<|some (0,r8.1,r8.2.1,()))<|some (0,r8.1,r8.2.1,()))<|cond (decide (a1.2.1.1=8)) ((np.ab (a1.1.2.2.2.1,a1.2.1,())).bind λqI=>(dg.ab ((a1.1.1,a1.1.2.1,a1.1.2.2.1,qI.1,a1.1.2.2.2.2),qI.2.1,3,a1.2.1.2.1,())).bind λnJ=>cond (decide (nJ.1=0)) (cond (decide (a1.2.1.1=8)) ((nq.ab (nJ.2.1,(6,a1.2.1.2.1,0,([]:List cv),()),())).bind λqb=>some (0,qb.1,qb.2.1,()))<|some (0,nJ.1,nJ.2.1,()))<|some (0,nJ.1,nJ.2.1,()))<|cond (decide (a1.2.1.1=7)) ((np.ab (a1.1.2.2.2.1,a1.2.1,())).bind λzg=>(nq.ab ((a1.1.1,a1.1.2.1,a1.1.2.2.1,zg.1,a1.1.2.2.2.2),(5,a1.2.1.2.1,0,([]:List cv),()),())).bind λxx=>(pL.ab (xx.2.1.2.2.1,())).bind λEl=>some (0,xx.1,(xx.2.1.1,xx.2.1.2.1,El.1,xx.2.1.2.2.2),()))<|cond (decide (a1.2.1.1=9)) (l0 (a1.1,0))<|some (0,0,a1.1,())
theorem af:@Eq P (D.W k a1) (p (r0 k a1) a1):=By8 (av k a1) Bye
theorem ok:Ok prog 41 D.sig:=al func41 ap Bye (fc kH.ok (fc pT.ok (fc np.ok (fc nq.ok (fc dg.ok (fc pL.ok (fc cj.ok (aj _))))))))
end df
namespace gm
abbrev A:=aw×Op×Unit
abbrev O:=pc×Unit
noncomputable def D:FD:={ fn:=f11,tl:=ba,ps:=[(.ro,e_),(.ro,l7)],rs:=[(lJ,(ai lJ))],gl:=[(25,rj.D.sig),(37,je.D.sig),(38,rm.D.sig),(39,j_.D.sig),(40,qq.D.sig),(41,df.D.sig)],fz:=[(6,0,7),(6,3,7)],od:=[(6,[0,2,3,4,1,5,6,7])],ar:=[(6,[4])],bx:=[(6,[3])],pd:=[(6,[6])],er:=[(6,[(0,8),(3,8)])] }
def ab (a:A):Option O:=@lift O λk=>D.W k a
def p (a1:A):Option O:=(rj.ab (a1.1,())).bind λr2=>cond (!decide (r2.1=0)) (some ((r2.1,0,(false,([]:List Byt),(([]:Byt),([]:Byt),()),([]:List Tx),0,()),()),()))<|cond (!a1.1.1) (some ((8,0,(false,([]:List Byt),(([]:Byt),([]:Byt),()),([]:List Tx),0,()),()),()))<|(rm.ab (a1.1,())).bind λr3=>(je.ab (r3.1,a1.1.2.2.2.1,a1.2.1,())).bind λr4=>cond (!decide (r4.1.1=0)) (some ((r4.1.1,0,(false,([]:List Byt),(([]:Byt),([]:Byt),()),([]:List Tx),0,()),()),()))<|let j9:Option O:=(qq.ab (a1.1,())).bind λqI=>(df.ab (qI.1,a1.2.1,r4.1,())).bind λnJ=>cond (!decide (nJ.2.1=0)) (some ((nJ.2.1,0,(false,([]:List Byt),(([]:Byt),([]:Byt),()),([]:List Tx),0,()),()),()))<|(qq.ab (nJ.2.2.1,())).bind λqb=>some ((0,nJ.1,qb.1,()),());(j_.ab (a1.1.2.2.1,())).bind λr5=>cond (decide (4000 < r5.1)) (cond (!decide (a1.2.1.1=6)) (cond (!decide (a1.2.1.1=8)) (some ((9,0,(false,([]:List Byt),(([]:Byt),([]:Byt),()),([]:List Tx),0,()),()),()))<|j9)<|j9)<|j9
theorem af (a1:A):@Eq (Option O) (D.W k a1) (p a1):=Bye
theorem ok:Ok prog 11 D.sig:=al func11 ap Bye (fc rj.ok (fc je.ok (fc rm.ok (fc j_.ok (fc qq.ok (fc df.ok (aj _)))))))
end gm
namespace lH
abbrev A:=(List Op)×Unit
abbrev O:=fi×Unit
abbrev P:=Option O
noncomputable def D:FD:={ fn:=f9,tl:=ba,ps:=[(.ro,(.aa l7))],rs:=[(qp,(ai qp))],gl:=[(11,gm.D.sig)],lv:=[(5,[2,3,13,14,15])],lx:=[(0,[2,3])] }
def ab (a:A):P:=@lift O λk=>D.W k a
variable (a1:A)
def T0 (U:fi×Int):St:={ n:=45,sl:=[(2,.box qp (ai qp) [] ((0:Int),([]:List Int),([]:List Int),(false,([]:List Byt),(([]:Byt),([]:Byt),()),([]:List Tx),(0:Int),()),())),(3,.box qp (ai qp) [] U.1),(13,.val (.aa l7) a1.1),(14,.val i64 (a1.1.length:Int)),(15,.val i64 U.2)],vr:=[],az:=[] }
def b0 (self:(fi×Int)->P) (e0:fi->P) (a1:A) (U:fi×Int):P:=cond (decide (U.2 < (a1.1.length:Int))) (if 0<=U.2 then ((a1.1[U.2.toNat]?).bind λbg=>(gm.ab (U.1.2.2.2.1,bg,())).bind λbr=>cond (decide (br.1.1=0)) (if U.1.2.1.length+[br.1.1].length<=be then (if U.1.2.2.1.length+[br.1.2.1].length<=be then (self ((U.1.1,U.1.2.1++[br.1.1],U.1.2.2.1++[br.1.2.1],br.1.2.2.1,U.1.2.2.2.2),ae (U.2+1))) else none) else none)<|if U.1.2.1.length+[br.1.1].length<=be then (if U.1.2.2.1.length+[br.1.2.1].length<=be then (self ((U.1.1,U.1.2.1++[br.1.1],U.1.2.2.1++[br.1.2.1],U.1.2.2.2),ae (U.2+1))) else none) else none) else none)<|e0 U.1
def q0 (a1:A) (fm:fi):P:=some (fm,())
def r0:(fi×Int)->P:=ao (λw v=>b0 w (q0 a1) a1 v) k
theorem av:@Eq ((fi×Int)->P) (λU=>D.L k [1,1,1,0,1,0,0] [2,3,13,14,15] [] (ak 0 (ax (D.N k [1,1,1,1]) D.K0)) (T0 a1 U)) (r0 k a1):=
 funext λU=>aq _ _ _ (T0 a1) _ (λrec v=>Bye) k U
def p (l0:(fi×Int)->P) (a1:A):P:=cond (decide (60 < (a1.1.length:Int))) (some ((2,([]:List Int),([]:List Int),(false,([]:List Byt),(([]:Byt),([]:Byt),()),([]:List Tx),0,()),()),()))<|l0 ((0,([]:List Int),([]:List Int),(true,([]:List Byt),(([]:Byt),([]:Byt),()),([]:List Tx),1,()),()),0)
theorem af:@Eq P (D.W k a1) (p (r0 k a1) a1):=By8 (av k a1) Bye
theorem ok:Ok prog 9 D.sig:=al func9 ap Bye (fc gm.ok (aj _))
end lH
namespace rC
abbrev A:=Int×Unit
abbrev O:=pc×Unit
noncomputable def D:FD:={ fn:=f10,tl:=ba,ps:=[(.ro,i64)],rs:=[(lJ,(ai lJ))],gl:=[(36,ee.D.sig)] }
def ab (a:A):Option O:=@lift O λk=>D.W k a
def p (a1:A):Option O:=(ee.ab (a1.1,1,100,())).bind λr2=>cond (!r2.1) (some ((3,0,(false,([]:List Byt),(([]:Byt),([]:Byt),()),([]:List Tx),0,()),()),()))<|some ((0,0,(true,([]:List Byt),(([]:Byt),([]:Byt),()),([]:List Tx),a1.1,()),()),())
theorem af (a1:A):@Eq (Option O) (D.W k a1) (p a1):=Bye
theorem ok:Ok prog 10 D.sig:=al func10 ap Bye (fc ee.ok (aj _))
end rC
namespace of
abbrev A:=Byt×Unit
abbrev O:=fl×Unit
noncomputable def D:FD:={ fn:=f65,tl:=ba,ps:=[(.ro,(.aa u8))],rs:=[((.ptr kZ),(.ptr true (ah kZ)))] }
def ab (a:A):Option O:=@lift O λk=>D.W k a
def p (a1:A):Option O:=some ((a1.1,0,()),())
theorem af (a1:A):@Eq (Option O) (D.W k a1) (p a1):=Bye
theorem ok:Ok prog 65 D.sig:=al func65 ap Bye (aj _)
end of
namespace cb
abbrev A:=fl×Int×Unit
abbrev O:=Int×fl×Unit
noncomputable def D:FD:={ fn:=f93,tl:=ba,ps:=[(.ii (ah kZ) (ah kZ),kZ),(.ro,i64)],rs:=[(i64,(ah i64))],es:=[0],od:=[(8,[0,1,2,3,4,5,6,7,8,9,10,11,12,13,14,15]),(10,[0,1,2,3,4,5,6,7,8,9,10,11,12,13,14,15,16,17])] }
def ab (a:A):Option O:=@lift O λk=>D.W k a
def p (a1:A):Option O:=cond (decide (a1.2.1 < 1)) (some (0,(a1.1.1,ae (a1.1.2.1+1),a1.1.2.2),()))<|cond (decide ((a1.1.1.length:Int)=0)) (if a1.2.1=0 then none else some ((ae ((ae ((ae (a1.1.2.1+1)) - 1))*7)).tmod a1.2.1,(a1.1.1,ae (a1.1.2.1+1),a1.1.2.2),()))<|if (a1.1.1.length:Int)=0 then none else if 0<=(ae ((ae (a1.1.2.1+1)) - 1)).tmod (a1.1.1.length:Int) then ((a1.1.1[((ae ((ae (a1.1.2.1+(1:Int))) - (1:Int))).tmod (a1.1.1.length:Int)).toNat]?).bind λx2=>if (a1.1.1.length:Int)=0 then none else let j5:=λ(p4:Int)=>(if a1.2.1=0 then none else some (p4.tmod a1.2.1,(a1.1.1,ae (a1.1.2.1+1),a1.1.2.2),()):Option O);cond (decide (200 < a1.2.1)) (if (a1.1.1.length:Int)=0 then none else if 0<=(ae ((ae ((ae (a1.1.2.1+1)) - 1))+1)).tmod (a1.1.1.length:Int) then ((a1.1.1[((ae ((ae ((ae (a1.1.2.1+(1:Int))) - (1:Int)))+(1:Int))).tmod (a1.1.1.length:Int)).toNat]?).bind λx3=>j5 (ae ((ae ((ae ((ae ((ae (x2.toNat:Int))+(ae ((ae ((ae ((ae (a1.1.2.1+1)) - 1)).tdiv (a1.1.1.length:Int)))*37))))*251))+(ae ((ae (x3.toNat:Int))*13))))+(ae ((ae (a1.1.2.1+1)) - 1))))) else none)<|j5 (ae ((ae (x2.toNat:Int))+(ae ((ae ((ae ((ae (a1.1.2.1+1)) - 1)).tdiv (a1.1.1.length:Int)))*37))))) else none
theorem af (a1:A):@Eq (Option O) (D.W k a1) (p a1):=Bye
theorem ok:Ok prog 93 D.sig:=al func93 ap Bye (aj _)
end cb
namespace p6
abbrev A:=fl×Int×Unit
abbrev O:=Bool×fl×Unit
noncomputable def D:FD:={ fn:=f67,tl:=ba,ps:=[(.ii (ah kZ) (ah kZ),kZ),(.ro,i64)],rs:=[(.bool,(ah .bool))],gl:=[(93,cb.D.sig)],es:=[0] }
def ab (a:A):Option O:=@lift O λk=>D.W k a
def p (a1:A):Option O:=(cb.ab (a1.1,a1.2.1,())).bind λr2=>some (decide (r2.1=0),r2.2.1,())
theorem af (a1:A):@Eq (Option O) (D.W k a1) (p a1):=Bye
theorem ok:Ok prog 67 D.sig:=al func67 ap Bye (fc cb.ok (aj _))
end p6
namespace di
abbrev A:=fl×(List Int)×Unit
abbrev O:=Int×fl×Unit
noncomputable def D:FD:={ fn:=f94,tl:=ba,ps:=[(.ii (ah kZ) (ah kZ),kZ),(.ro,(.aa i64))],rs:=[(i64,(ah i64))],gl:=[(93,cb.D.sig)],es:=[0] }
def ab (a:A):Option O:=@lift O λk=>D.W k a
def p (a1:A):Option O:=(cb.ab (a1.1,(a1.2.1.length:Int),())).bind λr2=>if 0<=r2.1 then ((a1.2.1[r2.1.toNat]?).bind λx3=>some (x3,r2.2.1,())) else none
theorem af (a1:A):@Eq (Option O) (D.W k a1) (p a1):=Bye
theorem ok:Ok prog 94 D.sig:=al func94 ap Bye (fc cb.ok (aj _))
end di
namespace pU
abbrev A:=fl×Unit
abbrev O:=Row×fl×Unit
noncomputable def D:FD:={ fn:=f136,tl:=ba,ps:=[(.ii (ah kZ) (ah kZ),kZ)],rs:=[(ay,(ah ay))],gl:=[(93,cb.D.sig),(94,di.D.sig)],es:=[0] }
def ab (a:A):Option O:=@lift O λk=>D.W k a
def p (a1:A):Option O:=(cb.ab (a1.1,3,())).bind λr2=>(cb.ab (r2.2.1,6,())).bind λr3=>(cb.ab (r3.2.1,9,())).bind λr4=>(di.ab (r4.2.1,[r4.1,(300:Int),(999:Int)],())).bind λr5=>(cb.ab (r5.2.1,4,())).bind λr6=>if 0<=r6.1/\r6.1 < ([([]:Byt),([97]:Byt),([97,98,99]:Byt),([97,98,99,100,101,102,103,104]:Byt)].length:Int) then (([([]:Byt),([97]:Byt),([97,98,99]:Byt),([97,98,99,100,101,102,103,104]:Byt)][r6.1.toNat]?).bind λx7=>some ((r2.1,ae (1+r3.1),r5.1,x7,()),r6.2.1,())) else none
theorem af (a1:A):@Eq (Option O) (D.W k a1) (p a1):=Bye
theorem ok:Ok prog 136 D.sig:=al func136 ap Bye (fc cb.ok (fc di.ok (aj _)))
end pU
namespace oY
abbrev A:=fl×(List Row)×(List Tx)×Unit
abbrev O:=Op×fl×Unit
abbrev P:=Option O
noncomputable def D:FD:={ fn:=f70,tl:=ba,ps:=[(.ii (ah kZ) (ah kZ),kZ),(.ro,(.aa ay)),(.ro,(.aa bm))],rs:=[(l7,(ah l7))],gl:=[(67,p6.D.sig),(93,cb.D.sig),(94,di.D.sig),(136,pU.D.sig)],es:=[0] }
def ab (a:A):P:=@lift O λk=>D.W k a
def p (a1:A):P:=(cb.ab (a1.1,4,())).bind λr2=>let abn:=λ(ah3:fl) (lz:Int)=>((pU.ab (ah3,())).bind λae0=>(di.ab (ae0.2.1,[(1:Int),(1:Int),(1:Int),(2:Int),(0:Int)],())).bind λXj=>let ae1:=λ(ae2:fl) (abo:Row)=>(let abp:=λ(ah4:fl) (Od:Row)=>(let ae3:=λ(qG:Row)=>((cb.ab (ah4,12,())).bind λcu=>cond (decide (cu.1=0)) (some ((1,0,(0,0,0,([]:Byt),()),0,()),cu.2.1,()))<|cond (decide (cu.1=1)) (cond (decide (cu.1=1)) (some ((2,lz,qG,0,()),cu.2.1,()))<|cond (decide (cu.1=4)) (cond (decide (cu.1=4)) (some ((3,lz,qG,0,()),cu.2.1,()))<|cond (decide (cu.1=7)) (some ((4,lz,(qG.1,qG.2.1,0,([]:Byt),()),0,()),cu.2.1,()))<|cond (decide (cu.1=8)) (some ((5,lz,(0,0,0,([]:Byt),()),0,()),cu.2.1,()))<|cond (decide (cu.1=9)) ((cb.ab (cu.2.1,3,())).bind λae4=>some ((6,lz,(0,0,0,([]:Byt),()),ae4.1,()),ae4.2.1,()))<|cond (decide (cu.1=10)) ((di.ab (cu.2.1,[(7:Int),(8:Int)],())).bind λae5=>some ((ae5.1,lz,(0,0,0,([]:Byt),()),0,()),ae5.2.1,()))<|some ((9,0,(0,0,0,([]:Byt),()),0,()),cu.2.1,()))<|cond (decide (cu.1=5)) (cond (decide (cu.1=5)) (some ((3,lz,qG,0,()),cu.2.1,()))<|cond (decide (cu.1=7)) (some ((4,lz,(qG.1,qG.2.1,0,([]:Byt),()),0,()),cu.2.1,()))<|cond (decide (cu.1=8)) (some ((5,lz,(0,0,0,([]:Byt),()),0,()),cu.2.1,()))<|cond (decide (cu.1=9)) ((cb.ab (cu.2.1,3,())).bind λae6=>some ((6,lz,(0,0,0,([]:Byt),()),ae6.1,()),ae6.2.1,()))<|cond (decide (cu.1=10)) ((di.ab (cu.2.1,[(7:Int),(8:Int)],())).bind λae7=>some ((ae7.1,lz,(0,0,0,([]:Byt),()),0,()),ae7.2.1,()))<|some ((9,0,(0,0,0,([]:Byt),()),0,()),cu.2.1,()))<|cond (decide (cu.1=6)) (some ((3,lz,qG,0,()),cu.2.1,()))<|cond (decide (cu.1=7)) (some ((4,lz,(qG.1,qG.2.1,0,([]:Byt),()),0,()),cu.2.1,()))<|cond (decide (cu.1=8)) (some ((5,lz,(0,0,0,([]:Byt),()),0,()),cu.2.1,()))<|cond (decide (cu.1=9)) ((cb.ab (cu.2.1,3,())).bind λae8=>some ((6,lz,(0,0,0,([]:Byt),()),ae8.1,()),ae8.2.1,()))<|cond (decide (cu.1=10)) ((di.ab (cu.2.1,[(7:Int),(8:Int)],())).bind λae9=>some ((ae9.1,lz,(0,0,0,([]:Byt),()),0,()),ae9.2.1,()))<|some ((9,0,(0,0,0,([]:Byt),()),0,()),cu.2.1,()))<|cond (decide (cu.1=2)) (cond (decide (cu.1=2)) (some ((2,lz,qG,0,()),cu.2.1,()))<|cond (decide (cu.1=4)) (cond (decide (cu.1=4)) (some ((3,lz,qG,0,()),cu.2.1,()))<|cond (decide (cu.1=7)) (some ((4,lz,(qG.1,qG.2.1,0,([]:Byt),()),0,()),cu.2.1,()))<|cond (decide (cu.1=8)) (some ((5,lz,(0,0,0,([]:Byt),()),0,()),cu.2.1,()))<|cond (decide (cu.1=9)) ((cb.ab (cu.2.1,3,())).bind λae_=>some ((6,lz,(0,0,0,([]:Byt),()),ae_.1,()),ae_.2.1,()))<|cond (decide (cu.1=10)) ((di.ab (cu.2.1,[(7:Int),(8:Int)],())).bind λafa=>some ((afa.1,lz,(0,0,0,([]:Byt),()),0,()),afa.2.1,()))<|some ((9,0,(0,0,0,([]:Byt),()),0,()),cu.2.1,()))<|cond (decide (cu.1=5)) (cond (decide (cu.1=5)) (some ((3,lz,qG,0,()),cu.2.1,()))<|cond (decide (cu.1=7)) (some ((4,lz,(qG.1,qG.2.1,0,([]:Byt),()),0,()),cu.2.1,()))<|cond (decide (cu.1=8)) (some ((5,lz,(0,0,0,([]:Byt),()),0,()),cu.2.1,()))<|cond (decide (cu.1=9)) ((cb.ab (cu.2.1,3,())).bind λafb=>some ((6,lz,(0,0,0,([]:Byt),()),afb.1,()),afb.2.1,()))<|cond (decide (cu.1=10)) ((di.ab (cu.2.1,[(7:Int),(8:Int)],())).bind λafc=>some ((afc.1,lz,(0,0,0,([]:Byt),()),0,()),afc.2.1,()))<|some ((9,0,(0,0,0,([]:Byt),()),0,()),cu.2.1,()))<|cond (decide (cu.1=6)) (some ((3,lz,qG,0,()),cu.2.1,()))<|cond (decide (cu.1=7)) (some ((4,lz,(qG.1,qG.2.1,0,([]:Byt),()),0,()),cu.2.1,()))<|cond (decide (cu.1=8)) (some ((5,lz,(0,0,0,([]:Byt),()),0,()),cu.2.1,()))<|cond (decide (cu.1=9)) ((cb.ab (cu.2.1,3,())).bind λafd=>some ((6,lz,(0,0,0,([]:Byt),()),afd.1,()),afd.2.1,()))<|cond (decide (cu.1=10)) ((di.ab (cu.2.1,[(7:Int),(8:Int)],())).bind λafe=>some ((afe.1,lz,(0,0,0,([]:Byt),()),0,()),afe.2.1,()))<|some ((9,0,(0,0,0,([]:Byt),()),0,()),cu.2.1,()))<|cond (decide (cu.1=3)) (some ((2,lz,qG,0,()),cu.2.1,()))<|cond (decide (cu.1=4)) (cond (decide (cu.1=4)) (some ((3,lz,qG,0,()),cu.2.1,()))<|cond (decide (cu.1=7)) (some ((4,lz,(qG.1,qG.2.1,0,([]:Byt),()),0,()),cu.2.1,()))<|cond (decide (cu.1=8)) (some ((5,lz,(0,0,0,([]:Byt),()),0,()),cu.2.1,()))<|cond (decide (cu.1=9)) ((cb.ab (cu.2.1,3,())).bind λaff=>some ((6,lz,(0,0,0,([]:Byt),()),aff.1,()),aff.2.1,()))<|cond (decide (cu.1=10)) ((di.ab (cu.2.1,[(7:Int),(8:Int)],())).bind λafg=>some ((afg.1,lz,(0,0,0,([]:Byt),()),0,()),afg.2.1,()))<|some ((9,0,(0,0,0,([]:Byt),()),0,()),cu.2.1,()))<|cond (decide (cu.1=5)) (cond (decide (cu.1=5)) (some ((3,lz,qG,0,()),cu.2.1,()))<|cond (decide (cu.1=7)) (some ((4,lz,(qG.1,qG.2.1,0,([]:Byt),()),0,()),cu.2.1,()))<|cond (decide (cu.1=8)) (some ((5,lz,(0,0,0,([]:Byt),()),0,()),cu.2.1,()))<|cond (decide (cu.1=9)) ((cb.ab (cu.2.1,3,())).bind λafh=>some ((6,lz,(0,0,0,([]:Byt),()),afh.1,()),afh.2.1,()))<|cond (decide (cu.1=10)) ((di.ab (cu.2.1,[(7:Int),(8:Int)],())).bind λafi=>some ((afi.1,lz,(0,0,0,([]:Byt),()),0,()),afi.2.1,()))<|some ((9,0,(0,0,0,([]:Byt),()),0,()),cu.2.1,()))<|cond (decide (cu.1=6)) (some ((3,lz,qG,0,()),cu.2.1,()))<|cond (decide (cu.1=7)) (some ((4,lz,(qG.1,qG.2.1,0,([]:Byt),()),0,()),cu.2.1,()))<|cond (decide (cu.1=8)) (some ((5,lz,(0,0,0,([]:Byt),()),0,()),cu.2.1,()))<|cond (decide (cu.1=9)) ((cb.ab (cu.2.1,3,())).bind λafj=>some ((6,lz,(0,0,0,([]:Byt),()),afj.1,()),afj.2.1,()))<|cond (decide (cu.1=10)) ((di.ab (cu.2.1,[(7:Int),(8:Int)],())).bind λafk=>some ((afk.1,lz,(0,0,0,([]:Byt),()),0,()),afk.2.1,()))<|some ((9,0,(0,0,0,([]:Byt),()),0,()),cu.2.1,()):P);cond (decide (Od.1=0)) (ae3 (Od.1,Od.2.1,Od.2.2.1,([]:Byt),Od.2.2.2.2))<|ae3 Od:P);cond (decide (0 < (a1.2.1.length:Int))) ((p6.ab (ae2,3,())).bind λabq=>cond (!abq.1) ((cb.ab (abq.2.1,(a1.2.1.length:Int),())).bind λabr=>if 0<=abr.1 then ((a1.2.1[abr.1.toNat]?).bind λafl=>abp abr.2.1 (afl.1,afl.2.1,abo.2.2)) else none)<|abp abq.2.1 abo)<|abp ae2 abo:P);cond (decide (Xj.1=0)) ((di.ab (Xj.2.1,[(1:Int),(2:Int),(3:Int),(4:Int)],())).bind λafm=>(di.ab (afm.2.1,[(8:Int),(3:Int),(0:Int),(9:Int)],())).bind λafn=>ae1 afn.2.1 (0,afm.1,afn.1,([]:Byt),()))<|ae1 Xj.2.1 (Xj.1,ae0.1.2):P);cond (decide (0 < (a1.2.2.1.length:Int))) ((p6.ab (r2.2.1,8,())).bind λr3=>cond (!r3.1) ((cb.ab (r3.2.1,(a1.2.2.1.length:Int),())).bind λr4=>if 0<=r4.1 then ((a1.2.2.1[r4.1.toNat]?).bind λx5=>abn r4.2.1 x5.1) else none)<|abn r3.2.1 (ae (1+r2.1)))<|abn r2.2.1 (ae (1+r2.1))
theorem af (a1:A):@Eq P (D.W k a1) (p a1):=Bye
theorem ok:Ok prog 70 D.sig:=al func70 ap Bye (fc p6.ok (fc cb.ok (fc di.ok (fc pU.ok (aj _)))))
end oY
namespace tA
abbrev A:=fl×Unit
abbrev O:=Row×fl×Unit
noncomputable def D:FD:={ fn:=f135,tl:=ba,ps:=[(.ii (ah kZ) (ah kZ),kZ)],rs:=[(ay,(ah ay))],gl:=[(93,cb.D.sig),(94,di.D.sig),(136,pU.D.sig)],es:=[0] }
def ab (a:A):Option O:=@lift O λk=>D.W k a
def p (a1:A):Option O:=(pU.ab (a1.1,())).bind λr2=>(cb.ab (r2.2.1,12,())).bind λr3=>cond (decide (r3.1=0)) ((di.ab (r3.2.1,[(-1:Int),(3:Int),(4:Int)],())).bind λr4=>some ((r4.1,r2.1.2),r4.2.1,()))<|cond (decide (r3.1=1)) ((di.ab (r3.2.1,[(0:Int),(99:Int),(100:Int)],())).bind λr5=>some ((r2.1.1,r5.1,r2.1.2.2),r5.2.1,()))<|cond (decide (r3.1=2)) ((di.ab (r3.2.1,[(-1:Int),(1000:Int)],())).bind λr6=>some ((r2.1.1,r2.1.2.1,r6.1,r2.1.2.2.2),r6.2.1,()))<|cond (decide (r3.1=3)) ((cb.ab (r3.2.1,3,())).bind λr7=>if 0<=r7.1/\r7.1 < ([([65]:Byt),([97,98,99,100,101,102,103,104,105]:Byt),([97,32,98]:Byt)].length:Int) then (([([65]:Byt),([97,98,99,100,101,102,103,104,105]:Byt),([97,32,98]:Byt)][r7.1.toNat]?).bind λx8=>some ((r2.1.1,r2.1.2.1,r2.1.2.2.1,x8,r2.1.2.2.2.2),r7.2.1,())) else none)<|some (r2.1,r3.2.1,())
theorem af (a1:A):@Eq (Option O) (D.W k a1) (p a1):=Bye
theorem ok:Ok prog 135 D.sig:=al func135 ap Bye (fc cb.ok (fc di.ok (fc pU.ok (aj _))))
end tA
namespace sy
abbrev A:=fl×Unit
abbrev O:=Op×fl×Unit
noncomputable def D:FD:={ fn:=f69,tl:=ba,ps:=[(.ii (ah kZ) (ah kZ),kZ)],rs:=[(l7,(ah l7))],gl:=[(70,oY.D.sig),(93,cb.D.sig),(94,di.D.sig),(135,tA.D.sig)],es:=[0] }
def ab (a:A):Option O:=@lift O λk=>D.W k a
def p (a1:A):Option O:=(oY.ab (a1.1,([]:List Row),([]:List Tx),())).bind λr2=>(cb.ab (r2.2.1,10,())).bind λr3=>cond (decide (r3.1=0)) ((di.ab (r3.2.1,[(0:Int),(10:Int),(4:Int),(2:Int)],())).bind λr4=>some ((r4.1,r2.1.2),r4.2.1,()))<|cond (decide (r3.1=1)) ((di.ab (r3.2.1,[(0:Int),(99:Int),(100:Int)],())).bind λr5=>some ((r2.1.1,r5.1,r2.1.2.2),r5.2.1,()))<|cond (decide (r3.1=2)) ((di.ab (r3.2.1,[(-1:Int),(7:Int),(8:Int)],())).bind λr6=>some ((r2.1.1,r2.1.2.1,r2.1.2.2.1,r6.1,r2.1.2.2.2.2),r6.2.1,()))<|cond (decide (r3.1=3)) ((tA.ab (r3.2.1,())).bind λr7=>some ((r2.1.1,r2.1.2.1,r7.1,r2.1.2.2.2),r7.2.1,()))<|some (r2.1,r3.2.1,())
theorem af (a1:A):@Eq (Option O) (D.W k a1) (p a1):=Bye
theorem ok:Ok prog 69 D.sig:=al func69 ap Bye (fc oY.ok (fc cb.ok (fc di.ok (fc tA.ok (aj _)))))
end sy
namespace cc
abbrev A:=Int×Int×Int×Unit
abbrev O:=Bool×Unit
noncomputable def D:FD:={ fn:=f46,tl:=ba,ps:=[(.ro,i64),(.ro,i64),(.ro,i64)],rs:=[(.bool,(ah .bool))] }
def ab (a:A):Option O:=@lift O λk=>D.W k a
def p (a1:A):Option O:=cond (decide (a1.2.1<=a1.1)) (some (decide (a1.1<=a1.2.2.1),()))<|some (false,())
theorem af (a1:A):@Eq (Option O) (D.W k a1) (p a1):=Bye
theorem ok:Ok prog 46 D.sig:=al func46 ap Bye (aj _)
end cc
namespace pV
abbrev A:=Byt×Unit
abbrev O:=Bool×Unit
abbrev P:=Option O
noncomputable def D:FD:={ fn:=f246,tl:=ba,ps:=[(.ro,.str)],rs:=[(.bool,(ah .bool))],lv:=[(2,[0,3])],lx:=[(0,[0])] }
def ab (a:A):P:=@lift O λk=>D.W k a
variable (a1:A)
def T0 (U:Int):St:={ n:=23,sl:=[(0,.val .str a1.1),(3,.val i64 U)],vr:=[],az:=[] }
def b0 (self:Int->P) (e0:(Unit)->P) (a1:A) (U:Int):P:=cond (decide (U < (a1.1.length:Int))) (if 0<=U then ((a1.1[U.toNat]?).bind λbg=>cond (decide ((bg.toNat:Int) < 97)) (some (false,()))<|if 0<=U then ((a1.1[U.toNat]?).bind λpA=>cond (decide (122 < (pA.toNat:Int))) (some (false,()))<|self (ae (U+1))) else none) else none)<|e0 ()
def q0 (fm:(Unit)):P:=some (decide ((a1.1.length:Int)<=8),())
def r0:(Int)->P:=ao (λw v=>b0 w (q0 a1) a1 v) k
theorem av:@Eq ((Int)->P) (λU=>D.L k [1,0,1,0,0] [0,3] [] (ak 0 (ax (D.N k [1,1]) D.K0)) (T0 a1 U)) (r0 k a1):=
 funext λU=>aq _ _ _ (T0 a1) _ (λrec v=>Bye) k U
def p (l0:(Int)->P) (a1:A):P:=l0 0
theorem af:@Eq P (D.W k a1) (p (r0 k a1) a1):=By8 (av k a1) Bye
theorem ok:Ok prog 246 D.sig:=al func246 ap Bye (aj _)
end pV
namespace g_
abbrev A:=Row×Unit
abbrev O:=Int×Unit
noncomputable def D:FD:={ fn:=f186,tl:=ba,ps:=[(.ro,(.ptr ay))],rs:=[(i64,(ah i64))],gl:=[(46,cc.D.sig),(246,pV.D.sig)] }
def ab (a:A):Option O:=@lift O λk=>D.W k a
def p (a1:A):Option O:=(cc.ab (a1.1.1,0,3,())).bind λr2=>cond (!r2.1) (some (3,()))<|(cc.ab (a1.1.2.1,1,99,())).bind λr3=>cond (!r3.1) (some (3,()))<|(cc.ab (a1.1.2.2.1,0,999,())).bind λr4=>cond (!r4.1) (some (3,()))<|(pV.ab (a1.1.2.2.2.1,())).bind λr5=>cond (!r5.1) (some (5,()))<|some (0,())
theorem af (a1:A):@Eq (Option O) (D.W k a1) (p a1):=Bye
theorem ok:Ok prog 186 D.sig:=al func186 ap Bye (fc cc.ok (fc pV.ok (aj _)))
end g_
namespace ph
abbrev A:=Row×Row×Unit
abbrev O:=Bool×Unit
noncomputable def D:FD:={ fn:=f187,tl:=ba,ps:=[(.ro,(.ptr ay)),(.ro,(.ptr ay))],rs:=[(.bool,(ah .bool))],od:=[(1,[0,1,2,3,4,5,6,7,8,9,10,11,12,13,14,15,16,17,18,19,20,21,22,23,24,25,26,27,28,29,30,31])] }
def ab (a:A):Option O:=@lift O λk=>D.W k a
def p (a1:A):Option O:=cond (decide (a1.1.1 < a1.2.1.1)) (some (true,()))<|cond (decide (a1.1.1=a1.2.1.1)) (some (decide (a1.1.2.1 < a1.2.1.2.1),()))<|some (false,())
theorem af (a1:A):@Eq (Option O) (D.W k a1) (p a1):=Bye
theorem ok:Ok prog 187 D.sig:=al func187 ap Bye (aj _)
end ph
namespace lq
abbrev A:=(List Row)×Unit
abbrev O:=Int×Unit
abbrev P:=Option O
noncomputable def D:FD:={ fn:=f110,tl:=ba,ps:=[(.ro,(.aa ay))],rs:=[(i64,(ah i64))],gl:=[(186,g_.D.sig),(187,ph.D.sig)],lv:=[(4,[0,3])],lx:=[(0,[])],od:=[(9,[0,1,2,3,4,5,6,7,8,9,10,11,12])] }
def ab (a:A):P:=@lift O λk=>D.W k a
variable (a1:A)
def T0 (U:Int):St:={ n:=34,sl:=[(0,.val (.aa ay) a1.1),(3,.val i64 U)],vr:=[],az:=[] }
def b0 (self:Int->P) (e0:(Unit)->P) (a1:A) (U:Int):P:=cond (decide (U < (a1.1.length:Int))) (if 0<=U then ((a1.1[U.toNat]?).bind λbg=>(g_.ab (bg,())).bind λbr=>cond (!decide (br.1=0)) (some (br.1,()))<|cond (decide (0 < U)) (if 0<=ae (U - 1) then ((a1.1[(ae (U - (1:Int))).toNat]?).bind λiz=>if 0<=U then ((a1.1[U.toNat]?).bind λzS=>(ph.ab (iz,zS,())).bind λmK=>cond (!mK.1) (some (1,()))<|self (ae (U+1))) else none) else none)<|self (ae (U+1))) else none)<|e0 ()
def q0 (a1:A) (BY:(Unit)):P:=some (0,())
def r0:(Int)->P:=ao (λw v=>b0 w (q0 a1) a1 v) k
theorem av:@Eq ((Int)->P) (λU=>D.L k [1,1,0,1,0,0] [0,3] [] (ak 0 (ax (D.N k [1,1,1]) D.K0)) (T0 a1 U)) (r0 k a1):=
 funext λU=>aq _ _ _ (T0 a1) _ (λrec v=>Bye) k U
def p (l0:(Int)->P) (a1:A):P:=cond (decide (60 < (a1.1.length:Int))) (some (2,()))<|l0 0
theorem af:@Eq P (D.W k a1) (p (r0 k a1) a1):=By8 (av k a1) Bye
theorem ok:Ok prog 110 D.sig:=al func110 ap Bye (fc g_.ok (fc ph.ok (aj _)))
end lq
namespace lk
abbrev A:=Change×Unit
abbrev O:=Int×Int×Unit
noncomputable def D:FD:={ fn:=f238,tl:=ba,ps:=[(.ro,(.ptr au))],rs:=[(i64,(ah i64)),(i64,(ah i64))],od:=[(2,[0,1,2,3,4,5,6,7,8,9,10,11]),(3,[0,1,2,3,4,5,6,7,8,9,10,11])] }
def ab (a:A):Option O:=@lift O λk=>D.W k a
def p (a1:A):Option O:=cond a1.1.2.2.1 (some (a1.1.2.2.2.1.1,a1.1.2.2.2.1.2.1,()))<|some (a1.1.2.1.1,a1.1.2.1.2.1,())
theorem af (a1:A):@Eq (Option O) (D.W k a1) (p a1):=Bye
theorem ok:Ok prog 238 D.sig:=al func238 ap Bye (aj _)
end lk
namespace og
abbrev A:=Change×Unit
abbrev O:=Key×Unit
noncomputable def D:FD:={ fn:=f236,tl:=ba,ps:=[(.ro,(.ptr au))],rs:=[(bk,(ah bk))],gl:=[(238,lk.D.sig)] }
def ab (a:A):Option O:=@lift O λk=>D.W k a
def p (a1:A):Option O:=(lk.ab (a1.1,())).bind λr2=>some ((r2.1,r2.2.1,()),())
theorem af (a1:A):@Eq (Option O) (D.W k a1) (p a1):=Bye
theorem ok:Ok prog 236 D.sig:=al func236 ap Bye (fc lk.ok (aj _))
end og
namespace jJ
abbrev A:=Tx×Key×Unit
abbrev O:=Bool×Unit
abbrev P:=Option O
noncomputable def D:FD:={ fn:=f237,tl:=ba,ps:=[(.ro,(.ptr bm)),(.ro,bk)],rs:=[(.bool,(ah .bool))],lv:=[(2,[0,3,5])],lx:=[(0,[])],od:=[(4,[0,1,2,3,4,5,6,7,8])] }
def ab (a:A):P:=@lift O λk=>D.W k a
variable (a1:A)
def T0 (U:Int):St:={ n:=24,sl:=[(0,.cp bm a1.1),(3,.box bk (ah bk) [] a1.2.1),(5,.val i64 U)],vr:=[],az:=[] }
def b0 (self:Int->P) (e0:(Unit)->P) (a1:A) (U:Int):P:=cond (decide (U < (a1.1.2.2.2.1.length:Int))) (if 0<=U then ((a1.1.2.2.2.1[U.toNat]?).bind λbg=>cond (Ty.eq bk bg a1.2.1) (some (true,()))<|self (ae (U+1))) else none)<|e0 ()
def q0 (a1:A) (qf:(Unit)):P:=some (false,())
def r0:(Int)->P:=ao (λw v=>b0 w (q0 a1) a1 v) k
theorem av:@Eq ((Int)->P) (λU=>D.L k [1,0,1,0,0] [0,3,5] [] (ak 0 (ax (D.N k [1,1]) D.K0)) (T0 a1 U)) (r0 k a1):=
 funext λU=>aq _ _ _ (T0 a1) _ (λrec v=>Bye) k U
def p (l0:(Int)->P) (a1:A):P:=l0 0
theorem af:@Eq P (D.W k a1) (p (r0 k a1) a1):=By8 (av k a1) Bye
theorem ok:Ok prog 237 D.sig:=al func237 ap Bye (aj _)
end jJ
namespace rD
abbrev A:=Change×Unit
abbrev O:=Int×Unit
noncomputable def D:FD:={ fn:=f281,tl:=ba,ps:=[(.ro,(.ptr au))],rs:=[(i64,(ah i64))],gl:=[(186,g_.D.sig)],od:=[(1,[0,1,2,3,4,5,6,7,8,9,10,11,12,13,14,15,16,17,18,19,20,21,22,23,24,25,26,27,28,29,30,31,32,33,34,35,36,37,38,39,40,41,42,43,44,45,46,47,48,49])] }
def ab (a:A):Option O:=@lift O λk=>D.W k a
def p (a1:A):Option O:=let j5:Option O:=cond a1.1.1 ((g_.ab (a1.1.2.1,())).bind λr6=>cond (!decide (r6.1=0)) (some (r6.1,()))<|cond a1.1.2.2.1 ((g_.ab (a1.1.2.2.2.1,())).bind λr8=>some (r8.1,()))<|some (0,()))<|cond a1.1.2.2.1 ((g_.ab (a1.1.2.2.2.1,())).bind λr9=>some (r9.1,()))<|some (0,());cond (!a1.1.1) (cond (!a1.1.2.2.1) (some (1,()))<|cond a1.1.1 (cond a1.1.2.2.1 (cond (!decide (a1.1.2.1.1=a1.1.2.2.2.1.1)) (some (1,()))<|cond (!decide (a1.1.2.1.2.1=a1.1.2.2.2.1.2.1)) (some (1,()))<|j5)<|j5)<|j5)<|cond a1.1.1 (cond a1.1.2.2.1 (cond (!decide (a1.1.2.1.1=a1.1.2.2.2.1.1)) (some (1,()))<|cond (!decide (a1.1.2.1.2.1=a1.1.2.2.2.1.2.1)) (some (1,()))<|j5)<|j5)<|j5
theorem af (a1:A):@Eq (Option O) (D.W k a1) (p a1):=Bye
theorem ok:Ok prog 281 D.sig:=al func281 ap Bye (fc g_.ok (aj _))
end rD
namespace sQ
abbrev A:=Change×Unit
abbrev O:=Int×Unit
noncomputable def D:FD:={ fn:=f247,tl:=ba,ps:=[(.ro,(.ptr au))],rs:=[(i64,(ah i64))],gl:=[(281,rD.D.sig)],od:=[(4,[0,1,2,3,4,5,6,7,8,9,10,11,12,13,14,15,16,17,18,19,20])] }
def ab (a:A):Option O:=@lift O λk=>D.W k a
def p (a1:A):Option O:=(rD.ab (a1.1,())).bind λr2=>cond (!decide (r2.1=0)) (some (r2.1,()))<|cond a1.1.1 (cond a1.1.2.2.1 (cond (Ty.eq ay a1.1.2.1 a1.1.2.2.2.1) (some (1,()))<|some (0,()))<|some (0,()))<|some (0,())
theorem af (a1:A):@Eq (Option O) (D.W k a1) (p a1):=Bye
theorem ok:Ok prog 247 D.sig:=al func247 ap Bye (fc rD.ok (aj _))
end sQ
namespace oh
abbrev A:=Tx×Unit
abbrev O:=Int×Unit
abbrev P:=Option O
noncomputable def D:FD:={ fn:=f188,tl:=ba,ps:=[(.ro,(.ptr bm))],rs:=[(i64,(ah i64))],gl:=[(236,og.D.sig),(237,jJ.D.sig),(247,sQ.D.sig)],lv:=[(2,[0,3])],lx:=[(0,[])] }
def ab (a:A):P:=@lift O λk=>D.W k a
variable (a1:A)
def T0 (U:Int):St:={ n:=34,sl:=[(0,.cp bm a1.1),(3,.val i64 U)],vr:=[],az:=[] }
def b0 (self:Int->P) (e0:(Unit)->P) (a1:A) (U:Int):P:=cond (decide (U < (a1.1.2.1.length:Int))) (if 0<=U then ((a1.1.2.1[U.toNat]?).bind λbg=>(sQ.ab (bg,())).bind λbr=>cond (!decide (br.1=0)) (some (br.1,()))<|if 0<=U then ((a1.1.2.1[U.toNat]?).bind λiz=>(og.ab (iz,())).bind λfw=>(jJ.ab (a1.1,fw.1,())).bind λmK=>cond (!mK.1) (some (8,()))<|self (ae (U+1))) else none) else none)<|e0 ()
def q0 (a1:A) (BY:(Unit)):P:=some (0,())
def r0:(Int)->P:=ao (λw v=>b0 w (q0 a1) a1 v) k
theorem av:@Eq ((Int)->P) (λU=>D.L k [1,0,1,0,0] [0,3] [] (ak 0 (ax (D.N k [1,1]) D.K0)) (T0 a1 U)) (r0 k a1):=
 funext λU=>aq _ _ _ (T0 a1) _ (λrec v=>Bye) k U
def p (l0:(Int)->P) (a1:A):P:=l0 0
theorem af:@Eq P (D.W k a1) (p (r0 k a1) a1):=By8 (av k a1) Bye
theorem ok:Ok prog 188 D.sig:=al func188 ap Bye (fc og.ok (fc jJ.ok (fc sQ.ok (aj _))))
end oh
namespace uT
abbrev A:=Key×Unit
abbrev O:=Bool×Unit
noncomputable def D:FD:={ fn:=f248,tl:=ba,ps:=[(.ro,(.ptr bk))],rs:=[(.bool,(ah .bool))],gl:=[(46,cc.D.sig)] }
def ab (a:A):Option O:=@lift O λk=>D.W k a
def p (a1:A):Option O:=(cc.ab (a1.1.1,0,3,())).bind λr2=>cond r2.1 ((cc.ab (a1.1.2.1,1,99,())).bind λr3=>some (r3.1,()))<|some (false,())
theorem af (a1:A):@Eq (Option O) (D.W k a1) (p a1):=Bye
theorem ok:Ok prog 248 D.sig:=al func248 ap Bye (fc cc.ok (aj _))
end uT
namespace dt
abbrev A:=Tx×Unit
abbrev O:=Int×Unit
abbrev P:=Option O
noncomputable def D:FD:={ fn:=f189,tl:=ba,ps:=[(.ro,(.ptr bm))],rs:=[(i64,(ah i64))],gl:=[(46,cc.D.sig),(248,uT.D.sig)],lv:=[(4,[0,3]),(9,[0,4]),(14,[0,4,5])],lx:=[(0,[0]),(2,[]),(4,[0,4])],od:=[(6,[0,1,2,3,4,5,6,7,8,9,10,11,12,13,14,15,16,17,18,19,20,21,22,23,24,25,26,27,28,29,30,31,32,33,34,35]),(16,[0,1,2,3,4,5,6,7,8,9,10,11,12,13,14])],ar:=[(6,[3,6,10,21,24,28,32])] }
def ab (a:A):P:=@lift O λk=>D.W k a
def T0 (a1:A) (U:Int):St:={ n:=102,sl:=[(0,.cp bm a1.1),(3,.val i64 U)],vr:=[],az:=[] }
def S0 (rec:RT O) (a1:A):(Int)->P:=λU=>rec (T0 a1 U)
def dq (K:KT O) (a1:A):(Unit)->P:=λz=>K (.exit 0) ({ n:=102,sl:=[(0,.cp bm a1.1)],vr:=[],az:=[] })
def b0 (self:Int->P) (e0:(Unit)->P) (a1:A) (U:Int):P:=cond (decide (U < (a1.1.2.2.1.length:Int))) (if 0<=U then ((a1.1.2.2.1[U.toNat]?).bind λbg=>(cc.ab (bg,0,(a1.1.2.1.length:Int),())).bind λbr=>cond (!br.1) (some (3,()))<|cond (decide (0 < U)) (if 0<=U then ((a1.1.2.2.1[U.toNat]?).bind λiz=>if 0<=ae (U - 1) then ((a1.1.2.2.1[(ae (U - (1:Int))).toNat]?).bind λzS=>cond (decide (iz < zS)) (some (3,()))<|self (ae (U+1))) else none) else none)<|self (ae (U+1))) else none)<|e0 ()
theorem nT (rec:RT O) (K:KT O) (a1:A) (U:Int):D.N k [1,1,0,1,0,0] (T0 a1 U) (kU rec (iv [0,3] []) K)=b0 (S0 rec a1) (dq K a1) a1 U:=Bye
def T1 (a1:A) (gx:Tx×Int):St:={ n:=102,sl:=[(0,.cp bm gx.1),(4,.val i64 gx.2)],vr:=[],az:=[] }
def S1 (rec:RT O) (a1:A):(Tx×Int)->P:=λgx=>rec (T1 a1 gx)
def oE (K:KT O) (a1:A):(Unit)->P:=λz=>K (.exit 2) ({ n:=102,sl:=[],vr:=[],az:=[] })
def T2 (a1:A) (lS:Tx) (i_:Int) (nc:Int):St:={ n:=102,sl:=[(0,.cp bm lS),(4,.val i64 i_),(5,.val i64 nc)],vr:=[],az:=[] }
def b2 (self:Int->P) (e4:(Unit)->P) (a1:A) (lS:Tx) (i_:Int) (nc:Int):P:=cond (decide (nc < i_)) (if 0<=nc then ((lS.2.2.2.1[nc.toNat]?).bind λW0=>if 0<=i_ then ((lS.2.2.2.1[i_.toNat]?).bind λagr=>cond (Ty.eq bk W0 agr) (some (6,()))<|self (ae (nc+1))) else none) else none)<|e4 ()
def q1 (self:(Tx×Int)->P) (e2:(Unit)->P) (a1:A) (lS:Tx) (i_:Int) (JN:(Unit)):P:=self (lS,ae (i_+1))
def s2 (rec:RT O) (K:KT O) (a1:A):Tx->Int->(Int)->P:=λlS i_=>λnc=>D.L k [1,1,1,0,1,0,0,1,0,0,1,1,0,0] [0,4,5] [] (ak 4 (ak 3 (ax (D.N k [1,1,1,0,1,0,0,1,1]) (kU rec (iv [0,4] []) K)))) (T2 a1 lS i_ nc)
def r2 (self:(Tx×Int)->P) (e2:(Unit)->P) (a1:A):Tx->Int->(Int)->P:=λlS i_=>ao (λw v=>b2 w (q1 self e2 a1 lS i_) a1 lS i_ v) k
theorem xT (rec:RT O) (K:KT O) (a1:A):s2 k rec K a1=r2 k (S1 rec a1) (oE K a1) a1:=
 funext λlS=>funext λi_=>funext λnc=>aq _ _ _ (T2 a1 lS i_) _ (λrec v=>Bye) k nc
def b1 (self:(Tx×Int)->P) (e2:(Unit)->P) (l2:Tx->Int->(Int)->P) (a1:A) (gx:Tx×Int):P:=cond (decide (gx.2 < (gx.1.2.2.2.1.length:Int))) (if 0<=gx.2 then ((gx.1.2.2.2.1[gx.2.toNat]?).bind λA7=>(uT.ab (A7,())).bind λCt=>cond (!Ct.1) (some (3,()))<|l2 gx.1 gx.2 0) else none)<|e2 ()
def B1 (self:(Tx×Int)->P) (e2:(Unit)->P) (a1:A) (gx:Tx×Int):P:=b1 self e2 (r2 k self e2 a1) a1 gx
theorem zT (rec:RT O) (K:KT O) (a1:A) (gx:Tx×Int):D.N k [1,1,1,0,1,0,0] (T1 a1 gx) (kU rec (iv [0,4] []) K)=B1 k (S1 rec a1) (oE K a1) a1 gx:=
 aV (b:=b1 (S1 rec a1) (oE K a1) (s2 k rec K a1) a1 gx) Bye (by rw[xT];rfl)
def q2 (a1:A) (Xk:(Unit)):P:=some (0,())
theorem Cu (a1:A) (Xk:(Unit)):oE (ak 2 (ax (D.N k [1,1,1,1]) D.K0)) a1 Xk=q2 a1 Xk:=Bye
def s1 (a1:A):(Tx×Int)->P:=λgx=>D.L k [1,1,1,0,1,0,0] [0,4] [] (ak 2 (ax (D.N k [1,1,1,1]) D.K0)) (T1 a1 gx)
def r1 (a1:A):(Tx×Int)->P:=ao (λw v=>B1 k w (q2 a1) a1 v) k
theorem nU (a1:A):s1 k a1=r1 k a1:=by
 funext gx;have h2:oE (ak 2 (ax (D.N k [1,1,1,1]) D.K0)) a1=q2 a1:=funext λz=>Cu k a1 z;refine (aq _ _ _ (T1 a1) (λself v=>B1 k self (oE (ak 2 (ax (D.N k [1,1,1,1]) D.K0)) a1) a1 v) (λrec v=>zT k rec (ak 2 (ax (D.N k [1,1,1,1]) D.K0)) a1 v) k gx).trans ?_;rw[h2];rfl
def q0 (l1:(Tx×Int)->P) (a1:A) (oM:(Unit)):P:=l1 (a1.1,0)
def Q0 (a1:A) (oM:(Unit)):P:=q0 (r1 k a1) a1 oM
theorem wa (a1:A) (oM:(Unit)):dq (ak 0 (ax (D.N k [1,1,1]) D.K0)) a1 oM=Q0 k a1 oM:=
 aV (b:=q0 (s1 k a1) a1 oM) Bye (by rw[nU];rfl)
def s0 (a1:A):(Int)->P:=λU=>D.L k [1,1,0,1,0,0] [0,3] [] (ak 0 (ax (D.N k [1,1,1]) D.K0)) (T0 a1 U)
def r0 (a1:A):(Int)->P:=ao (λw v=>b0 w (Q0 k a1) a1 v) k
theorem av (a1:A):s0 k a1=r0 k a1:=by
 funext U;have h0:dq (ak 0 (ax (D.N k [1,1,1]) D.K0)) a1=Q0 k a1:=funext λz=>wa k a1 z;refine (aq _ _ _ (T0 a1) (λself v=>b0 self (dq (ak 0 (ax (D.N k [1,1,1]) D.K0)) a1) a1 v) (λrec v=>nT k rec (ak 0 (ax (D.N k [1,1,1]) D.K0)) a1 v) k U).trans ?_;rw[h0];rfl
def p (l0:(Int)->P) (a1:A):P:=cond (decide (8 < (a1.1.2.2.1.length:Int))) (some (2,()))<|cond (decide (12 < (a1.1.2.2.2.1.length:Int))) (some (2,()))<|l0 0
theorem af (a1:A):@Eq P (D.W k a1) (p (r0 k a1) a1):=
 aV (b:=p (s0 k a1) a1) Bye (by rw[av])
theorem ok:Ok prog 189 D.sig:=al func189 ap Bye (fc cc.ok (fc uT.ok (aj _)))
end dt
namespace oZ
abbrev A:=(List Tx)×Key×Unit
abbrev O:=Int×Unit
abbrev P:=Option O
noncomputable def D:FD:={ fn:=f249,tl:=ba,ps:=[(.ro,(.aa bm)),(.ro,bk)],rs:=[(i64,(ah i64))],gl:=[(237,jJ.D.sig)],lv:=[(2,[0,3,5])],lx:=[(0,[])],od:=[(4,[0,1,2,3,4])] }
def ab (a:A):P:=@lift O λk=>D.W k a
variable (a1:A)
def T0 (U:Int):St:={ n:=22,sl:=[(0,.val (.aa bm) a1.1),(3,.box bk (ah bk) [] a1.2.1),(5,.val i64 U)],vr:=[],az:=[] }
def b0 (self:Int->P) (e0:(Unit)->P) (a1:A) (U:Int):P:=cond (decide (U < (a1.1.length:Int))) (if 0<=U then ((a1.1[U.toNat]?).bind λbg=>(jJ.ab (bg,a1.2.1,())).bind λbr=>cond br.1 (if 0<=U then ((a1.1[U.toNat]?).bind λiz=>some (iz.1,())) else none)<|self (ae (U+1))) else none)<|e0 ()
def q0 (a1:A) (BZ:(Unit)):P:=some (0,())
def r0:(Int)->P:=ao (λw v=>b0 w (q0 a1) a1 v) k
theorem av:@Eq ((Int)->P) (λU=>D.L k [1,0,1,0,0] [0,3,5] [] (ak 0 (ax (D.N k [1,1]) D.K0)) (T0 a1 U)) (r0 k a1):=
 funext λU=>aq _ _ _ (T0 a1) _ (λrec v=>Bye) k U
def p (l0:(Int)->P) (a1:A):P:=l0 0
theorem af:@Eq P (D.W k a1) (p (r0 k a1) a1):=By8 (av k a1) Bye
theorem ok:Ok prog 249 D.sig:=al func249 ap Bye (fc jJ.ok (aj _))
end oZ
namespace gu
abbrev A:=(List Tx)×Unit
abbrev O:=Bool×Unit
abbrev P:=Option O
noncomputable def D:FD:={ fn:=f190,tl:=ba,ps:=[(.ro,(.aa bm))],rs:=[(.bool,(ah .bool))],gl:=[(249,oZ.D.sig)],lv:=[(2,[0,3]),(5,[0,3,4])],lx:=[(0,[]),(2,[0,3])],od:=[(7,[0,1,2,3,4,5,6,7,8,10,11,12,13,14,9,15])] }
def ab (a:A):P:=@lift O λk=>D.W k a
def T0 (a1:A) (U:(List Tx)×Int):St:={ n:=37,sl:=[(0,.val (.aa bm) U.1),(3,.val i64 U.2)],vr:=[],az:=[] }
def S0 (rec:RT O) (a1:A):((List Tx)×Int)->P:=λU=>rec (T0 a1 U)
def dq (K:KT O) (a1:A):(Unit)->P:=λz=>K (.exit 0) ({ n:=37,sl:=[],vr:=[],az:=[] })
def T1 (a1:A) (oq:List Tx) (fd:Int) (oJ:Int):St:={ n:=37,sl:=[(0,.val (.aa bm) oq),(3,.val i64 fd),(4,.val i64 oJ)],vr:=[],az:=[] }
def b1 (self:Int->P) (e2:(Unit)->P) (a1:A) (oq:List Tx) (fd:Int) (oJ:Int):P:=if 0<=fd then ((oq[fd.toNat]?).bind λGD=>cond (decide (oJ < (GD.2.2.2.1.length:Int))) (if 0<=fd then ((oq[fd.toNat]?).bind λGB=>if 0<=oJ then ((GB.2.2.2.1[oJ.toNat]?).bind λXl=>if 0<=fd then ((oq[fd.toNat]?).bind λA7=>(oZ.ab (oq,Xl,())).bind λCt=>cond (!decide (Ct.1=A7.1)) (some (false,()))<|self (ae (oJ+1))) else none) else none) else none)<|e2 ()) else none
def q0 (self:((List Tx)×Int)->P) (e0:(Unit)->P) (a1:A) (oq:List Tx) (fd:Int) (GA:(Unit)):P:=self (oq,ae (fd+1))
def s1 (rec:RT O) (K:KT O) (a1:A):(List Tx)->Int->(Int)->P:=λoq fd=>λoJ=>D.L k [1,0,1,0,0,1,0,0,1,0,0] [0,3,4] [] (ak 2 (ak 1 (ax (D.N k [1,0,1,0,0,1,1]) (kU rec (iv [0,3] []) K)))) (T1 a1 oq fd oJ)
def r1 (self:((List Tx)×Int)->P) (e0:(Unit)->P) (a1:A):(List Tx)->Int->(Int)->P:=λoq fd=>ao (λw v=>b1 w (q0 self e0 a1 oq fd) a1 oq fd v) k
theorem nU (rec:RT O) (K:KT O) (a1:A):s1 k rec K a1=r1 k (S0 rec a1) (dq K a1) a1:=
 funext λoq=>funext λfd=>funext λoJ=>aq _ _ _ (T1 a1 oq fd) _ (λrec v=>Bye) k oJ
def b0 (self:((List Tx)×Int)->P) (e0:(Unit)->P) (l1:(List Tx)->Int->(Int)->P) (a1:A) (U:(List Tx)×Int):P:=cond (decide (U.2 < (U.1.length:Int))) (l1 U.1 U.2 0)<|e0 ()
def B0 (self:((List Tx)×Int)->P) (e0:(Unit)->P) (a1:A) (U:(List Tx)×Int):P:=b0 self e0 (r1 k self e0 a1) a1 U
theorem nT (rec:RT O) (K:KT O) (a1:A) (U:(List Tx)×Int):D.N k [1,0,1,0,0] (T0 a1 U) (kU rec (iv [0,3] []) K)=B0 k (S0 rec a1) (dq K a1) a1 U:=
 aV (b:=b0 (S0 rec a1) (dq K a1) (s1 k rec K a1) a1 U) Bye (by rw[nU];rfl)
def q1 (a1:A) (wb:(Unit)):P:=some (true,())
theorem tc (a1:A) (wb:(Unit)):dq (ak 0 (ax (D.N k [1,1]) D.K0)) a1 wb=q1 a1 wb:=Bye
def s0 (a1:A):((List Tx)×Int)->P:=λU=>D.L k [1,0,1,0,0] [0,3] [] (ak 0 (ax (D.N k [1,1]) D.K0)) (T0 a1 U)
def r0 (a1:A):((List Tx)×Int)->P:=ao (λw v=>B0 k w (q1 a1) a1 v) k
theorem av (a1:A):s0 k a1=r0 k a1:=by
 funext U;have h0:dq (ak 0 (ax (D.N k [1,1]) D.K0)) a1=q1 a1:=funext λz=>tc k a1 z;refine (aq _ _ _ (T0 a1) (λself v=>B0 k self (dq (ak 0 (ax (D.N k [1,1]) D.K0)) a1) a1 v) (λrec v=>nT k rec (ak 0 (ax (D.N k [1,1]) D.K0)) a1 v) k U).trans ?_;rw[h0];rfl
def p (l0:((List Tx)×Int)->P) (a1:A):P:=l0 (a1.1,0)
theorem af (a1:A):@Eq P (D.W k a1) (p (r0 k a1) a1):=
 aV (b:=p (s0 k a1) a1) Bye (by rw[av])
theorem ok:Ok prog 190 D.sig:=al func190 ap Bye (fc oZ.ok (aj _))
end gu
namespace kP
abbrev A:=(List Tx)×Unit
abbrev O:=Int×Unit
abbrev P:=Option O
noncomputable def D:FD:={ fn:=f191,tl:=ba,ps:=[(.ro,(.aa bm))],rs:=[(i64,(ah i64))],lv:=[(3,[0,3,4])],lx:=[(0,[3])] }
def ab (a:A):P:=@lift O λk=>D.W k a
variable (a1:A)
def T0 (U:Int×Int):St:={ n:=20,sl:=[(0,.val (.aa bm) a1.1),(3,.val i64 U.1),(4,.val i64 U.2)],vr:=[],az:=[] }
def b0 (self:(Int×Int)->P) (e0:Int->P) (a1:A) (U:Int×Int):P:=cond (decide (U.2 < (a1.1.length:Int))) (if 0<=U.2 then ((a1.1[U.2.toNat]?).bind λbg=>self (ae (U.1+(bg.2.1.length:Int)),ae (U.2+1))) else none)<|e0 U.1
def q0 (a1:A) (qf:Int):P:=some (qf,())
def r0:(Int×Int)->P:=ao (λw v=>b0 w (q0 a1) a1 v) k
theorem av:@Eq ((Int×Int)->P) (λU=>D.L k [1,1,0,1,0,0] [0,3,4] [] (ak 0 (ax (D.N k [1,1,1]) D.K0)) (T0 a1 U)) (r0 k a1):=
 funext λU=>aq _ _ _ (T0 a1) _ (λrec v=>Bye) k U
def p (l0:(Int×Int)->P) (a1:A):P:=l0 (0,0)
theorem af:@Eq P (D.W k a1) (p (r0 k a1) a1):=By8 (av k a1) Bye
theorem ok:Ok prog 191 D.sig:=al func191 ap Bye (aj _)
end kP
namespace jK
abbrev A:=(List Tx)×Unit
abbrev O:=Int×Unit
abbrev P:=Option O
noncomputable def D:FD:={ fn:=f111,tl:=ba,ps:=[(.ro,(.aa bm))],rs:=[(i64,(ah i64))],gl:=[(46,cc.D.sig),(188,oh.D.sig),(189,dt.D.sig),(190,gu.D.sig),(191,kP.D.sig)],lv:=[(4,[0,3])],lx:=[(0,[0])],od:=[(9,[0,1,2,3,4,5,6,7,8,9,10,11,12,13,14])] }
def ab (a:A):P:=@lift O λk=>D.W k a
variable (a1:A)
def T0 (U:Int):St:={ n:=56,sl:=[(0,.val (.aa bm) a1.1),(3,.val i64 U)],vr:=[],az:=[] }
def b0 (self:Int->P) (e0:(Unit)->P) (a1:A) (U:Int):P:=cond (decide (U < (a1.1.length:Int))) (if 0<=U then ((a1.1[U.toNat]?).bind λbg=>(cc.ab (bg.1,1,99,())).bind λbr=>cond (!br.1) (some (3,()))<|let afo:P:=(oh.ab (bg,())).bind λge=>cond (!decide (ge.1=0)) (some (ge.1,()))<|(dt.ab (bg,())).bind λtP=>cond (!decide (tP.1=0)) (some (tP.1,()))<|self (ae (U+1));cond (decide (0 < U)) (if 0<=ae (U - 1) then ((a1.1[(ae (U - (1:Int))).toNat]?).bind λiz=>cond (decide (bg.1<=iz.1)) (some (1,()))<|afo) else none)<|afo) else none)<|e0 ()
def q0 (aiV:(Unit)):P:=(gu.ab (a1.1,())).bind λah5=>cond (!ah5.1) (some (7,()))<|(kP.ab (a1.1,())).bind λabj=>cond (decide (12 < abj.1)) (some (2,()))<|some (0,())
def r0:(Int)->P:=ao (λw v=>b0 w (q0 a1) a1 v) k
theorem av:@Eq ((Int)->P) (λU=>D.L k [1,1,0,1,0,0] [0,3] [] (ak 0 (ax (D.N k [1,1,1]) D.K0)) (T0 a1 U)) (r0 k a1):=
 funext λU=>aq _ _ _ (T0 a1) _ (λrec v=>Bye) k U
def p (l0:(Int)->P) (a1:A):P:=cond (decide (4 < (a1.1.length:Int))) (some (2,()))<|l0 0
theorem af:@Eq P (D.W k a1) (p (r0 k a1) a1):=By8 (av k a1) Bye
theorem ok:Ok prog 111 D.sig:=al func111 ap Bye (fc cc.ok (fc oh.ok (fc dt.ok (fc gu.ok (fc kP.ok (aj _))))))
end jK
namespace cm
abbrev A:=(List Row)×(List Tx)×Key×Unit
abbrev O:=Int×Unit
abbrev P:=Option O
noncomputable def D:FD:={ fn:=f112,tl:=ba,ps:=[(.ro,(.aa ay)),(.ro,(.aa bm)),(.ro,bk)],rs:=[(i64,(ah i64))],lv:=[(3,[0,1,5,7,8]),(7,[1,5,7,9]),(14,[7,10,11]),(18,[7,10,11,12,13])],lx:=[(0,[1,5,7]),(2,[5,7]),(4,[10]),(6,[7,10,11,12])],od:=[(5,[0,1,2,3,4,5,6,7,8,9,10,11,12,13,14]),(20,[0,1,2,3,4,5,6,7,8,9])] }
def ab (a:A):P:=@lift O λk=>D.W k a
def T0 (a1:A) (U:(List Key)×Int):St:={ n:=82,sl:=[(0,.val (.aa ay) a1.1),(1,.val (.aa bm) a1.2.1),(5,.box bk (ah bk) [] a1.2.2.1),(7,.own (.aa bk) (ai (.aa bk)) [] U.1),(8,.val i64 U.2)],vr:=[],az:=[] }
def S0 (rec:RT O) (a1:A):((List Key)×Int)->P:=λU=>rec (T0 a1 U)
def dq (K:KT O) (a1:A):(List Key)->P:=λz=>K (.exit 0) ({ n:=82,sl:=[(1,.val (.aa bm) a1.2.1),(5,.box bk (ah bk) [] a1.2.2.1),(7,.own (.aa bk) (ai (.aa bk)) [] z)],vr:=[],az:=[] })
def b0 (self:((List Key)×Int)->P) (e0:(List Key)->P) (a1:A) (U:(List Key)×Int):P:=cond (decide (U.2 < (a1.1.length:Int))) (if 0<=U.2 then ((a1.1[U.2.toNat]?).bind λbg=>if 0<=U.2 then ((a1.1[U.2.toNat]?).bind λpA=>if U.1.length+[(bg.1,pA.2.1,())].length<=be then (self (U.1++[(bg.1,pA.2.1,())],ae (U.2+1))) else none) else none) else none)<|e0 U.1
theorem nT (rec:RT O) (K:KT O) (a1:A) (U:(List Key)×Int):D.N k [1,1,0,1,0,0] (T0 a1 U) (kU rec (iv [0,1,5,7,8] []) K)=b0 (S0 rec a1) (dq K a1) a1 U:=Bye
def T1 (a1:A) (fx:(List Key)×Int):St:={ n:=82,sl:=[(1,.val (.aa bm) a1.2.1),(5,.box bk (ah bk) [] a1.2.2.1),(7,.own (.aa bk) (ai (.aa bk)) [] fx.1),(9,.val i64 fx.2)],vr:=[],az:=[] }
def S1 (rec:RT O) (a1:A):((List Key)×Int)->P:=λfx=>rec (T1 a1 fx)
def oE (K:KT O) (a1:A):(List Key)->P:=λz=>K (.exit 2) ({ n:=82,sl:=[(5,.box bk (ah bk) [] a1.2.2.1),(7,.own (.aa bk) (ai (.aa bk)) [] z)],vr:=[],az:=[] })
def b1 (self:((List Key)×Int)->P) (e2:(List Key)->P) (a1:A) (fx:(List Key)×Int):P:=cond (decide (fx.2 < (a1.2.1.length:Int))) (if 0<=fx.2 then ((a1.2.1[fx.2.toNat]?).bind λGB=>if fx.1.length+GB.2.2.2.1.length<=be then (self (fx.1++GB.2.2.2.1,ae (fx.2+1))) else none) else none)<|e2 fx.1
theorem zT (rec:RT O) (K:KT O) (a1:A) (fx:(List Key)×Int):D.N k [1,1,1,0,1,0,0] (T1 a1 fx) (kU rec (iv [1,5,7,9] []) K)=b1 (S1 rec a1) (oE K a1) a1 fx:=Bye
def T2 (a1:A) (rN:(List Key)×Int×Int):St:={ n:=82,sl:=[(7,.own (.aa bk) (ai (.aa bk)) [] rN.1),(10,.val i64 rN.2.1),(11,.val i64 rN.2.2)],vr:=[],az:=[] }
def S2 (rec:RT O) (a1:A):((List Key)×Int×Int)->P:=λrN=>rec (T2 a1 rN)
def Oe (K:KT O) (a1:A):Int->P:=λz=>K (.exit 4) ({ n:=82,sl:=[(10,.val i64 z)],vr:=[],az:=[] })
def T3 (a1:A) (vn:List Key) (yF:Int) (vo:Int) (wd:Bool×Int):St:={ n:=82,sl:=[(7,.own (.aa bk) (ai (.aa bk)) [] vn),(10,.val i64 yF),(11,.val i64 vo),(12,.val .bool wd.1),(13,.val i64 wd.2)],vr:=[],az:=[] }
def b3 (self:(Bool×Int)->P) (e6:Bool->P) (a1:A) (vn:List Key) (yF:Int) (vo:Int) (wd:Bool×Int):P:=cond (decide (wd.2 < vo)) (cond wd.1 (if 0<=wd.2/\wd.2 < (vn.length:Int) then ((vn[wd.2.toNat]?).bind λags=>if 0<=vo/\vo < (vn.length:Int) then ((vn[vo.toNat]?).bind λagt=>self (!(Ty.eq bk ags agt),ae (wd.2+1))) else none) else none)<|e6 wd.1)<|e6 wd.1
def q2 (self:((List Key)×Int×Int)->P) (e4:Int->P) (a1:A) (vn:List Key) (yF:Int) (vo:Int) (agu:Bool):P:=cond agu (self (vn,ae (yF+1),ae (vo+1)))<|self (vn,yF,ae (vo+1))
def s3 (rec:RT O) (K:KT O) (a1:A):(List Key)->Int->Int->(Bool×Int)->P:=λvn yF vo=>λwd=>D.L k [1,1,1,1,1,1,0,1,0,0,1,0,0,1,0,1,0,0] [7,10,11,12,13] [] (ak 6 (ax (D.N k [1,1,1,1,1,1,0,1,0,0,1,0,0,1,1]) (ak 5 (ax (D.N k [1,1,1,1,1,1,0,1,0,0,1,1]) (kU rec (iv [7,10,11] []) K))))) (T3 a1 vn yF vo wd)
def r3 (self:((List Key)×Int×Int)->P) (e4:Int->P) (a1:A):(List Key)->Int->Int->(Bool×Int)->P:=λvn yF vo=>ao (λw v=>b3 w (q2 self e4 a1 vn yF vo) a1 vn yF vo v) k
theorem Xa (rec:RT O) (K:KT O) (a1:A):s3 k rec K a1=r3 k (S2 rec a1) (Oe K a1) a1:=
 funext λvn=>funext λyF=>funext λvo=>funext λwd=>aq _ _ _ (T3 a1 vn yF vo) _ (λrec v=>Bye) k wd
def b2 (self:((List Key)×Int×Int)->P) (e4:Int->P) (l3:(List Key)->Int->Int->(Bool×Int)->P) (a1:A) (rN:(List Key)×Int×Int):P:=cond (decide (rN.2.2 < (rN.1.length:Int))) (l3 rN.1 rN.2.1 rN.2.2 (true,0))<|e4 rN.2.1
def B2 (self:((List Key)×Int×Int)->P) (e4:Int->P) (a1:A) (rN:(List Key)×Int×Int):P:=b2 self e4 (r3 k self e4 a1) a1 rN
theorem W7 (rec:RT O) (K:KT O) (a1:A) (rN:(List Key)×Int×Int):D.N k [1,1,1,1,1,1,0,1,0,0] (T2 a1 rN) (kU rec (iv [7,10,11] []) K)=B2 k (S2 rec a1) (Oe K a1) a1 rN:=
 aV (b:=b2 (S2 rec a1) (Oe K a1) (s3 k rec K a1) a1 rN) Bye (by rw[Xa];rfl)
def q3 (a1:A) (Qy:Int):P:=some (Qy,())
theorem W_ (a1:A) (Qy:Int):Oe (ak 4 (ax (D.N k [1,1,1,1,1,1,1]) D.K0)) a1 Qy=q3 a1 Qy:=Bye
def s2 (a1:A):((List Key)×Int×Int)->P:=λrN=>D.L k [1,1,1,1,1,1,0,1,0,0] [7,10,11] [] (ak 4 (ax (D.N k [1,1,1,1,1,1,1]) D.K0)) (T2 a1 rN)
def r2 (a1:A):((List Key)×Int×Int)->P:=ao (λw v=>B2 k w (q3 a1) a1 v) k
theorem xT (a1:A):s2 k a1=r2 k a1:=by
 funext rN;have h4:Oe (ak 4 (ax (D.N k [1,1,1,1,1,1,1]) D.K0)) a1=q3 a1:=funext λz=>W_ k a1 z;refine (aq _ _ _ (T2 a1) (λself v=>B2 k self (Oe (ak 4 (ax (D.N k [1,1,1,1,1,1,1]) D.K0)) a1) a1 v) (λrec v=>W7 k rec (ak 4 (ax (D.N k [1,1,1,1,1,1,1]) D.K0)) a1 v) k rN).trans ?_;rw[h4];rfl
def q1 (l2:((List Key)×Int×Int)->P) (a1:A) (A9:(List Key)):P:=let acW:=λ(agv:List Key)=>(l2 (agv,0,0):P);cond (!decide (a1.2.2.1.2.1=0)) (if A9.length+[a1.2.2.1].length<=be then (acW (A9++[a1.2.2.1])) else none)<|acW A9
def Q1 (a1:A) (A9:(List Key)):P:=q1 (r2 k a1) a1 A9
theorem tc (a1:A) (A9:(List Key)):oE (ak 2 (ax (D.N k [1,1,1,1]) D.K0)) a1 A9=Q1 k a1 A9:=
 aV (b:=q1 (s2 k a1) a1 A9) Bye (by rw[xT];rfl)
def s1 (a1:A):((List Key)×Int)->P:=λfx=>D.L k [1,1,1,0,1,0,0] [1,5,7,9] [] (ak 2 (ax (D.N k [1,1,1,1]) D.K0)) (T1 a1 fx)
def r1 (a1:A):((List Key)×Int)->P:=ao (λw v=>b1 w (Q1 k a1) a1 v) k
theorem nU (a1:A):s1 k a1=r1 k a1:=by
 funext fx;have h2:oE (ak 2 (ax (D.N k [1,1,1,1]) D.K0)) a1=Q1 k a1:=funext λz=>tc k a1 z;refine (aq _ _ _ (T1 a1) (λself v=>b1 self (oE (ak 2 (ax (D.N k [1,1,1,1]) D.K0)) a1) a1 v) (λrec v=>zT k rec (ak 2 (ax (D.N k [1,1,1,1]) D.K0)) a1 v) k fx).trans ?_;rw[h2];rfl
def q0 (l1:((List Key)×Int)->P) (a1:A) (fm:(List Key)):P:=l1 (fm,0)
def Q0 (a1:A) (fm:(List Key)):P:=q0 (r1 k a1) a1 fm
theorem wa (a1:A) (fm:(List Key)):dq (ak 0 (ax (D.N k [1,1,1]) D.K0)) a1 fm=Q0 k a1 fm:=
 aV (b:=q0 (s1 k a1) a1 fm) Bye (by rw[nU];rfl)
def s0 (a1:A):((List Key)×Int)->P:=λU=>D.L k [1,1,0,1,0,0] [0,1,5,7,8] [] (ak 0 (ax (D.N k [1,1,1]) D.K0)) (T0 a1 U)
def r0 (a1:A):((List Key)×Int)->P:=ao (λw v=>b0 w (Q0 k a1) a1 v) k
theorem av (a1:A):s0 k a1=r0 k a1:=by
 funext U;have h0:dq (ak 0 (ax (D.N k [1,1,1]) D.K0)) a1=Q0 k a1:=funext λz=>wa k a1 z;refine (aq _ _ _ (T0 a1) (λself v=>b0 self (dq (ak 0 (ax (D.N k [1,1,1]) D.K0)) a1) a1 v) (λrec v=>nT k rec (ak 0 (ax (D.N k [1,1,1]) D.K0)) a1 v) k U).trans ?_;rw[h0];rfl
def p (l0:((List Key)×Int)->P) (a1:A):P:=l0 (([]:List Key),0)
theorem af (a1:A):@Eq P (D.W k a1) (p (r0 k a1) a1):=
 aV (b:=p (s0 k a1) a1) Bye (by rw[av])
theorem ok:Ok prog 112 D.sig:=al func112 ap Bye (aj _)
end cm
namespace mA
abbrev A:=(List Row)×Row×Unit
abbrev O:=(List Row)×Unit
abbrev P:=Option O
noncomputable def D:FD:={ fn:=f116,tl:=ba,ps:=[(.ro,(.aa ay)),(.ro,ay)],rs:=[((.aa ay),(ai (.aa ay)))],gl:=[(187,ph.D.sig)],lv:=[(2,[0,3,5])],lx:=[(0,[0,3,5])],od:=[(5,[0,1,4,5,6,2,3,7,8])] }
def ab (a:A):P:=@lift O λk=>D.W k a
variable (a1:A)
def T0 (U:Int):St:={ n:=32,sl:=[(0,.val (.aa ay) a1.1),(3,.box ay (ah ay) [] a1.2.1),(5,.val i64 U)],vr:=[],az:=[] }
def b0 (self:Int->P) (e0:Int->P) (a1:A) (U:Int):P:=cond (decide (U < (a1.1.length:Int))) (if 0<=U then ((a1.1[U.toNat]?).bind λbg=>(ph.ab (bg,a1.2.1,())).bind λbr=>cond br.1 (self (ae (U+1)))<|e0 U) else none)<|e0 U
def q0 (fm:Int):P:=if 0<=fm/\fm<=(a1.1.length:Int) then (if ([]:List Row).length+((a1.1.take fm.toNat).drop 0).length<=be then (let Of:=([]:List Row)++((a1.1.take fm.toNat).drop 0);if 0<=fm/\fm<=(a1.1.length:Int) then (if Of.length+[a1.2.1].length<=be then (if (Of++[a1.2.1]).length+((a1.1.take a1.1.length).drop fm.toNat).length<=be then (let EP:=(Of++[a1.2.1])++((a1.1.take a1.1.length).drop fm.toNat);some (EP,())) else none) else none) else none) else none) else none
def r0:(Int)->P:=ao (λw v=>b0 w (q0 a1) a1 v) k
theorem av:@Eq ((Int)->P) (λU=>D.L k [1,1,0,0,0] [0,3,5] [] (ak 0 (ax (D.N k [1,1,1]) D.K0)) (T0 a1 U)) (r0 k a1):=
 funext λU=>aq _ _ _ (T0 a1) _ (λrec v=>Bye) k U
def p (l0:(Int)->P) (a1:A):P:=l0 0
theorem af:@Eq P (D.W k a1) (p (r0 k a1) a1):=By8 (av k a1) Bye
theorem ok:Ok prog 116 D.sig:=al func116 ap Bye (fc ph.ok (aj _))
end mA
namespace mB
abbrev A:=(List Row)×Int×Int×Unit
abbrev O:=Int×Unit
abbrev P:=Option O
noncomputable def D:FD:={ fn:=f239,tl:=ba,ps:=[(.ro,(.aa ay)),(.ro,i64),(.ro,i64)],rs:=[(i64,(ah i64))],lv:=[(2,[0,1,2,7])],lx:=[(0,[])] }
def ab (a:A):P:=@lift O λk=>D.W k a
variable (a1:A)
def T0 (U:Int):St:={ n:=31,sl:=[(0,.val (.aa ay) a1.1),(1,.val i64 a1.2.1),(2,.val i64 a1.2.2.1),(7,.val i64 U)],vr:=[],az:=[] }
def b0 (self:Int->P) (e0:(Unit)->P) (a1:A) (U:Int):P:=cond (decide (U < (a1.1.length:Int))) (if 0<=U then ((a1.1[U.toNat]?).bind λbg=>cond (decide (bg.1=a1.2.1)) (if 0<=U then ((a1.1[U.toNat]?).bind λpA=>cond (decide (pA.2.1=a1.2.2.1)) (some (U,()))<|self (ae (U+1))) else none)<|self (ae (U+1))) else none)<|e0 ()
def q0 (a1:A) (fm:(Unit)):P:=some ((-1),())
def r0:(Int)->P:=ao (λw v=>b0 w (q0 a1) a1 v) k
theorem av:@Eq ((Int)->P) (λU=>D.L k [1,0,1,0,0] [0,1,2,7] [] (ak 0 (ax (D.N k [1,1]) D.K0)) (T0 a1 U)) (r0 k a1):=
 funext λU=>aq _ _ _ (T0 a1) _ (λrec v=>Bye) k U
def p (l0:(Int)->P) (a1:A):P:=l0 0
theorem af:@Eq P (D.W k a1) (p (r0 k a1) a1):=By8 (av k a1) Bye
theorem ok:Ok prog 239 D.sig:=al func239 ap Bye (aj _)
end mB
namespace lr
abbrev A:=(List Row)×Change×Unit
abbrev O:=(List Row)×Bool×Unit
abbrev P:=Option O
noncomputable def D:FD:={ fn:=f182,tl:=ba,ps:=[(.ro,(.aa ay)),(.ro,(.ptr au))],rs:=[((.aa ay),(ai (.aa ay))),(.bool,(ah .bool))],gl:=[(116,mA.D.sig),(238,lk.D.sig),(239,mB.D.sig)],lv:=[(7,[0,1,8,9,10])],lx:=[(0,[1,9])],od:=[(3,[0,1,2,3,4,5,6,7,8,9,10,11,12,13,14,15,16,17,18,19,20,21])] }
def ab (a:A):P:=@lift O λk=>D.W k a
variable (a1:A)
def T0 (jv:Int) (jt:(List Row)×Int):St:={ n:=70,sl:=[(0,.val (.aa ay) a1.1),(1,.cp au a1.2.1),(8,.val i64 jv),(9,.own (.aa ay) (ai (.aa ay)) [] jt.1),(10,.val i64 jt.2)],vr:=[],az:=[] }
def b0 (self:((List Row)×Int)->P) (e0:(List Row)->P) (a1:A) (jv:Int) (jt:(List Row)×Int):P:=cond (decide (jt.2 < (a1.1.length:Int))) (cond (!decide (jt.2=jv)) (if 0<=jt.2 then ((a1.1[jt.2.toNat]?).bind λacX=>if jt.1.length+[acX].length<=be then (self (jt.1++[acX],ae (jt.2+1))) else none) else none)<|self (jt.1,ae (jt.2+1)))<|e0 jt.1
def q0 (jv:Int) (JR:(List Row)):P:=cond a1.2.1.2.2.1 ((mA.ab (JR,a1.2.1.2.2.2.1,())).bind λJP=>some (JP.1,true,()))<|some (JR,true,())
def r0:Int->((List Row)×Int)->P:=λjv=>ao (λw v=>b0 w (q0 a1 jv) a1 jv v) k
theorem av:@Eq (Int->((List Row)×Int)->P) (λjv=>λjt=>D.L k [1,1,1,1,1,0,1,0,0] [0,1,8,9,10] [] (ak 0 (ax (D.N k [1,1,1,1,1,1]) D.K0)) (T0 a1 jv jt)) (r0 k a1):=
 funext λjv=>funext λjt=>aq _ _ _ (T0 a1 jv) _ (λrec v=>Bye) k jt
def p (l0:Int->((List Row)×Int)->P) (a1:A):P:=(lk.ab (a1.2.1,())).bind λr2=>(mB.ab (a1.1,r2.1,r2.2.1,())).bind λr3=>let Sf:P:=l0 r3.1 (([]:List Row),0);cond (!(a1.2.1.1 == (decide (0<=r3.1)))) (some (([]:List Row),false,()))<|cond (decide (0<=r3.1)) (if 0<=r3.1 then ((a1.1[r3.1.toNat]?).bind λx4=>cond (!(Ty.eq ay x4 a1.2.1.2.1)) (some (([]:List Row),false,()))<|Sf) else none)<|Sf
theorem af:@Eq P (D.W k a1) (p (r0 k a1) a1):=By8 (av k a1) Bye
theorem ok:Ok prog 182 D.sig:=al func182 ap Bye (fc mA.ok (fc lk.ok (fc mB.ok (aj _))))
end lr
namespace jV
abbrev A:=(List Change)×Unit
abbrev O:=(List Change)×Unit
abbrev P:=Option O
noncomputable def D:FD:={ fn:=f232,tl:=ba,ps:=[(.ro,(.aa au))],rs:=[((.aa au),(ai (.aa au)))],lv:=[(3,[0,3,4])],lx:=[(0,[3])] }
def ab (a:A):P:=@lift O λk=>D.W k a
variable (a1:A)
def T0 (U:(List Change)×Int):St:={ n:=31,sl:=[(0,.val (.aa au) a1.1),(3,.own (.aa au) (ai (.aa au)) [] U.1),(4,.val i64 U.2)],vr:=[],az:=[] }
def b0 (self:((List Change)×Int)->P) (e0:(List Change)->P) (a1:A) (U:(List Change)×Int):P:=cond (decide (0<=U.2)) (if 0<=U.2 then ((a1.1[U.2.toNat]?).bind λbg=>if U.1.length+[(bg.2.2.1,bg.2.2.2.1,bg.1,bg.2.1,())].length<=be then (let It:=U.1++[(bg.2.2.1,bg.2.2.2.1,bg.1,bg.2.1,())];self (It,ae (U.2 - 1))) else none) else none)<|e0 U.1
def q0 (a1:A) (fm:(List Change)):P:=some (fm,())
def r0:((List Change)×Int)->P:=ao (λw v=>b0 w (q0 a1) a1 v) k
theorem av:@Eq (((List Change)×Int)->P) (λU=>D.L k [1,1,0,1,0,0] [0,3,4] [] (ak 0 (ax (D.N k [1,1,1]) D.K0)) (T0 a1 U)) (r0 k a1):=
 funext λU=>aq _ _ _ (T0 a1) _ (λrec v=>Bye) k U
def p (l0:((List Change)×Int)->P) (a1:A):P:=l0 (([]:List Change),ae ((a1.1.length:Int) - 1))
theorem af:@Eq P (D.W k a1) (p (r0 k a1) a1):=By8 (av k a1) Bye
theorem ok:Ok prog 232 D.sig:=al func232 ap Bye (aj _)
end jV
namespace kx
abbrev A:=(List Row)×(List Change)×Unit
abbrev O:=(List Row)×Bool×Unit
abbrev P:=Option O
noncomputable def D:FD:={ fn:=f180,tl:=ba,ps:=[(.ro,(.aa ay)),(.ro,(.aa au))],rs:=[((.aa ay),(ah (.aa ay))),(.bool,(ah .bool))],gl:=[(182,lr.D.sig),(232,jV.D.sig)],lv:=[(3,[0,6,7])],lx:=[(0,[0])],lf:=[(3,[(0,Byc)])] }
def ab (a:A):P:=@lift O λk=>D.W k a
variable (a1:A)
def T0 (a1:A) (dy:List Change) (bv:(List Row)×Int):St:={ n:=30,sl:=[(0,.val (.aa ay) bv.1),(6,.own (.aa au) (ai (.aa au)) [] dy),(7,.val i64 bv.2)],vr:=[],az:=[] }
def b0 (self:((List Row)×Int)->P) (e0:(List Row)->P) (a1:A) (dy:List Change) (bv:(List Row)×Int):P:=cond (decide (bv.2 < (dy.length:Int))) (if 0<=bv.2/\bv.2 < (dy.length:Int) then ((dy[bv.2.toNat]?).bind λiz=>(lr.ab (bv.1,iz,())).bind λfw=>cond (!fw.2.1) (some (([]:List Row),false,()))<|self (fw.1,ae (bv.2+1))) else none)<|e0 bv.1
def q0 (a1:A) (dy:List Change) (oM:(List Row)):P:=some (oM,true,())
def r0:(List Change)->((List Row)×Int)->P:=λdy=>ao (λw v=>b0 w (q0 a1 dy) a1 dy v) k
theorem av:@Eq ((List Change)->((List Row)×Int)->P) (λdy=>λbv=>D.L k [1,1,0,1,0,0] [0,6,7] [(0,Byc)] (ak 0 (ax (D.N k [1,1,1]) D.K0)) (T0 a1 dy bv)) (r0 k a1):=
 funext λdy=>funext λbv=>aq _ _ _ (T0 a1 dy) _ (λrec v=>Bye) k bv
def p (l0:(List Change)->((List Row)×Int)->P) (a1:A):P:=(jV.ab (a1.2.1,())).bind λr2=>l0 r2.1 (a1.1,0)
theorem af:@Eq P (D.W k a1) (p (r0 k a1) a1):=By8 (av k a1) Bye
theorem ok:Ok prog 180 D.sig:=al func180 ap Bye (fc lr.ok (fc jV.ok (aj _)))
end kx
end
end OT
