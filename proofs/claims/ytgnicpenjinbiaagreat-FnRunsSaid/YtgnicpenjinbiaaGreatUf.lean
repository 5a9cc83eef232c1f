/- The proof's parts, merged: Printed by gen.py, a program of this claim  what each Go function computes.. No conditions but those that each states. -/
import Derived.Test.YtgnicpenjinbiaaGreatUe
set_option maxRecDepth 100000
set_option linter.unusedVariables false
namespace OT
open Go Go.Proofs.Tryz
noncomputable section
variable (k:Nat)
namespace nt
abbrev A:=(List Row)×(List Tx)×Unit
abbrev O:=(List Row)×Bool×Unit
abbrev P:=Option O
noncomputable def D:FD:={ fn:=f113,tl:=ba,ps:=[(.ro,(.aa ay)),(.ro,(.aa bm))],rs:=[((.aa ay),(ah (.aa ay))),(.bool,(ah .bool))],gl:=[(180,kx.D.sig)],lv:=[(3,[1,6,7])],lx:=[(0,[6])],lf:=[(3,[(6,Byc)])] }
def ab (a:A):P:=@lift O λk=>D.W k a
variable (a1:A)
def T0 (U:(List Row)×Int):St:={ n:=33,sl:=[(1,.val (.aa bm) a1.2.1),(6,.val (.aa ay) U.1),(7,.val i64 U.2)],vr:=[],az:=[] }
def b0 (self:((List Row)×Int)->P) (e0:(List Row)->P) (a1:A) (U:(List Row)×Int):P:=cond (decide (U.2 < (a1.2.1.length:Int))) (if 0<=U.2 then ((a1.2.1[U.2.toNat]?).bind λbg=>(kx.ab (U.1,bg.2.1,())).bind λbr=>cond (!br.2.1) (some (([]:List Row),false,()))<|self (br.1,ae (U.2+1))) else none)<|e0 U.1
def q0 (a1:A) (fm:(List Row)):P:=some (fm,true,())
def r0:((List Row)×Int)->P:=ao (λw v=>b0 w (q0 a1) a1 v) k
theorem av:@Eq (((List Row)×Int)->P) (λU=>D.L k [1,1,0,1,0,0] [1,6,7] [(6,Byc)] (ak 0 (ax (D.N k [1,1,1]) D.K0)) (T0 a1 U)) (r0 k a1):=
 funext λU=>aq _ _ _ (T0 a1) _ (λrec v=>Bye) k U
def p (l0:((List Row)×Int)->P) (a1:A):P:=if ([]:List Row).length+a1.1.length<=be then (l0 (([]:List Row)++a1.1,0)) else none
theorem af:@Eq P (D.W k a1) (p (r0 k a1) a1):=By8 (av k a1) Bye
theorem ok:Ok prog 113 D.sig:=al func113 ap Bye (fc kx.ok (aj _))
end nt
namespace rE
abbrev A:=Plain×Unit
abbrev O:=Int×Unit
noncomputable def D:FD:={ fn:=f51,tl:=ba,ps:=[(.ro,(.ptr kE))],rs:=[(i64,(ah i64))],gl:=[(46,cc.D.sig),(110,lq.D.sig),(111,jK.D.sig),(112,cm.D.sig),(113,nt.D.sig)],od:=[(8,[0,1,2,3,4,5,6,7,8,9,10,11,12,13,14,15,16,17,18,19,20,21,22,23,24,25]),(10,[0,1,2,3,4,5,6,7,8,9,10]),(12,[0,1,2,3,4,5,6,7,8,9,10,11,12,13])],ar:=[(8,[3,13,18,22])] }
def ab (a:A):Option O:=@lift O λk=>D.W k a
def p (a1:A):Option O:=(lq.ab (a1.1.1,())).bind λr2=>cond (!decide (r2.1=0)) (some (r2.1,()))<|(jK.ab (a1.1.2.1,())).bind λr3=>cond (!decide (r3.1=0)) (some (r3.1,()))<|let j8:Option O:=(cm.ab (a1.1.1,a1.1.2.1,(0,0,()),())).bind λr9=>cond (decide (12 < r9.1)) (some (2,()))<|(nt.ab (a1.1.1,a1.1.2.1,())).bind λqI=>cond (!qI.2.1) (some (8,()))<|some (0,());(cc.ab (a1.1.2.2.1,1,100,())).bind λr4=>cond (!r4.1) (some (3,()))<|cond (decide (0 < (a1.1.2.1.length:Int))) (if 0<=ae ((a1.1.2.1.length:Int) - 1) then ((a1.1.2.1[(ae ((a1.1.2.1.length:Int) - (1:Int))).toNat]?).bind λx5=>cond (decide (a1.1.2.2.1<=x5.1)) (some (3,()))<|j8) else none)<|j8
theorem af (a1:A):@Eq (Option O) (D.W k a1) (p a1):=Bye
theorem ok:Ok prog 51 D.sig:=al func51 ap Bye (fc cc.ok (fc lq.ok (fc jK.ok (fc cm.ok (fc nt.ok (aj _))))))
end rE
namespace jn
abbrev A:=Int×Unit
abbrev O:=b_×Unit
noncomputable def D:FD:={ fn:=f165,tl:=ba,ps:=[(.ro,i64)],rs:=[(fb,(ah fb))] }
def ab (a:A):Option O:=@lift O λk=>D.W k a
def p (a1:A):Option O:=some ((a1.1,false,(false,(0,0,0,([]:Byt),()),false,(0,0,0,([]:Byt),()),()),()),())
theorem af (a1:A):@Eq (Option O) (D.W k a1) (p a1):=Bye
theorem ok:Ok prog 165 D.sig:=al func165 ap Bye (aj _)
end jn
namespace ox
abbrev A:=Int×Unit
abbrev O:=Bool×Unit
noncomputable def D:FD:={ fn:=f228,tl:=ba,ps:=[(.ro,i64)],rs:=[(.bool,(ah .bool))],gl:=[(46,cc.D.sig)] }
def ab (a:A):Option O:=@lift O λk=>D.W k a
def p (a1:A):Option O:=(cc.ab (a1.1,2,4,())).bind λr2=>some (r2.1,())
theorem af (a1:A):@Eq (Option O) (D.W k a1) (p a1):=Bye
theorem ok:Ok prog 228 D.sig:=al func228 ap Bye (fc cc.ok (aj _))
end ox
namespace sA
abbrev A:=Op×Unit
abbrev O:=Bool×Unit
abbrev P:=Option O
noncomputable def D:FD:={ fn:=f227,tl:=ba,ps:=[(.ro,(.ptr l7))],rs:=[(.bool,(ah .bool))],gl:=[(46,cc.D.sig),(228,ox.D.sig)] }
def ab (a:A):P:=@lift O λk=>D.W k a
def p (a1:A):P:=let j6:P:=let j8:P:=cond (decide (a1.1.1=4)) (cond (decide (a1.1.2.2.1.2.2.1=0)) (some (decide (a1.1.2.2.1.2.2.2.1=([]:Byt)),()))<|some (false,()))<|(ox.ab (a1.1.1,())).bind λr9=>cond r9.1 (some (true,()))<|some ((Ty.eq ay a1.1.2.2.1 (0,0,0,([]:Byt),())),());cond (decide (a1.1.1=1)) (cond (!decide (a1.1.2.1=0)) (some (false,()))<|j8)<|cond (decide (a1.1.1=9)) (cond (!decide (a1.1.2.1=0)) (some (false,()))<|j8)<|j8;(cc.ab (a1.1.1,1,9,())).bind λr2=>cond (!r2.1) (some (false,()))<|cond (!decide (a1.1.1=6)) (cond (!decide (a1.1.2.2.2.1=0)) (some (false,()))<|j6)<|j6
theorem af (a1:A):@Eq P (D.W k a1) (p a1):=Bye
theorem ok:Ok prog 227 D.sig:=al func227 ap Bye (fc cc.ok (fc ox.ok (aj _)))
end sA
namespace uz
abbrev A:=Op×Unit
abbrev O:=Int×Unit
noncomputable def D:FD:={ fn:=f166,tl:=ba,ps:=[(.ro,(.ptr l7))],rs:=[(i64,(ah i64))],gl:=[(46,cc.D.sig),(186,g_.D.sig),(227,sA.D.sig),(228,ox.D.sig)] }
def ab (a:A):Option O:=@lift O λk=>D.W k a
def p (a1:A):Option O:=(sA.ab (a1.1,())).bind λr2=>cond (!r2.1) (some (1,()))<|cond (!decide (a1.1.1=1)) (cond (!decide (a1.1.1=9)) ((cc.ab (a1.1.2.1,1,99,())).bind λr3=>cond (!r3.1) (some (3,()))<|(cc.ab (a1.1.2.2.2.1,0,7,())).bind λr4=>cond (!r4.1) (some (3,()))<|(ox.ab (a1.1.1,())).bind λr9=>cond r9.1 ((g_.ab (a1.1.2.2.1,())).bind λqI=>some (qI.1,()))<|some (0,()))<|(cc.ab (a1.1.2.2.2.1,0,7,())).bind λr5=>cond (!r5.1) (some (3,()))<|(ox.ab (a1.1.1,())).bind λnJ=>cond nJ.1 ((g_.ab (a1.1.2.2.1,())).bind λqb=>some (qb.1,()))<|some (0,()))<|(cc.ab (a1.1.2.2.2.1,0,7,())).bind λr6=>cond (!r6.1) (some (3,()))<|(ox.ab (a1.1.1,())).bind λzg=>cond zg.1 ((g_.ab (a1.1.2.2.1,())).bind λxx=>some (xx.1,()))<|some (0,())
theorem af (a1:A):@Eq (Option O) (D.W k a1) (p a1):=Bye
theorem ok:Ok prog 166 D.sig:=al func166 ap Bye (fc cc.ok (fc g_.ok (fc sA.ok (fc ox.ok (aj _)))))
end uz
namespace lU
abbrev A:=(List Tx)×Int×Unit
abbrev O:=Int×Unit
abbrev P:=Option O
noncomputable def D:FD:={ fn:=f171,tl:=ba,ps:=[(.ro,(.aa bm)),(.ro,i64)],rs:=[(i64,(ah i64))],lv:=[(2,[0,1,5])],lx:=[(0,[])] }
def ab (a:A):P:=@lift O λk=>D.W k a
variable (a1:A)
def T0 (U:Int):St:={ n:=20,sl:=[(0,.val (.aa bm) a1.1),(1,.val i64 a1.2.1),(5,.val i64 U)],vr:=[],az:=[] }
def b0 (self:Int->P) (e0:(Unit)->P) (a1:A) (U:Int):P:=cond (decide (U < (a1.1.length:Int))) (if 0<=U then ((a1.1[U.toNat]?).bind λbg=>cond (decide (bg.1=a1.2.1)) (some (U,()))<|self (ae (U+1))) else none)<|e0 ()
def q0 (a1:A) (qf:(Unit)):P:=some ((-1),())
def r0:(Int)->P:=ao (λw v=>b0 w (q0 a1) a1 v) k
theorem av:@Eq ((Int)->P) (λU=>D.L k [1,0,1,0,0] [0,1,5] [] (ak 0 (ax (D.N k [1,1]) D.K0)) (T0 a1 U)) (r0 k a1):=
 funext λU=>aq _ _ _ (T0 a1) _ (λrec v=>Bye) k U
def p (l0:(Int)->P) (a1:A):P:=l0 0
theorem af:@Eq P (D.W k a1) (p (r0 k a1) a1):=By8 (av k a1) Bye
theorem ok:Ok prog 171 D.sig:=al func171 ap Bye (aj _)
end lU
namespace jg
abbrev A:=(List Tx)×Int×Key×Unit
abbrev O:=Bool×Unit
abbrev P:=Option O
noncomputable def D:FD:={ fn:=f273,tl:=ba,ps:=[(.ro,(.aa bm)),(.ro,i64),(.ro,bk)],rs:=[(.bool,(ah .bool))],lv:=[(2,[0,1,5,7]),(6,[0,1,5,7,8])],lx:=[(0,[]),(1,[0,1,5,7]),(2,[0,1,5,7])] }
def ab (a:A):P:=@lift O λk=>D.W k a
def T0 (a1:A) (U:(List Tx)×Int×Key×Int):St:={ n:=68,sl:=[(0,.val (.aa bm) U.1),(1,.val i64 U.2.1),(5,.box bk (ah bk) [] U.2.2.1),(7,.val i64 U.2.2.2)],vr:=[],az:=[] }
def S0 (rec:RT O) (a1:A):((List Tx)×Int×Key×Int)->P:=λU=>rec (T0 a1 U)
def dq (K:KT O) (a1:A):(Unit)->P:=λz=>K (.exit 0) ({ n:=68,sl:=[],vr:=[],az:=[] })
def T1 (a1:A) (fd:List Tx) (dz:Int) (de:Key) (cw:Int) (pq:Int):St:={ n:=68,sl:=[(0,.val (.aa bm) fd),(1,.val i64 dz),(5,.box bk (ah bk) [] de),(7,.val i64 cw),(8,.val i64 pq)],vr:=[],az:=[] }
def b1 (self:Int->P) (e2:(Unit)->P) (a1:A) (fd:List Tx) (dz:Int) (de:Key) (cw:Int) (pq:Int):P:=if 0<=cw then ((fd[cw.toNat]?).bind λA7=>cond (decide (pq < (A7.2.2.2.1.length:Int))) (if 0<=cw then ((fd[cw.toNat]?).bind λGH=>if 0<=pq then ((GH.2.2.2.1[pq.toNat]?).bind λw_=>cond (Ty.eq bk w_ de) (some (true,()))<|cond (decide (w_.1=0)) (cond (decide (w_.2.1=de.1)) (some (true,()))<|cond (decide (de.1=0)) (cond (decide (w_.1=de.2.1)) (some (true,()))<|self (ae (pq+1)))<|self (ae (pq+1)))<|cond (decide (de.1=0)) (cond (decide (w_.1=de.2.1)) (some (true,()))<|self (ae (pq+1)))<|self (ae (pq+1))) else none) else none)<|e2 ()) else none
def q0 (self:((List Tx)×Int×Key×Int)->P) (e0:(Unit)->P) (a1:A) (fd:List Tx) (dz:Int) (de:Key) (cw:Int) (wb:(Unit)):P:=self (fd,dz,de,ae (cw+1))
def s1 (rec:RT O) (K:KT O) (a1:A):(List Tx)->Int->Key->Int->(Int)->P:=λfd dz de cw=>λpq=>D.L k [1,0,1,0,0,1,0,0,1,1,0,0] [0,1,5,7,8] [] (ak 2 (ak 1 (ax (D.N k [1,0,1,0,0,1,1]) (kU rec (iv [0,1,5,7] []) K)))) (T1 a1 fd dz de cw pq)
def r1 (self:((List Tx)×Int×Key×Int)->P) (e0:(Unit)->P) (a1:A):(List Tx)->Int->Key->Int->(Int)->P:=λfd dz de cw=>ao (λw v=>b1 w (q0 self e0 a1 fd dz de cw) a1 fd dz de cw v) k
theorem nU (rec:RT O) (K:KT O) (a1:A):s1 k rec K a1=r1 k (S0 rec a1) (dq K a1) a1:=
 funext λfd=>funext λdz=>funext λde=>funext λcw=>funext λpq=>aq _ _ _ (T1 a1 fd dz de cw) _ (λrec v=>Bye) k pq
def b0 (self:((List Tx)×Int×Key×Int)->P) (e0:(Unit)->P) (l1:(List Tx)->Int->Key->Int->(Int)->P) (a1:A) (U:(List Tx)×Int×Key×Int):P:=cond (decide (U.2.2.2 < (U.1.length:Int))) (if 0<=U.2.2.2 then ((U.1[U.2.2.2.toNat]?).bind λbg=>cond (decide (bg.1=U.2.1)) (self (U.1,U.2.1,U.2.2.1,ae (U.2.2.2+1)))<|l1 U.1 U.2.1 U.2.2.1 U.2.2.2 0) else none)<|e0 ()
def B0 (self:((List Tx)×Int×Key×Int)->P) (e0:(Unit)->P) (a1:A) (U:(List Tx)×Int×Key×Int):P:=b0 self e0 (r1 k self e0 a1) a1 U
theorem nT (rec:RT O) (K:KT O) (a1:A) (U:(List Tx)×Int×Key×Int):D.N k [1,0,1,0,0] (T0 a1 U) (kU rec (iv [0,1,5,7] []) K)=B0 k (S0 rec a1) (dq K a1) a1 U:=
 aV (b:=b0 (S0 rec a1) (dq K a1) (s1 k rec K a1) a1 U) Bye (by rw[nU];rfl)
def q1 (a1:A) (JR:(Unit)):P:=some (false,())
theorem tc (a1:A) (JR:(Unit)):dq (ak 0 (ax (D.N k [1,1]) D.K0)) a1 JR=q1 a1 JR:=Bye
def s0 (a1:A):((List Tx)×Int×Key×Int)->P:=λU=>D.L k [1,0,1,0,0] [0,1,5,7] [] (ak 0 (ax (D.N k [1,1]) D.K0)) (T0 a1 U)
def r0 (a1:A):((List Tx)×Int×Key×Int)->P:=ao (λw v=>B0 k w (q1 a1) a1 v) k
theorem av (a1:A):s0 k a1=r0 k a1:=by
 funext U;have h0:dq (ak 0 (ax (D.N k [1,1]) D.K0)) a1=q1 a1:=funext λz=>tc k a1 z;refine (aq _ _ _ (T0 a1) (λself v=>B0 k self (dq (ak 0 (ax (D.N k [1,1]) D.K0)) a1) a1 v) (λrec v=>nT k rec (ak 0 (ax (D.N k [1,1]) D.K0)) a1 v) k U).trans ?_;rw[h0];rfl
def p (l0:((List Tx)×Int×Key×Int)->P) (a1:A):P:=l0 (a1.1,a1.2.1,a1.2.2.1,0)
theorem af (a1:A):@Eq P (D.W k a1) (p (r0 k a1) a1):=
 aV (b:=p (s0 k a1) a1) Bye (by rw[av])
theorem ok:Ok prog 273 D.sig:=al func273 ap Bye (aj _)
end jg
namespace qt
abbrev A:=(List Row)×Op×Unit
abbrev O:=Change×Int×Unit
abbrev P:=Option O
noncomputable def D:FD:={ fn:=f274,tl:=ba,ps:=[(.ro,(.aa ay)),(.ro,(.ptr l7))],rs:=[(au,(ah au)),(i64,(ah i64))],gl:=[(239,mB.D.sig)],od:=[(1,[0,1,2,3,4,5,6,7,8,9,10,11,12])] }
def ab (a:A):P:=@lift O λk=>D.W k a
def p (a1:A):P:=(mB.ab (a1.1,a1.2.1.2.2.1.1,a1.2.1.2.2.1.2.1,())).bind λr2=>let j5:P:=let j7:P:=let HD:=λ(p9:Change)=>(cond p9.2.2.1 (some ((p9.1,p9.2.1,p9.2.2.1,a1.2.1.2.2.1,p9.2.2.2.2),0,()))<|some (p9,0,()):P);cond (decide (0<=r2.1)) (if 0<=r2.1 then ((a1.1[r2.1.toNat]?).bind λx8=>HD (decide (0<=r2.1),x8,!decide (a1.2.1.1=4),(0,0,0,([]:Byt),()),())) else none)<|HD (decide (0<=r2.1),(0,0,0,([]:Byt),()),!decide (a1.2.1.1=4),(0,0,0,([]:Byt),()),());cond (!decide (a1.2.1.1=2)) (cond (decide (r2.1 < 0)) (some ((false,(0,0,0,([]:Byt),()),false,(0,0,0,([]:Byt),()),()),4,()))<|j7)<|j7;cond (decide (a1.2.1.1=2)) (cond (decide (0<=r2.1)) (some ((false,(0,0,0,([]:Byt),()),false,(0,0,0,([]:Byt),()),()),6,()))<|j5)<|j5
theorem af (a1:A):@Eq P (D.W k a1) (p a1):=Bye
theorem ok:Ok prog 274 D.sig:=al func274 ap Bye (fc mB.ok (aj _))
end qt
namespace lA
abbrev A:=(List Row)×Change×Unit
abbrev O:=Int×Unit
abbrev P:=Option O
noncomputable def D:FD:={ fn:=f308,tl:=ba,ps:=[(.ro,(.aa ay)),(.ro,(.ptr au))],rs:=[(i64,(ah i64))],gl:=[(46,cc.D.sig),(238,lk.D.sig)],lv:=[(5,[0,1,6,7])],lx:=[(0,[])],od:=[(7,[0,1,2,3,4,5,6,7,8,9,10,11,12,13,14,15,16,17,18,19,20,21,22,23,24,25,26,27,28,29,30,31,32,33,34,35])] }
def ab (a:A):P:=@lift O λk=>D.W k a
variable (a1:A)
def T0 (cw:Int) (ll:Int):St:={ n:=80,sl:=[(0,.val (.aa ay) a1.1),(1,.cp au a1.2.1),(6,.val i64 cw),(7,.val i64 ll)],vr:=[],az:=[] }
def b0 (self:Int->P) (e0:(Unit)->P) (a1:A) (cw:Int) (ll:Int):P:=cond (decide (ll < (a1.1.length:Int))) (if 0<=ll then ((a1.1[ll.toNat]?).bind λA7=>cond (decide (A7.1=cw)) (if 0<=ll then ((a1.1[ll.toNat]?).bind λGH=>cond (!decide (GH.1=0)) (cond (!a1.2.1.2.2.1) (some (8,()))<|if 0<=ll then ((a1.1[ll.toNat]?).bind λw_=>cond (decide (a1.2.1.2.2.2.1.2.2.1 < (w_.2.2.2.1.length:Int))) (some (8,()))<|self (ae (ll+1))) else none)<|self (ae (ll+1))) else none)<|self (ae (ll+1))) else none)<|e0 ()
def q0 (a1:A) (cw:Int) (wb:(Unit)):P:=some (0,())
def r0:Int->(Int)->P:=λcw=>ao (λw v=>b0 w (q0 a1 cw) a1 cw v) k
theorem av:@Eq (Int->(Int)->P) (λcw=>λll=>D.L k [1,1,1,0,1,0,0] [0,1,6,7] [] (ak 0 (ax (D.N k [1,1,1,1]) D.K0)) (T0 a1 cw ll)) (r0 k a1):=
 funext λcw=>funext λll=>aq _ _ _ (T0 a1 cw) _ (λrec v=>Bye) k ll
def p (l0:Int->(Int)->P) (a1:A):P:=(lk.ab (a1.2.1,())).bind λr2=>let afp:P:=l0 r2.2.1 0;cond a1.2.1.2.2.1 ((cc.ab (r2.2.1,1,3,())).bind λr3=>cond (!r3.1) (some (10,()))<|cond (decide (8 < a1.2.1.2.2.2.1.2.2.1)) (some (10,()))<|cond (!decide (a1.2.1.2.2.2.1.2.2.2.1=([]:Byt))) (some (10,()))<|afp)<|afp
theorem af:@Eq P (D.W k a1) (p (r0 k a1) a1):=By8 (av k a1) Bye
theorem ok:Ok prog 308 D.sig:=al func308 ap Bye (fc cc.ok (fc lk.ok (aj _)))
end lA
namespace rW
abbrev A:=(List Row)×Int×Unit
abbrev O:=Int×Unit
noncomputable def D:FD:={ fn:=f309,tl:=ba,ps:=[(.ro,(.aa ay)),(.ro,i64)],rs:=[(i64,(ah i64))],gl:=[(239,mB.D.sig)] }
def ab (a:A):Option O:=@lift O λk=>D.W k a
def p (a1:A):Option O:=(mB.ab (a1.1,0,a1.2.1,())).bind λr2=>cond (decide (r2.1 < 0)) (some ((-1),()))<|if 0<=r2.1 then ((a1.1[r2.1.toNat]?).bind λx3=>some (x3.2.2.1,())) else none
theorem af (a1:A):@Eq (Option O) (D.W k a1) (p a1):=Bye
theorem ok:Ok prog 309 D.sig:=al func309 ap Bye (fc mB.ok (aj _))
end rW
namespace uA
abbrev A:=(List Row)×Change×Unit
abbrev O:=Int×Unit
noncomputable def D:FD:={ fn:=f275,tl:=ba,ps:=[(.ro,(.aa ay)),(.ro,(.ptr au))],rs:=[(i64,(ah i64))],gl:=[(238,lk.D.sig),(308,lA.D.sig),(309,rW.D.sig)] }
def ab (a:A):Option O:=@lift O λk=>D.W k a
def p (a1:A):Option O:=(lk.ab (a1.2.1,())).bind λr2=>cond (decide (r2.1=0)) ((lA.ab (a1.1,a1.2.1,())).bind λr3=>some (r3.1,()))<|cond (!a1.2.1.2.2.1) (some (0,()))<|(rW.ab (a1.1,r2.1,())).bind λr4=>cond (decide (r4.1 < 0)) (some (4,()))<|cond (decide (r4.1 < (a1.2.1.2.2.2.1.2.2.2.1.length:Int))) (some (10,()))<|some (0,())
theorem af (a1:A):@Eq (Option O) (D.W k a1) (p a1):=Bye
theorem ok:Ok prog 275 D.sig:=al func275 ap Bye (fc lk.ok (fc lA.ok (fc rW.ok (aj _))))
end uA
namespace nV
abbrev A:=(List Row)×(List Tx)×Op×Unit
abbrev O:=b_×Unit
noncomputable def D:FD:={ fn:=f229,tl:=ba,ps:=[(.ro,(.aa ay)),(.ro,(.aa bm)),(.ro,(.ptr l7))],rs:=[(fb,(ah fb))],gl:=[(112,cm.D.sig),(165,jn.D.sig),(191,kP.D.sig),(273,jg.D.sig),(274,qt.D.sig),(275,uA.D.sig)],od:=[(1,[0,1,2,3,4,5,6,7,8,9,10,11,12]),(2,[0,1,2,3,4,5,6])] }
def ab (a:A):Option O:=@lift O λk=>D.W k a
def p (a1:A):Option O:=(jg.ab (a1.2.1,a1.2.2.1.2.1,(a1.2.2.1.2.2.1.1,a1.2.2.1.2.2.1.2.1,()),())).bind λr2=>cond r2.1 ((jn.ab (7,())).bind λr3=>some (r3.1,()))<|(qt.ab (a1.1,a1.2.2.1,())).bind λr4=>cond (!decide (r4.2.1=0)) ((jn.ab (r4.2.1,())).bind λr5=>some (r5.1,()))<|(uA.ab (a1.1,r4.1,())).bind λr6=>cond (!decide (r6.1=0)) ((jn.ab (r6.1,())).bind λr7=>some (r7.1,()))<|(cm.ab (a1.1,a1.2.1,(a1.2.2.1.2.2.1.1,a1.2.2.1.2.2.1.2.1,()),())).bind λr8=>cond (decide (12 < r8.1)) ((jn.ab (9,())).bind λqI=>some (qI.1,()))<|(kP.ab (a1.2.1,())).bind λr9=>cond (decide (12<=r9.1)) ((jn.ab (9,())).bind λnJ=>some (nJ.1,()))<|cond r4.1.1 (cond r4.1.2.2.1 (cond (Ty.eq ay r4.1.2.1 r4.1.2.2.2.1) (some ((0,false,(false,(0,0,0,([]:Byt),()),false,(0,0,0,([]:Byt),()),()),()),()))<|some ((0,true,r4.1,()),()))<|some ((0,true,r4.1,()),()))<|some ((0,true,r4.1,()),())
theorem af (a1:A):@Eq (Option O) (D.W k a1) (p a1):=Bye
theorem ok:Ok prog 229 D.sig:=al func229 ap Bye (fc cm.ok (fc jn.ok (fc kP.ok (fc jg.ok (fc qt.ok (fc uA.ok (aj _)))))))
end nV
namespace rF
abbrev A:=(List Row)×(List Tx)×Op×Unit
abbrev O:=b_×Unit
noncomputable def D:FD:={ fn:=f167,tl:=ba,ps:=[(.ro,(.aa ay)),(.ro,(.aa bm)),(.ro,(.ptr l7))],rs:=[(fb,(ah fb))],gl:=[(165,jn.D.sig),(171,lU.D.sig),(229,nV.D.sig)],od:=[(17,[0,1,2,3,4,5,6,7,8,9,10])] }
def ab (a:A):Option O:=@lift O λk=>D.W k a
def p (a1:A):Option O:=cond (decide (a1.2.2.1.1=1)) (cond (decide (4<=(a1.2.1.length:Int))) ((jn.ab (2,())).bind λr2=>some (r2.1,()))<|some ((0,false,(false,(0,0,0,([]:Byt),()),false,(0,0,0,([]:Byt),()),()),()),()))<|cond (decide (a1.2.2.1.1=9)) (some ((0,false,(false,(0,0,0,([]:Byt),()),false,(0,0,0,([]:Byt),()),()),()),()))<|(lU.ab (a1.2.1,a1.2.2.1.2.1,())).bind λr3=>cond (decide (r3.1 < 0)) ((jn.ab (4,())).bind λr4=>some (r4.1,()))<|cond (decide (a1.2.2.1.1=5)) (if 0<=r3.1 then ((a1.2.1[r3.1.toNat]?).bind λx5=>cond (decide (8<=(x5.2.2.1.length:Int))) ((jn.ab (2,())).bind λr6=>some (r6.1,()))<|some ((0,false,(false,(0,0,0,([]:Byt),()),false,(0,0,0,([]:Byt),()),()),()),())) else none)<|cond (decide (a1.2.2.1.1=6)) (if 0<=r3.1 then ((a1.2.1[r3.1.toNat]?).bind λx7=>cond (decide ((x7.2.2.1.length:Int)<=a1.2.2.1.2.2.2.1)) ((jn.ab (3,())).bind λr8=>some (r8.1,()))<|some ((0,false,(false,(0,0,0,([]:Byt),()),false,(0,0,0,([]:Byt),()),()),()),())) else none)<|cond (decide (a1.2.2.1.1=7)) (cond (decide (a1.2.2.1.1=7)) (some ((0,false,(false,(0,0,0,([]:Byt),()),false,(0,0,0,([]:Byt),()),()),()),()))<|(nV.ab (a1.1,a1.2.1,a1.2.2.1,())).bind λqI=>some (qI.1,()))<|cond (decide (a1.2.2.1.1=8)) (some ((0,false,(false,(0,0,0,([]:Byt),()),false,(0,0,0,([]:Byt),()),()),()),()))<|(nV.ab (a1.1,a1.2.1,a1.2.2.1,())).bind λnJ=>some (nJ.1,())
theorem af (a1:A):@Eq (Option O) (D.W k a1) (p a1):=Bye
theorem ok:Ok prog 167 D.sig:=al func167 ap Bye (fc jn.ok (fc lU.ok (fc nV.ok (aj _))))
end rF
namespace o3
abbrev A:=(List Row)×(List Tx)×Op×Unit
abbrev O:=b_×Unit
noncomputable def D:FD:={ fn:=f95,tl:=ba,ps:=[(.ro,(.aa ay)),(.ro,(.aa bm)),(.ro,l7)],rs:=[(fb,(ah fb))],gl:=[(110,lq.D.sig),(111,jK.D.sig),(165,jn.D.sig),(166,uz.D.sig),(167,rF.D.sig)] }
def ab (a:A):Option O:=@lift O λk=>D.W k a
def p (a1:A):Option O:=(lq.ab (a1.1,())).bind λr2=>cond (!decide (r2.1=0)) ((jn.ab (r2.1,())).bind λr3=>some (r3.1,()))<|(jK.ab (a1.2.1,())).bind λr4=>cond (!decide (r4.1=0)) ((jn.ab (r4.1,())).bind λr5=>some (r5.1,()))<|(uz.ab (a1.2.2.1,())).bind λr6=>cond (!decide (r6.1=0)) ((jn.ab (r6.1,())).bind λr7=>some (r7.1,()))<|(rF.ab (a1.1,a1.2.1,a1.2.2.1,())).bind λr8=>some (r8.1,())
theorem af (a1:A):@Eq (Option O) (D.W k a1) (p a1):=Bye
theorem ok:Ok prog 95 D.sig:=al func95 ap Bye (fc lq.ok (fc jK.ok (fc jn.ok (fc uz.ok (fc rF.ok (aj _))))))
end o3
namespace qM
abbrev A:=Int×Unit
abbrev O:=pe×Unit
noncomputable def D:FD:={ fn:=f98,tl:=ba,ps:=[(.ro,i64)],rs:=[(k_,(ai k_))] }
def ab (a:A):Option O:=@lift O λk=>D.W k a
def p (a1:A):Option O:=some ((a1.1,0,(([]:List Row),([]:List Tx),0,()),()),())
theorem af (a1:A):@Eq (Option O) (D.W k a1) (p a1):=Bye
theorem ok:Ok prog 98 D.sig:=al func98 ap Bye (aj _)
end qM
namespace uU
abbrev A:=Tx×Int×Unit
abbrev O:=(List Change)×Tx×Unit
noncomputable def D:FD:={ fn:=f174,tl:=ba,ps:=[(.ii (ah bm) (ah bm),bm),(.ro,i64)],rs:=[((.aa au),(ai (.aa au)))],es:=[0] }
def ab (a:A):Option O:=@lift O λk=>D.W k a
def p (a1:A):Option O:=if 0<=a1.2.1 then ((a1.1.2.2.1[a1.2.1.toNat]?).bind λx2=>if 0<=x2/\x2<=(a1.1.2.1.length:Int) then (if ([]:List Change).length+((a1.1.2.1.take a1.1.2.1.length).drop x2.toNat).length<=be then (let y3:=([]:List Change)++((a1.1.2.1.take a1.1.2.1.length).drop x2.toNat);if 0<=x2/\x2<=(a1.1.2.1.length:Int) then (if 0<=ae (a1.2.1+1)/\ae (a1.2.1+1)<=(a1.1.2.2.1.length:Int) then (let y4:=(a1.1.2.2.1.take (ae (a1.2.1+1)).toNat).drop 0;some (y3,(a1.1.1,(a1.1.2.1.take x2.toNat).drop 0,y4,a1.1.2.2.2),())) else none) else none) else none) else none) else none
theorem af (a1:A):@Eq (Option O) (D.W k a1) (p a1):=Bye
theorem ok:Ok prog 174 D.sig:=al func174 ap Bye (aj _)
end uU
namespace sR
abbrev A:=Tx×Int×Unit
abbrev O:=(List Change)×Tx×Unit
noncomputable def D:FD:={ fn:=f174,tl:=ba,ps:=[(.ii Btt Btt,bm),(.ro,i64)],rs:=[((.aa au),(ai (.aa au)))],es:=[0] }
def ab (a:A):Option O:=@lift O λk=>D.W k a
def p (a1:A):Option O:=if 0<=a1.2.1/\a1.2.1 < (a1.1.2.2.1.length:Int) then ((a1.1.2.2.1[a1.2.1.toNat]?).bind λx2=>if 0<=x2/\x2<=(a1.1.2.1.length:Int) then (if ([]:List Change).length+((a1.1.2.1.take a1.1.2.1.length).drop x2.toNat).length<=be then (let y3:=([]:List Change)++((a1.1.2.1.take a1.1.2.1.length).drop x2.toNat);if 0<=x2/\x2<=(a1.1.2.1.length:Int) then (if 0<=ae (a1.2.1+1)/\ae (a1.2.1+1)<=(a1.1.2.2.1.length:Int) then (let y4:=(a1.1.2.2.1.take (ae (a1.2.1+1)).toNat).drop 0;some (y3,(a1.1.1,(a1.1.2.1.take x2.toNat).drop 0,y4,a1.1.2.2.2),())) else none) else none) else none) else none) else none
theorem af (a1:A):@Eq (Option O) (D.W k a1) (p a1):=Bye
theorem ok:Ok prog 174 D.sig:=al func174 ap Bye (aj _)
end sR
namespace rp
abbrev A:=Tx×Unit
abbrev O:=Tx×Unit
noncomputable def D:FD:={ fn:=f230,tl:=ba,ps:=[(.ro,bm)],rs:=[(bm,(ai bm))],od:=[(1,[0,1,3,4,7,8,11,12,2,5,6,9,10,13,14,15])],ar:=[(1,[1,4,8,12])],bx:=[(1,[1])],pd:=[(1,[2,6,10])] }
def ab (a:A):Option O:=@lift O λk=>D.W k a
def p (a1:A):Option O:=if ([]:List Change).length+a1.1.2.1.length<=be then (if ([]:List Int).length+a1.1.2.2.1.length<=be then (if ([]:List Key).length+a1.1.2.2.2.1.length<=be then (some ((a1.1.1,([]:List Change)++a1.1.2.1,([]:List Int)++a1.1.2.2.1,([]:List Key)++a1.1.2.2.2.1,()),())) else none) else none) else none
theorem af (a1:A):@Eq (Option O) (D.W k a1) (p a1):=Bye
theorem ok:Ok prog 230 D.sig:=al func230 ap Bye (aj _)
end rp
namespace ky
abbrev A:=(List Tx)×Unit
abbrev O:=(List Tx)×Unit
abbrev P:=Option O
noncomputable def D:FD:={ fn:=f170,tl:=ba,ps:=[(.ro,(.aa bm))],rs:=[((.aa bm),(ai (.aa bm)))],gl:=[(230,rp.D.sig)],lv:=[(3,[0,3,4])],lx:=[(0,[3])] }
def ab (a:A):P:=@lift O λk=>D.W k a
variable (a1:A)
def T0 (U:(List Tx)×Int):St:={ n:=21,sl:=[(0,.val (.aa bm) a1.1),(3,.own (.aa bm) (ai (.aa bm)) [] U.1),(4,.val i64 U.2)],vr:=[],az:=[] }
def b0 (self:((List Tx)×Int)->P) (e0:(List Tx)->P) (a1:A) (U:(List Tx)×Int):P:=cond (decide (U.2 < (a1.1.length:Int))) (if 0<=U.2 then ((a1.1[U.2.toNat]?).bind λbg=>(rp.ab (bg,())).bind λbr=>if U.1.length+[br.1].length<=be then (self (U.1++[br.1],ae (U.2+1))) else none) else none)<|e0 U.1
def q0 (a1:A) (fm:(List Tx)):P:=some (fm,())
def r0:((List Tx)×Int)->P:=ao (λw v=>b0 w (q0 a1) a1 v) k
theorem av:@Eq (((List Tx)×Int)->P) (λU=>D.L k [1,1,0,1,0,0] [0,3,4] [] (ak 0 (ax (D.N k [1,1,1]) D.K0)) (T0 a1 U)) (r0 k a1):=
 funext λU=>aq _ _ _ (T0 a1) _ (λrec v=>Bye) k U
def p (l0:((List Tx)×Int)->P) (a1:A):P:=l0 (([]:List Tx),0)
theorem af:@Eq P (D.W k a1) (p (r0 k a1) a1):=By8 (av k a1) Bye
theorem ok:Ok prog 170 D.sig:=al func170 ap Bye (fc rp.ok (aj _))
end ky
namespace kA
abbrev A:=(List Tx)×Int×Change×Unit
abbrev O:=(List Tx)×Unit
noncomputable def D:FD:={ fn:=f178,tl:=ba,ps:=[(.ro,(.aa bm)),(.ro,i64),(.ro,au)],rs:=[((.aa bm),(ai (.aa bm)))],gl:=[(170,ky.D.sig),(236,og.D.sig),(237,jJ.D.sig)],od:=[(3,[0,1,2,3,4,5,6,7,8,9,10]),(6,[0,1,2,3,4,5,6,7,8,9,10])] }
def ab (a:A):Option O:=@lift O λk=>D.W k a
def p (a1:A):Option O:=(ky.ab (a1.1,())).bind λr2=>if 0<=a1.2.1/\a1.2.1 < (r2.1.length:Int) then ((r2.1[a1.2.1.toNat]?).bind λx3=>(r2.1[a1.2.1.toNat]?).bind λx4=>(r2.1[a1.2.1.toNat]?).bind λx5=>if x4.2.1.length+[a1.2.2.1].length<=be then (if a1.2.1.toNat=a1.2.1.toNat then ((r2.1.set a1.2.1.toNat x5)[a1.2.1.toNat]?).bind λx6=>let y7:=(r2.1.set a1.2.1.toNat x5).set a1.2.1.toNat (x6.1,x4.2.1++[a1.2.2.1],x6.2.2);(og.ab (a1.2.2.1,())).bind λr8=>(y7[a1.2.1.toNat]?).bind λx9=>(jJ.ab (x9,r8.1,())).bind λqI=>cond (!qI.1) ((y7[a1.2.1.toNat]?).bind λPe=>(y7[a1.2.1.toNat]?).bind λKl=>(y7[a1.2.1.toNat]?).bind λFq=>if Kl.2.2.2.1.length+[r8.1].length<=be then (if a1.2.1.toNat=a1.2.1.toNat then ((y7.set a1.2.1.toNat Fq)[a1.2.1.toNat]?).bind λIv=>let y15:=(y7.set a1.2.1.toNat Fq).set a1.2.1.toNat (Iv.1,Iv.2.1,Iv.2.2.1,Kl.2.2.2.1++[r8.1],Iv.2.2.2.2);some (y15,()) else none) else none)<|some (y7,()) else none) else none) else none
theorem af (a1:A):@Eq (Option O) (D.W k a1) (p a1):=Bye
theorem ok:Ok prog 178 D.sig:=al func178 ap Bye (fc ky.ok (fc og.ok (fc jJ.ok (aj _))))
end kA
namespace tT
abbrev A:=Plain×Unit
abbrev O:=Plain×Unit
noncomputable def D:FD:={ fn:=f179,tl:=ba,ps:=[(.ro,kE)],rs:=[(kE,(ai kE))],gl:=[(170,ky.D.sig)],od:=[(1,[1,2,4,5,7,8,0,3,6,9,10])],ar:=[(1,[2,5,8])],bx:=[(1,[1])] }
def ab (a:A):Option O:=@lift O λk=>D.W k a
def p (a1:A):Option O:=if ([]:List Row).length+a1.1.1.length<=be then ((ky.ab (a1.1.2.1,())).bind λr2=>some ((([]:List Row)++a1.1.1,r2.1,a1.1.2.2.1,()),())) else none
theorem af (a1:A):@Eq (Option O) (D.W k a1) (p a1):=Bye
theorem ok:Ok prog 179 D.sig:=al func179 ap Bye (fc ky.ok (aj _))
end tT
namespace mC
abbrev A:=(List Tx)×Int×Unit
abbrev O:=(List Tx)×Unit
abbrev P:=Option O
noncomputable def D:FD:={ fn:=f181,tl:=ba,ps:=[(.ro,(.aa bm)),(.ro,i64)],rs:=[((.aa bm),(.aa true (ah bm)))],lv:=[(3,[0,1,5,6])],lx:=[(0,[5])],lf:=[(3,[(5,(.aa true Byy))])] }
def ab (a:A):P:=@lift O λk=>D.W k a
variable (a1:A)
def T0 (U:(List Tx)×Int):St:={ n:=25,sl:=[(0,.val (.aa bm) a1.1),(1,.val i64 a1.2.1),(5,.own (.aa bm) (.aa true (ah bm)) [] U.1),(6,.val i64 U.2)],vr:=[],az:=[] }
def b0 (self:((List Tx)×Int)->P) (e0:(List Tx)->P) (a1:A) (U:(List Tx)×Int):P:=cond (decide (U.2 < (a1.1.length:Int))) (cond (!decide (U.2=a1.2.1)) (if 0<=U.2 then ((a1.1[U.2.toNat]?).bind λbg=>if U.1.length+[bg].length<=be then (self (U.1++[bg],ae (U.2+1))) else none) else none)<|self (U.1,ae (U.2+1)))<|e0 U.1
def q0 (a1:A) (qf:(List Tx)):P:=some (qf,())
def r0:((List Tx)×Int)->P:=ao (λw v=>b0 w (q0 a1) a1 v) k
theorem av:@Eq (((List Tx)×Int)->P) (λU=>D.L k [1,1,0,1,0,0] [0,1,5,6] [(5,(.aa true Byy))] (ak 0 (ax (D.N k [1,1,1]) D.K0)) (T0 a1 U)) (r0 k a1):=
 funext λU=>aq _ _ _ (T0 a1) _ (λrec v=>Bye) k U
def p (l0:((List Tx)×Int)->P) (a1:A):P:=l0 (([]:List Tx),0)
theorem af:@Eq P (D.W k a1) (p (r0 k a1) a1):=By8 (av k a1) Bye
theorem ok:Ok prog 181 D.sig:=al func181 ap Bye (aj _)
end mC
namespace kh
abbrev A:=Plain×Op×b_×Unit
abbrev O:=pe×Unit
noncomputable def D:FD:={ fn:=f99,tl:=ba,ps:=[(.ro,kE),(.ro,(.ptr l7)),(.ro,(.ptr fb))],rs:=[(k_,(.pair (ah i64) (.pair (ah i64) (.pair Bts (ah .unit)))))],gl:=[(98,qM.D.sig),(171,lU.D.sig),(174,uU.D.sig),(178,kA.D.sig),(179,tT.D.sig),(180,kx.D.sig),(181,mC.D.sig),(182,lr.D.sig)],od:=[(3,[0,1,2,3,4,5,6,7,8,9]),(8,[0,1,2,3,4,5,6,7,8,9,10,11,12]),(13,[0,1,2,3,4,5,6,7,8,9,10,11,12,13,14,15,16,17,18,19,20,21,22,23,24,25,26]),(15,[0,1,2,3,4,5,6,7,8,9,10,11,12,13,14,15,16,17,18,19,20,21,22]),(19,[0,1,2,3,4,5,6,7,8,9,10,11,12,13,14,15,16,17,18,19]),(22,[0,1,2,3,4,5,6,7,8,9,10,11,12,13,14]),(23,[0,1,2,3,4,5,6,7,8,9,10,11,12,13])],er:=[(13,[(3,27)]),(15,[(4,22)])] }
def ab (a:A):Option O:=@lift O λk=>D.W k a
def p (a1:A):Option O:=(tT.ab (a1.1,())).bind λr2=>(lU.ab (r2.1.2.1,a1.2.1.2.1,())).bind λr3=>cond (decide (a1.2.1.1=1)) (cond (decide (100<=a1.1.2.2.1)) ((qM.ab (9,())).bind λr4=>some (r4.1,()))<|if r2.1.2.1.length+[(a1.1.2.2.1,([]:List Change),([]:List Int),([]:List Key),())].length<=be then (let y5:=r2.1.2.1++[(a1.1.2.2.1,([]:List Change),([]:List Int),([]:List Key),())];cond a1.2.2.1.2.1 ((lr.ab (r2.1.1,a1.2.2.1.2.2.1,())).bind λr30=>(kA.ab (y5,r3.1,a1.2.2.1.2.2.1,())).bind λr31=>some ((0,a1.1.2.2.1,(r30.1,r31.1,ae (a1.1.2.2.1+1),r2.1.2.2.2),()),()))<|some ((0,a1.1.2.2.1,(r2.1.1,y5,ae (a1.1.2.2.1+1),r2.1.2.2.2),()),())) else none)<|cond (decide (a1.2.1.1=5)) (if 0<=r3.1/\r3.1 < (r2.1.2.1.length:Int) then ((r2.1.2.1[r3.1.toNat]?).bind λx6=>(r2.1.2.1[r3.1.toNat]?).bind λx7=>if 0<=r3.1/\r3.1 < (r2.1.2.1.length:Int) then ((r2.1.2.1[r3.1.toNat]?).bind λx8=>if 0<=r3.1/\r3.1 < (r2.1.2.1.length:Int) then ((r2.1.2.1[r3.1.toNat]?).bind λx9=>(r2.1.2.1[r3.1.toNat]?).bind λDr=>(r2.1.2.1[r3.1.toNat]?).bind λPe=>(r2.1.2.1[r3.1.toNat]?).bind λKl=>if Pe.2.2.1.length+[(Dr.2.1.length:Int)].length<=be then (if 0<=r3.1/\r3.1 < ((r2.1.2.1.set r3.1.toNat Kl).length:Int) then (if r3.1.toNat=r3.1.toNat then ((r2.1.2.1.set r3.1.toNat Kl)[r3.1.toNat]?).bind λFq=>let y14:=(r2.1.2.1.set r3.1.toNat Kl).set r3.1.toNat (Fq.1,Fq.2.1,Pe.2.2.1++[(Dr.2.1.length:Int)],Fq.2.2.2);cond a1.2.2.1.2.1 ((lr.ab (r2.1.1,a1.2.2.1.2.2.1,())).bind λr32=>(kA.ab (y14,r3.1,a1.2.2.1.2.2.1,())).bind λr33=>some ((0,(x7.2.2.1.length:Int),(r32.1,r33.1,r2.1.2.2),()),()))<|some ((0,(x7.2.2.1.length:Int),(r2.1.1,y14,r2.1.2.2),()),()) else none) else none) else none) else none) else none) else none)<|cond (decide (a1.2.1.1=6)) (if 0<=r3.1/\r3.1 < (r2.1.2.1.length:Int) then ((r2.1.2.1[r3.1.toNat]?).bind λVn=>(r2.1.2.1[r3.1.toNat]?).bind λHE=>((r2.1.2.1.set r3.1.toNat HE)[r3.1.toNat]?).bind λx17=>(uU.ab (x17,a1.2.1.2.2.2.1,())).bind λEi=>((r2.1.2.1.set r3.1.toNat HE)[r3.1.toNat]?).bind λVo=>let y20:=(r2.1.2.1.set r3.1.toNat HE).set r3.1.toNat Ei.2.1;(kx.ab (r2.1.1,Ei.1,())).bind λFs=>cond a1.2.2.1.2.1 ((lr.ab (Fs.1,a1.2.2.1.2.2.1,())).bind λr34=>(kA.ab (y20,r3.1,a1.2.2.1.2.2.1,())).bind λr35=>some ((0,0,(r34.1,r35.1,r2.1.2.2),()),()))<|some ((0,0,(Fs.1,y20,r2.1.2.2),()),())) else none)<|cond (decide (a1.2.1.1=7)) ((mC.ab (r2.1.2.1,r3.1,())).bind λSe=>cond a1.2.2.1.2.1 ((lr.ab (r2.1.1,a1.2.2.1.2.2.1,())).bind λr36=>(kA.ab (Se.1,r3.1,a1.2.2.1.2.2.1,())).bind λr37=>some ((0,0,(r36.1,r37.1,r2.1.2.2),()),()))<|some ((0,0,(r2.1.1,Se.1,r2.1.2.2),()),()))<|cond (decide (a1.2.1.1=8)) (if 0<=r3.1/\r3.1 < (r2.1.2.1.length:Int) then ((r2.1.2.1[r3.1.toNat]?).bind λx23=>(r2.1.2.1[r3.1.toNat]?).bind λx24=>((r2.1.2.1.set r3.1.toNat x24)[r3.1.toNat]?).bind λZv=>(kx.ab (r2.1.1,Zv.2.1,())).bind λMN=>(mC.ab (r2.1.2.1.set r3.1.toNat x24,r3.1,())).bind λVq=>cond a1.2.2.1.2.1 ((lr.ab (MN.1,a1.2.2.1.2.2.1,())).bind λr38=>(kA.ab (Vq.1,r3.1,a1.2.2.1.2.2.1,())).bind λr39=>some ((0,0,(r38.1,r39.1,r2.1.2.2),()),()))<|some ((0,0,(MN.1,Vq.1,r2.1.2.2),()),())) else none)<|cond a1.2.2.1.2.1 ((lr.ab (r2.1.1,a1.2.2.1.2.2.1,())).bind λr40=>(kA.ab (r2.1.2.1,r3.1,a1.2.2.1.2.2.1,())).bind λr41=>some ((0,0,(r40.1,r41.1,r2.1.2.2),()),()))<|some ((0,0,r2.1,()),())
theorem af (a1:A):@Eq (Option O) (D.W k a1) (p a1):=Bye
theorem ok:Ok prog 99 D.sig:=al func99 ap Bye (fc qM.ok (fc lU.ok (fc uU.ok (fc kA.ok (fc tT.ok (fc kx.ok (fc mC.ok (fc lr.ok (aj _)))))))))
end kh
namespace lO
abbrev A:=Plain×Op×Unit
abbrev O:=pe×Unit
noncomputable def D:FD:={ fn:=f45,tl:=ba,ps:=[(.ro,kE),(.ro,l7)],rs:=[(k_,(.pair (ah i64) (.pair (ah i64) (.pair Bts (ah .unit)))))],gl:=[(51,rE.D.sig),(95,o3.D.sig),(98,qM.D.sig),(99,kh.D.sig)] }
def ab (a:A):Option O:=@lift O λk=>D.W k a
def p (a1:A):Option O:=(rE.ab (a1.1,())).bind λr2=>cond (!decide (r2.1=0)) ((qM.ab (r2.1,())).bind λr3=>some (r3.1,()))<|(o3.ab (a1.1.1,a1.1.2.1,a1.2.1,())).bind λr4=>cond (!decide (r4.1.1=0)) ((qM.ab (r4.1.1,())).bind λr5=>some (r5.1,()))<|(kh.ab (a1.1,a1.2.1,r4.1,())).bind λr6=>some (r6.1,())
theorem af (a1:A):@Eq (Option O) (D.W k a1) (p a1):=Bye
theorem ok:Ok prog 45 D.sig:=al func45 ap Bye (fc rE.ok (fc o3.ok (fc qM.ok (fc kh.ok (aj _)))))
end lO
namespace kj
abbrev A:=fl×Int×Unit
abbrev O:=(List Op)×fl×Unit
abbrev P:=Option O
noncomputable def D:FD:={ fn:=f92,tl:=ba,ps:=[(.ii (ah kZ) (ah kZ),kZ),(.ro,i64)],rs:=[((.aa l7),(ai (.aa l7)))],gl:=[(45,lO.D.sig),(70,oY.D.sig),(93,cb.D.sig)],es:=[0],lv:=[(4,[0,1,5,6,7]),(8,[0,5,6,8])],lx:=[(0,[0,1,5,6]),(2,[0,6])],lf:=[(4,[(5,(.pair Byc (.pair (.aa true Byy) (.pair .leaf .leaf))))]),(8,[(5,Bte)])],od:=[(6,[0,1,2,3,4,5,6,7])] }
def ab (a:A):P:=@lift O λk=>D.W k a
def T0 (a1:A) (U:Plain×Int):St:={ n:=60,sl:=[(0,.box kZ (ah kZ) [] a1.1),(1,.val i64 a1.2.1),(5,.box kE Bts [] U.1),(6,.own (.aa l7) (ai (.aa l7)) [] [((1:Int),(0:Int),((0:Int),(0:Int),(0:Int),([]:Byt),()),(0:Int),()),((2:Int),(1:Int),((0:Int),(1:Int),(8:Int),([]:Byt),()),(0:Int),()),((2:Int),(1:Int),((0:Int),(2:Int),(8:Int),([]:Byt),()),(0:Int),()),((7:Int),(1:Int),((0:Int),(0:Int),(0:Int),([]:Byt),()),(0:Int),()),((1:Int),(0:Int),((0:Int),(0:Int),(0:Int),([]:Byt),()),(0:Int),()),((1:Int),(0:Int),((0:Int),(0:Int),(0:Int),([]:Byt),()),(0:Int),())]),(7,.val i64 U.2)],vr:=[],az:=[(0,0,false)] }
def S0 (rec:RT O) (a1:A):(Plain×Int)->P:=λU=>rec (T0 a1 U)
def dq (K:KT O) (a1:A):Plain->P:=λz=>K (.exit 0) ({ n:=60,sl:=[(0,.box kZ (ah kZ) [] a1.1),(1,.val i64 a1.2.1),(5,.box kE (.pair (ah (.aa ay)) (.pair (.aa true (ah bm)) (ah (bq [i64])))) [] z),(6,.own (.aa l7) (ai (.aa l7)) [] [((1:Int),(0:Int),((0:Int),(0:Int),(0:Int),([]:Byt),()),(0:Int),()),((2:Int),(1:Int),((0:Int),(1:Int),(8:Int),([]:Byt),()),(0:Int),()),((2:Int),(1:Int),((0:Int),(2:Int),(8:Int),([]:Byt),()),(0:Int),()),((7:Int),(1:Int),((0:Int),(0:Int),(0:Int),([]:Byt),()),(0:Int),()),((1:Int),(0:Int),((0:Int),(0:Int),(0:Int),([]:Byt),()),(0:Int),()),((1:Int),(0:Int),((0:Int),(0:Int),(0:Int),([]:Byt),()),(0:Int),())])],vr:=[],az:=[(0,0,false)] })
def b0 (self:(Plain×Int)->P) (e0:Plain->P) (a1:A) (U:Plain×Int):P:=cond (decide (U.2 < ([((1:Int),(0:Int),((0:Int),(0:Int),(0:Int),([]:Byt),()),(0:Int),()),((2:Int),(1:Int),((0:Int),(1:Int),(8:Int),([]:Byt),()),(0:Int),()),((2:Int),(1:Int),((0:Int),(2:Int),(8:Int),([]:Byt),()),(0:Int),()),((7:Int),(1:Int),((0:Int),(0:Int),(0:Int),([]:Byt),()),(0:Int),()),((1:Int),(0:Int),((0:Int),(0:Int),(0:Int),([]:Byt),()),(0:Int),()),((1:Int),(0:Int),((0:Int),(0:Int),(0:Int),([]:Byt),()),(0:Int),())].length:Int))) (if 0<=U.2/\U.2 < ([((1:Int),(0:Int),((0:Int),(0:Int),(0:Int),([]:Byt),()),(0:Int),()),((2:Int),(1:Int),((0:Int),(1:Int),(8:Int),([]:Byt),()),(0:Int),()),((2:Int),(1:Int),((0:Int),(2:Int),(8:Int),([]:Byt),()),(0:Int),()),((7:Int),(1:Int),((0:Int),(0:Int),(0:Int),([]:Byt),()),(0:Int),()),((1:Int),(0:Int),((0:Int),(0:Int),(0:Int),([]:Byt),()),(0:Int),()),((1:Int),(0:Int),((0:Int),(0:Int),(0:Int),([]:Byt),()),(0:Int),())].length:Int) then (([((1:Int),(0:Int),((0:Int),(0:Int),(0:Int),([]:Byt),()),(0:Int),()),((2:Int),(1:Int),((0:Int),(1:Int),(8:Int),([]:Byt),()),(0:Int),()),((2:Int),(1:Int),((0:Int),(2:Int),(8:Int),([]:Byt),()),(0:Int),()),((7:Int),(1:Int),((0:Int),(0:Int),(0:Int),([]:Byt),()),(0:Int),()),((1:Int),(0:Int),((0:Int),(0:Int),(0:Int),([]:Byt),()),(0:Int),()),((1:Int),(0:Int),((0:Int),(0:Int),(0:Int),([]:Byt),()),(0:Int),())][U.2.toNat]?).bind λbg=>(lO.ab (U.1,bg,())).bind λbr=>self (br.1.2.2.1,ae (U.2+1))) else none)<|e0 U.1
theorem nT (rec:RT O) (K:KT O) (a1:A) (U:Plain×Int):D.N k [1,1,1,0,1,0,0] (T0 a1 U) (kU rec (iv [0,1,5,6,7] [(5,(.pair (.aa false (.pair .leaf (.pair .leaf (.pair .leaf (.pair .leaf .leaf))))) (.pair (.aa true (.pair .leaf (.pair (.aa false (.pair .leaf (.pair (.pair .leaf (.pair .leaf (.pair .leaf (.pair .leaf .leaf)))) (.pair .leaf (.pair (.pair .leaf (.pair .leaf (.pair .leaf (.pair .leaf .leaf)))) .leaf))))) (.pair (.aa false .leaf) (.pair (.aa false (.pair .leaf (.pair .leaf .leaf))) .leaf))))) (.pair .leaf .leaf))))]) K)=b0 (S0 rec a1) (dq K a1) a1 U:=Bye
def T1 (a1:A) (ll:fl×Plain×(List Op)×Int):St:={ n:=60,sl:=[(0,.box kZ (ah kZ) [] ll.1),(5,.box kE (ah kE) [] ll.2.1),(6,.own (.aa l7) (ai (.aa l7)) [] ll.2.2.1),(8,.val i64 ll.2.2.2)],vr:=[],az:=[(0,0,false)] }
def b1 (self:(fl×Plain×(List Op)×Int)->P) (e2:(fl×(List Op))->P) (a1:A) (ll:fl×Plain×(List Op)×Int):P:=cond (decide (0 < ll.2.2.2)) ((oY.ab (ll.1,ll.2.1.1,ll.2.1.2.1,())).bind λJS=>if ll.2.2.1.length+[JS.1].length<=be then ((lO.ab (ll.2.1,JS.1,())).bind λQz=>cond (decide (Qz.1.1=0)) (self (JS.2.1,Qz.1.2.2.1,ll.2.2.1++[JS.1],ae (ll.2.2.2 - 1)))<|self (JS.2.1,ll.2.1,ll.2.2.1++[JS.1],ae (ll.2.2.2 - 1))) else none)<|e2 (ll.1,ll.2.2.1)
def q1 (a1:A) (acY:(fl×(List Op))):P:=some (acY.2,acY.1,())
def s1 (a1:A):(fl×Plain×(List Op)×Int)->P:=λll=>D.L k [1,1,1,1,0,1,0,0] [0,5,6,8] [(5,Bte)] (ak 2 (ax (D.N k [1,1,1,1,1]) D.K0)) (T1 a1 ll)
def r1 (a1:A):(fl×Plain×(List Op)×Int)->P:=ao (λw v=>b1 w (q1 a1) a1 v) k
theorem nU (a1:A):s1 k a1=r1 k a1:=
 funext λll=>aq _ _ _ (T1 a1) _ (λrec v=>Bye) k ll
def q0 (l1:(fl×Plain×(List Op)×Int)->P) (a1:A) (fm:Plain):P:=(cb.ab (a1.1,a1.2.1,())).bind λfw=>l1 (fw.2.1,fm,[((1:Int),(0:Int),((0:Int),(0:Int),(0:Int),([]:Byt),()),(0:Int),()),((2:Int),(1:Int),((0:Int),(1:Int),(8:Int),([]:Byt),()),(0:Int),()),((2:Int),(1:Int),((0:Int),(2:Int),(8:Int),([]:Byt),()),(0:Int),()),((7:Int),(1:Int),((0:Int),(0:Int),(0:Int),([]:Byt),()),(0:Int),()),((1:Int),(0:Int),((0:Int),(0:Int),(0:Int),([]:Byt),()),(0:Int),()),((1:Int),(0:Int),((0:Int),(0:Int),(0:Int),([]:Byt),()),(0:Int),())],fw.1)
def Q0 (a1:A) (fm:Plain):P:=q0 (r1 k a1) a1 fm
theorem wa (a1:A) (fm:Plain):dq (ak 0 (ax (D.N k [1,1,1,1]) D.K0)) a1 fm=Q0 k a1 fm:=
 aV (b:=q0 (s1 k a1) a1 fm) Bye (by rw[nU];rfl)
def s0 (a1:A):(Plain×Int)->P:=λU=>D.L k [1,1,1,0,1,0,0] [0,1,5,6,7] [(5,(.pair Byc (.pair (.aa true Byy) (.pair .leaf .leaf))))] (ak 0 (ax (D.N k [1,1,1,1]) D.K0)) (T0 a1 U)
def r0 (a1:A):(Plain×Int)->P:=ao (λw v=>b0 w (Q0 k a1) a1 v) k
theorem av (a1:A):s0 k a1=r0 k a1:=by
 funext U;have h0:dq (ak 0 (ax (D.N k [1,1,1,1]) D.K0)) a1=Q0 k a1:=funext λz=>wa k a1 z;refine (aq _ _ _ (T0 a1) (λself v=>b0 self (dq (ak 0 (ax (D.N k [1,1,1,1]) D.K0)) a1) a1 v) (λrec v=>nT k rec (ak 0 (ax (D.N k [1,1,1,1]) D.K0)) a1 v) k U).trans ?_;rw[h0];rfl
def p (l0:(Plain×Int)->P) (a1:A):P:=l0 ((([]:List Row),([]:List Tx),1,()),0)
theorem af (a1:A):@Eq P (D.W k a1) (p (r0 k a1) a1):=
 aV (b:=p (s0 k a1) a1) Bye (by rw[av])
theorem ok:Ok prog 92 D.sig:=al func92 ap Bye (fc lO.ok (fc oY.ok (fc cb.ok (aj _))))
end kj
namespace oD
abbrev A:=Byt×Unit
abbrev O:=(List Op)×Unit
noncomputable def D:FD:={ fn:=f42,tl:=ba,ps:=[(.ro,(.aa u8))],rs:=[((.aa l7),(ai (.aa l7)))],gl:=[(65,of.D.sig),(69,sy.D.sig),(92,kj.D.sig),(93,cb.D.sig)] }
def ab (a:A):Option O:=@lift O λk=>D.W k a
def p (a1:A):Option O:=(of.ab (a1.1,())).bind λr2=>(kj.ab (r2.1,20,())).bind λr3=>(cb.ab (r3.2.1,10,())).bind λr4=>cond (decide (r4.1=0)) ((sy.ab (r4.2.1,())).bind λr5=>if r3.1.length+[r5.1].length<=be then (some (r3.1++[r5.1],())) else none)<|cond (decide (r4.1=1)) (if 0<=(61:Int)/\(61:Int)<=61/\61<=(be:Int) then (some (List.replicate 61 (0,0,(0,0,0,([]:Byt),()),0,()),())) else none)<|some (r3.1,())
theorem af (a1:A):@Eq (Option O) (D.W k a1) (p a1):=Bye
theorem ok:Ok prog 42 D.sig:=al func42 ap Bye (fc of.ok (fc sy.ok (fc kj.ok (fc cb.ok (aj _)))))
end oD
namespace pB
abbrev A:=Byt×Unit
abbrev O:=(List Op)×Unit
noncomputable def D:FD:={ fn:=f12,tl:=ba,ps:=[(.ro,(.aa u8))],rs:=[((.aa l7),(ai (.aa l7)))],gl:=[(42,oD.D.sig)] }
def ab (a:A):Option O:=@lift O λk=>D.W k a
def p (a1:A):Option O:=(oD.ab (a1.1,())).bind λr2=>some (r2.1,())
theorem af (a1:A):@Eq (Option O) (D.W k a1) (p a1):=Bye
theorem ok:Ok prog 12 D.sig:=al func12 ap Bye (fc oD.ok (aj _))
end pB
namespace rX
abbrev A:=Plain×Unit
abbrev O:=Plain×Unit
noncomputable def D:FD:={ fn:=f72,tl:=ba,ps:=[(.ro,kE)],rs:=[(kE,(ai kE))],gl:=[(87,h_.D.sig),(137,ju.D.sig)],od:=[(1,[0,1,3,4,6,7,2,5,8,9])] }
def ab (a:A):Option O:=@lift O λk=>D.W k a
def p (a1:A):Option O:=(ju.ab (a1.1.1,())).bind λr2=>(h_.ab (a1.1.2.1,())).bind λr3=>some ((r2.1,r3.1,a1.1.2.2.1,()),())
theorem af (a1:A):@Eq (Option O) (D.W k a1) (p a1):=Bye
theorem ok:Ok prog 72 D.sig:=al func72 ap Bye (fc h_.ok (fc ju.ok (aj _)))
end rX
namespace ke
abbrev A:=Plain×(List Change)×Unit
abbrev O:=Int×Plain×Unit
noncomputable def D:FD:={ fn:=f73,tl:=ba,ps:=[(.ii (.pair (ai (.aa ay)) (.pair (.aa true Btt) (ah (bq [i64])))) (.pair (ai (.aa ay)) (.pair (.aa true Btt) (ah (bq [i64])))),kE),(.ro,(.aa au))],rs:=[(i64,(ah i64))],gl:=[(138,gj.D.sig)],es:=[0] }
def ab (a:A):Option O:=@lift O λk=>D.W k a
def p (a1:A):Option O:=(gj.ab (a1.1.1,a1.2.1,())).bind λr2=>cond (decide (r2.1.1=0)) (some (r2.1.1,(r2.1.2.1,a1.1.2),()))<|some (r2.1.1,a1.1,())
theorem af (a1:A):@Eq (Option O) (D.W k a1) (p a1):=Bye
theorem ok:Ok prog 73 D.sig:=al func73 ap Bye (fc gj.ok (aj _))
end ke
namespace nu
abbrev A:=Plain×Op×Unit
abbrev O:=pe×Unit
noncomputable def D:FD:={ fn:=f31,tl:=ba,ps:=[(.ro,kE),(.ro,l7)],rs:=[(k_,(ai k_))],gl:=[(37,je.D.sig),(47,mw.D.sig),(72,rX.D.sig),(73,ke.D.sig),(74,kH.D.sig),(75,pT.D.sig),(76,np.D.sig)] }
def ab (a:A):Option O:=@lift O λk=>D.W k a
def p (a1:A):Option O:=(mw.ab (a1.1,())).bind λr2=>cond (!decide (r2.1=0)) (some ((r2.1,0,(([]:List Row),([]:List Tx),0,()),()),()))<|(je.ab (a1.1.1,a1.1.2.1,a1.2.1,())).bind λr3=>cond (!decide (r3.1.1=0)) (some ((r3.1.1,0,(([]:List Row),([]:List Tx),0,()),()),()))<|(rX.ab (a1.1,())).bind λr4=>cond (decide (a1.2.1.1=1)) (cond (decide (a1.1.2.2.1=100)) (some ((9,0,(([]:List Row),([]:List Tx),0,()),()),()))<|if r4.1.2.1.length+[(a1.1.2.2.1,([]:List Change),([]:List Int),([]:List Key),())].length<=be then (let y5:=r4.1.2.1++[(a1.1.2.2.1,([]:List Change),([]:List Int),([]:List Key),())];some ((0,a1.1.2.2.1,(r4.1.1,y5,ae (r4.1.2.2.1+1),r4.1.2.2.2),()),())) else none)<|cond r3.1.2.1 ((ke.ab (r4.1,[r3.1.2.2.1],())).bind λr6=>cond (!decide (r6.1=0)) (some ((r6.1,0,(([]:List Row),([]:List Tx),0,()),()),()))<|(kH.ab (a1.1.2.1,a1.2.1.2.1,r3.1.2.2.1,())).bind λr7=>cond (!decide (r7.1.1=0)) (some ((r7.1.1,0,(([]:List Row),([]:List Tx),0,()),()),()))<|some ((0,0,(r6.2.1.1,r7.1.2.1,r6.2.1.2.2),()),()))<|cond (decide (a1.2.1.1=5)) ((pT.ab (a1.1.2.1,a1.2.1.2.1,())).bind λr8=>some ((0,r8.2.1,(r4.1.1,r8.1,r4.1.2.2),()),()))<|cond (decide (a1.2.1.1=6)) ((np.ab (a1.1.2.1,a1.2.1,())).bind λr9=>(ke.ab (r4.1,r9.2.1,())).bind λqI=>cond (!decide (qI.1=0)) (some ((qI.1,0,(([]:List Row),([]:List Tx),0,()),()),()))<|some ((0,0,(qI.2.1.1,r9.1,qI.2.1.2.2),()),()))<|cond (decide (a1.2.1.1=8)) ((np.ab (a1.1.2.1,a1.2.1,())).bind λnJ=>(ke.ab (r4.1,nJ.2.1,())).bind λqb=>cond (!decide (qb.1=0)) (some ((qb.1,0,(([]:List Row),([]:List Tx),0,()),()),()))<|some ((0,0,(qb.2.1.1,nJ.1,qb.2.1.2.2),()),()))<|cond (decide (a1.2.1.1=7)) ((np.ab (a1.1.2.1,a1.2.1,())).bind λzg=>some ((0,0,(r4.1.1,zg.1,r4.1.2.2),()),()))<|some ((0,0,r4.1,()),())
theorem af (a1:A):@Eq (Option O) (D.W k a1) (p a1):=Bye
theorem ok:Ok prog 31 D.sig:=al func31 ap Bye (fc je.ok (fc mw.ok (fc rX.ok (fc ke.ok (fc kH.ok (fc pT.ok (fc np.ok (aj _))))))))
end nu
namespace mg
abbrev A:=(List Op)×Unit
abbrev O:=iu×Unit
abbrev P:=Option O
noncomputable def D:FD:={ fn:=f13,tl:=ba,ps:=[(.ro,(.aa l7))],rs:=[(qY,(ai qY))],gl:=[(31,nu.D.sig)],lv:=[(5,[2,3,13,14,15])],lx:=[(0,[2,3])] }
def ab (a:A):P:=@lift O λk=>D.W k a
variable (a1:A)
def T0 (U:iu×Int):St:={ n:=45,sl:=[(2,.box qY (ai qY) [] ((0:Int),([]:List Int),([]:List Int),(([]:List Row),([]:List Tx),(0:Int),()),())),(3,.box qY (ai qY) [] U.1),(13,.val (.aa l7) a1.1),(14,.val i64 (a1.1.length:Int)),(15,.val i64 U.2)],vr:=[],az:=[] }
def b0 (self:(iu×Int)->P) (e0:iu->P) (a1:A) (U:iu×Int):P:=cond (decide (U.2 < (a1.1.length:Int))) (if 0<=U.2 then ((a1.1[U.2.toNat]?).bind λbg=>(nu.ab (U.1.2.2.2.1,bg,())).bind λbr=>cond (decide (br.1.1=0)) (if U.1.2.1.length+[br.1.1].length<=be then (if U.1.2.2.1.length+[br.1.2.1].length<=be then (self ((U.1.1,U.1.2.1++[br.1.1],U.1.2.2.1++[br.1.2.1],br.1.2.2.1,U.1.2.2.2.2),ae (U.2+1))) else none) else none)<|if U.1.2.1.length+[br.1.1].length<=be then (if U.1.2.2.1.length+[br.1.2.1].length<=be then (self ((U.1.1,U.1.2.1++[br.1.1],U.1.2.2.1++[br.1.2.1],U.1.2.2.2),ae (U.2+1))) else none) else none) else none)<|e0 U.1
def q0 (a1:A) (fm:iu):P:=some (fm,())
def r0:(iu×Int)->P:=ao (λw v=>b0 w (q0 a1) a1 v) k
theorem av:@Eq ((iu×Int)->P) (λU=>D.L k [1,1,1,0,1,0,0] [2,3,13,14,15] [] (ak 0 (ax (D.N k [1,1,1,1]) D.K0)) (T0 a1 U)) (r0 k a1):=
 funext λU=>aq _ _ _ (T0 a1) _ (λrec v=>Bye) k U
def p (l0:(iu×Int)->P) (a1:A):P:=cond (decide (60 < (a1.1.length:Int))) (some ((2,([]:List Int),([]:List Int),(([]:List Row),([]:List Tx),0,()),()),()))<|l0 ((0,([]:List Int),([]:List Int),(([]:List Row),([]:List Tx),1,()),()),0)
theorem af:@Eq P (D.W k a1) (p (r0 k a1) a1):=By8 (av k a1) Bye
theorem ok:Ok prog 13 D.sig:=al func13 ap Bye (fc nu.ok (aj _))
end mg
namespace pC
abbrev A:=Byt×Unit
abbrev O:=Int×Unit
noncomputable def D:FD:={ fn:=f43,tl:=ba,ps:=[(.ro,(.aa u8))],rs:=[(i64,(ah i64))],gl:=[(65,of.D.sig),(94,di.D.sig)] }
def ab (a:A):Option O:=@lift O λk=>D.W k a
def p (a1:A):Option O:=(of.ab (a1.1,())).bind λr2=>(di.ab (r2.1,[(1:Int),(5:Int),(100:Int),(0:Int),(101:Int)],())).bind λr3=>some (r3.1,())
theorem af (a1:A):@Eq (Option O) (D.W k a1) (p a1):=Bye
theorem ok:Ok prog 43 D.sig:=al func43 ap Bye (fc of.ok (fc di.ok (aj _)))
end pC
namespace pD
abbrev A:=Byt×Unit
abbrev O:=Int×Unit
noncomputable def D:FD:={ fn:=f14,tl:=ba,ps:=[(.ro,(.aa u8))],rs:=[(i64,(ah i64))],gl:=[(43,pC.D.sig)] }
def ab (a:A):Option O:=@lift O λk=>D.W k a
def p (a1:A):Option O:=(pC.ab (a1.1,())).bind λr2=>some (r2.1,())
theorem af (a1:A):@Eq (Option O) (D.W k a1) (p a1):=Bye
theorem ok:Ok prog 14 D.sig:=al func14 ap Bye (fc pC.ok (aj _))
end pD
namespace pW
abbrev A:=Byt×Byt×Unit
abbrev O:=Bool×Unit
noncomputable def D:FD:={ fn:=f15,tl:=ba,ps:=[(.ro,(.aa u8)),(.ro,(.aa u8))],rs:=[(.bool,(ah .bool))] }
def ab (a:A):Option O:=@lift O λk=>D.W k a
def p (a1:A):Option O:=some (decide (a1.1=a1.2.1),())
theorem af (a1:A):@Eq (Option O) (D.W k a1) (p a1):=Bye
theorem ok:Ok prog 15 D.sig:=al func15 ap Bye (aj _)
end pW
namespace uB
abbrev A:=aw×Unit
abbrev O:=Byt×Unit
noncomputable def D:FD:={ fn:=f16,tl:=ba,ps:=[(.ro,e_)],rs:=[((.aa u8),(ai (.aa u8)))],od:=[(1,[1,2,3,5,6,7,0,4,8,9])],ar:=[(1,[3,7])],bx:=[(1,[1])] }
def ab (a:A):Option O:=@lift O λk=>D.W k a
def p (a1:A):Option O:=if ([]:Byt).length+a1.1.2.2.1.1.length<=be then (if (([]:Byt)++a1.1.2.2.1.1).length+a1.1.2.2.1.2.1.length<=be then (let y2:=(([]:Byt)++a1.1.2.2.1.1)++a1.1.2.2.1.2.1;some (y2,())) else none) else none
theorem af (a1:A):@Eq (Option O) (D.W k a1) (p a1):=Bye
theorem ok:Ok prog 16 D.sig:=al func16 ap Bye (aj _)
end uB
namespace nv
abbrev A:=(List Byt)×(List Byt)×Unit
abbrev O:=Bool×Unit
abbrev P:=Option O
noncomputable def D:FD:={ fn:=f17,tl:=ba,ps:=[(.ro,(.aa (.aa u8))),(.ro,(.aa (.aa u8)))],rs:=[(.bool,(ah .bool))],gl:=[(15,pW.D.sig)],lv:=[(4,[0,1,5])],lx:=[(0,[])],od:=[(6,[0,1,2,3,4,5,6,7,8,9])] }
def ab (a:A):P:=@lift O λk=>D.W k a
variable (a1:A)
def T0 (U:Int):St:={ n:=27,sl:=[(0,.val (.aa (.aa u8)) a1.1),(1,.val (.aa (.aa u8)) a1.2.1),(5,.val i64 U)],vr:=[],az:=[] }
def b0 (self:Int->P) (e0:(Unit)->P) (a1:A) (U:Int):P:=cond (decide (U < (a1.1.length:Int))) (if 0<=U then ((a1.1[U.toNat]?).bind λbg=>if 0<=U then ((a1.2.1[U.toNat]?).bind λpA=>(pW.ab (bg,pA,())).bind λfu=>cond (!fu.1) (some (false,()))<|self (ae (U+1))) else none) else none)<|e0 ()
def q0 (a1:A) (BZ:(Unit)):P:=some (true,())
def r0:(Int)->P:=ao (λw v=>b0 w (q0 a1) a1 v) k
theorem av:@Eq ((Int)->P) (λU=>D.L k [1,1,0,1,0,0] [0,1,5] [] (ak 0 (ax (D.N k [1,1,1]) D.K0)) (T0 a1 U)) (r0 k a1):=
 funext λU=>aq _ _ _ (T0 a1) _ (λrec v=>Bye) k U
def p (l0:(Int)->P) (a1:A):P:=cond (!decide ((a1.1.length:Int)=(a1.2.1.length:Int))) (some (false,()))<|l0 0
theorem af:@Eq P (D.W k a1) (p (r0 k a1) a1):=By8 (av k a1) Bye
theorem ok:Ok prog 17 D.sig:=al func17 ap Bye (fc pW.ok (aj _))
end nv
namespace eh
abbrev A:=Byt×Unit
abbrev O:=Int×Unit
noncomputable def D:FD:={ fn:=f207,tl:=ba,ps:=[(.ro,(.aa u8))],rs:=[(i64,(ah i64))] }
def ab (a:A):Option O:=@lift O λk=>D.W k a
def p (a1:A):Option O:=(a1.1[0]?).bind λx2=>some (ae (x2.toNat:Int),())
theorem af (a1:A):@Eq (Option O) (D.W k a1) (p a1):=Bye
theorem ok:Ok prog 207 D.sig:=al func207 ap Bye (aj _)
end eh
namespace fa
abbrev A:=Byt×Int×Unit
abbrev O:=Int×Unit
noncomputable def D:FD:={ fn:=f208,tl:=ba,ps:=[(.ro,(.aa u8)),(.ro,i64)],rs:=[(i64,(ah i64))] }
def ab (a:A):Option O:=@lift O λk=>D.W k a
def p (a1:A):Option O:=if 0<=ae (3+(ae (2*a1.2.1))) then ((a1.1[(ae ((3:Int)+(ae ((2:Int)*a1.2.1)))).toNat]?).bind λx2=>some (ae (x2.toNat:Int),())) else none
theorem af (a1:A):@Eq (Option O) (D.W k a1) (p a1):=Bye
theorem ok:Ok prog 208 D.sig:=al func208 ap Bye (aj _)
end fa
namespace tU
abbrev A:=Int×Int×Unit
abbrev O:=Bool×Unit
noncomputable def D:FD:={ fn:=f265,tl:=ba,ps:=[(.ro,i64),(.ro,i64)],rs:=[(.bool,(ah .bool))],gl:=[(46,cc.D.sig)] }
def ab (a:A):Option O:=@lift O λk=>D.W k a
def p (a1:A):Option O:=(cc.ab (a1.1,0,11,())).bind λr2=>cond r2.1 ((cc.ab (a1.2.1,0,15,())).bind λr3=>some (r3.1,()))<|some (false,())
theorem af (a1:A):@Eq (Option O) (D.W k a1) (p a1):=Bye
theorem ok:Ok prog 265 D.sig:=al func265 ap Bye (fc cc.ok (aj _))
end tU
namespace pX
abbrev A:=Byt×Unit
abbrev O:=uw×Bool×Unit
noncomputable def D:FD:={ fn:=f209,tl:=ba,ps:=[(.ro,(.aa u8))],rs:=[(tw,(ah tw)),(.bool,(ah .bool))],gl:=[(186,g_.D.sig),(265,tU.D.sig)],od:=[(2,[0,1,2,3,4,5,6,7,8,9,10]),(3,[0,1,2,3,4,5,6,7]),(6,[0,1,2,3,4,5,6,7,8,9,10,11,12,13,14,15,16,17,18,19,20,21,22,23]),(7,[0,1,2,3,4,5,6,7,8,9])] }
def ab (a:A):Option O:=@lift O λk=>D.W k a
def p (a1:A):Option O:=let j16:Option O:=cond (decide ((a1.1.length:Int) < 6)) (some ((0,0,0,0,(0,0,0,([]:Byt),()),()),false,()))<|(a1.1[0]?).bind λx17=>cond (decide ((x17.toNat:Int)=1)) (some ((0,0,0,0,(0,0,0,([]:Byt),()),()),false,()))<|(a1.1[0]?).bind λx18=>cond (decide (2 < (x18.toNat:Int))) (some ((0,0,0,0,(0,0,0,([]:Byt),()),()),false,()))<|(a1.1[5]?).bind λVo=>cond (!decide ((a1.1.length:Int)=ae (6+(ae (Vo.toNat:Int))))) (some ((0,0,0,0,(0,0,0,([]:Byt),()),()),false,()))<|(a1.1[1]?).bind λVp=>(a1.1[2]?).bind λZt=>(a1.1[3]?).bind λZu=>(a1.1[4]?).bind λx23=>if 0<=(6:Int)/\6<=(a1.1.length:Int) then (let y24:=ae ((ae ((ae (Zu.toNat:Int))*256))+(ae (x23.toNat:Int)));(a1.1[0]?).bind λZv=>(g_.ab ((ae (Vp.toNat:Int),ae (Zt.toNat:Int),y24,(a1.1.take a1.1.length).drop 6,()),())).bind λMN=>some ((0,ae (Zv.toNat:Int),0,0,(ae (Vp.toNat:Int),ae (Zt.toNat:Int),y24,(a1.1.take a1.1.length).drop 6,()),()),decide (MN.1=0),())) else none;cond (decide ((a1.1.length:Int)=3)) ((a1.1[0]?).bind λx2=>cond (decide ((x2.toNat:Int)=1)) ((a1.1[1]?).bind λx3=>(a1.1[2]?).bind λx4=>(tU.ab (ae (x3.toNat:Int),ae (x4.toNat:Int),())).bind λr5=>some ((0,1,ae (x3.toNat:Int),ae (x4.toNat:Int),(0,0,0,([]:Byt),()),()),r5.1,()))<|j16)<|j16
theorem af (a1:A):@Eq (Option O) (D.W k a1) (p a1):=Bye
theorem ok:Ok prog 209 D.sig:=al func209 ap Bye (fc g_.ok (fc tU.ok (aj _)))
end pX
namespace o4
abbrev A:=Byt×Int×Unit
abbrev O:=Int×Unit
noncomputable def D:FD:={ fn:=f266,tl:=ba,ps:=[(.ro,(.aa u8)),(.ro,i64)],rs:=[(i64,(ah i64))] }
def ab (a:A):Option O:=@lift O λk=>D.W k a
def p (a1:A):Option O:=if 0<=ae (2+(ae (2*a1.2.1))) then ((a1.1[(ae ((2:Int)+(ae ((2:Int)*a1.2.1)))).toNat]?).bind λx2=>some (ae (x2.toNat:Int),())) else none
theorem af (a1:A):@Eq (Option O) (D.W k a1) (p a1):=Bye
theorem ok:Ok prog 266 D.sig:=al func266 ap Bye (aj _)
end o4
namespace nA
abbrev A:=Byt×Int×Unit
abbrev O:=Byt×Unit
noncomputable def D:FD:={ fn:=f210,tl:=ba,ps:=[(.ro,(.aa u8)),(.ro,i64)],rs:=[((.aa u8),(ai (.aa u8)))],gl:=[(208,fa.D.sig),(266,o4.D.sig)] }
def ab (a:A):Option O:=@lift O λk=>D.W k a
def p (a1:A):Option O:=(o4.ab (a1.1,a1.2.1,())).bind λr2=>(fa.ab (a1.1,a1.2.1,())).bind λr3=>if 0<=r2.1/\r2.1<=ae (r2.1+r3.1)/\ae (r2.1+r3.1)<=(a1.1.length:Int) then (if ([]:Byt).length+((a1.1.take (ae (r2.1+r3.1)).toNat).drop r2.1.toNat).length<=be then (let y4:=([]:Byt)++((a1.1.take (ae (r2.1+r3.1)).toNat).drop r2.1.toNat);some (y4,())) else none) else none
theorem af (a1:A):@Eq (Option O) (D.W k a1) (p a1):=Bye
theorem ok:Ok prog 210 D.sig:=al func210 ap Bye (fc fa.ok (fc o4.ok (aj _)))
end nA
namespace it
abbrev A:=(List Byt)×Unit
abbrev O:=(List bd)×Unit
abbrev P:=Option O
noncomputable def D:FD:={ fn:=f134,tl:=ba,ps:=[(.ro,(.aa (.aa u8)))],rs:=[((.aa ls),(ai (.aa ls)))],gl:=[(207,eh.D.sig),(208,fa.D.sig),(209,pX.D.sig),(210,nA.D.sig)],lv:=[(3,[0,3,4]),(6,[0,3,4,5])],lx:=[(0,[3]),(2,[0,3,4])] }
def ab (a:A):P:=@lift O λk=>D.W k a
def T0 (a1:A) (U:(List Byt)×(List bd)×Int):St:={ n:=49,sl:=[(0,.val (.aa (.aa u8)) U.1),(3,.own (.aa ls) (ai (.aa ls)) [] U.2.1),(4,.val i64 U.2.2)],vr:=[],az:=[] }
def S0 (rec:RT O) (a1:A):((List Byt)×(List bd)×Int)->P:=λU=>rec (T0 a1 U)
def dq (K:KT O) (a1:A):(List bd)->P:=λz=>K (.exit 0) ({ n:=49,sl:=[(3,.own (.aa ls) (ai (.aa ls)) [] z)],vr:=[],az:=[] })
def T1 (a1:A) (oq:List Byt) (fd:Int) (oJ:(List bd)×Int):St:={ n:=49,sl:=[(0,.val (.aa (.aa u8)) oq),(3,.own (.aa ls) (ai (.aa ls)) [] oJ.1),(4,.val i64 fd),(5,.val i64 oJ.2)],vr:=[],az:=[] }
def b1 (self:((List bd)×Int)->P) (e2:(List bd)->P) (a1:A) (oq:List Byt) (fd:Int) (oJ:(List bd)×Int):P:=if 0<=fd then ((oq[fd.toNat]?).bind λGD=>(eh.ab (GD,())).bind λXb=>cond (decide (oJ.2 < Xb.1)) (if 0<=fd then ((oq[fd.toNat]?).bind λXl=>(fa.ab (Xl,oJ.2,())).bind λQz=>cond (decide (0 < Qz.1)) (if 0<=fd then ((oq[fd.toNat]?).bind λGH=>(nA.ab (GH,oJ.2,())).bind λW5=>(pX.ab (W5.1,())).bind λQt=>if oJ.1.length+[(fd,oJ.2,Qt.1,())].length<=be then (let W2:=oJ.1++[(fd,oJ.2,Qt.1,())];self (W2,ae (oJ.2+1))) else none) else none)<|self (oJ.1,ae (oJ.2+1))) else none)<|e2 oJ.1) else none
def q0 (self:((List Byt)×(List bd)×Int)->P) (e0:(List bd)->P) (a1:A) (oq:List Byt) (fd:Int) (JQ:(List bd)):P:=self (oq,JQ,ae (fd+1))
def s1 (rec:RT O) (K:KT O) (a1:A):(List Byt)->Int->((List bd)×Int)->P:=λoq fd=>λoJ=>D.L k [1,1,0,1,0,0,1,0,0,1,0,0] [0,3,4,5] [] (ak 2 (ak 1 (ax (D.N k [1,1,0,1,0,0,1,1]) (kU rec (iv [0,3,4] []) K)))) (T1 a1 oq fd oJ)
def r1 (self:((List Byt)×(List bd)×Int)->P) (e0:(List bd)->P) (a1:A):(List Byt)->Int->((List bd)×Int)->P:=λoq fd=>ao (λw v=>b1 w (q0 self e0 a1 oq fd) a1 oq fd v) k
theorem nU (rec:RT O) (K:KT O) (a1:A):s1 k rec K a1=r1 k (S0 rec a1) (dq K a1) a1:=
 funext λoq=>funext λfd=>funext λoJ=>aq _ _ _ (T1 a1 oq fd) _ (λrec v=>Bye) k oJ
def b0 (self:((List Byt)×(List bd)×Int)->P) (e0:(List bd)->P) (l1:(List Byt)->Int->((List bd)×Int)->P) (a1:A) (U:(List Byt)×(List bd)×Int):P:=cond (decide (U.2.2 < (U.1.length:Int))) (l1 U.1 U.2.2 (U.2.1,0))<|e0 U.2.1
def B0 (self:((List Byt)×(List bd)×Int)->P) (e0:(List bd)->P) (a1:A) (U:(List Byt)×(List bd)×Int):P:=b0 self e0 (r1 k self e0 a1) a1 U
theorem nT (rec:RT O) (K:KT O) (a1:A) (U:(List Byt)×(List bd)×Int):D.N k [1,1,0,1,0,0] (T0 a1 U) (kU rec (iv [0,3,4] []) K)=B0 k (S0 rec a1) (dq K a1) a1 U:=
 aV (b:=b0 (S0 rec a1) (dq K a1) (s1 k rec K a1) a1 U) Bye (by rw[nU];rfl)
def q1 (a1:A) (QA:(List bd)):P:=some (QA,())
theorem tc (a1:A) (QA:(List bd)):dq (ak 0 (ax (D.N k [1,1,1]) D.K0)) a1 QA=q1 a1 QA:=Bye
def s0 (a1:A):((List Byt)×(List bd)×Int)->P:=λU=>D.L k [1,1,0,1,0,0] [0,3,4] [] (ak 0 (ax (D.N k [1,1,1]) D.K0)) (T0 a1 U)
def r0 (a1:A):((List Byt)×(List bd)×Int)->P:=ao (λw v=>B0 k w (q1 a1) a1 v) k
theorem av (a1:A):s0 k a1=r0 k a1:=by
 funext U;have h0:dq (ak 0 (ax (D.N k [1,1,1]) D.K0)) a1=q1 a1:=funext λz=>tc k a1 z;refine (aq _ _ _ (T0 a1) (λself v=>B0 k self (dq (ak 0 (ax (D.N k [1,1,1]) D.K0)) a1) a1 v) (λrec v=>nT k rec (ak 0 (ax (D.N k [1,1,1]) D.K0)) a1 v) k U).trans ?_;rw[h0];rfl
def p (l0:((List Byt)×(List bd)×Int)->P) (a1:A):P:=l0 (a1.1,([]:List bd),0)
theorem af (a1:A):@Eq P (D.W k a1) (p (r0 k a1) a1):=
 aV (b:=p (s0 k a1) a1) Bye (by rw[av])
theorem ok:Ok prog 134 D.sig:=al func134 ap Bye (fc eh.ok (fc fa.ok (fc pX.ok (fc nA.ok (aj _)))))
end it
namespace uC
abbrev A:=Byt×Int×Unit
abbrev O:=Bool×Unit
noncomputable def D:FD:={ fn:=f250,tl:=ba,ps:=[(.ro,(.aa u8)),(.ro,i64)],rs:=[(.bool,(ah .bool))],gl:=[(46,cc.D.sig),(207,eh.D.sig),(208,fa.D.sig)] }
def ab (a:A):Option O:=@lift O λk=>D.W k a
def p (a1:A):Option O:=(eh.ab (a1.1,())).bind λr2=>(cc.ab (a1.2.1,0,ae (r2.1 - 1),())).bind λr3=>cond r3.1 ((fa.ab (a1.1,a1.2.1,())).bind λr4=>some (decide (0 < r4.1),()))<|some (false,())
theorem af (a1:A):@Eq (Option O) (D.W k a1) (p a1):=Bye
theorem ok:Ok prog 250 D.sig:=al func250 ap Bye (fc cc.ok (fc eh.ok (fc fa.ok (aj _))))
end uC
namespace sf
abbrev A:=(List Byt)×Int×Int×Unit
abbrev O:=uw×Bool×Unit
noncomputable def D:FD:={ fn:=f192,tl:=ba,ps:=[(.ro,(.aa (.aa u8))),(.ro,i64),(.ro,i64)],rs:=[(tw,(ah tw)),(.bool,(ah .bool))],gl:=[(46,cc.D.sig),(209,pX.D.sig),(210,nA.D.sig),(250,uC.D.sig)] }
def ab (a:A):Option O:=@lift O λk=>D.W k a
def p (a1:A):Option O:=(cc.ab (a1.2.1,0,ae ((a1.1.length:Int) - 1),())).bind λr2=>cond (!r2.1) (some ((0,0,0,0,(0,0,0,([]:Byt),()),()),false,()))<|if 0<=a1.2.1 then ((a1.1[a1.2.1.toNat]?).bind λx3=>(uC.ab (x3,a1.2.2.1,())).bind λr4=>cond (!r4.1) (some ((0,0,0,0,(0,0,0,([]:Byt),()),()),false,()))<|if 0<=a1.2.1 then ((a1.1[a1.2.1.toNat]?).bind λx5=>(nA.ab (x5,a1.2.2.1,())).bind λr6=>(pX.ab (r6.1,())).bind λr7=>some (r7.1,r7.2.1,())) else none) else none
theorem af (a1:A):@Eq (Option O) (D.W k a1) (p a1):=Bye
theorem ok:Ok prog 192 D.sig:=al func192 ap Bye (fc cc.ok (fc pX.ok (fc nA.ok (fc uC.ok (aj _)))))
end sf
namespace lZ
abbrev A:=(List Byt)×Unit
abbrev O:=(List bd)×Unit
abbrev P:=Option O
noncomputable def D:FD:={ fn:=f115,tl:=ba,ps:=[(.ro,(.aa (.aa u8)))],rs:=[((.aa ls),(ai (.aa ls)))],gl:=[(134,it.D.sig),(192,sf.D.sig)],lv:=[(4,[0,3,4,5])],lx:=[(0,[3]),(1,[0,3,4,5])] }
def ab (a:A):P:=@lift O λk=>D.W k a
variable (a1:A)
def T0 (dy:List bd) (bv:(List bd)×Int):St:={ n:=50,sl:=[(0,.val (.aa (.aa u8)) a1.1),(3,.own (.aa ls) (ai (.aa ls)) [] bv.1),(4,.own (.aa ls) (ai (.aa ls)) [] dy),(5,.val i64 bv.2)],vr:=[],az:=[] }
def b0 (self:((List bd)×Int)->P) (e0:(List bd)->P) (a1:A) (dy:List bd) (bv:(List bd)×Int):P:=cond (decide (bv.2 < (dy.length:Int))) (if 0<=bv.2/\bv.2 < (dy.length:Int) then ((dy[bv.2.toNat]?).bind λiz=>cond (decide (iz.2.2.1.2.1=2)) (self (bv.1,ae (bv.2+1)))<|let Sf:=λ(afq:bd)=>(if bv.1.length+[afq].length<=be then (self (bv.1++[afq],ae (bv.2+1))) else none:P);cond (decide (iz.2.2.1.2.1=1)) ((sf.ab (a1.1,iz.2.2.1.2.2.1,iz.2.2.1.2.2.2.1,())).bind λfw=>Sf (iz.1,iz.2.1,(iz.2.2.1.1,iz.2.2.1.2.1,iz.2.2.1.2.2.1,iz.2.2.1.2.2.2.1,fw.1.2.2.2.2.1,iz.2.2.1.2.2.2.2.2),iz.2.2.2))<|Sf iz) else none)<|e0 bv.1
def q0 (a1:A) (dy:List bd) (ah6:(List bd)):P:=some (ah6,())
def r0:(List bd)->((List bd)×Int)->P:=λdy=>ao (λw v=>b0 w (q0 a1 dy) a1 dy v) k
theorem av:@Eq ((List bd)->((List bd)×Int)->P) (λdy=>λbv=>D.L k [1,1,1,0,1,0,0] [0,3,4,5] [] (ak 0 (ax (D.N k [1,1,1,1]) D.K0)) (T0 a1 dy bv)) (r0 k a1):=
 funext λdy=>funext λbv=>aq _ _ _ (T0 a1 dy) _ (λrec v=>Bye) k bv
def p (l0:(List bd)->((List bd)×Int)->P) (a1:A):P:=(it.ab (a1.1,())).bind λr2=>l0 r2.1 (([]:List bd),0)
theorem af:@Eq P (D.W k a1) (p (r0 k a1) a1):=By8 (av k a1) Bye
theorem ok:Ok prog 115 D.sig:=al func115 ap Bye (fc it.ok (fc sf.ok (aj _)))
end lZ
namespace mh
abbrev A:=(List Byt)×Unit
abbrev O:=(List Row)×Unit
abbrev P:=Option O
noncomputable def D:FD:={ fn:=f54,tl:=ba,ps:=[(.ro,(.aa (.aa u8)))],rs:=[((.aa ay),(ai (.aa ay)))],gl:=[(115,lZ.D.sig),(116,mA.D.sig)],lv:=[(4,[3,4,5])],lx:=[(0,[3])] }
def ab (a:A):P:=@lift O λk=>D.W k a
variable (a1:A)
def T0 (a1:A) (dy:List bd) (bv:(List Row)×Int):St:={ n:=24,sl:=[(3,.own (.aa ay) (ai (.aa ay)) [] bv.1),(4,.own (.aa ls) (ai (.aa ls)) [] dy),(5,.val i64 bv.2)],vr:=[],az:=[] }
def b0 (self:((List Row)×Int)->P) (e0:(List Row)->P) (a1:A) (dy:List bd) (bv:(List Row)×Int):P:=cond (decide (bv.2 < (dy.length:Int))) (if 0<=bv.2/\bv.2 < (dy.length:Int) then ((dy[bv.2.toNat]?).bind λiz=>(mA.ab (bv.1,iz.2.2.1.2.2.2.2.1,())).bind λfw=>self (fw.1,ae (bv.2+1))) else none)<|e0 bv.1
def q0 (a1:A) (dy:List bd) (oM:(List Row)):P:=some (oM,())
def r0:(List bd)->((List Row)×Int)->P:=λdy=>ao (λw v=>b0 w (q0 a1 dy) a1 dy v) k
theorem av:@Eq ((List bd)->((List Row)×Int)->P) (λdy=>λbv=>D.L k [1,1,1,0,1,0,0] [3,4,5] [] (ak 0 (ax (D.N k [1,1,1,1]) D.K0)) (T0 a1 dy bv)) (r0 k a1):=
 funext λdy=>funext λbv=>aq _ _ _ (T0 a1 dy) _ (λrec v=>Bye) k bv
def p (l0:(List bd)->((List Row)×Int)->P) (a1:A):P:=(lZ.ab (a1.1,())).bind λr2=>l0 r2.1 (([]:List Row),0)
theorem af:@Eq P (D.W k a1) (p (r0 k a1) a1):=By8 (av k a1) Bye
theorem ok:Ok prog 54 D.sig:=al func54 ap Bye (fc lZ.ok (fc mA.ok (aj _)))
end mh
namespace sg
abbrev A:=Int×Unit
abbrev O:=pc×Unit
noncomputable def D:FD:={ fn:=f71,tl:=ba,ps:=[(.ro,i64)],rs:=[(lJ,(ai lJ))] }
def ab (a:A):Option O:=@lift O λk=>D.W k a
def p (a1:A):Option O:=some ((a1.1,0,(false,([]:List Byt),(([]:Byt),([]:Byt),()),([]:List Tx),0,()),()),())
theorem af (a1:A):@Eq (Option O) (D.W k a1) (p a1):=Bye
theorem ok:Ok prog 71 D.sig:=al func71 ap Bye (aj _)
end sg
namespace db
abbrev A:=Byt×Unit
abbrev O:=Byt×Unit
noncomputable def D:FD:={ fn:=f185,tl:=ba,ps:=[(.ro,(.aa u8))],rs:=[((.aa u8),(ai (.aa u8)))] }
def ab (a:A):Option O:=@lift O λk=>D.W k a
def p (a1:A):Option O:=if ([]:Byt).length+a1.1.length<=be then (some (([]:Byt)++a1.1,())) else none
theorem af (a1:A):@Eq (Option O) (D.W k a1) (p a1):=Bye
theorem ok:Ok prog 185 D.sig:=al func185 ap Bye (aj _)
end db
namespace kN
abbrev A:=(List Byt)×Unit
abbrev O:=(List Byt)×Unit
abbrev P:=Option O
noncomputable def D:FD:={ fn:=f168,tl:=ba,ps:=[(.ro,(.aa (.aa u8)))],rs:=[((.aa (.aa u8)),(ai (.aa (.aa u8))))],gl:=[(185,db.D.sig)],lv:=[(3,[0,3,4])],lx:=[(0,[3])] }
def ab (a:A):P:=@lift O λk=>D.W k a
variable (a1:A)
def T0 (U:(List Byt)×Int):St:={ n:=21,sl:=[(0,.val (.aa (.aa u8)) a1.1),(3,.own (.aa (.aa u8)) (ai (.aa (.aa u8))) [] U.1),(4,.val i64 U.2)],vr:=[],az:=[] }
def b0 (self:((List Byt)×Int)->P) (e0:(List Byt)->P) (a1:A) (U:(List Byt)×Int):P:=cond (decide (U.2 < (a1.1.length:Int))) (if 0<=U.2 then ((a1.1[U.2.toNat]?).bind λbg=>(db.ab (bg,())).bind λbr=>if U.1.length+[br.1].length<=be then (self (U.1++[br.1],ae (U.2+1))) else none) else none)<|e0 U.1
def q0 (a1:A) (fm:(List Byt)):P:=some (fm,())
def r0:((List Byt)×Int)->P:=ao (λw v=>b0 w (q0 a1) a1 v) k
theorem av:@Eq (((List Byt)×Int)->P) (λU=>D.L k [1,1,0,1,0,0] [0,3,4] [] (ak 0 (ax (D.N k [1,1,1]) D.K0)) (T0 a1 U)) (r0 k a1):=
 funext λU=>aq _ _ _ (T0 a1) _ (λrec v=>Bye) k U
def p (l0:((List Byt)×Int)->P) (a1:A):P:=l0 (([]:List Byt),0)
theorem af:@Eq P (D.W k a1) (p (r0 k a1) a1):=By8 (av k a1) Bye
theorem ok:Ok prog 168 D.sig:=al func168 ap Bye (fc db.ok (aj _))
end kN
namespace oy
abbrev A:=Log×Unit
abbrev O:=Log×Unit
noncomputable def D:FD:={ fn:=f169,tl:=ba,ps:=[(.ro,ma)],rs:=[(ma,(ai ma))],gl:=[(185,db.D.sig)],od:=[(1,[0,1,3,4,2,5,6,7])] }
def ab (a:A):Option O:=@lift O λk=>D.W k a
def p (a1:A):Option O:=(db.ab (a1.1.1,())).bind λr2=>(db.ab (a1.1.2.1,())).bind λr3=>some ((r2.1,r3.1,()),())
theorem af (a1:A):@Eq (Option O) (D.W k a1) (p a1):=Bye
theorem ok:Ok prog 169 D.sig:=al func169 ap Bye (fc db.ok (aj _))
end oy
namespace tV
abbrev A:=aw×Unit
abbrev O:=aw×Unit
noncomputable def D:FD:={ fn:=f96,tl:=ba,ps:=[(.ro,e_)],rs:=[(e_,(ai e_))],gl:=[(168,kN.D.sig),(169,oy.D.sig),(170,ky.D.sig)],od:=[(1,[0,1,2,3,5,6,8,9,11,12,4,7,10,13,14])] }
def ab (a:A):Option O:=@lift O λk=>D.W k a
def p (a1:A):Option O:=(kN.ab (a1.1.2.1,())).bind λr2=>(oy.ab (a1.1.2.2.1,())).bind λr3=>(ky.ab (a1.1.2.2.2.1,())).bind λr4=>some ((a1.1.1,r2.1,r3.1,r4.1,a1.1.2.2.2.2.1,()),())
theorem af (a1:A):@Eq (Option O) (D.W k a1) (p a1):=Bye
theorem ok:Ok prog 96 D.sig:=al func96 ap Bye (fc kN.ok (fc oy.ok (fc ky.ok (aj _))))
end tV
namespace qN
abbrev A:=Log×Unit
abbrev O:=Log×Unit
noncomputable def D:FD:={ fn:=f131,tl:=ba,ps:=[(.ro,ma)],rs:=[(ma,(ai ma))],gl:=[(185,db.D.sig)],od:=[(1,[0,1,3,4,2,5,6,7])] }
def ab (a:A):Option O:=@lift O λk=>D.W k a
def p (a1:A):Option O:=(db.ab (a1.1.1,())).bind λr2=>if r2.1.length+a1.1.2.1.length<=be then (some ((r2.1++a1.1.2.1,([]:Byt),()),())) else none
theorem af (a1:A):@Eq (Option O) (D.W k a1) (p a1):=Bye
theorem ok:Ok prog 131 D.sig:=al func131 ap Bye (fc db.ok (aj _))
end qN
namespace rq
abbrev A:=Byt×Unit
abbrev O:=Int×Unit
abbrev P:=Option O
noncomputable def D:FD:={ fn:=f310,tl:=ba,ps:=[(.ro,(.aa u8))],rs:=[(i64,(ah i64))],lv:=[(3,[0,3,4])],lx:=[(0,[3])] }
def ab (a:A):P:=@lift O λk=>D.W k a
variable (a1:A)
def T0 (U:Int×Int):St:={ n:=21,sl:=[(0,.val (.aa u8) a1.1),(3,.val i64 U.1),(4,.val i64 U.2)],vr:=[],az:=[] }
def b0 (self:(Int×Int)->P) (e0:Int->P) (a1:A) (U:Int×Int):P:=cond (decide (U.2 < (a1.1.length:Int))) (if 0<=U.2 then ((a1.1[U.2.toNat]?).bind λbg=>self ((ae ((ae (U.1*31))+(ae (bg.toNat:Int)))).tmod 65521,ae (U.2+1))) else none)<|e0 U.1
def q0 (a1:A) (qf:Int):P:=some (qf,())
def r0:(Int×Int)->P:=ao (λw v=>b0 w (q0 a1) a1 v) k
theorem av:@Eq ((Int×Int)->P) (λU=>D.L k [1,1,0,1,0,0] [0,3,4] [] (ak 0 (ax (D.N k [1,1,1]) D.K0)) (T0 a1 U)) (r0 k a1):=
 funext λU=>aq _ _ _ (T0 a1) _ (λrec v=>Bye) k U
def p (l0:(Int×Int)->P) (a1:A):P:=l0 (1,0)
theorem af:@Eq P (D.W k a1) (p (r0 k a1) a1):=By8 (av k a1) Bye
theorem ok:Ok prog 310 D.sig:=al func310 ap Bye (aj _)
end rq
namespace nB
abbrev A:=bz×Unit
abbrev O:=Byt×Unit
abbrev P:=Option O
noncomputable def D:FD:={ fn:=f279,tl:=ba,ps:=[(.ro,(.ptr jW))],rs:=[((.aa u8),(ai (.aa u8)))],gl:=[(310,rq.D.sig)],lv:=[(3,[0,3,4])],lx:=[(0,[3])],od:=[(1,[0,1,2,3,4,5,6,7,8,9,10,11,12,13,14,15,16,17,18,19,20,21,22]),(5,[0,1,2,3,4,5,6,7,8,9,10,11,12,13,14,15,16,17,18,19,22,23,24,25,26,27,28,29,20,21,30,31])],ar:=[(5,[4,8,9,13,17,19,25,29])] }
def ab (a:A):P:=@lift O λk=>D.W k a
variable (a1:A)
def T0 (U:Byt×Int):St:={ n:=85,sl:=[(0,.cp jW a1.1),(3,.own (.aa u8) (ai (.aa u8)) [] U.1),(4,.val i64 U.2)],vr:=[],az:=[] }
def b0 (self:(Byt×Int)->P) (e0:Byt->P) (a1:A) (U:Byt×Int):P:=cond (decide (U.2 < (a1.1.2.2.2.1.length:Int))) (if 0<=U.2 then ((a1.1.2.2.2.1[U.2.toNat]?).bind λbg=>if 0<=U.2 then ((a1.1.2.2.2.1[U.2.toNat]?).bind λpA=>if 0<=U.2 then ((a1.1.2.2.2.1[U.2.toNat]?).bind λiz=>if U.1.length+[UInt8.ofInt bg.1,UInt8.ofInt (pA.2.1.length:Int)].length<=be then (let Of:=U.1++[UInt8.ofInt bg.1,UInt8.ofInt (pA.2.1.length:Int)];if Of.length+iz.2.1.length<=be then (self (Of++iz.2.1,ae (U.2+1))) else none) else none) else none) else none) else none)<|e0 U.1
def q0 (a1:A) (oM:Byt):P:=if 0<=(0:Int)/\0 < (oM.length:Int) then ((oM[0]?).bind λpR=>let Ld:=oM.set 0 (UInt8.ofInt (ae ((oM.length:Int)+2)));(rq.ab (Ld,())).bind λtP=>if Ld.length+[UInt8.ofInt (ae (tP.1.tdiv (256:Int))),UInt8.ofInt (tP.1.tmod (256:Int))].length<=be then (let R_:=Ld++[UInt8.ofInt (ae (tP.1.tdiv (256:Int))),UInt8.ofInt (tP.1.tmod (256:Int))];some (R_,())) else none) else none
def r0:(Byt×Int)->P:=ao (λw v=>b0 w (q0 a1) a1 v) k
theorem av:@Eq ((Byt×Int)->P) (λU=>D.L k [1,1,0,1,0,0] [0,3,4] [] (ak 0 (ax (D.N k [1,1,1]) D.K0)) (T0 a1 U)) (r0 k a1):=
 funext λU=>aq _ _ _ (T0 a1) _ (λrec v=>Bye) k U
def p (l0:(Byt×Int)->P) (a1:A):P:=l0 ([(0:UInt8),UInt8.ofInt a1.1.1,UInt8.ofInt a1.1.2.1,UInt8.ofInt a1.1.2.2.1,UInt8.ofInt (a1.1.2.2.2.1.length:Int)],0)
theorem af:@Eq P (D.W k a1) (p (r0 k a1) a1):=By8 (av k a1) Bye
theorem ok:Ok prog 279 D.sig:=al func279 ap Bye (fc rq.ok (aj _))
end nB
namespace ol
abbrev A:=Log×bz×Unit
abbrev O:=Log×Bool×Unit
noncomputable def D:FD:={ fn:=f276,tl:=ba,ps:=[(.ro,ma),(.ro,(.ptr jW))],rs:=[(ma,(ah ma)),(.bool,(ah .bool))],gl:=[(169,oy.D.sig),(279,nB.D.sig)] }
def ab (a:A):Option O:=@lift O λk=>D.W k a
def p (a1:A):Option O:=(nB.ab (a1.2.1,())).bind λr2=>cond (decide (16000 < ae ((ae ((a1.1.1.length:Int)+(a1.1.2.1.length:Int)))+(r2.1.length:Int)))) (some (a1.1,false,()))<|(oy.ab (a1.1,())).bind λr3=>if r3.1.2.1.length+r2.1.length<=be then (some ((r3.1.1,r3.1.2.1++r2.1,r3.1.2.2),true,())) else none
theorem af (a1:A):@Eq (Option O) (D.W k a1) (p a1):=Bye
theorem ok:Ok prog 276 D.sig:=al func276 ap Bye (fc oy.ok (fc nB.ok (aj _)))
end ol
namespace oz
abbrev A:=aw×bz×Unit
abbrev O:=Int×aw×Unit
noncomputable def D:FD:={ fn:=f231,tl:=ba,ps:=[(.ii (ah e_) (ah e_),e_),(.ro,(.ptr jW))],rs:=[(i64,(ah i64))],gl:=[(276,ol.D.sig)],es:=[0] }
def ab (a:A):Option O:=@lift O λk=>D.W k a
def p (a1:A):Option O:=(ol.ab (a1.1.2.2.1,a1.2.1,())).bind λr2=>cond (!r2.2.1) (some (9,a1.1,()))<|some (0,(a1.1.1,a1.1.2.1,r2.1,a1.1.2.2.2),())
theorem af (a1:A):@Eq (Option O) (D.W k a1) (p a1):=Bye
theorem ok:Ok prog 231 D.sig:=al func231 ap Bye (fc ol.ok (aj _))
end oz
namespace mP
abbrev A:=aw×bz×Unit
abbrev O:=Int×aw×Unit
noncomputable def D:FD:={ fn:=f231,tl:=ba,ps:=[(.ii Byb Byb,e_),(.ro,(.ptr jW))],rs:=[(i64,(ah i64))],gl:=[(276,ol.D.sig)],es:=[0] }
def ab (a:A):Option O:=@lift O λk=>D.W k a
def p (a1:A):Option O:=(ol.ab (a1.1.2.2.1,a1.2.1,())).bind λr2=>cond (!r2.2.1) (some (9,a1.1,()))<|some (0,(a1.1.1,a1.1.2.1,r2.1,a1.1.2.2.2),())
theorem af (a1:A):@Eq (Option O) (D.W k a1) (p a1):=Bye
theorem ok:Ok prog 231 D.sig:=al func231 ap Bye (fc ol.ok (aj _))
end mP
namespace pi
abbrev A:=aw×Unit
abbrev O:=Int×aw×Unit
noncomputable def D:FD:={ fn:=f172,tl:=ba,ps:=[(.ii Byb (ah e_),e_)],rs:=[(i64,(ah i64))],gl:=[(231,oz.D.sig)],es:=[0],od:=[(3,[0,1,2,3,4,5,6,7,8,9,10,11,12,13,14])] }
def ab (a:A):Option O:=@lift O λk=>D.W k a
def p (a1:A):Option O:=cond (decide (100<=a1.1.2.2.2.2.1)) (some (9,a1.1,()))<|if a1.1.2.2.2.1.length+[(a1.1.2.2.2.2.1,([]:List Change),([]:List Int),([]:List Key),())].length<=be then (let y2:=a1.1.2.2.2.1++[(a1.1.2.2.2.2.1,([]:List Change),([]:List Int),([]:List Key),())];(oz.ab ((a1.1.1,a1.1.2.1,a1.1.2.2.1,y2,ae (a1.1.2.2.2.2.1+1),a1.1.2.2.2.2.2),(1,ae ((ae (a1.1.2.2.2.2.1+1)) - 1),0,([]:List cv),()),())).bind λr3=>some (r3.1,r3.2.1,())) else none
theorem af (a1:A):@Eq (Option O) (D.W k a1) (p a1):=Bye
theorem ok:Ok prog 172 D.sig:=al func172 ap Bye (fc oz.ok (aj _))
end pi
namespace oA
abbrev A:=(List Byt)×Int×Int×Unit
abbrev O:=bd×Bool×Unit
abbrev P:=Option O
noncomputable def D:FD:={ fn:=f202,tl:=ba,ps:=[(.ro,(.aa (.aa u8))),(.ro,i64),(.ro,i64)],rs:=[(ls,(ah ls)),(.bool,(ah .bool))],gl:=[(115,lZ.D.sig)],lv:=[(3,[1,2,6,8,9])],lx:=[(0,[6])] }
def ab (a:A):P:=@lift O λk=>D.W k a
variable (a1:A)
def T0 (dy:List bd) (bv:Int):St:={ n:=43,sl:=[(1,.val i64 a1.2.1),(2,.val i64 a1.2.2.1),(6,.box ls (ah ls) [] ((0:Int),(0:Int),((0:Int),(0:Int),(0:Int),(0:Int),((0:Int),(0:Int),(0:Int),([]:Byt),()),()),())),(8,.own (.aa ls) (ai (.aa ls)) [] dy),(9,.val i64 bv)],vr:=[],az:=[] }
def b0 (self:Int->P) (e0:(Unit)->P) (a1:A) (dy:List bd) (bv:Int):P:=cond (decide (bv < (dy.length:Int))) (if 0<=bv/\bv < (dy.length:Int) then ((dy[bv.toNat]?).bind λiz=>cond (decide (iz.2.2.1.2.2.2.2.1.1=a1.2.1)) (if 0<=bv/\bv < (dy.length:Int) then ((dy[bv.toNat]?).bind λzS=>cond (decide (zS.2.2.1.2.2.2.2.1.2.1=a1.2.2.1)) (if 0<=bv/\bv < (dy.length:Int) then ((dy[bv.toNat]?).bind λWW=>some (WW,true,())) else none)<|self (ae (bv+1))) else none)<|self (ae (bv+1))) else none)<|e0 ()
def q0 (a1:A) (dy:List bd) (BY:(Unit)):P:=some ((0,0,(0,0,0,0,(0,0,0,([]:Byt),()),()),()),false,())
def r0:(List bd)->(Int)->P:=λdy=>ao (λw v=>b0 w (q0 a1 dy) a1 dy v) k
theorem av:@Eq ((List bd)->(Int)->P) (λdy=>λbv=>D.L k [1,1,0,1,0,0] [1,2,6,8,9] [] (ak 0 (ax (D.N k [1,1,1]) D.K0)) (T0 a1 dy bv)) (r0 k a1):=
 funext λdy=>funext λbv=>aq _ _ _ (T0 a1 dy) _ (λrec v=>Bye) k bv
def p (l0:(List bd)->(Int)->P) (a1:A):P:=(lZ.ab (a1.1,())).bind λr2=>l0 r2.1 0
theorem af:@Eq P (D.W k a1) (p (r0 k a1) a1):=By8 (av k a1) Bye
theorem ok:Ok prog 202 D.sig:=al func202 ap Bye (fc lZ.ok (aj _))
end oA
namespace kI
abbrev A:=Int×Unit
abbrev O:=ek×Unit
noncomputable def D:FD:={ fn:=f241,tl:=ba,ps:=[(.ro,i64)],rs:=[(et,(ai et))] }
def ab (a:A):Option O:=@lift O λk=>D.W k a
def p (a1:A):Option O:=some ((a1.1,([]:List cv),([]:List Byt),()),())
theorem af (a1:A):@Eq (Option O) (D.W k a1) (p a1):=Bye
theorem ok:Ok prog 241 D.sig:=al func241 ap Bye (aj _)
end kI
namespace mD
abbrev A:=(List Byt)×Unit
abbrev O:=kf×Unit
noncomputable def D:FD:={ fn:=f254,tl:=ba,ps:=[(.ro,(.aa (.aa u8)))],rs:=[((.ptr ft),(ai (.ptr ft)))],gl:=[(168,kN.D.sig)] }
def ab (a:A):Option O:=@lift O λk=>D.W k a
def p (a1:A):Option O:=(kN.ab (a1.1,())).bind λr2=>some ((r2.1,([]:List cv),()),())
theorem af (a1:A):@Eq (Option O) (D.W k a1) (p a1):=Bye
theorem ok:Ok prog 254 D.sig:=al func254 ap Bye (fc kN.ok (aj _))
end mD
namespace nf
abbrev A:=UInt8×Unit
abbrev O:=Byt×Unit
abbrev P:=Option O
noncomputable def D:FD:={ fn:=f244,tl:=ba,ps:=[(.ro,u8)],rs:=[((.aa u8),(ai (.aa u8)))],lv:=[(3,[0,3,4])],lx:=[(0,[3])] }
def ab (a:A):P:=@lift O λk=>D.W k a
variable (a1:A)
def T0 (U:Byt×Int):St:={ n:=19,sl:=[(0,.val u8 a1.1),(3,.own (.aa u8) (ai (.aa u8)) [] U.1),(4,.val i64 U.2)],vr:=[],az:=[] }
def b0 (self:(Byt×Int)->P) (e0:Byt->P) (a1:A) (U:Byt×Int):P:=cond (decide (U.2 < 64)) (if 0<=U.2/\U.2 < (U.1.length:Int) then ((U.1[U.2.toNat]?).bind λbg=>self (U.1.set U.2.toNat a1.1,ae (U.2+1))) else none)<|e0 U.1
def q0 (a1:A) (qf:Byt):P:=if 0<=(0:Int)/\0 < (qf.length:Int) then ((qf[0]?).bind λiz=>if 0<=(1:Int)/\1 < ((qf.set 0 (0:UInt8)).length:Int) then (((qf.set 0 (0:UInt8))[1]?).bind λzS=>let EP:=(qf.set 0 (0:UInt8)).set 1 (64:UInt8);some (EP,())) else none) else none
def r0:(Byt×Int)->P:=ao (λw v=>b0 w (q0 a1) a1 v) k
theorem av:@Eq ((Byt×Int)->P) (λU=>D.L k [1,1,0,1,0,0] [0,3,4] [] (ak 0 (ax (D.N k [1,1,1]) D.K0)) (T0 a1 U)) (r0 k a1):=
 funext λU=>aq _ _ _ (T0 a1) _ (λrec v=>Bye) k U
def p (l0:(Byt×Int)->P) (a1:A):P:=if 0<=(64:Int)/\(64:Int)<=64/\64<=(be:Int) then (l0 (List.replicate 64 (0:UInt8),0)) else none
theorem af:@Eq P (D.W k a1) (p (r0 k a1) a1):=By8 (av k a1) Bye
theorem ok:Ok prog 244 D.sig:=al func244 ap Bye (aj _)
end nf
namespace rr
abbrev A:=Byt×Unit
abbrev O:=Int×Unit
noncomputable def D:FD:={ fn:=f262,tl:=ba,ps:=[(.ro,(.aa u8))],rs:=[(i64,(ah i64))] }
def ab (a:A):Option O:=@lift O λk=>D.W k a
def p (a1:A):Option O:=(a1.1[1]?).bind λx2=>some (ae (x2.toNat:Int),())
theorem af (a1:A):@Eq (Option O) (D.W k a1) (p a1):=Bye
theorem ok:Ok prog 262 D.sig:=al func262 ap Bye (aj _)
end rr
namespace lP
abbrev A:=Byt×Unit
abbrev O:=Int×Unit
abbrev P:=Option O
noncomputable def D:FD:={ fn:=f324,tl:=ba,ps:=[(.ro,(.aa u8))],rs:=[(i64,(ah i64))],gl:=[(207,eh.D.sig),(208,fa.D.sig)],lv:=[(2,[0,3])],lx:=[(0,[0])] }
def ab (a:A):P:=@lift O λk=>D.W k a
variable (a1:A)
def T0 (U:Int):St:={ n:=17,sl:=[(0,.val (.aa u8) a1.1),(3,.val i64 U)],vr:=[],az:=[] }
def b0 (self:Int->P) (e0:(Unit)->P) (a1:A) (U:Int):P:=(eh.ab (a1.1,())).bind λci=>cond (decide (U < ci.1)) ((fa.ab (a1.1,U,())).bind λbr=>cond (decide (br.1=0)) (some (U,()))<|self (ae (U+1)))<|e0 ()
def q0 (fm:(Unit)):P:=(eh.ab (a1.1,())).bind λfw=>some (fw.1,())
def r0:(Int)->P:=ao (λw v=>b0 w (q0 a1) a1 v) k
theorem av:@Eq ((Int)->P) (λU=>D.L k [1,0,1,0,0] [0,3] [] (ak 0 (ax (D.N k [1,1]) D.K0)) (T0 a1 U)) (r0 k a1):=
 funext λU=>aq _ _ _ (T0 a1) _ (λrec v=>Bye) k U
def p (l0:(Int)->P) (a1:A):P:=l0 0
theorem af:@Eq P (D.W k a1) (p (r0 k a1) a1):=By8 (av k a1) Bye
theorem ok:Ok prog 324 D.sig:=al func324 ap Bye (fc eh.ok (fc fa.ok (aj _)))
end lP
namespace l5
abbrev A:=Byt×Unit
abbrev O:=Int×Unit
abbrev P:=Option O
noncomputable def D:FD:={ fn:=f325,tl:=ba,ps:=[(.ro,(.aa u8))],rs:=[(i64,(ah i64))],gl:=[(207,eh.D.sig),(208,fa.D.sig)],lv:=[(3,[0,3,4])],lx:=[(0,[3])] }
def ab (a:A):P:=@lift O λk=>D.W k a
variable (a1:A)
def T0 (bv:Int×Int):St:={ n:=21,sl:=[(0,.val (.aa u8) a1.1),(3,.val i64 bv.1),(4,.val i64 bv.2)],vr:=[],az:=[] }
def b0 (self:(Int×Int)->P) (e0:Int->P) (a1:A) (bv:Int×Int):P:=(eh.ab (a1.1,())).bind λbr=>cond (decide (bv.2 < br.1)) ((fa.ab (a1.1,bv.2,())).bind λfu=>self (ae (bv.1 - fu.1),ae (bv.2+1)))<|e0 bv.1
def q0 (a1:A) (BZ:Int):P:=some (BZ,())
def r0:(Int×Int)->P:=ao (λw v=>b0 w (q0 a1) a1 v) k
theorem av:@Eq ((Int×Int)->P) (λbv=>D.L k [1,1,0,1,0,0] [0,3,4] [] (ak 0 (ax (D.N k [1,1,1]) D.K0)) (T0 a1 bv)) (r0 k a1):=
 funext λbv=>aq _ _ _ (T0 a1) _ (λrec v=>Bye) k bv
def p (l0:(Int×Int)->P) (a1:A):P:=(eh.ab (a1.1,())).bind λr2=>l0 (ae (62 - (ae (2*r2.1))),0)
theorem af:@Eq P (D.W k a1) (p (r0 k a1) a1):=By8 (av k a1) Bye
theorem ok:Ok prog 325 D.sig:=al func325 ap Bye (fc eh.ok (fc fa.ok (aj _)))
end l5
namespace ld
abbrev A:=Byt×Int×Int×Byt×Unit
abbrev O:=Byt×Unit
noncomputable def D:FD:={ fn:=f326,tl:=ba,ps:=[(.oS (ai (.aa u8)),(.aa u8)),(.ro,i64),(.ro,i64),(.ro,(.aa u8))],rs:=[],es:=[0] }
def ab (a:A):Option O:=@lift O λk=>D.W k a
def p (a1:A):Option O:=if 0<=a1.2.2.1/\a1.2.2.1<=(a1.1.length:Int) then (let y2:=pO a1.1 a1.2.2.1.toNat (min a1.2.2.2.1.length (a1.1.length - a1.2.2.1.toNat)) a1.2.2.2.1;if 0<=ae (2+(ae (2*a1.2.1)))/\ae (2+(ae (2*a1.2.1))) < (y2.length:Int) then ((y2[(ae ((2:Int)+(ae ((2:Int)*a1.2.1)))).toNat]?).bind λx3=>let y4:=y2.set (ae (2+(ae (2*a1.2.1)))).toNat (UInt8.ofInt a1.2.2.1);if 0<=ae (3+(ae (2*a1.2.1)))/\ae (3+(ae (2*a1.2.1))) < (y4.length:Int) then ((y4[(ae ((3:Int)+(ae ((2:Int)*a1.2.1)))).toNat]?).bind λx5=>let y6:=y4.set (ae (3+(ae (2*a1.2.1)))).toNat (UInt8.ofInt (a1.2.2.2.1.length:Int));some (y6,())) else none) else none) else none
theorem af (a1:A):@Eq (Option O) (D.W k a1) (p a1):=Bye
theorem ok:Ok prog 326 D.sig:=al func326 ap Bye (aj _)
end ld
namespace pt
abbrev A:=Byt×Byt×Unit
abbrev O:=Byt×Int×Int×Unit
noncomputable def D:FD:={ fn:=f298,tl:=ba,ps:=[(.ro,(.aa u8)),(.ro,(.aa u8))],rs:=[((.aa u8),(ai (.aa u8))),(i64,(ah i64)),(i64,(ah i64))],gl:=[(185,db.D.sig),(207,eh.D.sig),(262,rr.D.sig),(324,lP.D.sig),(325,l5.D.sig),(326,ld.D.sig)] }
def ab (a:A):Option O:=@lift O λk=>D.W k a
def p (a1:A):Option O:=(lP.ab (a1.1,())).bind λr2=>(eh.ab (a1.1,())).bind λr3=>let j14:=λ(p12:Int) (p13:Int)=>((l5.ab (a1.1,())).bind λEl=>cond (decide (El.1 < ae ((a1.2.1.length:Int)+p13))) (some (([]:Byt),0,9,()))<|(rr.ab (a1.1,())).bind λFo=>cond (decide (ae (Fo.1 - (a1.2.1.length:Int)) < ae (2+(ae (2*p12))))) (some (([]:Byt),0,8,()))<|(db.ab (a1.1,())).bind λEh=>if 0<=(0:Int)/\0 < (Eh.1.length:Int) then ((Eh.1[0]?).bind λx18=>if 0<=(1:Int)/\1 < ((Eh.1.set 0 (UInt8.ofInt p12)).length:Int) then (((Eh.1.set 0 (UInt8.ofInt p12))[1]?).bind λVo=>let y20:=(Eh.1.set 0 (UInt8.ofInt p12)).set 1 (UInt8.ofInt (ae (Fo.1 - (a1.2.1.length:Int))));(ld.ab (y20,r2.1,ae (Fo.1 - (a1.2.1.length:Int)),a1.2.1,())).bind λFs=>some (Fs.1,r2.1,0,())) else none) else none:Option O);cond (decide (r2.1=r3.1)) (cond (decide (16<=r3.1)) (some (([]:Byt),0,2,()))<|j14 (ae (r3.1+1)) 2)<|j14 r3.1 0
theorem af (a1:A):@Eq (Option O) (D.W k a1) (p a1):=Bye
theorem ok:Ok prog 298 D.sig:=al func298 ap Bye (fc db.ok (fc eh.ok (fc rr.ok (fc lP.ok (fc l5.ok (fc ld.ok (aj _)))))))
end pt
namespace jN
abbrev A:=kf×Int×Byt×Unit
abbrev O:=kf×Unit
noncomputable def D:FD:={ fn:=f299,tl:=ba,ps:=[(.ii (ai ft) (ai ft),ft),(.ro,i64),(.ro,(.aa u8))],rs:=[],gl:=[(185,db.D.sig)],es:=[0],od:=[(1,[0,1,2,3,4,5,6,7,8,9,10,11]),(2,[0,1,2,3,4,5,6,7,8,9,10]),(3,[0,1,2,3,4,5,6,7,8]),(4,[0,1,2,3,4,5,6,7,8,9,10,11,12,13])] }
def ab (a:A):Option O:=@lift O λk=>D.W k a
def p (a1:A):Option O:=let j9:=λ(p8:kf)=>((db.ab (a1.2.2.1,())).bind λqI=>if p8.2.1.length+[(a1.2.1,qI.1,())].length<=be then (some ((p8.1,p8.2.1++[(a1.2.1,qI.1,())],p8.2.2),())) else none:Option O);cond (decide (a1.2.1=(a1.1.1.length:Int))) ((db.ab (a1.2.2.1,())).bind λr2=>if a1.1.1.length+[r2.1].length<=be then (j9 (a1.1.1++[r2.1],a1.1.2)) else none)<|if 0<=a1.2.1/\a1.2.1 < (a1.1.1.length:Int) then ((a1.1.1[a1.2.1.toNat]?).bind λx3=>(a1.1.1[a1.2.1.toNat]?).bind λx4=>cond (decide (x4=a1.2.2.1)) (some (a1.1,()))<|(db.ab (a1.2.2.1,())).bind λr5=>if 0<=a1.2.1/\a1.2.1 < (a1.1.1.length:Int) then ((a1.1.1[a1.2.1.toNat]?).bind λx6=>j9 (a1.1.1.set a1.2.1.toNat r5.1,a1.1.2)) else none) else none
theorem af (a1:A):@Eq (Option O) (D.W k a1) (p a1):=Bye
theorem ok:Ok prog 299 D.sig:=al func299 ap Bye (fc db.ok (aj _))
end jN
namespace im
abbrev A:=Byt×Unit
abbrev O:=Byt×Unit
abbrev P:=Option O
noncomputable def D:FD:={ fn:=f302,tl:=ba,ps:=[(.ro,(.aa u8))],rs:=[((.aa u8),(ai (.aa u8)))],gl:=[(207,eh.D.sig),(208,fa.D.sig),(210,nA.D.sig),(326,ld.D.sig)],lv:=[(6,[0,3,4,5,6])],lx:=[(0,[4,5]),(1,[0,3,4,5,6])] }
def ab (a:A):P:=@lift O λk=>D.W k a
variable (a1:A)
def T0 (ez:Int) (c_:Byt×Int×Int):St:={ n:=44,sl:=[(0,.val (.aa u8) a1.1),(3,.val i64 ez),(4,.own (.aa u8) (ai (.aa u8)) [] c_.1),(5,.val i64 c_.2.1),(6,.val i64 c_.2.2)],vr:=[],az:=[] }
def b0 (self:(Byt×Int×Int)->P) (e0:(Byt×Int)->P) (a1:A) (ez:Int) (c_:Byt×Int×Int):P:=cond (decide (c_.2.2 < ez)) ((fa.ab (a1.1,c_.2.2,())).bind λfw=>cond (decide (fw.1=0)) (self (c_.1,c_.2.1,ae (c_.2.2+1)))<|(nA.ab (a1.1,c_.2.2,())).bind λmK=>(ld.ab (c_.1,c_.2.2,ae (c_.2.1 - (mK.1.length:Int)),mK.1,())).bind λuR=>self (uR.1,ae (c_.2.1 - (mK.1.length:Int)),ae (c_.2.2+1)))<|e0 (c_.1,c_.2.1)
def q0 (a1:A) (ez:Int) (xv:(Byt×Int)):P:=if 0<=(1:Int)/\1 < (xv.1.length:Int) then ((xv.1[1]?).bind λabl=>some (xv.1.set 1 (UInt8.ofInt xv.2),())) else none
def r0:Int->(Byt×Int×Int)->P:=λez=>ao (λw v=>b0 w (q0 a1 ez) a1 ez v) k
theorem av:@Eq (Int->(Byt×Int×Int)->P) (λez=>λc_=>D.L k [1,1,1,1,1,0,1,0,0] [0,3,4,5,6] [] (ak 0 (ax (D.N k [1,1,1,1,1,1]) D.K0)) (T0 a1 ez c_)) (r0 k a1):=
 funext λez=>funext λc_=>aq _ _ _ (T0 a1 ez) _ (λrec v=>Bye) k c_
def p (l0:Int->(Byt×Int×Int)->P) (a1:A):P:=(eh.ab (a1.1,())).bind λr2=>if 0<=(64:Int)/\(64:Int)<=64/\64<=(be:Int) then (if 0<=ae (2+(ae (2*r2.1)))/\ae (2+(ae (2*r2.1)))<=(a1.1.length:Int) then (let y3:=pO (List.replicate 64 (0:UInt8)) 0 (min ((a1.1.take (ae (2+(ae (2*r2.1)))).toNat).drop 0).length (List.replicate 64 (0:UInt8)).length) ((a1.1.take (ae (2+(ae (2*r2.1)))).toNat).drop 0);l0 r2.1 (y3,64,0)) else none) else none
theorem af:@Eq P (D.W k a1) (p (r0 k a1) a1):=By8 (av k a1) Bye
theorem ok:Ok prog 302 D.sig:=al func302 ap Bye (fc eh.ok (fc fa.ok (fc nA.ok (fc ld.ok (aj _)))))
end im
namespace sB
abbrev A:=kf×Int×Byt×Unit
abbrev O:=Int×Bool×kf×Unit
noncomputable def D:FD:={ fn:=f297,tl:=ba,ps:=[(.ii (ai ft) (ai ft),ft),(.ro,i64),(.ro,(.aa u8))],rs:=[(i64,(ah i64)),(.bool,(ah .bool))],gl:=[(298,pt.D.sig),(299,jN.D.sig),(302,im.D.sig)],es:=[0] }
def ab (a:A):Option O:=@lift O λk=>D.W k a
def p (a1:A):Option O:=if 0<=a1.2.1/\a1.2.1 < (a1.1.1.length:Int) then ((a1.1.1[a1.2.1.toNat]?).bind λx2=>(a1.1.1[a1.2.1.toNat]?).bind λx3=>(pt.ab (x3,a1.2.2.1,())).bind λr4=>let Zw:=λ(p13:kf) (p14:Byt) (p15:Int) (p16:Int)=>(cond (!decide (p16=0)) (some (0,false,p13,()))<|(jN.ab (p13,a1.2.1,p14,())).bind λEi=>some (p15,true,Ei.1,()):Option O);cond (decide (r4.2.2.1=8)) (if 0<=a1.2.1/\a1.2.1 < (a1.1.1.length:Int) then ((a1.1.1[a1.2.1.toNat]?).bind λx5=>(a1.1.1[a1.2.1.toNat]?).bind λx6=>(im.ab (x6,())).bind λr7=>(jN.ab (a1.1,a1.2.1,r7.1,())).bind λr8=>if 0<=a1.2.1/\a1.2.1 < (r8.1.1.length:Int) then ((r8.1.1[a1.2.1.toNat]?).bind λx9=>(r8.1.1[a1.2.1.toNat]?).bind λDr=>(pt.ab (Dr,a1.2.2.1,())).bind λnJ=>Zw r8.1 nJ.1 nJ.2.1 nJ.2.2.1) else none) else none)<|Zw a1.1 r4.1 r4.2.1 r4.2.2.1) else none
theorem af (a1:A):@Eq (Option O) (D.W k a1) (p a1):=Bye
theorem ok:Ok prog 297 D.sig:=al func297 ap Bye (fc pt.ok (fc jN.ok (fc im.ok (aj _))))
end sB
namespace jx
abbrev A:=kf×Int×Byt×Unit
abbrev O:=Int×Int×Bool×kf×Unit
abbrev P:=Option O
noncomputable def D:FD:={ fn:=f255,tl:=ba,ps:=[(.ii (ai ft) (ai ft),ft),(.ro,i64),(.ro,(.aa u8))],rs:=[(i64,(ah i64)),(i64,(ah i64)),(.bool,(ah .bool))],gl:=[(244,nf.D.sig),(297,sB.D.sig),(298,pt.D.sig),(299,jN.D.sig)],es:=[0],lv:=[(2,[0,1,2,9])],lx:=[(0,[0,2]),(1,[0,1,2,9])] }
def ab (a:A):P:=@lift O λk=>D.W k a
variable (a1:A)
def T0 (U:kf×Int):St:={ n:=65,sl:=[(0,.box ft (ai ft) [] U.1),(1,.val i64 a1.2.1),(2,.val (.aa u8) a1.2.2.1),(9,.val i64 U.2)],vr:=[],az:=[(0,0,false)] }
def b0 (self:(kf×Int)->P) (e0:kf->P) (a1:A) (U:kf×Int):P:=cond (decide (U.2 < (U.1.1.length:Int))) (cond (decide (U.2=a1.2.1)) (self (U.1,ae (U.2+1)))<|(sB.ab (U.1,U.2,a1.2.2.1,())).bind λci=>cond ci.2.1 (some (U.2,ci.1,true,ci.2.2.1,()))<|self (ci.2.2.1,ae (U.2+1)))<|e0 U.1
def q0 (qf:kf):P:=cond (decide (12<=(qf.1.length:Int))) (some (0,0,false,qf,()))<|(nf.ab ((0:UInt8),())).bind λfu=>(pt.ab (fu.1,a1.2.2.1,())).bind λfw=>(jN.ab (qf,(qf.1.length:Int),fw.1,())).bind λmK=>some (ae ((mK.1.1.length:Int) - 1),fw.2.1,true,mK.1,())
def r0:(kf×Int)->P:=ao (λw v=>b0 w (q0 a1) a1 v) k
theorem av:@Eq ((kf×Int)->P) (λU=>D.L k [1,0,1,0,0] [0,1,2,9] [] (ak 0 (ax (D.N k [1,1]) D.K0)) (T0 a1 U)) (r0 k a1):=
 funext λU=>aq _ _ _ (T0 a1) _ (λrec v=>Bye) k U
def p (l0:(kf×Int)->P) (a1:A):P:=l0 (a1.1,0)
theorem af:@Eq P (D.W k a1) (p (r0 k a1) a1):=By8 (av k a1) Bye
theorem ok:Ok prog 255 D.sig:=al func255 ap Bye (fc nf.ok (fc sB.ok (fc pt.ok (fc jN.ok (aj _)))))
end jx
namespace kO
abbrev A:=Int×Row×Unit
abbrev O:=Byt×Unit
noncomputable def D:FD:={ fn:=f256,tl:=ba,ps:=[(.ro,i64),(.ro,(.ptr ay))],rs:=[((.aa u8),(ai (.aa u8)))],od:=[(1,[0,1,2,3,4,5,6,7,8,9,10,11,12,13,14,15,16,17,18,19,20,21,22,23,24,25,26,27,28,29,30,31])] }
def ab (a:A):Option O:=@lift O λk=>D.W k a
def p (a1:A):Option O:=if a1.2.1.2.2.2.1.length<=be then (if [UInt8.ofInt a1.1,UInt8.ofInt a1.2.1.1,UInt8.ofInt a1.2.1.2.1,UInt8.ofInt (ae (a1.2.1.2.2.1.tdiv (256:Int))),UInt8.ofInt (a1.2.1.2.2.1.tmod (256:Int)),UInt8.ofInt (a1.2.1.2.2.2.1.length:Int)].length+a1.2.1.2.2.2.1.length<=be then (let y2:=[UInt8.ofInt a1.1,UInt8.ofInt a1.2.1.1,UInt8.ofInt a1.2.1.2.1,UInt8.ofInt (ae (a1.2.1.2.2.1.tdiv (256:Int))),UInt8.ofInt (a1.2.1.2.2.1.tmod (256:Int)),UInt8.ofInt (a1.2.1.2.2.2.1.length:Int)]++a1.2.1.2.2.2.1;some (y2,())) else none) else none
theorem af (a1:A):@Eq (Option O) (D.W k a1) (p a1):=Bye
theorem ok:Ok prog 256 D.sig:=al func256 ap Bye (aj _)
end kO
namespace l6
abbrev A:=kf×Unit
abbrev O:=ek×Unit
noncomputable def D:FD:={ fn:=f257,tl:=ba,ps:=[(.tq (ai ft),ft)],rs:=[(et,(ai et))],fz:=[(1,3,7),(1,7,7)],od:=[(1,[0,1,2,3,4,5,6,7,8,9])] }
def ab (a:A):Option O:=@lift O λk=>D.W k a
def p (a1:A):Option O:=some ((0,a1.1.2.1,a1.1.1,()),())
theorem af (a1:A):@Eq (Option O) (D.W k a1) (p a1):=Bye
theorem ok:Ok prog 257 D.sig:=al func257 ap Bye (aj _)
end l6
namespace rG
abbrev A:=(List Byt)×Row×Unit
abbrev O:=ek×Unit
noncomputable def D:FD:={ fn:=f203,tl:=ba,ps:=[(.ro,(.aa (.aa u8))),(.ro,(.ptr ay))],rs:=[(et,(ai et))],gl:=[(241,kI.D.sig),(254,mD.D.sig),(255,jx.D.sig),(256,kO.D.sig),(257,l6.D.sig)] }
def ab (a:A):Option O:=@lift O λk=>D.W k a
def p (a1:A):Option O:=(mD.ab (a1.1,())).bind λr2=>(kO.ab (0,a1.2.1,())).bind λr3=>(jx.ab (r2.1,(-1),r3.1,())).bind λr4=>cond (!r4.2.2.1) ((kI.ab (9,())).bind λr5=>some (r5.1,()))<|(l6.ab (r4.2.2.2.1,())).bind λr6=>some (r6.1,())
theorem af (a1:A):@Eq (Option O) (D.W k a1) (p a1):=Bye
theorem ok:Ok prog 203 D.sig:=al func203 ap Bye (fc kI.ok (fc mD.ok (fc jx.ok (fc kO.ok (fc l6.ok (aj _))))))
end rG
namespace qO
abbrev A:=Byt×Int×Unit
abbrev O:=Byt×Unit
abbrev P:=Option O
noncomputable def D:FD:={ fn:=f300,tl:=ba,ps:=[(.ro,(.aa u8)),(.ro,i64)],rs:=[((.aa u8),(ai (.aa u8)))],gl:=[(185,db.D.sig),(208,fa.D.sig)],lv:=[(4,[5])],lx:=[(0,[5])] }
def ab (a:A):P:=@lift O λk=>D.W k a
variable (a1:A)
def T0 (a1:A) (wW:Byt):St:={ n:=38,sl:=[(5,.own (.aa u8) (ai (.aa u8)) [] wW)],vr:=[],az:=[] }
def b0 (self:Byt->P) (e0:Byt->P) (a1:A) (wW:Byt):P:=if 0<=(0:Int)/\0 < (wW.length:Int) then ((wW[0]?).bind λpR=>cond (decide (0 < (pR.toNat:Int))) (if 0<=(0:Int)/\0 < (wW.length:Int) then ((wW[0]?).bind λabs=>(fa.ab (wW,ae ((ae (abs.toNat:Int)) - 1),())).bind λtP=>cond (decide (tP.1=0)) (if 0<=(0:Int)/\0 < (wW.length:Int) then ((wW[0]?).bind λGE=>if 0<=(0:Int)/\0 < (wW.length:Int) then ((wW[0]?).bind λLc=>let abd:=wW.set 0 (UInt8.ofInt ((GE.toNat:Int) - 1));self abd) else none) else none)<|e0 wW) else none)<|e0 wW) else none
def q0 (a1:A) (ah7:Byt):P:=some (ah7,())
def r0:Byt->P:=ao (λw v=>b0 w (q0 a1) a1 v) k
theorem av:@Eq (Byt->P) (λwW=>D.L k [1,1,1,1,0,0,0] [5] [] (ak 0 (ax (D.N k [1,1,1,1,1]) D.K0)) (T0 a1 wW)) (r0 k a1):=
 funext λwW=>aq _ _ _ (T0 a1) _ (λrec v=>Bye) k wW
def p (l0:Byt->P) (a1:A):P:=(db.ab (a1.1,())).bind λr2=>if 0<=ae (2+(ae (2*a1.2.1)))/\ae (2+(ae (2*a1.2.1))) < (r2.1.length:Int) then ((r2.1[(ae ((2:Int)+(ae ((2:Int)*a1.2.1)))).toNat]?).bind λx3=>let y4:=r2.1.set (ae (2+(ae (2*a1.2.1)))).toNat (0:UInt8);if 0<=ae (3+(ae (2*a1.2.1)))/\ae (3+(ae (2*a1.2.1))) < (y4.length:Int) then ((y4[(ae ((3:Int)+(ae ((2:Int)*a1.2.1)))).toNat]?).bind λx5=>let y6:=y4.set (ae (3+(ae (2*a1.2.1)))).toNat (0:UInt8);l0 y6) else none) else none
theorem af:@Eq P (D.W k a1) (p (r0 k a1) a1):=By8 (av k a1) Bye
theorem ok:Ok prog 300 D.sig:=al func300 ap Bye (fc db.ok (fc fa.ok (aj _)))
end qO
namespace pj
abbrev A:=kf×Int×Int×Unit
abbrev O:=kf×Unit
noncomputable def D:FD:={ fn:=f258,tl:=ba,ps:=[(.ii (ai ft) (ai ft),ft),(.ro,i64),(.ro,i64)],rs:=[],gl:=[(299,jN.D.sig),(300,qO.D.sig)],es:=[0] }
def ab (a:A):Option O:=@lift O λk=>D.W k a
def p (a1:A):Option O:=if 0<=a1.2.1/\a1.2.1 < (a1.1.1.length:Int) then ((a1.1.1[a1.2.1.toNat]?).bind λx2=>(a1.1.1[a1.2.1.toNat]?).bind λx3=>(qO.ab (x3,a1.2.2.1,())).bind λr4=>(jN.ab (a1.1,a1.2.1,r4.1,())).bind λr5=>some (r5.1,())) else none
theorem af (a1:A):@Eq (Option O) (D.W k a1) (p a1):=Bye
theorem ok:Ok prog 258 D.sig:=al func258 ap Bye (fc jN.ok (fc qO.ok (aj _)))
end pj
namespace rH
abbrev A:=(List Byt)×bd×Unit
abbrev O:=ek×Unit
noncomputable def D:FD:={ fn:=f204,tl:=ba,ps:=[(.ro,(.aa (.aa u8))),(.ro,(.ptr ls))],rs:=[(et,(ai et))],gl:=[(254,mD.D.sig),(257,l6.D.sig),(258,pj.D.sig)],od:=[(2,[0,1,2,3,4,5,6,7,8,9]),(4,[0,1,2,3,4,5,6,7,8,9,10,11])] }
def ab (a:A):Option O:=@lift O λk=>D.W k a
def p (a1:A):Option O:=(mD.ab (a1.1,())).bind λr2=>(pj.ab (r2.1,a1.2.1.1,a1.2.1.2.1,())).bind λr3=>cond (decide (a1.2.1.2.2.1.2.1=1)) ((pj.ab (r3.1,a1.2.1.2.2.1.2.2.1,a1.2.1.2.2.1.2.2.2.1,())).bind λr4=>(l6.ab (r4.1,())).bind λr6=>some (r6.1,()))<|(l6.ab (r3.1,())).bind λr7=>some (r7.1,())
theorem af (a1:A):@Eq (Option O) (D.W k a1) (p a1):=Bye
theorem ok:Ok prog 204 D.sig:=al func204 ap Bye (fc mD.ok (fc l6.ok (fc pj.ok (aj _))))
end rH
namespace tj
abbrev A:=Byt×Int×Byt×Unit
abbrev O:=Byt×Int×Unit
noncomputable def D:FD:={ fn:=f301,tl:=ba,ps:=[(.ro,(.aa u8)),(.ro,i64),(.ro,(.aa u8))],rs:=[((.aa u8),(ai (.aa u8))),(i64,(ah i64))],gl:=[(185,db.D.sig),(207,eh.D.sig),(208,fa.D.sig),(262,rr.D.sig),(266,o4.D.sig),(325,l5.D.sig),(326,ld.D.sig)] }
def ab (a:A):Option O:=@lift O λk=>D.W k a
def p (a1:A):Option O:=(fa.ab (a1.1,a1.2.1,())).bind λr2=>(db.ab (a1.1,())).bind λr3=>cond (decide ((a1.2.2.1.length:Int)<=r2.1)) ((o4.ab (a1.1,a1.2.1,())).bind λr4=>(ld.ab (r3.1,a1.2.1,ae ((ae (r4.1+r2.1)) - (a1.2.2.1.length:Int)),a1.2.2.1,())).bind λr5=>some (r5.1,0,()))<|(l5.ab (a1.1,())).bind λr6=>cond (decide (ae (r6.1+r2.1) < (a1.2.2.1.length:Int))) (some (([]:Byt),9,()))<|(rr.ab (a1.1,())).bind λr7=>(eh.ab (a1.1,())).bind λr8=>cond (decide (ae (r7.1 - (a1.2.2.1.length:Int)) < ae (2+(ae (2*r8.1))))) (some (([]:Byt),8,()))<|if 0<=(1:Int)/\1 < (r3.1.length:Int) then ((r3.1[1]?).bind λx9=>let Zs:=r3.1.set 1 (UInt8.ofInt (ae (r7.1 - (a1.2.2.1.length:Int))));(ld.ab (Zs,a1.2.1,ae (r7.1 - (a1.2.2.1.length:Int)),a1.2.2.1,())).bind λnJ=>some (nJ.1,0,())) else none
theorem af (a1:A):@Eq (Option O) (D.W k a1) (p a1):=Bye
theorem ok:Ok prog 301 D.sig:=al func301 ap Bye (fc db.ok (fc eh.ok (fc fa.ok (fc rr.ok (fc o4.ok (fc l5.ok (fc ld.ok (aj _))))))))
end tj
namespace pu
abbrev A:=kf×Int×Int×Byt×Unit
abbrev O:=Bool×kf×Unit
noncomputable def D:FD:={ fn:=f260,tl:=ba,ps:=[(.ii (ai ft) (ai ft),ft),(.ro,i64),(.ro,i64),(.ro,(.aa u8))],rs:=[(.bool,(ah .bool))],gl:=[(299,jN.D.sig),(301,tj.D.sig),(302,im.D.sig)],es:=[0] }
def ab (a:A):Option O:=@lift O λk=>D.W k a
def p (a1:A):Option O:=if 0<=a1.2.1/\a1.2.1 < (a1.1.1.length:Int) then ((a1.1.1[a1.2.1.toNat]?).bind λx2=>(a1.1.1[a1.2.1.toNat]?).bind λx3=>(tj.ab (x3,a1.2.2.1,a1.2.2.2.1,())).bind λr4=>cond (decide (r4.2.1=8)) (if 0<=a1.2.1/\a1.2.1 < (a1.1.1.length:Int) then ((a1.1.1[a1.2.1.toNat]?).bind λx5=>(a1.1.1[a1.2.1.toNat]?).bind λx6=>(im.ab (x6,())).bind λr7=>(jN.ab (a1.1,a1.2.1,r7.1,())).bind λr8=>if 0<=a1.2.1/\a1.2.1 < (r8.1.1.length:Int) then ((r8.1.1[a1.2.1.toNat]?).bind λx9=>(r8.1.1[a1.2.1.toNat]?).bind λDr=>(tj.ab (Dr,a1.2.2.1,a1.2.2.2.1,())).bind λnJ=>cond (!decide (nJ.2.1=0)) (some (false,r8.1,()))<|(jN.ab (r8.1,a1.2.1,nJ.1,())).bind λzg=>some (true,zg.1,())) else none) else none)<|cond (!decide (r4.2.1=0)) (some (false,a1.1,()))<|(jN.ab (a1.1,a1.2.1,r4.1,())).bind λxx=>some (true,xx.1,())) else none
theorem af (a1:A):@Eq (Option O) (D.W k a1) (p a1):=Bye
theorem ok:Ok prog 260 D.sig:=al func260 ap Bye (fc jN.ok (fc tj.ok (fc im.ok (aj _))))
end pu
namespace qP
abbrev A:=Int×Int×Unit
abbrev O:=Byt×Unit
noncomputable def D:FD:={ fn:=f261,tl:=ba,ps:=[(.ro,i64),(.ro,i64)],rs:=[((.aa u8),(ai (.aa u8)))] }
def ab (a:A):Option O:=@lift O λk=>D.W k a
def p (a1:A):Option O:=some ([(1:UInt8),UInt8.ofInt a1.1,UInt8.ofInt a1.2.1],())
theorem af (a1:A):@Eq (Option O) (D.W k a1) (p a1):=Bye
theorem ok:Ok prog 261 D.sig:=al func261 ap Bye (aj _)
end qP
namespace tB
abbrev A:=kf×bd×Row×Unit
abbrev O:=Bool×kf×Unit
noncomputable def D:FD:={ fn:=f259,tl:=ba,ps:=[(.ii (ai ft) (ai ft),ft),(.ro,(.ptr ls)),(.ro,(.ptr ay))],rs:=[(.bool,(ah .bool))],gl:=[(255,jx.D.sig),(256,kO.D.sig),(258,pj.D.sig),(260,pu.D.sig),(261,qP.D.sig)],es:=[0],od:=[(9,[0,1,2,3,4,5,6,7,8,9,10,11,12])] }
def ab (a:A):Option O:=@lift O λk=>D.W k a
def p (a1:A):Option O:=(kO.ab (2,a1.2.2.1,())).bind λr2=>(pu.ab (a1.1,a1.2.1.2.2.1.2.2.1,a1.2.1.2.2.1.2.2.2.1,r2.1,())).bind λr3=>cond r3.1 (some (true,r3.2.1,()))<|(jx.ab (r3.2.1,a1.2.1.2.2.1.2.2.1,r2.1,())).bind λr4=>cond (!r4.2.2.1) (some (false,r4.2.2.2.1,()))<|(qP.ab (r4.1,r4.2.1,())).bind λr5=>(pu.ab (r4.2.2.2.1,a1.2.1.1,a1.2.1.2.1,r5.1,())).bind λr6=>(pj.ab (r6.2.1,a1.2.1.2.2.1.2.2.1,a1.2.1.2.2.1.2.2.2.1,())).bind λr7=>some (true,r7.1,())
theorem af (a1:A):@Eq (Option O) (D.W k a1) (p a1):=Bye
theorem ok:Ok prog 259 D.sig:=al func259 ap Bye (fc jx.ok (fc kO.ok (fc pj.ok (fc pu.ok (fc qP.ok (aj _))))))
end tB
namespace rI
abbrev A:=(List Byt)×bd×Row×Unit
abbrev O:=ek×Unit
noncomputable def D:FD:={ fn:=f205,tl:=ba,ps:=[(.ro,(.aa (.aa u8))),(.ro,(.ptr ls)),(.ro,(.ptr ay))],rs:=[(et,(ai et))],gl:=[(241,kI.D.sig),(254,mD.D.sig),(255,jx.D.sig),(256,kO.D.sig),(257,l6.D.sig),(259,tB.D.sig),(260,pu.D.sig),(261,qP.D.sig)],od:=[(2,[0,1,2,3,4,5,6,7,8]),(8,[0,1,2,3,4,5,6,7,8,9,10,11]),(10,[0,1,2,3,4,5,6,7,8,9,10,11,12,13,14]),(13,[0,1,2,3,4,5,6,7,8,9,10,11,12])] }
def ab (a:A):Option O:=@lift O λk=>D.W k a
def p (a1:A):Option O:=(mD.ab (a1.1,())).bind λr2=>cond (Ty.eq ay a1.2.1.2.2.1.2.2.2.2.1 a1.2.2.1) ((l6.ab (r2.1,())).bind λr3=>some (r3.1,()))<|cond (decide (a1.2.1.2.2.1.2.1=1)) ((tB.ab (r2.1,a1.2.1,a1.2.2.1,())).bind λr4=>cond (!r4.1) ((kI.ab (9,())).bind λr5=>some (r5.1,()))<|(l6.ab (r4.2.1,())).bind λr6=>some (r6.1,()))<|(kO.ab (0,a1.2.2.1,())).bind λr7=>(pu.ab (r2.1,a1.2.1.1,a1.2.1.2.1,r7.1,())).bind λr8=>cond r8.1 ((l6.ab (r8.2.1,())).bind λr9=>some (r9.1,()))<|(kO.ab (2,a1.2.2.1,())).bind λqI=>(jx.ab (r8.2.1,a1.2.1.1,qI.1,())).bind λnJ=>cond (!nJ.2.2.1) ((kI.ab (9,())).bind λqb=>some (qb.1,()))<|(qP.ab (nJ.1,nJ.2.1,())).bind λzg=>(pu.ab (nJ.2.2.2.1,a1.2.1.1,a1.2.1.2.1,zg.1,())).bind λxx=>(l6.ab (xx.2.1,())).bind λEl=>some (El.1,())
theorem af (a1:A):@Eq (Option O) (D.W k a1) (p a1):=Bye
theorem ok:Ok prog 205 D.sig:=al func205 ap Bye (fc kI.ok (fc mD.ok (fc jx.ok (fc kO.ok (fc l6.ok (fc tB.ok (fc pu.ok (fc qP.ok (aj _)))))))))
end rI
namespace tk
abbrev A:=(List Byt)×Change×Unit
abbrev O:=ek×Unit
noncomputable def D:FD:={ fn:=f233,tl:=ba,ps:=[(.ro,(.aa (.aa u8))),(.ro,(.ptr au))],rs:=[(et,(ai et))],gl:=[(202,oA.D.sig),(203,rG.D.sig),(204,rH.D.sig),(205,rI.D.sig),(238,lk.D.sig),(241,kI.D.sig)],od:=[(3,[0,1,2,3,4,5,6,7,8,9,10,11,12,13,14,15,16,17,18])] }
def ab (a:A):Option O:=@lift O λk=>D.W k a
def p (a1:A):Option O:=(lk.ab (a1.2.1,())).bind λr2=>(oA.ab (a1.1,r2.1,r2.2.1,())).bind λr3=>let j9:Option O:=cond (!a1.2.1.1) ((rG.ab (a1.1,a1.2.1.2.2.2.1,())).bind λqI=>some (qI.1,()))<|cond (!a1.2.1.2.2.1) ((rH.ab (a1.1,r3.1,())).bind λnJ=>some (nJ.1,()))<|(rI.ab (a1.1,r3.1,a1.2.1.2.2.2.1,())).bind λqb=>some (qb.1,());cond (!(r3.2.1 == a1.2.1.1)) ((kI.ab (8,())).bind λr4=>some (r4.1,()))<|cond r3.2.1 (cond (!(Ty.eq ay r3.1.2.2.1.2.2.2.2.1 a1.2.1.2.1)) ((kI.ab (8,())).bind λr5=>some (r5.1,()))<|j9)<|j9
theorem af (a1:A):@Eq (Option O) (D.W k a1) (p a1):=Bye
theorem ok:Ok prog 233 D.sig:=al func233 ap Bye (fc oA.ok (fc rG.ok (fc rH.ok (fc rI.ok (fc lk.ok (fc kI.ok (aj _)))))))
end tk
namespace qQ
abbrev A:=Byt×Byt×Unit
abbrev O:=(List cv)×Unit
abbrev P:=Option O
noncomputable def D:FD:={ fn:=f277,tl:=ba,ps:=[(.ro,(.aa u8)),(.ro,(.aa u8))],rs:=[((.aa qX),(ai (.aa qX)))],lv:=[(4,[0,1,5,6,7])],lx:=[(0,[5]),(1,[0,1,5,6,7])],od:=[(6,[0,1,2,3,4,5,6,7,8]),(12,[0,1,2,3,4,5,6,7,8,9,10,11,12,13])] }
def ab (a:A):P:=@lift O λk=>D.W k a
variable (a1:A)
def T0 (U:(List cv)×Bool×Int):St:={ n:=51,sl:=[(0,.val (.aa u8) a1.1),(1,.val (.aa u8) a1.2.1),(5,.own (.aa qX) (ai (.aa qX)) [] U.1),(6,.val .bool U.2.1),(7,.val i64 U.2.2)],vr:=[],az:=[] }
def b0 (self:((List cv)×Bool×Int)->P) (e0:(List cv)->P) (a1:A) (U:(List cv)×Bool×Int):P:=cond (decide (U.2.2 < (a1.1.length:Int))) (if 0<=U.2.2 then ((a1.1[U.2.2.toNat]?).bind λbg=>if 0<=U.2.2 then ((a1.2.1[U.2.2.toNat]?).bind λpA=>cond (decide ((bg.toNat:Int)=(pA.toNat:Int))) (self (U.1,false,ae (U.2.2+1)))<|let Sd:=λ(uS:List cv)=>(if 0<=ae ((uS.length:Int) - 1)/\ae ((uS.length:Int) - 1) < (uS.length:Int) then ((uS[(ae ((uS.length:Int) - (1:Int))).toNat]?).bind λLb=>if 0<=U.2.2 then ((a1.2.1[U.2.2.toNat]?).bind λSb=>(uS[(ae ((uS.length:Int) - (1:Int))).toNat]?).bind λSg=>(uS[(ae ((uS.length:Int) - (1:Int))).toNat]?).bind λLe=>if Sg.2.1.length+[Sb].length<=be then (if (ae ((uS.length:Int) - 1)).toNat=(ae ((uS.length:Int) - 1)).toNat then ((uS.set (ae ((uS.length:Int) - 1)).toNat Le)[(ae ((uS.length:Int) - (1:Int))).toNat]?).bind λGG=>let abg:=(uS.set (ae ((uS.length:Int) - 1)).toNat Le).set (ae ((uS.length:Int) - 1)).toNat (GG.1,Sg.2.1++[Sb],GG.2.2);self (abg,true,ae (U.2.2+1)) else none) else none) else none) else none:P);cond (!U.2.1) (if U.1.length+[(U.2.2,([]:Byt),())].length<=be then (let abi:=U.1++[(U.2.2,([]:Byt),())];Sd abi) else none)<|Sd U.1) else none) else none)<|e0 U.1
def q0 (a1:A) (Oc:(List cv)):P:=some (Oc,())
def r0:((List cv)×Bool×Int)->P:=ao (λw v=>b0 w (q0 a1) a1 v) k
theorem av:@Eq (((List cv)×Bool×Int)->P) (λU=>D.L k [1,1,1,0,1,0,0] [0,1,5,6,7] [] (ak 0 (ax (D.N k [1,1,1,1]) D.K0)) (T0 a1 U)) (r0 k a1):=
 funext λU=>aq _ _ _ (T0 a1) _ (λrec v=>Bye) k U
def p (l0:((List cv)×Bool×Int)->P) (a1:A):P:=l0 (([]:List cv),false,0)
theorem af:@Eq P (D.W k a1) (p (r0 k a1) a1):=By8 (av k a1) Bye
theorem ok:Ok prog 277 D.sig:=al func277 ap Bye (aj _)
end qQ
namespace uV
abbrev A:=(List Byt)×cv×Int×Int×Unit
abbrev O:=bz×Unit
noncomputable def D:FD:={ fn:=f234,tl:=ba,ps:=[(.ro,(.aa (.aa u8))),(.ro,(.ptr qX)),(.ro,i64),(.ro,i64)],rs:=[(jW,(ai jW))],gl:=[(244,nf.D.sig),(277,qQ.D.sig)],od:=[(4,[0,1,2,3,4,5,6,7,8,9,10,11,12,13])] }
def ab (a:A):Option O:=@lift O λk=>D.W k a
def p (a1:A):Option O:=(nf.ab ((0:UInt8),())).bind λr2=>cond (decide (a1.2.1.1 < (a1.1.length:Int))) (if 0<=a1.2.1.1 then ((a1.1[a1.2.1.1.toNat]?).bind λx3=>(qQ.ab (x3,a1.2.1.2.1,())).bind λr5=>some ((a1.2.2.1,a1.2.2.2.1,a1.2.1.1,r5.1,()),())) else none)<|(qQ.ab (r2.1,a1.2.1.2.1,())).bind λr6=>some ((a1.2.2.1,a1.2.2.2.1,a1.2.1.1,r6.1,()),())
theorem af (a1:A):@Eq (Option O) (D.W k a1) (p a1):=Bye
theorem ok:Ok prog 234 D.sig:=al func234 ap Bye (fc nf.ok (fc qQ.ok (aj _)))
end uV
namespace mE
abbrev A:=(List Byt)×(List cv)×Unit
abbrev O:=ek×Unit
abbrev P:=Option O
noncomputable def D:FD:={ fn:=f235,tl:=ba,ps:=[(.ro,(.aa (.aa u8))),(.ro,(.aa qX))],rs:=[(et,(ai et))],gl:=[(46,cc.D.sig),(168,kN.D.sig),(185,db.D.sig),(241,kI.D.sig)],lv:=[(5,[1,4,5,6])],lx:=[(0,[4,5])],od:=[(8,[0,1,2,3,4,5,6,7,8,9,10,11,12,13,14,15,16]),(12,[0,1,2,3,4,5,6,7]),(13,[0,1,2,3,4,5,6,7,8,9,10]),(14,[0,1,2,3,4,5,6,7,8,9,10,11,12]),(15,[0,1,2,3,4,5,6,7,8,9,10,11,12,13,14,15])] }
def ab (a:A):P:=@lift O λk=>D.W k a
variable (a1:A)
def T0 (c_:ek×Int):St:={ n:=94,sl:=[(1,.val (.aa qX) a1.2.1),(4,.box et (ai et) [] ((0:Int),([]:List cv),([]:List Byt),())),(5,.box et (ai et) [] c_.1),(6,.val i64 c_.2)],vr:=[],az:=[] }
def b0 (self:(ek×Int)->P) (e0:ek->P) (a1:A) (c_:ek×Int):P:=cond (decide (c_.2 < (a1.2.1.length:Int))) (if 0<=c_.2 then ((a1.2.1[c_.2.toNat]?).bind λiz=>cond (!decide ((iz.2.1.length:Int)=64)) ((kI.ab (1,())).bind λmK=>some (mK.1,()))<|(cc.ab (iz.1,0,(c_.1.2.2.1.length:Int),())).bind λfw=>cond (!fw.1) ((kI.ab (1,())).bind λuR=>some (uR.1,()))<|cond (decide (iz.1=12)) ((kI.ab (2,())).bind λge=>some (ge.1,()))<|cond (decide (iz.1=(c_.1.2.2.1.length:Int))) ((db.ab (iz.2.1,())).bind λtP=>if c_.1.2.2.1.length+[tP.1].length<=be then ((db.ab (iz.2.1,())).bind λzR=>if c_.1.2.1.length+[(iz.1,zR.1,())].length<=be then (self ((c_.1.1,c_.1.2.1++[(iz.1,zR.1,())],c_.1.2.2.1++[tP.1],c_.1.2.2.2),ae (c_.2+1))) else none) else none)<|(db.ab (iz.2.1,())).bind λah8=>if 0<=iz.1/\iz.1 < (c_.1.2.2.1.length:Int) then ((c_.1.2.2.1[iz.1.toNat]?).bind λLc=>(db.ab (iz.2.1,())).bind λOa=>if c_.1.2.1.length+[(iz.1,Oa.1,())].length<=be then (self ((c_.1.1,c_.1.2.1++[(iz.1,Oa.1,())],c_.1.2.2.1.set iz.1.toNat ah8.1,c_.1.2.2.2),ae (c_.2+1))) else none) else none) else none)<|e0 c_.1
def q0 (a1:A) (abm:ek):P:=some (abm,())
def r0:(ek×Int)->P:=ao (λw v=>b0 w (q0 a1) a1 v) k
theorem av:@Eq ((ek×Int)->P) (λc_=>D.L k [1,1,1,0,1,0,0] [1,4,5,6] [] (ak 0 (ax (D.N k [1,1,1,1]) D.K0)) (T0 a1 c_)) (r0 k a1):=
 funext λc_=>aq _ _ _ (T0 a1) _ (λrec v=>Bye) k c_
def p (l0:(ek×Int)->P) (a1:A):P:=cond (decide (12 < (a1.1.length:Int))) ((kI.ab (2,())).bind λr2=>some (r2.1,()))<|(kN.ab (a1.1,())).bind λr3=>l0 ((0,([]:List cv),r3.1,()),0)
theorem af:@Eq P (D.W k a1) (p (r0 k a1) a1):=By8 (av k a1) Bye
theorem ok:Ok prog 235 D.sig:=al func235 ap Bye (fc cc.ok (fc kN.ok (fc db.ok (fc kI.ok (aj _)))))
end mE
namespace jY
abbrev A:=aw×Change×Int×Int×Unit
abbrev O:=Int×aw×Unit
abbrev P:=Option O
noncomputable def D:FD:={ fn:=f177,tl:=ba,ps:=[(.ii Byb Byb,e_),(.ro,(.ptr au)),(.ro,i64),(.ro,i64)],rs:=[(i64,(ah i64))],gl:=[(231,mP.D.sig),(233,tk.D.sig),(234,uV.D.sig),(235,mE.D.sig)],es:=[0],lv:=[(5,[0,2,3,9,10])],lx:=[(0,[0])],od:=[(7,[0,1,2,3,4,5,6,7,8,9,10,11,12]),(11,[0,1,2,3,4,5,6,7,8,9,10,11,12,13,14,15])],ar:=[(7,[])],pd:=[(7,[11])],er:=[(7,[(3,13),(5,13)])] }
def ab (a:A):P:=@lift O λk=>D.W k a
variable (a1:A)
def T0 (dy:ek) (bv:aw×Int):St:={ n:=62,sl:=[(0,.box e_ Byb [] bv.1),(2,.val i64 a1.2.2.1),(3,.val i64 a1.2.2.2.1),(9,.box et (ai et) [] dy),(10,.val i64 bv.2)],vr:=[],az:=[(0,0,false)] }
def b0 (self:(aw×Int)->P) (e0:aw->P) (a1:A) (dy:ek) (bv:aw×Int):P:=cond (decide (bv.2 < (dy.2.1.length:Int))) (if 0<=bv.2/\bv.2 < (dy.2.1.length:Int) then ((dy.2.1[bv.2.toNat]?).bind λiz=>(uV.ab (bv.1.2.1,iz,a1.2.2.1,a1.2.2.2.1,())).bind λfw=>(mP.ab (bv.1,fw.1,())).bind λmK=>cond (!decide (mK.1=0)) (some (mK.1,mK.2.1,()))<|if 0<=bv.2/\bv.2<=ae (bv.2+1)/\ae (bv.2+1)<=(dy.2.1.length:Int) then ((mE.ab (mK.2.1.2.1,(dy.2.1.take (ae (bv.2+1)).toNat).drop bv.2.toNat,())).bind λuR=>self ((mK.2.1.1,uR.1.2.2.1,mK.2.1.2.2),ae (bv.2+1))) else none) else none)<|e0 bv.1
def q0 (a1:A) (dy:ek) (xv:aw):P:=some (0,xv,())
def r0:ek->(aw×Int)->P:=λdy=>ao (λw v=>b0 w (q0 a1 dy) a1 dy v) k
theorem av:@Eq (ek->(aw×Int)->P) (λdy=>λbv=>D.L k [1,1,1,0,1,0,0] [0,2,3,9,10] [] (ak 0 (ax (D.N k [1,1,1,1]) D.K0)) (T0 a1 dy bv)) (r0 k a1):=
 funext λdy=>funext λbv=>aq _ _ _ (T0 a1 dy) _ (λrec v=>Bye) k bv
def p (l0:ek->(aw×Int)->P) (a1:A):P:=(tk.ab (a1.1.2.1,a1.2.1,())).bind λr2=>cond (!decide (r2.1.1=0)) (some (r2.1.1,a1.1,()))<|l0 r2.1 (a1.1,0)
theorem af:@Eq P (D.W k a1) (p (r0 k a1) a1):=By8 (av k a1) Bye
theorem ok:Ok prog 177 D.sig:=al func177 ap Bye (fc mP.ok (fc tk.ok (fc uV.ok (fc mE.ok (aj _)))))
end jY
namespace kJ
abbrev A:=aw×(List Change)×Int×Unit
abbrev O:=Int×aw×Unit
abbrev P:=Option O
noncomputable def D:FD:={ fn:=f173,tl:=ba,ps:=[(.ii Byb Byb,e_),(.ro,(.aa au)),(.ro,i64)],rs:=[(i64,(ah i64))],gl:=[(177,jY.D.sig),(232,jV.D.sig)],es:=[0],fz:=[(1,2,0)],lv:=[(3,[0,2,7,8])],lx:=[(0,[0])] }
def ab (a:A):P:=@lift O λk=>D.W k a
variable (a1:A)
def T0 (dy:List Change) (bv:aw×Int):St:={ n:=27,sl:=[(0,.box e_ Byb [] bv.1),(2,.val i64 a1.2.2.1),(7,.val (.aa au) dy),(8,.val i64 bv.2)],vr:=[],az:=[(0,0,false)] }
def b0 (self:(aw×Int)->P) (e0:aw->P) (a1:A) (dy:List Change) (bv:aw×Int):P:=cond (decide (bv.2 < (dy.length:Int))) (if 0<=bv.2 then ((dy[bv.2.toNat]?).bind λiz=>(jY.ab (bv.1,iz,3,a1.2.2.1,())).bind λfw=>cond (!decide (fw.1=0)) (some (fw.1,fw.2.1,()))<|self (fw.2.1,ae (bv.2+1))) else none)<|e0 bv.1
def q0 (a1:A) (dy:List Change) (oM:aw):P:=some (0,oM,())
def r0:(List Change)->(aw×Int)->P:=λdy=>ao (λw v=>b0 w (q0 a1 dy) a1 dy v) k
theorem av:@Eq ((List Change)->(aw×Int)->P) (λdy=>λbv=>D.L k [1,1,0,1,0,0] [0,2,7,8] [] (ak 0 (ax (D.N k [1,1,1]) D.K0)) (T0 a1 dy bv)) (r0 k a1):=
 funext λdy=>funext λbv=>aq _ _ _ (T0 a1 dy) _ (λrec v=>Bye) k bv
def p (l0:(List Change)->(aw×Int)->P) (a1:A):P:=(jV.ab (a1.2.1,())).bind λr2=>l0 r2.1 (a1.1,0)
theorem af:@Eq P (D.W k a1) (p (r0 k a1) a1):=By8 (av k a1) Bye
theorem ok:Ok prog 173 D.sig:=al func173 ap Bye (fc jY.ok (fc jV.ok (aj _)))
end kJ
namespace tC
abbrev A:=aw×Int×Int×Unit
abbrev O:=Int×aw×Unit
noncomputable def D:FD:={ fn:=f175,tl:=ba,ps:=[(.ii (ah e_) (ah e_),e_),(.ro,i64),(.ro,i64)],rs:=[(i64,(ah i64))],gl:=[(181,mC.D.sig),(231,oz.D.sig)],es:=[0] }
def ab (a:A):Option O:=@lift O λk=>D.W k a
def p (a1:A):Option O:=if 0<=a1.2.1 then ((a1.1.2.2.2.1[a1.2.1.toNat]?).bind λx2=>(mC.ab (a1.1.2.2.2.1,a1.2.1,())).bind λr3=>(oz.ab ((a1.1.1,a1.1.2.1,a1.1.2.2.1,r3.1,a1.1.2.2.2.2),(a1.2.2.1,x2.1,0,([]:List cv),()),())).bind λr4=>some (r4.1,r4.2.1,())) else none
theorem af (a1:A):@Eq (Option O) (D.W k a1) (p a1):=Bye
theorem ok:Ok prog 175 D.sig:=al func175 ap Bye (fc mC.ok (fc oz.ok (aj _)))
end tC
namespace kQ
abbrev A:=aw×Unit
abbrev O:=Int×aw×Unit
abbrev P:=Option O
noncomputable def D:FD:={ fn:=f176,tl:=ba,ps:=[(.ii Byb Byb,e_)],rs:=[(i64,(ah i64))],gl:=[(131,qN.D.sig),(185,db.D.sig),(231,mP.D.sig)],es:=[0],lv:=[(2,[0,3])],lx:=[(0,[0])] }
def ab (a:A):P:=@lift O λk=>D.W k a
variable (a1:A)
def T0 (a1:A) (U:aw×Int):St:={ n:=40,sl:=[(0,.box e_ Byb [] U.1),(3,.val i64 U.2)],vr:=[],az:=[(0,0,false)] }
def b0 (self:(aw×Int)->P) (e0:aw->P) (a1:A) (U:aw×Int):P:=cond (decide (U.2 < (U.1.2.1.length:Int))) (if 0<=U.2/\U.2 < (U.1.2.1.length:Int) then ((U.1.2.1[U.2.toNat]?).bind λbg=>(U.1.2.1[U.2.toNat]?).bind λpA=>(db.ab (pA,())).bind λfu=>(mP.ab (U.1,(4,0,U.2,[((0:Int),fu.1,())],()),())).bind λfw=>cond (!decide (fw.1=0)) (some (fw.1,fw.2.1,()))<|self (fw.2.1,ae (U.2+1))) else none)<|e0 U.1
def q0 (a1:A) (oM:aw):P:=(qN.ab (oM.2.2.1,())).bind λuR=>some (0,(oM.1,oM.2.1,uR.1,oM.2.2.2),())
def r0:(aw×Int)->P:=ao (λw v=>b0 w (q0 a1) a1 v) k
theorem av:@Eq ((aw×Int)->P) (λU=>D.L k [1,0,1,0,0] [0,3] [] (ak 0 (ax (D.N k [1,1]) D.K0)) (T0 a1 U)) (r0 k a1):=
 funext λU=>aq _ _ _ (T0 a1) _ (λrec v=>Bye) k U
def p (l0:(aw×Int)->P) (a1:A):P:=l0 (a1.1,0)
theorem af:@Eq P (D.W k a1) (p (r0 k a1) a1):=By8 (av k a1) Bye
theorem ok:Ok prog 176 D.sig:=al func176 ap Bye (fc qN.ok (fc db.ok (fc mP.ok (aj _))))
end kQ
namespace km
abbrev A:=aw×Op×b_×Unit
abbrev O:=Int×Int×aw×Unit
noncomputable def D:FD:={ fn:=f97,tl:=ba,ps:=[(.ii Byb (ah e_),e_),(.ro,(.ptr l7)),(.ro,(.ptr fb))],rs:=[(i64,(ah i64)),(i64,(ah i64))],gl:=[(131,qN.D.sig),(171,lU.D.sig),(172,pi.D.sig),(173,kJ.D.sig),(174,sR.D.sig),(175,tC.D.sig),(176,kQ.D.sig),(177,jY.D.sig),(178,kA.D.sig)],es:=[0],od:=[(1,[0,1,2,3,4,5,6,7,8,9]),(8,[0,1,2,3,4,5,6,7,8,9,10,11,12,13,14,15,16,17,18,19,20,21,22,23,24,25,26]),(11,[0,1,2,3,4,5,6,7,8,9,10,12,13,14,15,11,16,17,18]),(17,[0,1,2,3,4,5,6,7,8,9,10,11,12,13,14]),(25,[0,1,2,3,4,5,6,7,8,9]),(28,[0,1,2,3,4,5,6,7,8,9,10,11,12,13])],ar:=[(11,[10,15])],er:=[(8,[(3,27)]),(11,[(4,16)])] }
def ab (a:A):Option O:=@lift O λk=>D.W k a
def p (a1:A):Option O:=(lU.ab (a1.1.2.2.2.1,a1.2.1.2.1,())).bind λr2=>cond (decide (a1.2.1.1=1)) ((pi.ab (a1.1,())).bind λr3=>some (a1.1.2.2.2.2.1,r3.1,r3.2.1,()))<|cond (decide (a1.2.1.1=5)) (if 0<=r2.1/\r2.1 < (a1.1.2.2.2.1.length:Int) then ((a1.1.2.2.2.1[r2.1.toNat]?).bind λx4=>(a1.1.2.2.2.1[r2.1.toNat]?).bind λx5=>if 0<=r2.1/\r2.1 < (a1.1.2.2.2.1.length:Int) then ((a1.1.2.2.2.1[r2.1.toNat]?).bind λx6=>if 0<=r2.1/\r2.1 < (a1.1.2.2.2.1.length:Int) then ((a1.1.2.2.2.1[r2.1.toNat]?).bind λx7=>(a1.1.2.2.2.1[r2.1.toNat]?).bind λx8=>(a1.1.2.2.2.1[r2.1.toNat]?).bind λx9=>if x8.2.2.1.length+[(x7.2.1.length:Int)].length<=be then (if 0<=r2.1/\r2.1 < ((a1.1.2.2.2.1.set r2.1.toNat x9).length:Int) then (if r2.1.toNat=r2.1.toNat then ((a1.1.2.2.2.1.set r2.1.toNat x9)[r2.1.toNat]?).bind λDr=>let y11:=(a1.1.2.2.2.1.set r2.1.toNat x9).set r2.1.toNat (Dr.1,Dr.2.1,x8.2.2.1++[(x7.2.1.length:Int)],Dr.2.2.2);some ((x5.2.2.1.length:Int),0,(a1.1.1,a1.1.2.1,a1.1.2.2.1,y11,a1.1.2.2.2.2),()) else none) else none) else none) else none) else none) else none)<|cond (decide (a1.2.1.1=6)) (if 0<=r2.1/\r2.1 < (a1.1.2.2.2.1.length:Int) then ((a1.1.2.2.2.1[r2.1.toNat]?).bind λFq=>(a1.1.2.2.2.1[r2.1.toNat]?).bind λIv=>(sR.ab (Iv,a1.2.1.2.2.2.1,())).bind λEl=>(a1.1.2.2.2.1[r2.1.toNat]?).bind λHE=>(kJ.ab ((a1.1.1,a1.1.2.1,a1.1.2.2.1,a1.1.2.2.2.1.set r2.1.toNat El.2.1,a1.1.2.2.2.2),El.1,a1.2.1.2.1,())).bind λEh=>some (0,Eh.1,Eh.2.1,())) else none)<|cond (decide (a1.2.1.1=7)) ((tC.ab (a1.1,r2.1,5,())).bind λEi=>(qN.ab (Ei.2.1.2.2.1,())).bind λr19=>some (0,Ei.1,(Ei.2.1.1,Ei.2.1.2.1,r19.1,Ei.2.1.2.2.2),()))<|cond (decide (a1.2.1.1=8)) (if 0<=r2.1/\r2.1 < (a1.1.2.2.2.1.length:Int) then ((a1.1.2.2.2.1[r2.1.toNat]?).bind λVp=>(kJ.ab (a1.1,Vp.2.1,a1.2.1.2.1,())).bind λFs=>cond (!decide (Fs.1=0)) (some (0,Fs.1,Fs.2.1,()))<|(tC.ab (Fs.2.1,r2.1,6,())).bind λSe=>some (0,Se.1,Se.2.1,())) else none)<|cond (decide (a1.2.1.1=9)) ((kQ.ab (a1.1,())).bind λZx=>some (0,Zx.1,Zx.2.1,()))<|cond (!a1.2.2.1.2.1) (some (0,0,a1.1,()))<|(jY.ab (a1.1,a1.2.2.1.2.2.1,2,a1.2.1.2.1,())).bind λEg=>cond (!decide (Eg.1=0)) (some (0,Eg.1,Eg.2.1,()))<|(kA.ab (Eg.2.1.2.2.2.1,r2.1,a1.2.2.1.2.2.1,())).bind λZr=>some (0,0,(Eg.2.1.1,Eg.2.1.2.1,Eg.2.1.2.2.1,Zr.1,Eg.2.1.2.2.2.2),())
theorem af (a1:A):@Eq (Option O) (D.W k a1) (p a1):=Bye
theorem ok:Ok prog 97 D.sig:=al func97 ap Bye (fc qN.ok (fc lU.ok (fc pi.ok (fc kJ.ok (fc sR.ok (fc tC.ok (fc kQ.ok (fc jY.ok (fc kA.ok (aj _))))))))))
end km
namespace p_
abbrev A:=aw×Op×Unit
abbrev O:=pc×Unit
noncomputable def D:FD:={ fn:=f44,tl:=ba,ps:=[(.ro,e_),(.ro,(.ptr l7))],rs:=[(lJ,(ah lJ))],gl:=[(54,mh.D.sig),(71,sg.D.sig),(95,o3.D.sig),(96,tV.D.sig),(97,km.D.sig)],fz:=[(3,1,7),(3,4,7)],od:=[(3,[0,1,3,4,5,6,7,2,8,9,10])],ar:=[(3,[7])],pd:=[(3,[9])],er:=[(3,[(1,11),(4,11)])] }
def ab (a:A):Option O:=@lift O λk=>D.W k a
def p (a1:A):Option O:=cond (!a1.1.1) ((sg.ab (8,())).bind λr2=>some (r2.1,()))<|(mh.ab (a1.1.2.1,())).bind λr3=>(o3.ab (r3.1,a1.1.2.2.2.1,a1.2.1,())).bind λr4=>cond (!decide (r4.1.1=0)) ((sg.ab (r4.1.1,())).bind λr5=>some (r5.1,()))<|let HD:Option O:=(tV.ab (a1.1,())).bind λnJ=>(km.ab (nJ.1,a1.2.1,r4.1,())).bind λqb=>cond (!decide (qb.2.1=0)) ((sg.ab (qb.2.1,())).bind λzg=>some (zg.1,()))<|some ((0,qb.1,qb.2.2.1,()),());cond (!decide (a1.2.1.1=6)) (cond (!decide (a1.2.1.1=8)) (cond (decide (4000 < ae ((a1.1.2.2.1.1.length:Int)+(a1.1.2.2.1.2.1.length:Int)))) ((sg.ab (9,())).bind λr6=>some (r6.1,()))<|HD)<|HD)<|HD
theorem af (a1:A):@Eq (Option O) (D.W k a1) (p a1):=Bye
theorem ok:Ok prog 44 D.sig:=al func44 ap Bye (fc mh.ok (fc sg.ok (fc o3.ok (fc tV.ok (fc km.ok (aj _))))))
end p_
namespace mm
abbrev A:=(List Op)×Unit
abbrev O:=fi×Unit
abbrev P:=Option O
noncomputable def D:FD:={ fn:=f18,tl:=ba,ps:=[(.ro,(.aa l7))],rs:=[(qp,Btb)],gl:=[(44,p_.D.sig)],fz:=[(7,1,7)],lv:=[(5,[0,2,3,4])],lx:=[(0,[2,3])],lf:=[(5,[(3,Bt8)])],od:=[(7,[0,1,2,3,4,5,6,7])],ar:=[(7,[])],pd:=[(7,[6])],er:=[(7,[(1,8)])] }
def ab (a:A):P:=@lift O λk=>D.W k a
variable (a1:A)
def T0 (U:fi×Int):St:={ n:=45,sl:=[(0,.val (.aa l7) a1.1),(2,.box qp (ai qp) [] ((0:Int),([]:List Int),([]:List Int),(false,([]:List Byt),(([]:Byt),([]:Byt),()),([]:List Tx),(0:Int),()),())),(3,.box qp Btb [] U.1),(4,.val i64 U.2)],vr:=[],az:=[] }
def b0 (self:(fi×Int)->P) (e0:fi->P) (a1:A) (U:fi×Int):P:=cond (decide (U.2 < (a1.1.length:Int))) (if 0<=U.2 then ((a1.1[U.2.toNat]?).bind λbg=>(p_.ab (U.1.2.2.2.1,bg,())).bind λbr=>if U.1.2.1.length+[br.1.1].length<=be then (if U.1.2.2.1.length+[br.1.2.1].length<=be then (cond (decide (br.1.1=0)) (self ((U.1.1,U.1.2.1++[br.1.1],U.1.2.2.1++[br.1.2.1],br.1.2.2.1,U.1.2.2.2.2),ae (U.2+1)))<|self ((U.1.1,U.1.2.1++[br.1.1],U.1.2.2.1++[br.1.2.1],U.1.2.2.2),ae (U.2+1))) else none) else none) else none)<|e0 U.1
def q0 (a1:A) (fm:fi):P:=some (fm,())
def r0:(fi×Int)->P:=ao (λw v=>b0 w (q0 a1) a1 v) k
theorem av:@Eq ((fi×Int)->P) (λU=>D.L k [1,1,1,0,1,0,0] [0,2,3,4] [(3,Bt8)] (ak 0 (ax (D.N k [1,1,1,1]) D.K0)) (T0 a1 U)) (r0 k a1):=
 funext λU=>aq _ _ _ (T0 a1) _ (λrec v=>Bye) k U
def p (l0:(fi×Int)->P) (a1:A):P:=cond (decide (60 < (a1.1.length:Int))) (some ((2,([]:List Int),([]:List Int),(false,([]:List Byt),(([]:Byt),([]:Byt),()),([]:List Tx),0,()),()),()))<|l0 ((0,([]:List Int),([]:List Int),(true,([]:List Byt),(([]:Byt),([]:Byt),()),([]:List Tx),1,()),()),0)
theorem af:@Eq P (D.W k a1) (p (r0 k a1) a1):=By8 (av k a1) Bye
theorem ok:Ok prog 18 D.sig:=al func18 ap Bye (fc p_.ok (aj _))
end mm
namespace mn
abbrev A:=(List Op)×Unit
abbrev O:=iu×Unit
abbrev P:=Option O
noncomputable def D:FD:={ fn:=f19,tl:=ba,ps:=[(.ro,(.aa l7))],rs:=[(qY,Btc)],gl:=[(45,lO.D.sig)],fz:=[(7,1,7)],lv:=[(5,[0,2,3,4])],lx:=[(0,[2,3])],lf:=[(5,[(3,Bty)])],od:=[(7,[0,1,2,3,4,5,6,7,8])],ar:=[(7,[5])],pd:=[(7,[7])],er:=[(7,[(1,9)])] }
def ab (a:A):P:=@lift O λk=>D.W k a
variable (a1:A)
def T0 (U:iu×Int):St:={ n:=46,sl:=[(0,.val (.aa l7) a1.1),(2,.box qY (ai qY) [] ((0:Int),([]:List Int),([]:List Int),(([]:List Row),([]:List Tx),(0:Int),()),())),(3,.box qY Btc [] U.1),(4,.val i64 U.2)],vr:=[],az:=[] }
def b0 (self:(iu×Int)->P) (e0:iu->P) (a1:A) (U:iu×Int):P:=cond (decide (U.2 < (a1.1.length:Int))) (if 0<=U.2 then ((a1.1[U.2.toNat]?).bind λbg=>(lO.ab (U.1.2.2.2.1,bg,())).bind λbr=>if U.1.2.1.length+[br.1.1].length<=be then (if U.1.2.2.1.length+[br.1.2.1].length<=be then (cond (decide (br.1.1=0)) (self ((U.1.1,U.1.2.1++[br.1.1],U.1.2.2.1++[br.1.2.1],br.1.2.2.1,U.1.2.2.2.2),ae (U.2+1)))<|self ((U.1.1,U.1.2.1++[br.1.1],U.1.2.2.1++[br.1.2.1],U.1.2.2.2),ae (U.2+1))) else none) else none) else none)<|e0 U.1
def q0 (a1:A) (fm:iu):P:=some (fm,())
def r0:(iu×Int)->P:=ao (λw v=>b0 w (q0 a1) a1 v) k
theorem av:@Eq ((iu×Int)->P) (λU=>D.L k [1,1,1,0,1,0,0] [0,2,3,4] [(3,Bty)] (ak 0 (ax (D.N k [1,1,1,1]) D.K0)) (T0 a1 U)) (r0 k a1):=
 funext λU=>aq _ _ _ (T0 a1) _ (λrec v=>Bye) k U
def p (l0:(iu×Int)->P) (a1:A):P:=cond (decide (60 < (a1.1.length:Int))) (some ((2,([]:List Int),([]:List Int),(([]:List Row),([]:List Tx),0,()),()),()))<|l0 ((0,([]:List Int),([]:List Int),(([]:List Row),([]:List Tx),1,()),()),0)
theorem af:@Eq P (D.W k a1) (p (r0 k a1) a1):=By8 (av k a1) Bye
theorem ok:Ok prog 19 D.sig:=al func19 ap Bye (fc lO.ok (aj _))
end mn
namespace sS
abbrev A:=Int×Unit
abbrev O:=pc×Unit
noncomputable def D:FD:={ fn:=f20,tl:=ba,ps:=[(.ro,i64)],rs:=[(lJ,(ai lJ))],gl:=[(46,cc.D.sig)] }
def ab (a:A):Option O:=@lift O λk=>D.W k a
def p (a1:A):Option O:=(cc.ab (a1.1,1,100,())).bind λr2=>cond (!r2.1) (some ((3,0,(false,([]:List Byt),(([]:Byt),([]:Byt),()),([]:List Tx),0,()),()),()))<|some ((0,0,(true,([]:List Byt),(([]:Byt),([]:Byt),()),([]:List Tx),a1.1,()),()),())
theorem af (a1:A):@Eq (Option O) (D.W k a1) (p a1):=Bye
theorem ok:Ok prog 20 D.sig:=al func20 ap Bye (fc cc.ok (aj _))
end sS
namespace sT
abbrev A:=Int×Unit
abbrev O:=pe×Unit
noncomputable def D:FD:={ fn:=f21,tl:=ba,ps:=[(.ro,i64)],rs:=[(k_,(ai k_))],gl:=[(36,ee.D.sig)] }
def ab (a:A):Option O:=@lift O λk=>D.W k a
def p (a1:A):Option O:=(ee.ab (a1.1,1,100,())).bind λr2=>cond (!r2.1) (some ((3,0,(([]:List Row),([]:List Tx),0,()),()),()))<|some ((0,0,(([]:List Row),([]:List Tx),a1.1,()),()),())
theorem af (a1:A):@Eq (Option O) (D.W k a1) (p a1):=Bye
theorem ok:Ok prog 21 D.sig:=al func21 ap Bye (fc ee.ok (aj _))
end sT
namespace sU
abbrev A:=Int×Unit
abbrev O:=pe×Unit
noncomputable def D:FD:={ fn:=f22,tl:=ba,ps:=[(.ro,i64)],rs:=[(k_,(ai k_))],gl:=[(46,cc.D.sig)] }
def ab (a:A):Option O:=@lift O λk=>D.W k a
def p (a1:A):Option O:=(cc.ab (a1.1,1,100,())).bind λr2=>cond (!r2.1) (some ((3,0,(([]:List Row),([]:List Tx),0,()),()),()))<|some ((0,0,(([]:List Row),([]:List Tx),a1.1,()),()),())
theorem af (a1:A):@Eq (Option O) (D.W k a1) (p a1):=Bye
theorem ok:Ok prog 22 D.sig:=al func22 ap Bye (fc cc.ok (aj _))
end sU
namespace jb
abbrev A:=Byt×Unit
abbrev O:=Bool×Unit
abbrev P:=Option O
abbrev ps:PQ:=[(.ro,(.aa u8))]
noncomputable def D:FD:={ fn:=f3,tl:=ba,ps:=ps,rs:=[(.bool,(ah .bool))],gl:=[(7,xS.D.sig),(8,lR.D.sig),(9,lH.D.sig),(10,rC.D.sig),(11,gm.D.sig),(12,pB.D.sig),(13,mg.D.sig),(14,pD.D.sig),(15,pW.D.sig),(16,uB.D.sig),(17,nv.D.sig),(18,mm.D.sig),(19,mn.D.sig),(20,sS.D.sig),(21,sT.D.sig),(22,sU.D.sig)],fz:=[(3,2,0)],lv:=[(7,[0,3,4,5,6])],lx:=[(0,[0,4,5])],od:=[(9,[0,1,2,3,4,5,6,7]),(10,[0,1,2,3,4,5,6,7,8,9,10,11,12,13,14,15,16,17,18,19,20,21,22,23,24,25,26,27,28,29,30,31]),(18,[0,2,3,1,4,5,6,7,8,9,10,11,12,13,14,15,16,17,18,19,20,21,22,23,24,25,26,27,28,29,30,31,32,33,34,35,36,37,38,39,40,41,42,43,44,47,45,46,48,49,50,51,52,53,56,54,55,57,58,59,60,61])],ar:=[(9,[4]),(18,[0,3,8,11,16,19,24,29,37])],bx:=[(18,[4,5,9,10])],pd:=[(9,[6])],er:=[(9,[(0,8)])] }
def ab (a:A):P:=@lift O λk=>D.W k a
variable (a1:A)
def T0 (td:List Op) (we:fi) (tW:aw×Int):St:={ n:=138,sl:=[(0,.val (.aa u8) a1.1),(3,.val (.aa l7) td),(4,.box qp (ai qp) [] we),(5,.box e_ (ai e_) [] tW.1),(6,.val i64 tW.2)],vr:=[],az:=[] }
def b0 (self:(aw×Int)->P) (e0:aw->P) (a1:A) (td:List Op) (we:fi) (tW:aw×Int):P:=cond (decide (tW.2 < (td.length:Int))) (if 0<=tW.2 then ((td[tW.2.toNat]?).bind λabs=>(gm.ab (tW.1,abs,())).bind λtP=>cond (decide ((we.2.1.length:Int)<=tW.2)) (some (false,()))<|cond (decide ((we.2.2.1.length:Int)<=tW.2)) (some (false,()))<|if 0<=tW.2/\tW.2 < (we.2.1.length:Int) then ((we.2.1[tW.2.toNat]?).bind λGE=>cond (!decide (tP.1.1=GE)) (some (false,()))<|if 0<=tW.2/\tW.2 < (we.2.2.1.length:Int) then ((we.2.2.1[tW.2.toNat]?).bind λLc=>cond (!decide (tP.1.2.1=Lc)) (some (false,()))<|cond (decide (tP.1.1=0)) (self (tP.1.2.2.1,ae (tW.2+1)))<|self (tW.1,ae (tW.2+1))) else none) else none) else none)<|e0 tW.1
def q0 (td:List Op) (we:fi) (Xm:aw):P:=(pB.ab (a1.1,())).bind λzR=>(lH.ab (zR.1,())).bind λOa=>(mg.ab (zR.1,())).bind λN_=>(pD.ab (a1.1,())).bind λGF=>(uB.ab (Xm,())).bind λOb=>(uB.ab (we.2.2.2.1,())).bind λyp=>(pW.ab (Ob.1,yp.1,())).bind λabh=>cond abh.1 ((nv.ab (Xm.2.1,we.2.2.2.1.2.1,())).bind λSc=>cond Sc.1 (cond (decide (Xm.2.2.2.2.1=we.2.2.2.1.2.2.2.2.1)) (cond (decide (1 < Xm.2.2.2.2.1)) ((mm.ab (zR.1,())).bind λWV=>cond (decide (Oa.1.1=WV.1.1)) ((mn.ab (zR.1,())).bind λah9=>cond (decide (N_.1.1=ah9.1.1)) ((rC.ab (GF.1,())).bind λah_=>(sS.ab (GF.1,())).bind λaia=>cond (decide (ah_.1.1=aia.1.1)) ((sT.ab (GF.1,())).bind λaib=>(sU.ab (GF.1,())).bind λaic=>some (decide (aib.1.1=aic.1.1),()))<|some (false,()))<|some (false,()))<|some (false,()))<|some (false,()))<|some (false,()))<|some (false,()))<|some (false,())
def r0:(List Op)->fi->(aw×Int)->P:=λtd we=>ao (λw v=>b0 w (q0 a1 td we) a1 td we v) k
theorem av:@Eq ((List Op)->fi->(aw×Int)->P) (λtd we=>λtW=>D.L k [1,1,1,1,1,0,1,0,0] [0,3,4,5,6] [] (ak 0 (ax (D.N k [1,1,1,1,1,1]) D.K0)) (T0 a1 td we tW)) (r0 k a1):=
 funext λtd=>funext λwe=>funext λtW=>aq _ _ _ (T0 a1 td we) _ (λrec v=>Bye) k tW
def p (l0:(List Op)->fi->(aw×Int)->P) (a1:A):P:=(xS.ab (a1.1,())).bind λr2=>cond r2.1 (some (true,()))<|(lR.ab (a1.1,5,())).bind λr3=>(lH.ab (r3.1,())).bind λr4=>(rC.ab (1,())).bind λr5=>l0 r3.1 r4.1 (r5.1.2.2.1,0)
theorem af:@Eq P (D.W k a1) (p (r0 k a1) a1):=By8 (av k a1) Bye
theorem ok:Ok prog 3 D.sig:=al func3 ap Bye (fc xS.ok (fc lR.ok (fc lH.ok (fc rC.ok (fc gm.ok (fc pB.ok (fc mg.ok (fc pD.ok (fc pW.ok (fc uB.ok (fc nv.ok (fc mm.ok (fc mn.ok (fc sS.ok (fc sT.ok (fc sU.ok (aj _)))))))))))))))))
end jb
end
end OT
set_option linter.unusedSimpArgs false
namespace OT
open Go
theorem o5 (a b c:Int):cc.ab (a,b,c,())=some (decide (b<=a)&&decide (a<=c),()):=by
 refine ag (k:=0) λk _=>(cc.af k _).trans ?_;show cc.p _=_;unfold cc.p;by_cases h:b<=a <;> simp[h]
theorem rJ (a b c:Int):ee.ab (a,b,c,())=some (decide (b<=a)&&decide (a<=c),()):=by
 refine ag (k:=0) λk _=>(ee.af k _).trans ?_;show ee.p _=_;unfold ee.p;by_cases h:b<=a <;> simp[h]
theorem Og (a:Int):pJ.ab (a,())=some (decide (1<=a)&&decide (a<=99),()):=by
 refine ag (k:=0) λk _=>(pJ.af k _).trans ?_;show pJ.p _=_;unfold pJ.p;simp[rJ]
def dr (a b c:Int):Bool:=decide (b<=a)&&decide (a<=c)
theorem nl (s:List UInt8) (h:s.length<=200000000000):cj.ab (s,())=some (s,()):=by
 refine ag (k:=0) λk _=>(cj.af k _).trans ?_;show cj.p _=_;unfold cj.p;have:([]:List UInt8).length+s.length<=be:=cr (by simpa using h);rw[aH this,cJ]
theorem pY (s:List UInt8) (h:s.length<=200000000000):db.ab (s,())=some (s,()):=by
 refine ag (k:=0) λk _=>(db.af k _).trans ?_;show db.p _=_;unfold db.p;have:([]:List UInt8).length+s.length<=be:=cr (by simpa using h);rw[aH this,cJ]
theorem ik {S O α:Type} {g:S->α->S} {fin:S->O}:∀ (xs:List α) (i:Nat) (s:S),bu (λ_ s x=>.inr (g s x)) fin i xs s=fin (xs.foldl g s)
 | [],_,_=>rfl
 | x::xs,i,s=>by simp only[bu,eS];exact ik xs _ _
theorem Bz {α:Type}:∀ (xs s:List α),xs.foldl (λs x=>s++[x]) s=s++xs
 | [],s=>by simp
 | x::xs,s=>by rw[eS,Bz];simp
abbrev pv:Type:=List (List UInt8)
def gp (ps:pv):Prop:=ps.length<=12/\∀ p ∈ ps,p.length=64
def wg:List UInt8:=((List.replicate 64 (0:UInt8)).set 0 0).set 1 64
theorem Ds:wg.length=64:=by simp[wg]
theorem HF (ps:pv) (h:gp ps):mM.ab (ps,())=some (ps,()):=by
 obtain ⟨h1,h2⟩:=h;refine ag (k:=14) λk hk=>(mM.af k _).trans ?_
 have:=cy (B:=λself v=>mM.b0 self (λz=>mM.q0 (ps,()) z) (ps,()) v) ps (λ(s:pv) (i:Int)=>(s,i)) (λ_ s x=>.inr (s++[x])) (λs=>(s,())) (λi s=>s.length=i) (by rw[an];omega)
  (λi hi s self hI=>by
   show mM.b0 _ _ _ _=_;unfold mM.b0;have bc:(i:Int) < (ps.length:Int):=by omega
   have hx:=h2 ps[i] (aJ hi);simp only[bc,aP,aM,aR,aL,aD,aB hi,aA];rw[nl _ Bys];have hc:s.length+[ps[i]].length<=be:=cr (by simp only[bI,cE];omega)
   simp only[aA,hc,aL])
  (λi hi s s' hI hs=>by injection hs with hs;rw[<-hs];simp[hI]) (λs self hI=>by
   show mM.b0 _ _ _ _=_;unfold mM.b0;simp only[aY,aI,aE]
   rfl) [] rfl k Bys
 rw[ik,Bz] at this;exact this
theorem B5 (ps:pv) (h:gp ps):kN.ab (ps,())=some (ps,()):=by
 obtain ⟨h1,h2⟩:=h;refine ag (k:=14) λk hk=>(kN.af k _).trans ?_
 have:=cy (B:=λself v=>kN.b0 self (λz=>kN.q0 (ps,()) z) (ps,()) v) ps (λ(s:pv) (i:Int)=>(s,i)) (λ_ s x=>.inr (s++[x])) (λs=>(s,())) (λi s=>s.length=i) (by rw[an];omega)
  (λi hi s self hI=>by
   show kN.b0 _ _ _ _=_;unfold kN.b0;have bc:(i:Int) < (ps.length:Int):=by omega
   have hx:=h2 ps[i] (aJ hi);simp only[bc,aP,aM,aR,aL,aD,aB hi,aA];rw[pY _ Bys];have hc:s.length+[ps[i]].length<=be:=cr (by simp only[bI,cE];omega)
   simp only[aA,hc,aL])
  (λi hi s s' hI hs=>by injection hs with hs;rw[<-hs];simp[hI]) (λs self hI=>by
   show kN.b0 _ _ _ _=_;unfold kN.b0;simp only[aY,aI,aE]
   rfl) [] rfl k Bys
 rw[ik,Bz] at this;exact this
def BA (c:UInt8):Bool:=!decide ((c.toNat:Int) < 97)&&!decide ((122:Int) < (c.toNat:Int))
def A_ (s:List UInt8):Bool:=s.all BA&&decide (s.length<=8)
def gz (x:Row):Int:=if dr x.1 0 3&&(dr x.2.1 1 99&&dr x.2.2.1 0 999) then (if A_ x.2.2.2.1 then 0 else 5) else 3
theorem len8 (s:List UInt8):decide ((s.length:Int)<=8)=decide (s.length<=8):=by
 grind
theorem T6 (s:List UInt8) (h:s.length<=maxLen):pV.ab (s,())=some (A_ s,()):=by
 refine ag (k:=s.length+1) λk hk=>(pV.af k _).trans ?_
 have:=cy (B:=λself v=>pV.b0 self (λz=>pV.q0 (s,()) z) (s,()) v) s (λ(_:Unit) (i:Int)=>i) (λ_ _ x=>if BA x then .inr () else .inl (false,())) (λ_=>(decide (s.length<=8),())) (λ_ _=>True) h
  (λi hi _ self _=>by
   grind [pV.b0,BA]) (λ_ _ _ _ _ _=>trivial) (λ_ self _=>by
   grind [pV.b0,pV.q0,len8]) () trivial k Bys
 refine this.trans ?_;rw[vZ BA (false,()) (λ_=>(decide (s.length<=8),()))];grind [A_]
theorem z7 (x:Row) (h:List.length x.2.2.2.1<=maxLen):g_.ab (x,())=some (gz x,()):=by
 refine ag (k:=0) λk _=>(g_.af k _).trans ?_;show g_.p _=_;unfold g_.p gz dr;simp only[o5,T6 _ h,aA];grind
theorem z8 (x:Row) (h:List.length x.2.2.2.1<=maxLen):d9.ab (x,())=some (gz x,()):=by
 refine ag (k:=List.length x.2.2.2.1+1) λk hk=>(d9.af k _).trans ?_
 have:=cy (B:=λself v=>d9.b0 self (λz=>d9.q0 (x,()) z) (x,()) v) x.2.2.2.1 (λ(_:Unit) (i:Int)=>i) (λ_ _ c=>if BA c then .inr () else .inl (5,())) (λ_=>(0,())) (λ_ _=>True) h
  (λi hi _ self _=>by
   grind [d9.b0,BA]) (λ_ _ _ _ _ _=>trivial) (λ_ self _=>by
   grind [d9.b0,d9.q0]) () trivial k Bys
 rw[vZ BA (5,()) (λ_=>(0,()))] at this;have this:d9.r0 k (x,()) 0=_:=this;unfold d9.p gz dr A_;simp only[rJ,this,aA]
 have h8:decide ((8:Int) < (List.length x.2.2.2.1:Int))=!decide (List.length x.2.2.2.1<=8):=by
  grind
 rw[h8];cases decide ((0:Int)<=x.1) <;> cases decide (x.1<=3) <;> cases decide ((1:Int)<=x.2.1) <;> cases decide (x.2.1<=99) <;> cases decide ((0:Int)<=x.2.2.1) <;> cases decide (x.2.2.1<=999) <;> cases decide (List.length x.2.2.2.1<=8) <;> cases (x.2.2.2.1).all BA <;> rfl
def rl (x:Row):Prop:=List.length x.2.2.2.1<=maxLen
def cl (c:Change):Prop:=rl c.2.1/\rl c.2.2.2.1
def sameKey (a b:Row):Bool:=decide (a.1=b.1)&&decide (a.2.1=b.2.1)
def jZ (a b:Int×Int):Bool:=decide (a.1 < b.1)||(decide (a.1=b.1)&&decide (a.2 < b.2))
def lg (c:Change):Int:=if (!c.1&&!c.2.2.1)||(c.1&&c.2.2.1&&!sameKey c.2.1 c.2.2.2.1) then 1 else if c.1&&!decide (gz c.2.1=0) then gz c.2.1 else if c.2.2.1 then gz c.2.2.2.1 else 0
def Em (c:Change):Int:=if lg c=0 then (if c.1&&c.2.2.1&&Ty.eq ay c.2.1 c.2.2.2.1 then 1 else 0) else lg c
def ck (c:Change):Int×Int:=if c.2.2.1 then (c.2.2.2.1.1,c.2.2.2.1.2.1) else (c.2.1.1,c.2.1.2.1)
theorem Qf (c:Change) (h:cl c):rD.ab (c,())=some (lg c,()):=by
 refine ag (k:=0) λk _=>(rD.af k _).trans ?_;show rD.p _=_;unfold rD.p lg sameKey;simp only[z7 _ h.1,z7 _ h.2,aA];grind
theorem EQ (a b:Row):lC.ab (a,b,())=some (jZ (a.1,a.2.1) (b.1,b.2.1),()):=by
 refine ag (k:=0) λk _=>(lC.af k _).trans ?_;grind [lC.p,jZ]
theorem GI (a b:Row):nS.ab (a,b,())=some (if jZ (a.1,a.2.1) (b.1,b.2.1) then -1 else if jZ (b.1,b.2.1) (a.1,a.2.1) then 1 else 0,()):=by
 refine ag (k:=0) λk _=>(nS.af k _).trans ?_;grind [nS.p,EQ]
theorem MO (a b:Row):decide ((if jZ (a.1,a.2.1) (b.1,b.2.1) then (-1:Int) else if jZ (b.1,b.2.1) (a.1,a.2.1) then 1 else 0)=0)=sameKey a b:=by
 grind [jZ,sameKey]
theorem B6 (c:Change) (h:cl c):jq.ab (c,())=some (lg c,()):=by
 refine ag (k:=0) λk _=>(jq.af k _).trans ?_;show jq.p _=_;unfold jq.p lg;simp only[z8 _ h.1,z8 _ h.2,GI,aA,MO];grind
theorem Oh (c:Change) (h:cl c):sQ.ab (c,())=some (Em c,()):=by
 refine ag (k:=0) λk _=>(sQ.af k _).trans ?_;grind [sQ.p,Em,Qf]
theorem Ph (c:Change) (h:cl c):mL.ab (c,())=some (Em c,()):=by
 refine ag (k:=0) λk _=>(mL.af k _).trans ?_;grind [mL.p,Em,B6]
theorem z_ (c:Change):lk.ab (c,())=some ((ck c).1,(ck c).2,()):=by
 refine ag (k:=0) λk _=>(lk.af k _).trans ?_;grind [lk.p,ck]
def BB (c:Change):Row:=if c.2.2.1 then c.2.2.2.1 else c.2.1
theorem zh (c:Change):((BB c).1,(BB c).2.1)=ck c:=by grind [BB,ck]
theorem xV (c:Change):du.ab (c,())=some (BB c,()):=by
 refine ag (k:=0) λk _=>(du.af k _).trans ?_;grind [du.p,BB]
theorem QB (n:Nat) (m:Nat):decide ((m:Int) < (n:Int))=decide (m < n):=by
 grind
theorem MP {i:Nat} (hi:0 < i) (h:i<=maxLen):ae ((i:Int) - 1)=((i - 1:Nat):Int):=by
 grind [an,bf]
theorem ff {V S O α:Type} {B:(V->Option O)->V->Option O} (xs:List α) (enc:S->Int->V) (f:Nat->S->α->Sum (Option O) S) (fin:S->Option O) (I:Nat->S->Prop) (K1:xs.length<=maxLen)
  (gb:∀ (i:Nat) (hi:i < xs.length) (s:S) self,I i s->B self (enc s (i:Int))=match f i s xs[i] with | .inl o=>o | .inr s'=>self (enc s' (ae ((i:Int)+1))))
  (hI:∀ (i:Nat) (hi:i < xs.length) (s s':S),I i s->f i s xs[i]=.inr s'->I (i+1) s')
  (qW:∀ (s:S) self,I xs.length s->B self (enc s (xs.length:Int))=fin s) (s:S) (h0:I 0 s):∀ k,xs.length < k->ao B k (enc s 0)=bu f fin 0 xs s:=by
 have main:∀ (m i:Nat) (s:S),xs.length - i=m->i<=xs.length->I i s->∀ k,m < k->ao B k (enc s (i:Int))=bu f fin i (xs.drop i) s:=by
  intro m
  induction m with
  | zero=>
   intro i s hm hi hs k hk;have vP:i=xs.length:=by omega
   subst vP;cases k <;> grind [ao,bu]
  | succ m ih=>
   intro i s hm hi hs k hk;have bc:i < xs.length:=by omega
   cases k <;> grind [ao,List.drop_eq_getElem_cons,bu,bf,an]
 intro k hk
 simpa using main xs.length 0 s Bys Bys h0 k hk
theorem uW {O α:Type} (p:α->Bool) (a:O) (fin:Unit->O):∀ (xs:List α) (i:Nat),bu (λ_ _ x=>if p x then .inl a else .inr ()) fin i xs ()=if xs.any p then a else fin ()
 | [],_=>rfl
 | x::xs,i=>by
  simp only[bu,gL];by_cases h:p x=true
  ·simp[h]
  ·simp[h,uW p a fin xs (i+1)]
def wI {α:Type} (p:α->Bool):Nat->List α->Int
 | _,[]=>-1
 | i,x::xs=>if p x then (i:Int) else wI p (i+1) xs
theorem Cv {α:Type} (p:α->Bool):∀ (xs:List α) (i:Nat),bu (λi _ x=>if p x then .inl ((i:Int),()) else .inr ()) (λ_=>((-1:Int),())) i xs ()=(wI p i xs,())
 | [],_=>rfl
 | x::xs,i=>by
  simp only[bu,wI];by_cases h:p x=true
  ·simp[h]
  ·simp[h,Cv p xs (i+1)]
theorem Pi {α:Type} (p:α->Bool):∀ (xs:List α) (i:Nat),decide (0<=wI p i xs)=xs.any p
 | [],_=>rfl
 | x::xs,i=>by
  simp only[wI,gL];by_cases h:p x=true
  ·simp[h]
  ·simp[h,Pi p xs (i+1)]
theorem GJ {α:Type} (p:α->Bool):∀ (xs:List α) (i:Nat),0<=wI p i xs->∃ (j:Nat) (hj:j < xs.length),wI p i xs=((i+j:Nat):Int)/\p xs[j]=true
 | [],_,h=>by simp[wI] at h
 | x::xs,i,h=>by
  simp only[wI] at h ⊢;by_cases hp:p x=true
  ·exact ⟨0,by simp,by simp[hp],hp⟩
  ·rw[aN hp] at h ⊢;obtain ⟨j,hj,h1,h2⟩:=GJ p xs (i+1) h;exact ⟨j+1,by simp;omega,by rw[h1];omega,by simpa using h2⟩
theorem Ba (a b:Key):Ty.eq bk a b=decide (a=b):=by
 obtain ⟨a1,a2,⟨⟩⟩:=a;obtain ⟨b1,b2,⟨⟩⟩:=b;show (decide (a1=b1)&&(decide (a2=b2)&&true))=decide ((a1,a2,())=(b1,b2,()));grind
def jT (c:Change):Key:=((ck c).1,(ck c).2,())
def jy (ks:List Key) (k:Key):Bool:=ks.any λx=>decide (x=k)
theorem o6 {ks:List Key} {k:Key}:jy ks k=true↔k ∈ ks:=by simp[jy]
def yG (k:Key):Bool:=dr k.1 0 3&&dr k.2.1 1 99
theorem Iw (c:Change):og.ab (c,())=some (jT c,()):=by
 refine ag (k:=0) λk _=>(og.af k _).trans ?_;show og.p _=_;unfold og.p;simp only[z_,aA];rfl
theorem Oi (c:Change):jr.ab (c,())=some (jT c,()):=by
 refine ag (k:=0) λk _=>(jr.af k _).trans ?_;grind [jr.p,jT,xV,zh]
theorem T7 (x:Key):uT.ab (x,())=some (yG x,()):=by
 refine ag (k:=0) λk _=>(uT.af k _).trans ?_;grind [uT.p,yG,dr,o5]
theorem abt (x:Key):v_.ab (x.1,x.2.1,())=some (yG x,()):=by
 refine ag (k:=0) λk _=>(v_.af k _).trans ?_;grind [v_.p,yG,dr,rJ]
theorem Lf (x:Tx) (k0:Key) (h:List.length x.2.2.2.1<=maxLen):jJ.ab (x,k0,())=some (jy x.2.2.2.1 k0,()):=by
 refine ag (k:=List.length x.2.2.2.1+1) λk hk=>(jJ.af k _).trans ?_
 have:=cy (B:=λself v=>jJ.b0 self (λz=>jJ.q0 (x,k0,()) z) (x,k0,()) v) x.2.2.2.1 (λ(_:Unit) (i:Int)=>i) (λ_ _ y=>if decide (y=k0) then .inl (true,()) else .inr ()) (λ_=>(false,())) (λ_ _=>True) h
  (λi hi s self _=>by
   grind [jJ.b0,Ba])
  (λ_ _ _ _ _ _=>trivial) (λs self _=>by
   show jJ.b0 _ _ _ _=_;unfold jJ.b0;simp only[aY,aI,aE]
   rfl) () trivial k Bys
 rw[uW] at this;refine aV this ?_;grind [jy]
theorem contains_eq (ks:List Key) (k0:Key) (h:ks.length<=maxLen):gv.ab (ks,k0,())=some (jy ks k0,()):=by
 have hix:lK.ab (ks,k0,())=some (wI (λy=>decide (k0=y)) 0 ks,()):=by
  refine ag (k:=ks.length+1) λk hk=>(lK.af k _).trans ?_
  have:=cy (B:=λself v=>lK.b0 self (λz=>lK.q0 (ks,k0,()) z) (ks,k0,()) v) ks (λ(_:Unit) (i:Int)=>i) (λi _ y=>if decide (k0=y) then .inl ((i:Int),()) else .inr ()) (λ_=>((-1:Int),())) (λ_ _=>True) h
   (λi hi s self _=>by
    grind [lK.b0,Ba])
   (λ_ _ _ _ _ _=>trivial) (λs self _=>by
    show lK.b0 _ _ _ _=_;unfold lK.b0;simp only[aY,aI,aE]
    rfl) () trivial k Bys
  rw[Cv] at this;exact this
 refine ag (k:=0) λk _=>(gv.af k _).trans ?_;grind [gv.p,Pi,jy]
def tl (x:Tx):Prop:=List.length x.2.1<=1048576/\List.length x.2.2.1<=1048576/\List.length x.2.2.2.1<=1048576/\∀ c ∈ x.2.1,cl c
def xe (ks:List Key) (c:Change):Int:=if Em c=0 then (if jy ks (jT c) then 0 else 8) else Em c
def Ix (n last:Int) (ms:List Int):Bool:=bu (λ_ last m=>if dr m last n then .inr m else .inl false) (λ_=>true) 0 ms last
def sh (ks:List Key) (i:Nat) (k:Key):Int:=if yG k then (if jy (ks.take i) k then 6 else 0) else 3
def wJ (ks:List Key):Int:=bu (λi (_:Unit) k=>if sh ks i k=0 then .inr () else .inl (sh ks i k)) (λ_=>(0:Int)) 0 ks ()
def uD (x:Tx):Int:=if decide (8 < List.length x.2.2.1)||decide (12 < List.length x.2.2.2.1) then 2 else if Ix (List.length x.2.1:Int) 0 x.2.2.1 then wJ x.2.2.2.1 else 3
def En (x:Tx):Int:=pQ (xe x.2.2.2.1) x.2.1
theorem Sh (n:Int) (E:Option (Int×Unit)):∀ (ms:List Int) (i:Nat) (last:Int),bu (λ_ last m=>if dr m last n then .inr m else .inl (some ((3:Int),()))) (λ_=>E) i ms last=if bu (λ_ last m=>if dr m last n then .inr m else .inl false) (λ_=>true) i ms last then E else some ((3:Int),())
 | [],_,_=>rfl
 | m::ms,i,last=>by
  simp only[bu];by_cases hb:dr m last n=true
  ·simp only[hb,aL];exact Sh n E ms _ _
  ·simp[hb]
theorem T8 (x:Tx) (h:tl x):oh.ab (x,())=some (En x,()):=by
 obtain ⟨h1,h2,h3,h4⟩:=h;refine ag (k:=List.length x.2.1+1) λk hk=>(oh.af k _).trans ?_
 have:=cy (B:=λself v=>oh.b0 self (λz=>oh.q0 (x,()) z) (x,()) v) x.2.1 (λ(_:Unit) (i:Int)=>i) (λ_ _ c=>if xe x.2.2.2.1 c=0 then .inr () else .inl (xe x.2.2.2.1 c,())) (λ_=>(0,())) (λ_ _=>True) (by rw[an];omega)
  (λi hi s self _=>by
   show oh.b0 _ _ _ _=_;unfold oh.b0;have bc:(i:Int) < (List.length x.2.1:Int):=by omega
   simp only[bc,aP,aM,aR,aL,aD,aB hi,aA,Oh _ (h4 _ (aJ hi)),Iw]
   grind [Lf,an,xe])
  (λ_ _ _ _ _ _=>trivial) (λs self _=>by
   show oh.b0 _ _ _ _=_;unfold oh.b0;simp only[aY,aI,aE]
   rfl) () trivial k Bys
 rw[Gx (xe x.2.2.2.1) (λc=>(c,())) (λ_=>((0:Int),()))] at this;refine aV this ?_;grind [En]
theorem abu {m last n:Int} (h:0<=last):(dr m 0 n&&decide (last<=m))=dr m last n:=by
 grind [dr]
theorem Si (x:Tx) (h:tl x):dt.ab (x,())=some (uD x,()):=by
 obtain ⟨h1,h2,h3,h4⟩:=h;refine ag (k:=20) λk hk=>(dt.af k _).trans ?_;unfold dt.p uD;by_cases hm:8 < List.length x.2.2.1
 ·grind
 have hm':¬ (8:Int) < (List.length x.2.2.1:Int):=by omega
 by_cases oC:12 < List.length x.2.2.2.1
 ·grind
 have U9:¬ (12:Int) < (List.length x.2.2.2.1:Int):=by omega
 simp only[hm,hm',U9,oC,aI,aE,gW,aF,aU]
 have second:dt.r1 k (x,()) (x,(0:Int))=some (wJ x.2.2.2.1,()):=by
  have inner:∀ (self:(Tx×Int)->Option dt.O) (e2:Unit->Option dt.O) (i:Nat) (hi:i < List.length x.2.2.2.1),dt.r2 k self e2 (x,()) x (i:Int) (0:Int)=if jy (x.2.2.2.1.take i) (x.2.2.2.1)[i] then some ((6:Int),()) else self (x,ae ((i:Int)+1)):=λself e2 i hi=>by
   have mY:(x.2.2.2.1.take i).length=i:=by simp;omega
   have:=ff (B:=λko v=>dt.b2 ko (λz=>dt.q1 self e2 (x,()) x (i:Int) z) (x,()) x (i:Int) v) (x.2.2.2.1.take i) (λ(_:Unit) (j:Int)=>j) (λ_ _ y=>if decide (y=(x.2.2.2.1)[i]) then .inl (some ((6:Int),())) else .inr ()) (λ_=>self (x,ae ((i:Int)+1))) (λ_ _=>True) (by rw[an];omega)
    (λj hj s ko _=>by
     grind [dt.b2,Ba])
    (λ_ _ _ _ _ _=>trivial) (λs ko _=>by
     show dt.b2 _ _ _ _ _ _=_;unfold dt.b2;simp only[mY,aY,aI,aE]
     rfl) () trivial k Bys
   rw[uW] at this;exact this
  have:=cy (B:=λself v=>dt.B1 k self (λz=>dt.q2 (x,()) z) (x,()) v) x.2.2.2.1 (λ(_:Unit) (i:Int)=>(x,i)) (λi _ y=>if sh x.2.2.2.1 i y=0 then .inr () else .inl (sh x.2.2.2.1 i y,())) (λ_=>(0,())) (λ_ _=>True) (by rw[an];omega)
   (λi hi s self _=>by
    show dt.b1 _ _ _ _ _=_
    grind [dt.b1,sh,Int.toNat_natCast,T7])
   (λ_ _ _ _ _ _=>trivial) (λs self _=>by
    show dt.b1 _ _ _ _ _=_;unfold dt.b1;simp only[aY,aI,aE]
    rfl) () trivial k Bys
  refine aV this ?_;unfold wJ;generalize Vr:x.2.2.2.1=ks
  have gen:∀ (f:Nat->Key->Int) (ys:List Key) (i:Nat),bu (λi (_:Unit) y=>if f i y=0 then .inr () else .inl (f i y,())) (λ_=>((0:Int),())) i ys ()=(bu (λi (_:Unit) y=>if f i y=0 then .inr () else .inl (f i y)) (λ_=>(0:Int)) i ys (),()):=by
   intro f ys
   induction ys <;> grind [bu]
  simp_all
 have:=ff (B:=λself v=>dt.b0 self (λz=>dt.Q0 k (x,()) z) (x,()) v) x.2.2.1 (λ(_:Int) (i:Int)=>i) (λi last m=>if dr m last (List.length x.2.1:Int) then .inr m else .inl (some ((3:Int),()))) (λ_=>some (wJ x.2.2.2.1,()))
  (λi last=>0<=last/\(i=0->last=0)/\∀ y,0 < i->x.2.2.1[i - 1]?=some y->last=y) (by rw[an];omega)
  (λi hi last self hI=>by
   obtain ⟨i1,i2,i3⟩:=hI;show dt.b0 _ _ _ _=_;unfold dt.b0;have bc:(i:Int) < (List.length x.2.2.1:Int):=by omega
   simp only[bc,aP,aM,aR,aL,aD,aB hi,aA,o5];generalize hmm:(x.2.2.1)[i]=m;rw[<-abu i1];show (bif !dr m 0 (List.length x.2.1:Int) then _ else _)=_
   cases YF:dr m 0 (List.length x.2.1:Int) with
   | false=>rfl
   | true=>
    have hm0:0<=m:=by
     grind [dr]
    simp only[aW,aE,eB];by_cases h0:i=0
    ·grind
    ·have hi1:i - 1 < List.length x.2.2.1:=by omega
     have hl:=i3 (x.2.2.1)[i - 1] Bys (aB hi1);have hp:(0:Int) < (i:Int):=by omega
     simp only[hp,aP,aM,MP (show 0 < i by omega) (by rw[an];omega),aR,aL,aD,aB hi1,aA]
     grind)
  (λi hi last aiC hI hs=>by
   grind [dr])
  (λlast self hI=>by
   show dt.b0 _ _ _ _=_;unfold dt.b0;simp only[aY,aI,aE]
   exact second) 0 ⟨dH _,λ_=>rfl,λ_ h=>by omega⟩ k Bys
 refine aV this ?_;unfold Ix;rw[Sh];grind
def pb (D:List UInt8) (i:Nat):Nat:=(D.getD i 0).toNat
theorem qa (D:List UInt8) (i:Nat):pb D i < 256:=fN _
theorem kK {D:List UInt8} {i:Nat} (h:i < D.length):D[i]?=some D[i]/\(D[i]).toNat=pb D i:=⟨aB h,by simp[pb,h]⟩
theorem vE (D:List UInt8) (i j:Nat) (v:UInt8):pb (D.set i v) j=if i=j/\i < D.length then v.toNat else pb D j:=by
 grind [pb]
theorem Oj {D c:List UInt8} {a:Nat} (h:a+c.length<=D.length) (j:Nat):pb (pO D a c.length c) j=if a<=j/\j < a+c.length then pb c (j - a) else pb D j:=by
 grind [pb,Rt]
theorem Dt {A B:List UInt8} (h:A.length=B.length) (h2:∀ j,j < A.length->pb A j=pb B j):A=B:=by
 refine List.ext_getElem h λi h1 h3=>?_;have:=h2 i h1;rw[<-(kK h1).2,<- (kK h3).2] at this;exact fS.1 this
theorem ofNat_toNat {n:Nat} (h:n < 256):(UInt8.ofNat n).toNat=n:=by
 simp_all
theorem abv (D:List UInt8) (a n j:Nat) (h:j < n):pb ((D.drop a).take n) j=pb D (a+j):=by
 grind [pb]
def pn (p:List UInt8):Nat:=pb p 0
def fh (p:List UInt8):Nat:=pb p 1
def pat (p:List UInt8) (i:Nat):Nat:=pb p (2+2*i)
def bj (p:List UInt8) (i:Nat):Nat:=pb p (3+2*i)
def GK (p:List UInt8) (i:Nat):Bool:=if pat p i=0\/bj p i=0 then decide (pat p i=bj p i) else decide (fh p<=pat p i)&&decide (pat p i+bj p i<=64)
def Du (p:List UInt8) (i k:Nat):Bool:=(decide (bj p i=0)||decide (bj p k=0))||(decide (pat p i+bj p i<=pat p k)||decide (pat p k+bj p k<=pat p i))
def Eo (p:List UInt8):Int:=
 if p.length=64 then
  if pn p<=16/\2+2*pn p<=fh p/\fh p<=64 then
   if (List.range (pn p)).all (GK p) then
    if (List.range (pn p)).all (λi=>(List.range i).all (Du p i)) then
     if 0 < pn p/\bj p (pn p - 1)=0 then 8 else 0
    else 8
   else 3
  else 3
 else 1
structure iw (p:List UInt8):Prop where
 len:p.length=64
 n:pn p<=16
 lo:2+2*pn p<=fh p
 hi:fh p<=64
 slot:∀ i,i < pn p->bj p i≠0->fh p<=pat p i/\pat p i+bj p i<=64
 zero:∀ i,i < pn p->bj p i=0->pat p i=0
 apart:∀ i k,i < pn p->k < pn p->i≠k->bj p i≠0->bj p k≠0->pat p i+bj p i<=pat p k\/pat p k+bj p k<=pat p i
 last:0 < pn p->bj p (pn p - 1)≠0
theorem Iy {p:List UInt8} {i:Nat} (za:2<=fh p):GK p i=true↔(bj p i≠0->fh p<=pat p i/\pat p i+bj p i<=64)/\(bj p i=0->pat p i=0):=by
 grind [GK]
theorem GN {p:List UInt8} {i k:Nat}:Du p i k=true↔(bj p i≠0->bj p k≠0->pat p i+bj p i<=pat p k\/pat p k+bj p k<=pat p i):=by
 grind [Du]
theorem xy {p:List UInt8}:Eo p=0↔iw p:=by
 constructor
 ·intro h;unfold Eo at h;split at h
  ·rename_i h1;split at h
   ·rename_i h2;split at h
    ·rename_i h3;split at h
     ·rename_i h4;split at h
      ·cases h
      ·rename_i h5;have hs:∀ i,i < pn p->(bj p i≠0->fh p<=pat p i/\pat p i+bj p i<=64)/\(bj p i=0->pat p i=0):=λi hi=>(Iy Bys).1 (bJ.1 h3 i (cD.2 hi));have ha:∀ i k,i < pn p->k < i->bj p i≠0->bj p k≠0->pat p i+bj p i<=pat p k\/pat p k+bj p k<=pat p i:=λi k hi hk=>GN.1 (bJ.1 (bJ.1 h4 i (cD.2 hi)) k (cD.2 hk));refine ⟨h1,h2.1,h2.2.1,h2.2.2,λi hi=>(hs i hi).1,λi hi=>(hs i hi).2,λi k hi hk HG z1 z2=>?_,λhn hz=>h5 ⟨hn,hz⟩⟩
       rcases fU HG with h6 | h6
       all_goals grind
     ·cases h
    ·cases h
   ·cases h
  ·cases h
 ·intro h;unfold Eo;rw[aH h.len,aH ⟨h.n,h.lo,h.hi⟩,aH,aH,aN]
  ·intro ⟨h1,h2⟩;exact h.last h1 h2
  ·refine bJ.2 λi hi=>bJ.2 λk hk=>GN.2 ?_;have:=cD.1 hi;have:=cD.1 hk;exact h.apart i k Bys Bys Bys
  ·exact bJ.2 λi hi=>(Iy (by have:=h.lo;omega)).2 ⟨h.slot i (cD.1 hi),h.zero i (cD.1 hi)⟩
def jP (p:List UInt8) (i:Nat):List UInt8:=(p.drop (pat p i)).take (bj p i)
def cellOf (p:List UInt8) (i:Nat):List UInt8:=if i < pn p then jP p i else []
theorem qu {p:List UInt8} (h:iw p) {i:Nat} (hi:i < pn p):(jP p i).length=bj p i:=by
 unfold jP;by_cases hz:bj p i=0
 ·simp[hz]
 ·have:=h.slot i hi hz;have:=h.len;grind
theorem Lg (p:List UInt8) (i j:Nat) (h:j < bj p i):pb (jP p i) j=pb p (pat p i+j):=abv p _ _ j h
theorem Lh {p q:List UInt8} {i k:Nat} (hp:(jP p i).length=bj p i) (hq:(jP q k).length=bj q k) (hs:bj p i=bj q k) (hb:∀ j,j < bj p i->pb p (pat p i+j)=pb q (pat q k+j)):jP p i=jP q k:=by
 grind [Dt,Lg]
theorem abw {p c:List UInt8} {i:Nat} (hp:(jP p i).length=bj p i) (hs:bj p i=c.length) (hb:∀ j,j < c.length->pb p (pat p i+j)=pb c j):jP p i=c:=by
 grind [Dt,Lg]
def ng (p:List UInt8) (s a:Nat) (c:List UInt8):List UInt8:=((pO p a c.length c).set (2+2*s) (UInt8.ofNat a)).set (3+2*s) (UInt8.ofNat c.length)
theorem sC {p:List UInt8} (hp:p.length=64) (s:Nat) {a:Nat} {c:List UInt8} (h:a+c.length<=64):(ng p s a c).length=64:=by
 grind [ng,tt]
theorem AF {p:List UInt8} (hp:p.length=64) {s a:Nat} {c:List UInt8} (h:a+c.length<=64) (hs:s < 16) (j:Nat):pb (ng p s a c) j=if j=3+2*s then c.length else if j=2+2*s then a else if a<=j/\j < a+c.length then pb c (j - a) else pb p j:=by
 grind [ng,tt,vE,Oj,ofNat_toNat]
structure yz (p q:List UInt8) (s a m:Nat):Prop where
 len:q.length=64
 n:pn q=pn p\/(pn q=pn p+1/\s=pn p)
 afr:s < pn q
 n16:pn q<=16
 lo:2+2*pn q<=fh q
 lo2:fh q<=fh p
 at_:pat q s=a
 sz:bj q s=m
 pos:0 < m
 aid:fh q<=a
 aie:a+m<=64
 Sj:∀ i,i < pn q->i≠s->pat q i=pat p i/\bj q i=bj p i
 free:∀ i,i < pn p->i≠s->bj p i≠0->a+m<=pat p i\/pat p i+bj p i<=a
 same:∀ j,fh p<=j->j < 64->(j < a\/a+m<=j)->pb q j=pb p j
theorem yz.ok {p q:List UInt8} {s a m:Nat} (t:yz p q s a m) (h:iw p):iw q:=by
 have bc:∀ i,i < pn q->i≠s->i < pn p:=λi hi hs=>by rcases t.n with h1 | ⟨h1,h2⟩ <;> omega
 have ha:=t.at_;have hm:=t.sz;have Gc:=t.pos;have za:=t.aid;have Ka:=t.aie;have aiW:=t.lo2;have hh:=h.hi;refine ⟨t.len,t.n16,t.lo,by omega,λi hi hz=>?_,λi hi hz=>?_,λi k hi hk HG z1 z2=>?_,λhn=>?_⟩
 ·by_cases hs:i=s
  ·grind
  ·obtain ⟨h1,h2⟩:=t.Sj i hi hs;have:=h.slot i (bc i hi hs) Bys;omega
 ·by_cases hs:i=s
  ·grind
  ·obtain ⟨h1,h2⟩:=t.Sj i hi hs;have:=h.zero i (bc i hi hs) Bys;omega
 ·by_cases hs:i=s
  ·subst hs;have Vr:k≠i:=λe=>HG e.symm;obtain ⟨h1,h2⟩:=t.Sj k hk Vr;have:=t.free k (bc k hk Vr) Vr Bys;omega
  ·obtain ⟨h1,h2⟩:=t.Sj i hi hs;by_cases De:k=s
   ·subst De;have:=t.free i (bc i hi hs) hs Bys;omega
   ·obtain ⟨h3,h4⟩:=t.Sj k hk De;have:=h.apart i k (bc i hi hs) (bc k hk De) HG Bys Bys;omega
 ·by_cases hs:pn q - 1=s
  ·rw[hs];omega
  ·obtain ⟨h1,h2⟩:=t.Sj (pn q - 1) Bys hs
   have hq:pn q=pn p:=by
    rcases t.n with h3 | ⟨h3,h4⟩
    all_goals grind
   rw[h2,hq];exact h.last Bys
theorem yz.Xn {p q:List UInt8} {s a m:Nat} (t:yz p q s a m) (h:iw p) {i:Nat} (hi:i < pn q) (hs:i≠s):jP q i=jP p i:=by
 have Fl:i < pn p:=by rcases t.n with h1 | ⟨h1,h2⟩ <;> omega
 obtain ⟨h1,h2⟩:=t.Sj i hi hs;refine Lh (qu (t.ok h) hi) (qu h Fl) h2 λj hj=>?_;have hz:bj p i≠0:=by omega
 have h3:=h.slot i Fl hz;have h4:=t.free i Fl hs hz;rw[h1];exact t.same _ Bys Bys Bys
theorem yz.Zy {p q:List UInt8} {s a:Nat} {c:List UInt8} (t:yz p q s a c.length) (h:iw p) (hc:∀ j,j < c.length->pb q (a+j)=pb c j):jP q s=c:=
 abw (qu (t.ok h) t.afr) t.sz λj hj=>by rw[t.at_];exact hc j hj
theorem yz.cells {p q:List UInt8} {s a:Nat} {c:List UInt8} (t:yz p q s a c.length) (h:iw p) (hc:∀ j,j < c.length->pb q (a+j)=pb c j) (i:Nat):cellOf q i=if i=s then c else cellOf p i:=by
 have hs:=t.afr;unfold cellOf;by_cases vf:i=s
 ·subst vf;rw[aH hs,aH rfl,t.Zy h hc]
 ·rw[aN vf];by_cases hi:i < pn q
  ·have Fl:i < pn p:=by rcases t.n with h1 | ⟨h1,h2⟩ <;> omega
   rw[aH hi,aH Fl,t.Xn h hi vf]
  ·have Fl:¬ i < pn p:=by rcases t.n with h1 | ⟨h1,h2⟩ <;> omega
   grind
theorem si {p:List UInt8} (h:iw p) {i:Nat} (hi:i < pn p):cellOf p i=[]↔bj p i=0:=by
 grind [cellOf,qu]
def xz (p:List UInt8):Nat->Nat->Nat
 | 0,i=>i
 | m+1,i=>if bj p i=0 then i else xz p m (i+1)
def gn (p:List UInt8):Nat:=xz p (pn p) 0
theorem Km (p:List UInt8):∀ (m i:Nat),i<=xz p m i/\xz p m i<=i+m/\(∀ j,i<=j->j < xz p m i->bj p j≠0)/\(xz p m i < i+m->bj p (xz p m i)=0)
 | 0,i=>by grind [xz]
 | m+1,i=>by
  simp only[xz];split
  ·grind
  ·rename_i h;obtain ⟨h1,h2,h3,h4⟩:=Km p m (i+1);grind
theorem wR (p:List UInt8):gn p<=pn p/\(∀ j,j < gn p->bj p j≠0)/\(gn p < pn p->bj p (gn p)=0):=by
 grind [Km,gn]
def om (p:List UInt8):Nat->Nat
 | 0=>0
 | m+1=>om p m+bj p m
def ua (p:List UInt8):Int:=62 - 2*(pn p:Int) - (om p (pn p):Int)
theorem tD (p:List UInt8) {a b:Nat} (h:a<=b):om p a<=om p b:=by
 induction b <;> grind [om]
theorem Pj {α:Type} {a b:α->Bool}:∀ {l:List α},(∀ x ∈ l,a x=true->b x=true->False)->l.countP (λx=>a x||b x)=l.countP a+l.countP b
 | [],_=>rfl
 | x::l,h=>by
  have ih:=Pj (l:=l) λy hy=>h y (bA _ hy);grind
theorem GO (a m:Nat):∀ N,(List.range N).countP (λj=>decide (a<=j/\j < a+m))=min N (a+m) - min N a
 | 0=>by simp
 | N+1=>by
  rw[gP,List.countP_append,GO a m N];grind
def uX (p:List UInt8):Nat->Nat->Bool
 | 0,_=>false
 | k+1,j=>uX p k j||decide (pat p k<=j/\j < pat p k+bj p k)
theorem Ol {p:List UInt8}:∀ {k j:Nat},uX p k j=true->∃ i,i < k/\pat p i<=j/\j < pat p i+bj p i
 | k+1,j,h=>by
  simp only[uX,cN,bE] at h;rcases h with h | h
  ·obtain ⟨i,h1,h2⟩:=Ol h;grind
  grind
theorem MQ {p:List UInt8} (h:iw p):∀ k,k<=pn p->(List.range 64).countP (uX p k)=om p k
 | 0,_=>by
  grind [uX,om]
 | k+1,hk=>by
  have ih:=MQ h k Bys;show (List.range 64).countP (λj=>uX p k j||decide (pat p k<=j/\j < pat p k+bj p k))=om p k+bj p k;rw[Pj,ih,GO]
  ·by_cases hz:bj p k=0
   ·omega
   ·have:=h.slot k Bys hz;omega
  ·intro j _ h1 h2;obtain ⟨i,h3,h4⟩:=Ol h1;simp only[bE] at h2;have:=h.apart i k Bys Bys Bys Bys Bys;omega
theorem GP {p:List UInt8} (h:iw p):om p (pn p)+fh p<=64:=by
 rw[<-MQ h (pn p) (aG _)]
 have h1:(List.range 64).countP (uX p (pn p))<=(List.range 64).countP (λj=>decide (fh p<=j/\j < fh p+(64 - fh p))):=by
  refine List.countP_mono_left λj hj hc=>?_;obtain ⟨i,h3,h4,h5⟩:=Ol hc;have:=h.slot i h3 Bys;grind
 rw[GO] at h1;have:=h.hi;omega
theorem Ft {p:List UInt8} (h:iw p):0<=ua p/\ua p<=62:=by
 have:=GP h;have:=h.lo;grind [ua]
def wh (p:List UInt8):Nat:=if gn p=pn p then 1 else 0
def sV (p:List UInt8) (c:List UInt8):List UInt8:=((ng p (gn p) (fh p - c.length) c).set 0 (UInt8.ofNat (pn p+wh p))).set 1 (UInt8.ofNat (fh p - c.length))
def nw (p:List UInt8) (c:List UInt8):Int:=
 if gn p=pn p/\16<=pn p then 2
 else if ua p < (c.length:Int)+2*(wh p:Int) then 9
 else if fh p < 2+2*(pn p+wh p)+c.length then 8
 else 0
theorem afs {p c:List UInt8} (h:iw p) (hc:nw p c=0) (j:Nat):pb (sV p c) j=if j=1 then fh p - c.length else if j=0 then pn p+wh p else pb (ng p (gn p) (fh p - c.length) c) j:=by
 unfold nw at hc;split at hc
 ·cases hc
 ·split at hc
  ·cases hc
  ·split at hc
   ·cases hc
   ·have hl:(ng p (gn p) (fh p - c.length) c).length=64:=sC h.len _ (by have:=h.hi;omega);have Ka:=h.hi;grind [sV,vE,ofNat_toNat]
theorem Xo {p c:List UInt8} (h:iw p) (lh:1<=c.length) (hc:nw p c=0):yz p (sV p c) (gn p) (fh p - c.length) c.length/\∀ j,j < c.length->pb (sV p c) (fh p - c.length+j)=pb c j:=by
 have hb:=afs h hc;obtain ⟨e1,e2,e3⟩:=wR p;unfold nw at hc;split at hc
 ·cases hc
 rename_i c1;split at hc
 ·cases hc
 split at hc
 ·cases hc
 rename_i c3;have Ka:=h.hi;have za:=h.lo;have hn:=h.n;have hm:(gn p=pn p/\wh p=1)\/(gn p < pn p/\wh p=0):=by grind [wh]
 have hs:gn p < 16:=by omega
 have hlen:(sV p c).length=64:=by
  unfold sV;rw[bW,bW,sC h.len _ Bys]
 have rT:∀ j,pb (ng p (gn p) (fh p - c.length) c) j=_:=AF h.len (a:=fh p - c.length) (c:=c) Bys hs;have Kn:pn (sV p c)=pn p+wh p:=by show pb _ 0=_;rw[hb];simp
 have i9:fh (sV p c)=fh p - c.length:=by show pb _ 1=_;rw[hb];simp
 refine ⟨⟨hlen,by omega,by omega,by omega,by omega,by omega,?_,?_,by omega,by omega,by omega,λi hi vf=>?_,λi hi vf hz=>?_,λj j1 j2 j3=>?_⟩,λj hj=>?_⟩
 ·show pb _ _=_;grind
 ·show pb _ _=_;grind
 ·constructor
  ·show pb _ _=pb _ _;grind
  ·show pb _ _=pb _ _;grind
 ·have:=h.slot i hi hz;omega
 all_goals grind
theorem AG {p c:List UInt8} (h:iw p) (lh:1<=c.length) (hc:nw p c=0):iw (sV p c)/\(∀ i,cellOf (sV p c) i=if i=gn p then c else cellOf p i)/\cellOf p (gn p)=[]:=by
 obtain ⟨t,hb⟩:=Xo h lh hc;refine ⟨t.ok h,t.cells h hb,?_⟩
 grind [wR,si,cellOf]
def AH (p:List UInt8) (s:Nat) (c:List UInt8):List UInt8:=if c.length<=bj p s then ng p s (pat p s+bj p s - c.length) c else (ng p s (fh p - c.length) c).set 1 (UInt8.ofNat (fh p - c.length))
def sD (p:List UInt8) (s:Nat) (c:List UInt8):Int:=
 if c.length<=bj p s then 0
 else if ua p+(bj p s:Int) < (c.length:Int) then 9
 else if fh p < 2+2*pn p+c.length then 8
 else 0
theorem Xp {p c:List UInt8} {s:Nat} (h:iw p) (hs:s < pn p) (hz:bj p s≠0) (lh:1<=c.length) (hc:sD p s c=0):∃ a,yz p (AH p s c) s a c.length/\∀ j,j < c.length->pb (AH p s c) (a+j)=pb c j:=by
 have Ka:=h.hi;have za:=h.lo;have hn:=h.n;have oH:=h.slot s hs hz;unfold sD at hc;split at hc
 ·rename_i c1;unfold AH;rw[aH c1];have rT:∀ j,pb (ng p s (pat p s+bj p s - c.length) c) j=_:=AF h.len (a:=pat p s+bj p s - c.length) (c:=c) Bys Bys
  have Kn:pn (ng p s (pat p s+bj p s - c.length) c)=pn p:=by
   show pb _ 0=pb p 0;grind
  have i9:fh (ng p s (pat p s+bj p s - c.length) c)=fh p:=by
   show pb _ 1=pb p 1;grind
  refine ⟨pat p s+bj p s - c.length,⟨sC h.len _ Bys,by omega,by omega,by omega,by omega,by omega,?_,?_,by omega,by omega,by omega,λi hi vf=>?_,λi hi vf Mn=>?_,λj j1 j2 j3=>?_⟩,λj hj=>?_⟩
  ·show pb _ _=_;grind
  ·show pb _ _=_;grind
  ·constructor
   ·show pb _ _=pb _ _;grind
   ·show pb _ _=pb _ _;grind
  ·have:=h.apart i s hi hs vf Mn hz;omega
  all_goals grind
 ·rename_i c1;split at hc
  ·cases hc
  split at hc
  ·cases hc
  rename_i c3;have hq:AH p s c=(ng p s (fh p - c.length) c).set 1 (UInt8.ofNat (fh p - c.length)):=by grind [AH]
  rw[hq];have hl:(ng p s (fh p - c.length) c).length=64:=sC h.len _ Bys;have rT:∀ j,pb (ng p s (fh p - c.length) c) j=_:=AF h.len (a:=fh p - c.length) (c:=c) Bys Bys
  have hb:∀ j,pb ((ng p s (fh p - c.length) c).set 1 (UInt8.ofNat (fh p - c.length))) j=if j=1 then fh p - c.length else pb (ng p s (fh p - c.length) c) j:=λj=>by
   grind [vE,ofNat_toNat]
  have Kn:pn ((ng p s (fh p - c.length) c).set 1 (UInt8.ofNat (fh p - c.length)))=pn p:=by
   show pb _ 0=pb p 0;grind
  have i9:fh ((ng p s (fh p - c.length) c).set 1 (UInt8.ofNat (fh p - c.length)))=fh p - c.length:=by
   show pb _ 1=_;grind
  refine ⟨fh p - c.length,⟨by grind,by omega,by omega,by omega,by omega,by omega,?_,?_,by omega,by omega,by omega,λi hi vf=>?_,λi hi vf Mn=>?_,λj j1 j2 j3=>?_⟩,λj hj=>?_⟩
  ·show pb _ _=_;grind
  ·show pb _ _=_;grind
  ·constructor
   ·show pb _ _=pb _ _;grind
   ·show pb _ _=pb _ _;grind
  ·have:=h.slot i hi Mn;omega
  all_goals grind
theorem CK {p c:List UInt8} {s:Nat} (h:iw p) (hs:s < pn p) (hz:bj p s≠0) (lh:1<=c.length) (hc:sD p s c=0):iw (AH p s c)/\(∀ i,cellOf (AH p s c) i=if i=s then c else cellOf p i):=by
 obtain ⟨a,t,hb⟩:=Xp h hs hz lh hc;exact ⟨t.ok h,t.cells h hb⟩
def wi (q:List UInt8):Nat->Nat
 | 0=>0
 | m+1=>if bj q m=0 then wi q m else m+1
def uE (p:List UInt8) (s:Nat):List UInt8:=(p.set (2+2*s) 0).set (3+2*s) 0
def tm (p:List UInt8) (s:Nat):List UInt8:=(uE p s).set 0 (UInt8.ofNat (wi (uE p s) (pn p)))
theorem GQ (q:List UInt8):∀ m,wi q m<=m/\(∀ i,wi q m<=i->i < m->bj q i=0)/\(0 < wi q m->bj q (wi q m - 1)≠0)
 | 0=>by grind [wi]
 | m+1=>by
  simp only[wi];obtain ⟨h1,h2,h3⟩:=GQ q m;grind
theorem Li {p:List UInt8} {s:Nat} (h:iw p) (hs:s < pn p):iw (tm p s)/\(∀ i,cellOf (tm p s) i=if i=s then [] else cellOf p i):=by
 have Ka:=h.hi;have za:=h.lo;have hn:=h.n;have hlen:=h.len
 have YF:∀ j,pb (uE p s) j=if j=3+2*s\/j=2+2*s then 0 else pb p j:=λj=>by
  grind [uE,vE]
 have hl0:(uE p s).length=64:=by grind [uE]
 obtain ⟨t1,t2,t3⟩:=GQ (uE p s) (pn p)
 have hb:∀ j,pb (tm p s) j=if j=0 then wi (uE p s) (pn p) else if j=3+2*s\/j=2+2*s then 0 else pb p j:=λj=>by
  grind [tm,vE,ofNat_toNat]
 have Kn:pn (tm p s)=wi (uE p s) (pn p):=by show pb _ 0=_;grind
 have i9:fh (tm p s)=fh p:=by show pb _ 1=pb p 1;grind
 have hz0:∀ i,bj (tm p s) i=bj (uE p s) i:=λi=>by
  show pb _ _=pb _ _;grind
 have hzs:bj (tm p s) s=0/\pat (tm p s) s=0:=by
  constructor
  ·show pb _ _=_;grind
  ·show pb _ _=_;grind
 have Zz:∀ i,i≠s->bj (tm p s) i=bj p i/\pat (tm p s) i=pat p i:=λi hi=>by
  constructor
  ·show pb _ _=pb _ _;grind
  ·show pb _ _=pb _ _;grind
 have a_:iw (tm p s):=by
  refine ⟨by grind [tm],by omega,by omega,by omega,λi hi hz=>?_,λi hi hz=>?_,λi k hi hk HG z1 z2=>?_,λhn=>?_⟩
  ·by_cases vf:i=s
   ·grind
   ·obtain ⟨g1,g2⟩:=Zz i vf;have:=h.slot i Bys Bys;omega
  ·by_cases vf:i=s
   ·grind
   ·obtain ⟨g1,g2⟩:=Zz i vf;have:=h.zero i Bys Bys;omega
  ·have vf:i≠s:=λe=>by grind
   have Vr:k≠s:=λe=>by grind
   obtain ⟨g1,g2⟩:=Zz i vf;obtain ⟨g3,g4⟩:=Zz k Vr;have:=h.apart i k Bys Bys HG Bys Bys;omega
  grind
 refine ⟨a_,λi=>?_⟩
 by_cases vf:i=s
 ·grind [si,cellOf]
 ·rw[aN vf];obtain ⟨g1,g2⟩:=Zz i vf;by_cases hi:i < pn (tm p s)
  ·have Fl:i < pn p:=by omega
   unfold cellOf;rw[aH hi,aH Fl];refine Lh (qu a_ hi) (qu h Fl) g1 λj hj=>?_;have:=h.slot i Fl Bys;grind
  grind [cellOf,si]
def Cw (p:List UInt8) (s:List UInt8×Nat) (i:Nat):List UInt8×Nat:=if bj p i=0 then s else (ng s.1 i (s.2 - bj p i) (jP p i),s.2 - bj p i)
def Bb (p:List UInt8):List UInt8:=p.take (2+2*pn p)++List.replicate (62 - 2*pn p) (0:UInt8)
def kL (p:List UInt8) (k:Nat):List UInt8×Nat:=(List.range k).foldl (Cw p) (Bb p,64)
def nh (p:List UInt8):List UInt8:=(kL p (pn p)).1.set 1 (UInt8.ofNat (kL p (pn p)).2)
theorem GS (p:List UInt8) (k:Nat):kL p (k+1)=Cw p (kL p k) k:=by
 grind [kL,List.range_succ]
structure agw (p:List UInt8) (k:Nat) (o:List UInt8) (a:Nat):Prop where
 len:o.length=64
 n:pb o 0=pn p
 a:a=64 - om p k
 sz:∀ i,i < pn p->bj o i=bj p i
 old:∀ i,i < pn p->(k<=i\/bj p i=0)->pat o i=pat p i
 new:∀ i,i < k->bj p i≠0->pat o i=64 - om p (i+1)/\∀ j,j < bj p i->pb o (64 - om p (i+1)+j)=pb p (pat p i+j)
theorem GT {p:List UInt8} (h:iw p):∀ k,k<=pn p->agw p k (kL p k).1 (kL p k).2
 | 0,_=>by
  have hn:=h.n;have hlen:=h.len;have hl:(Bb p).length=64:=by grind [Bb]
  have hb:∀ j,j < 2+2*pn p->pb (Bb p) j=pb p j:=λj hj=>by
   grind [pb,Bb]
  refine ⟨hl,hb 0 Bys,by simp only[om];rfl,λi hi=>?_,λi hi _=>?_,λi hi=>by omega⟩
  ·exact hb _ Bys
  ·exact hb _ Bys
 | k+1,hk=>by
  have ih:=GT h k Bys;rw[GS];unfold Cw;have zI:=GP h;have agx:=tD p (show k+1<=pn p from hk);have za:=h.lo;have hn:=h.n;simp only[om] at agx;by_cases hz:bj p k=0
  ·rw[aH hz];refine ⟨ih.len,ih.n,?_,ih.sz,λi hi ho=>ih.old i hi (by grind),λi hi Ko=>?_⟩
   ·rw[ih.a];grind [om]
   ·have:i≠k:=λe=>by grind
    exact ih.new i Bys Ko
  ·rw[aN hz];have vz:(jP p k).length=bj p k:=qu h Bys;have ha:=ih.a;have Dd:(kL p k).2 - bj p k+(jP p k).length<=64:=by omega
   have rT:∀ j,pb (ng (kL p k).1 k ((kL p k).2 - bj p k) (jP p k)) j=_:=AF ih.len (a:=(kL p k).2 - bj p k) (c:=jP p k) Dd Bys;refine ⟨sC ih.len _ Dd,?_,by grind [om],λi hi=>?_,λi hi ho=>?_,λi hi Ko=>?_⟩
   ·rw[rT,aN Bys,aN Bys,aN Bys];exact ih.n
   ·show pb _ _=_;rw[rT];by_cases HG:i=k
    ·grind
    ·rw[aN Bys,aN Bys,aN Bys];exact ih.sz i hi
   ·have HG:i≠k:=λe=>by grind
    show pb _ _=_;rw[rT,aN Bys,aN Bys,aN Bys];exact ih.old i hi (by grind)
   ·by_cases HG:i=k
    ·subst HG;constructor
     ·show pb _ _=_;grind [om]
     grind [om,Lg]
    ·have hm2:=tD p (show i+1<=k by omega);have hm3:=tD p (show i+1<=pn p by omega);obtain ⟨g1,g2⟩:=ih.new i Bys Ko;constructor
     ·show pb _ _=_;rw[rT,aN Bys,aN Bys,aN Bys];exact g1
     grind
theorem uY {p:List UInt8} (h:iw p):iw (nh p)/\(∀ i,cellOf (nh p) i=cellOf p i)/\pn (nh p)=pn p:=by
 have I:=GT h (pn p) (aG _);have zI:=GP h;have za:=h.lo;have hn:=h.n;have ha:=I.a
 have hb:∀ j,pb (nh p) j=if j=1 then (kL p (pn p)).2 else pb (kL p (pn p)).1 j:=λj=>by
  unfold nh;rw[vE,I.len,ofNat_toNat Bys];grind
 have Kn:pn (nh p)=pn p:=by show pb _ 0=_;rw[hb,aN Bys];exact I.n
 have i9:fh (nh p)=64 - om p (pn p):=by show pb _ 1=_;grind
 have hz:∀ i,i < pn p->bj (nh p) i=bj p i:=λi hi=>by show pb _ _=_;rw[hb,aN Bys];exact I.sz i hi
 have ey:∀ i,i < pn p->bj p i≠0->pat (nh p) i=64 - om p (i+1):=λi hi Ko=>by show pb _ _=_;rw[hb,aN Bys];exact (I.new i hi Ko).1
 have a_:iw (nh p):=by
  refine ⟨by unfold nh;rw[bW];exact I.len,by omega,by omega,by omega,λi hi Ko=>?_,λi hi Ko=>?_,λi k hi hk HG z1 z2=>?_,λhn=>?_⟩
  ·have h1:=hz i Bys;have h2:=ey i Bys Bys;have h3:=tD p (show i+1<=pn p by omega);grind [om]
  ·have h1:=hz i Bys;show pb _ _=_;rw[hb,aN Bys];exact (I.old i Bys (Or.inr Bys)).trans (h.zero i Bys Bys)
  ·have h1:=hz i Bys;have h2:=ey i Bys Bys;have h3:=hz k Bys;have h4:=ey k Bys Bys;have e1:om p (i+1)=om p i+bj p i:=rfl;have e2:om p (k+1)=om p k+bj p k:=rfl;have m1:=tD p (show i+1<=pn p by omega);have m2:=tD p (show k+1<=pn p by omega);rcases fU HG with h6 | h6
   ·have:=tD p (show i+1<=k from h6);omega
   ·have:=tD p (show k+1<=i from h6);omega
  ·rw[Kn,hz _ Bys];exact h.last Bys
 refine ⟨a_,λi=>?_,Kn⟩
 unfold cellOf;rw[Kn];by_cases hi:i < pn p
 ·rw[aH hi,aH hi];refine Lh (qu a_ Bys) (qu h hi) (hz i hi) λj hj=>?_;have h1:=hz i hi;have Ko:bj p i≠0:=by omega
  rw[ey i hi Ko,hb,aN (by
   have:=tD p (show i+1<=pn p by omega)
   omega)]
  exact (I.new i hi Ko).2 j Bys
 grind
def vp:List UInt8:=((List.replicate 64 (0:UInt8)).set 0 0).set 1 64
theorem GU:iw vp/\∀ i,cellOf vp i=[]:=by
 refine ⟨xy.1 (by decide +kernel),λi=>?_⟩
 unfold cellOf;rw[aN (by show ¬ i < 0;omega)]
end OT
