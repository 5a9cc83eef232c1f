/- The proof's parts, merged: Printed by gen.py, a program of this claim  what each Go function computes.. No conditions but those that each states. -/
import Derived.Test.YtghckfpmmofmnaaGreatDe
set_option maxRecDepth 100000
set_option linter.unusedVariables false
namespace OT
open Go Go.Proofs.Tryz
noncomputable section
variable (k:Nat)
namespace d0
abbrev A:=(List Row)×(List Tx)×Unit
abbrev O:=(List (Key×Bool))×Unit
abbrev P:=Option O
noncomputable def D:FD:={ fn:=f175,tl:=az,ps:=[(.ro,(.aa aT)),(.ro,(.aa bh))],rs:=[((.map bc .bool),(aj (.map bc .bool)))],lv:=[(3,[1,5,13,14,15]),(8,[5,26,27,28]),(11,[5,26,27,28,33,34,35])],lx:=[(0,[1,5]),(2,[5]),(4,[5,26,27,28])] }
def ab (a:A):P:=@lift O λk=>D.W k a
def T0 (a1:A) (U:(List (Key×Bool))×Int):St:={ n:=44,sl:=[(1,.val (.aa bh) a1.2.1),(5,.own (.map bc .bool) (aj (.map bc .bool)) [] U.1),(13,.val (.aa aT) a1.1),(14,.val i64 (a1.1.length:Int)),(15,.val i64 U.2)],vr:=[],ay:=[] }
def S0 (rec:RT O) (a1:A):((List (Key×Bool))×Int)->P:=λU=>rec (T0 a1 U)
def cw (K:KT O) (a1:A):(List (Key×Bool))->P:=λz=>K (.exit 0) ({ n:=44,sl:=[(1,.val (.aa bh) a1.2.1),(5,.own (.map bc .bool) (aj (.map bc .bool)) [] z)],vr:=[],ay:=[] })
def b0 (self:((List (Key×Bool))×Int)->P) (e0:(List (Key×Bool))->P) (a1:A) (U:(List (Key×Bool))×Int):P:=cond (decide (U.2 < (a1.1.length:Int))) (if 0<=U.2 then ((a1.1[U.2.toNat]?).bind λa7=>let rF:=nG bc U.1 (a7.1,a7.2.1,()) true;self (rF,af (U.2+1))) else none)<|e0 U.1
theorem kK (rec:RT O) (K:KT O) (a1:A) (U:(List (Key×Bool))×Int):D.N k [1,1,0,1,0,0] (T0 a1 U) (im rec (fm [1,5,13,14,15] []) K)=b0 (S0 rec a1) (cw K a1) a1 U:=Bye
def T1 (a1:A) (ft:(List (Key×Bool))×(List Tx)×Int×Int):St:={ n:=44,sl:=[(5,.own (.map bc .bool) (aj (.map bc .bool)) [] ft.1),(26,.val (.aa bh) ft.2.1),(27,.val i64 ft.2.2.1),(28,.val i64 ft.2.2.2)],vr:=[],ay:=[] }
def S1 (rec:RT O) (a1:A):((List (Key×Bool))×(List Tx)×Int×Int)->P:=λft=>rec (T1 a1 ft)
def jJ (K:KT O) (a1:A):(List (Key×Bool))->P:=λz=>K (.exit 2) ({ n:=44,sl:=[(5,.own (.map bc .bool) (aj (.map bc .bool)) [] z)],vr:=[],ay:=[] })
def T2 (a1:A) (yQ:List Tx) (oU:Int) (jT:Int) (iw:List Key) (e_:Int) (wQ:(List (Key×Bool))×Int):St:={ n:=44,sl:=[(5,.own (.map bc .bool) (aj (.map bc .bool)) [] wQ.1),(26,.val (.aa bh) yQ),(27,.val i64 oU),(28,.val i64 jT),(33,.val (.aa bc) iw),(34,.val i64 e_),(35,.val i64 wQ.2)],vr:=[],ay:=[] }
def b2 (self:((List (Key×Bool))×Int)->P) (e4:(List (Key×Bool))->P) (a1:A) (yQ:List Tx) (oU:Int) (jT:Int) (iw:List Key) (e_:Int) (wQ:(List (Key×Bool))×Int):P:=cond (decide (wQ.2 < e_)) (if 0<=wQ.2 then ((iw[wQ.2.toNat]?).bind λUx=>self (nG bc wQ.1 Ux true,af (wQ.2+1))) else none)<|e4 wQ.1
def q1 (self:((List (Key×Bool))×(List Tx)×Int×Int)->P) (e2:(List (Key×Bool))->P) (a1:A) (yQ:List Tx) (oU:Int) (jT:Int) (iw:List Key) (e_:Int) (HU:(List (Key×Bool))):P:=self (HU,yQ,oU,af (jT+1))
def s2 (rec:RT O) (K:KT O) (a1:A):(List Tx)->Int->Int->(List Key)->Int->((List (Key×Bool))×Int)->P:=λyQ oU jT iw e_=>λwQ=>D.L k [1,1,1,0,1,0,0,1,1,0,0,1,1,0,0] [5,26,27,28,33,34,35] [] (ah 4 (ah 3 (aw (D.N k [1,1,1,0,1,0,0,1,1,1]) (im rec (fm [5,26,27,28] []) K)))) (T2 a1 yQ oU jT iw e_ wQ)
def r2 (self:((List (Key×Bool))×(List Tx)×Int×Int)->P) (e2:(List (Key×Bool))->P) (a1:A):(List Tx)->Int->Int->(List Key)->Int->((List (Key×Bool))×Int)->P:=λyQ oU jT iw e_=>am (λw v=>b2 w (q1 self e2 a1 yQ oU jT iw e_) a1 yQ oU jT iw e_ v) k
theorem tz (rec:RT O) (K:KT O) (a1:A):s2 k rec K a1=r2 k (S1 rec a1) (jJ K a1) a1:=
 funext λyQ=>funext λoU=>funext λjT=>funext λiw=>funext λe_=>funext λwQ=>ap _ _ _ (T2 a1 yQ oU jT iw e_) _ (λrec v=>Bye) k wQ
def b1 (self:((List (Key×Bool))×(List Tx)×Int×Int)->P) (e2:(List (Key×Bool))->P) (l2:(List Tx)->Int->Int->(List Key)->Int->((List (Key×Bool))×Int)->P) (a1:A) (ft:(List (Key×Bool))×(List Tx)×Int×Int):P:=cond (decide (ft.2.2.2 < ft.2.2.1)) (if 0<=ft.2.2.2 then ((ft.2.1[ft.2.2.2.toNat]?).bind λER=>l2 ft.2.1 ft.2.2.1 ft.2.2.2 ER.2.2.2.1 (ER.2.2.2.1.length:Int) (ft.1,0)) else none)<|e2 ft.1
def B1 (self:((List (Key×Bool))×(List Tx)×Int×Int)->P) (e2:(List (Key×Bool))->P) (a1:A) (ft:(List (Key×Bool))×(List Tx)×Int×Int):P:=b1 self e2 (r2 k self e2 a1) a1 ft
theorem u7 (rec:RT O) (K:KT O) (a1:A) (ft:(List (Key×Bool))×(List Tx)×Int×Int):D.N k [1,1,1,0,1,0,0] (T1 a1 ft) (im rec (fm [5,26,27,28] []) K)=B1 k (S1 rec a1) (jJ K a1) a1 ft:=
 aL (b:=b1 (S1 rec a1) (jJ K a1) (s2 k rec K a1) a1 ft) Bye (by rw[tz];rfl)
def q2 (a1:A) (wM:(List (Key×Bool))):P:=some (wM,())
theorem wN (a1:A) (wM:(List (Key×Bool))):jJ (ah 2 (aw (D.N k [1,1,1,1]) D.K0)) a1 wM=q2 a1 wM:=Bye
def s1 (a1:A):((List (Key×Bool))×(List Tx)×Int×Int)->P:=λft=>D.L k [1,1,1,0,1,0,0] [5,26,27,28] [] (ah 2 (aw (D.N k [1,1,1,1]) D.K0)) (T1 a1 ft)
def r1 (a1:A):((List (Key×Bool))×(List Tx)×Int×Int)->P:=am (λw v=>B1 k w (q2 a1) a1 v) k
theorem kL (a1:A):s1 k a1=r1 k a1:=by
 funext ft;have h2:jJ (ah 2 (aw (D.N k [1,1,1,1]) D.K0)) a1=q2 a1:=funext λz=>wN k a1 z;refine (ap _ _ _ (T1 a1) (λself v=>B1 k self (jJ (ah 2 (aw (D.N k [1,1,1,1]) D.K0)) a1) a1 v) (λrec v=>u7 k rec (ah 2 (aw (D.N k [1,1,1,1]) D.K0)) a1 v) k ft).trans ?_;rw[h2];rfl
def q0 (l1:((List (Key×Bool))×(List Tx)×Int×Int)->P) (a1:A) (e8:(List (Key×Bool))):P:=l1 (e8,a1.2.1,(a1.2.1.length:Int),0)
def Q0 (a1:A) (e8:(List (Key×Bool))):P:=q0 (r1 k a1) a1 e8
theorem tA (a1:A) (e8:(List (Key×Bool))):cw (ah 0 (aw (D.N k [1,1,1]) D.K0)) a1 e8=Q0 k a1 e8:=
 aL (b:=q0 (s1 k a1) a1 e8) Bye (by rw[kL];rfl)
def s0 (a1:A):((List (Key×Bool))×Int)->P:=λU=>D.L k [1,1,0,1,0,0] [1,5,13,14,15] [] (ah 0 (aw (D.N k [1,1,1]) D.K0)) (T0 a1 U)
def r0 (a1:A):((List (Key×Bool))×Int)->P:=am (λw v=>b0 w (Q0 k a1) a1 v) k
theorem aq (a1:A):s0 k a1=r0 k a1:=by
 funext U;have h0:cw (ah 0 (aw (D.N k [1,1,1]) D.K0)) a1=Q0 k a1:=funext λz=>tA k a1 z;refine (ap _ _ _ (T0 a1) (λself v=>b0 self (cw (ah 0 (aw (D.N k [1,1,1]) D.K0)) a1) a1 v) (λrec v=>kK k rec (ah 0 (aw (D.N k [1,1,1]) D.K0)) a1 v) k U).trans ?_;rw[h0];rfl
def p (l0:((List (Key×Bool))×Int)->P) (a1:A):P:=l0 (([]:List (Key×Bool)),0)
theorem ae (a1:A):@Eq P (D.W k a1) (p (r0 k a1) a1):=
 aL (b:=p (s0 k a1) a1) Bye (by rw[aq])
theorem ok:Ok prog 175 D.sig:=al func175 av Bye (ai _)
end d0
namespace kE
abbrev A:=(List Change)×Unit
abbrev O:=(List Change)×Unit
abbrev P:=Option O
noncomputable def D:FD:={ fn:=f134,tl:=az,ps:=[(.ro,(.aa ao))],rs:=[((.aa ao),(aj (.aa ao)))],lv:=[(3,[0,3,4])],lx:=[(0,[3])] }
def ab (a:A):P:=@lift O λk=>D.W k a
variable (a1:A)
def T0 (U:(List Change)×Int):St:={ n:=30,sl:=[(0,.val (.aa ao) a1.1),(3,.own (.aa ao) (aj (.aa ao)) [] U.1),(4,.val i64 U.2)],vr:=[],ay:=[] }
def b0 (self:((List Change)×Int)->P) (e0:(List Change)->P) (a1:A) (U:(List Change)×Int):P:=cond (decide (0<=U.2)) (if 0<=U.2 then ((a1.1[U.2.toNat]?).bind λa7=>if U.1.length+[(a7.2.2.1,a7.2.2.2.1,a7.1,a7.2.1,())].length<=ct then (let rF:=U.1++[(a7.2.2.1,a7.2.2.2.1,a7.1,a7.2.1,())];self (rF,af (U.2 - 1))) else none) else none)<|e0 U.1
def q0 (a1:A) (e8:(List Change)):P:=some (e8,())
def r0:((List Change)×Int)->P:=am (λw v=>b0 w (q0 a1) a1 v) k
theorem aq:@Eq (((List Change)×Int)->P) (λU=>D.L k [1,1,0,1,0,0] [0,3,4] [] (ah 0 (aw (D.N k [1,1,1]) D.K0)) (T0 a1 U)) (r0 k a1):=
 funext λU=>ap _ _ _ (T0 a1) _ (λrec v=>Bye) k U
def p (l0:((List Change)×Int)->P) (a1:A):P:=l0 (([]:List Change),af ((a1.1.length:Int) - 1))
theorem ae:@Eq P (D.W k a1) (p (r0 k a1) a1):=By8 (aq k a1) Bye
theorem ok:Ok prog 134 D.sig:=al func134 av Bye (ai _)
end kE
namespace kF
abbrev A:=(List Row)×Unit
abbrev O:=(List Row)×Unit
noncomputable def D:FD:={ fn:=f257,tl:=az,ps:=[(.ro,(.aa aT))],rs:=[((.aa aT),(aj (.aa aT)))] }
def ab (a:A):Option O:=@lift O λk=>D.W k a
def p (a1:A):Option O:=BH a1.1 (some (([]:List Row),())) (if ([]:List Row).length+a1.1.length<=ct then (some (([]:List Row)++a1.1,())) else none)
theorem ae (a1:A):@Eq (Option O) (D.W k a1) (p a1):=Bye
theorem ok:Ok prog 257 D.sig:=al func257 av Bye (ai _)
end kF
namespace bq
abbrev A:=(List Row)×Row×(Nat×Int)×Unit
abbrev O:=Int×Bool×Unit
abbrev P:=Option O
noncomputable def D:FD:={ fn:=f185,tl:=az,ps:=[(.ro,(.aa aT)),(.ro,aT),(.fix 186,.fn)],rs:=[(i64,(ak i64)),(.bool,(ak .bool))],gl:=[(186,l6.D.sig)],lv:=[(3,[0,2,4,8,9,10])],lx:=[(0,[0,2,4,8,9])],od:=[(5,[0,1,2,3,4,5,6,7]),(8,[0,1,2,3,4,5,6,7,8,9,10,11,12,13,14,15])] }
def ab (a:A):P:=@lift O λk=>D.W k a
variable (a1:A)
def T0 (U:Int×Int):St:={ n:=49,sl:=[(0,.val (.aa aT) a1.1),(2,.val .fn ((186,a1.2.2.1.2):Nat×Int)),(4,.box aT (ak aT) [] a1.2.1),(8,.val i64 (a1.1.length:Int)),(9,.val i64 U.1),(10,.val i64 U.2)],vr:=[],ay:=[] }
def b0 (self:(Int×Int)->P) (e0:Int->P) (a1:A) (U:Int×Int):P:=cond (decide (U.1 < U.2)) (if 0<=af ((IntKind.wrap .u64 (af (U.1+U.2))).fdiv (2 ^ 1)) then ((a1.1[(af ((IntKind.wrap .u64 (af (U.1+U.2))).fdiv (2 ^ 1))).toNat]?).bind λa7=>(l6.ab (a7,a1.2.1,())).bind λdz=>cond (decide (dz.1 < 0)) (self (af ((af ((IntKind.wrap .u64 (af (U.1+U.2))).fdiv (2 ^ 1)))+1),U.2))<|self (U.1,af ((IntKind.wrap .u64 (af (U.1+U.2))).fdiv (2 ^ 1)))) else none)<|e0 U.1
def q0 (e8:Int):P:=cond (decide (e8 < (a1.1.length:Int))) (if 0<=e8 then ((a1.1[e8.toNat]?).bind λtW=>(l6.ab (tW,a1.2.1,())).bind λky=>some (e8,decide (ky.1=0),())) else none)<|some (e8,false,())
def r0:(Int×Int)->P:=am (λw v=>b0 w (q0 a1) a1 v) k
theorem aq:@Eq ((Int×Int)->P) (λU=>D.L k [1,1,1,0,0,0] [0,2,4,8,9,10] [] (ah 0 (aw (D.N k [1,1,1,1]) D.K0)) (T0 a1 U)) (r0 k a1):=
 funext λU=>ap _ _ _ (T0 a1) _ (λrec v=>Bye) k U
def p (l0:(Int×Int)->P) (a1:A):P:=l0 (0,(a1.1.length:Int))
theorem ae:@Eq P (D.W k a1) (p (r0 k a1) a1):=By8 (aq k a1) Bye
theorem ok:Ok prog 185 D.sig:=al func185 av Bye (fc l6.ok (ai _))
end bq
namespace ke
abbrev A:=Change×(List Row)×Unit
abbrev O:=Bool×Unit
noncomputable def D:FD:={ fn:=f263,tl:=az,ps:=[(.ro,ao),(.ro,(.aa aT))],rs:=[(.bool,(ak .bool))],gl:=[(133,dq.D.sig),(185,bq.D.sig)],od:=[(2,[0,1,2,3,4,5,6,7,8,9,10,11,12,13,14,15,16,17])] }
def ab (a:A):Option O:=@lift O λk=>D.W k a
def p (a1:A):Option O:=(dq.ab (a1.1,())).bind λr2=>(bq.ab (a1.2.1,r2.1,((186,0):Nat×Int),())).bind λr3=>cond (r3.2.1 == a1.1.1) (cond (!r3.2.1) (some (true,()))<|if 0<=r3.1 then ((a1.2.1[r3.1.toNat]?).bind λx4=>some ((Ty.eq aT x4 a1.1.2.1),())) else none)<|some (false,())
theorem ae (a1:A):@Eq (Option O) (D.W k a1) (p a1):=Bye
theorem ok:Ok prog 263 D.sig:=al func263 av Bye (fc dq.ok (fc bq.ok (ai _)))
end ke
namespace q9
abbrev A:=(List Row)×Change×Unit
abbrev O:=(List Row)×Unit
abbrev P:=Option O
noncomputable def D:FD:={ fn:=f304,tl:=az,ps:=[(.ro,(.aa aT)),(.ro,ao)],rs:=[((.aa aT),(aj (.aa aT)))],gl:=[(133,dq.D.sig),(185,bq.D.sig)] }
def ab (a:A):P:=@lift O λk=>D.W k a
def p (a1:A):P:=(dq.ab (a1.2.1,())).bind λr2=>(bq.ab (a1.1,r2.1,((186,0):Nat×Int),())).bind λr3=>if 0<=r3.1/\r3.1<=(a1.1.length:Int) then (if ([]:List Row).length+((a1.1.take r3.1.toNat).drop 0).length<=ct then (let y4:=([]:List Row)++((a1.1.take r3.1.toNat).drop 0);let j8:=λ(p7:List Row)=>(let W0:=λ(p10:Int)=>(if 0<=p10/\p10<=(a1.1.length:Int) then (if p7.length+((a1.1.take a1.1.length).drop p10.toNat).length<=ct then (let y12:=p7++((a1.1.take a1.1.length).drop p10.toNat);some (y12,())) else none) else none:P);cond r3.2.1 (W0 (af (r3.1+1)))<|W0 r3.1:P);cond a1.2.1.2.2.1 (if y4.length+[a1.2.1.2.2.2.1].length<=ct then (j8 (y4++[a1.2.1.2.2.2.1])) else none)<|j8 y4) else none) else none
theorem ae (a1:A):@Eq P (D.W k a1) (p a1):=Bye
theorem ok:Ok prog 304 D.sig:=al func304 av Bye (fc dq.ok (fc bq.ok (ai _)))
end q9
namespace iY
abbrev A:=(List Row)×(List Change)×Unit
abbrev O:=Bg×Unit
abbrev P:=Option O
noncomputable def D:FD:={ fn:=f256,tl:=az,ps:=[(.ro,(.aa aT)),(.ro,(.aa ao))],rs:=[(xr,(aj xr))],gl:=[(103,gb.D.sig),(208,iW.D.sig),(257,kF.D.sig),(263,ke.D.sig),(304,q9.D.sig)],lv:=[(6,[4,6,18,19,20])],lx:=[(0,[4,6])] }
def ab (a:A):P:=@lift O λk=>D.W k a
variable (a1:A)
def T0 (c7:(List Row)×Int):St:={ n:=45,sl:=[(4,.box xr (aj xr) [] ((0:Int),([]:List Row),())),(6,.own (.aa aT) (aj (.aa aT)) [] c7.1),(18,.val (.aa ao) a1.2.1),(19,.val i64 (a1.2.1.length:Int)),(20,.val i64 c7.2)],vr:=[],ay:=[] }
def b0 (self:((List Row)×Int)->P) (e0:(List Row)->P) (a1:A) (c7:(List Row)×Int):P:=cond (decide (c7.2 < (a1.2.1.length:Int))) (if 0<=c7.2 then ((a1.2.1[c7.2.toNat]?).bind λen=>(iW.ab (en,())).bind λjm=>cond (!decide (jm.1=0)) (some ((jm.1,([]:List Row),()),()))<|(ke.ab (en,c7.1,())).bind λky=>cond (!ky.1) (some ((8,([]:List Row),()),()))<|(q9.ab (c7.1,en,())).bind λqv=>self (qv.1,af (c7.2+1))) else none)<|e0 c7.1
def q0 (a1:A) (wt:(List Row)):P:=cond (decide (60 < (wt.length:Int))) (some ((2,([]:List Row),()),()))<|some ((0,wt,()),())
def r0:((List Row)×Int)->P:=am (λw v=>b0 w (q0 a1) a1 v) k
theorem aq:@Eq (((List Row)×Int)->P) (λc7=>D.L k [1,1,1,0,1,0,0] [4,6,18,19,20] [] (ah 0 (aw (D.N k [1,1,1,1]) D.K0)) (T0 a1 c7)) (r0 k a1):=
 funext λc7=>ap _ _ _ (T0 a1) _ (λrec v=>Bye) k c7
def p (l0:((List Row)×Int)->P) (a1:A):P:=(gb.ab (a1.1,())).bind λr2=>cond (!decide (r2.1=0)) (some ((r2.1,([]:List Row),()),()))<|(kF.ab (a1.1,())).bind λr3=>l0 (r3.1,0)
theorem ae:@Eq P (D.W k a1) (p (r0 k a1) a1):=By8 (aq k a1) Bye
theorem ok:Ok prog 256 D.sig:=al func256 av Bye (fc gb.ok (fc iW.ok (fc kF.ok (fc ke.ok (fc q9.ok (ai _))))))
end iY
namespace kj
abbrev A:=(List Row)×(List Tx)×Unit
abbrev O:=(List Row)×Int×Unit
abbrev P:=Option O
noncomputable def D:FD:={ fn:=f176,tl:=az,ps:=[(.ro,(.aa aT)),(.ro,(.aa bh))],rs:=[((.aa aT),(aj (.aa aT))),(i64,(ak i64))],gl:=[(134,kE.D.sig),(256,iY.D.sig),(257,kF.D.sig)],lv:=[(2,[0,9,10,11])],lx:=[(0,[0])],lf:=[(2,[(0,Byc)])],od:=[(6,[0,1,2,3])] }
def ab (a:A):P:=@lift O λk=>D.W k a
variable (a1:A)
def T0 (U:(List Row)×Int):St:={ n:=30,sl:=[(0,.val (.aa aT) U.1),(9,.val (.aa bh) a1.2.1),(10,.val i64 (a1.2.1.length:Int)),(11,.val i64 U.2)],vr:=[],ay:=[] }
def b0 (self:((List Row)×Int)->P) (e0:(List Row)->P) (a1:A) (U:(List Row)×Int):P:=cond (decide (U.2 < (a1.2.1.length:Int))) (if 0<=U.2 then ((a1.2.1[U.2.toNat]?).bind λa7=>(kE.ab (a7.2.1,())).bind λdz=>(iY.ab (U.1,dz.1,())).bind λlj=>cond (!decide (lj.1.1=0)) (some (([]:List Row),lj.1.1,()))<|self (lj.1.2.1,af (U.2+1))) else none)<|e0 U.1
def q0 (a1:A) (rW:(List Row)):P:=(kF.ab (rW,())).bind λky=>some (ky.1,0,())
def r0:((List Row)×Int)->P:=am (λw v=>b0 w (q0 a1) a1 v) k
theorem aq:@Eq (((List Row)×Int)->P) (λU=>D.L k [1,0,1,0,0] [0,9,10,11] [(0,Byc)] (ah 0 (aw (D.N k [1,1]) D.K0)) (T0 a1 U)) (r0 k a1):=
 funext λU=>ap _ _ _ (T0 a1) _ (λrec v=>Bye) k U
def p (l0:((List Row)×Int)->P) (a1:A):P:=l0 (a1.1,0)
theorem ae:@Eq P (D.W k a1) (p (r0 k a1) a1):=By8 (aq k a1) Bye
theorem ok:Ok prog 176 D.sig:=al func176 av Bye (fc kE.ok (fc iY.ok (fc kF.ok (ai _))))
end kj
namespace oH
abbrev A:=Plain×Unit
abbrev O:=Int×Unit
noncomputable def D:FD:={ fn:=f100,tl:=az,ps:=[(.ro,D3)],rs:=[(i64,(ak i64))],gl:=[(98,fk.D.sig),(103,gb.D.sig),(104,cu.D.sig),(175,d0.D.sig),(176,kj.D.sig)],od:=[(7,[0,1,2,3,4,5,6,7,8,9,10,11,12,13,14,15,16,17,18,19,20,21,22,23])],ar:=[(7,[1,6,11,13,18,20])],bx:=[(7,[1])] }
def ab (a:A):Option O:=@lift O λk=>D.W k a
def p (a1:A):Option O:=(gb.ab (a1.1.1,())).bind λr2=>cond (!decide (r2.1=0)) (some (r2.1,()))<|(cu.ab (a1.1.2.1,())).bind λr3=>cond (!decide (r3.1=0)) (some (r3.1,()))<|let j8:Option O:=(d0.ab (a1.1.1,a1.1.2.1,())).bind λr9=>cond (decide (12 < (r9.1.length:Int))) (some (2,()))<|(kj.ab (a1.1.1,a1.1.2.1,())).bind λsf=>cond (!decide (sf.2.1=0)) (some (8,()))<|some (0,());(fk.ab (a1.1.2.2.1,1,100,())).bind λr4=>cond (!r4.1) (some (3,()))<|cond (decide (0 < (a1.1.2.1.length:Int))) (if 0<=af ((a1.1.2.1.length:Int) - 1) then ((a1.1.2.1[(af ((a1.1.2.1.length:Int) - (1:Int))).toNat]?).bind λx5=>cond (decide (a1.1.2.2.1<=x5.1)) (some (3,()))<|j8) else none)<|j8
theorem ae (a1:A):@Eq (Option O) (D.W k a1) (p a1):=Bye
theorem ok:Ok prog 100 D.sig:=al func100 av Bye (fc fk.ok (fc gb.ok (fc cu.ok (fc d0.ok (fc kj.ok (ai _))))))
end oH
namespace kM
abbrev A:=(List Seen)×Unit
abbrev O:=(List Row)×Unit
abbrev P:=Option O
noncomputable def D:FD:={ fn:=f101,tl:=az,ps:=[(.ro,(.aa gt))],rs:=[((.aa aT),(aj (.aa aT)))],lv:=[(3,[3,6,7,8])],lx:=[(0,[3])] }
def ab (a:A):P:=@lift O λk=>D.W k a
variable (a1:A)
def T0 (U:(List Row)×Int):St:={ n:=19,sl:=[(3,.own (.aa aT) (aj (.aa aT)) [] U.1),(6,.val (.aa gt) a1.1),(7,.val i64 (a1.1.length:Int)),(8,.val i64 U.2)],vr:=[],ay:=[] }
def b0 (self:((List Row)×Int)->P) (e0:(List Row)->P) (a1:A) (U:(List Row)×Int):P:=cond (decide (U.2 < (a1.1.length:Int))) (if 0<=U.2 then ((a1.1[U.2.toNat]?).bind λa7=>if U.1.length+[a7.1].length<=ct then (self (U.1++[a7.1],af (U.2+1))) else none) else none)<|e0 U.1
def q0 (a1:A) (l_:(List Row)):P:=some (l_,())
def r0:((List Row)×Int)->P:=am (λw v=>b0 w (q0 a1) a1 v) k
theorem aq:@Eq (((List Row)×Int)->P) (λU=>D.L k [1,1,0,1,0,0] [3,6,7,8] [] (ah 0 (aw (D.N k [1,1,1]) D.K0)) (T0 a1 U)) (r0 k a1):=
 funext λU=>ap _ _ _ (T0 a1) _ (λrec v=>Bye) k U
def p (l0:((List Row)×Int)->P) (a1:A):P:=l0 (([]:List Row),0)
theorem ae:@Eq P (D.W k a1) (p (r0 k a1) a1):=By8 (aq k a1) Bye
theorem ok:Ok prog 101 D.sig:=al func101 av Bye (ai _)
end kM
namespace ge
abbrev A:=(List Byt)×(List Byt)×(Nat×Int)×Unit
abbrev O:=Bool×Unit
abbrev P:=Option O
noncomputable def D:FD:={ fn:=f177,tl:=az,ps:=[(.ro,(.aa (.aa u8))),(.ro,(.aa (.aa u8))),(.fix 178,.fn)],rs:=[(.bool,(ak .bool))],gl:=[(178,fl.D.sig)],lv:=[(4,[1,2,15,16,17])],lx:=[(0,[])] }
def ab (a:A):P:=@lift O λk=>D.W k a
variable (a1:A)
def T0 (U:Int):St:={ n:=32,sl:=[(1,.val (.aa (.aa u8)) a1.2.1),(2,.val .fn ((178,a1.2.2.1.2):Nat×Int)),(15,.val (.aa (.aa u8)) a1.1),(16,.val i64 (a1.1.length:Int)),(17,.val i64 U)],vr:=[],ay:=[] }
def b0 (self:Int->P) (e0:(Unit)->P) (a1:A) (U:Int):P:=cond (decide (U < (a1.1.length:Int))) (if 0<=U then ((a1.1[U.toNat]?).bind λa7=>if 0<=U then ((a1.2.1[U.toNat]?).bind λg_=>(fl.ab (a7,g_,())).bind λlj=>cond (!lj.1) (some (false,()))<|self (af (U+1))) else none) else none)<|e0 ()
def q0 (a1:A) (rW:(Unit)):P:=some (true,())
def r0:(Int)->P:=am (λw v=>b0 w (q0 a1) a1 v) k
theorem aq:@Eq ((Int)->P) (λU=>D.L k [1,1,0,1,0,0] [1,2,15,16,17] [] (ah 0 (aw (D.N k [1,1,1]) D.K0)) (T0 a1 U)) (r0 k a1):=
 funext λU=>ap _ _ _ (T0 a1) _ (λrec v=>Bye) k U
def p (l0:(Int)->P) (a1:A):P:=cond (!decide ((a1.1.length:Int)=(a1.2.1.length:Int))) (some (false,()))<|l0 0
theorem ae:@Eq P (D.W k a1) (p (r0 k a1) a1):=By8 (aq k a1) Bye
theorem ok:Ok prog 177 D.sig:=al func177 av Bye (fc fl.ok (ai _))
end ge
namespace qE
abbrev A:=(List Byt)×(List Byt)×Unit
abbrev O:=Bool×Unit
noncomputable def D:FD:={ fn:=f102,tl:=az,ps:=[(.ro,(.aa (.aa u8))),(.ro,(.aa (.aa u8)))],rs:=[(.bool,(ak .bool))],gl:=[(177,ge.D.sig)] }
def ab (a:A):Option O:=@lift O λk=>D.W k a
def p (a1:A):Option O:=(ge.ab (a1.1,a1.2.1,((178,0):Nat×Int),())).bind λr2=>some (r2.1,())
theorem ae (a1:A):@Eq (Option O) (D.W k a1) (p a1):=Bye
theorem ok:Ok prog 102 D.sig:=al func102 av Bye (fc ge.ok (ai _))
end qE
namespace p6
abbrev A:=ba×Unit
abbrev O:=Int×Unit
noncomputable def D:FD:={ fn:=f46,tl:=az,ps:=[(.ro,bv)],rs:=[(i64,(ak i64))],gl:=[(79,o6.D.sig),(81,qZ.D.sig),(97,kZ.D.sig),(98,fk.D.sig),(99,fb.D.sig),(100,oH.D.sig),(101,kM.D.sig),(102,qE.D.sig)],od:=[(13,[0,2,3,4,5,1,6,7,8])] }
def ab (a:A):Option O:=@lift O λk=>D.W k a
def p (a1:A):Option O:=(kZ.ab (a1.1.2.2.1,())).bind λr2=>cond (!decide (r2.1=0)) (some (r2.1,()))<|cond (!a1.1.1) (cond (decide (0 < (a1.1.2.1.length:Int))) (some (1,()))<|cond (decide (0 < (a1.1.2.2.2.1.length:Int))) (some (1,()))<|cond (decide (0 < (a1.1.2.2.1.2.1.length:Int))) (some (1,()))<|(fk.ab (a1.1.2.2.2.2.1,1,100,())).bind λr3=>cond (!r3.1) (some (3,()))<|some (0,()))<|(fb.ab (a1.1.2.1,())).bind λr4=>cond (!decide (r4.2.1=0)) (some (r4.2.1,()))<|(kM.ab (r4.1,())).bind λr5=>(oH.ab ((r5.1,a1.1.2.2.2.1,a1.1.2.2.2.2.1,()),())).bind λr6=>cond (!decide (r6.1=0)) (some (r6.1,()))<|(o6.ab (a1.1.2.2.1,())).bind λr7=>(qZ.ab (r7.1,())).bind λr8=>cond (!decide (r8.2.1=0)) (some (8,()))<|(qE.ab (r8.1,a1.1.2.1,())).bind λr9=>cond (!r9.1) (some (8,()))<|some (0,())
theorem ae (a1:A):@Eq (Option O) (D.W k a1) (p a1):=Bye
theorem ok:Ok prog 46 D.sig:=al func46 av Bye (fc o6.ok (fc qZ.ok (fc kZ.ok (fc fk.ok (fc fb.ok (fc oH.ok (fc kM.ok (fc qE.ok (ai _)))))))))
end p6
namespace qN
abbrev A:=Int×Unit
abbrev O:=Bool×Unit
noncomputable def D:FD:={ fn:=f182,tl:=az,ps:=[(.ro,i64)],rs:=[(.bool,(ak .bool))] }
def ab (a:A):Option O:=@lift O λk=>D.W k a
def p (a1:A):Option O:=cond (decide (a1.1=2)) (some (true,()))<|cond (decide (a1.1=3)) (some (true,()))<|some (decide (a1.1=4),())
theorem ae (a1:A):@Eq (Option O) (D.W k a1) (p a1):=Bye
theorem ok:Ok prog 182 D.sig:=al func182 av Bye (ai _)
end qN
namespace q_
abbrev A:=Op×Unit
abbrev O:=Int×Unit
abbrev P:=Option O
noncomputable def D:FD:={ fn:=f105,tl:=az,ps:=[(.ro,oY)],rs:=[(i64,(ak i64))],gl:=[(70,oG.D.sig),(98,fk.D.sig),(179,dp.D.sig),(182,qN.D.sig)] }
def ab (a:A):P:=@lift O λk=>D.W k a
def p (a1:A):P:=let j29:=λ(p28:Bool)=>(let MN:P:=let j55:P:=cond (!p28) ((oG.ab (a1.1.2.1,())).bind λr56=>cond (!r56.1) (some (3,()))<|(fk.ab (a1.1.2.2.2.1,0,7,())).bind λr57=>cond (!r57.1) (some (3,()))<|(qN.ab (a1.1.1,())).bind λr61=>cond r61.1 ((dp.ab (a1.1.2.2.1,())).bind λr62=>some (r62.1,()))<|some (0,()))<|(fk.ab (a1.1.2.2.2.1,0,7,())).bind λr58=>cond (!r58.1) (some (3,()))<|(qN.ab (a1.1.1,())).bind λr63=>cond r63.1 ((dp.ab (a1.1.2.2.1,())).bind λr64=>some (r64.1,()))<|some (0,());cond (decide (a1.1.1=4)) (cond (!decide (a1.1.2.2.1.2.2.1=0)) (some (1,()))<|cond (!decide (a1.1.2.2.1.2.2.2.1=([]:Byt))) (some (1,()))<|j55)<|j55;(fk.ab (a1.1.1,1,9,())).bind λr30=>cond (!r30.1) (some (1,()))<|cond p28 (cond (!decide (a1.1.2.1=0)) (some (1,()))<|(qN.ab (a1.1.1,())).bind λr31=>cond (!r31.1) (cond (!(Ty.eq aT a1.1.2.2.1 (0,0,0,([]:Byt),()))) (some (1,()))<|cond (!decide (a1.1.1=6)) (cond (!decide (a1.1.2.2.2.1=0)) (some (1,()))<|MN)<|MN)<|cond (!decide (a1.1.1=6)) (cond (!decide (a1.1.2.2.2.1=0)) (some (1,()))<|MN)<|MN)<|(qN.ab (a1.1.1,())).bind λr32=>cond (!r32.1) (cond (!(Ty.eq aT a1.1.2.2.1 (0,0,0,([]:Byt),()))) (some (1,()))<|cond (!decide (a1.1.1=6)) (cond (!decide (a1.1.2.2.2.1=0)) (some (1,()))<|MN)<|MN)<|cond (!decide (a1.1.1=6)) (cond (!decide (a1.1.2.2.2.1=0)) (some (1,()))<|MN)<|MN:P);cond (decide (a1.1.1=1)) (j29 true)<|j29 (decide (a1.1.1=9))
theorem ae (a1:A):@Eq P (D.W k a1) (p a1):=Bye
theorem ok:Ok prog 105 D.sig:=al func105 av Bye (fc oG.ok (fc fk.ok (fc dp.ok (fc qN.ok (ai _)))))
end q_
namespace vO
abbrev A:=Tx×Int×Unit
abbrev O:=Bool×Unit
noncomputable def D:FD:={ fn:=f184,tl:=az,ps:=[(.ro,bh),(.ro,(.ptr i64))],rs:=[(.bool,(ak .bool))],cap:=true }
def ab (a:A):Option O:=@lift O λk=>D.W k a
def p (a1:A):Option O:=some (decide (a1.1.1=a1.2.1),())
theorem ae (a1:A):@Eq (Option O) (D.W k a1) (p a1):=Bye
theorem ok:Ok prog 184 D.sig:=al func184 av Bye (ai _)
end vO
namespace iz
abbrev A:=(List Tx)×(Nat×Int)×Unit
abbrev O:=Int×Unit
abbrev P:=Option O
noncomputable def D:FD:={ fn:=f183,tl:=az,ps:=[(.ro,(.aa bh)),(.fix 184,.fn)],rs:=[(i64,(ak i64))],gl:=[(184,vO.D.sig)],lv:=[(2,[0,1,7,8])],lx:=[(0,[])] }
def ab (a:A):P:=@lift O λk=>D.W k a
variable (a1:A)
def T0 (U:Int):St:={ n:=19,sl:=[(0,.val (.aa bh) a1.1),(1,.val .fn ((184,a1.2.1.2):Nat×Int)),(7,.val i64 (a1.1.length:Int)),(8,.val i64 U)],vr:=[],ay:=[] }
def b0 (self:Int->P) (e0:(Unit)->P) (a1:A) (U:Int):P:=cond (decide (U < (a1.1.length:Int))) (if 0<=U then ((a1.1[U.toNat]?).bind λa7=>(vO.ab (a7,a1.2.1.2,())).bind λdz=>cond dz.1 (some (U,()))<|self (af (U+1))) else none)<|e0 ()
def q0 (a1:A) (e8:(Unit)):P:=some ((-1),())
def r0:(Int)->P:=am (λw v=>b0 w (q0 a1) a1 v) k
theorem aq:@Eq ((Int)->P) (λU=>D.L k [1,0,1,0,0] [0,1,7,8] [] (ah 0 (aw (D.N k [1,1]) D.K0)) (T0 a1 U)) (r0 k a1):=
 funext λU=>ap _ _ _ (T0 a1) _ (λrec v=>Bye) k U
def p (l0:(Int)->P) (a1:A):P:=l0 0
theorem ae:@Eq P (D.W k a1) (p (r0 k a1) a1):=By8 (aq k a1) Bye
theorem ok:Ok prog 183 D.sig:=al func183 av Bye (fc vO.ok (ai _))
end iz
namespace mJ
abbrev A:=(List Tx)×Int×Unit
abbrev O:=Int×Unit
noncomputable def D:FD:={ fn:=f106,tl:=az,ps:=[(.ro,(.aa bh)),(.ro,i64)],rs:=[(i64,(ak i64))],gl:=[(183,iz.D.sig)] }
def ab (a:A):Option O:=@lift O λk=>D.W k a
def p (a1:A):Option O:=(iz.ab (a1.1,((184,a1.2.1):Nat×Int),())).bind λr2=>some (r2.1,())
theorem ae (a1:A):@Eq (Option O) (D.W k a1) (p a1):=Bye
theorem ok:Ok prog 106 D.sig:=al func106 av Bye (fc iz.ok (ai _))
end mJ
namespace jD
abbrev A:=(List Row)×Change×Unit
abbrev O:=Int×Unit
abbrev P:=Option O
noncomputable def D:FD:={ fn:=f260,tl:=az,ps:=[(.ro,(.aa aT)),(.ro,ao)],rs:=[(i64,(ak i64))],gl:=[(98,fk.D.sig),(133,dq.D.sig)],lv:=[(4,[3,28,29,30])],lx:=[(0,[])],od:=[(6,[0,1,2,3,4,5,6,7,8,9,10,11,12,13,14,15,16,17,18,19,20,21,22,23,24])],ar:=[(6,[1,2,8,13,17,21])],bx:=[(3,[3]),(6,[6])] }
def ab (a:A):P:=@lift O λk=>D.W k a
variable (a1:A)
def T0 (cm:Int):St:={ n:=60,sl:=[(3,.cp ao a1.2.1),(28,.val (.aa aT) a1.1),(29,.val i64 (a1.1.length:Int)),(30,.val i64 cm)],vr:=[],ay:=[] }
def b0 (self:Int->P) (e0:(Unit)->P) (a1:A) (cm:Int):P:=cond (decide (cm < (a1.1.length:Int))) (if 0<=cm then ((a1.1[cm.toNat]?).bind λEP=>(dq.ab (a1.2.1,())).bind λUv=>cond (decide (EP.1=Uv.1.2.1)) (cond (!decide (EP.1=0)) (cond (!a1.2.1.2.2.1) (some (8,()))<|cond (decide (a1.2.1.2.2.2.1.2.2.1 < (EP.2.2.2.1.length:Int))) (some (8,()))<|self (af (cm+1)))<|self (af (cm+1)))<|self (af (cm+1))) else none)<|e0 ()
def q0 (a1:A) (zX:(Unit)):P:=some (0,())
def r0:(Int)->P:=am (λw v=>b0 w (q0 a1) a1 v) k
theorem aq:@Eq ((Int)->P) (λcm=>D.L k [1,1,0,1,0,0] [3,28,29,30] [] (ah 0 (aw (D.N k [1,1,1]) D.K0)) (T0 a1 cm)) (r0 k a1):=
 funext λcm=>ap _ _ _ (T0 a1) _ (λrec v=>Bye) k cm
def p (l0:(Int)->P) (a1:A):P:=let ach:P:=l0 0;cond a1.2.1.2.2.1 ((fk.ab (a1.2.1.2.2.2.1.2.1,1,3,())).bind λr2=>cond (!r2.1) (some (10,()))<|cond (decide (8 < a1.2.1.2.2.2.1.2.2.1)) (some (10,()))<|cond (!decide (a1.2.1.2.2.2.1.2.2.2.1=([]:Byt))) (some (10,()))<|ach)<|ach
theorem ae:@Eq P (D.W k a1) (p (r0 k a1) a1):=By8 (aq k a1) Bye
theorem ok:Ok prog 260 D.sig:=al func260 av Bye (fc fk.ok (fc dq.ok (ai _)))
end jD
namespace nO
abbrev A:=(List Row)×Int×Unit
abbrev O:=Int×Bool×Unit
abbrev P:=Option O
noncomputable def D:FD:={ fn:=f261,tl:=az,ps:=[(.ro,(.aa aT)),(.ro,i64)],rs:=[(i64,(ak i64)),(.bool,(ak .bool))],lv:=[(2,[1,8,9,10])],lx:=[(0,[])] }
def ab (a:A):P:=@lift O λk=>D.W k a
variable (a1:A)
def T0 (U:Int):St:={ n:=26,sl:=[(1,.val i64 a1.2.1),(8,.val (.aa aT) a1.1),(9,.val i64 (a1.1.length:Int)),(10,.val i64 U)],vr:=[],ay:=[] }
def b0 (self:Int->P) (e0:(Unit)->P) (a1:A) (U:Int):P:=cond (decide (U < (a1.1.length:Int))) (if 0<=U then ((a1.1[U.toNat]?).bind λa7=>cond (decide (a7.1=0)) (cond (decide (a7.2.1=a1.2.1)) (some (a7.2.2.1,true,()))<|self (af (U+1)))<|self (af (U+1))) else none)<|e0 ()
def q0 (a1:A) (l_:(Unit)):P:=some (0,false,())
def r0:(Int)->P:=am (λw v=>b0 w (q0 a1) a1 v) k
theorem aq:@Eq ((Int)->P) (λU=>D.L k [1,0,1,0,0] [1,8,9,10] [] (ah 0 (aw (D.N k [1,1]) D.K0)) (T0 a1 U)) (r0 k a1):=
 funext λU=>ap _ _ _ (T0 a1) _ (λrec v=>Bye) k U
def p (l0:(Int)->P) (a1:A):P:=l0 0
theorem ae:@Eq P (D.W k a1) (p (r0 k a1) a1):=By8 (aq k a1) Bye
theorem ok:Ok prog 261 D.sig:=al func261 av Bye (ai _)
end nO
namespace tH
abbrev A:=(List Row)×Change×Unit
abbrev O:=Int×Unit
noncomputable def D:FD:={ fn:=f187,tl:=az,ps:=[(.ro,(.aa aT)),(.ro,ao)],rs:=[(i64,(ak i64))],gl:=[(133,dq.D.sig),(260,jD.D.sig),(261,nO.D.sig)] }
def ab (a:A):Option O:=@lift O λk=>D.W k a
def p (a1:A):Option O:=(dq.ab (a1.2.1,())).bind λr2=>cond (decide (r2.1.1=0)) ((jD.ab (a1.1,a1.2.1,())).bind λr3=>some (r3.1,()))<|cond (!a1.2.1.2.2.1) (some (0,()))<|(nO.ab (a1.1,a1.2.1.2.2.2.1.1,())).bind λr4=>cond (!r4.2.1) (some (4,()))<|cond (decide (r4.1 < (a1.2.1.2.2.2.1.2.2.2.1.length:Int))) (some (10,()))<|some (0,())
theorem ae (a1:A):@Eq (Option O) (D.W k a1) (p a1):=Bye
theorem ok:Ok prog 187 D.sig:=al func187 av Bye (fc dq.ok (fc jD.ok (fc nO.ok (ai _))))
end tH
namespace cy
abbrev A:=(List Row)×(List Tx)×Op×Unit
abbrev O:=bz×Unit
abbrev P:=Option O
noncomputable def D:FD:={ fn:=f107,tl:=az,ps:=[(.ro,(.aa aT)),(.ro,(.aa bh)),(.ro,oY)],rs:=[(fh,(ak fh))],gl:=[(175,d0.D.sig),(181,jp.D.sig),(185,bq.D.sig),(187,tH.D.sig)],lv:=[(3,[0,1,5,6,7,24,25,26]),(7,[0,1,5,6,7,24,25,26,36,37,38])],lx:=[(0,[0,1,5,6,7]),(1,[0,1,5,6,7,24,25,26]),(2,[0,1,5,6,7,24,25,26])],od:=[(20,[0,1,2,3,4,5,6,7]),(22,[0,1,2,3,4,5])],ar:=[(20,[3]),(22,[1])],bx:=[(22,[5])] }
def ab (a:A):P:=@lift O λk=>D.W k a
def T0 (a1:A) (U:(List Row)×(List Tx)×Op×bz×Key×(List Tx)×Int×Int):St:={ n:=145,sl:=[(0,.val (.aa aT) U.1),(1,.val (.aa bh) U.2.1),(5,.box oY (ak oY) [] U.2.2.1),(6,.box fh (ak fh) [] U.2.2.2.1),(7,.box bc (ak bc) [] U.2.2.2.2.1),(24,.val (.aa bh) U.2.2.2.2.2.1),(25,.val i64 U.2.2.2.2.2.2.1),(26,.val i64 U.2.2.2.2.2.2.2)],vr:=[],ay:=[] }
def S0 (rec:RT O) (a1:A):((List Row)×(List Tx)×Op×bz×Key×(List Tx)×Int×Int)->P:=λU=>rec (T0 a1 U)
def cw (K:KT O) (a1:A):((List Row)×(List Tx)×Op×bz×Key)->P:=λz=>K (.exit 0) ({ n:=145,sl:=[(0,.val (.aa aT) z.1),(1,.val (.aa bh) z.2.1),(5,.box oY (ak oY) [] z.2.2.1),(6,.box fh (ak fh) [] z.2.2.2.1),(7,.box bc (ak bc) [] z.2.2.2.2)],vr:=[],ay:=[] })
def T1 (a1:A) (fa:List Row) (c8:List Tx) (cg:Op) (bt:bz) (bY:Key) (fw:List Tx) (iS:Int) (lu:Int) (yR:List Key) (yS:Int) (oo:Int):St:={ n:=145,sl:=[(0,.val (.aa aT) fa),(1,.val (.aa bh) c8),(5,.box oY (ak oY) [] cg),(6,.box fh (ak fh) [] bt),(7,.box bc (ak bc) [] bY),(24,.val (.aa bh) fw),(25,.val i64 iS),(26,.val i64 lu),(36,.val (.aa bc) yR),(37,.val i64 yS),(38,.val i64 oo)],vr:=[],ay:=[] }
def b1 (self:Int->P) (e2:(Unit)->P) (a1:A) (fa:List Row) (c8:List Tx) (cg:Op) (bt:bz) (bY:Key) (fw:List Tx) (iS:Int) (lu:Int) (yR:List Key) (yS:Int) (oo:Int):P:=cond (decide (oo < yS)) (if 0<=oo then ((yR[oo.toNat]?).bind λNR=>cond (Ty.eq bc NR bY) (some ((7,false,(false,(0,0,0,([]:Byt),()),false,(0,0,0,([]:Byt),()),()),()),()))<|cond (!decide (bY.1=0)) (cond (Ty.eq bc NR (0,bY.1,())) (some ((7,false,(false,(0,0,0,([]:Byt),()),false,(0,0,0,([]:Byt),()),()),()),()))<|cond (decide (bY.1=0)) (cond (decide (NR.1=bY.2.1)) (some ((7,false,(false,(0,0,0,([]:Byt),()),false,(0,0,0,([]:Byt),()),()),()),()))<|self (af (oo+1)))<|self (af (oo+1)))<|cond (decide (bY.1=0)) (cond (decide (NR.1=bY.2.1)) (some ((7,false,(false,(0,0,0,([]:Byt),()),false,(0,0,0,([]:Byt),()),()),()),()))<|self (af (oo+1)))<|self (af (oo+1))) else none)<|e2 ()
def q0 (self:((List Row)×(List Tx)×Op×bz×Key×(List Tx)×Int×Int)->P) (e0:((List Row)×(List Tx)×Op×bz×Key)->P) (a1:A) (fa:List Row) (c8:List Tx) (cg:Op) (bt:bz) (bY:Key) (fw:List Tx) (iS:Int) (lu:Int) (yR:List Key) (yS:Int) (Kp:(Unit)):P:=self (fa,c8,cg,bt,bY,fw,iS,af (lu+1))
def s1 (rec:RT O) (K:KT O) (a1:A):(List Row)->(List Tx)->Op->bz->Key->(List Tx)->Int->Int->(List Key)->Int->(Int)->P:=λfa c8 cg bt bY fw iS lu yR yS=>λoo=>D.L k [1,1,0,1,0,0,1,1,0,0,1,1,1,0,0] [0,1,5,6,7,24,25,26,36,37,38] [] (ah 2 (ah 1 (aw (D.N k [1,1,0,1,0,0,1,1,1]) (im rec (fm [0,1,5,6,7,24,25,26] []) K)))) (T1 a1 fa c8 cg bt bY fw iS lu yR yS oo)
def r1 (self:((List Row)×(List Tx)×Op×bz×Key×(List Tx)×Int×Int)->P) (e0:((List Row)×(List Tx)×Op×bz×Key)->P) (a1:A):(List Row)->(List Tx)->Op->bz->Key->(List Tx)->Int->Int->(List Key)->Int->(Int)->P:=λfa c8 cg bt bY fw iS lu yR yS=>am (λw v=>b1 w (q0 self e0 a1 fa c8 cg bt bY fw iS lu yR yS) a1 fa c8 cg bt bY fw iS lu yR yS v) k
theorem kL (rec:RT O) (K:KT O) (a1:A):s1 k rec K a1=r1 k (S0 rec a1) (cw K a1) a1:=
 funext λfa=>funext λc8=>funext λcg=>funext λbt=>funext λbY=>funext λfw=>funext λiS=>funext λlu=>funext λyR=>funext λyS=>funext λoo=>ap _ _ _ (T1 a1 fa c8 cg bt bY fw iS lu yR yS) _ (λrec v=>Bye) k oo
def b0 (self:((List Row)×(List Tx)×Op×bz×Key×(List Tx)×Int×Int)->P) (e0:((List Row)×(List Tx)×Op×bz×Key)->P) (l1:(List Row)->(List Tx)->Op->bz->Key->(List Tx)->Int->Int->(List Key)->Int->(Int)->P) (a1:A) (U:(List Row)×(List Tx)×Op×bz×Key×(List Tx)×Int×Int):P:=cond (decide (U.2.2.2.2.2.2.2 < U.2.2.2.2.2.2.1)) (if 0<=U.2.2.2.2.2.2.2 then ((U.2.2.2.2.2.1[U.2.2.2.2.2.2.2.toNat]?).bind λa7=>cond (decide (a7.1=U.2.2.1.2.1)) (self (U.1,U.2.1,U.2.2.1,U.2.2.2.1,U.2.2.2.2.1,U.2.2.2.2.2.1,U.2.2.2.2.2.2.1,af (U.2.2.2.2.2.2.2+1)))<|l1 U.1 U.2.1 U.2.2.1 U.2.2.2.1 U.2.2.2.2.1 U.2.2.2.2.2.1 U.2.2.2.2.2.2.1 U.2.2.2.2.2.2.2 a7.2.2.2.1 (a7.2.2.2.1.length:Int) 0) else none)<|e0 (U.1,U.2.1,U.2.2.1,U.2.2.2.1,U.2.2.2.2.1)
def B0 (self:((List Row)×(List Tx)×Op×bz×Key×(List Tx)×Int×Int)->P) (e0:((List Row)×(List Tx)×Op×bz×Key)->P) (a1:A) (U:(List Row)×(List Tx)×Op×bz×Key×(List Tx)×Int×Int):P:=b0 self e0 (r1 k self e0 a1) a1 U
theorem kK (rec:RT O) (K:KT O) (a1:A) (U:(List Row)×(List Tx)×Op×bz×Key×(List Tx)×Int×Int):D.N k [1,1,0,1,0,0] (T0 a1 U) (im rec (fm [0,1,5,6,7,24,25,26] []) K)=B0 k (S0 rec a1) (cw K a1) a1 U:=
 aL (b:=b0 (S0 rec a1) (cw K a1) (s1 k rec K a1) a1 U) Bye (by rw[kL];rfl)
def q1 (a1:A) (pv:((List Row)×(List Tx)×Op×bz×Key)):P:=(bq.ab (pv.1,pv.2.2.1.2.2.1,((186,0):Nat×Int),())).bind λDb=>let aan:P:=let aao:P:=let aap:=λ(NS:Change)=>(let aaq:=λ(Dc:Change)=>((tH.ab (pv.1,Dc,())).bind λKt=>cond (!decide (Kt.1=0)) (some ((Kt.1,false,(false,(0,0,0,([]:Byt),()),false,(0,0,0,([]:Byt),()),()),()),()))<|(d0.ab (pv.1,pv.2.1,())).bind λUL=>cond (decide (12 < ((nG bc UL.1 pv.2.2.2.2 true).length:Int))) (some ((9,false,(false,(0,0,0,([]:Byt),()),false,(0,0,0,([]:Byt),()),()),()),()))<|(jp.ab (pv.2.1,())).bind λUM=>cond (decide (12<=UM.1)) (some ((9,false,(false,(0,0,0,([]:Byt),()),false,(0,0,0,([]:Byt),()),()),()),()))<|cond Dc.1 (cond Dc.2.2.1 (cond (Ty.eq aT Dc.2.1 Dc.2.2.2.1) (some ((0,false,(false,(0,0,0,([]:Byt),()),false,(0,0,0,([]:Byt),()),()),()),()))<|some ((0,true,Dc,()),()))<|some ((0,true,Dc,()),()))<|some ((0,true,Dc,()),()):P);cond (!decide (pv.2.2.1.1=4)) (aaq (NS.1,NS.2.1,true,pv.2.2.1.2.2.1,NS.2.2.2.2))<|aaq NS:P);cond Db.2.1 (if 0<=Db.1 then ((pv.1[Db.1.toNat]?).bind λadl=>aap (true,adl,false,(0,0,0,([]:Byt),()),())) else none)<|aap (false,(0,0,0,([]:Byt),()),false,(0,0,0,([]:Byt),()),());cond (!decide (pv.2.2.1.1=2)) (cond (!Db.2.1) (some ((4,false,(false,(0,0,0,([]:Byt),()),false,(0,0,0,([]:Byt),()),()),()),()))<|aao)<|aao;cond (decide (pv.2.2.1.1=2)) (cond Db.2.1 (some ((6,false,(false,(0,0,0,([]:Byt),()),false,(0,0,0,([]:Byt),()),()),()),()))<|aan)<|aan
theorem pN (a1:A) (pv:((List Row)×(List Tx)×Op×bz×Key)):cw (ah 0 (aw (D.N k [1,1,1]) D.K0)) a1 pv=q1 a1 pv:=Bye
def s0 (a1:A):((List Row)×(List Tx)×Op×bz×Key×(List Tx)×Int×Int)->P:=λU=>D.L k [1,1,0,1,0,0] [0,1,5,6,7,24,25,26] [] (ah 0 (aw (D.N k [1,1,1]) D.K0)) (T0 a1 U)
def r0 (a1:A):((List Row)×(List Tx)×Op×bz×Key×(List Tx)×Int×Int)->P:=am (λw v=>B0 k w (q1 a1) a1 v) k
theorem aq (a1:A):s0 k a1=r0 k a1:=by
 funext U;have h0:cw (ah 0 (aw (D.N k [1,1,1]) D.K0)) a1=q1 a1:=funext λz=>pN k a1 z;refine (ap _ _ _ (T0 a1) (λself v=>B0 k self (cw (ah 0 (aw (D.N k [1,1,1]) D.K0)) a1) a1 v) (λrec v=>kK k rec (ah 0 (aw (D.N k [1,1,1]) D.K0)) a1 v) k U).trans ?_;rw[h0];rfl
def p (l0:((List Row)×(List Tx)×Op×bz×Key×(List Tx)×Int×Int)->P) (a1:A):P:=l0 (a1.1,a1.2.1,a1.2.2.1,(0,false,(false,(0,0,0,([]:Byt),()),false,(0,0,0,([]:Byt),()),()),()),(a1.2.2.1.2.2.1.1,a1.2.2.1.2.2.1.2.1,()),a1.2.1,(a1.2.1.length:Int),0)
theorem ae (a1:A):@Eq P (D.W k a1) (p (r0 k a1) a1):=
 aL (b:=p (s0 k a1) a1) Bye (by rw[aq])
theorem ok:Ok prog 107 D.sig:=al func107 av Bye (fc d0.ok (fc jp.ok (fc bq.ok (fc tH.ok (ai _)))))
end cy
namespace jv
abbrev A:=(List Row)×(List Tx)×Op×Unit
abbrev O:=bz×Unit
abbrev P:=Option O
noncomputable def D:FD:={ fn:=f47,tl:=az,ps:=[(.ro,(.aa aT)),(.ro,(.aa bh)),(.ro,oY)],rs:=[(fh,(ak fh))],gl:=[(103,gb.D.sig),(104,cu.D.sig),(105,q_.D.sig),(106,mJ.D.sig),(107,cy.D.sig)],lv:=[(2,[0,1,5,6,16,17,18])],lx:=[(0,[0,1,5,6])],od:=[(1,[0,2,4,8,1,3,5,6,7]),(22,[0,1,2,3,4,5,6,7,8])] }
def ab (a:A):P:=@lift O λk=>D.W k a
variable (a1:A)
def T0 (da:List Int) (Cr:Int) (db:Int):St:={ n:=79,sl:=[(0,.val (.aa aT) a1.1),(1,.val (.aa bh) a1.2.1),(5,.box oY (ak oY) [] a1.2.2.1),(6,.box fh (ak fh) [] ((0:Int),false,(false,((0:Int),(0:Int),(0:Int),([]:Byt),()),false,((0:Int),(0:Int),(0:Int),([]:Byt),()),()),())),(16,.own (.aa i64) (aj (.aa i64)) [] da),(17,.val i64 Cr),(18,.val i64 db)],vr:=[],ay:=[] }
def b0 (self:Int->P) (e0:(Unit)->P) (a1:A) (da:List Int) (Cr:Int) (db:Int):P:=cond (decide (db < Cr)) (if 0<=db/\db < (da.length:Int) then ((da[db.toNat]?).bind λyK=>cond (!decide (yK=0)) (some ((yK,false,(false,(0,0,0,([]:Byt),()),false,(0,0,0,([]:Byt),()),()),()),()))<|self (af (db+1))) else none)<|e0 ()
def q0 (da:List Int) (Cr:Int) (wt:(Unit)):P:=cond (decide (a1.2.2.1.1=1)) (cond (decide (4<=(a1.2.1.length:Int))) (some ((2,false,(false,(0,0,0,([]:Byt),()),false,(0,0,0,([]:Byt),()),()),()),()))<|some ((0,false,(false,(0,0,0,([]:Byt),()),false,(0,0,0,([]:Byt),()),()),()),()))<|cond (decide (a1.2.2.1.1=9)) (some ((0,false,(false,(0,0,0,([]:Byt),()),false,(0,0,0,([]:Byt),()),()),()),()))<|(mJ.ab (a1.2.1,a1.2.2.1.2.1,())).bind λuG=>cond (decide (uG.1 < 0)) (some ((4,false,(false,(0,0,0,([]:Byt),()),false,(0,0,0,([]:Byt),()),()),()),()))<|let GI:P:=some ((0,false,(false,(0,0,0,([]:Byt),()),false,(0,0,0,([]:Byt),()),()),()),());cond (decide (a1.2.2.1.1=5)) (if 0<=uG.1 then ((a1.2.1[uG.1.toNat]?).bind λDA=>cond (decide (8<=(DA.2.2.1.length:Int))) (some ((2,false,(false,(0,0,0,([]:Byt),()),false,(0,0,0,([]:Byt),()),()),()),()))<|GI) else none)<|cond (decide (a1.2.2.1.1=6)) (if 0<=uG.1 then ((a1.2.1[uG.1.toNat]?).bind λxK=>cond (decide ((xK.2.2.1.length:Int)<=a1.2.2.1.2.2.2.1)) (some ((3,false,(false,(0,0,0,([]:Byt),()),false,(0,0,0,([]:Byt),()),()),()),()))<|GI) else none)<|cond (decide (a1.2.2.1.1=2)) (cond (decide (a1.2.2.1.1=2)) ((cy.ab (a1.1,a1.2.1,a1.2.2.1,())).bind λLO=>some (LO.1,()))<|GI)<|cond (decide (a1.2.2.1.1=3)) (cond (decide (a1.2.2.1.1=3)) ((cy.ab (a1.1,a1.2.1,a1.2.2.1,())).bind λCp=>some (Cp.1,()))<|GI)<|cond (decide (a1.2.2.1.1=4)) ((cy.ab (a1.1,a1.2.1,a1.2.2.1,())).bind λUC=>some (UC.1,()))<|GI
def r0:(List Int)->Int->(Int)->P:=λda Cr=>am (λw v=>b0 w (q0 a1 da Cr) a1 da Cr v) k
theorem aq:@Eq ((List Int)->Int->(Int)->P) (λda Cr=>λdb=>D.L k [1,0,1,0,0] [0,1,5,6,16,17,18] [] (ah 0 (aw (D.N k [1,1]) D.K0)) (T0 a1 da Cr db)) (r0 k a1):=
 funext λda=>funext λCr=>funext λdb=>ap _ _ _ (T0 a1 da Cr) _ (λrec v=>Bye) k db
def p (l0:(List Int)->Int->(Int)->P) (a1:A):P:=(gb.ab (a1.1,())).bind λr2=>(cu.ab (a1.2.1,())).bind λr3=>(q_.ab (a1.2.2.1,())).bind λr4=>l0 [r2.1,r3.1,r4.1] ([r2.1,r3.1,r4.1].length:Int) 0
theorem ae:@Eq P (D.W k a1) (p (r0 k a1) a1):=By8 (aq k a1) Bye
theorem ok:Ok prog 47 D.sig:=al func47 av Bye (fc gb.ok (fc cu.ok (fc q_.ok (fc mJ.ok (fc cy.ok (ai _))))))
end jv
namespace p_
abbrev A:=ba×Unit
abbrev O:=(List Row)×Unit
noncomputable def D:FD:={ fn:=f48,tl:=az,ps:=[(.ro,bv)],rs:=[((.aa aT),(aj (.aa aT)))],gl:=[(99,fb.D.sig),(101,kM.D.sig)] }
def ab (a:A):Option O:=@lift O λk=>D.W k a
def p (a1:A):Option O:=(fb.ab (a1.1.2.1,())).bind λr2=>(kM.ab (r2.1,())).bind λr3=>some (r3.1,())
theorem ae (a1:A):@Eq (Option O) (D.W k a1) (p a1):=Bye
theorem ok:Ok prog 48 D.sig:=al func48 av Bye (fc fb.ok (fc kM.ok (ai _)))
end p_
namespace lG
abbrev A:=(List Byt)×Unit
abbrev O:=(List Byt)×Unit
abbrev P:=Option O
noncomputable def D:FD:={ fn:=f82,tl:=az,ps:=[(.ro,(.aa (.aa u8)))],rs:=[((.aa (.aa u8)),(aj (.aa (.aa u8))))],gl:=[(114,cd.D.sig)],lv:=[(3,[3,6,7,8])],lx:=[(0,[3])] }
def ab (a:A):P:=@lift O λk=>D.W k a
variable (a1:A)
def T0 (U:(List Byt)×Int):St:={ n:=19,sl:=[(3,.own (.aa (.aa u8)) (aj (.aa (.aa u8))) [] U.1),(6,.val (.aa (.aa u8)) a1.1),(7,.val i64 (a1.1.length:Int)),(8,.val i64 U.2)],vr:=[],ay:=[] }
def b0 (self:((List Byt)×Int)->P) (e0:(List Byt)->P) (a1:A) (U:(List Byt)×Int):P:=cond (decide (U.2 < (a1.1.length:Int))) (if 0<=U.2 then ((a1.1[U.2.toNat]?).bind λa7=>(cd.ab (a7,())).bind λdz=>if U.1.length+[dz.1].length<=ct then (self (U.1++[dz.1],af (U.2+1))) else none) else none)<|e0 U.1
def q0 (a1:A) (e8:(List Byt)):P:=some (e8,())
def r0:((List Byt)×Int)->P:=am (λw v=>b0 w (q0 a1) a1 v) k
theorem aq:@Eq (((List Byt)×Int)->P) (λU=>D.L k [1,1,0,1,0,0] [3,6,7,8] [] (ah 0 (aw (D.N k [1,1,1]) D.K0)) (T0 a1 U)) (r0 k a1):=
 funext λU=>ap _ _ _ (T0 a1) _ (λrec v=>Bye) k U
def p (l0:((List Byt)×Int)->P) (a1:A):P:=l0 (([]:List Byt),0)
theorem ae:@Eq P (D.W k a1) (p (r0 k a1) a1):=By8 (aq k a1) Bye
theorem ok:Ok prog 82 D.sig:=al func82 av Bye (fc cd.ok (ai _))
end lG
namespace sG
abbrev A:=Log×Unit
abbrev O:=Log×Unit
noncomputable def D:FD:={ fn:=f83,tl:=az,ps:=[(.ro,ey)],rs:=[(ey,(aj ey))],gl:=[(114,cd.D.sig)],od:=[(1,[0,1,3,4,2,5,6,7])] }
def ab (a:A):Option O:=@lift O λk=>D.W k a
def p (a1:A):Option O:=(cd.ab (a1.1.1,())).bind λr2=>(cd.ab (a1.1.2.1,())).bind λr3=>some ((r2.1,r3.1,()),())
theorem ae (a1:A):@Eq (Option O) (D.W k a1) (p a1):=Bye
theorem ok:Ok prog 83 D.sig:=al func83 av Bye (fc cd.ok (ai _))
end sG
namespace lX
abbrev A:=(List Change)×Unit
abbrev O:=(List Change)×Unit
noncomputable def D:FD:={ fn:=f188,tl:=az,ps:=[(.ro,(.aa ao))],rs:=[((.aa ao),(aj (.aa ao)))] }
def ab (a:A):Option O:=@lift O λk=>D.W k a
def p (a1:A):Option O:=BH a1.1 (some (([]:List Change),())) (if ([]:List Change).length+a1.1.length<=ct then (some (([]:List Change)++a1.1,())) else none)
theorem ae (a1:A):@Eq (Option O) (D.W k a1) (p a1):=Bye
theorem ok:Ok prog 188 D.sig:=al func188 av Bye (ai _)
end lX
namespace mK
abbrev A:=(List Int)×Unit
abbrev O:=(List Int)×Unit
noncomputable def D:FD:={ fn:=f189,tl:=az,ps:=[(.ro,(.aa i64))],rs:=[((.aa i64),(aj (.aa i64)))] }
def ab (a:A):Option O:=@lift O λk=>D.W k a
def p (a1:A):Option O:=BH a1.1 (some (([]:List Int),())) (if ([]:List Int).length+a1.1.length<=ct then (some (([]:List Int)++a1.1,())) else none)
theorem ae (a1:A):@Eq (Option O) (D.W k a1) (p a1):=Bye
theorem ok:Ok prog 189 D.sig:=al func189 av Bye (ai _)
end mK
namespace nP
abbrev A:=(List Key)×Unit
abbrev O:=(List Key)×Unit
noncomputable def D:FD:={ fn:=f190,tl:=az,ps:=[(.ro,(.aa bc))],rs:=[((.aa bc),(aj (.aa bc)))] }
def ab (a:A):Option O:=@lift O λk=>D.W k a
def p (a1:A):Option O:=BH a1.1 (some (([]:List Key),())) (if ([]:List Key).length+a1.1.length<=ct then (some (([]:List Key)++a1.1,())) else none)
theorem ae (a1:A):@Eq (Option O) (D.W k a1) (p a1):=Bye
theorem ok:Ok prog 190 D.sig:=al func190 av Bye (ai _)
end nP
namespace iN
abbrev A:=(List Tx)×Unit
abbrev O:=(List Tx)×Unit
abbrev P:=Option O
noncomputable def D:FD:={ fn:=f108,tl:=az,ps:=[(.ro,(.aa bh))],rs:=[((.aa bh),(aj (.aa bh)))],gl:=[(188,lX.D.sig),(189,mK.D.sig),(190,nP.D.sig)],lv:=[(3,[3,6,7,8])],lx:=[(0,[3])],od:=[(5,[0,1,2,3,4,6,7,9,10,5,8,11,12,13,14,15])] }
def ab (a:A):P:=@lift O λk=>D.W k a
variable (a1:A)
def T0 (U:(List Tx)×Int):St:={ n:=29,sl:=[(3,.own (.aa bh) (aj (.aa bh)) [] U.1),(6,.val (.aa bh) a1.1),(7,.val i64 (a1.1.length:Int)),(8,.val i64 U.2)],vr:=[],ay:=[] }
def b0 (self:((List Tx)×Int)->P) (e0:(List Tx)->P) (a1:A) (U:(List Tx)×Int):P:=cond (decide (U.2 < (a1.1.length:Int))) (if 0<=U.2 then ((a1.1[U.2.toNat]?).bind λa7=>(lX.ab (a7.2.1,())).bind λdz=>(mK.ab (a7.2.2.1,())).bind λlj=>(nP.ab (a7.2.2.2.1,())).bind λjm=>if U.1.length+[(a7.1,dz.1,lj.1,jm.1,())].length<=ct then (let Dz:=U.1++[(a7.1,dz.1,lj.1,jm.1,())];self (Dz,af (U.2+1))) else none) else none)<|e0 U.1
def q0 (a1:A) (sY:(List Tx)):P:=some (sY,())
def r0:((List Tx)×Int)->P:=am (λw v=>b0 w (q0 a1) a1 v) k
theorem aq:@Eq (((List Tx)×Int)->P) (λU=>D.L k [1,1,0,1,0,0] [3,6,7,8] [] (ah 0 (aw (D.N k [1,1,1]) D.K0)) (T0 a1 U)) (r0 k a1):=
 funext λU=>ap _ _ _ (T0 a1) _ (λrec v=>Bye) k U
def p (l0:((List Tx)×Int)->P) (a1:A):P:=l0 (([]:List Tx),0)
theorem ae:@Eq P (D.W k a1) (p (r0 k a1) a1):=By8 (aq k a1) Bye
theorem ok:Ok prog 108 D.sig:=al func108 av Bye (fc lX.ok (fc mK.ok (fc nP.ok (ai _))))
end iN
namespace pk
abbrev A:=ba×Unit
abbrev O:=ba×Unit
noncomputable def D:FD:={ fn:=f50,tl:=az,ps:=[(.ro,bv)],rs:=[(bv,(aj bv))],gl:=[(82,lG.D.sig),(83,sG.D.sig),(108,iN.D.sig)],od:=[(1,[0,1,2,3,5,6,8,9,11,12,4,7,10,13,14])] }
def ab (a:A):Option O:=@lift O λk=>D.W k a
def p (a1:A):Option O:=(lG.ab (a1.1.2.1,())).bind λr2=>(sG.ab (a1.1.2.2.1,())).bind λr3=>(iN.ab (a1.1.2.2.2.1,())).bind λr4=>some ((a1.1.1,r2.1,r3.1,r4.1,a1.1.2.2.2.2.1,()),())
theorem ae (a1:A):@Eq (Option O) (D.W k a1) (p a1):=Bye
theorem ok:Ok prog 50 D.sig:=al func50 av Bye (fc lG.ok (fc sG.ok (fc iN.ok (ai _))))
end pk
namespace sH
abbrev A:=Log×Unit
abbrev O:=Byt×Unit
noncomputable def D:FD:={ fn:=f144,tl:=az,ps:=[(.ro,ey)],rs:=[((.aa u8),(aj (.aa u8)))],gl:=[(114,cd.D.sig)],od:=[(1,[0,1,3,4,2,5,6])] }
def ab (a:A):Option O:=@lift O λk=>D.W k a
def p (a1:A):Option O:=(cd.ab (a1.1.1,())).bind λr2=>if r2.1.length+a1.1.2.1.length<=ct then (some (r2.1++a1.1.2.1,())) else none
theorem ae (a1:A):@Eq (Option O) (D.W k a1) (p a1):=Bye
theorem ok:Ok prog 144 D.sig:=al func144 av Bye (fc cd.ok (ai _))
end sH
namespace oI
abbrev A:=Log×Unit
abbrev O:=Log×Unit
noncomputable def D:FD:={ fn:=f84,tl:=az,ps:=[(.ro,ey)],rs:=[(ey,(aj ey))],gl:=[(144,sH.D.sig)] }
def ab (a:A):Option O:=@lift O λk=>D.W k a
def p (a1:A):Option O:=(sH.ab (a1.1,())).bind λr2=>some ((r2.1,([]:Byt),()),())
theorem ae (a1:A):@Eq (Option O) (D.W k a1) (p a1):=Bye
theorem ok:Ok prog 84 D.sig:=al func84 av Bye (fc sH.ok (ai _))
end oI
namespace kS
abbrev A:=Log×bk×Unit
abbrev O:=Log×Bool×Unit
noncomputable def D:FD:={ fn:=f191,tl:=az,ps:=[(.ro,ey),(.ro,eg)],rs:=[(ey,(ak ey)),(.bool,(ak .bool))],gl:=[(49,jM.D.sig),(114,cd.D.sig),(262,f5.D.sig)],od:=[(4,[0,1,2,3,5,4,6,7,8,9])],ar:=[(4,[1,3])],bx:=[(4,[2])] }
def ab (a:A):Option O:=@lift O λk=>D.W k a
def p (a1:A):Option O:=(f5.ab (a1.2.1,())).bind λr2=>(jM.ab (a1.1,())).bind λr3=>cond (decide (16000 < af (r3.1+(r2.1.length:Int)))) (some (a1.1,false,()))<|(cd.ab (a1.1.2.1,())).bind λr4=>if r4.1.length+r2.1.length<=ct then (some ((a1.1.1,r4.1++r2.1,()),true,())) else none
theorem ae (a1:A):@Eq (Option O) (D.W k a1) (p a1):=Bye
theorem ok:Ok prog 191 D.sig:=al func191 av Bye (fc jM.ok (fc cd.ok (fc f5.ok (ai _))))
end kS
namespace mg
abbrev A:=ba×bk×Unit
abbrev O:=Int×ba×Unit
noncomputable def D:FD:={ fn:=f109,tl:=az,ps:=[(.jl (ak bv) (ak bv),bv),(.ro,eg)],rs:=[(i64,(ak i64))],gl:=[(191,kS.D.sig)],es:=[0],fz:=[(1,3,7),(1,4,7)],od:=[(1,[0,1,2,3,4,5,6,7,8,9,10,11])],ar:=[(1,[])],pd:=[(1,[9])],er:=[(1,[(3,12),(4,12)])] }
def ab (a:A):Option O:=@lift O λk=>D.W k a
def p (a1:A):Option O:=(kS.ab (a1.1.2.2.1,a1.2.1,())).bind λr2=>cond (!r2.2.1) (some (9,a1.1,()))<|some (0,(a1.1.1,a1.1.2.1,r2.1,a1.1.2.2.2),())
theorem ae (a1:A):@Eq (Option O) (D.W k a1) (p a1):=Bye
theorem ok:Ok prog 109 D.sig:=al func109 av Bye (fc kS.ok (ai _))
end mg
namespace nQ
abbrev A:=ba×bk×Unit
abbrev O:=Int×ba×Unit
noncomputable def D:FD:={ fn:=f109,tl:=az,ps:=[(.jl Byy Byy,bv),(.ro,eg)],rs:=[(i64,(ak i64))],gl:=[(191,kS.D.sig)],es:=[0],fz:=[(1,3,7),(1,4,7)],od:=[(1,[0,1,2,3,4,5,6,7,8,9,10,11])],ar:=[(1,[])],pd:=[(1,[9])],er:=[(1,[(3,12),(4,12)])] }
def ab (a:A):Option O:=@lift O λk=>D.W k a
def p (a1:A):Option O:=(kS.ab (a1.1.2.2.1,a1.2.1,())).bind λr2=>cond (!r2.2.1) (some (9,a1.1,()))<|some (0,(a1.1.1,a1.1.2.1,r2.1,a1.1.2.2.2),())
theorem ae (a1:A):@Eq (Option O) (D.W k a1) (p a1):=Bye
theorem ok:Ok prog 109 D.sig:=al func109 av Bye (fc kS.ok (ai _))
end nQ
namespace si
abbrev A:=(List Byt)×Unit
abbrev O:=a_×Unit
noncomputable def D:FD:={ fn:=f264,tl:=az,ps:=[(.ro,(.aa (.aa u8)))],rs:=[((.ptr de),(aj (.ptr de)))],gl:=[(82,lG.D.sig)] }
def ab (a:A):Option O:=@lift O λk=>D.W k a
def p (a1:A):Option O:=(lG.ab (a1.1,())).bind λr2=>some ((r2.1,([]:List cr),()),())
theorem ae (a1:A):@Eq (Option O) (D.W k a1) (p a1):=Bye
theorem ok:Ok prog 264 D.sig:=al func264 av Bye (fc lG.ok (ai _))
end si
namespace qp
abbrev A:=(List Seen)×Int×Int×Unit
abbrev O:=Seen×Bool×Unit
abbrev P:=Option O
noncomputable def D:FD:={ fn:=f265,tl:=az,ps:=[(.ro,(.aa gt)),(.ro,i64),(.ro,i64)],rs:=[(gt,(ak gt)),(.bool,(ak .bool))],lv:=[(2,[1,2,6,10,11,12])],lx:=[(0,[6])] }
def ab (a:A):P:=@lift O λk=>D.W k a
variable (a1:A)
def T0 (U:Int):St:={ n:=31,sl:=[(1,.val i64 a1.2.1),(2,.val i64 a1.2.2.1),(6,.box gt (ak gt) [] (((0:Int),(0:Int),(0:Int),([]:Byt),()),(0:Int),(0:Int),false,(0:Int),(0:Int),())),(10,.val (.aa gt) a1.1),(11,.val i64 (a1.1.length:Int)),(12,.val i64 U)],vr:=[],ay:=[] }
def b0 (self:Int->P) (e0:(Unit)->P) (a1:A) (U:Int):P:=cond (decide (U < (a1.1.length:Int))) (if 0<=U then ((a1.1[U.toNat]?).bind λa7=>cond (decide (a7.1.1=a1.2.1)) (cond (decide (a7.1.2.1=a1.2.2.1)) (some (a7,true,()))<|self (af (U+1)))<|self (af (U+1))) else none)<|e0 ()
def q0 (a1:A) (l_:(Unit)):P:=some (((0,0,0,([]:Byt),()),0,0,false,0,0,()),false,())
def r0:(Int)->P:=am (λw v=>b0 w (q0 a1) a1 v) k
theorem aq:@Eq ((Int)->P) (λU=>D.L k [1,0,1,0,0] [1,2,6,10,11,12] [] (ah 0 (aw (D.N k [1,1]) D.K0)) (T0 a1 U)) (r0 k a1):=
 funext λU=>ap _ _ _ (T0 a1) _ (λrec v=>Bye) k U
def p (l0:(Int)->P) (a1:A):P:=l0 0
theorem ae:@Eq P (D.W k a1) (p (r0 k a1) a1):=By8 (aq k a1) Bye
theorem ok:Ok prog 265 D.sig:=al func265 av Bye (ai _)
end qp
namespace lH
abbrev A:=a_×Unit
abbrev O:=dO×Unit
noncomputable def D:FD:={ fn:=f270,tl:=az,ps:=[(.tj (aj de),de)],rs:=[(du,(aj du))],fz:=[(1,3,7),(1,7,7)],od:=[(1,[0,1,2,3,4,5,6,7,8,9])] }
def ab (a:A):Option O:=@lift O λk=>D.W k a
def p (a1:A):Option O:=some ((0,a1.1.2.1,a1.1.1,()),())
theorem ae (a1:A):@Eq (Option O) (D.W k a1) (p a1):=Bye
theorem ok:Ok prog 270 D.sig:=al func270 av Bye (ai _)
end lH
namespace np
abbrev A:=a_×Bool×Unit
abbrev O:=dO×Unit
noncomputable def D:FD:={ fn:=f266,tl:=az,ps:=[(.tj (aj de),de),(.ro,.bool)],rs:=[(du,(aj du))],gl:=[(270,lH.D.sig)] }
def ab (a:A):Option O:=@lift O λk=>D.W k a
def p (a1:A):Option O:=cond (!a1.2.1) (some ((9,([]:List cr),([]:List Byt),()),()))<|(lH.ab (a1.1,())).bind λr2=>some (r2.1,())
theorem ae (a1:A):@Eq (Option O) (D.W k a1) (p a1):=Bye
theorem ok:Ok prog 266 D.sig:=al func266 av Bye (fc lH.ok (ai _))
end np
namespace mh
abbrev A:=Byt×Byt×Unit
abbrev O:=Int×Unit
noncomputable def D:FD:={ fn:=f353,tl:=az,ps:=[(.ro,(.aa u8)),(.ro,(.aa u8))],rs:=[(i64,(ak i64))],gl:=[(169,bj.D.sig)] }
def ab (a:A):Option O:=@lift O λk=>D.W k a
def p (a1:A):Option O:=(bj.ab (a1.1,())).bind λr2=>cond (!decide (r2.1=0)) (some (r2.1,()))<|cond (decide ((a1.2.1.length:Int) < 1)) (some (1,()))<|cond (decide (20 < (a1.2.1.length:Int))) (some (1,()))<|some (0,())
theorem ae (a1:A):@Eq (Option O) (D.W k a1) (p a1):=Bye
theorem ok:Ok prog 353 D.sig:=al func353 av Bye (fc bj.ok (ai _))
end mh
namespace kT
abbrev A:=Byt×Unit
abbrev O:=Int×Unit
abbrev P:=Option O
noncomputable def D:FD:={ fn:=f354,tl:=az,ps:=[(.ro,(.aa u8))],rs:=[(i64,(ak i64))],gl:=[(170,fj.D.sig),(253,lW.D.sig)],lv:=[(3,[0,3,12,13])],lx:=[(0,[3])] }
def ab (a:A):P:=@lift O λk=>D.W k a
variable (a1:A)
def T0 (ez:Int) (c7:Int×Int):St:={ n:=27,sl:=[(0,.val (.aa u8) a1.1),(3,.val i64 c7.1),(12,.val i64 ez),(13,.val i64 c7.2)],vr:=[],ay:=[] }
def b0 (self:(Int×Int)->P) (e0:Int->P) (a1:A) (ez:Int) (c7:Int×Int):P:=cond (decide (c7.2 < ez)) ((lW.ab (a1.1,c7.2,())).bind λjm=>self (af (c7.1 - jm.2.1),af (c7.2+1)))<|e0 c7.1
def q0 (a1:A) (ez:Int) (kf:Int):P:=some (kf,())
def r0:Int->(Int×Int)->P:=λez=>am (λw v=>b0 w (q0 a1 ez) a1 ez v) k
theorem aq:@Eq (Int->(Int×Int)->P) (λez=>λc7=>D.L k [1,1,0,1,0,0] [0,3,12,13] [] (ah 0 (aw (D.N k [1,1,1]) D.K0)) (T0 a1 ez c7)) (r0 k a1):=
 funext λez=>funext λc7=>ap _ _ _ (T0 a1 ez) _ (λrec v=>Bye) k c7
def p (l0:Int->(Int×Int)->P) (a1:A):P:=(fj.ab (a1.1,())).bind λr2=>(fj.ab (a1.1,())).bind λr3=>l0 r3.1 (af (62 - (af (2*r2.1))),0)
theorem ae:@Eq P (D.W k a1) (p (r0 k a1) a1):=By8 (aq k a1) Bye
theorem ok:Ok prog 354 D.sig:=al func354 av Bye (fc fj.ok (fc lW.ok (ai _)))
end kT
namespace ou
abbrev A:=Byt×Int×Int×Byt×Unit
abbrev O:=Byt×Unit
noncomputable def D:FD:={ fn:=f355,tl:=az,ps:=[(.ro,(.aa u8)),(.ro,i64),(.ro,i64),(.ro,(.aa u8))],rs:=[((.aa u8),(aj (.aa u8)))],gl:=[(114,cd.D.sig)] }
def ab (a:A):Option O:=@lift O λk=>D.W k a
def p (a1:A):Option O:=(cd.ab (a1.1,())).bind λr2=>if 0<=a1.2.2.1/\a1.2.2.1<=(r2.1.length:Int) then (let y3:=o5 r2.1 a1.2.2.1.toNat (min a1.2.2.2.1.length (r2.1.length - a1.2.2.1.toNat)) a1.2.2.2.1;if 0<=af (2+(af (2*a1.2.1)))/\af (2+(af (2*a1.2.1))) < (y3.length:Int) then ((y3[(af ((2:Int)+(af ((2:Int)*a1.2.1)))).toNat]?).bind λx4=>let y5:=y3.set (af (2+(af (2*a1.2.1)))).toNat (UInt8.ofInt a1.2.2.1);if 0<=af (3+(af (2*a1.2.1)))/\af (3+(af (2*a1.2.1))) < (y5.length:Int) then ((y5[(af ((3:Int)+(af ((2:Int)*a1.2.1)))).toNat]?).bind λx6=>let y7:=y5.set (af (3+(af (2*a1.2.1)))).toNat (UInt8.ofInt (a1.2.2.2.1.length:Int));some (y7,())) else none) else none) else none
theorem ae (a1:A):@Eq (Option O) (D.W k a1) (p a1):=Bye
theorem ok:Ok prog 355 D.sig:=al func355 av Bye (fc cd.ok (ai _))
end ou
namespace iu
abbrev A:=Byt×Byt×Unit
abbrev O:=yJ×Unit
abbrev P:=Option O
noncomputable def D:FD:={ fn:=f336,tl:=az,ps:=[(.ro,(.aa u8)),(.ro,(.aa u8))],rs:=[(lE,(aj lE))],gl:=[(170,fj.D.sig),(353,mh.D.sig),(354,kT.D.sig),(355,ou.D.sig)],lv:=[(6,[0,1,4,6,7])],lx:=[(0,[0,1,4,6,7])] }
def ab (a:A):P:=@lift O λk=>D.W k a
variable (a1:A)
def T0 (ez:Int) (c7:Int):St:={ n:=88,sl:=[(0,.val (.aa u8) a1.1),(1,.val (.aa u8) a1.2.1),(4,.box lE (aj lE) [] ((0:Int),(0:Int),([]:Byt),())),(6,.val i64 ez),(7,.val i64 c7)],vr:=[],ay:=[] }
def b0 (self:Int->P) (e0:Int->P) (a1:A) (ez:Int) (c7:Int):P:=cond (decide (c7 < ez)) (if 0<=af (3+(af (2*c7))) then ((a1.1[(af ((3:Int)+(af ((2:Int)*c7)))).toNat]?).bind λtW=>cond (!decide ((tW.toNat:Int)=0)) (self (af (c7+1)))<|e0 c7) else none)<|e0 c7
def q0 (ez:Int) (kf:Int):P:=let GI:=λ(YR:Int)=>((kT.ab (a1.1,())).bind λUN=>cond (decide (UN.1 < af ((a1.2.1.length:Int)+YR))) (some ((9,0,([]:Byt),()),()))<|(a1.1[1]?).bind λwu=>cond (decide (af ((af (wu.toNat:Int)) - (af ((af (2+(af (2*ez))))+YR))) < (a1.2.1.length:Int))) (some ((8,0,([]:Byt),()),()))<|(ou.ab (a1.1,kf,af ((af (wu.toNat:Int)) - (a1.2.1.length:Int)),a1.2.1,())).bind λyO=>if 0<=(0:Int)/\0 < (yO.1.length:Int) then ((yO.1[0]?).bind λEW=>let Cs:=yO.1.set 0 (UInt8.ofInt (af (ez+(af (YR.tdiv 2)))));if 0<=(1:Int)/\1 < (Cs.length:Int) then ((Cs[1]?).bind λPi=>let YS:=Cs.set 1 (UInt8.ofInt (af ((af (wu.toNat:Int)) - (a1.2.1.length:Int))));some ((0,kf,YS,()),())) else none) else none:P);cond (decide (kf=ez)) (cond (decide (ez=16)) (some ((2,0,([]:Byt),()),()))<|GI 2)<|GI 0
def r0:Int->(Int)->P:=λez=>am (λw v=>b0 w (q0 a1 ez) a1 ez v) k
theorem aq:@Eq (Int->(Int)->P) (λez=>λc7=>D.L k [1,1,1,1,0,0,0] [0,1,4,6,7] [] (ah 0 (aw (D.N k [1,1,1,1,1]) D.K0)) (T0 a1 ez c7)) (r0 k a1):=
 funext λez=>funext λc7=>ap _ _ _ (T0 a1 ez) _ (λrec v=>Bye) k c7
def p (l0:Int->(Int)->P) (a1:A):P:=(mh.ab (a1.1,a1.2.1,())).bind λr2=>cond (!decide (r2.1=0)) (some ((r2.1,0,([]:Byt),()),()))<|(fj.ab (a1.1,())).bind λr3=>l0 r3.1 0
theorem ae:@Eq P (D.W k a1) (p (r0 k a1) a1):=By8 (aq k a1) Bye
theorem ok:Ok prog 336 D.sig:=al func336 av Bye (fc fj.ok (fc mh.ok (fc kT.ok (fc ou.ok (ai _)))))
end iu
namespace gk
abbrev A:=a_×Int×Byt×Unit
abbrev O:=a_×Unit
noncomputable def D:FD:={ fn:=f338,tl:=az,ps:=[(.jl (aj de) (aj de),de),(.ro,i64),(.ro,(.aa u8))],rs:=[],gl:=[(114,cd.D.sig)],es:=[0],od:=[(1,[0,1,2,3,4,5,6,7,8,9,10,11]),(2,[0,1,2,3,4,5,6,7,8,9,10]),(3,[0,1,2,3,4,5,6,7,8]),(4,[0,1,2,3,4,5,6,7,8,9,10,11,12,13])] }
def ab (a:A):Option O:=@lift O λk=>D.W k a
def p (a1:A):Option O:=let j9:=λ(p8:a_)=>((cd.ab (a1.2.2.1,())).bind λsf=>if p8.2.1.length+[(a1.2.1,sf.1,())].length<=ct then (some ((p8.1,p8.2.1++[(a1.2.1,sf.1,())],p8.2.2),())) else none:Option O);cond (decide (a1.2.1=(a1.1.1.length:Int))) ((cd.ab (a1.2.2.1,())).bind λr2=>if a1.1.1.length+[r2.1].length<=ct then (j9 (a1.1.1++[r2.1],a1.1.2)) else none)<|if 0<=a1.2.1/\a1.2.1 < (a1.1.1.length:Int) then ((a1.1.1[a1.2.1.toNat]?).bind λx3=>(a1.1.1[a1.2.1.toNat]?).bind λx4=>cond (decide (x4=a1.2.2.1)) (some (a1.1,()))<|(cd.ab (a1.2.2.1,())).bind λr5=>if 0<=a1.2.1/\a1.2.1 < (a1.1.1.length:Int) then ((a1.1.1[a1.2.1.toNat]?).bind λx6=>j9 (a1.1.1.set a1.2.1.toNat r5.1,a1.1.2)) else none) else none
theorem ae (a1:A):@Eq (Option O) (D.W k a1) (p a1):=Bye
theorem ok:Ok prog 338 D.sig:=al func338 av Bye (fc cd.ok (ai _))
end gk
namespace il
abbrev A:=Byt×Unit
abbrev O:=yJ×Unit
abbrev P:=Option O
noncomputable def D:FD:={ fn:=f356,tl:=az,ps:=[(.ro,(.aa u8))],rs:=[(lE,(aj lE))],gl:=[(169,bj.D.sig),(170,fj.D.sig),(171,it.D.sig),(173,mu.D.sig)],lv:=[(9,[0,2,5,6,25,26])],lx:=[(0,[2,5,6]),(1,[0,2,5,6,25,26])] }
def ab (a:A):P:=@lift O λk=>D.W k a
variable (a1:A)
def T0 (da:Int) (db:Byt×Int×Int):St:={ n:=59,sl:=[(0,.val (.aa u8) a1.1),(2,.box lE (aj lE) [] ((0:Int),(0:Int),([]:Byt),())),(5,.own (.aa u8) (aj (.aa u8)) [] db.1),(6,.val i64 db.2.1),(25,.val i64 da),(26,.val i64 db.2.2)],vr:=[],ay:=[] }
def b0 (self:(Byt×Int×Int)->P) (e0:(Byt×Int)->P) (a1:A) (da:Int) (db:Byt×Int×Int):P:=cond (decide (db.2.2 < da)) ((it.ab (a1.1,db.2.2,())).bind λky=>cond (!ky.1) (self (db.1,db.2.1,af (db.2.2+1)))<|(mu.ab (a1.1,db.2.2,())).bind λqv=>if 0<=af (db.2.1 - (qv.1.length:Int))/\af (db.2.1 - (qv.1.length:Int))<=(db.1.length:Int) then (let Jg:=o5 db.1 (af (db.2.1 - (qv.1.length:Int))).toNat (min qv.1.length (db.1.length - (af (db.2.1 - (qv.1.length:Int))).toNat)) qv.1;if 0<=af (2+(af (2*db.2.2)))/\af (2+(af (2*db.2.2))) < (Jg.length:Int) then ((Jg[(af ((2:Int)+(af ((2:Int)*db.2.2)))).toNat]?).bind λJf=>let YK:=Jg.set (af (2+(af (2*db.2.2)))).toNat (UInt8.ofInt (af (db.2.1 - (qv.1.length:Int))));self (YK,af (db.2.1 - (qv.1.length:Int)),af (db.2.2+1))) else none) else none)<|e0 (db.1,db.2.1)
def q0 (a1:A) (da:Int) (UO:(Byt×Int)):P:=if 0<=(1:Int)/\1 < (UO.1.length:Int) then ((UO.1[1]?).bind λGH=>some ((0,0,UO.1.set 1 (UInt8.ofInt UO.2),()),())) else none
def r0:Int->(Byt×Int×Int)->P:=λda=>am (λw v=>b0 w (q0 a1 da) a1 da v) k
theorem aq:@Eq (Int->(Byt×Int×Int)->P) (λda=>λdb=>D.L k [1,1,1,1,1,1,0,1,0,0] [0,2,5,6,25,26] [] (ah 0 (aw (D.N k [1,1,1,1,1,1,1]) D.K0)) (T0 a1 da db)) (r0 k a1):=
 funext λda=>funext λdb=>ap _ _ _ (T0 a1 da) _ (λrec v=>Bye) k db
def p (l0:Int->(Byt×Int×Int)->P) (a1:A):P:=(bj.ab (a1.1,())).bind λr2=>cond (!decide (r2.1=0)) (some ((r2.1,0,([]:Byt),()),()))<|(fj.ab (a1.1,())).bind λr3=>if 0<=(64:Int)/\(64:Int)<=64/\64<=(ct:Int) then (if 0<=af (2+(af (2*r3.1)))/\af (2+(af (2*r3.1)))<=(a1.1.length:Int) then (let y4:=o5 (List.replicate 64 (0:UInt8)) 0 (min ((a1.1.take (af (2+(af (2*r3.1)))).toNat).drop 0).length (List.replicate 64 (0:UInt8)).length) ((a1.1.take (af (2+(af (2*r3.1)))).toNat).drop 0);l0 r3.1 (y4,64,0)) else none) else none
theorem ae:@Eq P (D.W k a1) (p (r0 k a1) a1):=By8 (aq k a1) Bye
theorem ok:Ok prog 356 D.sig:=al func356 av Bye (fc bj.ok (fc fj.ok (fc it.ok (fc mu.ok (ai _)))))
end il
namespace jR
abbrev A:=a_×Int×Unit
abbrev O:=a_×Unit
noncomputable def D:FD:={ fn:=f337,tl:=az,ps:=[(.jl (aj de) (aj de),de),(.ro,i64)],rs:=[],gl:=[(338,gk.D.sig),(356,il.D.sig)],es:=[0] }
def ab (a:A):Option O:=@lift O λk=>D.W k a
def p (a1:A):Option O:=if 0<=a1.2.1/\a1.2.1 < (a1.1.1.length:Int) then ((a1.1.1[a1.2.1.toNat]?).bind λx2=>(a1.1.1[a1.2.1.toNat]?).bind λx3=>(il.ab (x3,())).bind λr4=>(gk.ab (a1.1,a1.2.1,r4.1.2.2.1,())).bind λr5=>some (r5.1,())) else none
theorem ae (a1:A):@Eq (Option O) (D.W k a1) (p a1):=Bye
theorem ok:Ok prog 337 D.sig:=al func337 av Bye (fc gk.ok (fc il.ok (ai _)))
end jR
namespace gg
abbrev A:=a_×Byt×Int×Unit
abbrev O:=Int×Int×Bool×a_×Unit
abbrev P:=Option O
noncomputable def D:FD:={ fn:=f306,tl:=az,ps:=[(.jl (aj de) (aj de),de),(.ro,(.aa u8)),(.ro,i64)],rs:=[(i64,(ak i64)),(i64,(ak i64)),(.bool,(ak .bool))],gl:=[(193,iV.D.sig),(336,iu.D.sig),(337,jR.D.sig),(338,gk.D.sig)],es:=[0],lv:=[(2,[0,1,2,16,17])],lx:=[(0,[0,1]),(1,[0,1,2,16,17])],od:=[(11,[0,1,2,3,4,5]),(16,[0,1,2,3,4,5,6,7,8]),(17,[0,1,2,3,4,5,6,7,8,9,10])] }
def ab (a:A):P:=@lift O λk=>D.W k a
variable (a1:A)
def T0 (U:a_×Int):St:={ n:=85,sl:=[(0,.box de (aj de) [] U.1),(1,.val (.aa u8) a1.2.1),(2,.val i64 a1.2.2.1),(16,.val i64 (a1.1.1.length:Int)),(17,.val i64 U.2)],vr:=[],ay:=[(0,0,false)] }
def b0 (self:(a_×Int)->P) (e0:a_->P) (a1:A) (U:a_×Int):P:=cond (decide (U.2 < (a1.1.1.length:Int))) (cond (decide (U.2=a1.2.2.1)) (self (U.1,af (U.2+1)))<|if 0<=U.2/\U.2 < (U.1.1.length:Int) then ((U.1.1[U.2.toNat]?).bind λa7=>(U.1.1[U.2.toNat]?).bind λg_=>(iu.ab (g_,a1.2.1,())).bind λlj=>let Pk:=λ(aci:a_) (tZ:yJ)=>(cond (decide (tZ.1=0)) ((gk.ab (aci,U.2,tZ.2.2.1,())).bind λCp=>some (U.2,tZ.2.1,true,Cp.1,()))<|self (aci,af (U.2+1)):P);cond (decide (lj.1.1=8)) ((jR.ab (U.1,U.2,())).bind λjm=>if 0<=U.2/\U.2 < (jm.1.1.length:Int) then ((jm.1.1[U.2.toNat]?).bind λsX=>(jm.1.1[U.2.toNat]?).bind λyK=>(iu.ab (yK,a1.2.1,())).bind λwr=>Pk jm.1 wr.1) else none)<|Pk U.1 lj.1) else none)<|e0 U.1
def q0 (LS:a_):P:=cond (decide ((LS.1.length:Int)=12)) (some (0,0,false,LS,()))<|(iV.ab ((0:UInt8),())).bind λUD=>(iu.ab (UD.1,a1.2.1,())).bind λUN=>(gk.ab (LS,(LS.1.length:Int),UN.1.2.2.1,())).bind λUP=>some (af ((UP.1.1.length:Int) - 1),UN.1.2.1,true,UP.1,())
def r0:(a_×Int)->P:=am (λw v=>b0 w (q0 a1) a1 v) k
theorem aq:@Eq ((a_×Int)->P) (λU=>D.L k [1,0,1,0,0] [0,1,2,16,17] [] (ah 0 (aw (D.N k [1,1]) D.K0)) (T0 a1 U)) (r0 k a1):=
 funext λU=>ap _ _ _ (T0 a1) _ (λrec v=>Bye) k U
def p (l0:(a_×Int)->P) (a1:A):P:=l0 (a1.1,0)
theorem ae:@Eq P (D.W k a1) (p (r0 k a1) a1):=By8 (aq k a1) Bye
theorem ok:Ok prog 306 D.sig:=al func306 av Bye (fc iV.ok (fc iu.ok (fc jR.ok (fc gk.ok (ai _)))))
end gg
namespace oJ
abbrev A:=Int×Row×Unit
abbrev O:=Byt×Unit
noncomputable def D:FD:={ fn:=f307,tl:=az,ps:=[(.ro,i64),(.ro,aT)],rs:=[((.aa u8),(aj (.aa u8)))] }
def ab (a:A):Option O:=@lift O λk=>D.W k a
def p (a1:A):Option O:=if [UInt8.ofInt a1.1,UInt8.ofInt a1.2.1.1,UInt8.ofInt a1.2.1.2.1,UInt8.ofInt (a1.2.1.2.2.1.fdiv (2 ^ 8)),UInt8.ofInt a1.2.1.2.2.1,UInt8.ofInt (a1.2.1.2.2.2.1.length:Int)].length+a1.2.1.2.2.2.1.length<=ct then (let y2:=[UInt8.ofInt a1.1,UInt8.ofInt a1.2.1.1,UInt8.ofInt a1.2.1.2.1,UInt8.ofInt (a1.2.1.2.2.1.fdiv (2 ^ 8)),UInt8.ofInt a1.2.1.2.2.1,UInt8.ofInt (a1.2.1.2.2.2.1.length:Int)]++a1.2.1.2.2.2.1;some (y2,())) else none
theorem ae (a1:A):@Eq (Option O) (D.W k a1) (p a1):=Bye
theorem ok:Ok prog 307 D.sig:=al func307 av Bye (ai _)
end oJ
namespace o7
abbrev A:=a_×Row×Unit
abbrev O:=Bool×a_×Unit
noncomputable def D:FD:={ fn:=f267,tl:=az,ps:=[(.jl (aj de) (aj de),de),(.ro,aT)],rs:=[(.bool,(ak .bool))],gl:=[(306,gg.D.sig),(307,oJ.D.sig)],es:=[0] }
def ab (a:A):Option O:=@lift O λk=>D.W k a
def p (a1:A):Option O:=(oJ.ab (0,a1.2.1,())).bind λr2=>(gg.ab (a1.1,r2.1,(-1),())).bind λr3=>some (r3.2.2.1,r3.2.2.2.1,())
theorem ae (a1:A):@Eq (Option O) (D.W k a1) (p a1):=Bye
theorem ok:Ok prog 267 D.sig:=al func267 av Bye (fc gg.ok (fc oJ.ok (ai _)))
end o7
namespace qa
abbrev A:=Byt×Int×Byt×Unit
abbrev O:=yJ×Unit
noncomputable def D:FD:={ fn:=f339,tl:=az,ps:=[(.ro,(.aa u8)),(.ro,i64),(.ro,(.aa u8))],rs:=[(lE,(aj lE))],gl:=[(170,fj.D.sig),(171,it.D.sig),(253,lW.D.sig),(353,mh.D.sig),(354,kT.D.sig),(355,ou.D.sig)] }
def ab (a:A):Option O:=@lift O λk=>D.W k a
def p (a1:A):Option O:=(mh.ab (a1.1,a1.2.2.1,())).bind λr2=>cond (!decide (r2.1=0)) (some ((r2.1,0,([]:Byt),()),()))<|(it.ab (a1.1,a1.2.1,())).bind λr3=>cond (!r3.1) (some ((4,0,([]:Byt),()),()))<|(lW.ab (a1.1,a1.2.1,())).bind λr4=>cond (decide ((a1.2.2.1.length:Int)<=r4.2.1)) ((ou.ab (a1.1,a1.2.1,af ((af (r4.1+r4.2.1)) - (a1.2.2.1.length:Int)),a1.2.2.1,())).bind λr5=>some ((0,a1.2.1,r5.1,()),()))<|(kT.ab (a1.1,())).bind λr6=>cond (decide (af (r6.1+r4.2.1) < (a1.2.2.1.length:Int))) (some ((9,0,([]:Byt),()),()))<|(a1.1[1]?).bind λx7=>(fj.ab (a1.1,())).bind λr8=>cond (decide (af ((af (x7.toNat:Int)) - (af (2+(af (2*r8.1))))) < (a1.2.2.1.length:Int))) (some ((8,0,([]:Byt),()),()))<|(ou.ab (a1.1,a1.2.1,af ((af (x7.toNat:Int)) - (a1.2.2.1.length:Int)),a1.2.2.1,())).bind λr9=>if 0<=(1:Int)/\1 < (r9.1.length:Int) then ((r9.1[1]?).bind λFQ=>let y11:=r9.1.set 1 (UInt8.ofInt (af ((af (x7.toNat:Int)) - (a1.2.2.1.length:Int))));some ((0,a1.2.1,y11,()),())) else none
theorem ae (a1:A):@Eq (Option O) (D.W k a1) (p a1):=Bye
theorem ok:Ok prog 339 D.sig:=al func339 av Bye (fc fj.ok (fc it.ok (fc lW.ok (fc mh.ok (fc kT.ok (fc ou.ok (ai _)))))))
end qa
namespace mi
abbrev A:=a_×Int×Int×Byt×Unit
abbrev O:=Bool×a_×Unit
noncomputable def D:FD:={ fn:=f308,tl:=az,ps:=[(.jl (aj de) (aj de),de),(.ro,i64),(.ro,i64),(.ro,(.aa u8))],rs:=[(.bool,(ak .bool))],gl:=[(337,jR.D.sig),(338,gk.D.sig),(339,qa.D.sig)],es:=[0] }
def ab (a:A):Option O:=@lift O λk=>D.W k a
def p (a1:A):Option O:=if 0<=a1.2.1/\a1.2.1 < (a1.1.1.length:Int) then ((a1.1.1[a1.2.1.toNat]?).bind λx2=>(a1.1.1[a1.2.1.toNat]?).bind λx3=>(qa.ab (x3,a1.2.2.1,a1.2.2.2.1,())).bind λr4=>cond (decide (r4.1.1=8)) ((jR.ab (a1.1,a1.2.1,())).bind λr5=>if 0<=a1.2.1/\a1.2.1 < (r5.1.1.length:Int) then ((r5.1.1[a1.2.1.toNat]?).bind λx6=>(r5.1.1[a1.2.1.toNat]?).bind λx7=>(qa.ab (x7,a1.2.2.1,a1.2.2.2.1,())).bind λr8=>cond (!decide (r8.1.1=0)) (some (false,r5.1,()))<|(gk.ab (r5.1,a1.2.1,r8.1.2.2.1,())).bind λsf=>some (true,sf.1,())) else none)<|cond (!decide (r4.1.1=0)) (some (false,a1.1,()))<|(gk.ab (a1.1,a1.2.1,r4.1.2.2.1,())).bind λnu=>some (true,nu.1,())) else none
theorem ae (a1:A):@Eq (Option O) (D.W k a1) (p a1):=Bye
theorem ok:Ok prog 308 D.sig:=al func308 av Bye (fc jR.ok (fc gk.ok (fc qa.ok (ai _))))
end mi
namespace uR
abbrev A:=Int×Int×Unit
abbrev O:=Byt×Unit
noncomputable def D:FD:={ fn:=f309,tl:=az,ps:=[(.ro,i64),(.ro,i64)],rs:=[((.aa u8),(aj (.aa u8)))] }
def ab (a:A):Option O:=@lift O λk=>D.W k a
def p (a1:A):Option O:=some ([(1:UInt8),UInt8.ofInt a1.1,UInt8.ofInt a1.2.1],())
theorem ae (a1:A):@Eq (Option O) (D.W k a1) (p a1):=Bye
theorem ok:Ok prog 309 D.sig:=al func309 av Bye (ai _)
end uR
namespace of
abbrev A:=Byt×Int×Unit
abbrev O:=yJ×Unit
abbrev P:=Option O
noncomputable def D:FD:={ fn:=f340,tl:=az,ps:=[(.ro,(.aa u8)),(.ro,i64)],rs:=[(lE,(aj lE))],gl:=[(114,cd.D.sig),(169,bj.D.sig),(171,it.D.sig)],lv:=[(9,[1,4,6])],lx:=[(0,[1,4,6])] }
def ab (a:A):P:=@lift O λk=>D.W k a
variable (a1:A)
def T0 (ju:Byt):St:={ n:=54,sl:=[(1,.val i64 a1.2.1),(4,.box lE (aj lE) [] ((0:Int),(0:Int),([]:Byt),())),(6,.own (.aa u8) (aj (.aa u8)) [] ju)],vr:=[],ay:=[] }
def b0 (self:Byt->P) (e0:Byt->P) (a1:A) (ju:Byt):P:=if 0<=(0:Int)/\0 < (ju.length:Int) then ((ju[0]?).bind λJf=>cond (decide (0 < (Jf.toNat:Int))) (if 0<=(0:Int)/\0 < (ju.length:Int) then ((ju[0]?).bind λDA=>if 0<=af ((af (2*(af (DA.toNat:Int))))+1)/\af ((af (2*(af (DA.toNat:Int))))+1) < (ju.length:Int) then ((ju[(af ((af ((2:Int)*(af (DA.toNat:Int))))+(1:Int))).toNat]?).bind λxK=>cond (decide ((xK.toNat:Int)=0)) (if 0<=(0:Int)/\0 < (ju.length:Int) then ((ju[0]?).bind λGH=>if 0<=(0:Int)/\0 < (ju.length:Int) then ((ju[0]?).bind λCn=>let Po:=ju.set 0 (UInt8.ofInt ((GH.toNat:Int) - 1));self Po) else none) else none)<|e0 ju) else none) else none)<|e0 ju) else none
def q0 (YP:Byt):P:=some ((0,a1.2.1,YP,()),())
def r0:Byt->P:=am (λw v=>b0 w (q0 a1) a1 v) k
theorem aq:@Eq (Byt->P) (λju=>D.L k [1,1,1,1,1,1,0,0,0] [1,4,6] [] (ah 0 (aw (D.N k [1,1,1,1,1,1,1]) D.K0)) (T0 a1 ju)) (r0 k a1):=
 funext λju=>ap _ _ _ (T0 a1) _ (λrec v=>Bye) k ju
def p (l0:Byt->P) (a1:A):P:=(bj.ab (a1.1,())).bind λr2=>cond (!decide (r2.1=0)) (some ((r2.1,0,([]:Byt),()),()))<|(it.ab (a1.1,a1.2.1,())).bind λr3=>cond (!r3.1) (some ((4,0,([]:Byt),()),()))<|(cd.ab (a1.1,())).bind λr4=>if 0<=af (2+(af (2*a1.2.1)))/\af (2+(af (2*a1.2.1))) < (r4.1.length:Int) then ((r4.1[(af ((2:Int)+(af ((2:Int)*a1.2.1)))).toNat]?).bind λx5=>let y6:=r4.1.set (af (2+(af (2*a1.2.1)))).toNat (0:UInt8);if 0<=af (3+(af (2*a1.2.1)))/\af (3+(af (2*a1.2.1))) < (y6.length:Int) then ((y6[(af ((3:Int)+(af ((2:Int)*a1.2.1)))).toNat]?).bind λx7=>let y8:=y6.set (af (3+(af (2*a1.2.1)))).toNat (0:UInt8);l0 y8) else none) else none
theorem ae:@Eq P (D.W k a1) (p (r0 k a1) a1):=By8 (aq k a1) Bye
theorem ok:Ok prog 340 D.sig:=al func340 av Bye (fc cd.ok (fc bj.ok (fc it.ok (ai _))))
end of
namespace kl
abbrev A:=a_×Int×Int×Unit
abbrev O:=a_×Unit
noncomputable def D:FD:={ fn:=f310,tl:=az,ps:=[(.jl (aj de) (aj de),de),(.ro,i64),(.ro,i64)],rs:=[],gl:=[(338,gk.D.sig),(340,of.D.sig)],es:=[0] }
def ab (a:A):Option O:=@lift O λk=>D.W k a
def p (a1:A):Option O:=if 0<=a1.2.1/\a1.2.1 < (a1.1.1.length:Int) then ((a1.1.1[a1.2.1.toNat]?).bind λx2=>(a1.1.1[a1.2.1.toNat]?).bind λx3=>(of.ab (x3,a1.2.2.1,())).bind λr4=>(gk.ab (a1.1,a1.2.1,r4.1.2.2.1,())).bind λr5=>some (r5.1,())) else none
theorem ae (a1:A):@Eq (Option O) (D.W k a1) (p a1):=Bye
theorem ok:Ok prog 310 D.sig:=al func310 av Bye (fc gk.ok (fc of.ok (ai _)))
end kl
namespace kG
abbrev A:=a_×Seen×Row×Unit
abbrev O:=Bool×a_×Unit
noncomputable def D:FD:={ fn:=f268,tl:=az,ps:=[(.jl (aj de) (aj de),de),(.ro,gt),(.ro,aT)],rs:=[(.bool,(ak .bool))],gl:=[(306,gg.D.sig),(307,oJ.D.sig),(308,mi.D.sig),(309,uR.D.sig),(310,kl.D.sig)],es:=[0],od:=[(6,[0,1,2,3,4,5,6,7,8]),(8,[0,1,3,4,2,5,6,7,8,9,10,11,12]),(11,[0,1,2,3,4,5,6,7,8])] }
def ab (a:A):Option O:=@lift O λk=>D.W k a
def p (a1:A):Option O:=cond (Ty.eq aT a1.2.1.1 a1.2.2.1) (some (true,a1.1,()))<|let FO:=λ(p9:Int)=>((oJ.ab (p9,a1.2.2.1,())).bind λnu=>(mi.ab (a1.1,a1.2.1.2.2.2.2.1,a1.2.1.2.2.2.2.2.1,nu.1,())).bind λru=>cond ru.1 (some (true,ru.2.1,()))<|(oJ.ab (2,a1.2.2.1,())).bind λzs=>(gg.ab (ru.2.1,zs.1,a1.2.1.2.2.2.2.1,())).bind λuF=>cond (!uF.2.2.1) (some (false,uF.2.2.2.1,()))<|(uR.ab (uF.1,uF.2.1,())).bind λxt=>(mi.ab (uF.2.2.2.1,a1.2.1.2.1,a1.2.1.2.2.1,xt.1,())).bind λzr=>cond a1.2.1.2.2.2.1 ((kl.ab (zr.2.1,a1.2.1.2.2.2.2.1,a1.2.1.2.2.2.2.2.1,())).bind λA6=>some (true,A6.1,()))<|some (true,zr.2.1,()):Option O);cond a1.2.1.2.2.2.1 (FO 2)<|FO 0
theorem ae (a1:A):@Eq (Option O) (D.W k a1) (p a1):=Bye
theorem ok:Ok prog 268 D.sig:=al func268 av Bye (fc gg.ok (fc oJ.ok (fc mi.ok (fc uR.ok (fc kl.ok (ai _))))))
end kG
namespace lI
abbrev A:=a_×Seen×Unit
abbrev O:=a_×Unit
noncomputable def D:FD:={ fn:=f269,tl:=az,ps:=[(.jl (aj de) (aj de),de),(.ro,gt)],rs:=[],gl:=[(310,kl.D.sig)],es:=[0] }
def ab (a:A):Option O:=@lift O λk=>D.W k a
def p (a1:A):Option O:=(kl.ab (a1.1,a1.2.1.2.1,a1.2.1.2.2.1,())).bind λr2=>cond a1.2.1.2.2.2.1 ((kl.ab (r2.1,a1.2.1.2.2.2.2.1,a1.2.1.2.2.2.2.2.1,())).bind λr3=>some (r3.1,()))<|some (r2.1,())
theorem ae (a1:A):@Eq (Option O) (D.W k a1) (p a1):=Bye
theorem ok:Ok prog 269 D.sig:=al func269 av Bye (fc kl.ok (ai _))
end lI
namespace qq
abbrev A:=(List Byt)×Change×Unit
abbrev O:=dO×Unit
noncomputable def D:FD:={ fn:=f192,tl:=az,ps:=[(.ro,(.aa (.aa u8))),(.ro,ao)],rs:=[(du,(aj du))],gl:=[(99,fb.D.sig),(101,kM.D.sig),(133,dq.D.sig),(208,iW.D.sig),(263,ke.D.sig),(264,si.D.sig),(265,qp.D.sig),(266,np.D.sig),(267,o7.D.sig),(268,kG.D.sig),(269,lI.D.sig),(270,lH.D.sig)],od:=[(6,[0,1,2,3,4]),(9,[0,1,4,2,3,5,6,7,8,9,10,11,12,13])],ar:=[(9,[1,4])],bx:=[(9,[3])],pd:=[(9,[11])] }
def ab (a:A):Option O:=@lift O λk=>D.W k a
def p (a1:A):Option O:=(fb.ab (a1.1,())).bind λr2=>let WU:=λ(p16:Int)=>(cond (!decide (p16=0)) (some ((p16,([]:List cr),([]:List Byt),()),()))<|(kM.ab (r2.1,())).bind λD4=>(ke.ab (a1.2.1,D4.1,())).bind λWX=>cond (!WX.1) (some ((8,([]:List cr),([]:List Byt),()),()))<|(si.ab (a1.1,())).bind λW3=>(dq.ab (a1.2.1,())).bind λCm=>(dq.ab (a1.2.1,())).bind λPe=>(qp.ab (r2.1,Cm.1.1,Pe.1.2.1,())).bind λWY=>cond (!a1.2.1.1) ((o7.ab (W3.1,a1.2.1.2.2.2.1,())).bind λDa=>(np.ab (Da.2.1,Da.1,())).bind λWZ=>some (WZ.1,()))<|cond a1.2.1.2.2.1 ((kG.ab (W3.1,WY.1,a1.2.1.2.2.2.1,())).bind λSR=>(np.ab (SR.2.1,SR.1,())).bind λr27=>some (r27.1,()))<|(lI.ab (W3.1,WY.1,())).bind λr28=>(lH.ab (r28.1,())).bind λr29=>some (r29.1,()):Option O);cond (decide (r2.2.1=0)) ((iW.ab (a1.2.1,())).bind λr3=>WU r3.1)<|WU r2.2.1
theorem ae (a1:A):@Eq (Option O) (D.W k a1) (p a1):=Bye
theorem ok:Ok prog 192 D.sig:=al func192 av Bye (fc fb.ok (fc kM.ok (fc dq.ok (fc iW.ok (fc ke.ok (fc si.ok (fc qp.ok (fc np.ok (fc o7.ok (fc kG.ok (fc lI.ok (fc lH.ok (ai _)))))))))))))
end qq
namespace jw
abbrev A:=Byt×Byt×Unit
abbrev O:=(List cr)×Unit
abbrev P:=Option O
noncomputable def D:FD:={ fn:=f194,tl:=az,ps:=[(.ro,(.aa u8)),(.ro,(.aa u8))],rs:=[((.aa oB),(aj (.aa oB)))],gl:=[(114,cd.D.sig)],lv:=[(3,[0,1,5,6]),(7,[0,1,5,6,7])],lx:=[(0,[5]),(1,[0,1,5,6]),(2,[0,1,5,6,7])],od:=[(5,[0,1,2,3,4,5,6,7,8]),(7,[0,1,2,3,4,5,6,7,8,9,10,11,12])] }
def ab (a:A):P:=@lift O λk=>D.W k a
def T0 (a1:A) (U:Byt×Byt×(List cr)×Int):St:={ n:=49,sl:=[(0,.val (.aa u8) U.1),(1,.val (.aa u8) U.2.1),(5,.own (.aa oB) (aj (.aa oB)) [] U.2.2.1),(6,.val i64 U.2.2.2)],vr:=[],ay:=[] }
def S0 (rec:RT O) (a1:A):(Byt×Byt×(List cr)×Int)->P:=λU=>rec (T0 a1 U)
def cw (K:KT O) (a1:A):(List cr)->P:=λz=>K (.exit 0) ({ n:=49,sl:=[(5,.own (.aa oB) (aj (.aa oB)) [] z)],vr:=[],ay:=[] })
def T1 (a1:A) (c8:Byt) (cg:Byt) (bt:List cr) (bY:Int) (cm:Int):St:={ n:=49,sl:=[(0,.val (.aa u8) c8),(1,.val (.aa u8) cg),(5,.own (.aa oB) (aj (.aa oB)) [] bt),(6,.val i64 bY),(7,.val i64 cm)],vr:=[],ay:=[] }
def b1 (self:Int->P) (e2:Int->P) (a1:A) (c8:Byt) (cg:Byt) (bt:List cr) (bY:Int) (cm:Int):P:=cond (decide (cm < 64)) (if 0<=cm then ((c8[cm.toNat]?).bind λyN=>if 0<=cm then ((cg[cm.toNat]?).bind λum=>cond (!decide ((yN.toNat:Int)=(um.toNat:Int))) (self (af (cm+1)))<|e2 cm) else none) else none)<|e2 cm
def q0 (self:(Byt×Byt×(List cr)×Int)->P) (e0:(List cr)->P) (a1:A) (c8:Byt) (cg:Byt) (bt:List cr) (bY:Int) (u_:Int):P:=if 0<=bY/\bY<=u_/\u_<=(cg.length:Int) then ((cd.ab ((cg.take u_.toNat).drop bY.toNat,())).bind λtB=>if bt.length+[(bY,tB.1,())].length<=ct then (self (c8,cg,bt++[(bY,tB.1,())],af (u_+1))) else none) else none
def s1 (rec:RT O) (K:KT O) (a1:A):Byt->Byt->(List cr)->Int->(Int)->P:=λc8 cg bt bY=>λcm=>D.L k [1,1,0,1,0,0,1,0,0,1,1,0,0,0] [0,1,5,6,7] [] (ah 2 (aw (D.N k [1,1,0,1,0,0,1,0,0,1,1,1]) (ah 1 (aw (D.N k [1,1,0,1,0,0,1,1]) (im rec (fm [0,1,5,6] []) K))))) (T1 a1 c8 cg bt bY cm)
def r1 (self:(Byt×Byt×(List cr)×Int)->P) (e0:(List cr)->P) (a1:A):Byt->Byt->(List cr)->Int->(Int)->P:=λc8 cg bt bY=>am (λw v=>b1 w (q0 self e0 a1 c8 cg bt bY) a1 c8 cg bt bY v) k
theorem kL (rec:RT O) (K:KT O) (a1:A):s1 k rec K a1=r1 k (S0 rec a1) (cw K a1) a1:=
 funext λc8=>funext λcg=>funext λbt=>funext λbY=>funext λcm=>ap _ _ _ (T1 a1 c8 cg bt bY) _ (λrec v=>Bye) k cm
def b0 (self:(Byt×Byt×(List cr)×Int)->P) (e0:(List cr)->P) (l1:Byt->Byt->(List cr)->Int->(Int)->P) (a1:A) (U:Byt×Byt×(List cr)×Int):P:=cond (decide (U.2.2.2 < 64)) (if 0<=U.2.2.2 then ((U.1[U.2.2.2.toNat]?).bind λa7=>if 0<=U.2.2.2 then ((U.2.1[U.2.2.2.toNat]?).bind λg_=>cond (decide ((a7.toNat:Int)=(g_.toNat:Int))) (self (U.1,U.2.1,U.2.2.1,af (U.2.2.2+1)))<|l1 U.1 U.2.1 U.2.2.1 U.2.2.2 U.2.2.2) else none) else none)<|e0 U.2.2.1
def B0 (self:(Byt×Byt×(List cr)×Int)->P) (e0:(List cr)->P) (a1:A) (U:Byt×Byt×(List cr)×Int):P:=b0 self e0 (r1 k self e0 a1) a1 U
theorem kK (rec:RT O) (K:KT O) (a1:A) (U:Byt×Byt×(List cr)×Int):D.N k [1,1,0,1,0,0] (T0 a1 U) (im rec (fm [0,1,5,6] []) K)=B0 k (S0 rec a1) (cw K a1) a1 U:=
 aL (b:=b0 (S0 rec a1) (cw K a1) (s1 k rec K a1) a1 U) Bye (by rw[kL];rfl)
def q1 (a1:A) (EQ:(List cr)):P:=some (EQ,())
theorem pN (a1:A) (EQ:(List cr)):cw (ah 0 (aw (D.N k [1,1,1]) D.K0)) a1 EQ=q1 a1 EQ:=Bye
def s0 (a1:A):(Byt×Byt×(List cr)×Int)->P:=λU=>D.L k [1,1,0,1,0,0] [0,1,5,6] [] (ah 0 (aw (D.N k [1,1,1]) D.K0)) (T0 a1 U)
def r0 (a1:A):(Byt×Byt×(List cr)×Int)->P:=am (λw v=>B0 k w (q1 a1) a1 v) k
theorem aq (a1:A):s0 k a1=r0 k a1:=by
 funext U;have h0:cw (ah 0 (aw (D.N k [1,1,1]) D.K0)) a1=q1 a1:=funext λz=>pN k a1 z;refine (ap _ _ _ (T0 a1) (λself v=>B0 k self (cw (ah 0 (aw (D.N k [1,1,1]) D.K0)) a1) a1 v) (λrec v=>kK k rec (ah 0 (aw (D.N k [1,1,1]) D.K0)) a1 v) k U).trans ?_;rw[h0];rfl
def p (l0:(Byt×Byt×(List cr)×Int)->P) (a1:A):P:=l0 (a1.1,a1.2.1,([]:List cr),0)
theorem ae (a1:A):@Eq P (D.W k a1) (p (r0 k a1) a1):=
 aL (b:=p (s0 k a1) a1) Bye (by rw[aq])
theorem ok:Ok prog 194 D.sig:=al func194 av Bye (fc cd.ok (ai _))
end jw
namespace dh
abbrev A:=ba×(List Change)×Int×Int×Unit
abbrev O:=Int×ba×Unit
abbrev P:=Option O
noncomputable def D:FD:={ fn:=f110,tl:=az,ps:=[(.jl Byy Byy,bv),(.ro,(.aa ao)),(.ro,i64),(.ro,i64)],rs:=[(i64,(ak i64))],gl:=[(109,nQ.D.sig),(114,cd.D.sig),(192,qq.D.sig),(193,iV.D.sig),(194,jw.D.sig)],es:=[0],fz:=[(4,7,1)],lv:=[(2,[0,2,3,15,16,17]),(8,[0,2,3,15,16,17,33,34,35])],lx:=[(0,[0]),(2,[0,2,3,15,16,17])],od:=[(4,[0,1,2,3,4,5,6,7]),(10,[0,1,2,3,4,5,6,7]),(11,[0,1,2,3,4,5,6,7,8,9,10]),(12,[0,1,2,3,4,5,6,7,8,9,10,11,12,13,14,15,16,17,18]),(15,[0,1,2,3,4,5,6,7,8,9,10])],ar:=[(4,[4])],bx:=[(4,[10])],pd:=[(4,[6])],er:=[(4,[(3,8)])] }
def ab (a:A):P:=@lift O λk=>D.W k a
def T0 (a1:A) (U:ba×Int×Int×(List Change)×Int×Int):St:={ n:=90,sl:=[(0,.box bv Byy [] U.1),(2,.val i64 U.2.1),(3,.val i64 U.2.2.1),(15,.val (.aa ao) U.2.2.2.1),(16,.val i64 U.2.2.2.2.1),(17,.val i64 U.2.2.2.2.2)],vr:=[],ay:=[(0,0,false)] }
def S0 (rec:RT O) (a1:A):(ba×Int×Int×(List Change)×Int×Int)->P:=λU=>rec (T0 a1 U)
def cw (K:KT O) (a1:A):ba->P:=λz=>K (.exit 0) ({ n:=90,sl:=[(0,.box bv (.pair (ak .bool) (.pair (aj (.aa (.aa u8))) (.pair (ak ey) (.pair (.aa true (.pair (ak i64) (.pair (ak (.aa ao)) (aj (b_ [(.aa i64),(.aa bc)]))))) (ak (b_ [i64])))))) [] z)],vr:=[],ay:=[(0,0,false)] })
def T1 (a1:A) (c8:Int) (cg:Int) (bt:List Change) (bY:Int) (fw:Int) (iS:List cr) (lu:Int) (cm:ba×Int):St:={ n:=90,sl:=[(0,.box bv Byy [] cm.1),(2,.val i64 c8),(3,.val i64 cg),(15,.val (.aa ao) bt),(16,.val i64 bY),(17,.val i64 fw),(33,.val (.aa oB) iS),(34,.val i64 lu),(35,.val i64 cm.2)],vr:=[],ay:=[(0,0,false)] }
def b1 (self:(ba×Int)->P) (e2:ba->P) (a1:A) (c8:Int) (cg:Int) (bt:List Change) (bY:Int) (fw:Int) (iS:List cr) (lu:Int) (cm:ba×Int):P:=cond (decide (cm.2 < lu)) (if 0<=cm.2 then ((iS[cm.2.toNat]?).bind λvY=>let aar:=λ(NT:ba)=>(if 0<=vY.1/\vY.1 < (NT.2.1.length:Int) then ((NT.2.1[vY.1.toNat]?).bind λadm=>(NT.2.1[vY.1.toNat]?).bind λUQ=>(jw.ab (UQ,vY.2.1,())).bind λUR=>(nQ.ab (NT,(c8,cg,vY.1,UR.1,()),())).bind λtI=>cond (!decide (tI.1=0)) (some (tI.1,tI.2.1,()))<|(cd.ab (vY.2.1,())).bind λUS=>if 0<=vY.1/\vY.1 < (tI.2.1.2.1.length:Int) then ((tI.2.1.2.1[vY.1.toNat]?).bind λadn=>self ((tI.2.1.1,tI.2.1.2.1.set vY.1.toNat US.1,tI.2.1.2.2),af (cm.2+1))) else none) else none:P);cond (decide (vY.1=(cm.1.2.1.length:Int))) ((iV.ab ((0:UInt8),())).bind λC_=>if cm.1.2.1.length+[C_.1].length<=ct then (aar (cm.1.1,cm.1.2.1++[C_.1],cm.1.2.2)) else none)<|aar cm.1) else none)<|e2 cm.1
def q0 (self:(ba×Int×Int×(List Change)×Int×Int)->P) (e0:ba->P) (a1:A) (c8:Int) (cg:Int) (bt:List Change) (bY:Int) (fw:Int) (iS:List cr) (lu:Int) (ado:ba):P:=self (ado,c8,cg,bt,bY,af (fw+1))
def s1 (rec:RT O) (K:KT O) (a1:A):Int->Int->(List Change)->Int->Int->(List cr)->Int->(ba×Int)->P:=λc8 cg bt bY fw iS lu=>λcm=>D.L k [1,0,1,0,0,1,1,0,0,1,1,1,1,0,0] [0,2,3,15,16,17,33,34,35] [] (ah 2 (ah 1 (aw (D.N k [1,0,1,0,0,1,1,1]) (im rec (fm [0,2,3,15,16,17] []) K)))) (T1 a1 c8 cg bt bY fw iS lu cm)
def r1 (self:(ba×Int×Int×(List Change)×Int×Int)->P) (e0:ba->P) (a1:A):Int->Int->(List Change)->Int->Int->(List cr)->Int->(ba×Int)->P:=λc8 cg bt bY fw iS lu=>am (λw v=>b1 w (q0 self e0 a1 c8 cg bt bY fw iS lu) a1 c8 cg bt bY fw iS lu v) k
theorem kL (rec:RT O) (K:KT O) (a1:A):s1 k rec K a1=r1 k (S0 rec a1) (cw K a1) a1:=
 funext λc8=>funext λcg=>funext λbt=>funext λbY=>funext λfw=>funext λiS=>funext λlu=>funext λcm=>ap _ _ _ (T1 a1 c8 cg bt bY fw iS lu) _ (λrec v=>Bye) k cm
def b0 (self:(ba×Int×Int×(List Change)×Int×Int)->P) (e0:ba->P) (l1:Int->Int->(List Change)->Int->Int->(List cr)->Int->(ba×Int)->P) (a1:A) (U:ba×Int×Int×(List Change)×Int×Int):P:=cond (decide (U.2.2.2.2.2 < U.2.2.2.2.1)) (if 0<=U.2.2.2.2.2 then ((U.2.2.2.1[U.2.2.2.2.2.toNat]?).bind λa7=>(qq.ab (U.1.2.1,a7,())).bind λdz=>cond (!decide (dz.1.1=0)) (some (dz.1.1,U.1,()))<|l1 U.2.1 U.2.2.1 U.2.2.2.1 U.2.2.2.2.1 U.2.2.2.2.2 dz.1.2.1 (dz.1.2.1.length:Int) (U.1,0)) else none)<|e0 U.1
def B0 (self:(ba×Int×Int×(List Change)×Int×Int)->P) (e0:ba->P) (a1:A) (U:ba×Int×Int×(List Change)×Int×Int):P:=b0 self e0 (r1 k self e0 a1) a1 U
theorem kK (rec:RT O) (K:KT O) (a1:A) (U:ba×Int×Int×(List Change)×Int×Int):D.N k [1,0,1,0,0] (T0 a1 U) (im rec (fm [0,2,3,15,16,17] []) K)=B0 k (S0 rec a1) (cw K a1) a1 U:=
 aL (b:=b0 (S0 rec a1) (cw K a1) (s1 k rec K a1) a1 U) Bye (by rw[kL];rfl)
def q1 (a1:A) (NU:ba):P:=some (0,NU,())
theorem pN (a1:A) (NU:ba):cw (ah 0 (aw (D.N k [1,1]) D.K0)) a1 NU=q1 a1 NU:=Bye
def s0 (a1:A):(ba×Int×Int×(List Change)×Int×Int)->P:=λU=>D.L k [1,0,1,0,0] [0,2,3,15,16,17] [] (ah 0 (aw (D.N k [1,1]) D.K0)) (T0 a1 U)
def r0 (a1:A):(ba×Int×Int×(List Change)×Int×Int)->P:=am (λw v=>B0 k w (q1 a1) a1 v) k
theorem aq (a1:A):s0 k a1=r0 k a1:=by
 funext U;have h0:cw (ah 0 (aw (D.N k [1,1]) D.K0)) a1=q1 a1:=funext λz=>pN k a1 z;refine (ap _ _ _ (T0 a1) (λself v=>B0 k self (cw (ah 0 (aw (D.N k [1,1]) D.K0)) a1) a1 v) (λrec v=>kK k rec (ah 0 (aw (D.N k [1,1]) D.K0)) a1 v) k U).trans ?_;rw[h0];rfl
def p (l0:(ba×Int×Int×(List Change)×Int×Int)->P) (a1:A):P:=l0 (a1.1,a1.2.2.1,a1.2.2.2.1,a1.2.1,(a1.2.1.length:Int),0)
theorem ae (a1:A):@Eq P (D.W k a1) (p (r0 k a1) a1):=
 aL (b:=p (s0 k a1) a1) Bye (by rw[aq])
theorem ok:Ok prog 110 D.sig:=al func110 av Bye (fc nQ.ok (fc cd.ok (fc qq.ok (fc iV.ok (fc jw.ok (ai _))))))
end dh
namespace oP
abbrev A:=(List Tx)×Key×Unit
abbrev O:=Int×Unit
abbrev P:=Option O
noncomputable def D:FD:={ fn:=f195,tl:=az,ps:=[(.ro,(.aa bh)),(.ro,bc)],rs:=[(i64,(ak i64))],gl:=[(258,gf.D.sig)],lv:=[(2,[3,7,8,9])],lx:=[(0,[])] }
def ab (a:A):P:=@lift O λk=>D.W k a
variable (a1:A)
def T0 (U:Int):St:={ n:=20,sl:=[(3,.box bc (ak bc) [] a1.2.1),(7,.val (.aa bh) a1.1),(8,.val i64 (a1.1.length:Int)),(9,.val i64 U)],vr:=[],ay:=[] }
def b0 (self:Int->P) (e0:(Unit)->P) (a1:A) (U:Int):P:=cond (decide (U < (a1.1.length:Int))) (if 0<=U then ((a1.1[U.toNat]?).bind λa7=>(gf.ab (a7.2.2.2.1,a1.2.1,())).bind λdz=>cond dz.1 (some (a7.1,()))<|self (af (U+1))) else none)<|e0 ()
def q0 (a1:A) (e8:(Unit)):P:=some (0,())
def r0:(Int)->P:=am (λw v=>b0 w (q0 a1) a1 v) k
theorem aq:@Eq ((Int)->P) (λU=>D.L k [1,0,1,0,0] [3,7,8,9] [] (ah 0 (aw (D.N k [1,1]) D.K0)) (T0 a1 U)) (r0 k a1):=
 funext λU=>ap _ _ _ (T0 a1) _ (λrec v=>Bye) k U
def p (l0:(Int)->P) (a1:A):P:=l0 0
theorem ae:@Eq P (D.W k a1) (p (r0 k a1) a1):=By8 (aq k a1) Bye
theorem ok:Ok prog 195 D.sig:=al func195 av Bye (fc gf.ok (ai _))
end oP
namespace rZ
abbrev A:=(List Tx)×Int×Change×Unit
abbrev O:=(List Tx)×Unit
noncomputable def D:FD:={ fn:=f197,tl:=az,ps:=[(.ro,(.aa bh)),(.ro,i64),(.ro,ao)],rs:=[((.aa bh),(aj (.aa bh)))],gl:=[(108,iN.D.sig),(196,iX.D.sig),(258,gf.D.sig)],od:=[(3,[0,1,2,3,4,5,6,7,8,9,10]),(4,[0,1,2,3,4,5,6,7]),(5,[0,1,2,3,4,5,6,7,8,9,10,11])] }
def ab (a:A):Option O:=@lift O λk=>D.W k a
def p (a1:A):Option O:=(iN.ab (a1.1,())).bind λr2=>if 0<=a1.2.1/\a1.2.1 < (r2.1.length:Int) then ((r2.1[a1.2.1.toNat]?).bind λx3=>(r2.1[a1.2.1.toNat]?).bind λx4=>(r2.1[a1.2.1.toNat]?).bind λx5=>if x4.2.1.length+[a1.2.2.1].length<=ct then (if a1.2.1.toNat=a1.2.1.toNat then ((r2.1.set a1.2.1.toNat x5)[a1.2.1.toNat]?).bind λx6=>let y7:=(r2.1.set a1.2.1.toNat x5).set a1.2.1.toNat (x6.1,x4.2.1++[a1.2.2.1],x6.2.2);(y7[a1.2.1.toNat]?).bind λx8=>(iX.ab (a1.2.2.1,())).bind λr9=>(y7[a1.2.1.toNat]?).bind λFQ=>(gf.ab (FQ.2.2.2.1,r9.1,())).bind λnu=>cond (!nu.1) ((y7[a1.2.1.toNat]?).bind λSS=>(iX.ab (a1.2.2.1,())).bind λzs=>(y7[a1.2.1.toNat]?).bind λGG=>(y7[a1.2.1.toNat]?).bind λW4=>if GG.2.2.2.1.length+[zs.1].length<=ct then (if a1.2.1.toNat=a1.2.1.toNat then ((y7.set a1.2.1.toNat W4)[a1.2.1.toNat]?).bind λMM=>let MO:=(y7.set a1.2.1.toNat W4).set a1.2.1.toNat (MM.1,MM.2.1,MM.2.2.1,GG.2.2.2.1++[zs.1],MM.2.2.2.2);some (MO,()) else none) else none)<|some (y7,()) else none) else none) else none
theorem ae (a1:A):@Eq (Option O) (D.W k a1) (p a1):=Bye
theorem ok:Ok prog 197 D.sig:=al func197 av Bye (fc iN.ok (fc iX.ok (fc gf.ok (ai _))))
end rZ
namespace nv
abbrev A:=(List Tx)×Int×Change×Unit
abbrev O:=GE×Unit
noncomputable def D:FD:={ fn:=f111,tl:=az,ps:=[(.ro,(.aa bh)),(.ro,i64),(.ro,ao)],rs:=[(EN,(aj EN))],gl:=[(104,cu.D.sig),(106,mJ.D.sig),(131,kC.D.sig),(181,jp.D.sig),(195,oP.D.sig),(196,iX.D.sig),(197,rZ.D.sig)] }
def ab (a:A):Option O:=@lift O λk=>D.W k a
def p (a1:A):Option O:=(cu.ab (a1.1,())).bind λr2=>cond (!decide (r2.1=0)) (some ((r2.1,([]:List Tx),()),()))<|(mJ.ab (a1.1,a1.2.1,())).bind λr3=>cond (decide (r3.1 < 0)) (some ((4,([]:List Tx),()),()))<|(kC.ab (a1.2.2.1,())).bind λr4=>cond (!decide (r4.1=0)) (some ((r4.1,([]:List Tx),()),()))<|(iX.ab (a1.2.2.1,())).bind λr5=>(oP.ab (a1.1,r5.1,())).bind λr6=>let W0:Option O:=(jp.ab (a1.1,())).bind λru=>cond (decide (12<=ru.1)) (some ((2,([]:List Tx),()),()))<|cond (decide (r6.1=0)) (if 0<=r3.1 then ((a1.1[r3.1.toNat]?).bind λKq=>cond (decide (12<=(Kq.2.2.2.1.length:Int))) (some ((2,([]:List Tx),()),()))<|(rZ.ab (a1.1,r3.1,a1.2.2.1,())).bind λxt=>some ((0,xt.1,()),())) else none)<|(rZ.ab (a1.1,r3.1,a1.2.2.1,())).bind λzr=>some ((0,zr.1,()),());cond (!decide (r6.1=0)) (cond (!decide (r6.1=a1.2.1)) (some ((7,([]:List Tx),()),()))<|W0)<|W0
theorem ae (a1:A):@Eq (Option O) (D.W k a1) (p a1):=Bye
theorem ok:Ok prog 111 D.sig:=al func111 av Bye (fc cu.ok (fc mJ.ok (fc kC.ok (fc jp.ok (fc oP.ok (fc iX.ok (fc rZ.ok (ai _))))))))
end nv
namespace t7
abbrev A:=(List Tx)×Int×Unit
abbrev O:=(List Tx)×Int×Unit
noncomputable def D:FD:={ fn:=f112,tl:=az,ps:=[(.ro,(.aa bh)),(.ro,i64)],rs:=[((.aa bh),(aj (.aa bh))),(i64,(ak i64))],gl:=[(106,mJ.D.sig),(108,iN.D.sig)],od:=[(3,[0,1,2,3,4,5,6,7,8,9,10,11,12,13,14]),(4,[0,1,2,3,4,5,6,7,8])] }
def ab (a:A):Option O:=@lift O λk=>D.W k a
def p (a1:A):Option O:=(iN.ab (a1.1,())).bind λr2=>(mJ.ab (r2.1,a1.2.1,())).bind λr3=>if 0<=r3.1/\r3.1 < (r2.1.length:Int) then ((r2.1[r3.1.toNat]?).bind λx4=>(r2.1[r3.1.toNat]?).bind λx5=>(r2.1[r3.1.toNat]?).bind λx6=>(r2.1[r3.1.toNat]?).bind λx7=>(r2.1[r3.1.toNat]?).bind λx8=>if x7.2.2.1.length+[(x6.2.1.length:Int)].length<=ct then (if r3.1.toNat=r3.1.toNat then ((r2.1.set r3.1.toNat x8)[r3.1.toNat]?).bind λx9=>let WV:=(r2.1.set r3.1.toNat x8).set r3.1.toNat (x9.1,x9.2.1,x7.2.2.1++[(x6.2.1.length:Int)],x9.2.2.2);(WV[r3.1.toNat]?).bind λWW=>(WV[r3.1.toNat]?).bind λSS=>some (WV,af ((SS.2.2.1.length:Int) - 1),()) else none) else none) else none
theorem ae (a1:A):@Eq (Option O) (D.W k a1) (p a1):=Bye
theorem ok:Ok prog 112 D.sig:=al func112 av Bye (fc mJ.ok (fc iN.ok (ai _)))
end t7
namespace sI
open Go.Proofs
abbrev A:=(List Tx)×Int×(Int)×Unit
abbrev O:=(List Tx)×Unit
def ab (a:A):Option O:=LN bh a
def sig:vV:={ ps:=[(.pG (aj (.aa bh)),(.aa bh)),(.ro,i64),(.ro,i64)],rs:=[((.aa bh),aj (.aa bh))],F:=ab,FK:=λv H=>Pc v.2.1 v.2.2.1 H }
def ren:Go.Shelf.Ren:=⟨λ| 45=>198 | n=>n,λ| 22=>36 | 23=>157 | 3=>3 | 4=>4 | 0=>0 | n=>n,λn=>n⟩
theorem lay:SlLaysE0.n45 prog ren:=⟨by kernel_rfl,⟨f198.name,by decide,func198.trans (cN some Bye)⟩,underlying0,isAgg0,sizeOf0,zeroValue0,underlying3,isAgg3,sizeOf3,zeroValue3,underlying4,isAgg4,sizeOf4,zeroValue4,underlying36,isAgg36,sizeOf36,zeroValue36⟩
theorem ok:Ok prog 198 sig:=WP (e:=bh) lay Bye (by decide) (by decide) ⟨f198,func198,by kernel_rfl,by kernel_rfl,by kernel_rfl⟩
end sI
namespace rI
abbrev A:=(List Tx)×Op×Unit
abbrev O:=(List Tx)×(List Change)×Unit
noncomputable def D:FD:={ fn:=f113,tl:=az,ps:=[(.ro,(.aa bh)),(.ro,oY)],rs:=[((.aa bh),(aj (.aa bh))),((.aa ao),(aj (.aa ao)))],gl:=[(106,mJ.D.sig),(108,iN.D.sig),(134,kE.D.sig),(198,sI.sig)],od:=[(5,[0,1,2,3,4,5,6,7,8]),(8,[0,1,2,3,4,5,6,7,8,9,10,11])] }
def ab (a:A):Option O:=@lift O λk=>D.W k a
def p (a1:A):Option O:=(iN.ab (a1.1,())).bind λr2=>(mJ.ab (r2.1,a1.2.1.2.1,())).bind λr3=>if 0<=r3.1/\r3.1 < (r2.1.length:Int) then (cond (decide (a1.2.1.1=6)) ((r2.1[r3.1.toNat]?).bind λx4=>(r2.1[r3.1.toNat]?).bind λx5=>if 0<=a1.2.1.2.2.2.1/\a1.2.1.2.2.2.1 < (x5.2.2.1.length:Int) then ((r2.1[r3.1.toNat]?).bind λx6=>(x6.2.2.1[a1.2.1.2.2.2.1.toNat]?).bind λx7=>(r2.1[r3.1.toNat]?).bind λx8=>(r2.1[r3.1.toNat]?).bind λx9=>if 0<=x7/\x7<=(x9.2.1.length:Int) then ((r2.1[r3.1.toNat]?).bind λFQ=>(kE.ab ((FQ.2.1.take x9.2.1.length).drop x7.toNat,())).bind λnu=>(r2.1[r3.1.toNat]?).bind λSS=>(r2.1[r3.1.toNat]?).bind λKq=>if 0<=x7/\x7<=(Kq.2.1.length:Int) then ((r2.1[r3.1.toNat]?).bind λGG=>(r2.1[r3.1.toNat]?).bind λW4=>if r3.1.toNat=r3.1.toNat then ((r2.1.set r3.1.toNat W4)[r3.1.toNat]?).bind λMM=>let MO:=(r2.1.set r3.1.toNat W4).set r3.1.toNat (MM.1,(GG.2.1.take x7.toNat).drop 0,MM.2.2);(MO[r3.1.toNat]?).bind λx18=>(MO[r3.1.toNat]?).bind λWR=>if 0<=af (a1.2.1.2.2.2.1+1)/\af (a1.2.1.2.2.2.1+1)<=(WR.2.2.1.length:Int) then ((MO[r3.1.toNat]?).bind λSQ=>(MO[r3.1.toNat]?).bind λWS=>if r3.1.toNat=r3.1.toNat then ((MO.set r3.1.toNat WS)[r3.1.toNat]?).bind λWT=>let y23:=(MO.set r3.1.toNat WS).set r3.1.toNat (WT.1,WT.2.1,(SQ.2.2.1.take (af (a1.2.1.2.2.2.1+1)).toNat).drop 0,WT.2.2.2);some (y23,nu.1,()) else none) else none else none) else none) else none) else none)<|(r2.1[r3.1.toNat]?).bind λx24=>(r2.1[r3.1.toNat]?).bind λx25=>(kE.ab (x25.2.1,())).bind λSR=>(sI.ab (r2.1,r3.1,af (r3.1+1),())).bind λr27=>some (r27.1,SR.1,())) else none
theorem ae (a1:A):@Eq (Option O) (D.W k a1) (p a1):=Bye
theorem ok:Ok prog 113 D.sig:=al func113 av Bye (fc mJ.ok (fc iN.ok (fc kE.ok (fc sI.ok (ai _)))))
end rI
namespace dg
abbrev A:=ba×Op×bz×Unit
abbrev O:=Int×Int×ba×Unit
abbrev P:=Option O
noncomputable def D:FD:={ fn:=f51,tl:=az,ps:=[(.jl Byy (ak bv),bv),(.ro,oY),(.ro,fh)],rs:=[(i64,(ak i64)),(i64,(ak i64))],gl:=[(84,oI.D.sig),(109,mg.D.sig),(110,dh.D.sig),(111,nv.D.sig),(112,t7.D.sig),(113,rI.D.sig),(114,cd.D.sig)],es:=[0],fz:=[(31,3,8)],lv:=[(32,[0,187,188,189])],lx:=[(1,[0])],lf:=[(32,[(0,Byd)])],od:=[(4,[0,1,2,3,4,5,6,7,8,9,10,11,12,13,14]),(6,[0,1,2,3,4,5,6,7,8,9,10,11,12,13,14]),(11,[0,1,2,3,4,5,6,7,8,9,10]),(13,[0,1,2,3]),(15,[0,1,2,3,4,5,6,7,8,9,10,11]),(19,[0,1,2,3,4,5,6,7,8,9,10]),(26,[0,1,2,3,4,5,6,7,8,9,10,11,12])],ar:=[(11,[5,7])],bx:=[(11,[4,5])],pd:=[(11,[9])],er:=[(6,[(3,15)]),(11,[(3,11)])] }
def ab (a:A):P:=@lift O λk=>D.W k a
variable (a1:A)
def T0 (yT:ba×Int):St:={ n:=214,sl:=[(0,.box bv (ak bv) [] yT.1),(187,.val (.aa (.aa u8)) a1.1.2.1),(188,.val i64 (a1.1.2.1.length:Int)),(189,.val i64 yT.2)],vr:=[],ay:=[(0,0,false)] }
def b0 (self:(ba×Int)->P) (e1:ba->P) (a1:A) (yT:ba×Int):P:=cond (decide (yT.2 < (a1.1.2.1.length:Int))) (if 0<=yT.2 then ((a1.1.2.1[yT.2.toNat]?).bind λGF=>(cd.ab (GF,())).bind λUP=>(mg.ab (yT.1,(4,0,yT.2,[((0:Int),UP.1,())],()),())).bind λyO=>cond (!decide (yO.1=0)) (some (0,yO.1,yO.2.1,()))<|self (yO.2.1,af (yT.2+1))) else none)<|e1 yT.1
def q0 (a1:A) (LR:ba):P:=(oI.ab (LR.2.2.1,())).bind λYQ=>some (0,0,(LR.1,LR.2.1,YQ.1,LR.2.2.2),())
def r0:(ba×Int)->P:=am (λw v=>b0 w (q0 a1) a1 v) k
theorem aq:@Eq ((ba×Int)->P) (λyT=>D.L k [1,0,0,1,1,1,1,1,1,1,1,1,1,1,0,0,1,0,0] [0,187,188,189] [(0,Byd)] (ah 1 (aw (D.N k [1,0,0,1,1,1,1,1,1,1,1,1,1,1,0,1]) (ah 0 (aw (D.N k [1,1]) D.K0)))) (T0 a1 yT)) (r0 k a1):=
 funext λyT=>ap _ _ _ (T0 a1) _ (λrec v=>Bye) k yT
def p (l0:(ba×Int)->P) (a1:A):P:=cond (decide (a1.2.1.1=1)) (cond (decide (a1.1.2.2.2.2.1=100)) (some (0,9,a1.1,()))<|if a1.1.2.2.2.1.length+[(a1.1.2.2.2.2.1,([]:List Change),([]:List Int),([]:List Key),())].length<=ct then (let y2:=a1.1.2.2.2.1++[(a1.1.2.2.2.2.1,([]:List Change),([]:List Int),([]:List Key),())];cond (decide (af (a1.1.2.2.2.2.1+1)=af (a1.1.2.2.2.2.1+1))&&true) ((mg.ab ((a1.1.1,a1.1.2.1,a1.1.2.2.1,y2,af (a1.1.2.2.2.2.1+1),a1.1.2.2.2.2.2),(1,af ((af (a1.1.2.2.2.2.1+1)) - 1),0,([]:List cr),()),())).bind λr3=>cond (decide (r3.2.1.2.2.2.2.1=af (a1.1.2.2.2.2.1+1))&&true) (some (af ((af (a1.1.2.2.2.2.1+1)) - 1),r3.1,r3.2.1,()))<|none)<|none) else none)<|cond a1.2.2.1.2.1 ((dh.ab (a1.1,[a1.2.2.1.2.2.1],2,a1.2.1.2.1,())).bind λr4=>cond (!decide (r4.1=0)) (some (0,r4.1,r4.2.1,()))<|(nv.ab (r4.2.1.2.2.2.1,a1.2.1.2.1,a1.2.2.1.2.2.1,())).bind λr5=>some (0,r5.1.1,(r4.2.1.1,r4.2.1.2.1,r4.2.1.2.2.1,r5.1.2.1,r4.2.1.2.2.2.2),()))<|cond (decide (a1.2.1.1=5)) ((t7.ab (a1.1.2.2.2.1,a1.2.1.2.1,())).bind λr6=>some (r6.2.1,0,(a1.1.1,a1.1.2.1,a1.1.2.2.1,r6.1,a1.1.2.2.2.2),()))<|cond (decide (a1.2.1.1=6)) ((rI.ab (a1.1.2.2.2.1,a1.2.1,())).bind λr7=>(dh.ab ((a1.1.1,a1.1.2.1,a1.1.2.2.1,r7.1,a1.1.2.2.2.2),r7.2.1,3,a1.2.1.2.1,())).bind λr8=>cond (decide (r8.1=0)) (cond (decide (a1.2.1.1=8)) ((mg.ab (r8.2.1,(6,a1.2.1.2.1,0,([]:List cr),()),())).bind λr9=>some (0,r9.1,r9.2.1,()))<|some (0,r8.1,r8.2.1,()))<|some (0,r8.1,r8.2.1,()))<|cond (decide (a1.2.1.1=8)) ((rI.ab (a1.1.2.2.2.1,a1.2.1,())).bind λsf=>(dh.ab ((a1.1.1,a1.1.2.1,a1.1.2.2.1,sf.1,a1.1.2.2.2.2),sf.2.1,3,a1.2.1.2.1,())).bind λnu=>cond (decide (nu.1=0)) (cond (decide (a1.2.1.1=8)) ((mg.ab (nu.2.1,(6,a1.2.1.2.1,0,([]:List cr),()),())).bind λru=>some (0,ru.1,ru.2.1,()))<|some (0,nu.1,nu.2.1,()))<|some (0,nu.1,nu.2.1,()))<|cond (decide (a1.2.1.1=7)) ((rI.ab (a1.1.2.2.2.1,a1.2.1,())).bind λzs=>(mg.ab ((a1.1.1,a1.1.2.1,a1.1.2.2.1,zs.1,a1.1.2.2.2.2),(5,a1.2.1.2.1,0,([]:List cr),()),())).bind λuF=>(oI.ab (uF.2.1.2.2.1,())).bind λxt=>some (0,uF.1,(uF.2.1.1,uF.2.1.2.1,xt.1,uF.2.1.2.2.2),()))<|cond (decide (a1.2.1.1=9)) (l0 (a1.1,0))<|some (0,0,a1.1,())
theorem ae:@Eq P (D.W k a1) (p (r0 k a1) a1):=By8 (aq k a1) Bye
theorem ok:Ok prog 51 D.sig:=al func51 av Bye (fc oI.ok (fc mg.ok (fc dh.ok (fc nv.ok (fc t7.ok (fc rI.ok (fc cd.ok (ai _))))))))
end dg
namespace kH
abbrev A:=ba×Op×Unit
abbrev O:=mn×Unit
noncomputable def D:FD:={ fn:=f12,tl:=az,ps:=[(.ro,bv),(.ro,oY)],rs:=[(ff,(aj ff))],gl:=[(46,p6.D.sig),(47,jv.D.sig),(48,p_.D.sig),(49,jM.D.sig),(50,pk.D.sig),(51,dg.D.sig)],fz:=[(6,0,7),(6,3,7)],od:=[(6,[0,2,3,4,1,5,6,7])],ar:=[(6,[4])],bx:=[(6,[3])],pd:=[(6,[6])],er:=[(6,[(0,8),(3,8)])] }
def ab (a:A):Option O:=@lift O λk=>D.W k a
def p (a1:A):Option O:=(p6.ab (a1.1,())).bind λr2=>cond (!decide (r2.1=0)) (some ((r2.1,0,(false,([]:List Byt),(([]:Byt),([]:Byt),()),([]:List Tx),0,()),()),()))<|cond (!a1.1.1) (some ((8,0,(false,([]:List Byt),(([]:Byt),([]:Byt),()),([]:List Tx),0,()),()),()))<|(p_.ab (a1.1,())).bind λr3=>(jv.ab (r3.1,a1.1.2.2.2.1,a1.2.1,())).bind λr4=>cond (!decide (r4.1.1=0)) (some ((r4.1.1,0,(false,([]:List Byt),(([]:Byt),([]:Byt),()),([]:List Tx),0,()),()),()))<|let j9:Option O:=(pk.ab (a1.1,())).bind λsf=>(dg.ab (sf.1,a1.2.1,r4.1,())).bind λnu=>cond (!decide (nu.2.1=0)) (some ((nu.2.1,0,(false,([]:List Byt),(([]:Byt),([]:Byt),()),([]:List Tx),0,()),()),()))<|(pk.ab (nu.2.2.1,())).bind λru=>some ((0,nu.1,ru.1,()),());(jM.ab (a1.1.2.2.1,())).bind λr5=>cond (decide (4000 < r5.1)) (cond (!decide (a1.2.1.1=6)) (cond (!decide (a1.2.1.1=8)) (some ((9,0,(false,([]:List Byt),(([]:Byt),([]:Byt),()),([]:List Tx),0,()),()),()))<|j9)<|j9)<|j9
theorem ae (a1:A):@Eq (Option O) (D.W k a1) (p a1):=Bye
theorem ok:Ok prog 12 D.sig:=al func12 av Bye (fc p6.ok (fc jv.ok (fc p_.ok (fc jM.ok (fc pk.ok (fc dg.ok (ai _)))))))
end kH
namespace nR
abbrev A:=Byt×Byt×Unit
abbrev O:=Bool×Unit
abbrev P:=Option O
noncomputable def D:FD:={ fn:=f115,tl:=az,ps:=[(.ro,(.aa u8)),(.ro,(.aa u8))],rs:=[(.bool,(ak .bool))],lv:=[(4,[0,1,5])],lx:=[(0,[])],od:=[(6,[0,1,2,3,4,5,6,7,8])] }
def ab (a:A):P:=@lift O λk=>D.W k a
variable (a1:A)
def T0 (U:Int):St:={ n:=26,sl:=[(0,.val (.aa u8) a1.1),(1,.val (.aa u8) a1.2.1),(5,.val i64 U)],vr:=[],ay:=[] }
def b0 (self:Int->P) (e0:(Unit)->P) (a1:A) (U:Int):P:=cond (decide (U < (a1.1.length:Int))) (if 0<=U then ((a1.1[U.toNat]?).bind λa7=>if 0<=U then ((a1.2.1[U.toNat]?).bind λg_=>cond (!decide ((a7.toNat:Int)=(g_.toNat:Int))) (some (false,()))<|self (af (U+1))) else none) else none)<|e0 ()
def q0 (a1:A) (e8:(Unit)):P:=some (true,())
def r0:(Int)->P:=am (λw v=>b0 w (q0 a1) a1 v) k
theorem aq:@Eq ((Int)->P) (λU=>D.L k [1,1,0,1,0,0] [0,1,5] [] (ah 0 (aw (D.N k [1,1,1]) D.K0)) (T0 a1 U)) (r0 k a1):=
 funext λU=>ap _ _ _ (T0 a1) _ (λrec v=>Bye) k U
def p (l0:(Int)->P) (a1:A):P:=cond (!decide ((a1.1.length:Int)=(a1.2.1.length:Int))) (some (false,()))<|l0 0
theorem ae:@Eq P (D.W k a1) (p (r0 k a1) a1):=By8 (aq k a1) Bye
theorem ok:Ok prog 115 D.sig:=al func115 av Bye (ai _)
end nR
namespace ta
abbrev A:=(List Byt)×(List Byt)×Unit
abbrev O:=Bool×Unit
abbrev P:=Option O
noncomputable def D:FD:={ fn:=f52,tl:=az,ps:=[(.ro,(.aa (.aa u8))),(.ro,(.aa (.aa u8)))],rs:=[(.bool,(ak .bool))],gl:=[(115,nR.D.sig)],lv:=[(4,[0,1,5])],lx:=[(0,[])],od:=[(6,[0,1,2,3,4,5,6,7,8,9])] }
def ab (a:A):P:=@lift O λk=>D.W k a
variable (a1:A)
def T0 (U:Int):St:={ n:=27,sl:=[(0,.val (.aa (.aa u8)) a1.1),(1,.val (.aa (.aa u8)) a1.2.1),(5,.val i64 U)],vr:=[],ay:=[] }
def b0 (self:Int->P) (e0:(Unit)->P) (a1:A) (U:Int):P:=cond (decide (U < (a1.1.length:Int))) (if 0<=U then ((a1.1[U.toNat]?).bind λa7=>if 0<=U then ((a1.2.1[U.toNat]?).bind λg_=>(nR.ab (a7,g_,())).bind λlj=>cond (!lj.1) (some (false,()))<|self (af (U+1))) else none) else none)<|e0 ()
def q0 (a1:A) (rW:(Unit)):P:=some (true,())
def r0:(Int)->P:=am (λw v=>b0 w (q0 a1) a1 v) k
theorem aq:@Eq ((Int)->P) (λU=>D.L k [1,1,0,1,0,0] [0,1,5] [] (ah 0 (aw (D.N k [1,1,1]) D.K0)) (T0 a1 U)) (r0 k a1):=
 funext λU=>ap _ _ _ (T0 a1) _ (λrec v=>Bye) k U
def p (l0:(Int)->P) (a1:A):P:=cond (!decide ((a1.1.length:Int)=(a1.2.1.length:Int))) (some (false,()))<|l0 0
theorem ae:@Eq P (D.W k a1) (p (r0 k a1) a1):=By8 (aq k a1) Bye
theorem ok:Ok prog 52 D.sig:=al func52 av Bye (fc nR.ok (ai _))
end ta
namespace vf
abbrev A:=Log×Log×Unit
abbrev O:=Bool×Unit
noncomputable def D:FD:={ fn:=f53,tl:=az,ps:=[(.ro,ey),(.ro,ey)],rs:=[(.bool,(ak .bool))],gl:=[(115,nR.D.sig)] }
def ab (a:A):Option O:=@lift O λk=>D.W k a
def p (a1:A):Option O:=(nR.ab (a1.1.1,a1.2.1.1,())).bind λr2=>cond (!r2.1) (some (false,()))<|(nR.ab (a1.1.2.1,a1.2.1.2.1,())).bind λr3=>cond (!r3.1) (some (false,()))<|some (true,())
theorem ae (a1:A):@Eq (Option O) (D.W k a1) (p a1):=Bye
theorem ok:Ok prog 53 D.sig:=al func53 av Bye (fc nR.ok (ai _))
end vf
namespace tc
abbrev A:=(List Int)×(List Int)×Unit
abbrev O:=Bool×Unit
abbrev P:=Option O
noncomputable def D:FD:={ fn:=f59,tl:=az,ps:=[(.ro,(.aa i64)),(.ro,(.aa i64))],rs:=[(.bool,(ak .bool))],lv:=[(4,[0,1,5])],lx:=[(0,[])],od:=[(6,[0,1,2,3,4,5,6,7,8])] }
def ab (a:A):P:=@lift O λk=>D.W k a
variable (a1:A)
def T0 (U:Int):St:={ n:=26,sl:=[(0,.val (.aa i64) a1.1),(1,.val (.aa i64) a1.2.1),(5,.val i64 U)],vr:=[],ay:=[] }
def b0 (self:Int->P) (e0:(Unit)->P) (a1:A) (U:Int):P:=cond (decide (U < (a1.1.length:Int))) (if 0<=U then ((a1.1[U.toNat]?).bind λa7=>if 0<=U then ((a1.2.1[U.toNat]?).bind λg_=>cond (!decide (a7=g_)) (some (false,()))<|self (af (U+1))) else none) else none)<|e0 ()
def q0 (a1:A) (e8:(Unit)):P:=some (true,())
def r0:(Int)->P:=am (λw v=>b0 w (q0 a1) a1 v) k
theorem aq:@Eq ((Int)->P) (λU=>D.L k [1,1,0,1,0,0] [0,1,5] [] (ah 0 (aw (D.N k [1,1,1]) D.K0)) (T0 a1 U)) (r0 k a1):=
 funext λU=>ap _ _ _ (T0 a1) _ (λrec v=>Bye) k U
def p (l0:(Int)->P) (a1:A):P:=cond (!decide ((a1.1.length:Int)=(a1.2.1.length:Int))) (some (false,()))<|l0 0
theorem ae:@Eq P (D.W k a1) (p (r0 k a1) a1):=By8 (aq k a1) Bye
theorem ok:Ok prog 59 D.sig:=al func59 av Bye (ai _)
end tc
namespace tJ
abbrev A:=Row×Row×Unit
abbrev O:=Bool×Unit
noncomputable def D:FD:={ fn:=f122,tl:=az,ps:=[(.ro,aT),(.ro,aT)],rs:=[(.bool,(ak .bool))] }
def ab (a:A):Option O:=@lift O λk=>D.W k a
def p (a1:A):Option O:=cond (!decide (a1.1.1=a1.2.1.1)) (some (false,()))<|cond (!decide (a1.1.2.1=a1.2.1.2.1)) (some (false,()))<|cond (!decide (a1.1.2.2.1=a1.2.1.2.2.1)) (some (false,()))<|cond (!decide (a1.1.2.2.2.1=a1.2.1.2.2.2.1)) (some (false,()))<|some (true,())
theorem ae (a1:A):@Eq (Option O) (D.W k a1) (p a1):=Bye
theorem ok:Ok prog 122 D.sig:=al func122 av Bye (ai _)
end tJ
namespace qt
abbrev A:=Change×Change×Unit
abbrev O:=Bool×Unit
noncomputable def D:FD:={ fn:=f135,tl:=az,ps:=[(.ro,ao),(.ro,ao)],rs:=[(.bool,(ak .bool))],gl:=[(122,tJ.D.sig)] }
def ab (a:A):Option O:=@lift O λk=>D.W k a
def p (a1:A):Option O:=cond (!(a1.1.1 == a1.2.1.1)) (some (false,()))<|(tJ.ab (a1.1.2.1,a1.2.1.2.1,())).bind λr2=>cond (!r2.1) (some (false,()))<|cond (!(a1.1.2.2.1 == a1.2.1.2.2.1)) (some (false,()))<|(tJ.ab (a1.1.2.2.2.1,a1.2.1.2.2.2.1,())).bind λr3=>cond (!r3.1) (some (false,()))<|some (true,())
theorem ae (a1:A):@Eq (Option O) (D.W k a1) (p a1):=Bye
theorem ok:Ok prog 135 D.sig:=al func135 av Bye (fc tJ.ok (ai _))
end qt
namespace st
abbrev A:=(List Change)×(List Change)×Unit
abbrev O:=Bool×Unit
abbrev P:=Option O
noncomputable def D:FD:={ fn:=f73,tl:=az,ps:=[(.ro,(.aa ao)),(.ro,(.aa ao))],rs:=[(.bool,(ak .bool))],gl:=[(135,qt.D.sig)],lv:=[(4,[0,1,5])],lx:=[(0,[])],od:=[(6,[0,1,2,3,4,5,6,7,8,9])] }
def ab (a:A):P:=@lift O λk=>D.W k a
variable (a1:A)
def T0 (U:Int):St:={ n:=27,sl:=[(0,.val (.aa ao) a1.1),(1,.val (.aa ao) a1.2.1),(5,.val i64 U)],vr:=[],ay:=[] }
def b0 (self:Int->P) (e0:(Unit)->P) (a1:A) (U:Int):P:=cond (decide (U < (a1.1.length:Int))) (if 0<=U then ((a1.1[U.toNat]?).bind λa7=>if 0<=U then ((a1.2.1[U.toNat]?).bind λg_=>(qt.ab (a7,g_,())).bind λlj=>cond (!lj.1) (some (false,()))<|self (af (U+1))) else none) else none)<|e0 ()
def q0 (a1:A) (rW:(Unit)):P:=some (true,())
def r0:(Int)->P:=am (λw v=>b0 w (q0 a1) a1 v) k
theorem aq:@Eq ((Int)->P) (λU=>D.L k [1,1,0,1,0,0] [0,1,5] [] (ah 0 (aw (D.N k [1,1,1]) D.K0)) (T0 a1 U)) (r0 k a1):=
 funext λU=>ap _ _ _ (T0 a1) _ (λrec v=>Bye) k U
def p (l0:(Int)->P) (a1:A):P:=cond (!decide ((a1.1.length:Int)=(a1.2.1.length:Int))) (some (false,()))<|l0 0
theorem ae:@Eq P (D.W k a1) (p (r0 k a1) a1):=By8 (aq k a1) Bye
theorem ok:Ok prog 73 D.sig:=al func73 av Bye (fc qt.ok (ai _))
end st
namespace tK
abbrev A:=Key×Key×Unit
abbrev O:=Bool×Unit
noncomputable def D:FD:={ fn:=f271,tl:=az,ps:=[(.ro,bc),(.ro,bc)],rs:=[(.bool,(ak .bool))] }
def ab (a:A):Option O:=@lift O λk=>D.W k a
def p (a1:A):Option O:=cond (!decide (a1.1.1=a1.2.1.1)) (some (false,()))<|cond (!decide (a1.1.2.1=a1.2.1.2.1)) (some (false,()))<|some (true,())
theorem ae (a1:A):@Eq (Option O) (D.W k a1) (p a1):=Bye
theorem ok:Ok prog 271 D.sig:=al func271 av Bye (ai _)
end tK
namespace vP
abbrev A:=(List Key)×(List Key)×Unit
abbrev O:=Bool×Unit
abbrev P:=Option O
noncomputable def D:FD:={ fn:=f199,tl:=az,ps:=[(.ro,(.aa bc)),(.ro,(.aa bc))],rs:=[(.bool,(ak .bool))],gl:=[(271,tK.D.sig)],lv:=[(4,[0,1,5])],lx:=[(0,[])],od:=[(6,[0,1,2,3,4,5,6,7,8,9])] }
def ab (a:A):P:=@lift O λk=>D.W k a
variable (a1:A)
def T0 (U:Int):St:={ n:=27,sl:=[(0,.val (.aa bc) a1.1),(1,.val (.aa bc) a1.2.1),(5,.val i64 U)],vr:=[],ay:=[] }
def b0 (self:Int->P) (e0:(Unit)->P) (a1:A) (U:Int):P:=cond (decide (U < (a1.1.length:Int))) (if 0<=U then ((a1.1[U.toNat]?).bind λa7=>if 0<=U then ((a1.2.1[U.toNat]?).bind λg_=>(tK.ab (a7,g_,())).bind λlj=>cond (!lj.1) (some (false,()))<|self (af (U+1))) else none) else none)<|e0 ()
def q0 (a1:A) (rW:(Unit)):P:=some (true,())
def r0:(Int)->P:=am (λw v=>b0 w (q0 a1) a1 v) k
theorem aq:@Eq ((Int)->P) (λU=>D.L k [1,1,0,1,0,0] [0,1,5] [] (ah 0 (aw (D.N k [1,1,1]) D.K0)) (T0 a1 U)) (r0 k a1):=
 funext λU=>ap _ _ _ (T0 a1) _ (λrec v=>Bye) k U
def p (l0:(Int)->P) (a1:A):P:=cond (!decide ((a1.1.length:Int)=(a1.2.1.length:Int))) (some (false,()))<|l0 0
theorem ae:@Eq P (D.W k a1) (p (r0 k a1) a1):=By8 (aq k a1) Bye
theorem ok:Ok prog 199 D.sig:=al func199 av Bye (fc tK.ok (ai _))
end vP
namespace uS
abbrev A:=Tx×Tx×Unit
abbrev O:=Bool×Unit
noncomputable def D:FD:={ fn:=f116,tl:=az,ps:=[(.ro,bh),(.ro,bh)],rs:=[(.bool,(ak .bool))],gl:=[(59,tc.D.sig),(73,st.D.sig),(199,vP.D.sig)] }
def ab (a:A):Option O:=@lift O λk=>D.W k a
def p (a1:A):Option O:=cond (!decide (a1.1.1=a1.2.1.1)) (some (false,()))<|(st.ab (a1.1.2.1,a1.2.1.2.1,())).bind λr2=>cond (!r2.1) (some (false,()))<|(tc.ab (a1.1.2.2.1,a1.2.1.2.2.1,())).bind λr3=>cond (!r3.1) (some (false,()))<|(vP.ab (a1.1.2.2.2.1,a1.2.1.2.2.2.1,())).bind λr4=>cond (!r4.1) (some (false,()))<|some (true,())
theorem ae (a1:A):@Eq (Option O) (D.W k a1) (p a1):=Bye
theorem ok:Ok prog 116 D.sig:=al func116 av Bye (fc tc.ok (fc st.ok (fc vP.ok (ai _))))
end uS
namespace wR
abbrev A:=(List Tx)×(List Tx)×Unit
abbrev O:=Bool×Unit
abbrev P:=Option O
noncomputable def D:FD:={ fn:=f54,tl:=az,ps:=[(.ro,(.aa bh)),(.ro,(.aa bh))],rs:=[(.bool,(ak .bool))],gl:=[(116,uS.D.sig)],lv:=[(4,[0,1,5])],lx:=[(0,[])],od:=[(6,[0,1,2,3,4,5,6,7,8,9])] }
def ab (a:A):P:=@lift O λk=>D.W k a
variable (a1:A)
def T0 (U:Int):St:={ n:=27,sl:=[(0,.val (.aa bh) a1.1),(1,.val (.aa bh) a1.2.1),(5,.val i64 U)],vr:=[],ay:=[] }
def b0 (self:Int->P) (e0:(Unit)->P) (a1:A) (U:Int):P:=cond (decide (U < (a1.1.length:Int))) (if 0<=U then ((a1.1[U.toNat]?).bind λa7=>if 0<=U then ((a1.2.1[U.toNat]?).bind λg_=>(uS.ab (a7,g_,())).bind λlj=>cond (!lj.1) (some (false,()))<|self (af (U+1))) else none) else none)<|e0 ()
def q0 (a1:A) (rW:(Unit)):P:=some (true,())
def r0:(Int)->P:=am (λw v=>b0 w (q0 a1) a1 v) k
theorem aq:@Eq ((Int)->P) (λU=>D.L k [1,1,0,1,0,0] [0,1,5] [] (ah 0 (aw (D.N k [1,1,1]) D.K0)) (T0 a1 U)) (r0 k a1):=
 funext λU=>ap _ _ _ (T0 a1) _ (λrec v=>Bye) k U
def p (l0:(Int)->P) (a1:A):P:=cond (!decide ((a1.1.length:Int)=(a1.2.1.length:Int))) (some (false,()))<|l0 0
theorem ae:@Eq P (D.W k a1) (p (r0 k a1) a1):=By8 (aq k a1) Bye
theorem ok:Ok prog 54 D.sig:=al func54 av Bye (fc uS.ok (ai _))
end wR
namespace oQ
abbrev A:=ba×ba×Unit
abbrev O:=Bool×Unit
noncomputable def D:FD:={ fn:=f14,tl:=az,ps:=[(.ro,bv),(.ro,bv)],rs:=[(.bool,(ak .bool))],gl:=[(52,ta.D.sig),(53,vf.D.sig),(54,wR.D.sig)] }
def ab (a:A):Option O:=@lift O λk=>D.W k a
def p (a1:A):Option O:=cond (!(a1.1.1 == a1.2.1.1)) (some (false,()))<|(ta.ab (a1.1.2.1,a1.2.1.2.1,())).bind λr2=>cond (!r2.1) (some (false,()))<|(vf.ab (a1.1.2.2.1,a1.2.1.2.2.1,())).bind λr3=>cond (!r3.1) (some (false,()))<|(wR.ab (a1.1.2.2.2.1,a1.2.1.2.2.2.1,())).bind λr4=>cond (!r4.1) (some (false,()))<|cond (!decide (a1.1.2.2.2.2.1=a1.2.1.2.2.2.2.1)) (some (false,()))<|some (true,())
theorem ae (a1:A):@Eq (Option O) (D.W k a1) (p a1):=Bye
theorem ok:Ok prog 14 D.sig:=al func14 av Bye (fc ta.ok (fc vf.ok (fc wR.ok (ai _))))
end oQ
namespace lw
abbrev A:=mn×mn×Unit
abbrev O:=Bool×Unit
noncomputable def D:FD:={ fn:=f13,tl:=az,ps:=[(.ro,ff),(.ro,ff)],rs:=[(.bool,(ak .bool))],gl:=[(14,oQ.D.sig)] }
def ab (a:A):Option O:=@lift O λk=>D.W k a
def p (a1:A):Option O:=cond (!decide (a1.1.1=a1.2.1.1)) (some (false,()))<|cond (!decide (a1.1.2.1=a1.2.1.2.1)) (some (false,()))<|(oQ.ab (a1.1.2.2.1,a1.2.1.2.2.1,())).bind λr2=>cond (!r2.1) (some (false,()))<|some (true,())
theorem ae (a1:A):@Eq (Option O) (D.W k a1) (p a1):=Bye
theorem ok:Ok prog 13 D.sig:=al func13 av Bye (fc oQ.ok (ai _))
end lw
namespace jE
abbrev A:=Byt×Int×Unit
abbrev O:=Int×Byt×Unit
abbrev P:=Option O
noncomputable def D:FD:={ fn:=f117,tl:=az,ps:=[(.lR (aj (.aa u8)),(.aa u8)),(.ro,i64)],rs:=[(i64,(ak i64))],es:=[0],lv:=[(2,[0,1,5])],lx:=[(0,[0,1])] }
def ab (a:A):P:=@lift O λk=>D.W k a
variable (a1:A)
def T0 (a1:A) (U:Byt×Int×Int):St:={ n:=20,sl:=[(0,.own (.aa u8) (aj (.aa u8)) [] U.1),(1,.val i64 U.2.1),(5,.val i64 U.2.2)],vr:=[],ay:=[(0,0,true)] }
def b0 (self:(Byt×Int×Int)->P) (e0:(Byt×Int)->P) (a1:A) (U:Byt×Int×Int):P:=cond (decide (U.2.2 < (U.1.length:Int))) (if 0<=U.2.2/\U.2.2 < (U.1.length:Int) then ((U.1[U.2.2.toNat]?).bind λa7=>let rF:=U.1.set U.2.2.toNat (UInt8.ofInt U.2.1);self (rF,af (U.2.1+1),af (U.2.2+1))) else none)<|e0 (U.1,U.2.1)
def q0 (a1:A) (e8:(Byt×Int)):P:=some (e8.2,e8.1,())
def r0:(Byt×Int×Int)->P:=am (λw v=>b0 w (q0 a1) a1 v) k
theorem aq:@Eq ((Byt×Int×Int)->P) (λU=>D.L k [1,0,1,0,0] [0,1,5] [] (ah 0 (aw (D.N k [1,1]) D.K0)) (T0 a1 U)) (r0 k a1):=
 funext λU=>ap _ _ _ (T0 a1) _ (λrec v=>Bye) k U
def p (l0:(Byt×Int×Int)->P) (a1:A):P:=l0 (a1.1,a1.2.1,0)
theorem ae:@Eq P (D.W k a1) (p (r0 k a1) a1):=By8 (aq k a1) Bye
theorem ok:Ok prog 117 D.sig:=al func117 av Bye (ai _)
end jE
namespace oK
abbrev A:=(List Byt)×Int×Unit
abbrev O:=Int×(List Byt)×Unit
abbrev P:=Option O
noncomputable def D:FD:={ fn:=f55,tl:=az,ps:=[(.lR (aj (.aa (.aa u8))),(.aa (.aa u8))),(.ro,i64)],rs:=[(i64,(ak i64))],gl:=[(117,jE.D.sig)],es:=[0],lv:=[(2,[0,1,5])],lx:=[(0,[0,1])] }
def ab (a:A):P:=@lift O λk=>D.W k a
variable (a1:A)
def T0 (a1:A) (U:(List Byt)×Int×Int):St:={ n:=19,sl:=[(0,.own (.aa (.aa u8)) (aj (.aa (.aa u8))) [] U.1),(1,.val i64 U.2.1),(5,.val i64 U.2.2)],vr:=[],ay:=[(0,0,true)] }
def b0 (self:((List Byt)×Int×Int)->P) (e0:((List Byt)×Int)->P) (a1:A) (U:(List Byt)×Int×Int):P:=cond (decide (U.2.2 < (U.1.length:Int))) (if 0<=U.2.2/\U.2.2 < (U.1.length:Int) then ((U.1[U.2.2.toNat]?).bind λa7=>(U.1[U.2.2.toNat]?).bind λg_=>(U.1[U.2.2.toNat]?).bind λen=>(jE.ab (en,U.2.1,())).bind λjm=>(U.1[U.2.2.toNat]?).bind λsX=>self (U.1.set U.2.2.toNat jm.2.1,jm.1,af (U.2.2+1))) else none)<|e0 (U.1,U.2.1)
def q0 (a1:A) (sY:((List Byt)×Int)):P:=some (sY.2,sY.1,())
def r0:((List Byt)×Int×Int)->P:=am (λw v=>b0 w (q0 a1) a1 v) k
theorem aq:@Eq (((List Byt)×Int×Int)->P) (λU=>D.L k [1,0,1,0,0] [0,1,5] [] (ah 0 (aw (D.N k [1,1]) D.K0)) (T0 a1 U)) (r0 k a1):=
 funext λU=>ap _ _ _ (T0 a1) _ (λrec v=>Bye) k U
def p (l0:((List Byt)×Int×Int)->P) (a1:A):P:=l0 (a1.1,a1.2.1,0)
theorem ae:@Eq P (D.W k a1) (p (r0 k a1) a1):=By8 (aq k a1) Bye
theorem ok:Ok prog 55 D.sig:=al func55 av Bye (fc jE.ok (ai _))
end oK
namespace oR
abbrev A:=Log×Int×Unit
abbrev O:=Int×Log×Unit
noncomputable def D:FD:={ fn:=f56,tl:=az,ps:=[(.lR (aj ey),ey),(.ro,i64)],rs:=[(i64,(ak i64))],gl:=[(117,jE.D.sig)],es:=[2] }
def ab (a:A):Option O:=@lift O λk=>D.W k a
def p (a1:A):Option O:=(jE.ab (a1.1.1,a1.2.1,())).bind λr2=>(jE.ab (a1.1.2.1,r2.1,())).bind λr3=>some (r3.1,(r2.2.1,r3.2.1,a1.1.2.2),())
theorem ae (a1:A):@Eq (Option O) (D.W k a1) (p a1):=Bye
theorem ok:Ok prog 56 D.sig:=al func56 av Bye (fc jE.ok (ai _))
end oR
namespace mw
abbrev A:=(List Int)×Int×Unit
abbrev O:=Int×(List Int)×Unit
abbrev P:=Option O
noncomputable def D:FD:={ fn:=f62,tl:=az,ps:=[(.lR (aj (.aa i64)),(.aa i64)),(.ro,i64)],rs:=[(i64,(ak i64))],es:=[0],lv:=[(2,[0,1,5])],lx:=[(0,[0,1])] }
def ab (a:A):P:=@lift O λk=>D.W k a
variable (a1:A)
def T0 (a1:A) (U:(List Int)×Int×Int):St:={ n:=19,sl:=[(0,.own (.aa i64) (aj (.aa i64)) [] U.1),(1,.val i64 U.2.1),(5,.val i64 U.2.2)],vr:=[],ay:=[(0,0,true)] }
def b0 (self:((List Int)×Int×Int)->P) (e0:((List Int)×Int)->P) (a1:A) (U:(List Int)×Int×Int):P:=cond (decide (U.2.2 < (U.1.length:Int))) (if 0<=U.2.2/\U.2.2 < (U.1.length:Int) then ((U.1[U.2.2.toNat]?).bind λa7=>self (U.1.set U.2.2.toNat U.2.1,af (U.2.1+1),af (U.2.2+1))) else none)<|e0 (U.1,U.2.1)
def q0 (a1:A) (l_:((List Int)×Int)):P:=some (l_.2,l_.1,())
def r0:((List Int)×Int×Int)->P:=am (λw v=>b0 w (q0 a1) a1 v) k
theorem aq:@Eq (((List Int)×Int×Int)->P) (λU=>D.L k [1,0,1,0,0] [0,1,5] [] (ah 0 (aw (D.N k [1,1]) D.K0)) (T0 a1 U)) (r0 k a1):=
 funext λU=>ap _ _ _ (T0 a1) _ (λrec v=>Bye) k U
def p (l0:((List Int)×Int×Int)->P) (a1:A):P:=l0 (a1.1,a1.2.1,0)
theorem ae:@Eq P (D.W k a1) (p (r0 k a1) a1):=By8 (aq k a1) Bye
theorem ok:Ok prog 62 D.sig:=al func62 av Bye (ai _)
end mw
namespace fi
abbrev A:=Int×Unit
abbrev O:=Byt×Unit
abbrev P:=Option O
noncomputable def D:FD:={ fn:=f61,tl:=az,ps:=[(.ro,i64)],rs:=[(.str,(ak .str))],lv:=[(4,[0,3])],lx:=[(0,[3])] }
def ab (a:A):P:=@lift O λk=>D.W k a
variable (a1:A)
def T0 (a1:A) (U:Int×Byt):St:={ n:=20,sl:=[(0,.val i64 U.1),(3,.val .str U.2)],vr:=[],ay:=[] }
def b0 (self:(Int×Byt)->P) (e0:Byt->P) (a1:A) (U:Int×Byt):P:=cond (decide (0 < U.1)) (if [UInt8.ofInt (af ((48:Int)+(U.1.tmod (10:Int))))].length+U.2.length<=ct then (self (af (U.1.tdiv 10),[UInt8.ofInt (af ((48:Int)+(U.1.tmod (10:Int))))]++U.2)) else none)<|e0 U.2
abbrev B0 (_:Nat):=b0
def q0 (a1:A) (acj:Byt):P:=if ([109]:Byt).length+acj.length<=ct then (some (([109]:Byt)++acj,())) else none
abbrev Q0 (_:Nat):=q0
def r0:(Int×Byt)->P:=am (λw v=>B0 k w (Q0 k a1) a1 v) k
theorem aq:@Eq ((Int×Byt)->P) (λU=>D.L k [1,1,1,0,0,0] [0,3] [] (ah 0 (aw (D.N k [1,1,1,1]) D.K0)) (T0 a1 U)) (r0 k a1):=
 funext λU=>ap _ _ _ (T0 a1) _ (λrec v=>Bye) k U
def p (l0:(Int×Byt)->P) (a1:A):P:=cond (decide (a1.1<=0)) (some (([109,48]:Byt),()))<|l0 (a1.1,([]:Byt))
theorem ae:@Eq P (D.W k a1) (p (r0 k a1) a1):=By8 (aq k a1) Bye
theorem ok:Ok prog 61 D.sig:=al func61 av Bye (ai _)
end fi
namespace lJ
abbrev A:=(List Change)×Int×Unit
abbrev O:=Int×(List Change)×Unit
abbrev P:=Option O
noncomputable def D:FD:={ fn:=f74,tl:=az,ps:=[(.lR (aj (.aa ao)),(.aa ao)),(.ro,i64)],rs:=[(i64,(ak i64))],gl:=[(61,fi.D.sig)],es:=[0],lv:=[(2,[0,1,5])],lx:=[(0,[0,1])] }
def ab (a:A):P:=@lift O λk=>D.W k a
variable (a1:A)
def T0 (a1:A) (U:(List Change)×Int×Int):St:={ n:=97,sl:=[(0,.own (.aa ao) (aj (.aa ao)) [] U.1),(1,.val i64 U.2.1),(5,.val i64 U.2.2)],vr:=[],ay:=[(0,0,true)] }
def b0 (self:((List Change)×Int×Int)->P) (e0:((List Change)×Int)->P) (a1:A) (U:(List Change)×Int×Int):P:=cond (decide (U.2.2 < (U.1.length:Int))) (if 0<=U.2.2/\U.2.2 < (U.1.length:Int) then ((U.1[U.2.2.toNat]?).bind λa7=>let rF:=U.1.set U.2.2.toNat (decide (U.2.1.tmod (3:Int)=0),a7.2);if 0<=U.2.2/\U.2.2 < (rF.length:Int) then ((rF[U.2.2.toNat]?).bind λen=>let yM:=rF.set U.2.2.toNat (en.1,(af (U.2.1+1),en.2.1.2),en.2.2);if 0<=U.2.2/\U.2.2 < (yM.length:Int) then ((yM[U.2.2.toNat]?).bind λsX=>let YT:=yM.set U.2.2.toNat (sX.1,(sX.2.1.1,af ((af (U.2.1+1))+1),sX.2.1.2.2),sX.2.2);if 0<=U.2.2/\U.2.2 < (YT.length:Int) then ((YT[U.2.2.toNat]?).bind λyL=>let AS:=YT.set U.2.2.toNat (yL.1,(yL.2.1.1,yL.2.1.2.1,af ((af ((af (U.2.1+1))+1))+1),yL.2.1.2.2.2),yL.2.2);(fi.ab (af ((af ((af ((af (U.2.1+1))+1))+1))+1),())).bind λPh=>if 0<=U.2.2/\U.2.2 < (AS.length:Int) then ((AS[U.2.2.toNat]?).bind λxK=>let Pj:=AS.set U.2.2.toNat (xK.1,(xK.2.1.1,xK.2.1.2.1,xK.2.1.2.2.1,Ph.1,xK.2.1.2.2.2.2),xK.2.2);if 0<=U.2.2/\U.2.2 < (Pj.length:Int) then ((Pj[U.2.2.toNat]?).bind λCn=>let Po:=Pj.set U.2.2.toNat (Cn.1,Cn.2.1,decide ((af ((af ((af ((af ((af (U.2.1+1))+1))+1))+1))+1)).tmod (3:Int)=0),Cn.2.2.2);if 0<=U.2.2/\U.2.2 < (Po.length:Int) then ((Po[U.2.2.toNat]?).bind λCo=>let Pn:=Po.set U.2.2.toNat (Co.1,Co.2.1,Co.2.2.1,(af ((af ((af ((af ((af ((af (U.2.1+1))+1))+1))+1))+1))+1),Co.2.2.2.1.2),Co.2.2.2.2);if 0<=U.2.2/\U.2.2 < (Pn.length:Int) then ((Pn[U.2.2.toNat]?).bind λwu=>let Pm:=Pn.set U.2.2.toNat (wu.1,wu.2.1,wu.2.2.1,(wu.2.2.2.1.1,af ((af ((af ((af ((af ((af ((af (U.2.1+1))+1))+1))+1))+1))+1))+1),wu.2.2.2.1.2.2),wu.2.2.2.2);if 0<=U.2.2/\U.2.2 < (Pm.length:Int) then ((Pm[U.2.2.toNat]?).bind λEW=>let Cs:=Pm.set U.2.2.toNat (EW.1,EW.2.1,EW.2.2.1,(EW.2.2.2.1.1,EW.2.2.2.1.2.1,af ((af ((af ((af ((af ((af ((af ((af (U.2.1+1))+1))+1))+1))+1))+1))+1))+1),EW.2.2.2.1.2.2.2),EW.2.2.2.2);(fi.ab (af ((af ((af ((af ((af ((af ((af ((af ((af (U.2.1+1))+1))+1))+1))+1))+1))+1))+1))+1),())).bind λaec=>if 0<=U.2.2/\U.2.2 < (Cs.length:Int) then ((Cs[U.2.2.toNat]?).bind λGJ=>let aed:=Cs.set U.2.2.toNat (GJ.1,GJ.2.1,GJ.2.2.1,(GJ.2.2.2.1.1,GJ.2.2.2.1.2.1,GJ.2.2.2.1.2.2.1,aec.1,GJ.2.2.2.1.2.2.2.2),GJ.2.2.2.2);self (aed,af ((af ((af ((af ((af ((af ((af ((af ((af ((af (U.2.1+1))+1))+1))+1))+1))+1))+1))+1))+1))+1),af (U.2.2+1))) else none) else none) else none) else none) else none) else none) else none) else none) else none) else none)<|e0 (U.1,U.2.1)
def q0 (a1:A) (ack:((List Change)×Int)):P:=some (ack.2,ack.1,())
def r0:((List Change)×Int×Int)->P:=am (λw v=>b0 w (q0 a1) a1 v) k
theorem aq:@Eq (((List Change)×Int×Int)->P) (λU=>D.L k [1,0,1,0,0] [0,1,5] [] (ah 0 (aw (D.N k [1,1]) D.K0)) (T0 a1 U)) (r0 k a1):=
 funext λU=>ap _ _ _ (T0 a1) _ (λrec v=>Bye) k U
def p (l0:((List Change)×Int×Int)->P) (a1:A):P:=l0 (a1.1,a1.2.1,0)
theorem ae:@Eq P (D.W k a1) (p (r0 k a1) a1):=By8 (aq k a1) Bye
theorem ok:Ok prog 74 D.sig:=al func74 av Bye (fc fi.ok (ai _))
end lJ
namespace og
abbrev A:=(List Key)×Int×Unit
abbrev O:=Int×(List Key)×Unit
abbrev P:=Option O
noncomputable def D:FD:={ fn:=f118,tl:=az,ps:=[(.lR (aj (.aa bc)),(.aa bc)),(.ro,i64)],rs:=[(i64,(ak i64))],es:=[0],lv:=[(2,[0,1,5])],lx:=[(0,[0,1])] }
def ab (a:A):P:=@lift O λk=>D.W k a
variable (a1:A)
def T0 (a1:A) (U:(List Key)×Int×Int):St:={ n:=27,sl:=[(0,.own (.aa bc) (aj (.aa bc)) [] U.1),(1,.val i64 U.2.1),(5,.val i64 U.2.2)],vr:=[],ay:=[(0,0,true)] }
def b0 (self:((List Key)×Int×Int)->P) (e0:((List Key)×Int)->P) (a1:A) (U:(List Key)×Int×Int):P:=cond (decide (U.2.2 < (U.1.length:Int))) (if 0<=U.2.2/\U.2.2 < (U.1.length:Int) then ((U.1[U.2.2.toNat]?).bind λa7=>let rF:=U.1.set U.2.2.toNat (U.2.1,a7.2);if 0<=U.2.2/\U.2.2 < (rF.length:Int) then ((rF[U.2.2.toNat]?).bind λen=>let yM:=rF.set U.2.2.toNat (en.1,af (U.2.1+1),en.2.2);self (yM,af ((af (U.2.1+1))+1),af (U.2.2+1))) else none) else none)<|e0 (U.1,U.2.1)
def q0 (a1:A) (kf:((List Key)×Int)):P:=some (kf.2,kf.1,())
def r0:((List Key)×Int×Int)->P:=am (λw v=>b0 w (q0 a1) a1 v) k
theorem aq:@Eq (((List Key)×Int×Int)->P) (λU=>D.L k [1,0,1,0,0] [0,1,5] [] (ah 0 (aw (D.N k [1,1]) D.K0)) (T0 a1 U)) (r0 k a1):=
 funext λU=>ap _ _ _ (T0 a1) _ (λrec v=>Bye) k U
def p (l0:((List Key)×Int×Int)->P) (a1:A):P:=l0 (a1.1,a1.2.1,0)
theorem ae:@Eq P (D.W k a1) (p (r0 k a1) a1):=By8 (aq k a1) Bye
theorem ok:Ok prog 118 D.sig:=al func118 av Bye (ai _)
end og
namespace rf
abbrev A:=(List Tx)×Int×Unit
abbrev O:=Int×(List Tx)×Unit
abbrev P:=Option O
noncomputable def D:FD:={ fn:=f57,tl:=az,ps:=[(.lR (aj (.aa bh)),(.aa bh)),(.ro,i64)],rs:=[(i64,(ak i64))],gl:=[(62,mw.D.sig),(74,lJ.D.sig),(118,og.D.sig)],es:=[0],lv:=[(2,[0,1,5])],lx:=[(0,[0,1])] }
def ab (a:A):P:=@lift O λk=>D.W k a
variable (a1:A)
def T0 (a1:A) (U:(List Tx)×Int×Int):St:={ n:=41,sl:=[(0,.own (.aa bh) (aj (.aa bh)) [] U.1),(1,.val i64 U.2.1),(5,.val i64 U.2.2)],vr:=[],ay:=[(0,0,true)] }
def b0 (self:((List Tx)×Int×Int)->P) (e0:((List Tx)×Int)->P) (a1:A) (U:(List Tx)×Int×Int):P:=cond (decide (U.2.2 < (U.1.length:Int))) (if 0<=U.2.2/\U.2.2 < (U.1.length:Int) then ((U.1[U.2.2.toNat]?).bind λa7=>let rF:=U.1.set U.2.2.toNat (U.2.1,a7.2);if 0<=U.2.2/\U.2.2 < (rF.length:Int) then ((rF[U.2.2.toNat]?).bind λen=>(rF[U.2.2.toNat]?).bind λtW=>(rF[U.2.2.toNat]?).bind λsX=>(lJ.ab (sX.2.1,af (U.2.1+1),())).bind λqv=>(rF[U.2.2.toNat]?).bind λyL=>let AS:=rF.set U.2.2.toNat (yL.1,qv.2.1,yL.2.2);if 0<=U.2.2/\U.2.2 < (AS.length:Int) then ((AS[U.2.2.toNat]?).bind λDA=>(AS[U.2.2.toNat]?).bind λxK=>(AS[U.2.2.toNat]?).bind λGH=>(mw.ab (GH.2.2.1,qv.1,())).bind λCp=>(AS[U.2.2.toNat]?).bind λEU=>let LT:=AS.set U.2.2.toNat (EU.1,EU.2.1,Cp.2.1,EU.2.2.2);if 0<=U.2.2/\U.2.2 < (LT.length:Int) then ((LT[U.2.2.toNat]?).bind λGF=>(LT[U.2.2.toNat]?).bind λwu=>(LT[U.2.2.toNat]?).bind λaee=>(og.ab (aee.2.2.2.1,Cp.1,())).bind λUF=>(LT[U.2.2.toNat]?).bind λLQ=>let aef:=LT.set U.2.2.toNat (LQ.1,LQ.2.1,LQ.2.2.1,UF.2.1,LQ.2.2.2.2);self (aef,UF.1,af (U.2.2+1))) else none) else none) else none) else none)<|e0 (U.1,U.2.1)
def q0 (a1:A) (acl:((List Tx)×Int)):P:=some (acl.2,acl.1,())
def r0:((List Tx)×Int×Int)->P:=am (λw v=>b0 w (q0 a1) a1 v) k
theorem aq:@Eq (((List Tx)×Int×Int)->P) (λU=>D.L k [1,0,1,0,0] [0,1,5] [] (ah 0 (aw (D.N k [1,1]) D.K0)) (T0 a1 U)) (r0 k a1):=
 funext λU=>ap _ _ _ (T0 a1) _ (λrec v=>Bye) k U
def p (l0:((List Tx)×Int×Int)->P) (a1:A):P:=l0 (a1.1,a1.2.1,0)
theorem ae:@Eq P (D.W k a1) (p (r0 k a1) a1):=By8 (aq k a1) Bye
theorem ok:Ok prog 57 D.sig:=al func57 av Bye (fc mw.ok (fc lJ.ok (fc og.ok (ai _))))
end rf
namespace km
abbrev A:=ba×Int×Unit
abbrev O:=Int×ba×Unit
noncomputable def D:FD:={ fn:=f15,tl:=az,ps:=[(.lR (aj bv),bv),(.ro,i64)],rs:=[(i64,(ak i64))],gl:=[(55,oK.D.sig),(56,oR.D.sig),(57,rf.D.sig)],es:=[2] }
def ab (a:A):Option O:=@lift O λk=>D.W k a
def p (a1:A):Option O:=(oK.ab (a1.1.2.1,a1.2.1,())).bind λr2=>(oR.ab (a1.1.2.2.1,r2.1,())).bind λr3=>(rf.ab (a1.1.2.2.2.1,r3.1,())).bind λr4=>some (r4.1,(a1.1.1,r2.2.1,r3.2.1,r4.2.1,a1.1.2.2.2.2),())
theorem ae (a1:A):@Eq (Option O) (D.W k a1) (p a1):=Bye
theorem ok:Ok prog 15 D.sig:=al func15 av Bye (fc oK.ok (fc oR.ok (fc rf.ok (ai _))))
end km
namespace mQ
abbrev A:=mn×Int×Unit
abbrev O:=Int×mn×Unit
noncomputable def D:FD:={ fn:=f16,tl:=az,ps:=[(.lR (aj ff),ff),(.ro,i64)],rs:=[(i64,(ak i64))],gl:=[(15,km.D.sig)],es:=[2] }
def ab (a:A):Option O:=@lift O λk=>D.W k a
def p (a1:A):Option O:=(km.ab (a1.1.2.2.1,a1.2.1,())).bind λr2=>some (r2.1,(a1.1.1,a1.1.2.1,r2.2.1,a1.1.2.2.2),())
theorem ae (a1:A):@Eq (Option O) (D.W k a1) (p a1):=Bye
theorem ok:Ok prog 16 D.sig:=al func16 av Bye (fc km.ok (ai _))
end mQ
namespace mj
abbrev A:=Byt×Int×Unit
abbrev O:=Int×Unit
abbrev P:=Option O
noncomputable def D:FD:={ fn:=f200,tl:=az,ps:=[(.ro,(.aa u8)),(.ro,i64)],rs:=[(i64,(ak i64))],lv:=[(2,[0,1,5])],lx:=[(0,[1])] }
def ab (a:A):P:=@lift O λk=>D.W k a
variable (a1:A)
def T0 (U:Int×Int):St:={ n:=22,sl:=[(0,.val (.aa u8) a1.1),(1,.val i64 U.1),(5,.val i64 U.2)],vr:=[],ay:=[] }
def b0 (self:(Int×Int)->P) (e0:Int->P) (a1:A) (U:Int×Int):P:=cond (decide (U.2 < (a1.1.length:Int))) (if 0<=U.2 then ((a1.1[U.2.toNat]?).bind λa7=>cond (!decide ((a7.toNat:Int)=((UInt8.ofInt U.1).toNat:Int))) (some ((-1),()))<|self (af (U.1+1),af (U.2+1))) else none)<|e0 U.1
def q0 (a1:A) (l_:Int):P:=some (l_,())
def r0:(Int×Int)->P:=am (λw v=>b0 w (q0 a1) a1 v) k
theorem aq:@Eq ((Int×Int)->P) (λU=>D.L k [1,0,1,0,0] [0,1,5] [] (ah 0 (aw (D.N k [1,1]) D.K0)) (T0 a1 U)) (r0 k a1):=
 funext λU=>ap _ _ _ (T0 a1) _ (λrec v=>Bye) k U
def p (l0:(Int×Int)->P) (a1:A):P:=l0 (a1.2.1,0)
theorem ae:@Eq P (D.W k a1) (p (r0 k a1) a1):=By8 (aq k a1) Bye
theorem ok:Ok prog 200 D.sig:=al func200 av Bye (ai _)
end mj
namespace rx
abbrev A:=(List Byt)×Int×Unit
abbrev O:=Int×Unit
abbrev P:=Option O
noncomputable def D:FD:={ fn:=f119,tl:=az,ps:=[(.ro,(.aa (.aa u8))),(.ro,i64)],rs:=[(i64,(ak i64))],gl:=[(200,mj.D.sig)],lv:=[(2,[0,1,5])],lx:=[(0,[1])] }
def ab (a:A):P:=@lift O λk=>D.W k a
variable (a1:A)
def T0 (U:Int×Int):St:={ n:=21,sl:=[(0,.val (.aa (.aa u8)) a1.1),(1,.val i64 U.1),(5,.val i64 U.2)],vr:=[],ay:=[] }
def b0 (self:(Int×Int)->P) (e0:Int->P) (a1:A) (U:Int×Int):P:=cond (decide (U.2 < (a1.1.length:Int))) (if 0<=U.2 then ((a1.1[U.2.toNat]?).bind λa7=>(mj.ab (a7,U.1,())).bind λdz=>cond (decide (dz.1 < 0)) (some ((-1),()))<|self (dz.1,af (U.2+1))) else none)<|e0 U.1
def q0 (a1:A) (e8:Int):P:=some (e8,())
def r0:(Int×Int)->P:=am (λw v=>b0 w (q0 a1) a1 v) k
theorem aq:@Eq ((Int×Int)->P) (λU=>D.L k [1,0,1,0,0] [0,1,5] [] (ah 0 (aw (D.N k [1,1]) D.K0)) (T0 a1 U)) (r0 k a1):=
 funext λU=>ap _ _ _ (T0 a1) _ (λrec v=>Bye) k U
def p (l0:(Int×Int)->P) (a1:A):P:=l0 (a1.2.1,0)
theorem ae:@Eq P (D.W k a1) (p (r0 k a1) a1):=By8 (aq k a1) Bye
theorem ok:Ok prog 119 D.sig:=al func119 av Bye (fc mj.ok (ai _))
end rx
namespace sJ
abbrev A:=Log×Int×Unit
abbrev O:=Int×Unit
noncomputable def D:FD:={ fn:=f120,tl:=az,ps:=[(.ro,ey),(.ro,i64)],rs:=[(i64,(ak i64))],gl:=[(200,mj.D.sig)] }
def ab (a:A):Option O:=@lift O λk=>D.W k a
def p (a1:A):Option O:=(mj.ab (a1.1.1,a1.2.1,())).bind λr2=>cond (decide (r2.1 < 0)) (some ((-1),()))<|(mj.ab (a1.1.2.1,r2.1,())).bind λr3=>cond (decide (r3.1 < 0)) (some ((-1),()))<|some (r3.1,())
theorem ae (a1:A):@Eq (Option O) (D.W k a1) (p a1):=Bye
theorem ok:Ok prog 120 D.sig:=al func120 av Bye (fc mj.ok (ai _))
end sJ
namespace qb
abbrev A:=(List Int)×Int×Unit
abbrev O:=Int×Unit
abbrev P:=Option O
noncomputable def D:FD:={ fn:=f63,tl:=az,ps:=[(.ro,(.aa i64)),(.ro,i64)],rs:=[(i64,(ak i64))],lv:=[(2,[0,1,5])],lx:=[(0,[1])] }
def ab (a:A):P:=@lift O λk=>D.W k a
variable (a1:A)
def T0 (U:Int×Int):St:={ n:=21,sl:=[(0,.val (.aa i64) a1.1),(1,.val i64 U.1),(5,.val i64 U.2)],vr:=[],ay:=[] }
def b0 (self:(Int×Int)->P) (e0:Int->P) (a1:A) (U:Int×Int):P:=cond (decide (U.2 < (a1.1.length:Int))) (if 0<=U.2 then ((a1.1[U.2.toNat]?).bind λa7=>cond (!decide (a7=U.1)) (some ((-1),()))<|self (af (U.1+1),af (U.2+1))) else none)<|e0 U.1
def q0 (a1:A) (l_:Int):P:=some (l_,())
def r0:(Int×Int)->P:=am (λw v=>b0 w (q0 a1) a1 v) k
theorem aq:@Eq ((Int×Int)->P) (λU=>D.L k [1,0,1,0,0] [0,1,5] [] (ah 0 (aw (D.N k [1,1]) D.K0)) (T0 a1 U)) (r0 k a1):=
 funext λU=>ap _ _ _ (T0 a1) _ (λrec v=>Bye) k U
def p (l0:(Int×Int)->P) (a1:A):P:=l0 (a1.2.1,0)
theorem ae:@Eq P (D.W k a1) (p (r0 k a1) a1):=By8 (aq k a1) Bye
theorem ok:Ok prog 63 D.sig:=al func63 av Bye (ai _)
end qb
namespace o8
abbrev A:=(List Change)×Int×Unit
abbrev O:=Int×Unit
abbrev P:=Option O
noncomputable def D:FD:={ fn:=f201,tl:=az,ps:=[(.ro,(.aa ao)),(.ro,i64)],rs:=[(i64,(ak i64))],gl:=[(61,fi.D.sig)],lv:=[(2,[0,1,5])],lx:=[(0,[1])],od:=[(16,[0,1,2,3,4,5,6,7,8]),(31,[0,1,2,3,4,5,6,7,8])] }
def ab (a:A):P:=@lift O λk=>D.W k a
variable (a1:A)
def T0 (U:Int×Int):St:={ n:=117,sl:=[(0,.val (.aa ao) a1.1),(1,.val i64 U.1),(5,.val i64 U.2)],vr:=[],ay:=[] }
def b0 (self:(Int×Int)->P) (e0:Int->P) (a1:A) (U:Int×Int):P:=cond (decide (U.2 < (a1.1.length:Int))) (if 0<=U.2 then ((a1.1[U.2.toNat]?).bind λa7=>cond (!(a7.1 == (decide (U.1.tmod (3:Int)=0)))) (some ((-1),()))<|if 0<=U.2 then ((a1.1[U.2.toNat]?).bind λg_=>cond (!decide (g_.2.1.1=af (U.1+1))) (some ((-1),()))<|if 0<=U.2 then ((a1.1[U.2.toNat]?).bind λen=>cond (!decide (en.2.1.2.1=af ((af (U.1+1))+1))) (some ((-1),()))<|if 0<=U.2 then ((a1.1[U.2.toNat]?).bind λtW=>cond (!decide (tW.2.1.2.2.1=af ((af ((af (U.1+1))+1))+1))) (some ((-1),()))<|if 0<=U.2 then ((a1.1[U.2.toNat]?).bind λsX=>(fi.ab (af ((af ((af ((af (U.1+1))+1))+1))+1),())).bind λqv=>cond (!decide (sX.2.1.2.2.2.1=qv.1)) (some ((-1),()))<|if 0<=U.2 then ((a1.1[U.2.toNat]?).bind λyL=>cond (!(yL.2.2.1 == (decide ((af ((af ((af ((af ((af (U.1+1))+1))+1))+1))+1)).tmod (3:Int)=0)))) (some ((-1),()))<|if 0<=U.2 then ((a1.1[U.2.toNat]?).bind λJf=>cond (!decide (Jf.2.2.2.1.1=af ((af ((af ((af ((af ((af (U.1+1))+1))+1))+1))+1))+1))) (some ((-1),()))<|if 0<=U.2 then ((a1.1[U.2.toNat]?).bind λDA=>cond (!decide (DA.2.2.2.1.2.1=af ((af ((af ((af ((af ((af ((af (U.1+1))+1))+1))+1))+1))+1))+1))) (some ((-1),()))<|if 0<=U.2 then ((a1.1[U.2.toNat]?).bind λxK=>cond (!decide (xK.2.2.2.1.2.2.1=af ((af ((af ((af ((af ((af ((af ((af (U.1+1))+1))+1))+1))+1))+1))+1))+1))) (some ((-1),()))<|if 0<=U.2 then ((a1.1[U.2.toNat]?).bind λGH=>(fi.ab (af ((af ((af ((af ((af ((af ((af ((af ((af (U.1+1))+1))+1))+1))+1))+1))+1))+1))+1),())).bind λCp=>cond (!decide (GH.2.2.2.1.2.2.2.1=Cp.1)) (some ((-1),()))<|self (af ((af ((af ((af ((af ((af ((af ((af ((af ((af (U.1+1))+1))+1))+1))+1))+1))+1))+1))+1))+1),af (U.2+1))) else none) else none) else none) else none) else none) else none) else none) else none) else none) else none)<|e0 U.1
def q0 (a1:A) (LS:Int):P:=some (LS,())
def r0:(Int×Int)->P:=am (λw v=>b0 w (q0 a1) a1 v) k
theorem aq:@Eq ((Int×Int)->P) (λU=>D.L k [1,0,1,0,0] [0,1,5] [] (ah 0 (aw (D.N k [1,1]) D.K0)) (T0 a1 U)) (r0 k a1):=
 funext λU=>ap _ _ _ (T0 a1) _ (λrec v=>Bye) k U
def p (l0:(Int×Int)->P) (a1:A):P:=l0 (a1.2.1,0)
theorem ae:@Eq P (D.W k a1) (p (r0 k a1) a1):=By8 (aq k a1) Bye
theorem ok:Ok prog 201 D.sig:=al func201 av Bye (fc fi.ok (ai _))
end o8
namespace rJ
abbrev A:=(List Key)×Int×Unit
abbrev O:=Int×Unit
abbrev P:=Option O
noncomputable def D:FD:={ fn:=f202,tl:=az,ps:=[(.ro,(.aa bc)),(.ro,i64)],rs:=[(i64,(ak i64))],lv:=[(2,[0,1,5])],lx:=[(0,[1])] }
def ab (a:A):P:=@lift O λk=>D.W k a
variable (a1:A)
def T0 (U:Int×Int):St:={ n:=31,sl:=[(0,.val (.aa bc) a1.1),(1,.val i64 U.1),(5,.val i64 U.2)],vr:=[],ay:=[] }
def b0 (self:(Int×Int)->P) (e0:Int->P) (a1:A) (U:Int×Int):P:=cond (decide (U.2 < (a1.1.length:Int))) (if 0<=U.2 then ((a1.1[U.2.toNat]?).bind λa7=>cond (!decide (a7.1=U.1)) (some ((-1),()))<|if 0<=U.2 then ((a1.1[U.2.toNat]?).bind λg_=>cond (!decide (g_.2.1=af (U.1+1))) (some ((-1),()))<|self (af ((af (U.1+1))+1),af (U.2+1))) else none) else none)<|e0 U.1
def q0 (a1:A) (e8:Int):P:=some (e8,())
def r0:(Int×Int)->P:=am (λw v=>b0 w (q0 a1) a1 v) k
theorem aq:@Eq ((Int×Int)->P) (λU=>D.L k [1,0,1,0,0] [0,1,5] [] (ah 0 (aw (D.N k [1,1]) D.K0)) (T0 a1 U)) (r0 k a1):=
 funext λU=>ap _ _ _ (T0 a1) _ (λrec v=>Bye) k U
def p (l0:(Int×Int)->P) (a1:A):P:=l0 (a1.2.1,0)
theorem ae:@Eq P (D.W k a1) (p (r0 k a1) a1):=By8 (aq k a1) Bye
theorem ok:Ok prog 202 D.sig:=al func202 av Bye (ai _)
end rJ
namespace uH
abbrev A:=(List Tx)×Int×Unit
abbrev O:=Int×Unit
abbrev P:=Option O
noncomputable def D:FD:={ fn:=f121,tl:=az,ps:=[(.ro,(.aa bh)),(.ro,i64)],rs:=[(i64,(ak i64))],gl:=[(63,qb.D.sig),(201,o8.D.sig),(202,rJ.D.sig)],lv:=[(2,[0,1,5])],lx:=[(0,[1])] }
def ab (a:A):P:=@lift O λk=>D.W k a
variable (a1:A)
def T0 (U:Int×Int):St:={ n:=49,sl:=[(0,.val (.aa bh) a1.1),(1,.val i64 U.1),(5,.val i64 U.2)],vr:=[],ay:=[] }
def b0 (self:(Int×Int)->P) (e0:Int->P) (a1:A) (U:Int×Int):P:=cond (decide (U.2 < (a1.1.length:Int))) (if 0<=U.2 then ((a1.1[U.2.toNat]?).bind λa7=>cond (!decide (a7.1=U.1)) (some ((-1),()))<|if 0<=U.2 then ((a1.1[U.2.toNat]?).bind λg_=>(o8.ab (g_.2.1,af (U.1+1),())).bind λlj=>cond (decide (lj.1 < 0)) (some ((-1),()))<|if 0<=U.2 then ((a1.1[U.2.toNat]?).bind λtW=>(qb.ab (tW.2.2.1,lj.1,())).bind λky=>cond (decide (ky.1 < 0)) (some ((-1),()))<|if 0<=U.2 then ((a1.1[U.2.toNat]?).bind λyK=>(rJ.ab (yK.2.2.2.1,ky.1,())).bind λwr=>cond (decide (wr.1 < 0)) (some ((-1),()))<|self (wr.1,af (U.2+1))) else none) else none) else none) else none)<|e0 U.1
def q0 (a1:A) (YL:Int):P:=some (YL,())
def r0:(Int×Int)->P:=am (λw v=>b0 w (q0 a1) a1 v) k
theorem aq:@Eq ((Int×Int)->P) (λU=>D.L k [1,0,1,0,0] [0,1,5] [] (ah 0 (aw (D.N k [1,1]) D.K0)) (T0 a1 U)) (r0 k a1):=
 funext λU=>ap _ _ _ (T0 a1) _ (λrec v=>Bye) k U
def p (l0:(Int×Int)->P) (a1:A):P:=l0 (a1.2.1,0)
theorem ae:@Eq P (D.W k a1) (p (r0 k a1) a1):=By8 (aq k a1) Bye
theorem ok:Ok prog 121 D.sig:=al func121 av Bye (fc qb.ok (fc o8.ok (fc rJ.ok (ai _))))
end uH
namespace qF
abbrev A:=ba×Int×Unit
abbrev O:=Int×Unit
noncomputable def D:FD:={ fn:=f58,tl:=az,ps:=[(.ro,bv),(.ro,i64)],rs:=[(i64,(ak i64))],gl:=[(119,rx.D.sig),(120,sJ.D.sig),(121,uH.D.sig)] }
def ab (a:A):Option O:=@lift O λk=>D.W k a
def p (a1:A):Option O:=(rx.ab (a1.1.2.1,a1.2.1,())).bind λr2=>cond (decide (r2.1 < 0)) (some ((-1),()))<|(sJ.ab (a1.1.2.2.1,r2.1,())).bind λr3=>cond (decide (r3.1 < 0)) (some ((-1),()))<|(uH.ab (a1.1.2.2.2.1,r3.1,())).bind λr4=>cond (decide (r4.1 < 0)) (some ((-1),()))<|some (r4.1,())
theorem ae (a1:A):@Eq (Option O) (D.W k a1) (p a1):=Bye
theorem ok:Ok prog 58 D.sig:=al func58 av Bye (fc rx.ok (fc sJ.ok (fc uH.ok (ai _))))
end qF
namespace ly
abbrev A:=mn×Int×Unit
abbrev O:=Int×Unit
noncomputable def D:FD:={ fn:=f17,tl:=az,ps:=[(.ro,ff),(.ro,i64)],rs:=[(i64,(ak i64))],gl:=[(58,qF.D.sig)] }
def ab (a:A):Option O:=@lift O λk=>D.W k a
def p (a1:A):Option O:=(qF.ab (a1.1.2.2.1,a1.2.1,())).bind λr2=>cond (decide (r2.1 < 0)) (some ((-1),()))<|some (r2.1,())
theorem ae (a1:A):@Eq (Option O) (D.W k a1) (p a1):=Bye
theorem ok:Ok prog 17 D.sig:=al func17 av Bye (fc qF.ok (ai _))
end ly
namespace gy
abbrev A:=ba×Op×Unit
abbrev O:=Bool×Unit
abbrev ps:PQ:=[(.ro,bv),(.ro,oY)]
noncomputable def D:FD:={ fn:=f3,tl:=az,ps:=ps,rs:=[(.bool,(ak .bool))],gl:=[(7,qT.D.sig),(8,uP.D.sig),(9,pR.D.sig),(10,oO.D.sig),(11,tG.D.sig),(12,kH.D.sig),(13,lw.D.sig),(14,oQ.D.sig),(15,km.D.sig),(16,mQ.D.sig),(17,ly.D.sig)],fz:=[(8,0,7),(27,0,7)],od:=[(8,[0,2,1,3,4,5,6]),(10,[0,1,2,3,4,5]),(13,[0,1,2,3,4]),(27,[0,2,1,3,4,5,6])],ar:=[(8,[2]),(10,[1]),(27,[2])],bx:=[(8,[3])],pd:=[(8,[5]),(10,[4]),(27,[5])],er:=[(8,[(0,7)]),(10,[(0,6)]),(27,[(0,7)])] }
def ab (a:A):Option O:=@lift O λk=>D.W k a
def p (a1:A):Option O:=(qT.ab (a1.1,1048576,())).bind λr2=>cond (decide (r2.1 < 0)) (some (true,()))<|(uP.ab (a1.2.1,r2.1,())).bind λr3=>cond (decide (r3.1 < 0)) (some (true,()))<|(oO.ab (a1.1,())).bind λr4=>(tG.ab (a1.2.1,())).bind λr5=>(pR.ab (r4.1,r5.1,())).bind λr6=>(oO.ab (a1.1,())).bind λr7=>(tG.ab (a1.2.1,())).bind λr8=>(kH.ab (r7.1,r8.1,())).bind λr9=>(lw.ab (r9.1,r6.1,())).bind λsf=>cond (!sf.1) (some (false,()))<|(oO.ab (a1.1,())).bind λnu=>(oQ.ab (r7.1,nu.1,())).bind λru=>cond (!ru.1) (some (false,()))<|(km.ab (r7.1,1,())).bind λzs=>cond (decide (zs.1 < 0)) (some (false,()))<|(lw.ab (r9.1,r6.1,())).bind λuF=>cond (!uF.1) (some (false,()))<|(mQ.ab (r9.1,1,())).bind λxt=>(ly.ab (xt.2.1,1,())).bind λzr=>cond (decide (zr.1 < 0)) (some (false,()))<|cond (!decide (zr.1=xt.1)) (some (false,()))<|(oO.ab (a1.1,())).bind λA6=>(tG.ab (a1.2.1,())).bind λD4=>(kH.ab (A6.1,D4.1,())).bind λWX=>(lw.ab (WX.1,r6.1,())).bind λW3=>cond (!W3.1) (some (false,()))<|(ly.ab (xt.2.1,1,())).bind λCm=>cond (decide (Cm.1 < 0)) (some (false,()))<|cond (!decide (Cm.1=xt.1)) (some (false,()))<|some (true,())
theorem ae (a1:A):@Eq (Option O) (D.W k a1) (p a1):=Bye
theorem ok:Ok prog 3 D.sig:=al func3 av Bye (fc qT.ok (fc uP.ok (fc pR.ok (fc oO.ok (fc tG.ok (fc kH.ok (fc lw.ok (fc oQ.ok (fc km.ok (fc mQ.ok (fc ly.ok (ai _))))))))))))
end gy
end
end OT
set_option linter.unusedSimpArgs false
namespace OT
open Go
noncomputable def HY (n:Int):List UInt8:=((fi.ab (n,())).map (·.1)).getD []
theorem xu (n:Int) (h:n<=9223372036854775807):fi.ab (n,())=some (HY n,()):=by
 have main:∃ t,fi.ab (n,())=some (t,()):=by
  by_cases hn:n<=0
  ·refine ⟨[109,48],ag (k:=0) λk _=>(fi.ae k _).trans ?_⟩
   grind [fi.p]
  ·have key:∀ (f:Nat) (m:Int) (out:List UInt8),0<=m->m<=9223372036854775807->m < 10 ^ f->out.length+f<=100->∃ t,t.length<=100/\∀ k,f < k->am (λself v=>fi.B0 0 self (λz=>fi.Q0 0 (n,()) z) (n,()) v) k (m,out)=some (109::t,()):=by
    intro f
    induction f with
    | zero=>
     intro m out h0 h9 h1 h2;have hm:m=0:=by grind
     subst hm;refine ⟨out,by omega,λk hk=>?_⟩
     cases k <;> grind [Cl,fi.b0,fi.q0,ct]
    | succ f ih=>
     intro m out h0 h9 h1 h2;by_cases hm:0 < m
     ·have hq0:0<=m.tdiv 10:=Int.tdiv_nonneg h0 Bys
      have hq:m.tdiv 10 < 10 ^ f:=by
       grind
      have hd:=Int.emod_nonneg m (b:=10) Bys;have hd2:=Int.emod_lt_of_pos m (b:=10) Bys;obtain ⟨t,t1,t2⟩:=ih (m.tdiv 10) ([UInt8.ofInt (af (48+m.tmod 10))]++out) hq0 (by grind) hq (by simp;omega);refine ⟨t,t1,λk hk=>?_⟩
      cases k <;> grind [Cl,fi.b0,be,ct]
     ·have hm:m=0:=by omega
      subst hm;refine ⟨out,by omega,λk hk=>?_⟩
      cases k <;> grind [Cl,fi.b0,fi.q0,ct]
   obtain ⟨t,t1,t2⟩:=key 19 n [] Bys h Bys (by simp);refine ⟨109::t,ag (k:=20) λk hk=>(fi.ae k _).trans ?_⟩
   unfold fi.p;simp only[hn,aG,aE];exact t2 k Bys
 grind [HY]
theorem EX (x:List UInt8) (n:Int) (hx:ui (.aa u8) x) (h0:0<=n) (h1:n<=1048576):nJ.ab (x,n,())=some (mV n (zz (.aa u8) x),()):=YC (e:=u8) (λ_=>rfl) (λx n k=>nJ.ae k (x,n,())) x n hx h0 h1
theorem Rb (x:List (List UInt8)) (n:Int) (hx:ui (.aa (.aa u8)) x) (h0:0<=n) (h1:n<=1048576):s7.ab (x,n,())=some (mV n (zz (.aa (.aa u8)) x),()):=szG (e:=(.aa u8)) (f:=λa n=>nJ.ab (a,n,())) (λx n k=>s7.ae k (x,n,())) EX x n hx h0 h1
theorem YU (x:Log) (n:Int) (hx:ui ey x) (h0:0<=n) (h1:n<=1048576):tu.ab (x,n,())=some (mV n (zz ey x),()):=by
 have hz:zz ey x=(zz (.aa u8) x.1+(zz (.aa u8) x.2.1+0)):=rfl;refine ag (k:=0) λk _=>(tu.ae k _).trans ?_;show tu.p _=_;unfold tu.p;simp only[EX x.1 (n) hx.1 Bys Bys,aA];by_cases hc:((zz (.aa u8) x.1:Nat):Int)<=n;rotate_left
 ·grind [mV]
 have e1:mV (n) (zz (.aa u8) x.1)=n - ((zz (.aa u8) x.1:Nat):Int):=aM hc;have n1:¬ (n - ((zz (.aa u8) x.1:Nat):Int) < 0):=by omega
 simp only[e1,n1,aG,aE];clear e1 n1;simp only[EX x.2.1 ((n - ((zz (.aa u8) x.1:Nat):Int))) hx.2.1 Bys Bys,aA];grind [mV]
theorem Jh (x:Row) (n:Int) (hx:ui aT x) (h0:0<=n) (h1:n<=1048576):oS.ab (x,n,())=some (mV n (zz aT x),()):=by
 have hz:zz aT x=(0+(0+(0+(List.length x.2.2.2.1+0)))):=rfl;refine ag (k:=0) λk _=>(oS.ae k _).trans ?_;show oS.p _=_;unfold oS.p;have hw:af (n - (List.length x.2.2.2.1:Int))=n - (List.length x.2.2.2.1:Int):=be (by have h9:=hx.2.2.2.1;grind [ui,an]);grind [mV]
theorem Rc (x:Change) (n:Int) (hx:ui ao x) (h0:0<=n) (h1:n<=1048576):oT.ab (x,n,())=some (mV n (zz ao x),()):=by
 have hz:zz ao x=(0+((0+(0+(0+(List.length x.2.1.2.2.2.1+0))))+(0+((0+(0+(0+(List.length x.2.2.2.1.2.2.2.1+0))))+0)))):=rfl;refine ag (k:=0) λk _=>(oT.ae k _).trans ?_;show oT.p _=_;unfold oT.p;have DX:zz aT x.2.1=(0+(0+(0+(List.length x.2.1.2.2.2.1+0)))):=rfl;simp only[Jh x.2.1 (n) hx.2.1 Bys Bys,aA];by_cases hc:((zz aT x.2.1:Nat):Int)<=n;rotate_left
 ·grind [mV]
 have e1:mV (n) (zz aT x.2.1)=n - ((zz aT x.2.1:Nat):Int):=aM hc;have n1:¬ (n - ((zz aT x.2.1:Nat):Int) < 0):=by omega
 simp only[e1,n1,aG,aE];clear e1 n1;have hz3:zz aT x.2.2.2.1=(0+(0+(0+(List.length x.2.2.2.1.2.2.2.1+0)))):=rfl;simp only[Jh x.2.2.2.1 ((n - ((zz aT x.2.1:Nat):Int))) hx.2.2.2.1 Bys Bys,aA];grind [mV]
theorem Pp (x:List Change) (n:Int) (hx:ui (.aa ao) x) (h0:0<=n) (h1:n<=1048576):sq.ab (x,n,())=some (mV n (zz (.aa ao) x),()):=szG (e:=ao) (f:=λa n=>oT.ab (a,n,())) (λx n k=>sq.ae k (x,n,())) Rc x n hx h0 h1
theorem Rd (x:List Int) (n:Int) (hx:ui (.aa i64) x) (h0:0<=n) (h1:n<=1048576):s8.ab (x,n,())=some (mV n (zz (.aa i64) x),()):=YC (e:=i64) (λ_=>rfl) (λx n k=>s8.ae k (x,n,())) x n hx h0 h1
theorem W5 (x:List Key) (n:Int) (hx:ui (.aa bc) x) (h0:0<=n) (h1:n<=1048576):vM.ab (x,n,())=some (mV n (zz (.aa bc) x),()):=YC (e:=bc) (λ_=>rfl) (λx n k=>vM.ae k (x,n,())) x n hx h0 h1
theorem aa2 (x:Tx) (n:Int) (hx:ui bh x) (h0:0<=n) (h1:n<=1048576):tw.ab (x,n,())=some (mV n (zz bh x),()):=by
 have hz:zz bh x=(0+(zz (.aa ao) x.2.1+(zz (.aa i64) x.2.2.1+(zz (.aa bc) x.2.2.2.1+0)))):=rfl;refine ag (k:=0) λk _=>(tw.ae k _).trans ?_;show tw.p _=_;unfold tw.p;simp only[Pp x.2.1 (n) hx.2.1 Bys Bys,aA];by_cases hc:((zz (.aa ao) x.2.1:Nat):Int)<=n;rotate_left
 ·grind [mV]
 have e1:mV (n) (zz (.aa ao) x.2.1)=n - ((zz (.aa ao) x.2.1:Nat):Int):=aM hc;have n1:¬ (n - ((zz (.aa ao) x.2.1:Nat):Int) < 0):=by omega
 simp only[e1,n1,aG,aE];clear e1 n1;simp only[Rd x.2.2.1 ((n - ((zz (.aa ao) x.2.1:Nat):Int))) hx.2.2.1 Bys Bys,aA]
 by_cases hc:((zz (.aa i64) x.2.2.1:Nat):Int)<=(n - ((zz (.aa ao) x.2.1:Nat):Int))
 rotate_left
 ·grind [mV]
 have e1:mV ((n - ((zz (.aa ao) x.2.1:Nat):Int))) (zz (.aa i64) x.2.2.1)=(n - ((zz (.aa ao) x.2.1:Nat):Int)) - ((zz (.aa i64) x.2.2.1:Nat):Int):=aM hc;have n1:¬ ((n - ((zz (.aa ao) x.2.1:Nat):Int)) - ((zz (.aa i64) x.2.2.1:Nat):Int) < 0):=by omega
 simp only[e1,n1,aG,aE];clear e1 n1;simp only[W5 x.2.2.2.1 (((n - ((zz (.aa ao) x.2.1:Nat):Int)) - ((zz (.aa i64) x.2.2.1:Nat):Int))) hx.2.2.2.1 Bys Bys,aA];grind [mV]
theorem YV (x:List Tx) (n:Int) (hx:ui (.aa bh) x) (h0:0<=n) (h1:n<=1048576):wL.ab (x,n,())=some (mV n (zz (.aa bh) x),()):=szG (e:=bh) (f:=λa n=>tw.ab (a,n,())) (λx n k=>wL.ae k (x,n,())) aa2 x n hx h0 h1
theorem UT (x:ba) (n:Int) (hx:ui bv x) (h0:0<=n) (h1:n<=1048576):qT.ab (x,n,())=some (mV n (zz bv x),()):=by
 have hz:zz bv x=(0+(zz (.aa (.aa u8)) x.2.1+((zz (.aa u8) x.2.2.1.1+(zz (.aa u8) x.2.2.1.2.1+0))+(zz (.aa bh) x.2.2.2.1+(0+0))))):=rfl;refine ag (k:=0) λk _=>(qT.ae k _).trans ?_;show qT.p _=_;unfold qT.p;simp only[Rb x.2.1 (n) hx.2.1 Bys Bys,aA];by_cases hc:((zz (.aa (.aa u8)) x.2.1:Nat):Int)<=n;rotate_left
 ·grind [mV]
 have e1:mV (n) (zz (.aa (.aa u8)) x.2.1)=n - ((zz (.aa (.aa u8)) x.2.1:Nat):Int):=aM hc;have n1:¬ (n - ((zz (.aa (.aa u8)) x.2.1:Nat):Int) < 0):=by omega
 simp only[e1,n1,aG,aE];clear e1 n1;have Ak:zz ey x.2.2.1=(zz (.aa u8) x.2.2.1.1+(zz (.aa u8) x.2.2.1.2.1+0)):=rfl;simp only[YU x.2.2.1 ((n - ((zz (.aa (.aa u8)) x.2.1:Nat):Int))) hx.2.2.1 Bys Bys,aA]
 by_cases hc:((zz ey x.2.2.1:Nat):Int)<=(n - ((zz (.aa (.aa u8)) x.2.1:Nat):Int))
 rotate_left
 ·grind [mV]
 have e1:mV ((n - ((zz (.aa (.aa u8)) x.2.1:Nat):Int))) (zz ey x.2.2.1)=(n - ((zz (.aa (.aa u8)) x.2.1:Nat):Int)) - ((zz ey x.2.2.1:Nat):Int):=aM hc;have n1:¬ ((n - ((zz (.aa (.aa u8)) x.2.1:Nat):Int)) - ((zz ey x.2.2.1:Nat):Int) < 0):=by omega
 simp only[e1,n1,aG,aE];clear e1 n1;simp only[YV x.2.2.2.1 (((n - ((zz (.aa (.aa u8)) x.2.1:Nat):Int)) - ((zz ey x.2.2.1:Nat):Int))) hx.2.2.2.1 Bys Bys,aA];grind [mV]
theorem aa3 (x:Op) (n:Int) (hx:ui oY x) (h0:0<=n) (h1:n<=1048576):uP.ab (x,n,())=some (mV n (zz oY x),()):=by
 have hz:zz oY x=(0+(0+((0+(0+(0+(List.length x.2.2.1.2.2.2.1+0))))+(0+0)))):=rfl;refine ag (k:=0) λk _=>(uP.ae k _).trans ?_;show uP.p _=_;unfold uP.p;have Ak:zz aT x.2.2.1=(0+(0+(0+(List.length x.2.2.1.2.2.2.1+0)))):=rfl;simp only[Jh x.2.2.1 (n) hx.2.2.1 Bys Bys,aA];grind [mV]
theorem Ku (x:List UInt8) (h:zz (.aa u8) x<=1048576):nN.ab (x,())=some (x,()):=SK (e:=u8) (f:=λa=>some (a,())) (λx k=>nN.ae k (x,())) (λ_ _=>rfl) x h
theorem Re (x:List (List UInt8)) (h:zz (.aa (.aa u8)) x<=1048576):s9.ab (x,())=some (x,()):=SK (e:=(.aa u8)) (f:=λa=>nN.ab (a,())) (λx k=>s9.ae k (x,())) Ku x h
theorem YW (x:Log) (h:zz ey x<=1048576):vd.ab (x,())=some (x,()):=by
 have hz:zz ey x=(zz (.aa u8) x.1+(zz (.aa u8) x.2.1+0)):=rfl;refine ag (k:=0) λk _=>(vd.ae k _).trans ?_;grind [vd.p,Ku]
theorem Pq (x:Row) (h:zz aT x<=1048576):pT.ab (x,())=some (x,()):=by
 have hz:zz aT x=(0+(0+(0+(List.length x.2.2.2.1+0)))):=rfl;refine ag (k:=0) λk _=>(pT.ae k _).trans ?_;grind [pT.p]
theorem Rf (x:Change) (h:zz ao x<=1048576):qo.ab (x,())=some (x,()):=by
 have hz:zz ao x=(0+((0+(0+(0+(List.length x.2.1.2.2.2.1+0))))+(0+((0+(0+(0+(List.length x.2.2.2.1.2.2.2.1+0))))+0)))):=rfl;have DX:zz aT x.2.1=(0+(0+(0+(List.length x.2.1.2.2.2.1+0)))):=rfl;have hz3:zz aT x.2.2.2.1=(0+(0+(0+(List.length x.2.2.2.1.2.2.2.1+0)))):=rfl;refine ag (k:=0) λk _=>(qo.ae k _).trans ?_;grind [qo.p,Pq]
theorem Pr (x:List Change) (h:zz (.aa ao) x<=1048576):sr.ab (x,())=some (x,()):=SK (e:=ao) (f:=λa=>qo.ab (a,())) (λx k=>sr.ae k (x,())) Rf x h
theorem Rg (x:List Int) (h:zz (.aa i64) x<=1048576):s_.ab (x,())=some (x,()):=SK (e:=i64) (f:=λa=>some (a,())) (λx k=>s_.ae k (x,())) (λ_ _=>rfl) x h
theorem YX (x:Key) (h:zz bc x<=1048576):tF.ab (x,())=some (x,()):=by
 have hz:zz bc x=(0+(0+0)):=rfl;refine ag (k:=0) λk _=>(tF.ae k _).trans ?_;grind [tF.p]
theorem W6 (x:List Key) (h:zz (.aa bc) x<=1048576):vN.ab (x,())=some (x,()):=SK (e:=bc) (f:=λa=>tF.ab (a,())) (λx k=>vN.ae k (x,())) YX x h
theorem aa4 (x:Tx) (h:zz bh x<=1048576):uQ.ab (x,())=some (x,()):=by
 have hz:zz bh x=(0+(zz (.aa ao) x.2.1+(zz (.aa i64) x.2.2.1+(zz (.aa bc) x.2.2.2.1+0)))):=rfl;refine ag (k:=0) λk _=>(uQ.ae k _).trans ?_;grind [uQ.p,Pr,Rg,W6]
theorem YY (x:List Tx) (h:zz (.aa bh) x<=1048576):wP.ab (x,())=some (x,()):=SK (e:=bh) (f:=λa=>uQ.ab (a,())) (λx k=>wP.ae k (x,())) aa4 x h
theorem UU (x:ba) (h:zz bv x<=1048576):oO.ab (x,())=some (x,()):=by
 have hz:zz bv x=(0+(zz (.aa (.aa u8)) x.2.1+((zz (.aa u8) x.2.2.1.1+(zz (.aa u8) x.2.2.1.2.1+0))+(zz (.aa bh) x.2.2.2.1+(0+0))))):=rfl;have Ak:zz ey x.2.2.1=(zz (.aa u8) x.2.2.1.1+(zz (.aa u8) x.2.2.1.2.1+0)):=rfl;refine ag (k:=0) λk _=>(oO.ae k _).trans ?_;grind [oO.p,Re,YW,YY]
theorem aa5 (x:Op) (h:zz oY x<=1048576):tG.ab (x,())=some (x,()):=by
 have hz:zz oY x=(0+(0+((0+(0+(0+(List.length x.2.2.1.2.2.2.1+0))))+(0+0)))):=rfl;have Ak:zz aT x.2.2.1=(0+(0+(0+(List.length x.2.2.1.2.2.2.1+0)))):=rfl;refine ag (k:=0) λk _=>(tG.ae k _).trans ?_;grind [tG.p,Pq]
theorem GK (x:List UInt8) (h:zz (.aa u8) x<=4611686018427387904):nR.ab (x,x,())=some (true,()):=SL (e:=u8) (f:=λ(a b:UInt8)=>some (decide ((a.toNat:Int)=(b.toNat:Int)),())) (λx k=>nR.ae k (x,x,())) (λa _=>by simp) x h
theorem Nv (x:List (List UInt8)) (h:zz (.aa (.aa u8)) x<=4611686018427387904):ta.ab (x,x,())=some (true,()):=SL (e:=(.aa u8)) (f:=λ(a b:List UInt8)=>nR.ab (a,b,())) (λx k=>ta.ae k (x,x,())) GK x h
theorem UV (x:Log) (h:zz ey x<=4611686018427387904):vf.ab (x,x,())=some (true,()):=by
 have hz:zz ey x=(zz (.aa u8) x.1+(zz (.aa u8) x.2.1+0)):=rfl;refine ag (k:=0) λk _=>(vf.ae k _).trans ?_;grind [vf.p,GK]
theorem Nw (x:List Int) (h:zz (.aa i64) x<=4611686018427387904):tc.ab (x,x,())=some (true,()):=SL (e:=i64) (f:=λ(a b:Int)=>some (decide (a=b),())) (λx k=>tc.ae k (x,x,())) (λa _=>by simp) x h
theorem UW (x:Row) (h:zz aT x<=4611686018427387904):tJ.ab (x,x,())=some (true,()):=by
 have hz:zz aT x=(0+(0+(0+(List.length x.2.2.2.1+0)))):=rfl;refine ag (k:=0) λk _=>(tJ.ae k _).trans ?_;grind [tJ.p]
theorem Ny (x:Change) (h:zz ao x<=4611686018427387904):qt.ab (x,x,())=some (true,()):=by
 have hz:zz ao x=(0+((0+(0+(0+(List.length x.2.1.2.2.2.1+0))))+(0+((0+(0+(0+(List.length x.2.2.2.1.2.2.2.1+0))))+0)))):=rfl;have DX:zz aT x.2.1=(0+(0+(0+(List.length x.2.1.2.2.2.1+0)))):=rfl;have hz3:zz aT x.2.2.2.1=(0+(0+(0+(List.length x.2.2.2.1.2.2.2.1+0)))):=rfl;refine ag (k:=0) λk _=>(qt.ae k _).trans ?_;grind [qt.p,UW]
theorem LU (x:List Change) (h:zz (.aa ao) x<=4611686018427387904):st.ab (x,x,())=some (true,()):=SL (e:=ao) (f:=λ(a b:Change)=>qt.ab (a,b,())) (λx k=>st.ae k (x,x,())) Ny x h
theorem UX (x:Key) (h:zz bc x<=4611686018427387904):tK.ab (x,x,())=some (true,()):=by
 have hz:zz bc x=(0+(0+0)):=rfl;refine ag (k:=0) λk _=>(tK.ae k _).trans ?_;grind [tK.p]
theorem Rh (x:List Key) (h:zz (.aa bc) x<=4611686018427387904):vP.ab (x,x,())=some (true,()):=SL (e:=bc) (f:=λ(a b:Key)=>tK.ab (a,b,())) (λx k=>vP.ae k (x,x,())) UX x h
theorem W7 (x:Tx) (h:zz bh x<=4611686018427387904):uS.ab (x,x,())=some (true,()):=by
 have hz:zz bh x=(0+(zz (.aa ao) x.2.1+(zz (.aa i64) x.2.2.1+(zz (.aa bc) x.2.2.2.1+0)))):=rfl;refine ag (k:=0) λk _=>(uS.ae k _).trans ?_;grind [uS.p,LU,Nw,Rh]
theorem UY (x:List Tx) (h:zz (.aa bh) x<=4611686018427387904):wR.ab (x,x,())=some (true,()):=SL (e:=bh) (f:=λ(a b:Tx)=>uS.ab (a,b,())) (λx k=>wR.ae k (x,x,())) W7 x h
theorem GN (x:ba) (h:zz bv x<=4611686018427387904):oQ.ab (x,x,())=some (true,()):=by
 have hz:zz bv x=(0+(zz (.aa (.aa u8)) x.2.1+((zz (.aa u8) x.2.2.1.1+(zz (.aa u8) x.2.2.1.2.1+0))+(zz (.aa bh) x.2.2.2.1+(0+0))))):=rfl;have Ak:zz ey x.2.2.1=(zz (.aa u8) x.2.2.1.1+(zz (.aa u8) x.2.2.1.2.1+0)):=rfl;refine ag (k:=0) λk _=>(oQ.ae k _).trans ?_;grind [oQ.p,Nv,UV,UY]
theorem GO (x:mn) (h:zz ff x<=4611686018427387904):lw.ab (x,x,())=some (true,()):=by
 have hz:zz ff x=(0+(0+((0+(zz (.aa (.aa u8)) x.2.2.1.2.1+((zz (.aa u8) x.2.2.1.2.2.1.1+(zz (.aa u8) x.2.2.1.2.2.1.2.1+0))+(zz (.aa bh) x.2.2.1.2.2.2.1+(0+0)))))+0))):=rfl;have Ak:zz bv x.2.2.1=(0+(zz (.aa (.aa u8)) x.2.2.1.2.1+((zz (.aa u8) x.2.2.1.2.2.1.1+(zz (.aa u8) x.2.2.1.2.2.1.2.1+0))+(zz (.aa bh) x.2.2.1.2.2.2.1+(0+0))))):=rfl;refine ag (k:=0) λk _=>(lw.ae k _).trans ?_;grind [lw.p,GN]
def acm (x:UInt8) (k:Int) (y:UInt8) (k':Int):Prop:=y=(UInt8.ofInt (k))/\k+1=k'
theorem LV (x:List UInt8) (k:Int) (h0:0<=k) (h1:k+32*((zz (.aa u8) x:Nat):Int)<=mW):∃ (k':Int) (y:List UInt8),jE.ab (x,k,())=some (k',y,())/\k<=k'/\k'<=k+32*((zz (.aa u8) x:Nat):Int):=by
 have hB:mW=4611686018427387904:=rfl
 exact SM (α:=UInt8) (zz u8) acm (λx k f=>jE.ae f (x,k,())) (λ(x:UInt8) k h0 h1=>by
   exact ⟨_,_,by omega,by omega,⟨rfl,rfl⟩⟩) (λi (acc:List (UInt8)) k self (x y:UInt8) k' hi hx h0 h1 h2 h3 hE a8=>by
   obtain ⟨rfl,rfl⟩:=hE
   grind [be]) x k h0 h1
def aa6 (x:List UInt8) (k:Int) (y:List UInt8) (k':Int):Prop:=∃ (r1:Int) (y1:List UInt8),jE.ab (x,k,())=some (r1,y1,())/\k<=r1/\r1<=k+32*((zz (.aa u8) x:Nat):Int)/\y=y1/\r1=k'
theorem YZ (x:List (List UInt8)) (k:Int) (h0:0<=k) (h1:k+32*((zz (.aa (.aa u8)) x:Nat):Int)<=mW):∃ (k':Int) (y:List (List UInt8)),oK.ab (x,k,())=some (k',y,())/\k<=k'/\k'<=k+32*((zz (.aa (.aa u8)) x:Nat):Int):=by
 have hB:mW=4611686018427387904:=rfl
 exact SM (α:=List UInt8) (zz (.aa u8)) aa6 (λx k f=>oK.ae f (x,k,())) (λ(x:List UInt8) k h0 h1=>by
   obtain ⟨r1,y1,e1,g1,i1⟩:=LV x (k) Bys Bys
   exact ⟨_,_,by omega,by omega,⟨r1,y1,e1,g1,i1,rfl,rfl⟩⟩) (λi (acc:List (List UInt8)) k self (x y:List UInt8) k' hi hx h0 h1 h2 h3 hE a8=>by
   obtain ⟨r1,y1,e1,g1,i1,rfl,rfl⟩:=hE
   grind) x k h0 h1
theorem adq (x:Log) (k:Int) (h0:0<=k) (h1:k+32*((zz ey x:Nat):Int)<=mW):∃ (k':Int) (y:Log),oR.ab (x,k,())=some (k',y,())/\k<=k'/\k'<=k+32*((zz ey x:Nat):Int):=by
 have hB:mW=4611686018427387904:=rfl;have hz:zz ey x=(zz (.aa u8) x.1+(zz (.aa u8) x.2.1+0)):=rfl;obtain ⟨k1,y1,e1,g1,i1⟩:=LV x.1 k Bys Bys;obtain ⟨k2,y2,e2,g2,i2⟩:=LV x.2.1 k1 Bys Bys;refine ⟨k2,(y1,y2,x.2.2),ag (k:=0) λf _=>(oR.ae f _).trans ?_,by omega,by omega⟩
 grind [oR.p]
def aa7 (x:Int) (k:Int) (y:Int) (k':Int):Prop:=y=(k)/\k+1=k'
theorem Y0 (x:List Int) (k:Int) (h0:0<=k) (h1:k+32*((zz (.aa i64) x:Nat):Int)<=mW):∃ (k':Int) (y:List Int),mw.ab (x,k,())=some (k',y,())/\k<=k'/\k'<=k+32*((zz (.aa i64) x:Nat):Int):=by
 have hB:mW=4611686018427387904:=rfl
 exact SM (α:=Int) (zz i64) aa7 (λx k f=>mw.ae f (x,k,())) (λ(x:Int) k h0 h1=>by
   exact ⟨_,_,by omega,by omega,⟨rfl,rfl⟩⟩) (λi (acc:List (Int)) k self (x y:Int) k' hi hx h0 h1 h2 h3 hE a8=>by
   obtain ⟨rfl,rfl⟩:=hE
   grind [be]) x k h0 h1
def Y1 (x:Change) (k:Int) (y:Change) (k':Int):Prop:=y=((decide ((k).tmod (3:Int)=(0:Int))),((k+1),(k+1+1),(k+1+1+1),(HY (k+1+1+1+1)),x.2.1.2.2.2.2),(decide ((k+1+1+1+1+1).tmod (3:Int)=(0:Int))),((k+1+1+1+1+1+1),(k+1+1+1+1+1+1+1),(k+1+1+1+1+1+1+1+1),(HY (k+1+1+1+1+1+1+1+1+1)),x.2.2.2.1.2.2.2.2),x.2.2.2.2)/\k+1+1+1+1+1+1+1+1+1+1=k'
theorem W8 (x:List Change) (k:Int) (h0:0<=k) (h1:k+32*((zz (.aa ao) x:Nat):Int)<=mW):∃ (k':Int) (y:List Change),lJ.ab (x,k,())=some (k',y,())/\k<=k'/\k'<=k+32*((zz (.aa ao) x:Nat):Int):=by
 have hB:mW=4611686018427387904:=rfl
 exact SM (α:=Change) (zz ao) Y1 (λx k f=>lJ.ae f (x,k,())) (λ(x:Change) k h0 h1=>by
   have hz:zz ao x=(0+((0+(0+(0+(List.length x.2.1.2.2.2.1+0))))+(0+((0+(0+(0+(List.length x.2.2.2.1.2.2.2.1+0))))+0)))):=rfl
   exact ⟨_,_,by omega,by omega,⟨rfl,rfl⟩⟩) (λi (acc:List (Change)) k self (x y:Change) k' hi hx h0 h1 h2 h3 hE a8=>by
   have hz:zz ao x=(0+((0+(0+(0+(List.length x.2.1.2.2.2.1+0))))+(0+((0+(0+(0+(List.length x.2.2.2.1.2.2.2.1+0))))+0)))):=rfl;obtain ⟨rfl,rfl⟩:=hE
   simp (disch:=omega) only [a8,aJ,aO,aK,bS,aH,aC,hx,aA,bB,yH,fR,be,xu]) x k h0 h1
def adr (x:Key) (k:Int) (y:Key) (k':Int):Prop:=y=((k),(k+1),x.2.2)/\k+1+1=k'
theorem acn (x:List Key) (k:Int) (h0:0<=k) (h1:k+32*((zz (.aa bc) x:Nat):Int)<=mW):∃ (k':Int) (y:List Key),og.ab (x,k,())=some (k',y,())/\k<=k'/\k'<=k+32*((zz (.aa bc) x:Nat):Int):=by
 have hB:mW=4611686018427387904:=rfl
 exact SM (α:=Key) (zz bc) adr (λx k f=>og.ae f (x,k,())) (λ(x:Key) k h0 h1=>by
   have hz:zz bc x=(0+(0+0)):=rfl
   exact ⟨_,_,by omega,by omega,⟨rfl,rfl⟩⟩) (λi (acc:List (Key)) k self (x y:Key) k' hi hx h0 h1 h2 h3 hE a8=>by
   have hz:zz bc x=(0+(0+0)):=rfl;obtain ⟨rfl,rfl⟩:=hE
   grind [List.set_set,be]) x k h0 h1
def aeg (x:Tx) (k:Int) (y:Tx) (k':Int):Prop:=∃ (r1:Int) (y1:List Change),∃ (r2:Int) (y2:List Int),∃ (r3:Int) (y3:List Key),lJ.ab (x.2.1,k+1,())=some (r1,y1,())/\k+1<=r1/\r1<=k+1+32*((zz (.aa ao) x.2.1:Nat):Int)/\mw.ab (x.2.2.1,r1,())=some (r2,y2,())/\r1<=r2/\r2<=r1+32*((zz (.aa i64) x.2.2.1:Nat):Int)/\og.ab (x.2.2.2.1,r2,())=some (r3,y3,())/\r2<=r3/\r3<=r2+32*((zz (.aa bc) x.2.2.2.1:Nat):Int)/\y=((k),y1,y2,y3,x.2.2.2.2)/\r3=k'
theorem ads (x:List Tx) (k:Int) (h0:0<=k) (h1:k+32*((zz (.aa bh) x:Nat):Int)<=mW):∃ (k':Int) (y:List Tx),rf.ab (x,k,())=some (k',y,())/\k<=k'/\k'<=k+32*((zz (.aa bh) x:Nat):Int):=by
 have hB:mW=4611686018427387904:=rfl
 exact SM (α:=Tx) (zz bh) aeg (λx k f=>rf.ae f (x,k,())) (λ(x:Tx) k h0 h1=>by
   have hz:zz bh x=(0+(zz (.aa ao) x.2.1+(zz (.aa i64) x.2.2.1+(zz (.aa bc) x.2.2.2.1+0)))):=rfl;obtain ⟨r1,y1,e1,g1,i1⟩:=W8 x.2.1 (k+1) Bys Bys;obtain ⟨r2,y2,e2,g2,i2⟩:=Y0 x.2.2.1 (r1) Bys Bys;obtain ⟨r3,y3,e3,g3,i3⟩:=acn x.2.2.2.1 (r2) Bys Bys
   exact ⟨_,_,by omega,by omega,⟨r1,y1,r2,y2,r3,y3,e1,g1,i1,e2,g2,i2,e3,g3,i3,rfl,rfl⟩⟩) (λi (acc:List (Tx)) k self (x y:Tx) k' hi hx h0 h1 h2 h3 hE a8=>by
   have hz:zz bh x=(0+(zz (.aa ao) x.2.1+(zz (.aa i64) x.2.2.1+(zz (.aa bc) x.2.2.2.1+0)))):=rfl;obtain ⟨r1,y1,r2,y2,r3,y3,e1,g1,i1,e2,g2,i2,e3,g3,i3,rfl,rfl⟩:=hE
   simp (disch:=omega) only [a8,aJ,aO,aK,bS,aH,aC,hx,aA,bB,yH,fR,be,xu,e1,e2,e3]) x k h0 h1
theorem aa8 (x:ba) (k:Int) (h0:0<=k) (h1:k+32*((zz bv x:Nat):Int)<=mW):∃ (k':Int) (y:ba),km.ab (x,k,())=some (k',y,())/\k<=k'/\k'<=k+32*((zz bv x:Nat):Int):=by
 have hB:mW=4611686018427387904:=rfl;have hz:zz bv x=(0+(zz (.aa (.aa u8)) x.2.1+((zz (.aa u8) x.2.2.1.1+(zz (.aa u8) x.2.2.1.2.1+0))+(zz (.aa bh) x.2.2.2.1+(0+0))))):=rfl;obtain ⟨k1,y1,e1,g1,i1⟩:=YZ x.2.1 k Bys Bys;have Ak:zz ey x.2.2.1=(zz (.aa u8) x.2.2.1.1+(zz (.aa u8) x.2.2.1.2.1+0)):=rfl;obtain ⟨k2,y2,e2,g2,i2⟩:=adq x.2.2.1 k1 Bys Bys;obtain ⟨k3,y3,e3,g3,i3⟩:=ads x.2.2.2.1 k2 Bys Bys;refine ⟨k3,(x.1,y1,y2,y3,x.2.2.2.2.1,x.2.2.2.2.2),ag (k:=0) λf _=>(km.ae f _).trans ?_,by omega,by omega⟩
 grind [km.p]
def aco (x:UInt8) (k:Int) (y:UInt8) (k':Int):Prop:=y=(UInt8.ofInt (k))/\k+1=k'
theorem LW (x:List UInt8) (k:Int) (h0:0<=k) (h1:k+32*((zz (.aa u8) x:Nat):Int)<=mW):∃ (k':Int) (y:List UInt8),jE.ab (x,k,())=some (k',y,())/\mj.ab (y,k,())=some (k',())/\k<=k'/\k'<=k+32*((zz (.aa u8) x:Nat):Int):=by
 have hB:mW=4611686018427387904:=rfl
 exact SN (α:=UInt8) (zz u8) aco (λx k f=>jE.ae f (x,k,())) (λy k f=>mj.ae f (y,k,())) (λ(x:UInt8) k h0 h1=>by
   exact ⟨_,_,by omega,by omega,⟨rfl,rfl⟩⟩) (λi (acc:List (UInt8)) k self (x y:UInt8) k' hi hx h0 h1 h2 h3 hE a8=>by
   obtain ⟨rfl,rfl⟩:=hE
   grind [be]) (λ_ i (ys:List (UInt8)) k self (x y:UInt8) k' hi hx h0 h1 h2 h3 hE a8=>by
   obtain ⟨rfl,rfl⟩:=hE
   grind [be]) x k h0 h1
def aa9 (x:List UInt8) (k:Int) (y:List UInt8) (k':Int):Prop:=∃ (r1:Int) (y1:List UInt8),jE.ab (x,k,())=some (r1,y1,())/\mj.ab (y1,k,())=some (r1,())/\k<=r1/\r1<=k+32*((zz (.aa u8) x:Nat):Int)/\y=y1/\r1=k'
theorem Y2 (x:List (List UInt8)) (k:Int) (h0:0<=k) (h1:k+32*((zz (.aa (.aa u8)) x:Nat):Int)<=mW):∃ (k':Int) (y:List (List UInt8)),oK.ab (x,k,())=some (k',y,())/\rx.ab (y,k,())=some (k',())/\k<=k'/\k'<=k+32*((zz (.aa (.aa u8)) x:Nat):Int):=by
 have hB:mW=4611686018427387904:=rfl
 exact SN (α:=List UInt8) (zz (.aa u8)) aa9 (λx k f=>oK.ae f (x,k,())) (λy k f=>rx.ae f (y,k,())) (λ(x:List UInt8) k h0 h1=>by
   obtain ⟨r1,y1,e1,f1,g1,i1⟩:=LW x (k) Bys Bys
   exact ⟨_,_,by omega,by omega,⟨r1,y1,e1,f1,g1,i1,rfl,rfl⟩⟩) (λi (acc:List (List UInt8)) k self (x y:List UInt8) k' hi hx h0 h1 h2 h3 hE a8=>by
   obtain ⟨r1,y1,e1,f1,g1,i1,rfl,rfl⟩:=hE
   grind) (λ_ i (ys:List (List UInt8)) k self (x y:List UInt8) k' hi hx h0 h1 h2 h3 hE a8=>by
   obtain ⟨r1,y1,e1,f1,g1,i1,rfl,rfl⟩:=hE
   grind) x k h0 h1
theorem adt (x:Log) (k:Int) (h0:0<=k) (h1:k+32*((zz ey x:Nat):Int)<=mW):∃ (k':Int) (y:Log),oR.ab (x,k,())=some (k',y,())/\sJ.ab (y,k,())=some (k',())/\k<=k'/\k'<=k+32*((zz ey x:Nat):Int):=by
 have hB:mW=4611686018427387904:=rfl;have hz:zz ey x=(zz (.aa u8) x.1+(zz (.aa u8) x.2.1+0)):=rfl;obtain ⟨k1,y1,e1,f1,g1,i1⟩:=LW x.1 k Bys Bys;have n1:¬ k1 < 0:=by omega
 obtain ⟨k2,y2,e2,f2,g2,i2⟩:=LW x.2.1 k1 Bys Bys;have n2:¬ k2 < 0:=by omega
 refine ⟨k2,(y1,y2,x.2.2),ag (k:=0) λf _=>(oR.ae f _).trans ?_,ag (k:=0) λf _=>(sJ.ae f _).trans ?_,by omega,by omega⟩
 all_goals grind [oR.p,sJ.p]
def aa_ (x:Int) (k:Int) (y:Int) (k':Int):Prop:=y=(k)/\k+1=k'
theorem Y3 (x:List Int) (k:Int) (h0:0<=k) (h1:k+32*((zz (.aa i64) x:Nat):Int)<=mW):∃ (k':Int) (y:List Int),mw.ab (x,k,())=some (k',y,())/\qb.ab (y,k,())=some (k',())/\k<=k'/\k'<=k+32*((zz (.aa i64) x:Nat):Int):=by
 have hB:mW=4611686018427387904:=rfl
 exact SN (α:=Int) (zz i64) aa_ (λx k f=>mw.ae f (x,k,())) (λy k f=>qb.ae f (y,k,())) (λ(x:Int) k h0 h1=>by
   exact ⟨_,_,by omega,by omega,⟨rfl,rfl⟩⟩) (λi (acc:List (Int)) k self (x y:Int) k' hi hx h0 h1 h2 h3 hE a8=>by
   obtain ⟨rfl,rfl⟩:=hE
   grind [be]) (λ_ i (ys:List (Int)) k self (x y:Int) k' hi hx h0 h1 h2 h3 hE a8=>by
   obtain ⟨rfl,rfl⟩:=hE
   grind [be]) x k h0 h1
def Y4 (x:Change) (k:Int) (y:Change) (k':Int):Prop:=y=((decide ((k).tmod (3:Int)=(0:Int))),((k+1),(k+1+1),(k+1+1+1),(HY (k+1+1+1+1)),x.2.1.2.2.2.2),(decide ((k+1+1+1+1+1).tmod (3:Int)=(0:Int))),((k+1+1+1+1+1+1),(k+1+1+1+1+1+1+1),(k+1+1+1+1+1+1+1+1),(HY (k+1+1+1+1+1+1+1+1+1)),x.2.2.2.1.2.2.2.2),x.2.2.2.2)/\k+1+1+1+1+1+1+1+1+1+1=k'
theorem W9 (x:List Change) (k:Int) (h0:0<=k) (h1:k+32*((zz (.aa ao) x:Nat):Int)<=mW):∃ (k':Int) (y:List Change),lJ.ab (x,k,())=some (k',y,())/\o8.ab (y,k,())=some (k',())/\k<=k'/\k'<=k+32*((zz (.aa ao) x:Nat):Int):=by
 have hB:mW=4611686018427387904:=rfl
 exact SN (α:=Change) (zz ao) Y4 (λx k f=>lJ.ae f (x,k,())) (λy k f=>o8.ae f (y,k,())) (λ(x:Change) k h0 h1=>by
   have hz:zz ao x=(0+((0+(0+(0+(List.length x.2.1.2.2.2.1+0))))+(0+((0+(0+(0+(List.length x.2.2.2.1.2.2.2.1+0))))+0)))):=rfl
   exact ⟨_,_,by omega,by omega,⟨rfl,rfl⟩⟩) (λi (acc:List (Change)) k self (x y:Change) k' hi hx h0 h1 h2 h3 hE a8=>by
   have hz:zz ao x=(0+((0+(0+(0+(List.length x.2.1.2.2.2.1+0))))+(0+((0+(0+(0+(List.length x.2.2.2.1.2.2.2.1+0))))+0)))):=rfl;obtain ⟨rfl,rfl⟩:=hE
   simp (disch:=omega) only [a8,aJ,aO,aK,bS,aH,aC,hx,aA,bB,yH,fR,be,xu]) (λ_ i (ys:List (Change)) k self (x y:Change) k' hi hx h0 h1 h2 h3 hE a8=>by
   have hz:zz ao x=(0+((0+(0+(0+(List.length x.2.1.2.2.2.1+0))))+(0+((0+(0+(0+(List.length x.2.2.2.1.2.2.2.1+0))))+0)))):=rfl;obtain ⟨rfl,rfl⟩:=hE
   simp (disch:=omega) only [a8,aJ,aO,aK,bS,aH,aC,hx,aA,be,xu,beq_self_eq_true,aR,aE,aG]) x k h0 h1
def adu (x:Key) (k:Int) (y:Key) (k':Int):Prop:=y=((k),(k+1),x.2.2)/\k+1+1=k'
theorem acp (x:List Key) (k:Int) (h0:0<=k) (h1:k+32*((zz (.aa bc) x:Nat):Int)<=mW):∃ (k':Int) (y:List Key),og.ab (x,k,())=some (k',y,())/\rJ.ab (y,k,())=some (k',())/\k<=k'/\k'<=k+32*((zz (.aa bc) x:Nat):Int):=by
 have hB:mW=4611686018427387904:=rfl
 exact SN (α:=Key) (zz bc) adu (λx k f=>og.ae f (x,k,())) (λy k f=>rJ.ae f (y,k,())) (λ(x:Key) k h0 h1=>by
   have hz:zz bc x=(0+(0+0)):=rfl
   exact ⟨_,_,by omega,by omega,⟨rfl,rfl⟩⟩) (λi (acc:List (Key)) k self (x y:Key) k' hi hx h0 h1 h2 h3 hE a8=>by
   have hz:zz bc x=(0+(0+0)):=rfl;obtain ⟨rfl,rfl⟩:=hE
   grind [List.set_set,be]) (λ_ i (ys:List (Key)) k self (x y:Key) k' hi hx h0 h1 h2 h3 hE a8=>by
   have hz:zz bc x=(0+(0+0)):=rfl;obtain ⟨rfl,rfl⟩:=hE
   grind [be]) x k h0 h1
def aeh (x:Tx) (k:Int) (y:Tx) (k':Int):Prop:=∃ (r1:Int) (y1:List Change),∃ (r2:Int) (y2:List Int),∃ (r3:Int) (y3:List Key),lJ.ab (x.2.1,k+1,())=some (r1,y1,())/\o8.ab (y1,k+1,())=some (r1,())/\k+1<=r1/\r1<=k+1+32*((zz (.aa ao) x.2.1:Nat):Int)/\mw.ab (x.2.2.1,r1,())=some (r2,y2,())/\qb.ab (y2,r1,())=some (r2,())/\r1<=r2/\r2<=r1+32*((zz (.aa i64) x.2.2.1:Nat):Int)/\og.ab (x.2.2.2.1,r2,())=some (r3,y3,())/\rJ.ab (y3,r2,())=some (r3,())/\r2<=r3/\r3<=r2+32*((zz (.aa bc) x.2.2.2.1:Nat):Int)/\y=((k),y1,y2,y3,x.2.2.2.2)/\r3=k'
theorem adv (x:List Tx) (k:Int) (h0:0<=k) (h1:k+32*((zz (.aa bh) x:Nat):Int)<=mW):∃ (k':Int) (y:List Tx),rf.ab (x,k,())=some (k',y,())/\uH.ab (y,k,())=some (k',())/\k<=k'/\k'<=k+32*((zz (.aa bh) x:Nat):Int):=by
 have hB:mW=4611686018427387904:=rfl
 exact SN (α:=Tx) (zz bh) aeh (λx k f=>rf.ae f (x,k,())) (λy k f=>uH.ae f (y,k,())) (λ(x:Tx) k h0 h1=>by
   have hz:zz bh x=(0+(zz (.aa ao) x.2.1+(zz (.aa i64) x.2.2.1+(zz (.aa bc) x.2.2.2.1+0)))):=rfl;obtain ⟨r1,y1,e1,f1,g1,i1⟩:=W9 x.2.1 (k+1) Bys Bys;obtain ⟨r2,y2,e2,f2,g2,i2⟩:=Y3 x.2.2.1 (r1) Bys Bys;obtain ⟨r3,y3,e3,f3,g3,i3⟩:=acp x.2.2.2.1 (r2) Bys Bys
   exact ⟨_,_,by omega,by omega,⟨r1,y1,r2,y2,r3,y3,e1,f1,g1,i1,e2,f2,g2,i2,e3,f3,g3,i3,rfl,rfl⟩⟩) (λi (acc:List (Tx)) k self (x y:Tx) k' hi hx h0 h1 h2 h3 hE a8=>by
   have hz:zz bh x=(0+(zz (.aa ao) x.2.1+(zz (.aa i64) x.2.2.1+(zz (.aa bc) x.2.2.2.1+0)))):=rfl;obtain ⟨r1,y1,r2,y2,r3,y3,e1,f1,g1,i1,e2,f2,g2,i2,e3,f3,g3,i3,rfl,rfl⟩:=hE
   simp (disch:=omega) only [a8,aJ,aO,aK,bS,aH,aC,hx,aA,bB,yH,fR,be,xu,e1,e2,e3]) (λ_ i (ys:List (Tx)) k self (x y:Tx) k' hi hx h0 h1 h2 h3 hE a8=>by
   have hz:zz bh x=(0+(zz (.aa ao) x.2.1+(zz (.aa i64) x.2.2.1+(zz (.aa bc) x.2.2.2.1+0)))):=rfl;obtain ⟨r1,y1,r2,y2,r3,y3,e1,f1,g1,i1,e2,f2,g2,i2,e3,f3,g3,i3,rfl,rfl⟩:=hE
   grind [be]) x k h0 h1
theorem aba (x:ba) (k:Int) (h0:0<=k) (h1:k+32*((zz bv x:Nat):Int)<=mW):∃ (k':Int) (y:ba),km.ab (x,k,())=some (k',y,())/\qF.ab (y,k,())=some (k',())/\k<=k'/\k'<=k+32*((zz bv x:Nat):Int):=by
 have hB:mW=4611686018427387904:=rfl;have hz:zz bv x=(0+(zz (.aa (.aa u8)) x.2.1+((zz (.aa u8) x.2.2.1.1+(zz (.aa u8) x.2.2.1.2.1+0))+(zz (.aa bh) x.2.2.2.1+(0+0))))):=rfl;obtain ⟨k1,y1,e1,f1,g1,i1⟩:=Y2 x.2.1 k Bys Bys;have n1:¬ k1 < 0:=by omega
 have Ak:zz ey x.2.2.1=(zz (.aa u8) x.2.2.1.1+(zz (.aa u8) x.2.2.1.2.1+0)):=rfl;obtain ⟨k2,y2,e2,f2,g2,i2⟩:=adt x.2.2.1 k1 Bys Bys;have n2:¬ k2 < 0:=by omega
 obtain ⟨k3,y3,e3,f3,g3,i3⟩:=adv x.2.2.2.1 k2 Bys Bys;have n3:¬ k3 < 0:=by omega
 refine ⟨k3,(x.1,y1,y2,y3,x.2.2.2.2.1,x.2.2.2.2.2),ag (k:=0) λf _=>(km.ae f _).trans ?_,ag (k:=0) λf _=>(qF.ae f _).trans ?_,by omega,by omega⟩
 all_goals grind [km.p,qF.p]
theorem Nz (x:mn) (k:Int) (h0:0<=k) (h1:k+32*((zz ff x:Nat):Int)<=mW):∃ (k':Int) (y:mn),mQ.ab (x,k,())=some (k',y,())/\ly.ab (y,k,())=some (k',())/\k<=k'/\k'<=k+32*((zz ff x:Nat):Int):=by
 have hB:mW=4611686018427387904:=rfl;have hz:zz ff x=(0+(0+((0+(zz (.aa (.aa u8)) x.2.2.1.2.1+((zz (.aa u8) x.2.2.1.2.2.1.1+(zz (.aa u8) x.2.2.1.2.2.1.2.1+0))+(zz (.aa bh) x.2.2.1.2.2.2.1+(0+0)))))+0))):=rfl;have DX:zz bv x.2.2.1=(0+(zz (.aa (.aa u8)) x.2.2.1.2.1+((zz (.aa u8) x.2.2.1.2.2.1.1+(zz (.aa u8) x.2.2.1.2.2.1.2.1+0))+(zz (.aa bh) x.2.2.1.2.2.2.1+(0+0))))):=rfl;obtain ⟨k1,y1,e1,f1,g1,i1⟩:=aba x.2.2.1 k Bys Bys;have n1:¬ k1 < 0:=by omega
 refine ⟨k1,(x.1,x.2.1,y1,x.2.2.2),ag (k:=0) λf _=>(mQ.ae f _).trans ?_,ag (k:=0) λf _=>(ly.ae f _).trans ?_,by omega,by omega⟩
 all_goals grind [mQ.p,ly.p]
end OT
namespace OT
open Go
theorem mL (a b c:Int):bp.ab (a,b,c,())=some (decide (b<=a)&&decide (a<=c),()):=by
 refine ag (k:=0) λk _=>(bp.ae k _).trans ?_;show bp.p _=_;unfold bp.p;by_cases h:b<=a <;> simp[h]
theorem sj (a b c:Int):fk.ab (a,b,c,())=some (decide (b<=a)&&decide (a<=c),()):=by
 refine ag (k:=0) λk _=>(fk.ae k _).trans ?_;show fk.p _=_;unfold fk.p;by_cases h:b<=a <;> simp[h]
theorem LX (a:Int):oG.ab (a,())=some (decide (1<=a)&&decide (a<=99),()):=by
 refine ag (k:=0) λk _=>(oG.ae k _).trans ?_;show oG.p _=_;unfold oG.p;simp[sj]
def gj (a b c:Int):Bool:=decide (b<=a)&&decide (a<=c)
theorem l9 (s:List UInt8) (h:s.length<=200000000000):cd.ab (s,())=some (s,()):=by
 refine ag (k:=0) λk _=>(cd.ae k _).trans ?_;show cd.p _=_;unfold cd.p;have:([]:List UInt8).length+s.length<=ct:=dc (by simpa using h);rw[aM this,cG]
theorem my (s:List UInt8) (h:s.length<=200000000000):br.ab (s,())=some (s,()):=by
 refine ag (k:=0) λk _=>(br.ae k _).trans ?_;show br.p _=_;unfold br.p;have:([]:List UInt8).length+s.length<=ct:=dc (by simpa using h);rw[aM this,cG]
theorem iv {S O α:Type} {g:S->α->S} {fin:S->O}:∀ (xs:List α) (i:Nat) (s:S),ci (λ_ s x=>.inr (g s x)) fin i xs s=fin (xs.foldl g s)
 | [],_,_=>rfl
 | x::xs,i,s=>by simp only[ci,eW];exact iv xs _ _
theorem Au {α:Type}:∀ (xs s:List α),xs.foldl (λs x=>s++[x]) s=s++xs
 | [],s=>by simp
 | x::xs,s=>by rw[eW,Au];simp
abbrev mz:Type:=List (List UInt8)
def gp (ps:mz):Prop:=ps.length<=12/\∀ p ∈ ps,p.length=64
def ww:List UInt8:=((List.replicate 64 (0:UInt8)).set 0 0).set 1 64
theorem zG:ww.length=64:=by simp[ww]
theorem FR (ps:mz) (h:gp ps):lG.ab (ps,())=some (ps,()):=by
 obtain ⟨h1,h2⟩:=h;refine ag (k:=14) λk hk=>(lG.ae k _).trans ?_
 have:=cz (B:=λself v=>lG.b0 self (λz=>lG.q0 (ps,()) z) (ps,()) v) ps (λ(s:mz) (i:Int)=>(s,i)) (λ_ s x=>.inr (s++[x])) (λs=>(s,())) (λi s=>s.length=i) (by rw[an];omega)
  (λi hi s self hI=>by
   show lG.b0 _ _ _ _=_;unfold lG.b0;have a8:(i:Int) < (ps.length:Int):=by omega
   have hx:=h2 ps[i] (aN hi);simp only[a8,aJ,aO,aK,aH,aC,aB hi,aA];rw[l9 _ Bys];have hc:s.length+[ps[i]].length<=ct:=dc (by simp only[bE,cA];omega)
   simp only[aA,hc,aH])
  (λi hi s s' hI hs=>by injection hs with hs;rw[<-hs];simp[hI]) (λs self hI=>by
   show lG.b0 _ _ _ _=_;unfold lG.b0;simp only[aU,aG,aE]
   rfl) [] rfl k Bys
 rw[iv,Au] at this;exact this
theorem xD (ps:mz) (h:gp ps):iL.ab (ps,())=some (ps,()):=by
 obtain ⟨h1,h2⟩:=h;refine ag (k:=14) λk hk=>(iL.ae k _).trans ?_
 have:=cz (B:=λself v=>iL.b0 self (λz=>iL.q0 (ps,()) z) (ps,()) v) ps (λ(s:mz) (i:Int)=>(s,i)) (λ_ s x=>.inr (s++[x])) (λs=>(s,())) (λi s=>s.length=i) (by rw[an];omega)
  (λi hi s self hI=>by
   show iL.b0 _ _ _ _=_;unfold iL.b0;have a8:(i:Int) < (ps.length:Int):=by omega
   have hx:=h2 ps[i] (aN hi);simp only[a8,aJ,aO,aK,aH,aC,aB hi,aA];rw[my _ Bys];have hc:s.length+[ps[i]].length<=ct:=dc (by simp only[bE,cA];omega)
   simp only[aA,hc,aH])
  (λi hi s s' hI hs=>by injection hs with hs;rw[<-hs];simp[hI]) (λs self hI=>by
   show iL.b0 _ _ _ _=_;unfold iL.b0;simp only[aU,aG,aE]
   rfl) [] rfl k Bys
 rw[iv,Au] at this;exact this
end OT
