/- The proof's parts, merged: Printed by gen.py, a program of this claim  what each Go function computes.. No conditions but those that each states. -/
import Derived.Test.YtghckfpmmofmnaaGreatDd
set_option maxRecDepth 100000
set_option linter.unusedVariables false
namespace OT
open Go Go.Proofs.Tryz
noncomputable section
variable (k:Nat)
namespace jQ
abbrev A:=Byt×Int×Int×Byt×Unit
abbrev O:=Byt×Unit
noncomputable def D:FD:={ fn:=f360,tl:=az,ps:=[(.lR (aj (.aa u8)),(.aa u8)),(.ro,i64),(.ro,i64),(.ro,(.aa u8))],rs:=[],es:=[0] }
def ab (a:A):Option O:=@lift O λk=>D.W k a
def p (a1:A):Option O:=if 0<=a1.2.2.1/\a1.2.2.1<=(a1.1.length:Int) then (let y2:=o5 a1.1 a1.2.2.1.toNat (min a1.2.2.2.1.length (a1.1.length - a1.2.2.1.toNat)) a1.2.2.2.1;if 0<=af (2+(af (2*a1.2.1)))/\af (2+(af (2*a1.2.1))) < (y2.length:Int) then ((y2[(af ((2:Int)+(af ((2:Int)*a1.2.1)))).toNat]?).bind λx3=>let y4:=y2.set (af (2+(af (2*a1.2.1)))).toNat (UInt8.ofInt a1.2.2.1);if 0<=af (3+(af (2*a1.2.1)))/\af (3+(af (2*a1.2.1))) < (y4.length:Int) then ((y4[(af ((3:Int)+(af ((2:Int)*a1.2.1)))).toNat]?).bind λx5=>let y6:=y4.set (af (3+(af (2*a1.2.1)))).toNat (UInt8.ofInt (a1.2.2.2.1.length:Int));some (y6,())) else none) else none) else none
theorem ae (a1:A):@Eq (Option O) (D.W k a1) (p a1):=Bye
theorem ok:Ok prog 360 D.sig:=al func360 av Bye (ai _)
end jQ
namespace oq
abbrev A:=Byt×Byt×Unit
abbrev O:=Byt×Int×Int×Unit
noncomputable def D:FD:={ fn:=f343,tl:=az,ps:=[(.ro,(.aa u8)),(.ro,(.aa u8))],rs:=[((.aa u8),(aj (.aa u8))),(i64,(ak i64)),(i64,(ak i64))],gl:=[(139,br.D.sig),(228,c_.D.sig),(284,kJ.D.sig),(358,kA.D.sig),(359,kQ.D.sig),(360,jQ.D.sig)] }
def ab (a:A):Option O:=@lift O λk=>D.W k a
def p (a1:A):Option O:=(kA.ab (a1.1,())).bind λr2=>(c_.ab (a1.1,())).bind λr3=>let j14:=λ(p12:Int) (p13:Int)=>((kQ.ab (a1.1,())).bind λxt=>cond (decide (xt.1 < af ((a1.2.1.length:Int)+p13))) (some (([]:Byt),0,9,()))<|(kJ.ab (a1.1,())).bind λzr=>cond (decide (af (zr.1 - (a1.2.1.length:Int)) < af (2+(af (2*p12))))) (some (([]:Byt),0,8,()))<|(br.ab (a1.1,())).bind λA6=>if 0<=(0:Int)/\0 < (A6.1.length:Int) then ((A6.1[0]?).bind λx18=>if 0<=(1:Int)/\1 < ((A6.1.set 0 (UInt8.ofInt p12)).length:Int) then (((A6.1.set 0 (UInt8.ofInt p12))[1]?).bind λWR=>let y20:=(A6.1.set 0 (UInt8.ofInt p12)).set 1 (UInt8.ofInt (af (zr.1 - (a1.2.1.length:Int))));(jQ.ab (y20,r2.1,af (zr.1 - (a1.2.1.length:Int)),a1.2.1,())).bind λCm=>some (Cm.1,r2.1,0,())) else none) else none:Option O);cond (decide (r2.1=r3.1)) (cond (decide (16<=r3.1)) (some (([]:Byt),0,2,()))<|j14 (af (r3.1+1)) 2)<|j14 r3.1 0
theorem ae (a1:A):@Eq (Option O) (D.W k a1) (p a1):=Bye
theorem ok:Ok prog 343 D.sig:=al func343 av Bye (fc br.ok (fc c_.ok (fc kJ.ok (fc kA.ok (fc kQ.ok (fc jQ.ok (ai _)))))))
end oq
namespace jd
abbrev A:=a_×Int×Byt×Unit
abbrev O:=a_×Unit
noncomputable def D:FD:={ fn:=f344,tl:=az,ps:=[(.jl (aj de) (aj de),de),(.ro,i64),(.ro,(.aa u8))],rs:=[],gl:=[(139,br.D.sig)],es:=[0],od:=[(1,[0,1,2,3,4,5,6,7,8,9,10,11]),(2,[0,1,2,3,4,5,6,7,8,9,10]),(3,[0,1,2,3,4,5,6,7,8]),(4,[0,1,2,3,4,5,6,7,8,9,10,11,12,13])] }
def ab (a:A):Option O:=@lift O λk=>D.W k a
def p (a1:A):Option O:=let j9:=λ(p8:a_)=>((br.ab (a1.2.2.1,())).bind λsf=>if p8.2.1.length+[(a1.2.1,sf.1,())].length<=ct then (some ((p8.1,p8.2.1++[(a1.2.1,sf.1,())],p8.2.2),())) else none:Option O);cond (decide (a1.2.1=(a1.1.1.length:Int))) ((br.ab (a1.2.2.1,())).bind λr2=>if a1.1.1.length+[r2.1].length<=ct then (j9 (a1.1.1++[r2.1],a1.1.2)) else none)<|if 0<=a1.2.1/\a1.2.1 < (a1.1.1.length:Int) then ((a1.1.1[a1.2.1.toNat]?).bind λx3=>(a1.1.1[a1.2.1.toNat]?).bind λx4=>cond (decide (x4=a1.2.2.1)) (some (a1.1,()))<|(br.ab (a1.2.2.1,())).bind λr5=>if 0<=a1.2.1/\a1.2.1 < (a1.1.1.length:Int) then ((a1.1.1[a1.2.1.toNat]?).bind λx6=>j9 (a1.1.1.set a1.2.1.toNat r5.1,a1.1.2)) else none) else none
theorem ae (a1:A):@Eq (Option O) (D.W k a1) (p a1):=Bye
theorem ok:Ok prog 344 D.sig:=al func344 av Bye (fc br.ok (ai _))
end jd
namespace gx
abbrev A:=Byt×Unit
abbrev O:=Byt×Unit
abbrev P:=Option O
noncomputable def D:FD:={ fn:=f347,tl:=az,ps:=[(.ro,(.aa u8))],rs:=[((.aa u8),(aj (.aa u8)))],gl:=[(228,c_.D.sig),(229,cn.D.sig),(231,j_.D.sig),(360,jQ.D.sig)],lv:=[(6,[0,3,4,5,6])],lx:=[(0,[4,5]),(1,[0,3,4,5,6])] }
def ab (a:A):P:=@lift O λk=>D.W k a
variable (a1:A)
def T0 (ez:Int) (c7:Byt×Int×Int):St:={ n:=44,sl:=[(0,.val (.aa u8) a1.1),(3,.val i64 ez),(4,.own (.aa u8) (aj (.aa u8)) [] c7.1),(5,.val i64 c7.2.1),(6,.val i64 c7.2.2)],vr:=[],ay:=[] }
def b0 (self:(Byt×Int×Int)->P) (e0:(Byt×Int)->P) (a1:A) (ez:Int) (c7:Byt×Int×Int):P:=cond (decide (c7.2.2 < ez)) ((cn.ab (a1.1,c7.2.2,())).bind λjm=>cond (decide (jm.1=0)) (self (c7.1,c7.2.1,af (c7.2.2+1)))<|(j_.ab (a1.1,c7.2.2,())).bind λky=>(jQ.ab (c7.1,c7.2.2,af (c7.2.1 - (ky.1.length:Int)),ky.1,())).bind λqv=>self (qv.1,af (c7.2.1 - (ky.1.length:Int)),af (c7.2.2+1)))<|e0 (c7.1,c7.2.1)
def q0 (a1:A) (ez:Int) (wt:(Byt×Int)):P:=if 0<=(1:Int)/\1 < (wt.1.length:Int) then ((wt.1[1]?).bind λJf=>some (wt.1.set 1 (UInt8.ofInt wt.2),())) else none
def r0:Int->(Byt×Int×Int)->P:=λez=>am (λw v=>b0 w (q0 a1 ez) a1 ez v) k
theorem aq:@Eq (Int->(Byt×Int×Int)->P) (λez=>λc7=>D.L k [1,1,1,1,1,0,1,0,0] [0,3,4,5,6] [] (ah 0 (aw (D.N k [1,1,1,1,1,1]) D.K0)) (T0 a1 ez c7)) (r0 k a1):=
 funext λez=>funext λc7=>ap _ _ _ (T0 a1 ez) _ (λrec v=>Bye) k c7
def p (l0:Int->(Byt×Int×Int)->P) (a1:A):P:=(c_.ab (a1.1,())).bind λr2=>if 0<=(64:Int)/\(64:Int)<=64/\64<=(ct:Int) then (if 0<=af (2+(af (2*r2.1)))/\af (2+(af (2*r2.1)))<=(a1.1.length:Int) then (let y3:=o5 (List.replicate 64 (0:UInt8)) 0 (min ((a1.1.take (af (2+(af (2*r2.1)))).toNat).drop 0).length (List.replicate 64 (0:UInt8)).length) ((a1.1.take (af (2+(af (2*r2.1)))).toNat).drop 0);l0 r2.1 (y3,64,0)) else none) else none
theorem ae:@Eq P (D.W k a1) (p (r0 k a1) a1):=By8 (aq k a1) Bye
theorem ok:Ok prog 347 D.sig:=al func347 av Bye (fc c_.ok (fc cn.ok (fc j_.ok (fc jQ.ok (ai _)))))
end gx
namespace qY
abbrev A:=a_×Int×Byt×Unit
abbrev O:=Int×Bool×a_×Unit
noncomputable def D:FD:={ fn:=f342,tl:=az,ps:=[(.jl (aj de) (aj de),de),(.ro,i64),(.ro,(.aa u8))],rs:=[(i64,(ak i64)),(.bool,(ak .bool))],gl:=[(343,oq.D.sig),(344,jd.D.sig),(347,gx.D.sig)],es:=[0] }
def ab (a:A):Option O:=@lift O λk=>D.W k a
def p (a1:A):Option O:=if 0<=a1.2.1/\a1.2.1 < (a1.1.1.length:Int) then ((a1.1.1[a1.2.1.toNat]?).bind λx2=>(a1.1.1[a1.2.1.toNat]?).bind λx3=>(oq.ab (x3,a1.2.2.1,())).bind λr4=>let WU:=λ(p13:a_) (p14:Byt) (p15:Int) (p16:Int)=>(cond (!decide (p16=0)) (some (0,false,p13,()))<|(jd.ab (p13,a1.2.1,p14,())).bind λD4=>some (p15,true,D4.1,()):Option O);cond (decide (r4.2.2.1=8)) (if 0<=a1.2.1/\a1.2.1 < (a1.1.1.length:Int) then ((a1.1.1[a1.2.1.toNat]?).bind λx5=>(a1.1.1[a1.2.1.toNat]?).bind λx6=>(gx.ab (x6,())).bind λr7=>(jd.ab (a1.1,a1.2.1,r7.1,())).bind λr8=>if 0<=a1.2.1/\a1.2.1 < (r8.1.1.length:Int) then ((r8.1.1[a1.2.1.toNat]?).bind λx9=>(r8.1.1[a1.2.1.toNat]?).bind λFQ=>(oq.ab (FQ,a1.2.2.1,())).bind λnu=>WU r8.1 nu.1 nu.2.1 nu.2.2.1) else none) else none)<|WU a1.1 r4.1 r4.2.1 r4.2.2.1) else none
theorem ae (a1:A):@Eq (Option O) (D.W k a1) (p a1):=Bye
theorem ok:Ok prog 342 D.sig:=al func342 av Bye (fc oq.ok (fc jd.ok (fc gx.ok (ai _))))
end qY
namespace iU
abbrev A:=a_×Int×Byt×Unit
abbrev O:=Int×Int×Bool×a_×Unit
abbrev P:=Option O
noncomputable def D:FD:={ fn:=f319,tl:=az,ps:=[(.jl (aj de) (aj de),de),(.ro,i64),(.ro,(.aa u8))],rs:=[(i64,(ak i64)),(i64,(ak i64)),(.bool,(ak .bool))],gl:=[(241,jU.D.sig),(342,qY.D.sig),(343,oq.D.sig),(344,jd.D.sig)],es:=[0],lv:=[(2,[0,1,2,9])],lx:=[(0,[0,2]),(1,[0,1,2,9])] }
def ab (a:A):P:=@lift O λk=>D.W k a
variable (a1:A)
def T0 (U:a_×Int):St:={ n:=65,sl:=[(0,.box de (aj de) [] U.1),(1,.val i64 a1.2.1),(2,.val (.aa u8) a1.2.2.1),(9,.val i64 U.2)],vr:=[],ay:=[(0,0,false)] }
def b0 (self:(a_×Int)->P) (e0:a_->P) (a1:A) (U:a_×Int):P:=cond (decide (U.2 < (U.1.1.length:Int))) (cond (decide (U.2=a1.2.1)) (self (U.1,af (U.2+1)))<|(qY.ab (U.1,U.2,a1.2.2.1,())).bind λxe=>cond xe.2.1 (some (U.2,xe.1,true,xe.2.2.1,()))<|self (xe.2.2.1,af (U.2+1)))<|e0 U.1
def q0 (l_:a_):P:=cond (decide (12<=(l_.1.length:Int))) (some (0,0,false,l_,()))<|(jU.ab ((0:UInt8),())).bind λlj=>(oq.ab (lj.1,a1.2.2.1,())).bind λjm=>(jd.ab (l_,(l_.1.length:Int),jm.1,())).bind λky=>some (af ((ky.1.1.length:Int) - 1),jm.2.1,true,ky.1,())
def r0:(a_×Int)->P:=am (λw v=>b0 w (q0 a1) a1 v) k
theorem aq:@Eq ((a_×Int)->P) (λU=>D.L k [1,0,1,0,0] [0,1,2,9] [] (ah 0 (aw (D.N k [1,1]) D.K0)) (T0 a1 U)) (r0 k a1):=
 funext λU=>ap _ _ _ (T0 a1) _ (λrec v=>Bye) k U
def p (l0:(a_×Int)->P) (a1:A):P:=l0 (a1.1,0)
theorem ae:@Eq P (D.W k a1) (p (r0 k a1) a1):=By8 (aq k a1) Bye
theorem ok:Ok prog 319 D.sig:=al func319 av Bye (fc jU.ok (fc qY.ok (fc oq.ok (fc jd.ok (ai _)))))
end iU
namespace jI
abbrev A:=Int×Row×Unit
abbrev O:=Byt×Unit
noncomputable def D:FD:={ fn:=f320,tl:=az,ps:=[(.ro,i64),(.ro,(.ptr aT))],rs:=[((.aa u8),(aj (.aa u8)))],od:=[(1,[0,1,2,3,4,5,6,7,8,9,10,11,12,13,14,15,16,17,18,19,20,21,22,23,24,25,26,27,28,29,30,31])] }
def ab (a:A):Option O:=@lift O λk=>D.W k a
def p (a1:A):Option O:=if a1.2.1.2.2.2.1.length<=ct then (if [UInt8.ofInt a1.1,UInt8.ofInt a1.2.1.1,UInt8.ofInt a1.2.1.2.1,UInt8.ofInt (af (a1.2.1.2.2.1.tdiv (256:Int))),UInt8.ofInt (a1.2.1.2.2.1.tmod (256:Int)),UInt8.ofInt (a1.2.1.2.2.2.1.length:Int)].length+a1.2.1.2.2.2.1.length<=ct then (let y2:=[UInt8.ofInt a1.1,UInt8.ofInt a1.2.1.1,UInt8.ofInt a1.2.1.2.1,UInt8.ofInt (af (a1.2.1.2.2.1.tdiv (256:Int))),UInt8.ofInt (a1.2.1.2.2.1.tmod (256:Int)),UInt8.ofInt (a1.2.1.2.2.2.1.length:Int)]++a1.2.1.2.2.2.1;some (y2,())) else none) else none
theorem ae (a1:A):@Eq (Option O) (D.W k a1) (p a1):=Bye
theorem ok:Ok prog 320 D.sig:=al func320 av Bye (ai _)
end jI
namespace kR
abbrev A:=a_×Unit
abbrev O:=dO×Unit
noncomputable def D:FD:={ fn:=f321,tl:=az,ps:=[(.tj (aj de),de)],rs:=[(du,(aj du))],fz:=[(1,3,7),(1,7,7)],od:=[(1,[0,1,2,3,4,5,6,7,8,9])] }
def ab (a:A):Option O:=@lift O λk=>D.W k a
def p (a1:A):Option O:=some ((0,a1.1.2.1,a1.1.1,()),())
theorem ae (a1:A):@Eq (Option O) (D.W k a1) (p a1):=Bye
theorem ok:Ok prog 321 D.sig:=al func321 av Bye (ai _)
end kR
namespace ql
abbrev A:=(List Byt)×Row×Unit
abbrev O:=dO×Unit
noncomputable def D:FD:={ fn:=f298,tl:=az,ps:=[(.ro,(.aa (.aa u8))),(.ro,(.ptr aT))],rs:=[(du,(aj du))],gl:=[(240,fu.D.sig),(318,lq.D.sig),(319,iU.D.sig),(320,jI.D.sig),(321,kR.D.sig)] }
def ab (a:A):Option O:=@lift O λk=>D.W k a
def p (a1:A):Option O:=(lq.ab (a1.1,())).bind λr2=>(jI.ab (0,a1.2.1,())).bind λr3=>(iU.ab (r2.1,(-1),r3.1,())).bind λr4=>cond (!r4.2.2.1) ((fu.ab (9,())).bind λr5=>some (r5.1,()))<|(kR.ab (r4.2.2.2.1,())).bind λr6=>some (r6.1,())
theorem ae (a1:A):@Eq (Option O) (D.W k a1) (p a1):=Bye
theorem ok:Ok prog 298 D.sig:=al func298 av Bye (fc fu.ok (fc lq.ok (fc iU.ok (fc jI.ok (fc kR.ok (ai _))))))
end ql
namespace pC
abbrev A:=Byt×Int×Unit
abbrev O:=Byt×Unit
abbrev P:=Option O
noncomputable def D:FD:={ fn:=f345,tl:=az,ps:=[(.ro,(.aa u8)),(.ro,i64)],rs:=[((.aa u8),(aj (.aa u8)))],gl:=[(139,br.D.sig),(229,cn.D.sig)],lv:=[(4,[5])],lx:=[(0,[5])] }
def ab (a:A):P:=@lift O λk=>D.W k a
variable (a1:A)
def T0 (a1:A) (vU:Byt):St:={ n:=38,sl:=[(5,.own (.aa u8) (aj (.aa u8)) [] vU)],vr:=[],ay:=[] }
def b0 (self:Byt->P) (e0:Byt->P) (a1:A) (vU:Byt):P:=if 0<=(0:Int)/\0 < (vU.length:Int) then ((vU[0]?).bind λyK=>cond (decide (0 < (yK.toNat:Int))) (if 0<=(0:Int)/\0 < (vU.length:Int) then ((vU[0]?).bind λyL=>(cn.ab (vU,af ((af (yL.toNat:Int)) - 1),())).bind λuG=>cond (decide (uG.1=0)) (if 0<=(0:Int)/\0 < (vU.length:Int) then ((vU[0]?).bind λDA=>if 0<=(0:Int)/\0 < (vU.length:Int) then ((vU[0]?).bind λxK=>let Pj:=vU.set 0 (UInt8.ofInt ((DA.toNat:Int) - 1));self Pj) else none) else none)<|e0 vU) else none)<|e0 vU) else none
def q0 (a1:A) (aeb:Byt):P:=some (aeb,())
def r0:Byt->P:=am (λw v=>b0 w (q0 a1) a1 v) k
theorem aq:@Eq (Byt->P) (λvU=>D.L k [1,1,1,1,0,0,0] [5] [] (ah 0 (aw (D.N k [1,1,1,1,1]) D.K0)) (T0 a1 vU)) (r0 k a1):=
 funext λvU=>ap _ _ _ (T0 a1) _ (λrec v=>Bye) k vU
def p (l0:Byt->P) (a1:A):P:=(br.ab (a1.1,())).bind λr2=>if 0<=af (2+(af (2*a1.2.1)))/\af (2+(af (2*a1.2.1))) < (r2.1.length:Int) then ((r2.1[(af ((2:Int)+(af ((2:Int)*a1.2.1)))).toNat]?).bind λx3=>let y4:=r2.1.set (af (2+(af (2*a1.2.1)))).toNat (0:UInt8);if 0<=af (3+(af (2*a1.2.1)))/\af (3+(af (2*a1.2.1))) < (y4.length:Int) then ((y4[(af ((3:Int)+(af ((2:Int)*a1.2.1)))).toNat]?).bind λx5=>let y6:=y4.set (af (3+(af (2*a1.2.1)))).toNat (0:UInt8);l0 y6) else none) else none
theorem ae:@Eq P (D.W k a1) (p (r0 k a1) a1):=By8 (aq k a1) Bye
theorem ok:Ok prog 345 D.sig:=al func345 av Bye (fc br.ok (fc cn.ok (ai _)))
end pC
namespace n_
abbrev A:=a_×Int×Int×Unit
abbrev O:=a_×Unit
noncomputable def D:FD:={ fn:=f322,tl:=az,ps:=[(.jl (aj de) (aj de),de),(.ro,i64),(.ro,i64)],rs:=[],gl:=[(344,jd.D.sig),(345,pC.D.sig)],es:=[0] }
def ab (a:A):Option O:=@lift O λk=>D.W k a
def p (a1:A):Option O:=if 0<=a1.2.1/\a1.2.1 < (a1.1.1.length:Int) then ((a1.1.1[a1.2.1.toNat]?).bind λx2=>(a1.1.1[a1.2.1.toNat]?).bind λx3=>(pC.ab (x3,a1.2.2.1,())).bind λr4=>(jd.ab (a1.1,a1.2.1,r4.1,())).bind λr5=>some (r5.1,())) else none
theorem ae (a1:A):@Eq (Option O) (D.W k a1) (p a1):=Bye
theorem ok:Ok prog 322 D.sig:=al func322 av Bye (fc jd.ok (fc pC.ok (ai _)))
end n_
namespace qm
abbrev A:=(List Byt)×ax×Unit
abbrev O:=dO×Unit
noncomputable def D:FD:={ fn:=f299,tl:=az,ps:=[(.ro,(.aa (.aa u8))),(.ro,(.ptr ij))],rs:=[(du,(aj du))],gl:=[(318,lq.D.sig),(321,kR.D.sig),(322,n_.D.sig)],od:=[(2,[0,1,2,3,4,5,6,7,8,9]),(4,[0,1,2,3,4,5,6,7,8,9,10,11])] }
def ab (a:A):Option O:=@lift O λk=>D.W k a
def p (a1:A):Option O:=(lq.ab (a1.1,())).bind λr2=>(n_.ab (r2.1,a1.2.1.1,a1.2.1.2.1,())).bind λr3=>cond (decide (a1.2.1.2.2.1.2.1=1)) ((n_.ab (r3.1,a1.2.1.2.2.1.2.2.1,a1.2.1.2.2.1.2.2.2.1,())).bind λr4=>(kR.ab (r4.1,())).bind λr6=>some (r6.1,()))<|(kR.ab (r3.1,())).bind λr7=>some (r7.1,())
theorem ae (a1:A):@Eq (Option O) (D.W k a1) (p a1):=Bye
theorem ok:Ok prog 299 D.sig:=al func299 av Bye (fc lq.ok (fc kR.ok (fc n_.ok (ai _))))
end qm
namespace rX
abbrev A:=Byt×Int×Byt×Unit
abbrev O:=Byt×Int×Unit
noncomputable def D:FD:={ fn:=f346,tl:=az,ps:=[(.ro,(.aa u8)),(.ro,i64),(.ro,(.aa u8))],rs:=[((.aa u8),(aj (.aa u8))),(i64,(ak i64))],gl:=[(139,br.D.sig),(228,c_.D.sig),(229,cn.D.sig),(284,kJ.D.sig),(288,iq.D.sig),(359,kQ.D.sig),(360,jQ.D.sig)] }
def ab (a:A):Option O:=@lift O λk=>D.W k a
def p (a1:A):Option O:=(cn.ab (a1.1,a1.2.1,())).bind λr2=>(br.ab (a1.1,())).bind λr3=>cond (decide ((a1.2.2.1.length:Int)<=r2.1)) ((iq.ab (a1.1,a1.2.1,())).bind λr4=>(jQ.ab (r3.1,a1.2.1,af ((af (r4.1+r2.1)) - (a1.2.2.1.length:Int)),a1.2.2.1,())).bind λr5=>some (r5.1,0,()))<|(kQ.ab (a1.1,())).bind λr6=>cond (decide (af (r6.1+r2.1) < (a1.2.2.1.length:Int))) (some (([]:Byt),9,()))<|(kJ.ab (a1.1,())).bind λr7=>(c_.ab (a1.1,())).bind λr8=>cond (decide (af (r7.1 - (a1.2.2.1.length:Int)) < af (2+(af (2*r8.1))))) (some (([]:Byt),8,()))<|if 0<=(1:Int)/\1 < (r3.1.length:Int) then ((r3.1[1]?).bind λx9=>let WV:=r3.1.set 1 (UInt8.ofInt (af (r7.1 - (a1.2.2.1.length:Int))));(jQ.ab (WV,a1.2.1,af (r7.1 - (a1.2.2.1.length:Int)),a1.2.2.1,())).bind λnu=>some (nu.1,0,())) else none
theorem ae (a1:A):@Eq (Option O) (D.W k a1) (p a1):=Bye
theorem ok:Ok prog 346 D.sig:=al func346 av Bye (fc br.ok (fc c_.ok (fc cn.ok (fc kJ.ok (fc iq.ok (fc kQ.ok (fc jQ.ok (ai _))))))))
end rX
namespace ot
abbrev A:=a_×Int×Int×Byt×Unit
abbrev O:=Bool×a_×Unit
noncomputable def D:FD:={ fn:=f324,tl:=az,ps:=[(.jl (aj de) (aj de),de),(.ro,i64),(.ro,i64),(.ro,(.aa u8))],rs:=[(.bool,(ak .bool))],gl:=[(344,jd.D.sig),(346,rX.D.sig),(347,gx.D.sig)],es:=[0] }
def ab (a:A):Option O:=@lift O λk=>D.W k a
def p (a1:A):Option O:=if 0<=a1.2.1/\a1.2.1 < (a1.1.1.length:Int) then ((a1.1.1[a1.2.1.toNat]?).bind λx2=>(a1.1.1[a1.2.1.toNat]?).bind λx3=>(rX.ab (x3,a1.2.2.1,a1.2.2.2.1,())).bind λr4=>cond (decide (r4.2.1=8)) (if 0<=a1.2.1/\a1.2.1 < (a1.1.1.length:Int) then ((a1.1.1[a1.2.1.toNat]?).bind λx5=>(a1.1.1[a1.2.1.toNat]?).bind λx6=>(gx.ab (x6,())).bind λr7=>(jd.ab (a1.1,a1.2.1,r7.1,())).bind λr8=>if 0<=a1.2.1/\a1.2.1 < (r8.1.1.length:Int) then ((r8.1.1[a1.2.1.toNat]?).bind λx9=>(r8.1.1[a1.2.1.toNat]?).bind λFQ=>(rX.ab (FQ,a1.2.2.1,a1.2.2.2.1,())).bind λnu=>cond (!decide (nu.2.1=0)) (some (false,r8.1,()))<|(jd.ab (r8.1,a1.2.1,nu.1,())).bind λzs=>some (true,zs.1,())) else none) else none)<|cond (!decide (r4.2.1=0)) (some (false,a1.1,()))<|(jd.ab (a1.1,a1.2.1,r4.1,())).bind λuF=>some (true,uF.1,())) else none
theorem ae (a1:A):@Eq (Option O) (D.W k a1) (p a1):=Bye
theorem ok:Ok prog 324 D.sig:=al func324 av Bye (fc jd.ok (fc rX.ok (fc gx.ok (ai _))))
end ot
namespace pD
abbrev A:=Int×Int×Unit
abbrev O:=Byt×Unit
noncomputable def D:FD:={ fn:=f325,tl:=az,ps:=[(.ro,i64),(.ro,i64)],rs:=[((.aa u8),(aj (.aa u8)))] }
def ab (a:A):Option O:=@lift O λk=>D.W k a
def p (a1:A):Option O:=some ([(1:UInt8),UInt8.ofInt a1.1,UInt8.ofInt a1.2.1],())
theorem ae (a1:A):@Eq (Option O) (D.W k a1) (p a1):=Bye
theorem ok:Ok prog 325 D.sig:=al func325 av Bye (ai _)
end pD
namespace sg
abbrev A:=a_×ax×Row×Unit
abbrev O:=Bool×a_×Unit
noncomputable def D:FD:={ fn:=f323,tl:=az,ps:=[(.jl (aj de) (aj de),de),(.ro,(.ptr ij)),(.ro,(.ptr aT))],rs:=[(.bool,(ak .bool))],gl:=[(319,iU.D.sig),(320,jI.D.sig),(322,n_.D.sig),(324,ot.D.sig),(325,pD.D.sig)],es:=[0],od:=[(9,[0,1,2,3,4,5,6,7,8,9,10,11,12])] }
def ab (a:A):Option O:=@lift O λk=>D.W k a
def p (a1:A):Option O:=(jI.ab (2,a1.2.2.1,())).bind λr2=>(ot.ab (a1.1,a1.2.1.2.2.1.2.2.1,a1.2.1.2.2.1.2.2.2.1,r2.1,())).bind λr3=>cond r3.1 (some (true,r3.2.1,()))<|(iU.ab (r3.2.1,a1.2.1.2.2.1.2.2.1,r2.1,())).bind λr4=>cond (!r4.2.2.1) (some (false,r4.2.2.2.1,()))<|(pD.ab (r4.1,r4.2.1,())).bind λr5=>(ot.ab (r4.2.2.2.1,a1.2.1.1,a1.2.1.2.1,r5.1,())).bind λr6=>(n_.ab (r6.2.1,a1.2.1.2.2.1.2.2.1,a1.2.1.2.2.1.2.2.2.1,())).bind λr7=>some (true,r7.1,())
theorem ae (a1:A):@Eq (Option O) (D.W k a1) (p a1):=Bye
theorem ok:Ok prog 323 D.sig:=al func323 av Bye (fc iU.ok (fc jI.ok (fc n_.ok (fc ot.ok (fc pD.ok (ai _))))))
end sg
namespace qn
abbrev A:=(List Byt)×ax×Row×Unit
abbrev O:=dO×Unit
noncomputable def D:FD:={ fn:=f300,tl:=az,ps:=[(.ro,(.aa (.aa u8))),(.ro,(.ptr ij)),(.ro,(.ptr aT))],rs:=[(du,(aj du))],gl:=[(240,fu.D.sig),(318,lq.D.sig),(319,iU.D.sig),(320,jI.D.sig),(321,kR.D.sig),(323,sg.D.sig),(324,ot.D.sig),(325,pD.D.sig)],od:=[(2,[0,1,2,3,4,5,6,7,8]),(8,[0,1,2,3,4,5,6,7,8,9,10,11]),(10,[0,1,2,3,4,5,6,7,8,9,10,11,12,13,14]),(13,[0,1,2,3,4,5,6,7,8,9,10,11,12])] }
def ab (a:A):Option O:=@lift O λk=>D.W k a
def p (a1:A):Option O:=(lq.ab (a1.1,())).bind λr2=>cond (Ty.eq aT a1.2.1.2.2.1.2.2.2.2.1 a1.2.2.1) ((kR.ab (r2.1,())).bind λr3=>some (r3.1,()))<|cond (decide (a1.2.1.2.2.1.2.1=1)) ((sg.ab (r2.1,a1.2.1,a1.2.2.1,())).bind λr4=>cond (!r4.1) ((fu.ab (9,())).bind λr5=>some (r5.1,()))<|(kR.ab (r4.2.1,())).bind λr6=>some (r6.1,()))<|(jI.ab (0,a1.2.2.1,())).bind λr7=>(ot.ab (r2.1,a1.2.1.1,a1.2.1.2.1,r7.1,())).bind λr8=>cond r8.1 ((kR.ab (r8.2.1,())).bind λr9=>some (r9.1,()))<|(jI.ab (2,a1.2.2.1,())).bind λsf=>(iU.ab (r8.2.1,a1.2.1.1,sf.1,())).bind λnu=>cond (!nu.2.2.1) ((fu.ab (9,())).bind λru=>some (ru.1,()))<|(pD.ab (nu.1,nu.2.1,())).bind λzs=>(ot.ab (nu.2.2.2.1,a1.2.1.1,a1.2.1.2.1,zs.1,())).bind λuF=>(kR.ab (uF.2.1,())).bind λxt=>some (xt.1,())
theorem ae (a1:A):@Eq (Option O) (D.W k a1) (p a1):=Bye
theorem ok:Ok prog 300 D.sig:=al func300 av Bye (fc fu.ok (fc lq.ok (fc iU.ok (fc jI.ok (fc kR.ok (fc sg.ok (fc ot.ok (fc pD.ok (ai _)))))))))
end qn
namespace rY
abbrev A:=(List Byt)×Change×Unit
abbrev O:=dO×Unit
noncomputable def D:FD:={ fn:=f247,tl:=az,ps:=[(.ro,(.aa (.aa u8))),(.ro,(.ptr ao))],rs:=[(du,(aj du))],gl:=[(204,jA.D.sig),(240,fu.D.sig),(297,nm.D.sig),(298,ql.D.sig),(299,qm.D.sig),(300,qn.D.sig)],od:=[(3,[0,1,2,3,4,5,6,7,8,9,10,11,12,13,14,15,16,17,18])] }
def ab (a:A):Option O:=@lift O λk=>D.W k a
def p (a1:A):Option O:=(jA.ab (a1.2.1,())).bind λr2=>(nm.ab (a1.1,r2.1,r2.2.1,())).bind λr3=>let j9:Option O:=cond (!a1.2.1.1) ((ql.ab (a1.1,a1.2.1.2.2.2.1,())).bind λsf=>some (sf.1,()))<|cond (!a1.2.1.2.2.1) ((qm.ab (a1.1,r3.1,())).bind λnu=>some (nu.1,()))<|(qn.ab (a1.1,r3.1,a1.2.1.2.2.2.1,())).bind λru=>some (ru.1,());cond (!(r3.2.1 == a1.2.1.1)) ((fu.ab (8,())).bind λr4=>some (r4.1,()))<|cond r3.2.1 (cond (!(Ty.eq aT r3.1.2.2.1.2.2.2.2.1 a1.2.1.2.1)) ((fu.ab (8,())).bind λr5=>some (r5.1,()))<|j9)<|j9
theorem ae (a1:A):@Eq (Option O) (D.W k a1) (p a1):=Bye
theorem ok:Ok prog 247 D.sig:=al func247 av Bye (fc jA.ok (fc fu.ok (fc nm.ok (fc ql.ok (fc qm.ok (fc qn.ok (ai _)))))))
end rY
namespace pE
abbrev A:=Byt×Byt×Unit
abbrev O:=(List cr)×Unit
abbrev P:=Option O
noncomputable def D:FD:={ fn:=f301,tl:=az,ps:=[(.ro,(.aa u8)),(.ro,(.aa u8))],rs:=[((.aa oB),(aj (.aa oB)))],lv:=[(4,[0,1,5,6,7])],lx:=[(0,[5]),(1,[0,1,5,6,7])],od:=[(6,[0,1,2,3,4,5,6,7,8]),(12,[0,1,2,3,4,5,6,7,8,9,10,11,12,13])] }
def ab (a:A):P:=@lift O λk=>D.W k a
variable (a1:A)
def T0 (U:(List cr)×Bool×Int):St:={ n:=51,sl:=[(0,.val (.aa u8) a1.1),(1,.val (.aa u8) a1.2.1),(5,.own (.aa oB) (aj (.aa oB)) [] U.1),(6,.val .bool U.2.1),(7,.val i64 U.2.2)],vr:=[],ay:=[] }
def b0 (self:((List cr)×Bool×Int)->P) (e0:(List cr)->P) (a1:A) (U:(List cr)×Bool×Int):P:=cond (decide (U.2.2 < (a1.1.length:Int))) (if 0<=U.2.2 then ((a1.1[U.2.2.toNat]?).bind λa7=>if 0<=U.2.2 then ((a1.2.1[U.2.2.toNat]?).bind λg_=>cond (decide ((a7.toNat:Int)=(g_.toNat:Int))) (self (U.1,false,af (U.2.2+1)))<|let Pk:=λ(tZ:List cr)=>(if 0<=af ((tZ.length:Int) - 1)/\af ((tZ.length:Int) - 1) < (tZ.length:Int) then ((tZ[(af ((tZ.length:Int) - (1:Int))).toNat]?).bind λCn=>if 0<=U.2.2 then ((a1.2.1[U.2.2.toNat]?).bind λEU=>(tZ[(af ((tZ.length:Int) - (1:Int))).toNat]?).bind λCo=>(tZ[(af ((tZ.length:Int) - (1:Int))).toNat]?).bind λGF=>if Co.2.1.length+[EU].length<=ct then (if (af ((tZ.length:Int) - 1)).toNat=(af ((tZ.length:Int) - 1)).toNat then ((tZ.set (af ((tZ.length:Int) - 1)).toNat GF)[(af ((tZ.length:Int) - (1:Int))).toNat]?).bind λwu=>let Pm:=(tZ.set (af ((tZ.length:Int) - 1)).toNat GF).set (af ((tZ.length:Int) - 1)).toNat (wu.1,Co.2.1++[EU],wu.2.2);self (Pm,true,af (U.2.2+1)) else none) else none) else none) else none:P);cond (!U.2.1) (if U.1.length+[(U.2.2,([]:Byt),())].length<=ct then (let YO:=U.1++[(U.2.2,([]:Byt),())];Pk YO) else none)<|Pk U.1) else none) else none)<|e0 U.1
def q0 (a1:A) (LR:(List cr)):P:=some (LR,())
def r0:((List cr)×Bool×Int)->P:=am (λw v=>b0 w (q0 a1) a1 v) k
theorem aq:@Eq (((List cr)×Bool×Int)->P) (λU=>D.L k [1,1,1,0,1,0,0] [0,1,5,6,7] [] (ah 0 (aw (D.N k [1,1,1,1]) D.K0)) (T0 a1 U)) (r0 k a1):=
 funext λU=>ap _ _ _ (T0 a1) _ (λrec v=>Bye) k U
def p (l0:((List cr)×Bool×Int)->P) (a1:A):P:=l0 (([]:List cr),false,0)
theorem ae:@Eq P (D.W k a1) (p (r0 k a1) a1):=By8 (aq k a1) Bye
theorem ok:Ok prog 301 D.sig:=al func301 av Bye (ai _)
end pE
namespace t6
abbrev A:=(List Byt)×cr×Int×Int×Unit
abbrev O:=bk×Unit
noncomputable def D:FD:={ fn:=f248,tl:=az,ps:=[(.ro,(.aa (.aa u8))),(.ro,(.ptr oB)),(.ro,i64),(.ro,i64)],rs:=[(eg,(aj eg))],gl:=[(241,jU.D.sig),(301,pE.D.sig)],od:=[(4,[0,1,2,3,4,5,6,7,8,9,10,11,12,13])] }
def ab (a:A):Option O:=@lift O λk=>D.W k a
def p (a1:A):Option O:=(jU.ab ((0:UInt8),())).bind λr2=>cond (decide (a1.2.1.1 < (a1.1.length:Int))) (if 0<=a1.2.1.1 then ((a1.1[a1.2.1.1.toNat]?).bind λx3=>(pE.ab (x3,a1.2.1.2.1,())).bind λr5=>some ((a1.2.2.1,a1.2.2.2.1,a1.2.1.1,r5.1,()),())) else none)<|(pE.ab (r2.1,a1.2.1.2.1,())).bind λr6=>some ((a1.2.2.1,a1.2.2.2.1,a1.2.1.1,r6.1,()),())
theorem ae (a1:A):@Eq (Option O) (D.W k a1) (p a1):=Bye
theorem ok:Ok prog 248 D.sig:=al func248 av Bye (fc jU.ok (fc pE.ok (ai _)))
end t6
namespace lr
abbrev A:=(List Byt)×(List cr)×Unit
abbrev O:=dO×Unit
abbrev P:=Option O
noncomputable def D:FD:={ fn:=f249,tl:=az,ps:=[(.ro,(.aa (.aa u8))),(.ro,(.aa oB))],rs:=[(du,(aj du))],gl:=[(65,bp.D.sig),(126,iL.D.sig),(139,br.D.sig),(240,fu.D.sig)],lv:=[(5,[1,4,5,6])],lx:=[(0,[4,5])],od:=[(8,[0,1,2,3,4,5,6,7,8,9,10,11,12,13,14,15,16]),(12,[0,1,2,3,4,5,6,7]),(13,[0,1,2,3,4,5,6,7,8,9,10]),(14,[0,1,2,3,4,5,6,7,8,9,10,11,12]),(15,[0,1,2,3,4,5,6,7,8,9,10,11,12,13,14,15])] }
def ab (a:A):P:=@lift O λk=>D.W k a
variable (a1:A)
def T0 (c7:dO×Int):St:={ n:=94,sl:=[(1,.val (.aa oB) a1.2.1),(4,.box du (aj du) [] ((0:Int),([]:List cr),([]:List Byt),())),(5,.box du (aj du) [] c7.1),(6,.val i64 c7.2)],vr:=[],ay:=[] }
def b0 (self:(dO×Int)->P) (e0:dO->P) (a1:A) (c7:dO×Int):P:=cond (decide (c7.2 < (a1.2.1.length:Int))) (if 0<=c7.2 then ((a1.2.1[c7.2.toNat]?).bind λen=>cond (!decide ((en.2.1.length:Int)=64)) ((fu.ab (1,())).bind λky=>some (ky.1,()))<|(bp.ab (en.1,0,(c7.1.2.2.1.length:Int),())).bind λjm=>cond (!jm.1) ((fu.ab (1,())).bind λqv=>some (qv.1,()))<|cond (decide (en.1=12)) ((fu.ab (2,())).bind λwr=>some (wr.1,()))<|cond (decide (en.1=(c7.1.2.2.1.length:Int))) ((br.ab (en.2.1,())).bind λuG=>if c7.1.2.2.1.length+[uG.1].length<=ct then ((br.ab (en.2.1,())).bind λCp=>if c7.1.2.1.length+[(en.1,Cp.1,())].length<=ct then (self ((c7.1.1,c7.1.2.1++[(en.1,Cp.1,())],c7.1.2.2.1++[uG.1],c7.1.2.2.2),af (c7.2+1))) else none) else none)<|(br.ab (en.2.1,())).bind λPh=>if 0<=en.1/\en.1 < (c7.1.2.2.1.length:Int) then ((c7.1.2.2.1[en.1.toNat]?).bind λxK=>(br.ab (en.2.1,())).bind λUC=>if c7.1.2.1.length+[(en.1,UC.1,())].length<=ct then (self ((c7.1.1,c7.1.2.1++[(en.1,UC.1,())],c7.1.2.2.1.set en.1.toNat Ph.1,c7.1.2.2.2),af (c7.2+1))) else none) else none) else none)<|e0 c7.1
def q0 (a1:A) (YP:dO):P:=some (YP,())
def r0:(dO×Int)->P:=am (λw v=>b0 w (q0 a1) a1 v) k
theorem aq:@Eq ((dO×Int)->P) (λc7=>D.L k [1,1,1,0,1,0,0] [1,4,5,6] [] (ah 0 (aw (D.N k [1,1,1,1]) D.K0)) (T0 a1 c7)) (r0 k a1):=
 funext λc7=>ap _ _ _ (T0 a1) _ (λrec v=>Bye) k c7
def p (l0:(dO×Int)->P) (a1:A):P:=cond (decide (12 < (a1.1.length:Int))) ((fu.ab (2,())).bind λr2=>some (r2.1,()))<|(iL.ab (a1.1,())).bind λr3=>l0 ((0,([]:List cr),r3.1,()),0)
theorem ae:@Eq P (D.W k a1) (p (r0 k a1) a1):=By8 (aq k a1) Bye
theorem ok:Ok prog 249 D.sig:=al func249 av Bye (fc bp.ok (fc iL.ok (fc br.ok (fc fu.ok (ai _)))))
end lr
namespace jj
abbrev A:=ba×Change×Int×Int×Unit
abbrev O:=Int×ba×Unit
abbrev P:=Option O
noncomputable def D:FD:={ fn:=f165,tl:=az,ps:=[(.jl Byy Byy,bv),(.ro,(.ptr ao)),(.ro,i64),(.ro,i64)],rs:=[(i64,(ak i64))],gl:=[(129,lF.D.sig),(247,rY.D.sig),(248,t6.D.sig),(249,lr.D.sig)],es:=[0],lv:=[(5,[0,2,3,9,10])],lx:=[(0,[0])],od:=[(7,[0,1,2,3,4,5,6,7,8,9,10,11,12]),(11,[0,1,2,3,4,5,6,7,8,9,10,11,12,13,14,15])],ar:=[(7,[])],pd:=[(7,[11])],er:=[(7,[(3,13),(5,13)])] }
def ab (a:A):P:=@lift O λk=>D.W k a
variable (a1:A)
def T0 (d7:dO) (bf:ba×Int):St:={ n:=62,sl:=[(0,.box bv Byy [] bf.1),(2,.val i64 a1.2.2.1),(3,.val i64 a1.2.2.2.1),(9,.box du (aj du) [] d7),(10,.val i64 bf.2)],vr:=[],ay:=[(0,0,false)] }
def b0 (self:(ba×Int)->P) (e0:ba->P) (a1:A) (d7:dO) (bf:ba×Int):P:=cond (decide (bf.2 < (d7.2.1.length:Int))) (if 0<=bf.2/\bf.2 < (d7.2.1.length:Int) then ((d7.2.1[bf.2.toNat]?).bind λen=>(t6.ab (bf.1.2.1,en,a1.2.2.1,a1.2.2.2.1,())).bind λjm=>(lF.ab (bf.1,jm.1,())).bind λky=>cond (!decide (ky.1=0)) (some (ky.1,ky.2.1,()))<|if 0<=bf.2/\bf.2<=af (bf.2+1)/\af (bf.2+1)<=(d7.2.1.length:Int) then ((lr.ab (ky.2.1.2.1,(d7.2.1.take (af (bf.2+1)).toNat).drop bf.2.toNat,())).bind λqv=>self ((ky.2.1.1,qv.1.2.2.1,ky.2.1.2.2),af (bf.2+1))) else none) else none)<|e0 bf.1
def q0 (a1:A) (d7:dO) (wt:ba):P:=some (0,wt,())
def r0:dO->(ba×Int)->P:=λd7=>am (λw v=>b0 w (q0 a1 d7) a1 d7 v) k
theorem aq:@Eq (dO->(ba×Int)->P) (λd7=>λbf=>D.L k [1,1,1,0,1,0,0] [0,2,3,9,10] [] (ah 0 (aw (D.N k [1,1,1,1]) D.K0)) (T0 a1 d7 bf)) (r0 k a1):=
 funext λd7=>funext λbf=>ap _ _ _ (T0 a1 d7) _ (λrec v=>Bye) k bf
def p (l0:dO->(ba×Int)->P) (a1:A):P:=(rY.ab (a1.1.2.1,a1.2.1,())).bind λr2=>cond (!decide (r2.1.1=0)) (some (r2.1.1,a1.1,()))<|l0 r2.1 (a1.1,0)
theorem ae:@Eq P (D.W k a1) (p (r0 k a1) a1):=By8 (aq k a1) Bye
theorem ok:Ok prog 165 D.sig:=al func165 av Bye (fc lF.ok (fc rY.ok (fc t6.ok (fc lr.ok (ai _)))))
end jj
namespace jB
abbrev A:=ba×(List Change)×Int×Unit
abbrev O:=Int×ba×Unit
abbrev P:=Option O
noncomputable def D:FD:={ fn:=f128,tl:=az,ps:=[(.jl Byy Byy,bv),(.ro,(.aa ao)),(.ro,i64)],rs:=[(i64,(ak i64))],gl:=[(165,jj.D.sig),(206,jh.D.sig)],es:=[0],fz:=[(1,2,0)],lv:=[(3,[0,2,7,8])],lx:=[(0,[0])] }
def ab (a:A):P:=@lift O λk=>D.W k a
variable (a1:A)
def T0 (d7:List Change) (bf:ba×Int):St:={ n:=27,sl:=[(0,.box bv Byy [] bf.1),(2,.val i64 a1.2.2.1),(7,.val (.aa ao) d7),(8,.val i64 bf.2)],vr:=[],ay:=[(0,0,false)] }
def b0 (self:(ba×Int)->P) (e0:ba->P) (a1:A) (d7:List Change) (bf:ba×Int):P:=cond (decide (bf.2 < (d7.length:Int))) (if 0<=bf.2 then ((d7[bf.2.toNat]?).bind λen=>(jj.ab (bf.1,en,3,a1.2.2.1,())).bind λjm=>cond (!decide (jm.1=0)) (some (jm.1,jm.2.1,()))<|self (jm.2.1,af (bf.2+1))) else none)<|e0 bf.1
def q0 (a1:A) (d7:List Change) (kf:ba):P:=some (0,kf,())
def r0:(List Change)->(ba×Int)->P:=λd7=>am (λw v=>b0 w (q0 a1 d7) a1 d7 v) k
theorem aq:@Eq ((List Change)->(ba×Int)->P) (λd7=>λbf=>D.L k [1,1,0,1,0,0] [0,2,7,8] [] (ah 0 (aw (D.N k [1,1,1]) D.K0)) (T0 a1 d7 bf)) (r0 k a1):=
 funext λd7=>funext λbf=>ap _ _ _ (T0 a1 d7) _ (λrec v=>Bye) k bf
def p (l0:(List Change)->(ba×Int)->P) (a1:A):P:=(jh.ab (a1.2.1,())).bind λr2=>l0 r2.1 (a1.1,0)
theorem ae:@Eq P (D.W k a1) (p (r0 k a1) a1):=By8 (aq k a1) Bye
theorem ok:Ok prog 128 D.sig:=al func128 av Bye (fc jj.ok (fc jh.ok (ai _)))
end jB
namespace oc
abbrev A:=ba×Unit
abbrev O:=Int×ba×Unit
noncomputable def D:FD:={ fn:=f161,tl:=az,ps:=[(.jl Byy (ak bv),bv)],rs:=[(i64,(ak i64))],gl:=[(129,nl.D.sig)],es:=[0],od:=[(3,[0,1,2,3,4,5,6,7,8,9,10,11,12,13,14])] }
def ab (a:A):Option O:=@lift O λk=>D.W k a
def p (a1:A):Option O:=cond (decide (100<=a1.1.2.2.2.2.1)) (some (9,a1.1,()))<|if a1.1.2.2.2.1.length+[(a1.1.2.2.2.2.1,([]:List Change),([]:List Int),([]:List Key),())].length<=ct then (let y2:=a1.1.2.2.2.1++[(a1.1.2.2.2.2.1,([]:List Change),([]:List Int),([]:List Key),())];(nl.ab ((a1.1.1,a1.1.2.1,a1.1.2.2.1,y2,af (a1.1.2.2.2.2.1+1),a1.1.2.2.2.2.2),(1,af ((af (a1.1.2.2.2.2.1+1)) - 1),0,([]:List cr),()),())).bind λr3=>some (r3.1,r3.2.1,())) else none
theorem ae (a1:A):@Eq (Option O) (D.W k a1) (p a1):=Bye
theorem ok:Ok prog 161 D.sig:=al func161 av Bye (fc nl.ok (ai _))
end oc
namespace rH
abbrev A:=Tx×Int×Unit
abbrev O:=(List Change)×Tx×Unit
noncomputable def D:FD:={ fn:=f162,tl:=az,ps:=[(.jl Btt Btt,bh),(.ro,i64)],rs:=[((.aa ao),(aj (.aa ao)))],es:=[0] }
def ab (a:A):Option O:=@lift O λk=>D.W k a
def p (a1:A):Option O:=if 0<=a1.2.1/\a1.2.1 < (a1.1.2.2.1.length:Int) then ((a1.1.2.2.1[a1.2.1.toNat]?).bind λx2=>if 0<=x2/\x2<=(a1.1.2.1.length:Int) then (if ([]:List Change).length+((a1.1.2.1.take a1.1.2.1.length).drop x2.toNat).length<=ct then (let y3:=([]:List Change)++((a1.1.2.1.take a1.1.2.1.length).drop x2.toNat);if 0<=x2/\x2<=(a1.1.2.1.length:Int) then (if 0<=af (a1.2.1+1)/\af (a1.2.1+1)<=(a1.1.2.2.1.length:Int) then (let y4:=(a1.1.2.2.1.take (af (a1.2.1+1)).toNat).drop 0;some (y3,(a1.1.1,(a1.1.2.1.take x2.toNat).drop 0,y4,a1.1.2.2.2),())) else none) else none) else none) else none) else none
theorem ae (a1:A):@Eq (Option O) (D.W k a1) (p a1):=Bye
theorem ok:Ok prog 162 D.sig:=al func162 av Bye (ai _)
end rH
namespace oN
abbrev A:=(List Tx)×Int×Unit
abbrev O:=(List Tx)×Unit
abbrev P:=Option O
noncomputable def D:FD:={ fn:=f246,tl:=az,ps:=[(.ro,(.aa bh)),(.ro,i64)],rs:=[((.aa bh),(.aa true (ak bh)))],lv:=[(3,[0,1,5,6])],lx:=[(0,[5])],lf:=[(3,[(5,(.aa true Byb))])] }
def ab (a:A):P:=@lift O λk=>D.W k a
variable (a1:A)
def T0 (U:(List Tx)×Int):St:={ n:=25,sl:=[(0,.val (.aa bh) a1.1),(1,.val i64 a1.2.1),(5,.own (.aa bh) (.aa true (ak bh)) [] U.1),(6,.val i64 U.2)],vr:=[],ay:=[] }
def b0 (self:((List Tx)×Int)->P) (e0:(List Tx)->P) (a1:A) (U:(List Tx)×Int):P:=cond (decide (U.2 < (a1.1.length:Int))) (cond (!decide (U.2=a1.2.1)) (if 0<=U.2 then ((a1.1[U.2.toNat]?).bind λa7=>if U.1.length+[a7].length<=ct then (self (U.1++[a7],af (U.2+1))) else none) else none)<|self (U.1,af (U.2+1)))<|e0 U.1
def q0 (a1:A) (l_:(List Tx)):P:=some (l_,())
def r0:((List Tx)×Int)->P:=am (λw v=>b0 w (q0 a1) a1 v) k
theorem aq:@Eq (((List Tx)×Int)->P) (λU=>D.L k [1,1,0,1,0,0] [0,1,5,6] [(5,(.aa true Byb))] (ah 0 (aw (D.N k [1,1,1]) D.K0)) (T0 a1 U)) (r0 k a1):=
 funext λU=>ap _ _ _ (T0 a1) _ (λrec v=>Bye) k U
def p (l0:((List Tx)×Int)->P) (a1:A):P:=l0 (([]:List Tx),0)
theorem ae:@Eq P (D.W k a1) (p (r0 k a1) a1):=By8 (aq k a1) Bye
theorem ok:Ok prog 246 D.sig:=al func246 av Bye (ai _)
end oN
namespace sh
abbrev A:=ba×Int×Int×Unit
abbrev O:=Int×ba×Unit
noncomputable def D:FD:={ fn:=f163,tl:=az,ps:=[(.jl (ak bv) (ak bv),bv),(.ro,i64),(.ro,i64)],rs:=[(i64,(ak i64))],gl:=[(129,nl.D.sig),(246,oN.D.sig)],es:=[0] }
def ab (a:A):Option O:=@lift O λk=>D.W k a
def p (a1:A):Option O:=if 0<=a1.2.1 then ((a1.1.2.2.2.1[a1.2.1.toNat]?).bind λx2=>(oN.ab (a1.1.2.2.2.1,a1.2.1,())).bind λr3=>(nl.ab ((a1.1.1,a1.1.2.1,a1.1.2.2.1,r3.1,a1.1.2.2.2.2),(a1.2.2.1,x2.1,0,([]:List cr),()),())).bind λr4=>some (r4.1,r4.2.1,())) else none
theorem ae (a1:A):@Eq (Option O) (D.W k a1) (p a1):=Bye
theorem ok:Ok prog 163 D.sig:=al func163 av Bye (fc nl.ok (fc oN.ok (ai _)))
end sh
namespace jL
abbrev A:=ba×Unit
abbrev O:=Int×ba×Unit
abbrev P:=Option O
noncomputable def D:FD:={ fn:=f164,tl:=az,ps:=[(.jl Byy Byy,bv)],rs:=[(i64,(ak i64))],gl:=[(78,pB.D.sig),(129,lF.D.sig),(139,br.D.sig)],es:=[0],lv:=[(2,[0,3])],lx:=[(0,[0])] }
def ab (a:A):P:=@lift O λk=>D.W k a
variable (a1:A)
def T0 (a1:A) (U:ba×Int):St:={ n:=40,sl:=[(0,.box bv Byy [] U.1),(3,.val i64 U.2)],vr:=[],ay:=[(0,0,false)] }
def b0 (self:(ba×Int)->P) (e0:ba->P) (a1:A) (U:ba×Int):P:=cond (decide (U.2 < (U.1.2.1.length:Int))) (if 0<=U.2/\U.2 < (U.1.2.1.length:Int) then ((U.1.2.1[U.2.toNat]?).bind λa7=>(U.1.2.1[U.2.toNat]?).bind λg_=>(br.ab (g_,())).bind λlj=>(lF.ab (U.1,(4,0,U.2,[((0:Int),lj.1,())],()),())).bind λjm=>cond (!decide (jm.1=0)) (some (jm.1,jm.2.1,()))<|self (jm.2.1,af (U.2+1))) else none)<|e0 U.1
def q0 (a1:A) (kf:ba):P:=(pB.ab (kf.2.2.1,())).bind λqv=>some (0,(kf.1,kf.2.1,qv.1,kf.2.2.2),())
def r0:(ba×Int)->P:=am (λw v=>b0 w (q0 a1) a1 v) k
theorem aq:@Eq ((ba×Int)->P) (λU=>D.L k [1,0,1,0,0] [0,3] [] (ah 0 (aw (D.N k [1,1]) D.K0)) (T0 a1 U)) (r0 k a1):=
 funext λU=>ap _ _ _ (T0 a1) _ (λrec v=>Bye) k U
def p (l0:(ba×Int)->P) (a1:A):P:=l0 (a1.1,0)
theorem ae:@Eq P (D.W k a1) (p (r0 k a1) a1):=By8 (aq k a1) Bye
theorem ok:Ok prog 164 D.sig:=al func164 av Bye (fc pB.ok (fc lF.ok (fc br.ok (ai _))))
end jL
namespace pP
abbrev A:=(List Tx)×Int×Change×Unit
abbrev O:=(List Tx)×Unit
noncomputable def D:FD:={ fn:=f166,tl:=az,ps:=[(.ro,(.aa bh)),(.ro,i64),(.ro,ao)],rs:=[((.aa bh),(aj (.aa bh)))],gl:=[(127,ln.D.sig),(250,mY.D.sig),(251,i9.D.sig)],od:=[(3,[0,1,2,3,4,5,6,7,8,9,10]),(6,[0,1,2,3,4,5,6,7,8,9,10])] }
def ab (a:A):Option O:=@lift O λk=>D.W k a
def p (a1:A):Option O:=(ln.ab (a1.1,())).bind λr2=>if 0<=a1.2.1/\a1.2.1 < (r2.1.length:Int) then ((r2.1[a1.2.1.toNat]?).bind λx3=>(r2.1[a1.2.1.toNat]?).bind λx4=>(r2.1[a1.2.1.toNat]?).bind λx5=>if x4.2.1.length+[a1.2.2.1].length<=ct then (if a1.2.1.toNat=a1.2.1.toNat then ((r2.1.set a1.2.1.toNat x5)[a1.2.1.toNat]?).bind λx6=>let y7:=(r2.1.set a1.2.1.toNat x5).set a1.2.1.toNat (x6.1,x4.2.1++[a1.2.2.1],x6.2.2);(mY.ab (a1.2.2.1,())).bind λr8=>(y7[a1.2.1.toNat]?).bind λx9=>(i9.ab (x9,r8.1,())).bind λsf=>cond (!sf.1) ((y7[a1.2.1.toNat]?).bind λWW=>(y7[a1.2.1.toNat]?).bind λSS=>(y7[a1.2.1.toNat]?).bind λKq=>if SS.2.2.2.1.length+[r8.1].length<=ct then (if a1.2.1.toNat=a1.2.1.toNat then ((y7.set a1.2.1.toNat Kq)[a1.2.1.toNat]?).bind λGG=>let y15:=(y7.set a1.2.1.toNat Kq).set a1.2.1.toNat (GG.1,GG.2.1,GG.2.2.1,SS.2.2.2.1++[r8.1],GG.2.2.2.2);some (y15,()) else none) else none)<|some (y7,()) else none) else none) else none
theorem ae (a1:A):@Eq (Option O) (D.W k a1) (p a1):=Bye
theorem ok:Ok prog 166 D.sig:=al func166 av Bye (fc ln.ok (fc mY.ok (fc i9.ok (ai _))))
end pP
namespace jo
abbrev A:=ba×Op×bz×Unit
abbrev O:=Int×Int×ba×Unit
noncomputable def D:FD:={ fn:=f94,tl:=az,ps:=[(.jl Byy (ak bv),bv),(.ro,(.ptr oY)),(.ro,(.ptr fh))],rs:=[(i64,(ak i64)),(i64,(ak i64))],gl:=[(78,pB.D.sig),(128,jB.D.sig),(160,mO.D.sig),(161,oc.D.sig),(162,rH.D.sig),(163,sh.D.sig),(164,jL.D.sig),(165,jj.D.sig),(166,pP.D.sig)],es:=[0],od:=[(1,[0,1,2,3,4,5,6,7,8,9]),(8,[0,1,2,3,4,5,6,7,8,9,10,11,12,13,14,15,16,17,18,19,20,21,22,23,24,25,26]),(11,[0,1,2,3,4,5,6,7,8,9,10,12,13,14,15,11,16,17,18]),(17,[0,1,2,3,4,5,6,7,8,9,10,11,12,13,14]),(25,[0,1,2,3,4,5,6,7,8,9]),(28,[0,1,2,3,4,5,6,7,8,9,10,11,12,13])],ar:=[(11,[10,15])],er:=[(8,[(3,27)]),(11,[(4,16)])] }
def ab (a:A):Option O:=@lift O λk=>D.W k a
def p (a1:A):Option O:=(mO.ab (a1.1.2.2.2.1,a1.2.1.2.1,())).bind λr2=>cond (decide (a1.2.1.1=1)) ((oc.ab (a1.1,())).bind λr3=>some (a1.1.2.2.2.2.1,r3.1,r3.2.1,()))<|cond (decide (a1.2.1.1=5)) (if 0<=r2.1/\r2.1 < (a1.1.2.2.2.1.length:Int) then ((a1.1.2.2.2.1[r2.1.toNat]?).bind λx4=>(a1.1.2.2.2.1[r2.1.toNat]?).bind λx5=>if 0<=r2.1/\r2.1 < (a1.1.2.2.2.1.length:Int) then ((a1.1.2.2.2.1[r2.1.toNat]?).bind λx6=>if 0<=r2.1/\r2.1 < (a1.1.2.2.2.1.length:Int) then ((a1.1.2.2.2.1[r2.1.toNat]?).bind λx7=>(a1.1.2.2.2.1[r2.1.toNat]?).bind λx8=>(a1.1.2.2.2.1[r2.1.toNat]?).bind λx9=>if x8.2.2.1.length+[(x7.2.1.length:Int)].length<=ct then (if 0<=r2.1/\r2.1 < ((a1.1.2.2.2.1.set r2.1.toNat x9).length:Int) then (if r2.1.toNat=r2.1.toNat then ((a1.1.2.2.2.1.set r2.1.toNat x9)[r2.1.toNat]?).bind λFQ=>let y11:=(a1.1.2.2.2.1.set r2.1.toNat x9).set r2.1.toNat (FQ.1,FQ.2.1,x8.2.2.1++[(x7.2.1.length:Int)],FQ.2.2.2);some ((x5.2.2.1.length:Int),0,(a1.1.1,a1.1.2.1,a1.1.2.2.1,y11,a1.1.2.2.2.2),()) else none) else none) else none) else none) else none) else none)<|cond (decide (a1.2.1.1=6)) (if 0<=r2.1/\r2.1 < (a1.1.2.2.2.1.length:Int) then ((a1.1.2.2.2.1[r2.1.toNat]?).bind λKq=>(a1.1.2.2.2.1[r2.1.toNat]?).bind λGG=>(rH.ab (GG,a1.2.1.2.2.2.1,())).bind λxt=>(a1.1.2.2.2.1[r2.1.toNat]?).bind λMM=>(jB.ab ((a1.1.1,a1.1.2.1,a1.1.2.2.1,a1.1.2.2.2.1.set r2.1.toNat xt.2.1,a1.1.2.2.2.2),xt.1,a1.2.1.2.1,())).bind λA6=>some (0,A6.1,A6.2.1,())) else none)<|cond (decide (a1.2.1.1=7)) ((sh.ab (a1.1,r2.1,5,())).bind λD4=>(pB.ab (D4.2.1.2.2.1,())).bind λWX=>some (0,D4.1,(D4.2.1.1,D4.2.1.2.1,WX.1,D4.2.1.2.2.2),()))<|cond (decide (a1.2.1.1=8)) (if 0<=r2.1/\r2.1 < (a1.1.2.2.2.1.length:Int) then ((a1.1.2.2.2.1[r2.1.toNat]?).bind λSQ=>(jB.ab (a1.1,SQ.2.1,a1.2.1.2.1,())).bind λCm=>cond (!decide (Cm.1=0)) (some (0,Cm.1,Cm.2.1,()))<|(sh.ab (Cm.2.1,r2.1,6,())).bind λPe=>some (0,Pe.1,Pe.2.1,())) else none)<|cond (decide (a1.2.1.1=9)) ((jL.ab (a1.1,())).bind λWY=>some (0,WY.1,WY.2.1,()))<|cond (!a1.2.2.1.2.1) (some (0,0,a1.1,()))<|(jj.ab (a1.1,a1.2.2.1.2.2.1,2,a1.2.1.2.1,())).bind λDa=>cond (!decide (Da.1=0)) (some (0,Da.1,Da.2.1,()))<|(pP.ab (Da.2.1.2.2.2.1,r2.1,a1.2.2.1.2.2.1,())).bind λWZ=>some (0,0,(Da.2.1.1,Da.2.1.2.1,Da.2.1.2.2.1,WZ.1,Da.2.1.2.2.2.2),())
theorem ae (a1:A):@Eq (Option O) (D.W k a1) (p a1):=Bye
theorem ok:Ok prog 94 D.sig:=al func94 av Bye (fc pB.ok (fc jB.ok (fc mO.ok (fc oc.ok (fc rH.ok (fc sh.ok (fc jL.ok (fc jj.ok (fc pP.ok (ai _))))))))))
end jo
namespace pQ
abbrev A:=ba×Op×Unit
abbrev O:=mn×Unit
noncomputable def D:FD:={ fn:=f41,tl:=az,ps:=[(.ro,bv),(.ro,(.ptr oY))],rs:=[(ff,(ak ff))],gl:=[(40,nZ.D.sig),(67,sF.D.sig),(89,jk.D.sig),(93,qX.D.sig),(94,jo.D.sig)],fz:=[(3,1,7),(3,4,7)],od:=[(3,[0,1,3,4,5,6,7,2,8,9,10])],ar:=[(3,[7])],pd:=[(3,[9])],er:=[(3,[(1,11),(4,11)])] }
def ab (a:A):Option O:=@lift O λk=>D.W k a
def p (a1:A):Option O:=cond (!a1.1.1) ((nZ.ab (8,())).bind λr2=>some (r2.1,()))<|(jk.ab (a1.1.2.1,())).bind λr3=>(qX.ab (r3.1,a1.1.2.2.2.1,a1.2.1,())).bind λr4=>cond (!decide (r4.1.1=0)) ((nZ.ab (r4.1.1,())).bind λr5=>some (r5.1,()))<|let FO:Option O:=(sF.ab (a1.1,())).bind λnu=>(jo.ab (nu.1,a1.2.1,r4.1,())).bind λru=>cond (!decide (ru.2.1=0)) ((nZ.ab (ru.2.1,())).bind λzs=>some (zs.1,()))<|some ((0,ru.1,ru.2.2.1,()),());cond (!decide (a1.2.1.1=6)) (cond (!decide (a1.2.1.1=8)) (cond (decide (4000 < af ((a1.1.2.2.1.1.length:Int)+(a1.1.2.2.1.2.1.length:Int)))) ((nZ.ab (9,())).bind λr6=>some (r6.1,()))<|FO)<|FO)<|FO
theorem ae (a1:A):@Eq (Option O) (D.W k a1) (p a1):=Bye
theorem ok:Ok prog 41 D.sig:=al func41 av Bye (fc nZ.ok (fc sF.ok (fc jk.ok (fc qX.ok (fc jo.ok (ai _))))))
end pQ
namespace pR
abbrev A:=ba×Op×Unit
abbrev O:=mn×Unit
noncomputable def D:FD:={ fn:=f9,tl:=az,ps:=[(.ro,bv),(.ro,oY)],rs:=[(ff,(ak ff))],gl:=[(39,rG.D.sig),(40,nZ.D.sig),(41,pQ.D.sig)] }
def ab (a:A):Option O:=@lift O λk=>D.W k a
def p (a1:A):Option O:=(rG.ab (a1.1,())).bind λr2=>cond (!decide (r2.1=0)) ((nZ.ab (r2.1,())).bind λr3=>some (r3.1,()))<|(pQ.ab (a1.1,a1.2.1,())).bind λr4=>some (r4.1,())
theorem ae (a1:A):@Eq (Option O) (D.W k a1) (p a1):=Bye
theorem ok:Ok prog 9 D.sig:=al func9 av Bye (fc rG.ok (fc nZ.ok (fc pQ.ok (ai _))))
end pR
namespace nN
abbrev A:=Byt×Unit
abbrev O:=Byt×Unit
abbrev P:=Option O
noncomputable def D:FD:={ fn:=f95,tl:=az,ps:=[(.ro,(.aa u8))],rs:=[((.aa u8),(aj (.aa u8)))],lv:=[(3,[0,3,4])],lx:=[(0,[3])] }
def ab (a:A):P:=@lift O λk=>D.W k a
variable (a1:A)
def T0 (U:Byt×Int):St:={ n:=22,sl:=[(0,.val (.aa u8) a1.1),(3,.own (.aa u8) (aj (.aa u8)) [] U.1),(4,.val i64 U.2)],vr:=[],ay:=[] }
def b0 (self:(Byt×Int)->P) (e0:Byt->P) (a1:A) (U:Byt×Int):P:=cond (decide (U.2 < (a1.1.length:Int))) (if 0<=U.2 then ((a1.1[U.2.toNat]?).bind λa7=>if 0<=U.2/\U.2 < (U.1.length:Int) then ((U.1[U.2.toNat]?).bind λg_=>self (U.1.set U.2.toNat a7,af (U.2+1))) else none) else none)<|e0 U.1
def q0 (a1:A) (e8:Byt):P:=some (e8,())
def r0:(Byt×Int)->P:=am (λw v=>b0 w (q0 a1) a1 v) k
theorem aq:@Eq ((Byt×Int)->P) (λU=>D.L k [1,1,0,1,0,0] [0,3,4] [] (ah 0 (aw (D.N k [1,1,1]) D.K0)) (T0 a1 U)) (r0 k a1):=
 funext λU=>ap _ _ _ (T0 a1) _ (λrec v=>Bye) k U
def p (l0:(Byt×Int)->P) (a1:A):P:=if 0<=(a1.1.length:Int)/\(a1.1.length:Int)<=(a1.1.length:Int)/\(a1.1.length:Int)<=(ct:Int) then (l0 (List.replicate (a1.1.length:Int).toNat (0:UInt8),0)) else none
theorem ae:@Eq P (D.W k a1) (p (r0 k a1) a1):=By8 (aq k a1) Bye
theorem ok:Ok prog 95 D.sig:=al func95 av Bye (ai _)
end nN
namespace s9
abbrev A:=(List Byt)×Unit
abbrev O:=(List Byt)×Unit
abbrev P:=Option O
noncomputable def D:FD:={ fn:=f42,tl:=az,ps:=[(.ro,(.aa (.aa u8)))],rs:=[((.aa (.aa u8)),(aj (.aa (.aa u8))))],gl:=[(95,nN.D.sig)],lv:=[(3,[0,3,4])],lx:=[(0,[3])] }
def ab (a:A):P:=@lift O λk=>D.W k a
variable (a1:A)
def T0 (U:(List Byt)×Int):St:={ n:=23,sl:=[(0,.val (.aa (.aa u8)) a1.1),(3,.own (.aa (.aa u8)) (aj (.aa (.aa u8))) [] U.1),(4,.val i64 U.2)],vr:=[],ay:=[] }
def b0 (self:((List Byt)×Int)->P) (e0:(List Byt)->P) (a1:A) (U:(List Byt)×Int):P:=cond (decide (U.2 < (a1.1.length:Int))) (if 0<=U.2 then ((a1.1[U.2.toNat]?).bind λa7=>(nN.ab (a7,())).bind λdz=>if 0<=U.2/\U.2 < (U.1.length:Int) then ((U.1[U.2.toNat]?).bind λen=>self (U.1.set U.2.toNat dz.1,af (U.2+1))) else none) else none)<|e0 U.1
def q0 (a1:A) (rW:(List Byt)):P:=some (rW,())
def r0:((List Byt)×Int)->P:=am (λw v=>b0 w (q0 a1) a1 v) k
theorem aq:@Eq (((List Byt)×Int)->P) (λU=>D.L k [1,1,0,1,0,0] [0,3,4] [] (ah 0 (aw (D.N k [1,1,1]) D.K0)) (T0 a1 U)) (r0 k a1):=
 funext λU=>ap _ _ _ (T0 a1) _ (λrec v=>Bye) k U
def p (l0:((List Byt)×Int)->P) (a1:A):P:=if 0<=(a1.1.length:Int)/\(a1.1.length:Int)<=(a1.1.length:Int)/\(a1.1.length:Int)<=(ct:Int) then (l0 (List.replicate (a1.1.length:Int).toNat ([]:Byt),0)) else none
theorem ae:@Eq P (D.W k a1) (p (r0 k a1) a1):=By8 (aq k a1) Bye
theorem ok:Ok prog 42 D.sig:=al func42 av Bye (fc nN.ok (ai _))
end s9
namespace vd
abbrev A:=Log×Unit
abbrev O:=Log×Unit
noncomputable def D:FD:={ fn:=f43,tl:=az,ps:=[(.ro,ey)],rs:=[(ey,(aj ey))],gl:=[(95,nN.D.sig)] }
def ab (a:A):Option O:=@lift O λk=>D.W k a
def p (a1:A):Option O:=(nN.ab (a1.1.1,())).bind λr2=>(nN.ab (a1.1.2.1,())).bind λr3=>some ((r2.1,r3.1,()),())
theorem ae (a1:A):@Eq (Option O) (D.W k a1) (p a1):=Bye
theorem ok:Ok prog 43 D.sig:=al func43 av Bye (fc nN.ok (ai _))
end vd
namespace pT
abbrev A:=Row×Unit
abbrev O:=Row×Unit
noncomputable def D:FD:={ fn:=f45,tl:=az,ps:=[(.ro,aT)],rs:=[(aT,(ak aT))] }
def ab (a:A):Option O:=@lift O λk=>D.W k a
def p (a1:A):Option O:=some ((a1.1.1,a1.1.2.1,a1.1.2.2.1,a1.1.2.2.2.1,()),())
theorem ae (a1:A):@Eq (Option O) (D.W k a1) (p a1):=Bye
theorem ok:Ok prog 45 D.sig:=al func45 av Bye (ai _)
end pT
namespace qo
abbrev A:=Change×Unit
abbrev O:=Change×Unit
noncomputable def D:FD:={ fn:=f130,tl:=az,ps:=[(.ro,ao)],rs:=[(ao,(ak ao))],gl:=[(45,pT.D.sig)] }
def ab (a:A):Option O:=@lift O λk=>D.W k a
def p (a1:A):Option O:=(pT.ab (a1.1.2.1,())).bind λr2=>(pT.ab (a1.1.2.2.2.1,())).bind λr3=>some ((a1.1.1,r2.1,a1.1.2.2.1,r3.1,()),())
theorem ae (a1:A):@Eq (Option O) (D.W k a1) (p a1):=Bye
theorem ok:Ok prog 130 D.sig:=al func130 av Bye (fc pT.ok (ai _))
end qo
namespace sr
abbrev A:=(List Change)×Unit
abbrev O:=(List Change)×Unit
abbrev P:=Option O
noncomputable def D:FD:={ fn:=f69,tl:=az,ps:=[(.ro,(.aa ao))],rs:=[((.aa ao),(aj (.aa ao)))],gl:=[(130,qo.D.sig)],lv:=[(3,[0,3,4])],lx:=[(0,[3])] }
def ab (a:A):P:=@lift O λk=>D.W k a
variable (a1:A)
def T0 (U:(List Change)×Int):St:={ n:=23,sl:=[(0,.val (.aa ao) a1.1),(3,.own (.aa ao) (aj (.aa ao)) [] U.1),(4,.val i64 U.2)],vr:=[],ay:=[] }
def b0 (self:((List Change)×Int)->P) (e0:(List Change)->P) (a1:A) (U:(List Change)×Int):P:=cond (decide (U.2 < (a1.1.length:Int))) (if 0<=U.2 then ((a1.1[U.2.toNat]?).bind λa7=>(qo.ab (a7,())).bind λdz=>if 0<=U.2/\U.2 < (U.1.length:Int) then ((U.1[U.2.toNat]?).bind λen=>self (U.1.set U.2.toNat dz.1,af (U.2+1))) else none) else none)<|e0 U.1
def q0 (a1:A) (rW:(List Change)):P:=some (rW,())
def r0:((List Change)×Int)->P:=am (λw v=>b0 w (q0 a1) a1 v) k
theorem aq:@Eq (((List Change)×Int)->P) (λU=>D.L k [1,1,0,1,0,0] [0,3,4] [] (ah 0 (aw (D.N k [1,1,1]) D.K0)) (T0 a1 U)) (r0 k a1):=
 funext λU=>ap _ _ _ (T0 a1) _ (λrec v=>Bye) k U
def p (l0:((List Change)×Int)->P) (a1:A):P:=if 0<=(a1.1.length:Int)/\(a1.1.length:Int)<=(a1.1.length:Int)/\(a1.1.length:Int)<=(ct:Int) then (l0 (List.replicate (a1.1.length:Int).toNat (false,(0,0,0,([]:Byt),()),false,(0,0,0,([]:Byt),()),()),0)) else none
theorem ae:@Eq P (D.W k a1) (p (r0 k a1) a1):=By8 (aq k a1) Bye
theorem ok:Ok prog 69 D.sig:=al func69 av Bye (fc qo.ok (ai _))
end sr
namespace s_
abbrev A:=(List Int)×Unit
abbrev O:=(List Int)×Unit
abbrev P:=Option O
noncomputable def D:FD:={ fn:=f167,tl:=az,ps:=[(.ro,(.aa i64))],rs:=[((.aa i64),(aj (.aa i64)))],lv:=[(3,[0,3,4])],lx:=[(0,[3])] }
def ab (a:A):P:=@lift O λk=>D.W k a
variable (a1:A)
def T0 (U:(List Int)×Int):St:={ n:=22,sl:=[(0,.val (.aa i64) a1.1),(3,.own (.aa i64) (aj (.aa i64)) [] U.1),(4,.val i64 U.2)],vr:=[],ay:=[] }
def b0 (self:((List Int)×Int)->P) (e0:(List Int)->P) (a1:A) (U:(List Int)×Int):P:=cond (decide (U.2 < (a1.1.length:Int))) (if 0<=U.2 then ((a1.1[U.2.toNat]?).bind λa7=>if 0<=U.2/\U.2 < (U.1.length:Int) then ((U.1[U.2.toNat]?).bind λg_=>self (U.1.set U.2.toNat a7,af (U.2+1))) else none) else none)<|e0 U.1
def q0 (a1:A) (e8:(List Int)):P:=some (e8,())
def r0:((List Int)×Int)->P:=am (λw v=>b0 w (q0 a1) a1 v) k
theorem aq:@Eq (((List Int)×Int)->P) (λU=>D.L k [1,1,0,1,0,0] [0,3,4] [] (ah 0 (aw (D.N k [1,1,1]) D.K0)) (T0 a1 U)) (r0 k a1):=
 funext λU=>ap _ _ _ (T0 a1) _ (λrec v=>Bye) k U
def p (l0:((List Int)×Int)->P) (a1:A):P:=if 0<=(a1.1.length:Int)/\(a1.1.length:Int)<=(a1.1.length:Int)/\(a1.1.length:Int)<=(ct:Int) then (l0 (List.replicate (a1.1.length:Int).toNat 0,0)) else none
theorem ae:@Eq P (D.W k a1) (p (r0 k a1) a1):=By8 (aq k a1) Bye
theorem ok:Ok prog 167 D.sig:=al func167 av Bye (ai _)
end s_
namespace tF
abbrev A:=Key×Unit
abbrev O:=Key×Unit
noncomputable def D:FD:={ fn:=f252,tl:=az,ps:=[(.ro,bc)],rs:=[(bc,(ak bc))] }
def ab (a:A):Option O:=@lift O λk=>D.W k a
def p (a1:A):Option O:=some ((a1.1.1,a1.1.2.1,()),())
theorem ae (a1:A):@Eq (Option O) (D.W k a1) (p a1):=Bye
theorem ok:Ok prog 252 D.sig:=al func252 av Bye (ai _)
end tF
namespace vN
abbrev A:=(List Key)×Unit
abbrev O:=(List Key)×Unit
abbrev P:=Option O
noncomputable def D:FD:={ fn:=f168,tl:=az,ps:=[(.ro,(.aa bc))],rs:=[((.aa bc),(aj (.aa bc)))],gl:=[(252,tF.D.sig)],lv:=[(3,[0,3,4])],lx:=[(0,[3])] }
def ab (a:A):P:=@lift O λk=>D.W k a
variable (a1:A)
def T0 (U:(List Key)×Int):St:={ n:=23,sl:=[(0,.val (.aa bc) a1.1),(3,.own (.aa bc) (aj (.aa bc)) [] U.1),(4,.val i64 U.2)],vr:=[],ay:=[] }
def b0 (self:((List Key)×Int)->P) (e0:(List Key)->P) (a1:A) (U:(List Key)×Int):P:=cond (decide (U.2 < (a1.1.length:Int))) (if 0<=U.2 then ((a1.1[U.2.toNat]?).bind λa7=>(tF.ab (a7,())).bind λdz=>if 0<=U.2/\U.2 < (U.1.length:Int) then ((U.1[U.2.toNat]?).bind λen=>self (U.1.set U.2.toNat dz.1,af (U.2+1))) else none) else none)<|e0 U.1
def q0 (a1:A) (rW:(List Key)):P:=some (rW,())
def r0:((List Key)×Int)->P:=am (λw v=>b0 w (q0 a1) a1 v) k
theorem aq:@Eq (((List Key)×Int)->P) (λU=>D.L k [1,1,0,1,0,0] [0,3,4] [] (ah 0 (aw (D.N k [1,1,1]) D.K0)) (T0 a1 U)) (r0 k a1):=
 funext λU=>ap _ _ _ (T0 a1) _ (λrec v=>Bye) k U
def p (l0:((List Key)×Int)->P) (a1:A):P:=if 0<=(a1.1.length:Int)/\(a1.1.length:Int)<=(a1.1.length:Int)/\(a1.1.length:Int)<=(ct:Int) then (l0 (List.replicate (a1.1.length:Int).toNat (0,0,()),0)) else none
theorem ae:@Eq P (D.W k a1) (p (r0 k a1) a1):=By8 (aq k a1) Bye
theorem ok:Ok prog 168 D.sig:=al func168 av Bye (fc tF.ok (ai _))
end vN
namespace uQ
abbrev A:=Tx×Unit
abbrev O:=Tx×Unit
noncomputable def D:FD:={ fn:=f96,tl:=az,ps:=[(.ro,bh)],rs:=[(bh,(aj bh))],gl:=[(69,sr.D.sig),(167,s_.D.sig),(168,vN.D.sig)] }
def ab (a:A):Option O:=@lift O λk=>D.W k a
def p (a1:A):Option O:=(sr.ab (a1.1.2.1,())).bind λr2=>(s_.ab (a1.1.2.2.1,())).bind λr3=>(vN.ab (a1.1.2.2.2.1,())).bind λr4=>some ((a1.1.1,r2.1,r3.1,r4.1,()),())
theorem ae (a1:A):@Eq (Option O) (D.W k a1) (p a1):=Bye
theorem ok:Ok prog 96 D.sig:=al func96 av Bye (fc sr.ok (fc s_.ok (fc vN.ok (ai _))))
end uQ
namespace wP
abbrev A:=(List Tx)×Unit
abbrev O:=(List Tx)×Unit
abbrev P:=Option O
noncomputable def D:FD:={ fn:=f44,tl:=az,ps:=[(.ro,(.aa bh))],rs:=[((.aa bh),(aj (.aa bh)))],gl:=[(96,uQ.D.sig)],lv:=[(3,[0,3,4])],lx:=[(0,[3])] }
def ab (a:A):P:=@lift O λk=>D.W k a
variable (a1:A)
def T0 (U:(List Tx)×Int):St:={ n:=23,sl:=[(0,.val (.aa bh) a1.1),(3,.own (.aa bh) (aj (.aa bh)) [] U.1),(4,.val i64 U.2)],vr:=[],ay:=[] }
def b0 (self:((List Tx)×Int)->P) (e0:(List Tx)->P) (a1:A) (U:(List Tx)×Int):P:=cond (decide (U.2 < (a1.1.length:Int))) (if 0<=U.2 then ((a1.1[U.2.toNat]?).bind λa7=>(uQ.ab (a7,())).bind λdz=>if 0<=U.2/\U.2 < (U.1.length:Int) then ((U.1[U.2.toNat]?).bind λen=>self (U.1.set U.2.toNat dz.1,af (U.2+1))) else none) else none)<|e0 U.1
def q0 (a1:A) (rW:(List Tx)):P:=some (rW,())
def r0:((List Tx)×Int)->P:=am (λw v=>b0 w (q0 a1) a1 v) k
theorem aq:@Eq (((List Tx)×Int)->P) (λU=>D.L k [1,1,0,1,0,0] [0,3,4] [] (ah 0 (aw (D.N k [1,1,1]) D.K0)) (T0 a1 U)) (r0 k a1):=
 funext λU=>ap _ _ _ (T0 a1) _ (λrec v=>Bye) k U
def p (l0:((List Tx)×Int)->P) (a1:A):P:=if 0<=(a1.1.length:Int)/\(a1.1.length:Int)<=(a1.1.length:Int)/\(a1.1.length:Int)<=(ct:Int) then (l0 (List.replicate (a1.1.length:Int).toNat (0,([]:List Change),([]:List Int),([]:List Key),()),0)) else none
theorem ae:@Eq P (D.W k a1) (p (r0 k a1) a1):=By8 (aq k a1) Bye
theorem ok:Ok prog 44 D.sig:=al func44 av Bye (fc uQ.ok (ai _))
end wP
namespace oO
abbrev A:=ba×Unit
abbrev O:=ba×Unit
noncomputable def D:FD:={ fn:=f10,tl:=az,ps:=[(.ro,bv)],rs:=[(bv,(aj bv))],gl:=[(42,s9.D.sig),(43,vd.D.sig),(44,wP.D.sig)] }
def ab (a:A):Option O:=@lift O λk=>D.W k a
def p (a1:A):Option O:=(s9.ab (a1.1.2.1,())).bind λr2=>(vd.ab (a1.1.2.2.1,())).bind λr3=>(wP.ab (a1.1.2.2.2.1,())).bind λr4=>some ((a1.1.1,r2.1,r3.1,r4.1,a1.1.2.2.2.2.1,()),())
theorem ae (a1:A):@Eq (Option O) (D.W k a1) (p a1):=Bye
theorem ok:Ok prog 10 D.sig:=al func10 av Bye (fc s9.ok (fc vd.ok (fc wP.ok (ai _))))
end oO
namespace tG
abbrev A:=Op×Unit
abbrev O:=Op×Unit
noncomputable def D:FD:={ fn:=f11,tl:=az,ps:=[(.ro,oY)],rs:=[(oY,(ak oY))],gl:=[(45,pT.D.sig)] }
def ab (a:A):Option O:=@lift O λk=>D.W k a
def p (a1:A):Option O:=(pT.ab (a1.1.2.2.1,())).bind λr2=>some ((a1.1.1,a1.1.2.1,r2.1,a1.1.2.2.2.1,()),())
theorem ae (a1:A):@Eq (Option O) (D.W k a1) (p a1):=Bye
theorem ok:Ok prog 11 D.sig:=al func11 av Bye (fc pT.ok (ai _))
end tG
namespace cd
abbrev A:=Byt×Unit
abbrev O:=Byt×Unit
noncomputable def D:FD:={ fn:=f114,tl:=az,ps:=[(.ro,(.aa u8))],rs:=[((.aa u8),(aj (.aa u8)))] }
def ab (a:A):Option O:=@lift O λk=>D.W k a
def p (a1:A):Option O:=if ([]:Byt).length+a1.1.length<=ct then (some (([]:Byt)++a1.1,())) else none
theorem ae (a1:A):@Eq (Option O) (D.W k a1) (p a1):=Bye
theorem ok:Ok prog 114 D.sig:=al func114 av Bye (ai _)
end cd
namespace fk
abbrev A:=Int×Int×Int×Unit
abbrev O:=Bool×Unit
noncomputable def D:FD:={ fn:=f98,tl:=az,ps:=[(.ro,i64),(.ro,i64),(.ro,i64)],rs:=[(.bool,(ak .bool))] }
def ab (a:A):Option O:=@lift O λk=>D.W k a
def p (a1:A):Option O:=cond (decide (a1.2.1<=a1.1)) (some (decide (a1.1<=a1.2.2.1),()))<|some (false,())
theorem ae (a1:A):@Eq (Option O) (D.W k a1) (p a1):=Bye
theorem ok:Ok prog 98 D.sig:=al func98 av Bye (ai _)
end fk
namespace oG
abbrev A:=Int×Unit
abbrev O:=Bool×Unit
noncomputable def D:FD:={ fn:=f70,tl:=az,ps:=[(.ro,i64)],rs:=[(.bool,(ak .bool))],gl:=[(98,fk.D.sig)] }
def ab (a:A):Option O:=@lift O λk=>D.W k a
def p (a1:A):Option O:=(fk.ab (a1.1,1,99,())).bind λr2=>some (r2.1,())
theorem ae (a1:A):@Eq (Option O) (D.W k a1) (p a1):=Bye
theorem ok:Ok prog 70 D.sig:=al func70 av Bye (fc fk.ok (ai _))
end oG
namespace pU
abbrev A:=Int×Unit
abbrev O:=Bool×Unit
noncomputable def D:FD:={ fn:=f223,tl:=az,ps:=[(.ro,i64)],rs:=[(.bool,(ak .bool))] }
def ab (a:A):Option O:=@lift O λk=>D.W k a
def p (a1:A):Option O:=cond (decide (a1.1=2)) (some (true,()))<|cond (decide (a1.1=3)) (some (true,()))<|some (decide (a1.1=4),())
theorem ae (a1:A):@Eq (Option O) (D.W k a1) (p a1):=Bye
theorem ok:Ok prog 223 D.sig:=al func223 av Bye (ai _)
end pU
namespace kh
abbrev A:=(List cr)×Unit
abbrev O:=Int×Unit
abbrev P:=Option O
noncomputable def D:FD:={ fn:=f224,tl:=az,ps:=[(.ro,(.aa oB))],rs:=[(i64,(ak i64))],gl:=[(98,fk.D.sig)],lv:=[(5,[3,10,11,12])],lx:=[(0,[])] }
def ab (a:A):P:=@lift O λk=>D.W k a
variable (a1:A)
def T0 (U:Int×Int):St:={ n:=45,sl:=[(3,.val i64 U.1),(10,.val (.aa oB) a1.1),(11,.val i64 (a1.1.length:Int)),(12,.val i64 U.2)],vr:=[],ay:=[] }
def b0 (self:(Int×Int)->P) (e0:(Unit)->P) (a1:A) (U:Int×Int):P:=cond (decide (U.2 < (a1.1.length:Int))) (if 0<=U.2 then ((a1.1[U.2.toNat]?).bind λa7=>(fk.ab (a7.1,0,63,())).bind λdz=>cond (!dz.1) (some (3,()))<|(fk.ab ((a7.2.1.length:Int),1,64,())).bind λlj=>cond (!lj.1) (some (3,()))<|cond (decide (64 < af (a7.1+(a7.2.1.length:Int)))) (some (3,()))<|cond (decide (a7.1 < U.1)) (some (1,()))<|self (af ((af (a7.1+(a7.2.1.length:Int)))+1),af (U.2+1))) else none)<|e0 ()
def q0 (a1:A) (rW:(Unit)):P:=some (0,())
def r0:(Int×Int)->P:=am (λw v=>b0 w (q0 a1) a1 v) k
theorem aq:@Eq ((Int×Int)->P) (λU=>D.L k [1,1,1,0,1,0,0] [3,10,11,12] [] (ah 0 (aw (D.N k [1,1,1,1]) D.K0)) (T0 a1 U)) (r0 k a1):=
 funext λU=>ap _ _ _ (T0 a1) _ (λrec v=>Bye) k U
def p (l0:(Int×Int)->P) (a1:A):P:=cond (decide (64 < (a1.1.length:Int))) (some (2,()))<|l0 (0,0)
theorem ae:@Eq P (D.W k a1) (p (r0 k a1) a1):=By8 (aq k a1) Bye
theorem ok:Ok prog 224 D.sig:=al func224 av Bye (fc fk.ok (ai _))
end kh
namespace kB
abbrev A:=bk×Unit
abbrev O:=Int×Unit
abbrev P:=Option O
noncomputable def D:FD:={ fn:=f142,tl:=az,ps:=[(.ro,eg)],rs:=[(i64,(ak i64))],gl:=[(70,oG.D.sig),(98,fk.D.sig),(223,pU.D.sig),(224,kh.D.sig)] }
def ab (a:A):P:=@lift O λk=>D.W k a
def p (a1:A):P:=let j15:P:=let j23:P:=(kh.ab (a1.1.2.2.2.1,())).bind λDa=>cond (!decide (Da.1=0)) (some (Da.1,()))<|(pU.ab (a1.1.1,())).bind λWZ=>cond WZ.1 (cond (decide ((a1.1.2.2.2.1.length:Int)=0)) (some (1,()))<|cond (decide (a1.1.1=4)) (cond (!decide ((a1.1.2.2.2.1.length:Int)=1)) (some (1,()))<|(a1.1.2.2.2.1[0]?).bind λx26=>cond (!decide ((x26.2.1.length:Int)=64)) (some (1,()))<|some (0,()))<|some (0,()))<|cond (decide (a1.1.1=4)) (cond (!decide ((a1.1.2.2.2.1.length:Int)=1)) (some (1,()))<|(a1.1.2.2.2.1[0]?).bind λx27=>cond (!decide ((x27.2.1.length:Int)=64)) (some (1,()))<|some (0,()))<|some (0,());cond (!decide (a1.1.1=4)) ((oG.ab (a1.1.2.1,())).bind λzr=>cond (!zr.1) (some (3,()))<|(fk.ab (a1.1.2.2.1,0,11,())).bind λA6=>cond (!A6.1) (some (3,()))<|j23)<|(fk.ab (a1.1.2.2.1,0,11,())).bind λD4=>cond (!D4.1) (some (3,()))<|j23;(fk.ab (a1.1.1,1,6,())).bind λr2=>cond (!r2.1) (some (1,()))<|(pU.ab (a1.1.1,())).bind λr3=>cond (!r3.1) (cond (!decide (a1.1.2.2.1=0)) (some (1,()))<|cond (decide (0 < (a1.1.2.2.2.1.length:Int))) (some (1,()))<|cond (decide (a1.1.1=4)) (cond (!decide (a1.1.2.1=0)) (some (1,()))<|j15)<|j15)<|cond (decide (a1.1.1=4)) (cond (!decide (a1.1.2.1=0)) (some (1,()))<|j15)<|j15
theorem ae (a1:A):@Eq P (D.W k a1) (p a1):=Bye
theorem ok:Ok prog 142 D.sig:=al func142 av Bye (fc oG.ok (fc fk.ok (fc pU.ok (fc kh.ok (ai _)))))
end kB
namespace fl
abbrev A:=Byt×Byt×Unit
abbrev O:=Bool×Unit
abbrev P:=Option O
noncomputable def D:FD:={ fn:=f178,tl:=az,ps:=[(.ro,(.aa u8)),(.ro,(.aa u8))],rs:=[(.bool,(ak .bool))],lv:=[(4,[0,1,12,13])],lx:=[(0,[])],od:=[(6,[0,1,2,3,4,5,6,7,8])] }
def ab (a:A):P:=@lift O λk=>D.W k a
variable (a1:A)
def T0 (U:Int):St:={ n:=26,sl:=[(0,.val (.aa u8) a1.1),(1,.val (.aa u8) a1.2.1),(12,.val i64 (a1.1.length:Int)),(13,.val i64 U)],vr:=[],ay:=[] }
def b0 (self:Int->P) (e0:(Unit)->P) (a1:A) (U:Int):P:=cond (decide (U < (a1.1.length:Int))) (if 0<=U then ((a1.1[U.toNat]?).bind λa7=>if 0<=U then ((a1.2.1[U.toNat]?).bind λg_=>cond (!decide ((a7.toNat:Int)=(g_.toNat:Int))) (some (false,()))<|self (af (U+1))) else none) else none)<|e0 ()
abbrev B0 (_:Nat):=b0
def q0 (a1:A) (e8:(Unit)):P:=some (true,())
abbrev Q0 (_:Nat):=q0
def r0:(Int)->P:=am (λw v=>B0 k w (Q0 k a1) a1 v) k
theorem aq:@Eq ((Int)->P) (λU=>D.L k [1,1,0,1,0,0] [0,1,12,13] [] (ah 0 (aw (D.N k [1,1,1]) D.K0)) (T0 a1 U)) (r0 k a1):=
 funext λU=>ap _ _ _ (T0 a1) _ (λrec v=>Bye) k U
def p (l0:(Int)->P) (a1:A):P:=cond (!decide ((a1.1.length:Int)=(a1.2.1.length:Int))) (some (false,()))<|l0 0
theorem ae:@Eq P (D.W k a1) (p (r0 k a1) a1):=By8 (aq k a1) Bye
theorem ok:Ok prog 178 D.sig:=al func178 av Bye (ai _)
end fl
namespace f5
abbrev A:=bk×Unit
abbrev O:=Byt×Unit
abbrev P:=Option O
noncomputable def D:FD:={ fn:=f262,tl:=az,ps:=[(.ro,eg)],rs:=[((.aa u8),(aj (.aa u8)))],lv:=[(3,[3,24,25,26]),(11,[3,6,51,52,53])],lx:=[(0,[3]),(2,[3,6])] }
def ab (a:A):P:=@lift O λk=>D.W k a
def T0 (a1:A) (U:Byt×Int):St:={ n:=72,sl:=[(3,.own (.aa u8) (aj (.aa u8)) [] U.1),(24,.val (.aa oB) a1.1.2.2.2.1),(25,.val i64 (a1.1.2.2.2.1.length:Int)),(26,.val i64 U.2)],vr:=[],ay:=[] }
def S0 (rec:RT O) (a1:A):(Byt×Int)->P:=λU=>rec (T0 a1 U)
def cw (K:KT O) (a1:A):Byt->P:=λz=>K (.exit 0) ({ n:=72,sl:=[(3,.own (.aa u8) (aj (.aa u8)) [] z)],vr:=[],ay:=[] })
def b0 (self:(Byt×Int)->P) (e0:Byt->P) (a1:A) (U:Byt×Int):P:=cond (decide (U.2 < (a1.1.2.2.2.1.length:Int))) (if 0<=U.2 then ((a1.1.2.2.2.1[U.2.toNat]?).bind λa7=>if U.1.length+[UInt8.ofInt a7.1,UInt8.ofInt (a7.2.1.length:Int)].length<=ct then (let rF:=U.1++[UInt8.ofInt a7.1,UInt8.ofInt (a7.2.1.length:Int)];if rF.length+a7.2.1.length<=ct then (self (rF++a7.2.1,af (U.2+1))) else none) else none) else none)<|e0 U.1
theorem kK (rec:RT O) (K:KT O) (a1:A) (U:Byt×Int):D.N k [1,1,0,1,0,0] (T0 a1 U) (im rec (fm [3,24,25,26] []) K)=b0 (S0 rec a1) (cw K a1) a1 U:=Bye
def T1 (a1:A) (bY:Byt) (fw:Int) (dv:Int×Int):St:={ n:=72,sl:=[(3,.own (.aa u8) (aj (.aa u8)) [] bY),(6,.val i64 dv.1),(51,.ref 3 [] [0,0]),(52,.val i64 fw),(53,.val i64 dv.2)],vr:=[],ay:=[] }
def b1 (self:(Int×Int)->P) (e2:Int->P) (a1:A) (bY:Byt) (fw:Int) (dv:Int×Int):P:=cond (decide (dv.2 < fw)) (if 0<=dv.2/\dv.2 < (bY.length:Int) then ((bY[dv.2.toNat]?).bind λum=>self ((af ((af (dv.1*31))+(af (um.toNat:Int)))).tmod 65521,af (dv.2+1))) else none)<|e2 dv.1
def q1 (a1:A) (bY:Byt) (fw:Int) (u_:Int):P:=if bY.length+[UInt8.ofInt (u_.fdiv (2 ^ 8)),UInt8.ofInt u_].length<=ct then (let Uw:=bY++[UInt8.ofInt (u_.fdiv (2 ^ 8)),UInt8.ofInt u_];some (Uw,())) else none
def s1 (a1:A):Byt->Int->(Int×Int)->P:=λbY fw=>λdv=>D.L k [1,1,1,1,1,0,1,0,0] [3,6,51,52,53] [] (ah 2 (aw (D.N k [1,1,1,1,1,1]) D.K0)) (T1 a1 bY fw dv)
def r1 (a1:A):Byt->Int->(Int×Int)->P:=λbY fw=>am (λw v=>b1 w (q1 a1 bY fw) a1 bY fw v) k
theorem kL (a1:A):s1 k a1=r1 k a1:=
 funext λbY=>funext λfw=>funext λdv=>ap _ _ _ (T1 a1 bY fw) _ (λrec v=>Bye) k dv
def q0 (l1:Byt->Int->(Int×Int)->P) (a1:A) (e8:Byt):P:=if 0<=(0:Int)/\0 < (e8.length:Int) then ((e8[0]?).bind λtW=>let Dz:=e8.set 0 (UInt8.ofInt (af ((e8.length:Int)+2)));l1 Dz (Dz.length:Int) (1,0)) else none
def Q0 (a1:A) (e8:Byt):P:=q0 (r1 k a1) a1 e8
theorem tA (a1:A) (e8:Byt):cw (ah 0 (aw (D.N k [1,1,1]) D.K0)) a1 e8=Q0 k a1 e8:=
 aL (b:=q0 (s1 k a1) a1 e8) Bye (by rw[kL];rfl)
def s0 (a1:A):(Byt×Int)->P:=λU=>D.L k [1,1,0,1,0,0] [3,24,25,26] [] (ah 0 (aw (D.N k [1,1,1]) D.K0)) (T0 a1 U)
def r0 (a1:A):(Byt×Int)->P:=am (λw v=>b0 w (Q0 k a1) a1 v) k
theorem aq (a1:A):s0 k a1=r0 k a1:=by
 funext U;have h0:cw (ah 0 (aw (D.N k [1,1,1]) D.K0)) a1=Q0 k a1:=funext λz=>tA k a1 z;refine (ap _ _ _ (T0 a1) (λself v=>b0 self (cw (ah 0 (aw (D.N k [1,1,1]) D.K0)) a1) a1 v) (λrec v=>kK k rec (ah 0 (aw (D.N k [1,1,1]) D.K0)) a1 v) k U).trans ?_;rw[h0];rfl
def p (l0:(Byt×Int)->P) (a1:A):P:=l0 ([(0:UInt8),UInt8.ofInt a1.1.1,UInt8.ofInt a1.1.2.1,UInt8.ofInt a1.1.2.2.1,UInt8.ofInt (a1.1.2.2.2.1.length:Int)],0)
theorem ae (a1:A):@Eq P (D.W k a1) (p (r0 k a1) a1):=
 aL (b:=p (s0 k a1) a1) Bye (by rw[aq])
theorem ok:Ok prog 262 D.sig:=al func262 av Bye (ai _)
end f5
namespace mH
abbrev A:=Byt×Unit
abbrev O:=bk×Int×Unit
abbrev P:=Option O
noncomputable def D:FD:={ fn:=f217,tl:=az,ps:=[(.ro,(.aa u8))],rs:=[(eg,(aj eg)),(i64,(ak i64))],gl:=[(114,cd.D.sig),(142,kB.D.sig),(178,fl.D.sig),(262,f5.D.sig)],lv:=[(7,[2,4,5,6,7,52,53])],lx:=[(0,[2,4,5,6,7])],od:=[(4,[0,1,2,3,4,5,6,7,8,9,10,11,12,13,14]),(11,[0,1,2,3,4,5,6,7,8,9,10,11,12,13,14,15,16,17,18,19,20])] }
def ab (a:A):P:=@lift O λk=>D.W k a
variable (a1:A)
def T0 (a1:A) (wv:Byt) (zF:Int) (Cq:Int) (ju:bk×Int×Int):St:={ n:=123,sl:=[(2,.box eg (aj eg) [] ((0:Int),(0:Int),(0:Int),([]:List cr),())),(4,.val (.aa u8) wv),(5,.box eg (aj eg) [] ju.1),(6,.val i64 ju.2.1),(7,.val i64 zF),(52,.val i64 Cq),(53,.val i64 ju.2.2)],vr:=[],ay:=[] }
def b0 (self:(bk×Int×Int)->P) (e0:(bk×Int)->P) (a1:A) (wv:Byt) (zF:Int) (Cq:Int) (ju:bk×Int×Int):P:=cond (decide (ju.2.2 < Cq)) (cond (decide (zF < af (ju.2.1+2))) (some ((0,0,0,([]:List cr),()),0,()))<|if 0<=af (ju.2.1+1) then ((wv[(af (ju.2.1+(1:Int))).toNat]?).bind λGH=>cond (decide (zF < af ((af (ju.2.1+2))+(af (GH.toNat:Int))))) (some ((0,0,0,([]:List cr),()),0,()))<|if 0<=af (ju.2.1+1) then ((wv[(af (ju.2.1+(1:Int))).toNat]?).bind λCn=>if 0<=ju.2.1 then ((wv[ju.2.1.toNat]?).bind λEU=>if 0<=af (ju.2.1+2)/\af (ju.2.1+2)<=af ((af (ju.2.1+2))+(af (Cn.toNat:Int)))/\af ((af (ju.2.1+2))+(af (Cn.toNat:Int)))<=(wv.length:Int) then ((cd.ab ((wv.take (af ((af (ju.2.1+2))+(af (Cn.toNat:Int)))).toNat).drop (af (ju.2.1+2)).toNat,())).bind λUD=>if ju.1.2.2.2.1.length+[(af (EU.toNat:Int),UD.1,())].length<=ct then (let Pn:=ju.1.2.2.2.1++[(af (EU.toNat:Int),UD.1,())];self ((ju.1.1,ju.1.2.1,ju.1.2.2.1,Pn,ju.1.2.2.2.2),af (ju.2.1+(af (2+(af (Cn.toNat:Int))))),af (ju.2.2+1))) else none) else none) else none) else none) else none)<|e0 (ju.1,ju.2.1)
abbrev B0 (_:Nat):=b0
def q0 (a1:A) (wv:Byt) (zF:Int) (Cq:Int) (UE:(bk×Int)):P:=cond (!decide (UE.2=zF)) (some ((0,0,0,([]:List cr),()),0,()))<|(kB.ab (UE.1,())).bind λyO=>cond (!decide (yO.1=0)) (some ((0,0,0,([]:List cr),()),0,()))<|(f5.ab (UE.1,())).bind λUF=>(fl.ab (UF.1,wv,())).bind λYQ=>cond (!YQ.1) (some ((0,0,0,([]:List cr),()),0,()))<|some (UE.1,(wv.length:Int),())
abbrev Q0 (_:Nat):=q0
def r0:Byt->Int->Int->(bk×Int×Int)->P:=λwv zF Cq=>am (λw v=>B0 k w (Q0 k a1 wv zF Cq) a1 wv zF Cq v) k
theorem aq:@Eq (Byt->Int->Int->(bk×Int×Int)->P) (λwv zF Cq=>λju=>D.L k [1,1,1,1,1,0,1,0,0] [2,4,5,6,7,52,53] [] (ah 0 (aw (D.N k [1,1,1,1,1,1]) D.K0)) (T0 a1 wv zF Cq ju)) (r0 k a1):=
 funext λwv=>funext λzF=>funext λCq=>funext λju=>ap _ _ _ (T0 a1 wv zF Cq) _ (λrec v=>Bye) k ju
def p (l0:Byt->Int->Int->(bk×Int×Int)->P) (a1:A):P:=cond (decide ((a1.1.length:Int) < 7)) (some ((0,0,0,([]:List cr),()),0,()))<|(a1.1[0]?).bind λx2=>cond (decide ((a1.1.length:Int) < af (x2.toNat:Int))) (some ((0,0,0,([]:List cr),()),0,()))<|(a1.1[0]?).bind λx3=>cond (decide ((x3.toNat:Int) < 7)) (some ((0,0,0,([]:List cr),()),0,()))<|(a1.1[0]?).bind λx4=>if 0<=(x4.toNat:Int)/\(x4.toNat:Int)<=(a1.1.length:Int) then ((((a1.1.take (x4.toNat:Int).toNat).drop 0)[1]?).bind λx5=>(((a1.1.take (x4.toNat:Int).toNat).drop 0)[2]?).bind λx6=>(((a1.1.take (x4.toNat:Int).toNat).drop 0)[3]?).bind λx7=>(((a1.1.take (x4.toNat:Int).toNat).drop 0)[4]?).bind λx8=>l0 ((a1.1.take (x4.toNat:Int).toNat).drop 0) (af ((((a1.1.take (x4.toNat:Int).toNat).drop 0).length:Int) - 2)) (af (x8.toNat:Int)) ((af (x5.toNat:Int),af (x6.toNat:Int),af (x7.toNat:Int),([]:List cr),()),5,0)) else none
theorem ae:@Eq P (D.W k a1) (p (r0 k a1) a1):=By8 (aq k a1) Bye
theorem ok:Ok prog 217 D.sig:=al func217 av Bye (fc cd.ok (fc kB.ok (fc fl.ok (fc f5.ok (ai _)))))
end mH
namespace mf
abbrev A:=Byt×Unit
abbrev O:=(List bk)×Int×Unit
abbrev P:=Option O
noncomputable def D:FD:={ fn:=f140,tl:=az,ps:=[(.ro,(.aa u8))],rs:=[((.aa eg),(aj (.aa eg))),(i64,(ak i64))],gl:=[(217,mH.D.sig)],lv:=[(3,[0,4,5])] }
def ab (a:A):P:=@lift O λk=>D.W k a
variable (a1:A)
def T0 (U:(List bk)×Int):St:={ n:=26,sl:=[(0,.val (.aa u8) a1.1),(4,.own (.aa eg) (aj (.aa eg)) [] U.1),(5,.val i64 U.2)],vr:=[],ay:=[] }
def b0 (self:((List bk)×Int)->P) (a1:A) (U:(List bk)×Int):P:=if 0<=U.2/\U.2<=(a1.1.length:Int) then ((mH.ab ((a1.1.take a1.1.length).drop U.2.toNat,())).bind λxe=>cond (decide (xe.2.1=0)) (some (U.1,U.2,()))<|if U.1.length+[xe.1].length<=ct then (self (U.1++[xe.1],af (U.2+xe.2.1))) else none) else none
abbrev B0 (_:Nat):=b0
def r0:((List bk)×Int)->P:=am (λw v=>B0 k w a1 v) k
theorem aq:@Eq (((List bk)×Int)->P) (λU=>D.L k [1,1,1,0,0] [0,4,5] [] (ah 0 D.K0) (T0 a1 U)) (r0 k a1):=
 funext λU=>ap _ _ _ (T0 a1) _ (λrec v=>Bye) k U
def p (l0:((List bk)×Int)->P) (a1:A):P:=l0 (([]:List bk),0)
theorem ae:@Eq P (D.W k a1) (p (r0 k a1) a1):=By8 (aq k a1) Bye
theorem ok:Ok prog 140 D.sig:=al func140 av Bye (fc mH.ok (ai _))
end mf
namespace o6
abbrev A:=Log×Unit
abbrev O:=(List bk)×Unit
noncomputable def D:FD:={ fn:=f79,tl:=az,ps:=[(.ro,ey)],rs:=[((.aa eg),(aj (.aa eg)))],gl:=[(140,mf.D.sig)] }
def ab (a:A):Option O:=@lift O λk=>D.W k a
def p (a1:A):Option O:=(mf.ab (a1.1.1,())).bind λr2=>(mf.ab (a1.1.2.1,())).bind λr3=>if r2.1.length+r3.1.length<=ct then (some (r2.1++r3.1,())) else none
theorem ae (a1:A):@Eq (Option O) (D.W k a1) (p a1):=Bye
theorem ok:Ok prog 79 D.sig:=al func79 av Bye (fc mf.ok (ai _))
end o6
namespace iV
abbrev A:=UInt8×Unit
abbrev O:=Byt×Unit
abbrev P:=Option O
noncomputable def D:FD:={ fn:=f193,tl:=az,ps:=[(.ro,u8)],rs:=[((.aa u8),(aj (.aa u8)))],lv:=[(3,[0,3,7,8])],lx:=[(0,[3])] }
def ab (a:A):P:=@lift O λk=>D.W k a
variable (a1:A)
def T0 (U:Byt×Int):St:={ n:=21,sl:=[(0,.val u8 a1.1),(3,.own (.aa u8) (aj (.aa u8)) [] U.1),(7,.val i64 ((List.replicate 64 (0:UInt8)).length:Int)),(8,.val i64 U.2)],vr:=[],ay:=[] }
def b0 (self:(Byt×Int)->P) (e0:Byt->P) (a1:A) (U:Byt×Int):P:=cond (decide (U.2 < ((List.replicate 64 (0:UInt8)).length:Int))) (if 0<=U.2/\U.2 < (U.1.length:Int) then ((U.1[U.2.toNat]?).bind λa7=>self (U.1.set U.2.toNat a1.1,af (U.2+1))) else none)<|e0 U.1
def q0 (a1:A) (l_:Byt):P:=if 0<=(0:Int)/\0 < (l_.length:Int) then ((l_[0]?).bind λen=>if 0<=(1:Int)/\1 < ((l_.set 0 (0:UInt8)).length:Int) then (((l_.set 0 (0:UInt8))[1]?).bind λtW=>let Dz:=(l_.set 0 (0:UInt8)).set 1 (64:UInt8);some (Dz,())) else none) else none
def r0:(Byt×Int)->P:=am (λw v=>b0 w (q0 a1) a1 v) k
theorem aq:@Eq ((Byt×Int)->P) (λU=>D.L k [1,1,0,1,0,0] [0,3,7,8] [] (ah 0 (aw (D.N k [1,1,1]) D.K0)) (T0 a1 U)) (r0 k a1):=
 funext λU=>ap _ _ _ (T0 a1) _ (λrec v=>Bye) k U
def p (l0:(Byt×Int)->P) (a1:A):P:=if 0<=(64:Int)/\(64:Int)<=64/\64<=(ct:Int) then (l0 (List.replicate 64 (0:UInt8),0)) else none
theorem ae:@Eq P (D.W k a1) (p (r0 k a1) a1):=By8 (aq k a1) Bye
theorem ok:Ok prog 193 D.sig:=al func193 av Bye (ai _)
end iV
namespace mI
abbrev A:=(List Byt)×Unit
abbrev O:=(List Byt)×Unit
noncomputable def D:FD:={ fn:=f225,tl:=az,ps:=[(.ro,(.aa (.aa u8)))],rs:=[((.aa (.aa u8)),(.aa true (ak (.aa u8))))] }
def ab (a:A):Option O:=@lift O λk=>D.W k a
def p (a1:A):Option O:=BH a1.1 (some (([]:List Byt),())) (if ([]:List Byt).length+a1.1.length<=ct then (some (([]:List Byt)++a1.1,())) else none)
theorem ae (a1:A):@Eq (Option O) (D.W k a1) (p a1):=Bye
theorem ok:Ok prog 225 D.sig:=al func225 av Bye (ai _)
end mI
namespace ls
abbrev A:=Byt×(List cr)×Unit
abbrev O:=Byt×Unit
abbrev P:=Option O
noncomputable def D:FD:={ fn:=f226,tl:=az,ps:=[(.ro,(.aa u8)),(.ro,(.aa oB))],rs:=[((.aa u8),(aj (.aa u8)))],gl:=[(114,cd.D.sig)],lv:=[(3,[5,10,11,12])],lx:=[(0,[5])],od:=[(5,[0,1,2,3,4,5,6])] }
def ab (a:A):P:=@lift O λk=>D.W k a
variable (a1:A)
def T0 (bf:Byt×Int):St:={ n:=25,sl:=[(5,.own (.aa u8) (aj (.aa u8)) [] bf.1),(10,.val (.aa oB) a1.2.1),(11,.val i64 (a1.2.1.length:Int)),(12,.val i64 bf.2)],vr:=[],ay:=[] }
def b0 (self:(Byt×Int)->P) (e0:Byt->P) (a1:A) (bf:Byt×Int):P:=cond (decide (bf.2 < (a1.2.1.length:Int))) (if 0<=bf.2 then ((a1.2.1[bf.2.toNat]?).bind λg_=>if 0<=g_.1/\g_.1<=(bf.1.length:Int) then (let YO:=o5 bf.1 g_.1.toNat (min g_.2.1.length (bf.1.length - g_.1.toNat)) g_.2.1;self (YO,af (bf.2+1))) else none) else none)<|e0 bf.1
def q0 (a1:A) (rW:Byt):P:=some (rW,())
def r0:(Byt×Int)->P:=am (λw v=>b0 w (q0 a1) a1 v) k
theorem aq:@Eq ((Byt×Int)->P) (λbf=>D.L k [1,1,0,1,0,0] [5,10,11,12] [] (ah 0 (aw (D.N k [1,1,1]) D.K0)) (T0 a1 bf)) (r0 k a1):=
 funext λbf=>ap _ _ _ (T0 a1) _ (λrec v=>Bye) k bf
def p (l0:(Byt×Int)->P) (a1:A):P:=(cd.ab (a1.1,())).bind λr2=>l0 (r2.1,0)
theorem ae:@Eq P (D.W k a1) (p (r0 k a1) a1):=By8 (aq k a1) Bye
theorem ok:Ok prog 226 D.sig:=al func226 av Bye (fc cd.ok (ai _))
end ls
namespace oV
abbrev A:=(List Byt)×bk×Unit
abbrev O:=(List Byt)×Int×Unit
noncomputable def D:FD:={ fn:=f143,tl:=az,ps:=[(.ro,(.aa (.aa u8))),(.ro,eg)],rs:=[((.aa (.aa u8)),(ak (.aa (.aa u8)))),(i64,(ak i64))],gl:=[(193,iV.D.sig),(223,pU.D.sig),(225,mI.D.sig),(226,ls.D.sig)],od:=[(10,[0,1,2,3,4,5,6,7,8,9,10,11,12])] }
def ab (a:A):Option O:=@lift O λk=>D.W k a
def p (a1:A):Option O:=(pU.ab (a1.2.1.1,())).bind λr2=>cond (!r2.1) (some (a1.1,0,()))<|cond (decide ((a1.1.length:Int) < a1.2.1.2.2.1)) (some (([]:List Byt),1,()))<|cond (decide (a1.2.1.2.2.1=12)) (some (([]:List Byt),2,()))<|(mI.ab (a1.1,())).bind λr3=>let FO:=λ(p9:List Byt)=>(if 0<=a1.2.1.2.2.1/\a1.2.1.2.2.1 < (p9.length:Int) then ((p9[a1.2.1.2.2.1.toNat]?).bind λWW=>(ls.ab (WW,a1.2.1.2.2.2.1,())).bind λru=>if 0<=a1.2.1.2.2.1/\a1.2.1.2.2.1 < (p9.length:Int) then ((p9[a1.2.1.2.2.1.toNat]?).bind λKq=>some (p9.set a1.2.1.2.2.1.toNat ru.1,0,())) else none) else none:Option O);cond (decide (a1.2.1.2.2.1=(a1.1.length:Int))) ((iV.ab ((0:UInt8),())).bind λr4=>if r3.1.length+[r4.1].length<=ct then (FO (r3.1++[r4.1])) else none)<|FO r3.1
theorem ae (a1:A):@Eq (Option O) (D.W k a1) (p a1):=Bye
theorem ok:Ok prog 143 D.sig:=al func143 av Bye (fc iV.ok (fc pU.ok (fc mI.ok (fc ls.ok (ai _)))))
end oV
namespace qZ
abbrev A:=(List bk)×Unit
abbrev O:=(List Byt)×Int×Unit
abbrev P:=Option O
noncomputable def D:FD:={ fn:=f81,tl:=az,ps:=[(.ro,(.aa eg))],rs:=[((.aa (.aa u8)),(ak (.aa (.aa u8)))),(i64,(ak i64))],gl:=[(142,kB.D.sig),(143,oV.D.sig)],lv:=[(3,[4,10,11,12])],lx:=[(0,[4])],lf:=[(3,[(4,(.aa false (.aa false .leaf)))])] }
def ab (a:A):P:=@lift O λk=>D.W k a
variable (a1:A)
def T0 (U:(List Byt)×Int):St:={ n:=33,sl:=[(4,.val (.aa (.aa u8)) U.1),(10,.val (.aa eg) a1.1),(11,.val i64 (a1.1.length:Int)),(12,.val i64 U.2)],vr:=[],ay:=[] }
def b0 (self:((List Byt)×Int)->P) (e0:(List Byt)->P) (a1:A) (U:(List Byt)×Int):P:=cond (decide (U.2 < (a1.1.length:Int))) (if 0<=U.2 then ((a1.1[U.2.toNat]?).bind λa7=>(kB.ab (a7,())).bind λdz=>cond (!decide (dz.1=0)) (some (([]:List Byt),dz.1,()))<|(oV.ab (U.1,a7,())).bind λlj=>cond (!decide (lj.2.1=0)) (some (([]:List Byt),lj.2.1,()))<|self (lj.1,af (U.2+1))) else none)<|e0 U.1
def q0 (a1:A) (rW:(List Byt)):P:=some (rW,0,())
def r0:((List Byt)×Int)->P:=am (λw v=>b0 w (q0 a1) a1 v) k
theorem aq:@Eq (((List Byt)×Int)->P) (λU=>D.L k [1,1,0,1,0,0] [4,10,11,12] [(4,(.aa false (.aa false .leaf)))] (ah 0 (aw (D.N k [1,1,1]) D.K0)) (T0 a1 U)) (r0 k a1):=
 funext λU=>ap _ _ _ (T0 a1) _ (λrec v=>Bye) k U
def p (l0:((List Byt)×Int)->P) (a1:A):P:=l0 (([]:List Byt),0)
theorem ae:@Eq P (D.W k a1) (p (r0 k a1) a1):=By8 (aq k a1) Bye
theorem ok:Ok prog 81 D.sig:=al func81 av Bye (fc kB.ok (fc oV.ok (ai _)))
end qZ
namespace jM
abbrev A:=Log×Unit
abbrev O:=Int×Unit
noncomputable def D:FD:={ fn:=f49,tl:=az,ps:=[(.ro,ey)],rs:=[(i64,(ak i64))] }
def ab (a:A):Option O:=@lift O λk=>D.W k a
def p (a1:A):Option O:=some (af ((a1.1.1.length:Int)+(a1.1.2.1.length:Int)),())
theorem ae (a1:A):@Eq (Option O) (D.W k a1) (p a1):=Bye
theorem ok:Ok prog 49 D.sig:=al func49 av Bye (ai _)
end jM
namespace kZ
abbrev A:=Log×Unit
abbrev O:=Int×Unit
abbrev P:=Option O
noncomputable def D:FD:={ fn:=f97,tl:=az,ps:=[(.ro,ey)],rs:=[(i64,(ak i64))],gl:=[(49,jM.D.sig),(140,mf.D.sig)],lv:=[(4,[14,15,16])],lx:=[(0,[])] }
def ab (a:A):P:=@lift O λk=>D.W k a
variable (a1:A)
def T0 (bf:Int):St:={ n:=30,sl:=[(14,.own (.aa (.aa u8)) (.aa true (ak (.aa u8))) [] [a1.1.1,a1.1.2.1]),(15,.val i64 ([a1.1.1,a1.1.2.1].length:Int)),(16,.val i64 bf)],vr:=[],ay:=[] }
def b0 (self:Int->P) (e0:(Unit)->P) (a1:A) (bf:Int):P:=cond (decide (bf < ([a1.1.1,a1.1.2.1].length:Int))) (if 0<=bf/\bf < ([a1.1.1,a1.1.2.1].length:Int) then (([a1.1.1,a1.1.2.1][bf.toNat]?).bind λg_=>(mf.ab (g_,())).bind λlj=>cond (!decide (lj.2.1=(g_.length:Int))) (some (5,()))<|self (af (bf+1))) else none)<|e0 ()
def q0 (a1:A) (rW:(Unit)):P:=some (0,())
def r0:(Int)->P:=am (λw v=>b0 w (q0 a1) a1 v) k
theorem aq:@Eq ((Int)->P) (λbf=>D.L k [1,1,0,1,0,0] [14,15,16] [] (ah 0 (aw (D.N k [1,1,1]) D.K0)) (T0 a1 bf)) (r0 k a1):=
 funext λbf=>ap _ _ _ (T0 a1) _ (λrec v=>Bye) k bf
def p (l0:(Int)->P) (a1:A):P:=(jM.ab (a1.1,())).bind λr2=>cond (decide (16000 < r2.1)) (some (2,()))<|l0 0
theorem ae:@Eq P (D.W k a1) (p (r0 k a1) a1):=By8 (aq k a1) Bye
theorem ok:Ok prog 97 D.sig:=al func97 av Bye (fc jM.ok (fc mf.ok (ai _)))
end kZ
namespace fj
abbrev A:=Byt×Unit
abbrev O:=Int×Unit
noncomputable def D:FD:={ fn:=f170,tl:=az,ps:=[(.ro,(.aa u8))],rs:=[(i64,(ak i64))] }
def ab (a:A):Option O:=@lift O λk=>D.W k a
def p (a1:A):Option O:=(a1.1[0]?).bind λx2=>some (af (x2.toNat:Int),())
theorem ae (a1:A):@Eq (Option O) (D.W k a1) (p a1):=Bye
theorem ok:Ok prog 170 D.sig:=al func170 av Bye (ai _)
end fj
namespace lW
abbrev A:=Byt×Int×Unit
abbrev O:=Int×Int×Unit
noncomputable def D:FD:={ fn:=f253,tl:=az,ps:=[(.ro,(.aa u8)),(.ro,i64)],rs:=[(i64,(ak i64)),(i64,(ak i64))],od:=[(1,[0,1,2,3,4,5,6,7,8,9,10,11,12,13,14,15])] }
def ab (a:A):Option O:=@lift O λk=>D.W k a
def p (a1:A):Option O:=if 0<=af (2+(af (2*a1.2.1))) then ((a1.1[(af ((2:Int)+(af ((2:Int)*a1.2.1)))).toNat]?).bind λx2=>if 0<=af (3+(af (2*a1.2.1))) then ((a1.1[(af ((3:Int)+(af ((2:Int)*a1.2.1)))).toNat]?).bind λx3=>some (af (x2.toNat:Int),af (x3.toNat:Int),())) else none) else none
theorem ae (a1:A):@Eq (Option O) (D.W k a1) (p a1):=Bye
theorem ok:Ok prog 253 D.sig:=al func253 av Bye (ai _)
end lW
namespace bj
abbrev A:=Byt×Unit
abbrev O:=Int×Unit
abbrev P:=Option O
noncomputable def D:FD:={ fn:=f169,tl:=az,ps:=[(.ro,(.aa u8))],rs:=[(i64,(ak i64))],gl:=[(170,fj.D.sig),(253,lW.D.sig)],lv:=[(7,[0,3,4,35,36]),(15,[0,3,8,66,67]),(19,[0,3,8,10,11,12,66,67])],lx:=[(0,[0,3]),(2,[0,3]),(4,[0,3,8,66,67])],od:=[(3,[0,2,3,4,5,1,6,7])] }
def ab (a:A):P:=@lift O λk=>D.W k a
def T0 (a1:A) (ez:Int) (da:Int) (c7:Int):St:={ n:=101,sl:=[(0,.val (.aa u8) a1.1),(3,.val i64 ez),(4,.val i64 da),(35,.val i64 ez),(36,.val i64 c7)],vr:=[],ay:=[] }
def S0 (rec:RT O) (a1:A) (ez:Int) (da:Int):(Int)->P:=λc7=>rec (T0 a1 ez da c7)
def cw (K:KT O) (a1:A) (ez:Int) (da:Int):(Unit)->P:=λz=>K (.exit 0) ({ n:=101,sl:=[(0,.val (.aa u8) a1.1),(3,.val i64 ez)],vr:=[],ay:=[] })
def b0 (self:Int->P) (e0:(Unit)->P) (a1:A) (ez:Int) (da:Int) (c7:Int):P:=cond (decide (c7 < ez)) ((lW.ab (a1.1,c7,())).bind λky=>cond (!((decide (ky.1=0)) == (decide (ky.2.1=0)))) (some (3,()))<|cond (!decide (ky.1=0)) (cond (decide (ky.1 < da)) (some (3,()))<|cond (decide (64 < af (ky.1+ky.2.1))) (some (3,()))<|self (af (c7+1)))<|cond (decide (64 < af (ky.1+ky.2.1))) (some (3,()))<|self (af (c7+1)))<|e0 ()
theorem kK (rec:RT O) (K:KT O) (a1:A) (ez:Int) (da:Int) (c7:Int):D.N k [1,1,1,1,0,1,0,0] (T0 a1 ez da c7) (im rec (fm [0,3,4,35,36] []) K)=b0 (S0 rec a1 ez da) (cw K a1 ez da) a1 ez da c7:=Bye
def T1 (a1:A) (gu:Byt×Int×(List Bool)×Int×Int):St:={ n:=101,sl:=[(0,.val (.aa u8) gu.1),(3,.val i64 gu.2.1),(8,.box (.arr 64 .bool) (ak (.arr 64 .bool)) [] gu.2.2.1),(66,.val i64 gu.2.2.2.1),(67,.val i64 gu.2.2.2.2)],vr:=[],ay:=[] }
def S1 (rec:RT O) (a1:A):(Byt×Int×(List Bool)×Int×Int)->P:=λgu=>rec (T1 a1 gu)
def jJ (K:KT O) (a1:A):(Byt×Int)->P:=λz=>K (.exit 2) ({ n:=101,sl:=[(0,.val (.aa u8) z.1),(3,.val i64 z.2)],vr:=[],ay:=[] })
def T2 (a1:A) (iw:Byt) (e_:Int) (pV:Int) (pW:Int) (pX:Int) (pY:Int) (l5:(List Bool)×Int):St:={ n:=101,sl:=[(0,.val (.aa u8) iw),(3,.val i64 e_),(8,.box (.arr 64 .bool) (ak (.arr 64 .bool)) [] l5.1),(10,.val i64 pV),(11,.val i64 pW),(12,.val i64 l5.2),(66,.val i64 pX),(67,.val i64 pY)],vr:=[],ay:=[] }
def b2 (self:((List Bool)×Int)->P) (e4:(List Bool)->P) (a1:A) (iw:Byt) (e_:Int) (pV:Int) (pW:Int) (pX:Int) (pY:Int) (l5:(List Bool)×Int):P:=cond (decide (l5.2 < af (pV+pW))) (if 0<=l5.2/\l5.2 < (l5.1.length:Int) then ((l5.1[l5.2.toNat]?).bind λac7=>cond ac7 (some (8,()))<|if 0<=l5.2/\l5.2 < (l5.1.length:Int) then ((l5.1[l5.2.toNat]?).bind λUG=>self (l5.1.set l5.2.toNat true,af (l5.2+1))) else none) else none)<|e4 l5.1
def q1 (self:(Byt×Int×(List Bool)×Int×Int)->P) (e2:(Byt×Int)->P) (a1:A) (iw:Byt) (e_:Int) (pV:Int) (pW:Int) (pX:Int) (pY:Int) (UH:(List Bool)):P:=self (iw,e_,UH,pX,af (pY+1))
def s2 (rec:RT O) (K:KT O) (a1:A):Byt->Int->Int->Int->Int->Int->((List Bool)×Int)->P:=λiw e_ pV pW pX pY=>λl5=>D.L k [1,1,1,1,1,1,0,1,0,0,1,1,0,0,1,1,1,0,0] [0,3,8,10,11,12,66,67] [] (ah 4 (ah 3 (aw (D.N k [1,1,1,1,1,1,0,1,0,0,1,1,1]) (im rec (fm [0,3,8,66,67] []) K)))) (T2 a1 iw e_ pV pW pX pY l5)
def r2 (self:(Byt×Int×(List Bool)×Int×Int)->P) (e2:(Byt×Int)->P) (a1:A):Byt->Int->Int->Int->Int->Int->((List Bool)×Int)->P:=λiw e_ pV pW pX pY=>am (λw v=>b2 w (q1 self e2 a1 iw e_ pV pW pX pY) a1 iw e_ pV pW pX pY v) k
theorem tz (rec:RT O) (K:KT O) (a1:A):s2 k rec K a1=r2 k (S1 rec a1) (jJ K a1) a1:=
 funext λiw=>funext λe_=>funext λpV=>funext λpW=>funext λpX=>funext λpY=>funext λl5=>ap _ _ _ (T2 a1 iw e_ pV pW pX pY) _ (λrec v=>Bye) k l5
def b1 (self:(Byt×Int×(List Bool)×Int×Int)->P) (e2:(Byt×Int)->P) (l2:Byt->Int->Int->Int->Int->Int->((List Bool)×Int)->P) (a1:A) (gu:Byt×Int×(List Bool)×Int×Int):P:=cond (decide (gu.2.2.2.2 < gu.2.2.2.1)) ((lW.ab (gu.1,gu.2.2.2.2,())).bind λBj=>l2 gu.1 gu.2.1 Bj.1 Bj.2.1 gu.2.2.2.1 gu.2.2.2.2 (gu.2.2.1,Bj.1))<|e2 (gu.1,gu.2.1)
def B1 (self:(Byt×Int×(List Bool)×Int×Int)->P) (e2:(Byt×Int)->P) (a1:A) (gu:Byt×Int×(List Bool)×Int×Int):P:=b1 self e2 (r2 k self e2 a1) a1 gu
theorem u7 (rec:RT O) (K:KT O) (a1:A) (gu:Byt×Int×(List Bool)×Int×Int):D.N k [1,1,1,1,1,1,0,1,0,0] (T1 a1 gu) (im rec (fm [0,3,8,66,67] []) K)=B1 k (S1 rec a1) (jJ K a1) a1 gu:=
 aL (b:=b1 (S1 rec a1) (jJ K a1) (s2 k rec K a1) a1 gu) Bye (by rw[tz];rfl)
def q2 (a1:A) (xC:(Byt×Int)):P:=cond (decide (0 < xC.2)) (if 0<=af ((af (2*xC.2))+1) then ((xC.1[(af ((af ((2:Int)*xC.2))+(1:Int))).toNat]?).bind λac8=>cond (decide ((ac8.toNat:Int)=0)) (some (8,()))<|some (0,())) else none)<|some (0,())
theorem wN (a1:A) (xC:(Byt×Int)):jJ (ah 2 (aw (D.N k [1,1,1,1,1,1,1]) D.K0)) a1 xC=q2 a1 xC:=Bye
def s1 (a1:A) (ez:Int) (da:Int):(Byt×Int×(List Bool)×Int×Int)->P:=λgu=>D.L k [1,1,1,1,1,1,0,1,0,0] [0,3,8,66,67] [] (ah 2 (aw (D.N k [1,1,1,1,1,1,1]) D.K0)) (T1 a1 gu)
def r1 (a1:A) (ez:Int) (da:Int):(Byt×Int×(List Bool)×Int×Int)->P:=am (λw v=>B1 k w (q2 a1) a1 v) k
theorem kL (a1:A) (ez:Int) (da:Int):s1 k a1 ez da=r1 k a1 ez da:=by
 funext gu;have h2:jJ (ah 2 (aw (D.N k [1,1,1,1,1,1,1]) D.K0)) a1=q2 a1:=funext λz=>wN k a1 z;refine (ap _ _ _ (T1 a1) (λself v=>B1 k self (jJ (ah 2 (aw (D.N k [1,1,1,1,1,1,1]) D.K0)) a1) a1 v) (λrec v=>u7 k rec (ah 2 (aw (D.N k [1,1,1,1,1,1,1]) D.K0)) a1 v) k gu).trans ?_;rw[h2];rfl
def q0 (l1:(Byt×Int×(List Bool)×Int×Int)->P) (a1:A) (ez:Int) (da:Int) (sY:(Unit)):P:=l1 (a1.1,ez,List.replicate 64 false,ez,0)
def Q0 (a1:A) (ez:Int) (da:Int) (sY:(Unit)):P:=q0 (r1 k a1 ez da) a1 ez da sY
theorem tA (a1:A) (ez:Int) (da:Int) (sY:(Unit)):cw (ah 0 (aw (D.N k [1,1,1,1,1]) D.K0)) a1 ez da sY=Q0 k a1 ez da sY:=
 aL (b:=q0 (s1 k a1 ez da) a1 ez da sY) Bye (by rw[kL];rfl)
def s0 (a1:A):Int->Int->(Int)->P:=λez da=>λc7=>D.L k [1,1,1,1,0,1,0,0] [0,3,4,35,36] [] (ah 0 (aw (D.N k [1,1,1,1,1]) D.K0)) (T0 a1 ez da c7)
def r0 (a1:A):Int->Int->(Int)->P:=λez da=>am (λw v=>b0 w (Q0 k a1 ez da) a1 ez da v) k
theorem aq (a1:A):s0 k a1=r0 k a1:=by
 funext ez;funext da;funext c7;have h0:cw (ah 0 (aw (D.N k [1,1,1,1,1]) D.K0)) a1 ez da=Q0 k a1 ez da:=funext λz=>tA k a1 ez da z;refine (ap _ _ _ (T0 a1 ez da) (λself v=>b0 self (cw (ah 0 (aw (D.N k [1,1,1,1,1]) D.K0)) a1 ez da) a1 ez da v) (λrec v=>kK k rec (ah 0 (aw (D.N k [1,1,1,1,1]) D.K0)) a1 ez da v) k c7).trans ?_;rw[h0];rfl
def p (l0:Int->Int->(Int)->P) (a1:A):P:=cond (!decide ((a1.1.length:Int)=64)) (some (1,()))<|(a1.1[1]?).bind λx2=>(fj.ab (a1.1,())).bind λr3=>cond (decide (16 < r3.1)) (some (3,()))<|cond (decide (af (x2.toNat:Int) < af (2+(af (2*r3.1))))) (some (3,()))<|cond (decide (64 < af (x2.toNat:Int))) (some (3,()))<|l0 r3.1 (af (x2.toNat:Int)) 0
theorem ae (a1:A):@Eq P (D.W k a1) (p (r0 k a1) a1):=
 aL (b:=p (s0 k a1) a1) Bye (by rw[aq])
theorem ok:Ok prog 169 D.sig:=al func169 av Bye (fc fj.ok (fc lW.ok (ai _)))
end bj
namespace it
abbrev A:=Byt×Int×Unit
abbrev O:=Bool×Unit
noncomputable def D:FD:={ fn:=f171,tl:=az,ps:=[(.ro,(.aa u8)),(.ro,i64)],rs:=[(.bool,(ak .bool))],gl:=[(170,fj.D.sig)] }
def ab (a:A):Option O:=@lift O λk=>D.W k a
def p (a1:A):Option O:=cond (decide (0<=a1.2.1)) ((fj.ab (a1.1,())).bind λr2=>cond (decide (a1.2.1 < r2.1)) (if 0<=af (3+(af (2*a1.2.1))) then ((a1.1[(af ((3:Int)+(af ((2:Int)*a1.2.1)))).toNat]?).bind λx3=>some (!decide ((x3.toNat:Int)=0),())) else none)<|some (false,()))<|some (false,())
theorem ae (a1:A):@Eq (Option O) (D.W k a1) (p a1):=Bye
theorem ok:Ok prog 171 D.sig:=al func171 av Bye (fc fj.ok (ai _))
end it
namespace dp
abbrev A:=Row×Unit
abbrev O:=Int×Unit
abbrev P:=Option O
noncomputable def D:FD:={ fn:=f179,tl:=az,ps:=[(.ro,aT)],rs:=[(i64,(ak i64))],gl:=[(98,fk.D.sig)],lv:=[(6,[1,26,27])],lx:=[(0,[])] }
def ab (a:A):P:=@lift O λk=>D.W k a
variable (a1:A)
def T0 (db:Int):St:={ n:=43,sl:=[(1,.box aT (ak aT) [] a1.1),(26,.val i64 (a1.1.2.2.2.1.length:Int)),(27,.val i64 db)],vr:=[],ay:=[] }
def b0 (self:Int->P) (e0:(Unit)->P) (a1:A) (db:Int):P:=cond (decide (db < (a1.1.2.2.2.1.length:Int))) (if 0<=db then ((a1.1.2.2.2.1[db.toNat]?).bind λtW=>cond (decide ((tW.toNat:Int) < 97)) (some (5,()))<|if 0<=db then ((a1.1.2.2.2.1[db.toNat]?).bind λsX=>cond (decide (122 < (sX.toNat:Int))) (some (5,()))<|self (af (db+1))) else none) else none)<|e0 ()
def q0 (a1:A) (sY:(Unit)):P:=some (0,())
def r0:(Int)->P:=am (λw v=>b0 w (q0 a1) a1 v) k
theorem aq:@Eq ((Int)->P) (λdb=>D.L k [1,1,1,0,1,0,0] [1,26,27] [] (ah 0 (aw (D.N k [1,1,1,1]) D.K0)) (T0 a1 db)) (r0 k a1):=
 funext λdb=>ap _ _ _ (T0 a1) _ (λrec v=>Bye) k db
def p (l0:(Int)->P) (a1:A):P:=(fk.ab (a1.1.1,0,3,())).bind λr2=>cond (!r2.1) (some (3,()))<|(fk.ab (a1.1.2.1,1,99,())).bind λr3=>cond (!r3.1) (some (3,()))<|(fk.ab (a1.1.2.2.1,0,999,())).bind λr4=>cond (!r4.1) (some (3,()))<|cond (decide (8 < (a1.1.2.2.2.1.length:Int))) (some (5,()))<|l0 0
theorem ae:@Eq P (D.W k a1) (p (r0 k a1) a1):=By8 (aq k a1) Bye
theorem ok:Ok prog 179 D.sig:=al func179 av Bye (fc fk.ok (ai _))
end dp
namespace kq
abbrev A:=Byt×Unit
abbrev O:=tt×Unit
abbrev P:=Option O
noncomputable def D:FD:={ fn:=f172,tl:=az,ps:=[(.ro,(.aa u8))],rs:=[(se,(ak se))],gl:=[(179,dp.D.sig)],od:=[(2,[0,1,2,3,4,5,6,7,8,9]),(5,[0,1,2,3,4,5,6,7,8,9,10,11,12,13,14,15,16,17,18,19,20,21,22,23]),(8,[0,1,2,3,4,5,6])] }
def ab (a:A):P:=@lift O λk=>D.W k a
def p (a1:A):P:=let j25:P:=let j37:P:=(a1.1[1]?).bind λx38=>(a1.1[2]?).bind λx39=>(a1.1[3]?).bind λx40=>(a1.1[4]?).bind λx41=>if 0<=(6:Int)/\6<=(a1.1.length:Int) then (let y42:=af ((BitVec.ofInt 64 (af ((af (x40.toNat:Int))*2 ^ 8)) ||| BitVec.ofInt 64 (af (x41.toNat:Int))).toNat:Int);(dp.ab ((af (x38.toNat:Int),af (x39.toNat:Int),y42,(a1.1.take a1.1.length).drop 6,()),())).bind λr43=>cond (!decide (r43.1=0)) (some ((5,0,0,0,(0,0,0,([]:Byt),()),()),()))<|(a1.1[0]?).bind λx44=>some ((0,af (x44.toNat:Int),0,0,(af (x38.toNat:Int),af (x39.toNat:Int),y42,(a1.1.take a1.1.length).drop 6,()),()),())) else none;cond (decide ((a1.1.length:Int) < 6)) (some ((5,0,0,0,(0,0,0,([]:Byt),()),()),()))<|(a1.1[0]?).bind λx26=>cond (!decide ((x26.toNat:Int)=0)) ((a1.1[0]?).bind λx27=>cond (!decide ((x27.toNat:Int)=2)) (some ((5,0,0,0,(0,0,0,([]:Byt),()),()),()))<|(a1.1[5]?).bind λx28=>cond (!decide ((a1.1.length:Int)=af (6+(af (x28.toNat:Int))))) (some ((5,0,0,0,(0,0,0,([]:Byt),()),()),()))<|j37)<|(a1.1[5]?).bind λx29=>cond (!decide ((a1.1.length:Int)=af (6+(af (x29.toNat:Int))))) (some ((5,0,0,0,(0,0,0,([]:Byt),()),()),()))<|j37;cond (decide ((a1.1.length:Int)=3)) ((a1.1[0]?).bind λx2=>cond (decide ((x2.toNat:Int)=1)) ((a1.1[1]?).bind λx3=>cond (decide ((x3.toNat:Int) < 12)) ((a1.1[2]?).bind λx4=>cond (decide ((x4.toNat:Int) < 16)) ((a1.1[1]?).bind λx5=>(a1.1[2]?).bind λx6=>some ((0,1,af (x5.toNat:Int),af (x6.toNat:Int),(0,0,0,([]:Byt),()),()),()))<|j25)<|j25)<|j25)<|j25
theorem ae (a1:A):@Eq P (D.W k a1) (p a1):=Bye
theorem ok:Ok prog 172 D.sig:=al func172 av Bye (fc dp.ok (ai _))
end kq
namespace mu
abbrev A:=Byt×Int×Unit
abbrev O:=Byt×Unit
noncomputable def D:FD:={ fn:=f173,tl:=az,ps:=[(.ro,(.aa u8)),(.ro,i64)],rs:=[((.aa u8),(ak (.aa u8)))],gl:=[(253,lW.D.sig)] }
def ab (a:A):Option O:=@lift O λk=>D.W k a
def p (a1:A):Option O:=(lW.ab (a1.1,a1.2.1,())).bind λr2=>if 0<=r2.1/\r2.1<=af (r2.1+r2.2.1)/\af (r2.1+r2.2.1)<=(a1.1.length:Int) then (some ((a1.1.take (af (r2.1+r2.2.1)).toNat).drop r2.1.toNat,())) else none
theorem ae (a1:A):@Eq (Option O) (D.W k a1) (p a1):=Bye
theorem ok:Ok prog 173 D.sig:=al func173 av Bye (fc lW.ok (ai _))
end mu
namespace jN
abbrev A:=Row×Row×Unit
abbrev O:=Bool×Unit
noncomputable def D:FD:={ fn:=f132,tl:=az,ps:=[(.ro,aT),(.ro,aT)],rs:=[(.bool,(ak .bool))] }
def ab (a:A):Option O:=@lift O λk=>D.W k a
def p (a1:A):Option O:=cond (decide (a1.1.1 < a1.2.1.1)) (some (true,()))<|cond (decide (a1.1.1=a1.2.1.1)) (some (decide (a1.1.2.1 < a1.2.1.2.1),()))<|some (false,())
theorem ae (a1:A):@Eq (Option O) (D.W k a1) (p a1):=Bye
theorem ok:Ok prog 132 D.sig:=al func132 av Bye (ai _)
end jN
namespace l6
abbrev A:=Row×Row×Unit
abbrev O:=Int×Unit
noncomputable def D:FD:={ fn:=f186,tl:=az,ps:=[(.ro,aT),(.ro,aT)],rs:=[(i64,(ak i64))],gl:=[(132,jN.D.sig)] }
def ab (a:A):Option O:=@lift O λk=>D.W k a
def p (a1:A):Option O:=(jN.ab (a1.1,a1.2.1,())).bind λr2=>cond r2.1 (some ((-1),()))<|(jN.ab (a1.2.1,a1.1,())).bind λr3=>cond r3.1 (some (1,()))<|some (0,())
theorem ae (a1:A):@Eq (Option O) (D.W k a1) (p a1):=Bye
theorem ok:Ok prog 186 D.sig:=al func186 av Bye (fc jN.ok (ai _))
end l6
namespace pF
abbrev A:=Seen×Seen×Unit
abbrev O:=Int×Unit
noncomputable def D:FD:={ fn:=f255,tl:=az,ps:=[(.ro,gt),(.ro,gt)],rs:=[(i64,(ak i64))],gl:=[(186,l6.D.sig)] }
def ab (a:A):Option O:=@lift O λk=>D.W k a
def p (a1:A):Option O:=(l6.ab (a1.1.1,a1.2.1.1,())).bind λr2=>some (r2.1,())
theorem ae (a1:A):@Eq (Option O) (D.W k a1) (p a1):=Bye
theorem ok:Ok prog 255 D.sig:=al func255 av Bye (fc l6.ok (ai _))
end pF
namespace pZ
open Go.Proofs
abbrev A:=(List Seen)×(Nat×Int)×Unit
abbrev O:=(List Seen)×Unit
def ab (a:A):Option O:=(Bf gt pF.ab a.1).map λr=>(r,())
def sig:vV:={ ps:=[(.lR (aj (.aa gt)),.aa gt),(.fix 255,.fn)],rs:=[],F:=ab }
def Ra:Go.Shelf.Ren:=⟨λ| 6=>254 | 15=>303 | 14=>302 | 28=>334 | 29=>335 | 20=>326 | 21=>327 | 22=>328 | 23=>329 | 24=>330 | 25=>331 | 26=>332 | 27=>333 | 46=>348 | 47=>349 | 48=>350 | 49=>351 | 50=>352 | 57=>361 | n=>n,λ| 22=>160 | 24=>249 | 25=>323 | 3=>3 | 39=>317 | 0=>0 | 53=>405 | 55=>407 | 4=>4 | 46=>399 | 45=>398 | 50=>256 | 5=>5 | 9=>9 | 66=>423 | 70=>427 | 76=>434 | 77=>314 | n=>n,λ| n=>n⟩
theorem aa1:Go.Proofs.SlLaysF0.n6 Tryz.prog Ra:={
 mixed:=Bye
 f6:=⟨Tryz.f254.name,by decide,Tryz.func254.trans (cN some Bye)⟩
 f14:=⟨Tryz.f302.name,by decide,Tryz.func302.trans (cN some Bye)⟩
 f15:=Tryz.func303.trans (cN some Bye)
 f20:=⟨Tryz.f326.name,by decide,Tryz.func326.trans (cN some Bye)⟩
 f21:=⟨Tryz.f327.name,by decide,Tryz.func327.trans (cN some Bye)⟩
 f22:=⟨Tryz.f328.name,by decide,Tryz.func328.trans (cN some Bye)⟩
 f23:=⟨Tryz.f329.name,by decide,Tryz.func329.trans (cN some Bye)⟩
 f24:=⟨Tryz.f330.name,by decide,Tryz.func330.trans (cN some Bye)⟩
 f25:=⟨Tryz.f331.name,by decide,Tryz.func331.trans (cN some Bye)⟩
 f26:=⟨Tryz.f332.name,by decide,Tryz.func332.trans (cN some Bye)⟩
 f27:=⟨Tryz.f333.name,by decide,Tryz.func333.trans (cN some Bye)⟩
 f28:=Tryz.func334.trans (cN some Bye)
 f29:=Tryz.func335.trans (cN some Bye)
 f46:=⟨Tryz.f348.name,by decide,Tryz.func348.trans (cN some Bye)⟩
 f47:=Tryz.func349.trans (cN some Bye)
 f48:=Tryz.func350.trans (cN some Bye)
 f49:=⟨Tryz.f351.name,by decide,Tryz.func351.trans (cN some Bye)⟩
 f50:=⟨Tryz.f352.name,by decide,Tryz.func352.trans (cN some Bye)⟩
 f57:=⟨Tryz.f361.name,by decide,Tryz.func361.trans (cN some Bye)⟩
 t0:=Tryz.underlying0
 a0:=Tryz.isAgg0
 z0:=Tryz.sizeOf0
 v0:=Tryz.zeroValue0
 t3:=Tryz.underlying3
 a3:=Tryz.isAgg3
 z3:=Tryz.sizeOf3
 v3:=Tryz.zeroValue3
 t4:=Tryz.underlying4
 a4:=Tryz.isAgg4
 z4:=Tryz.sizeOf4
 v4:=Tryz.zeroValue4
 t5:=Tryz.underlying5
 a5:=Tryz.isAgg5
 z5:=Tryz.sizeOf5
 v5:=Tryz.zeroValue5
 t9:=Tryz.underlying9
 a9:=Tryz.isAgg9
 z9:=Tryz.sizeOf9
 v9:=Tryz.zeroValue9
 t22:=Tryz.underlying160
 a22:=Tryz.isAgg160
 z22:=Tryz.sizeOf160
 v22:=Tryz.zeroValue160
 t25:=Tryz.underlying323
 a25:=Tryz.isAgg323
 z25:=Tryz.sizeOf323
 v25:=Tryz.zeroValue323
 t39:=Tryz.underlying317
 a39:=Tryz.isAgg317
 z39:=Tryz.sizeOf317
 v39:=Tryz.zeroValue317
 t45:=Tryz.underlying398
 a45:=Tryz.isAgg398
 z45:=Tryz.sizeOf398
 v45:=Tryz.zeroValue398
 t46:=Tryz.underlying399
 a46:=Tryz.isAgg399
 z46:=Tryz.sizeOf399
 v46:=Tryz.zeroValue399
 t50:=Tryz.underlying256
 a50:=Tryz.isAgg256
 z50:=Tryz.sizeOf256
 v50:=Tryz.zeroValue256
 t53:=Tryz.underlying405
 a53:=Tryz.isAgg405
 z53:=Tryz.sizeOf405
 v53:=Tryz.zeroValue405
 t55:=Tryz.underlying407
 a55:=Tryz.isAgg407
 z55:=Tryz.sizeOf407
 v55:=Tryz.zeroValue407
 t66:=Tryz.underlying423
 a66:=Tryz.isAgg423
 z66:=Tryz.sizeOf423
 v66:=Tryz.zeroValue423
 t70:=Tryz.underlying427
 a70:=Tryz.isAgg427
 z70:=Tryz.sizeOf427
 v70:=Tryz.zeroValue427
 t76:=Tryz.underlying434
 a76:=Tryz.isAgg434
 z76:=Tryz.sizeOf434
 v76:=Tryz.zeroValue434
 t77:=Tryz.underlying314
 a77:=Tryz.isAgg314
 z77:=Tryz.sizeOf314
 v77:=Tryz.zeroValue314 }
theorem ok:Ok prog 254 sig:=aa0 (e:=gt) aa1 rfl rfl Bye (by decide) (g:=255) (cF:=pF.ab) pF.ok ⟨f254,func254,by kernel_rfl,by kernel_rfl,by kernel_rfl⟩
end pZ
namespace cc
abbrev A:=(List Byt)×Unit
abbrev O:=(List Seen)×Int×Unit
abbrev P:=Option O
noncomputable def D:FD:={ fn:=f174,tl:=az,ps:=[(.ro,(.aa (.aa u8)))],rs:=[((.aa gt),(aj (.aa gt))),(i64,(ak i64))],gl:=[(132,jN.D.sig),(170,fj.D.sig),(171,it.D.sig),(172,kq.D.sig),(173,mu.D.sig),(254,pZ.sig)],lv:=[(4,[4,5,6,21,22,23]),(7,[4,5,6,7,8,21,22,23,29,30]),(21,[4,5,6,81,82,83]),(29,[4,5,6,15,101,102,103]),(40,[4,19])],lx:=[(0,[4,5,6]),(2,[4,5,6,21,22,23]),(3,[4,5,6,7,8,21,22,23,29,30]),(5,[4,5,6]),(7,[4]),(9,[4])],od:=[(42,[0,1,2,3,4,5,6,7,8,9,10,11,12])] }
def ab (a:A):P:=@lift O λk=>D.W k a
def T0 (a1:A) (U:(List Seen)×(List Seen)×(List ((List Int)×Row))×(List Byt)×Int×Int):St:={ n:=148,sl:=[(4,.own (.aa gt) (aj (.aa gt)) [] U.1),(5,.own (.aa gt) (aj (.aa gt)) [] U.2.1),(6,.own (.map (.arr 2 i64) aT) (aj (.map (.arr 2 i64) aT)) [] U.2.2.1),(21,.val (.aa (.aa u8)) U.2.2.2.1),(22,.val i64 U.2.2.2.2.1),(23,.val i64 U.2.2.2.2.2)],vr:=[],ay:=[] }
def S0 (rec:RT O) (a1:A):((List Seen)×(List Seen)×(List ((List Int)×Row))×(List Byt)×Int×Int)->P:=λU=>rec (T0 a1 U)
def cw (K:KT O) (a1:A):((List Seen)×(List Seen)×(List ((List Int)×Row)))->P:=λz=>K (.exit 0) ({ n:=148,sl:=[(4,.own (.aa gt) (aj (.aa gt)) [] z.1),(5,.own (.aa gt) (aj (.aa gt)) [] z.2.1),(6,.own (.map (.arr 2 i64) aT) (aj (.map (.arr 2 i64) aT)) [] z.2.2)],vr:=[],ay:=[] })
def T1 (a1:A) (c8:Int) (cg:Byt) (bt:List Byt) (bY:Int) (fw:Int) (cm:(List Seen)×(List Seen)×(List ((List Int)×Row))×Int):St:={ n:=148,sl:=[(4,.own (.aa gt) (aj (.aa gt)) [] cm.1),(5,.own (.aa gt) (aj (.aa gt)) [] cm.2.1),(6,.own (.map (.arr 2 i64) aT) (aj (.map (.arr 2 i64) aT)) [] cm.2.2.1),(7,.val i64 c8),(8,.val (.aa u8) cg),(21,.val (.aa (.aa u8)) bt),(22,.val i64 bY),(23,.val i64 c8),(29,.val i64 fw),(30,.val i64 cm.2.2.2)],vr:=[],ay:=[] }
def b1 (self:((List Seen)×(List Seen)×(List ((List Int)×Row))×Int)->P) (e2:((List Seen)×(List Seen)×(List ((List Int)×Row)))->P) (a1:A) (c8:Int) (cg:Byt) (bt:List Byt) (bY:Int) (fw:Int) (cm:(List Seen)×(List Seen)×(List ((List Int)×Row))×Int):P:=cond (decide (cm.2.2.2 < fw)) ((it.ab (cg,cm.2.2.2,())).bind λKo=>cond (!Ko.1) (self (cm.1,cm.2.1,cm.2.2.1,af (cm.2.2.2+1)))<|(mu.ab (cg,cm.2.2.2,())).bind λNP=>(kq.ab (NP.1,())).bind λtB=>cond (!decide (tB.1.1=0)) (some (([]:List Seen),5,()))<|cond (decide (tB.1.2.1=0)) (if cm.1.length+[(tB.1.2.2.2.2.1,c8,cm.2.2.2,false,c8,cm.2.2.2,())].length<=ct then (let ac9:=cm.1++[(tB.1.2.2.2.2.1,c8,cm.2.2.2,false,c8,cm.2.2.2,())];self (ac9,cm.2.1,cm.2.2.1,af (cm.2.2.2+1))) else none)<|cond (decide (tB.1.2.1=2)) (if 0 < (List.replicate 2 0).length then (if 1 < ((List.replicate 2 0).set 0 c8).length then (let ac_:=nG (.arr 2 i64) cm.2.2.1 (((List.replicate 2 0).set 0 c8).set 1 cm.2.2.2) tB.1.2.2.2.2.1;self (cm.1,cm.2.1,ac_,af (cm.2.2.2+1))) else none) else none)<|if cm.2.1.length+[(((0:Int),(0:Int),(0:Int),([]:Byt),()),c8,cm.2.2.2,true,tB.1.2.2.1,tB.1.2.2.2.1,())].length<=ct then (let ada:=cm.2.1++[(((0:Int),(0:Int),(0:Int),([]:Byt),()),c8,cm.2.2.2,true,tB.1.2.2.1,tB.1.2.2.2.1,())];self (cm.1,ada,cm.2.2.1,af (cm.2.2.2+1))) else none)<|e2 (cm.1,cm.2.1,cm.2.2.1)
abbrev B1 (_:Nat):=b1
def q0 (self:((List Seen)×(List Seen)×(List ((List Int)×Row))×(List Byt)×Int×Int)->P) (e0:((List Seen)×(List Seen)×(List ((List Int)×Row)))->P) (a1:A) (c8:Int) (cg:Byt) (bt:List Byt) (bY:Int) (fw:Int) (pv:((List Seen)×(List Seen)×(List ((List Int)×Row)))):P:=self (pv.1,pv.2.1,pv.2.2,bt,bY,af (c8+1))
abbrev Q0 (_:Nat):=q0
def s1 (rec:RT O) (K:KT O) (a1:A):Int->Byt->(List Byt)->Int->Int->((List Seen)×(List Seen)×(List ((List Int)×Row))×Int)->P:=λc8 cg bt bY fw=>λcm=>D.L k [1,1,1,0,1,0,0,1,1,0,0,1,1,0,0] [4,5,6,7,8,21,22,23,29,30] [] (ah 2 (ah 1 (aw (D.N k [1,1,1,0,1,0,0,1,1,1]) (im rec (fm [4,5,6,21,22,23] []) K)))) (T1 a1 c8 cg bt bY fw cm)
def r1 (self:((List Seen)×(List Seen)×(List ((List Int)×Row))×(List Byt)×Int×Int)->P) (e0:((List Seen)×(List Seen)×(List ((List Int)×Row)))->P) (a1:A):Int->Byt->(List Byt)->Int->Int->((List Seen)×(List Seen)×(List ((List Int)×Row))×Int)->P:=λc8 cg bt bY fw=>am (λw v=>B1 k w (Q0 k self e0 a1 c8 cg bt bY fw) a1 c8 cg bt bY fw v) k
theorem kL (rec:RT O) (K:KT O) (a1:A):s1 k rec K a1=r1 k (S0 rec a1) (cw K a1) a1:=
 funext λc8=>funext λcg=>funext λbt=>funext λbY=>funext λfw=>funext λcm=>ap _ _ _ (T1 a1 c8 cg bt bY fw) _ (λrec v=>Bye) k cm
def b0 (self:((List Seen)×(List Seen)×(List ((List Int)×Row))×(List Byt)×Int×Int)->P) (e0:((List Seen)×(List Seen)×(List ((List Int)×Row)))->P) (l1:Int->Byt->(List Byt)->Int->Int->((List Seen)×(List Seen)×(List ((List Int)×Row))×Int)->P) (a1:A) (U:(List Seen)×(List Seen)×(List ((List Int)×Row))×(List Byt)×Int×Int):P:=cond (decide (U.2.2.2.2.2 < U.2.2.2.2.1)) (if 0<=U.2.2.2.2.2 then ((U.2.2.2.1[U.2.2.2.2.2.toNat]?).bind λa7=>(fj.ab (a7,())).bind λdz=>l1 U.2.2.2.2.2 a7 U.2.2.2.1 U.2.2.2.2.1 dz.1 (U.1,U.2.1,U.2.2.1,0)) else none)<|e0 (U.1,U.2.1,U.2.2.1)
def B0 (self:((List Seen)×(List Seen)×(List ((List Int)×Row))×(List Byt)×Int×Int)->P) (e0:((List Seen)×(List Seen)×(List ((List Int)×Row)))->P) (a1:A) (U:(List Seen)×(List Seen)×(List ((List Int)×Row))×(List Byt)×Int×Int):P:=b0 self e0 (r1 k self e0 a1) a1 U
theorem kK (rec:RT O) (K:KT O) (a1:A) (U:(List Seen)×(List Seen)×(List ((List Int)×Row))×(List Byt)×Int×Int):D.N k [1,1,1,0,1,0,0] (T0 a1 U) (im rec (fm [4,5,6,21,22,23] []) K)=B0 k (S0 rec a1) (cw K a1) a1 U:=
 aL (b:=b0 (S0 rec a1) (cw K a1) (s1 k rec K a1) a1 U) Bye (by rw[kL];rfl)
def T2 (a1:A) (jV:List Seen) (jx:List Seen) (jC:List ((List Int)×Row)) (kt:Int) (uq:Int):St:={ n:=148,sl:=[(4,.own (.aa gt) (aj (.aa gt)) [] jV),(5,.own (.aa gt) (aj (.aa gt)) [] jx),(6,.own (.map (.arr 2 i64) aT) (aj (.map (.arr 2 i64) aT)) [] jC),(81,.ref 5 [] [0,0]),(82,.val i64 kt),(83,.val i64 uq)],vr:=[],ay:=[] }
def S2 (rec:RT O) (a1:A) (jV:List Seen) (jx:List Seen) (jC:List ((List Int)×Row)) (kt:Int):(Int)->P:=λuq=>rec (T2 a1 jV jx jC kt uq)
def UI (K:KT O) (a1:A) (jV:List Seen) (jx:List Seen) (jC:List ((List Int)×Row)) (kt:Int):(Unit)->P:=λz=>K (.exit 5) ({ n:=148,sl:=[(4,.own (.aa gt) (aj (.aa gt)) [] jV),(5,.own (.aa gt) (aj (.aa gt)) [] jx),(6,.own (.map (.arr 2 i64) aT) (aj (.map (.arr 2 i64) aT)) [] jC)],vr:=[],ay:=[] })
def b2 (self:Int->P) (e5:(Unit)->P) (a1:A) (jV:List Seen) (jx:List Seen) (jC:List ((List Int)×Row)) (kt:Int) (uq:Int):P:=cond (decide (uq < kt)) (if 0<=uq/\uq < (jx.length:Int) then ((jx[uq.toNat]?).bind λKr=>if 0 < (List.replicate 2 0).length then (if 1 < ((List.replicate 2 0).set 0 Kr.2.2.2.2.1).length then (let aeC:=CQ (jY (.arr 2 i64) jC (((List.replicate 2 0).set 0 Kr.2.2.2.2.1).set 1 Kr.2.2.2.2.2.1)) (0,0,0,([]:Byt),());cond (!(jY (.arr 2 i64) jC (((List.replicate 2 0).set 0 Kr.2.2.2.2.1).set 1 Kr.2.2.2.2.2.1)).isSome) (some (([]:List Seen),4,()))<|self (af (uq+1))) else none) else none) else none)<|e5 ()
abbrev B2 (_:Nat):=b2
theorem UA (rec:RT O) (K:KT O) (a1:A) (jV:List Seen) (jx:List Seen) (jC:List ((List Int)×Row)) (kt:Int) (uq:Int):D.N k [1,1,1,1,0,1,0,0] (T2 a1 jV jx jC kt uq) (im rec (fm [4,5,6,81,82,83] []) K)=b2 (S2 rec a1 jV jx jC kt) (UI K a1 jV jx jC kt) a1 jV jx jC kt uq:=Bye
def T3 (a1:A) (jW:List Seen) (ku:List ((List Int)×Row)) (kw:Int) (p5:(List Seen)×(List ((List Int)×Bool))×Int):St:={ n:=148,sl:=[(4,.own (.aa gt) (aj (.aa gt)) [] p5.1),(5,.own (.aa gt) (aj (.aa gt)) [] jW),(6,.own (.map (.arr 2 i64) aT) (aj (.map (.arr 2 i64) aT)) [] ku),(15,.own (.map (.arr 2 i64) .bool) (aj (.map (.arr 2 i64) .bool)) [] p5.2.1),(101,.ref 5 [] [0,0]),(102,.val i64 kw),(103,.val i64 p5.2.2)],vr:=[],ay:=[] }
def S3 (rec:RT O) (a1:A) (jW:List Seen) (ku:List ((List Int)×Row)) (kw:Int):((List Seen)×(List ((List Int)×Bool))×Int)->P:=λp5=>rec (T3 a1 jW ku kw p5)
def UJ (K:KT O) (a1:A) (jW:List Seen) (ku:List ((List Int)×Row)) (kw:Int):(List Seen)->P:=λz=>K (.exit 7) ({ n:=148,sl:=[(4,.own (.aa gt) (aj (.aa gt)) [] z)],vr:=[],ay:=[] })
def b3 (self:((List Seen)×(List ((List Int)×Bool))×Int)->P) (e7:(List Seen)->P) (a1:A) (jW:List Seen) (ku:List ((List Int)×Row)) (kw:Int) (p5:(List Seen)×(List ((List Int)×Bool))×Int):P:=cond (decide (p5.2.2 < kw)) (if 0<=p5.2.2/\p5.2.2 < (jW.length:Int) then ((jW[p5.2.2.toNat]?).bind λKs=>if 0 < (List.replicate 2 0).length then (if 1 < ((List.replicate 2 0).set 0 Ks.2.2.2.2.1).length then (let UK:=((List.replicate 2 0).set 0 Ks.2.2.2.2.1).set 1 Ks.2.2.2.2.2.1;cond (CQ (jY (.arr 2 i64) p5.2.1 UK) false) (some (([]:List Seen),6,()))<|let aam:=CQ (jY (.arr 2 i64) ku UK) (0,0,0,([]:Byt),());if p5.1.length+[(aam,Ks.2)].length<=ct then (self (p5.1++[(aam,Ks.2)],nG (.arr 2 i64) p5.2.1 UK true,af (p5.2.2+1))) else none) else none) else none) else none)<|e7 p5.1
abbrev B3 (_:Nat):=b3
theorem adb (rec:RT O) (K:KT O) (a1:A) (jW:List Seen) (ku:List ((List Int)×Row)) (kw:Int) (p5:(List Seen)×(List ((List Int)×Bool))×Int):D.N k [1,1,1,1,1,1,0,1,0,0] (T3 a1 jW ku kw p5) (im rec (fm [4,5,6,15,101,102,103] []) K)=b3 (S3 rec a1 jW ku kw) (UJ K a1 jW ku kw) a1 jW ku kw p5:=Bye
def T4 (a1:A) (ur:List Seen) (vZ:Int):St:={ n:=148,sl:=[(4,.own (.aa gt) (aj (.aa gt)) [] ur),(19,.val i64 vZ)],vr:=[],ay:=[] }
def b4 (self:Int->P) (e9:(Unit)->P) (a1:A) (ur:List Seen) (vZ:Int):P:=cond (decide (vZ < (ur.length:Int))) (if 0<=af (vZ - 1)/\af (vZ - 1) < (ur.length:Int) then ((ur[(af (vZ - (1:Int))).toNat]?).bind λadc=>if 0<=vZ/\vZ < (ur.length:Int) then ((ur[vZ.toNat]?).bind λade=>(jN.ab (adc.1,ade.1,())).bind λadf=>cond (!adf.1) (some (([]:List Seen),8,()))<|self (af (vZ+1))) else none) else none)<|e9 ()
abbrev B4 (_:Nat):=b4
def q4 (a1:A) (ur:List Seen) (aeD:(Unit)):P:=some (ur,0,())
abbrev Q4 (_:Nat):=q4
def s4 (a1:A) (jW:List Seen) (ku:List ((List Int)×Row)) (kw:Int):(List Seen)->(Int)->P:=λur=>λvZ=>D.L k [1,1,1,1,1,1,1,1,0,1,0,0] [4,19] [] (ah 9 (aw (D.N k [1,1,1,1,1,1,1,1,1]) D.K0)) (T4 a1 ur vZ)
def r4 (a1:A) (jW:List Seen) (ku:List ((List Int)×Row)) (kw:Int):(List Seen)->(Int)->P:=λur=>am (λw v=>B4 k w (Q4 k a1 ur) a1 ur v) k
theorem adg (a1:A) (jW:List Seen) (ku:List ((List Int)×Row)) (kw:Int):s4 k a1 jW ku kw=r4 k a1 jW ku kw:=
 funext λur=>funext λvZ=>ap _ _ _ (T4 a1 ur) _ (λrec v=>Bye) k vZ
def q3 (l4:(List Seen)->(Int)->P) (a1:A) (jW:List Seen) (ku:List ((List Int)×Row)) (kw:Int) (EV:(List Seen)):P:=(pZ.ab (EV,((255,0):Nat×Int),())).bind λadh=>l4 adh.1 1
def Q3 (a1:A) (jW:List Seen) (ku:List ((List Int)×Row)) (kw:Int) (EV:(List Seen)):P:=q3 (r4 k a1 jW ku kw) a1 jW ku kw EV
theorem UB (a1:A) (jW:List Seen) (ku:List ((List Int)×Row)) (kw:Int) (EV:(List Seen)):UJ (ah 7 (aw (D.N k [1,1,1,1,1,1,1]) D.K0)) a1 jW ku kw EV=Q3 k a1 jW ku kw EV:=
 aL (b:=q3 (s4 k a1 jW ku kw) a1 jW ku kw EV) Bye (by rw[adg];rfl)
def s3 (a1:A) (jV:List Seen) (jx:List Seen) (jC:List ((List Int)×Row)) (kt:Int):(List Seen)->(List ((List Int)×Row))->Int->((List Seen)×(List ((List Int)×Bool))×Int)->P:=λjW ku kw=>λp5=>D.L k [1,1,1,1,1,1,0,1,0,0] [4,5,6,15,101,102,103] [] (ah 7 (aw (D.N k [1,1,1,1,1,1,1]) D.K0)) (T3 a1 jW ku kw p5)
def r3 (a1:A) (jV:List Seen) (jx:List Seen) (jC:List ((List Int)×Row)) (kt:Int):(List Seen)->(List ((List Int)×Row))->Int->((List Seen)×(List ((List Int)×Bool))×Int)->P:=λjW ku kw=>am (λw v=>B3 k w (Q3 k a1 jW ku kw) a1 jW ku kw v) k
theorem Uz (a1:A) (jV:List Seen) (jx:List Seen) (jC:List ((List Int)×Row)) (kt:Int):s3 k a1 jV jx jC kt=r3 k a1 jV jx jC kt:=by
 funext jW;funext ku;funext kw;funext p5;have h7:UJ (ah 7 (aw (D.N k [1,1,1,1,1,1,1]) D.K0)) a1 jW ku kw=Q3 k a1 jW ku kw:=funext λz=>UB k a1 jW ku kw z;refine (ap _ _ _ (T3 a1 jW ku kw) (λself v=>B3 k self (UJ (ah 7 (aw (D.N k [1,1,1,1,1,1,1]) D.K0)) a1 jW ku kw) a1 jW ku kw v) (λrec v=>adb k rec (ah 7 (aw (D.N k [1,1,1,1,1,1,1]) D.K0)) a1 jW ku kw v) k p5).trans ?_;rw[h7];rfl
def q2 (l3:(List Seen)->(List ((List Int)×Row))->Int->((List Seen)×(List ((List Int)×Bool))×Int)->P) (a1:A) (jV:List Seen) (jx:List Seen) (jC:List ((List Int)×Row)) (kt:Int) (HX:(Unit)):P:=l3 jx jC (jx.length:Int) (jV,([]:List ((List Int)×Bool)),0)
def Q2 (a1:A) (jV:List Seen) (jx:List Seen) (jC:List ((List Int)×Row)) (kt:Int) (HX:(Unit)):P:=q2 (r3 k a1 jV jx jC kt) a1 jV jx jC kt HX
theorem wN (a1:A) (jV:List Seen) (jx:List Seen) (jC:List ((List Int)×Row)) (kt:Int) (HX:(Unit)):UI (ah 5 (aw (D.N k [1,1,1,1,1]) D.K0)) a1 jV jx jC kt HX=Q2 k a1 jV jx jC kt HX:=
 aL (b:=q2 (s3 k a1 jV jx jC kt) a1 jV jx jC kt HX) Bye (by rw[Uz];rfl)
def s2 (a1:A):(List Seen)->(List Seen)->(List ((List Int)×Row))->Int->(Int)->P:=λjV jx jC kt=>λuq=>D.L k [1,1,1,1,0,1,0,0] [4,5,6,81,82,83] [] (ah 5 (aw (D.N k [1,1,1,1,1]) D.K0)) (T2 a1 jV jx jC kt uq)
def r2 (a1:A):(List Seen)->(List Seen)->(List ((List Int)×Row))->Int->(Int)->P:=λjV jx jC kt=>am (λw v=>B2 k w (Q2 k a1 jV jx jC kt) a1 jV jx jC kt v) k
theorem tz (a1:A):s2 k a1=r2 k a1:=by
 funext jV;funext jx;funext jC;funext kt;funext uq;have h5:UI (ah 5 (aw (D.N k [1,1,1,1,1]) D.K0)) a1 jV jx jC kt=Q2 k a1 jV jx jC kt:=funext λz=>wN k a1 jV jx jC kt z;refine (ap _ _ _ (T2 a1 jV jx jC kt) (λself v=>B2 k self (UI (ah 5 (aw (D.N k [1,1,1,1,1]) D.K0)) a1 jV jx jC kt) a1 jV jx jC kt v) (λrec v=>UA k rec (ah 5 (aw (D.N k [1,1,1,1,1]) D.K0)) a1 jV jx jC kt v) k uq).trans ?_;rw[h5];rfl
def q1 (l2:(List Seen)->(List Seen)->(List ((List Int)×Row))->Int->(Int)->P) (a1:A) (zY:((List Seen)×(List Seen)×(List ((List Int)×Row)))):P:=l2 zY.1 zY.2.1 zY.2.2 (zY.2.1.length:Int) 0
def Q1 (a1:A) (zY:((List Seen)×(List Seen)×(List ((List Int)×Row)))):P:=q1 (r2 k a1) a1 zY
theorem pN (a1:A) (zY:((List Seen)×(List Seen)×(List ((List Int)×Row)))):cw (ah 0 (aw (D.N k [1,1,1,1]) D.K0)) a1 zY=Q1 k a1 zY:=
 aL (b:=q1 (s2 k a1) a1 zY) Bye (by rw[tz];rfl)
def s0 (a1:A):((List Seen)×(List Seen)×(List ((List Int)×Row))×(List Byt)×Int×Int)->P:=λU=>D.L k [1,1,1,0,1,0,0] [4,5,6,21,22,23] [] (ah 0 (aw (D.N k [1,1,1,1]) D.K0)) (T0 a1 U)
def r0 (a1:A):((List Seen)×(List Seen)×(List ((List Int)×Row))×(List Byt)×Int×Int)->P:=am (λw v=>B0 k w (Q1 k a1) a1 v) k
theorem aq (a1:A):s0 k a1=r0 k a1:=by
 funext U;have h0:cw (ah 0 (aw (D.N k [1,1,1,1]) D.K0)) a1=Q1 k a1:=funext λz=>pN k a1 z;refine (ap _ _ _ (T0 a1) (λself v=>B0 k self (cw (ah 0 (aw (D.N k [1,1,1,1]) D.K0)) a1) a1 v) (λrec v=>kK k rec (ah 0 (aw (D.N k [1,1,1,1]) D.K0)) a1 v) k U).trans ?_;rw[h0];rfl
def p (l0:((List Seen)×(List Seen)×(List ((List Int)×Row))×(List Byt)×Int×Int)->P) (a1:A):P:=l0 (([]:List Seen),([]:List Seen),([]:List ((List Int)×Row)),a1.1,(a1.1.length:Int),0)
theorem ae (a1:A):@Eq P (D.W k a1) (p (r0 k a1) a1):=
 aL (b:=p (s0 k a1) a1) Bye (by rw[aq])
theorem ok:Ok prog 174 D.sig:=al func174 av Bye (fc jN.ok (fc fj.ok (fc it.ok (fc kq.ok (fc mu.ok (fc pZ.ok (ai _)))))))
end cc
namespace fb
abbrev A:=(List Byt)×Unit
abbrev O:=(List Seen)×Int×Unit
abbrev P:=Option O
noncomputable def D:FD:={ fn:=f99,tl:=az,ps:=[(.ro,(.aa (.aa u8)))],rs:=[((.aa gt),(aj (.aa gt))),(i64,(ak i64))],gl:=[(169,bj.D.sig),(170,fj.D.sig),(171,it.D.sig),(172,kq.D.sig),(173,mu.D.sig),(174,cc.D.sig)],lv:=[(4,[0,11,12,13]),(10,[0,5,11,12,13,23,24])],lx:=[(0,[0]),(2,[0,11,12,13])] }
def ab (a:A):P:=@lift O λk=>D.W k a
def T0 (a1:A) (U:(List Byt)×(List Byt)×Int×Int):St:={ n:=44,sl:=[(0,.val (.aa (.aa u8)) U.1),(11,.val (.aa (.aa u8)) U.2.1),(12,.val i64 U.2.2.1),(13,.val i64 U.2.2.2)],vr:=[],ay:=[] }
def S0 (rec:RT O) (a1:A):((List Byt)×(List Byt)×Int×Int)->P:=λU=>rec (T0 a1 U)
def cw (K:KT O) (a1:A):(List Byt)->P:=λz=>K (.exit 0) ({ n:=44,sl:=[(0,.val (.aa (.aa u8)) z)],vr:=[],ay:=[] })
def T1 (a1:A) (cg:List Byt) (bt:Byt) (bY:List Byt) (fw:Int) (iS:Int) (lu:Int) (ft:Int):St:={ n:=44,sl:=[(0,.val (.aa (.aa u8)) cg),(5,.val (.aa u8) bt),(11,.val (.aa (.aa u8)) bY),(12,.val i64 fw),(13,.val i64 iS),(23,.val i64 lu),(24,.val i64 ft)],vr:=[],ay:=[] }
def b1 (self:Int->P) (e2:(Unit)->P) (a1:A) (cg:List Byt) (bt:Byt) (bY:List Byt) (fw:Int) (iS:Int) (lu:Int) (ft:Int):P:=cond (decide (ft < lu)) ((it.ab (bt,ft,())).bind λtB=>cond tB.1 ((mu.ab (bt,ft,())).bind λC_=>(kq.ab (C_.1,())).bind λadi=>cond (!decide (adi.1.1=0)) (some (([]:List Seen),5,()))<|self (af (ft+1)))<|self (af (ft+1)))<|e2 ()
def q0 (self:((List Byt)×(List Byt)×Int×Int)->P) (e0:(List Byt)->P) (a1:A) (cg:List Byt) (bt:Byt) (bY:List Byt) (fw:Int) (iS:Int) (lu:Int) (Kp:(Unit)):P:=self (cg,bY,fw,af (iS+1))
def s1 (rec:RT O) (K:KT O) (a1:A):(List Byt)->Byt->(List Byt)->Int->Int->Int->(Int)->P:=λcg bt bY fw iS lu=>λft=>D.L k [1,1,0,1,0,0,1,1,0,0,1,1,1,0,0] [0,5,11,12,13,23,24] [] (ah 2 (ah 1 (aw (D.N k [1,1,0,1,0,0,1,1,1]) (im rec (fm [0,11,12,13] []) K)))) (T1 a1 cg bt bY fw iS lu ft)
def r1 (self:((List Byt)×(List Byt)×Int×Int)->P) (e0:(List Byt)->P) (a1:A):(List Byt)->Byt->(List Byt)->Int->Int->Int->(Int)->P:=λcg bt bY fw iS lu=>am (λw v=>b1 w (q0 self e0 a1 cg bt bY fw iS lu) a1 cg bt bY fw iS lu v) k
theorem kL (rec:RT O) (K:KT O) (a1:A):s1 k rec K a1=r1 k (S0 rec a1) (cw K a1) a1:=
 funext λcg=>funext λbt=>funext λbY=>funext λfw=>funext λiS=>funext λlu=>funext λft=>ap _ _ _ (T1 a1 cg bt bY fw iS lu) _ (λrec v=>Bye) k ft
def b0 (self:((List Byt)×(List Byt)×Int×Int)->P) (e0:(List Byt)->P) (l1:(List Byt)->Byt->(List Byt)->Int->Int->Int->(Int)->P) (a1:A) (U:(List Byt)×(List Byt)×Int×Int):P:=cond (decide (U.2.2.2 < U.2.2.1)) (if 0<=U.2.2.2 then ((U.2.1[U.2.2.2.toNat]?).bind λa7=>(bj.ab (a7,())).bind λdz=>cond (!decide (dz.1=0)) (some (([]:List Seen),dz.1,()))<|(fj.ab (a7,())).bind λlj=>l1 U.1 a7 U.2.1 U.2.2.1 U.2.2.2 lj.1 0) else none)<|e0 U.1
def B0 (self:((List Byt)×(List Byt)×Int×Int)->P) (e0:(List Byt)->P) (a1:A) (U:(List Byt)×(List Byt)×Int×Int):P:=b0 self e0 (r1 k self e0 a1) a1 U
theorem kK (rec:RT O) (K:KT O) (a1:A) (U:(List Byt)×(List Byt)×Int×Int):D.N k [1,1,0,1,0,0] (T0 a1 U) (im rec (fm [0,11,12,13] []) K)=B0 k (S0 rec a1) (cw K a1) a1 U:=
 aL (b:=b0 (S0 rec a1) (cw K a1) (s1 k rec K a1) a1 U) Bye (by rw[kL];rfl)
def q1 (a1:A) (pv:(List Byt)):P:=(cc.ab (pv,())).bind λDb=>some (Db.1,Db.2.1,())
theorem pN (a1:A) (pv:(List Byt)):cw (ah 0 (aw (D.N k [1,1,1]) D.K0)) a1 pv=q1 a1 pv:=Bye
def s0 (a1:A):((List Byt)×(List Byt)×Int×Int)->P:=λU=>D.L k [1,1,0,1,0,0] [0,11,12,13] [] (ah 0 (aw (D.N k [1,1,1]) D.K0)) (T0 a1 U)
def r0 (a1:A):((List Byt)×(List Byt)×Int×Int)->P:=am (λw v=>B0 k w (q1 a1) a1 v) k
theorem aq (a1:A):s0 k a1=r0 k a1:=by
 funext U;have h0:cw (ah 0 (aw (D.N k [1,1,1]) D.K0)) a1=q1 a1:=funext λz=>pN k a1 z;refine (ap _ _ _ (T0 a1) (λself v=>B0 k self (cw (ah 0 (aw (D.N k [1,1,1]) D.K0)) a1) a1 v) (λrec v=>kK k rec (ah 0 (aw (D.N k [1,1,1]) D.K0)) a1 v) k U).trans ?_;rw[h0];rfl
def p (l0:((List Byt)×(List Byt)×Int×Int)->P) (a1:A):P:=cond (decide (12 < (a1.1.length:Int))) (some (([]:List Seen),2,()))<|l0 (a1.1,a1.1,(a1.1.length:Int),0)
theorem ae (a1:A):@Eq P (D.W k a1) (p (r0 k a1) a1):=
 aL (b:=p (s0 k a1) a1) Bye (by rw[aq])
theorem ok:Ok prog 99 D.sig:=al func99 av Bye (fc bj.ok (fc fj.ok (fc it.ok (fc kq.ok (fc mu.ok (fc cc.ok (ai _)))))))
end fb
namespace gb
abbrev A:=(List Row)×Unit
abbrev O:=Int×Unit
abbrev P:=Option O
noncomputable def D:FD:={ fn:=f103,tl:=az,ps:=[(.ro,(.aa aT))],rs:=[(i64,(ak i64))],gl:=[(132,jN.D.sig),(179,dp.D.sig)],lv:=[(4,[0,9,10,11])],lx:=[(0,[])],od:=[(9,[0,1,2,3,4,5,6,7,8,9,10,11])] }
def ab (a:A):P:=@lift O λk=>D.W k a
variable (a1:A)
def T0 (U:Int):St:={ n:=34,sl:=[(0,.val (.aa aT) a1.1),(9,.val (.aa aT) a1.1),(10,.val i64 (a1.1.length:Int)),(11,.val i64 U)],vr:=[],ay:=[] }
def b0 (self:Int->P) (e0:(Unit)->P) (a1:A) (U:Int):P:=cond (decide (U < (a1.1.length:Int))) (if 0<=U then ((a1.1[U.toNat]?).bind λa7=>(dp.ab (a7,())).bind λdz=>cond (!decide (dz.1=0)) (some (dz.1,()))<|cond (decide (0 < U)) (if 0<=af (U - 1) then ((a1.1[(af (U - (1:Int))).toNat]?).bind λen=>(jN.ab (en,a7,())).bind λjm=>cond (!jm.1) (some (1,()))<|self (af (U+1))) else none)<|self (af (U+1))) else none)<|e0 ()
def q0 (a1:A) (kf:(Unit)):P:=some (0,())
def r0:(Int)->P:=am (λw v=>b0 w (q0 a1) a1 v) k
theorem aq:@Eq ((Int)->P) (λU=>D.L k [1,1,0,1,0,0] [0,9,10,11] [] (ah 0 (aw (D.N k [1,1,1]) D.K0)) (T0 a1 U)) (r0 k a1):=
 funext λU=>ap _ _ _ (T0 a1) _ (λrec v=>Bye) k U
def p (l0:(Int)->P) (a1:A):P:=cond (decide (60 < (a1.1.length:Int))) (some (2,()))<|l0 0
theorem ae:@Eq P (D.W k a1) (p (r0 k a1) a1):=By8 (aq k a1) Bye
theorem ok:Ok prog 103 D.sig:=al func103 av Bye (fc jN.ok (fc dp.ok (ai _)))
end gb
namespace iW
abbrev A:=Change×Unit
abbrev O:=Int×Unit
noncomputable def D:FD:={ fn:=f208,tl:=az,ps:=[(.ro,ao)],rs:=[(i64,(ak i64))],gl:=[(179,dp.D.sig),(186,l6.D.sig)] }
def ab (a:A):Option O:=@lift O λk=>D.W k a
def p (a1:A):Option O:=let j7:Option O:=cond a1.1.1 ((dp.ab (a1.1.2.1,())).bind λr8=>cond (!decide (r8.1=0)) (some (r8.1,()))<|cond a1.1.2.2.1 ((dp.ab (a1.1.2.2.2.1,())).bind λsf=>some (sf.1,()))<|some (0,()))<|cond a1.1.2.2.1 ((dp.ab (a1.1.2.2.2.1,())).bind λnu=>some (nu.1,()))<|some (0,());cond (!a1.1.1) (cond (!a1.1.2.2.1) (some (1,()))<|cond a1.1.1 (cond a1.1.2.2.1 ((l6.ab (a1.1.2.1,a1.1.2.2.2.1,())).bind λr2=>cond (!decide (r2.1=0)) (some (1,()))<|j7)<|j7)<|j7)<|cond a1.1.1 (cond a1.1.2.2.1 ((l6.ab (a1.1.2.1,a1.1.2.2.2.1,())).bind λr3=>cond (!decide (r3.1=0)) (some (1,()))<|j7)<|j7)<|j7
theorem ae (a1:A):@Eq (Option O) (D.W k a1) (p a1):=Bye
theorem ok:Ok prog 208 D.sig:=al func208 av Bye (fc dp.ok (fc l6.ok (ai _)))
end iW
namespace kC
abbrev A:=Change×Unit
abbrev O:=Int×Unit
noncomputable def D:FD:={ fn:=f131,tl:=az,ps:=[(.ro,ao)],rs:=[(i64,(ak i64))],gl:=[(208,iW.D.sig)] }
def ab (a:A):Option O:=@lift O λk=>D.W k a
def p (a1:A):Option O:=(iW.ab (a1.1,())).bind λr2=>cond (!decide (r2.1=0)) (some (r2.1,()))<|cond a1.1.1 (cond a1.1.2.2.1 (cond (Ty.eq aT a1.1.2.1 a1.1.2.2.2.1) (some (1,()))<|some (0,()))<|some (0,()))<|some (0,())
theorem ae (a1:A):@Eq (Option O) (D.W k a1) (p a1):=Bye
theorem ok:Ok prog 131 D.sig:=al func131 av Bye (fc iW.ok (ai _))
end kC
namespace dq
abbrev A:=Change×Unit
abbrev O:=Row×Unit
noncomputable def D:FD:={ fn:=f133,tl:=az,ps:=[(.ro,ao)],rs:=[(aT,(ak aT))] }
def ab (a:A):Option O:=@lift O λk=>D.W k a
def p (a1:A):Option O:=cond a1.1.2.2.1 (some (a1.1.2.2.2.1,()))<|some (a1.1.2.1,())
theorem ae (a1:A):@Eq (Option O) (D.W k a1) (p a1):=Bye
theorem ok:Ok prog 133 D.sig:=al func133 av Bye (ai _)
end dq
namespace iX
abbrev A:=Change×Unit
abbrev O:=Key×Unit
noncomputable def D:FD:={ fn:=f196,tl:=az,ps:=[(.ro,ao)],rs:=[(bc,(ak bc))],gl:=[(133,dq.D.sig)],od:=[(1,[0,3,1,2,4,5,6,7])] }
def ab (a:A):Option O:=@lift O λk=>D.W k a
def p (a1:A):Option O:=(dq.ab (a1.1,())).bind λr2=>(dq.ab (a1.1,())).bind λr3=>some ((r2.1.1,r3.1.2.1,()),())
theorem ae (a1:A):@Eq (Option O) (D.W k a1) (p a1):=Bye
theorem ok:Ok prog 196 D.sig:=al func196 av Bye (fc dq.ok (ai _))
end iX
namespace kD
abbrev A:=(List Key)×Key×Unit
abbrev O:=Int×Unit
abbrev P:=Option O
noncomputable def D:FD:={ fn:=f305,tl:=az,ps:=[(.ro,(.aa bc)),(.ro,bc)],rs:=[(i64,(ak i64))],lv:=[(2,[0,3,7,8])],lx:=[(0,[])],od:=[(4,[0,1,2,3,4,5])] }
def ab (a:A):P:=@lift O λk=>D.W k a
variable (a1:A)
def T0 (U:Int):St:={ n:=19,sl:=[(0,.val (.aa bc) a1.1),(3,.box bc (ak bc) [] a1.2.1),(7,.val i64 (a1.1.length:Int)),(8,.val i64 U)],vr:=[],ay:=[] }
def b0 (self:Int->P) (e0:(Unit)->P) (a1:A) (U:Int):P:=cond (decide (U < (a1.1.length:Int))) (if 0<=U then ((a1.1[U.toNat]?).bind λa7=>cond (Ty.eq bc a1.2.1 a7) (some (U,()))<|self (af (U+1))) else none)<|e0 ()
def q0 (a1:A) (l_:(Unit)):P:=some ((-1),())
def r0:(Int)->P:=am (λw v=>b0 w (q0 a1) a1 v) k
theorem aq:@Eq ((Int)->P) (λU=>D.L k [1,0,1,0,0] [0,3,7,8] [] (ah 0 (aw (D.N k [1,1]) D.K0)) (T0 a1 U)) (r0 k a1):=
 funext λU=>ap _ _ _ (T0 a1) _ (λrec v=>Bye) k U
def p (l0:(Int)->P) (a1:A):P:=l0 0
theorem ae:@Eq P (D.W k a1) (p (r0 k a1) a1):=By8 (aq k a1) Bye
theorem ok:Ok prog 305 D.sig:=al func305 av Bye (ai _)
end kD
namespace gf
abbrev A:=(List Key)×Key×Unit
abbrev O:=Bool×Unit
noncomputable def D:FD:={ fn:=f258,tl:=az,ps:=[(.ro,(.aa bc)),(.ro,bc)],rs:=[(.bool,(ak .bool))],gl:=[(305,kD.D.sig)] }
def ab (a:A):Option O:=@lift O λk=>D.W k a
def p (a1:A):Option O:=(kD.ab (a1.1,a1.2.1,())).bind λr2=>some (decide (0<=r2.1),())
theorem ae (a1:A):@Eq (Option O) (D.W k a1) (p a1):=Bye
theorem ok:Ok prog 258 D.sig:=al func258 av Bye (fc kD.ok (ai _))
end gf
namespace ve
abbrev A:=Int×Int×Unit
abbrev O:=Bool×Unit
noncomputable def D:FD:={ fn:=f259,tl:=az,ps:=[(.ro,i64),(.ro,i64)],rs:=[(.bool,(ak .bool))],gl:=[(98,fk.D.sig)] }
def ab (a:A):Option O:=@lift O λk=>D.W k a
def p (a1:A):Option O:=(fk.ab (a1.1,0,3,())).bind λr2=>cond r2.1 ((fk.ab (a1.2.1,1,99,())).bind λr3=>some (r3.1,()))<|some (false,())
theorem ae (a1:A):@Eq (Option O) (D.W k a1) (p a1):=Bye
theorem ok:Ok prog 259 D.sig:=al func259 av Bye (fc fk.ok (ai _))
end ve
namespace ep
abbrev A:=Tx×Unit
abbrev O:=Int×Unit
abbrev P:=Option O
noncomputable def D:FD:={ fn:=f180,tl:=az,ps:=[(.ro,bh)],rs:=[(i64,(ak i64))],gl:=[(98,fk.D.sig),(131,kC.D.sig),(196,iX.D.sig),(258,gf.D.sig),(259,ve.D.sig)],lv:=[(2,[1,12,13,14]),(14,[1,6,41,42,43]),(21,[1,57,58,59])],lx:=[(0,[1]),(2,[1]),(4,[])],od:=[(7,[0,1,2,3,4,5]),(25,[0,1,2,3,4,5])] }
def ab (a:A):P:=@lift O λk=>D.W k a
def T0 (a1:A) (U:Int):St:={ n:=77,sl:=[(1,.box bh (ak bh) [] a1.1),(12,.val (.aa ao) a1.1.2.1),(13,.val i64 (a1.1.2.1.length:Int)),(14,.val i64 U)],vr:=[],ay:=[] }
def S0 (rec:RT O) (a1:A):(Int)->P:=λU=>rec (T0 a1 U)
def cw (K:KT O) (a1:A):(Unit)->P:=λz=>K (.exit 0) ({ n:=77,sl:=[(1,.box bh (ak bh) [] a1.1)],vr:=[],ay:=[] })
def b0 (self:Int->P) (e0:(Unit)->P) (a1:A) (U:Int):P:=cond (decide (U < (a1.1.2.1.length:Int))) (if 0<=U then ((a1.1.2.1[U.toNat]?).bind λa7=>(kC.ab (a7,())).bind λdz=>cond (!decide (dz.1=0)) (some (dz.1,()))<|(iX.ab (a7,())).bind λlj=>(gf.ab (a1.1.2.2.2.1,lj.1,())).bind λjm=>cond (!jm.1) (some (8,()))<|self (af (U+1))) else none)<|e0 ()
theorem kK (rec:RT O) (K:KT O) (a1:A) (U:Int):D.N k [1,0,1,0,0] (T0 a1 U) (im rec (fm [1,12,13,14] []) K)=b0 (S0 rec a1) (cw K a1) a1 U:=Bye
def T1 (a1:A) (dv:Int×Int):St:={ n:=77,sl:=[(1,.box bh (ak bh) [] a1.1),(6,.val i64 dv.1),(41,.val (.aa i64) a1.1.2.2.1),(42,.val i64 (a1.1.2.2.1.length:Int)),(43,.val i64 dv.2)],vr:=[],ay:=[] }
def S1 (rec:RT O) (a1:A):(Int×Int)->P:=λdv=>rec (T1 a1 dv)
def jJ (K:KT O) (a1:A):(Unit)->P:=λz=>K (.exit 2) ({ n:=77,sl:=[(1,.box bh (ak bh) [] a1.1)],vr:=[],ay:=[] })
def b1 (self:(Int×Int)->P) (e2:(Unit)->P) (a1:A) (dv:Int×Int):P:=cond (decide (dv.2 < (a1.1.2.2.1.length:Int))) (if 0<=dv.2 then ((a1.1.2.2.1[dv.2.toNat]?).bind λzW=>(fk.ab (zW,dv.1,(a1.1.2.1.length:Int),())).bind λBj=>cond (!Bj.1) (some (3,()))<|self (zW,af (dv.2+1))) else none)<|e2 ()
theorem u7 (rec:RT O) (K:KT O) (a1:A) (dv:Int×Int):D.N k [1,1,1,1,0,1,0,0] (T1 a1 dv) (im rec (fm [1,6,41,42,43] []) K)=b1 (S1 rec a1) (jJ K a1) a1 dv:=Bye
def T2 (a1:A) (nE:Int):St:={ n:=77,sl:=[(1,.box bh (ak bh) [] a1.1),(57,.val (.aa bc) a1.1.2.2.2.1),(58,.val i64 (a1.1.2.2.2.1.length:Int)),(59,.val i64 nE)],vr:=[],ay:=[] }
def b2 (self:Int->P) (e4:(Unit)->P) (a1:A) (nE:Int):P:=cond (decide (nE < (a1.1.2.2.2.1.length:Int))) (if 0<=nE then ((a1.1.2.2.2.1[nE.toNat]?).bind λEO=>(ve.ab (EO.1,EO.2.1,())).bind λUs=>cond (!Us.1) (some (3,()))<|if 0<=nE/\nE<=(a1.1.2.2.2.1.length:Int) then ((gf.ab ((a1.1.2.2.2.1.take nE.toNat).drop 0,EO,())).bind λadj=>cond adj.1 (some (6,()))<|self (af (nE+1))) else none) else none)<|e4 ()
def q2 (a1:A) (wM:(Unit)):P:=some (0,())
def s2 (a1:A):(Int)->P:=λnE=>D.L k [1,1,1,1,1,0,1,0,0] [1,57,58,59] [] (ah 4 (aw (D.N k [1,1,1,1,1,1]) D.K0)) (T2 a1 nE)
def r2 (a1:A):(Int)->P:=am (λw v=>b2 w (q2 a1) a1 v) k
theorem tz (a1:A):s2 k a1=r2 k a1:=
 funext λnE=>ap _ _ _ (T2 a1) _ (λrec v=>Bye) k nE
def q1 (l2:(Int)->P) (a1:A) (ES:(Unit)):P:=l2 0
def Q1 (a1:A) (ES:(Unit)):P:=q1 (r2 k a1) a1 ES
theorem pN (a1:A) (ES:(Unit)):jJ (ah 2 (aw (D.N k [1,1,1,1,1]) D.K0)) a1 ES=Q1 k a1 ES:=
 aL (b:=q1 (s2 k a1) a1 ES) Bye (by rw[tz];rfl)
def s1 (a1:A):(Int×Int)->P:=λdv=>D.L k [1,1,1,1,0,1,0,0] [1,6,41,42,43] [] (ah 2 (aw (D.N k [1,1,1,1,1]) D.K0)) (T1 a1 dv)
def r1 (a1:A):(Int×Int)->P:=am (λw v=>b1 w (Q1 k a1) a1 v) k
theorem kL (a1:A):s1 k a1=r1 k a1:=by
 funext dv;have h2:jJ (ah 2 (aw (D.N k [1,1,1,1,1]) D.K0)) a1=Q1 k a1:=funext λz=>pN k a1 z;refine (ap _ _ _ (T1 a1) (λself v=>b1 self (jJ (ah 2 (aw (D.N k [1,1,1,1,1]) D.K0)) a1) a1 v) (λrec v=>u7 k rec (ah 2 (aw (D.N k [1,1,1,1,1]) D.K0)) a1 v) k dv).trans ?_;rw[h2];rfl
def q0 (l1:(Int×Int)->P) (a1:A) (kf:(Unit)):P:=cond (decide (8 < (a1.1.2.2.1.length:Int))) (some (2,()))<|cond (decide (12 < (a1.1.2.2.2.1.length:Int))) (some (2,()))<|l1 (0,0)
def Q0 (a1:A) (kf:(Unit)):P:=q0 (r1 k a1) a1 kf
theorem tA (a1:A) (kf:(Unit)):cw (ah 0 (aw (D.N k [1,1]) D.K0)) a1 kf=Q0 k a1 kf:=
 aL (b:=q0 (s1 k a1) a1 kf) Bye (by rw[kL];rfl)
def s0 (a1:A):(Int)->P:=λU=>D.L k [1,0,1,0,0] [1,12,13,14] [] (ah 0 (aw (D.N k [1,1]) D.K0)) (T0 a1 U)
def r0 (a1:A):(Int)->P:=am (λw v=>b0 w (Q0 k a1) a1 v) k
theorem aq (a1:A):s0 k a1=r0 k a1:=by
 funext U;have h0:cw (ah 0 (aw (D.N k [1,1]) D.K0)) a1=Q0 k a1:=funext λz=>tA k a1 z;refine (ap _ _ _ (T0 a1) (λself v=>b0 self (cw (ah 0 (aw (D.N k [1,1]) D.K0)) a1) a1 v) (λrec v=>kK k rec (ah 0 (aw (D.N k [1,1]) D.K0)) a1 v) k U).trans ?_;rw[h0];rfl
def p (l0:(Int)->P) (a1:A):P:=l0 0
theorem ae (a1:A):@Eq P (D.W k a1) (p (r0 k a1) a1):=
 aL (b:=p (s0 k a1) a1) Bye (by rw[aq])
theorem ok:Ok prog 180 D.sig:=al func180 av Bye (fc fk.ok (fc kC.ok (fc iX.ok (fc gf.ok (fc ve.ok (ai _))))))
end ep
namespace jp
abbrev A:=(List Tx)×Unit
abbrev O:=Int×Unit
abbrev P:=Option O
noncomputable def D:FD:={ fn:=f181,tl:=az,ps:=[(.ro,(.aa bh))],rs:=[(i64,(ak i64))],lv:=[(3,[3,6,7,8])],lx:=[(0,[3])] }
def ab (a:A):P:=@lift O λk=>D.W k a
variable (a1:A)
def T0 (U:Int×Int):St:={ n:=19,sl:=[(3,.val i64 U.1),(6,.val (.aa bh) a1.1),(7,.val i64 (a1.1.length:Int)),(8,.val i64 U.2)],vr:=[],ay:=[] }
def b0 (self:(Int×Int)->P) (e0:Int->P) (a1:A) (U:Int×Int):P:=cond (decide (U.2 < (a1.1.length:Int))) (if 0<=U.2 then ((a1.1[U.2.toNat]?).bind λa7=>self (af (U.1+(a7.2.1.length:Int)),af (U.2+1))) else none)<|e0 U.1
def q0 (a1:A) (l_:Int):P:=some (l_,())
def r0:(Int×Int)->P:=am (λw v=>b0 w (q0 a1) a1 v) k
theorem aq:@Eq ((Int×Int)->P) (λU=>D.L k [1,1,0,1,0,0] [3,6,7,8] [] (ah 0 (aw (D.N k [1,1,1]) D.K0)) (T0 a1 U)) (r0 k a1):=
 funext λU=>ap _ _ _ (T0 a1) _ (λrec v=>Bye) k U
def p (l0:(Int×Int)->P) (a1:A):P:=l0 (0,0)
theorem ae:@Eq P (D.W k a1) (p (r0 k a1) a1):=By8 (aq k a1) Bye
theorem ok:Ok prog 181 D.sig:=al func181 av Bye (ai _)
end jp
namespace cu
abbrev A:=(List Tx)×Unit
abbrev O:=Int×Unit
abbrev P:=Option O
noncomputable def D:FD:={ fn:=f104,tl:=az,ps:=[(.ro,(.aa bh))],rs:=[(i64,(ak i64))],gl:=[(70,oG.D.sig),(180,ep.D.sig),(181,jp.D.sig)],lv:=[(4,[0,14,15,16]),(16,[0,6,45,46,47]),(19,[0,6,45,46,47,52,53,54])],lx:=[(0,[0]),(2,[0]),(4,[0,6,45,46,47])],od:=[(8,[0,1,2,3,4,5,6,7,8,9,10,11,12])] }
def ab (a:A):P:=@lift O λk=>D.W k a
def T0 (a1:A) (U:Int):St:={ n:=68,sl:=[(0,.val (.aa bh) a1.1),(14,.val (.aa bh) a1.1),(15,.val i64 (a1.1.length:Int)),(16,.val i64 U)],vr:=[],ay:=[] }
def S0 (rec:RT O) (a1:A):(Int)->P:=λU=>rec (T0 a1 U)
def cw (K:KT O) (a1:A):(Unit)->P:=λz=>K (.exit 0) ({ n:=68,sl:=[(0,.val (.aa bh) a1.1)],vr:=[],ay:=[] })
def b0 (self:Int->P) (e0:(Unit)->P) (a1:A) (U:Int):P:=cond (decide (U < (a1.1.length:Int))) (if 0<=U then ((a1.1[U.toNat]?).bind λa7=>(oG.ab (a7.1,())).bind λdz=>cond (!dz.1) (some (3,()))<|cond (decide (0 < U)) (if 0<=af (U - 1) then ((a1.1[(af (U - (1:Int))).toNat]?).bind λen=>cond (decide (a7.1<=en.1)) (some (1,()))<|(ep.ab (a7,())).bind λky=>cond (!decide (ky.1=0)) (some (ky.1,()))<|self (af (U+1))) else none)<|(ep.ab (a7,())).bind λqv=>cond (!decide (qv.1=0)) (some (qv.1,()))<|self (af (U+1))) else none)<|e0 ()
theorem kK (rec:RT O) (K:KT O) (a1:A) (U:Int):D.N k [1,1,0,1,0,0] (T0 a1 U) (im rec (fm [0,14,15,16] []) K)=b0 (S0 rec a1) (cw K a1) a1 U:=Bye
def T1 (a1:A) (iT:(List Tx)×(List (Key×Bool))×(List Tx)×Int×Int):St:={ n:=68,sl:=[(0,.val (.aa bh) iT.1),(6,.own (.map bc .bool) (aj (.map bc .bool)) [] iT.2.1),(45,.val (.aa bh) iT.2.2.1),(46,.val i64 iT.2.2.2.1),(47,.val i64 iT.2.2.2.2)],vr:=[],ay:=[] }
def S1 (rec:RT O) (a1:A):((List Tx)×(List (Key×Bool))×(List Tx)×Int×Int)->P:=λiT=>rec (T1 a1 iT)
def jJ (K:KT O) (a1:A):(List Tx)->P:=λz=>K (.exit 2) ({ n:=68,sl:=[(0,.val (.aa bh) z)],vr:=[],ay:=[] })
def T2 (a1:A) (e_:List Tx) (pV:List Tx) (pW:Int) (pX:Int) (pY:List Key) (yP:Int) (nE:(List (Key×Bool))×Int):St:={ n:=68,sl:=[(0,.val (.aa bh) e_),(6,.own (.map bc .bool) (aj (.map bc .bool)) [] nE.1),(45,.val (.aa bh) pV),(46,.val i64 pW),(47,.val i64 pX),(52,.val (.aa bc) pY),(53,.val i64 yP),(54,.val i64 nE.2)],vr:=[],ay:=[] }
def b2 (self:((List (Key×Bool))×Int)->P) (e4:(List (Key×Bool))->P) (a1:A) (e_:List Tx) (pV:List Tx) (pW:Int) (pX:Int) (pY:List Key) (yP:Int) (nE:(List (Key×Bool))×Int):P:=cond (decide (nE.2 < yP)) (if 0<=nE.2 then ((pY[nE.2.toNat]?).bind λUG=>cond (CQ (jY bc nE.1 UG) false) (some (7,()))<|self (nG bc nE.1 UG true,af (nE.2+1))) else none)<|e4 nE.1
def q1 (self:((List Tx)×(List (Key×Bool))×(List Tx)×Int×Int)->P) (e2:(List Tx)->P) (a1:A) (e_:List Tx) (pV:List Tx) (pW:Int) (pX:Int) (pY:List Key) (yP:Int) (UH:(List (Key×Bool))):P:=self (e_,UH,pV,pW,af (pX+1))
def s2 (rec:RT O) (K:KT O) (a1:A):(List Tx)->(List Tx)->Int->Int->(List Key)->Int->((List (Key×Bool))×Int)->P:=λe_ pV pW pX pY yP=>λnE=>D.L k [1,1,1,1,0,1,0,0,1,1,0,0,1,1,0,0] [0,6,45,46,47,52,53,54] [] (ah 4 (ah 3 (aw (D.N k [1,1,1,1,0,1,0,0,1,1,1]) (im rec (fm [0,6,45,46,47] []) K)))) (T2 a1 e_ pV pW pX pY yP nE)
def r2 (self:((List Tx)×(List (Key×Bool))×(List Tx)×Int×Int)->P) (e2:(List Tx)->P) (a1:A):(List Tx)->(List Tx)->Int->Int->(List Key)->Int->((List (Key×Bool))×Int)->P:=λe_ pV pW pX pY yP=>am (λw v=>b2 w (q1 self e2 a1 e_ pV pW pX pY yP) a1 e_ pV pW pX pY yP v) k
theorem tz (rec:RT O) (K:KT O) (a1:A):s2 k rec K a1=r2 k (S1 rec a1) (jJ K a1) a1:=
 funext λe_=>funext λpV=>funext λpW=>funext λpX=>funext λpY=>funext λyP=>funext λnE=>ap _ _ _ (T2 a1 e_ pV pW pX pY yP) _ (λrec v=>Bye) k nE
def b1 (self:((List Tx)×(List (Key×Bool))×(List Tx)×Int×Int)->P) (e2:(List Tx)->P) (l2:(List Tx)->(List Tx)->Int->Int->(List Key)->Int->((List (Key×Bool))×Int)->P) (a1:A) (iT:(List Tx)×(List (Key×Bool))×(List Tx)×Int×Int):P:=cond (decide (iT.2.2.2.2 < iT.2.2.2.1)) (if 0<=iT.2.2.2.2 then ((iT.2.2.1[iT.2.2.2.2.toNat]?).bind λum=>l2 iT.1 iT.2.2.1 iT.2.2.2.1 iT.2.2.2.2 um.2.2.2.1 (um.2.2.2.1.length:Int) (iT.2.1,0)) else none)<|e2 iT.1
def B1 (self:((List Tx)×(List (Key×Bool))×(List Tx)×Int×Int)->P) (e2:(List Tx)->P) (a1:A) (iT:(List Tx)×(List (Key×Bool))×(List Tx)×Int×Int):P:=b1 self e2 (r2 k self e2 a1) a1 iT
theorem u7 (rec:RT O) (K:KT O) (a1:A) (iT:(List Tx)×(List (Key×Bool))×(List Tx)×Int×Int):D.N k [1,1,1,1,0,1,0,0] (T1 a1 iT) (im rec (fm [0,6,45,46,47] []) K)=B1 k (S1 rec a1) (jJ K a1) a1 iT:=
 aL (b:=b1 (S1 rec a1) (jJ K a1) (s2 k rec K a1) a1 iT) Bye (by rw[tz];rfl)
def q2 (a1:A) (xC:(List Tx)):P:=(jp.ab (xC,())).bind λadk=>cond (decide (12 < adk.1)) (some (2,()))<|some (0,())
theorem wN (a1:A) (xC:(List Tx)):jJ (ah 2 (aw (D.N k [1,1,1,1,1]) D.K0)) a1 xC=q2 a1 xC:=Bye
def s1 (a1:A):((List Tx)×(List (Key×Bool))×(List Tx)×Int×Int)->P:=λiT=>D.L k [1,1,1,1,0,1,0,0] [0,6,45,46,47] [] (ah 2 (aw (D.N k [1,1,1,1,1]) D.K0)) (T1 a1 iT)
def r1 (a1:A):((List Tx)×(List (Key×Bool))×(List Tx)×Int×Int)->P:=am (λw v=>B1 k w (q2 a1) a1 v) k
theorem kL (a1:A):s1 k a1=r1 k a1:=by
 funext iT;have h2:jJ (ah 2 (aw (D.N k [1,1,1,1,1]) D.K0)) a1=q2 a1:=funext λz=>wN k a1 z;refine (ap _ _ _ (T1 a1) (λself v=>B1 k self (jJ (ah 2 (aw (D.N k [1,1,1,1,1]) D.K0)) a1) a1 v) (λrec v=>u7 k rec (ah 2 (aw (D.N k [1,1,1,1,1]) D.K0)) a1 v) k iT).trans ?_;rw[h2];rfl
def q0 (l1:((List Tx)×(List (Key×Bool))×(List Tx)×Int×Int)->P) (a1:A) (wt:(Unit)):P:=l1 (a1.1,([]:List (Key×Bool)),a1.1,(a1.1.length:Int),0)
def Q0 (a1:A) (wt:(Unit)):P:=q0 (r1 k a1) a1 wt
theorem tA (a1:A) (wt:(Unit)):cw (ah 0 (aw (D.N k [1,1,1]) D.K0)) a1 wt=Q0 k a1 wt:=
 aL (b:=q0 (s1 k a1) a1 wt) Bye (by rw[kL];rfl)
def s0 (a1:A):(Int)->P:=λU=>D.L k [1,1,0,1,0,0] [0,14,15,16] [] (ah 0 (aw (D.N k [1,1,1]) D.K0)) (T0 a1 U)
def r0 (a1:A):(Int)->P:=am (λw v=>b0 w (Q0 k a1) a1 v) k
theorem aq (a1:A):s0 k a1=r0 k a1:=by
 funext U;have h0:cw (ah 0 (aw (D.N k [1,1,1]) D.K0)) a1=Q0 k a1:=funext λz=>tA k a1 z;refine (ap _ _ _ (T0 a1) (λself v=>b0 self (cw (ah 0 (aw (D.N k [1,1,1]) D.K0)) a1) a1 v) (λrec v=>kK k rec (ah 0 (aw (D.N k [1,1,1]) D.K0)) a1 v) k U).trans ?_;rw[h0];rfl
def p (l0:(Int)->P) (a1:A):P:=cond (decide (4 < (a1.1.length:Int))) (some (2,()))<|l0 0
theorem ae (a1:A):@Eq P (D.W k a1) (p (r0 k a1) a1):=
 aL (b:=p (s0 k a1) a1) Bye (by rw[aq])
theorem ok:Ok prog 104 D.sig:=al func104 av Bye (fc oG.ok (fc ep.ok (fc jp.ok (ai _))))
end cu
end
end OT
