/- The proof's parts, merged: Printed by gen.py, a program of this claim  what each Go function computes.. No conditions but those that each states. -/
import Derived.Test.YtghckfpmmofmnaaGreatRe
set_option maxRecDepth 100000
set_option linter.unusedVariables false
namespace OT
open Go Go.Proofs.Tryz
noncomputable section
variable (k:Nat)
namespace ot
abbrev A:=ba×Int×Int×Byt×Unit
abbrev O:=Bool×ba×Unit
noncomputable def D:FD:={ fn:=f324,tl:=bc,ps:=[(.ke (aj dh) (aj dh),dh),(.ro,i64),(.ro,i64),(.ro,(.aa u8))],rs:=[(.bool,(an .bool))],gl:=[(344,jl.D.sig),(346,sd.D.sig),(347,h_.D.sig)],es:=[0] }
def ae (a:A):Option O:=@lift O λk=>D.W k a
def p (a1:A):Option O:=if 0<=a1.2.1/\a1.2.1 < (a1.1.1.length:Int) then ((a1.1.1[a1.2.1.toNat]?).bind λx2=>(a1.1.1[a1.2.1.toNat]?).bind λx3=>(sd.ae (x3,a1.2.2.1,a1.2.2.2.1,())).bind λr4=>cond (decide (r4.2.1=8)) (if 0<=a1.2.1/\a1.2.1 < (a1.1.1.length:Int) then ((a1.1.1[a1.2.1.toNat]?).bind λx5=>(a1.1.1[a1.2.1.toNat]?).bind λx6=>(h_.ae (x6,())).bind λr7=>(jl.ae (a1.1,a1.2.1,r7.1,())).bind λr8=>if 0<=a1.2.1/\a1.2.1 < (r8.1.1.length:Int) then ((r8.1.1[a1.2.1.toNat]?).bind λx9=>(r8.1.1[a1.2.1.toNat]?).bind λXu=>(sd.ae (Xu,a1.2.2.1,a1.2.2.2.1,())).bind λtc=>cond (!decide (tc.2.1=0)) (some (false,r8.1,()))<|(jl.ae (r8.1,a1.2.1,tc.1,())).bind λGA=>some (true,GA.1,())) else none) else none)<|cond (!decide (r4.2.1=0)) (some (false,a1.1,()))<|(jl.ae (a1.1,a1.2.1,r4.1,())).bind λze=>some (true,ze.1,())) else none
theorem af (a1:A):@Eq (Option O) (D.W k a1) (p a1):=Bye
theorem ok:Ok prog 324 D.sig:=ap func324 az Bye (fc jl.ok (fc sd.ok (fc h_.ok (ak _))))
end ot
namespace pH
abbrev A:=Int×Int×Unit
abbrev O:=Byt×Unit
noncomputable def D:FD:={ fn:=f325,tl:=bc,ps:=[(.ro,i64),(.ro,i64)],rs:=[((.aa u8),(aj (.aa u8)))] }
def ae (a:A):Option O:=@lift O λk=>D.W k a
def p (a1:A):Option O:=some ([(1:UInt8),UInt8.ofInt a1.1,UInt8.ofInt a1.2.1],())
theorem af (a1:A):@Eq (Option O) (D.W k a1) (p a1):=Bye
theorem ok:Ok prog 325 D.sig:=ap func325 az Bye (ak _)
end pH
namespace sr
abbrev A:=ba×a7×Row×Unit
abbrev O:=Bool×ba×Unit
noncomputable def D:FD:={ fn:=f323,tl:=bc,ps:=[(.ke (aj dh) (aj dh),dh),(.ro,(.ptr ip)),(.ro,(.ptr bd))],rs:=[(.bool,(an .bool))],gl:=[(319,ja.D.sig),(320,jK.D.sig),(322,n_.D.sig),(324,ot.D.sig),(325,pH.D.sig)],es:=[0],od:=[(9,[0,1,2,3,4,5,6,7,8,9,10,11,12])] }
def ae (a:A):Option O:=@lift O λk=>D.W k a
def p (a1:A):Option O:=(jK.ae (2,a1.2.2.1,())).bind λr2=>(ot.ae (a1.1,a1.2.1.2.2.1.2.2.1,a1.2.1.2.2.1.2.2.2.1,r2.1,())).bind λr3=>cond r3.1 (some (true,r3.2.1,()))<|(ja.ae (r3.2.1,a1.2.1.2.2.1.2.2.1,r2.1,())).bind λr4=>cond (!r4.2.2.1) (some (false,r4.2.2.2.1,()))<|(pH.ae (r4.1,r4.2.1,())).bind λr5=>(ot.ae (r4.2.2.2.1,a1.2.1.1,a1.2.1.2.1,r5.1,())).bind λr6=>(n_.ae (r6.2.1,a1.2.1.2.2.1.2.2.1,a1.2.1.2.2.1.2.2.2.1,())).bind λr7=>some (true,r7.1,())
theorem af (a1:A):@Eq (Option O) (D.W k a1) (p a1):=Bye
theorem ok:Ok prog 323 D.sig:=ap func323 az Bye (fc ja.ok (fc jK.ok (fc n_.ok (fc ot.ok (fc pH.ok (ak _))))))
end sr
namespace qm
abbrev A:=(List Byt)×a7×Row×Unit
abbrev O:=d7×Unit
noncomputable def D:FD:={ fn:=f300,tl:=bc,ps:=[(.ro,(.aa (.aa u8))),(.ro,(.ptr ip)),(.ro,(.ptr bd))],rs:=[(dv,(aj dv))],gl:=[(240,f8.D.sig),(318,ln.D.sig),(319,ja.D.sig),(320,jK.D.sig),(321,kP.D.sig),(323,sr.D.sig),(324,ot.D.sig),(325,pH.D.sig)],od:=[(2,[0,1,2,3,4,5,6,7,8]),(8,[0,1,2,3,4,5,6,7,8,9,10,11]),(10,[0,1,2,3,4,5,6,7,8,9,10,11,12,13,14]),(13,[0,1,2,3,4,5,6,7,8,9,10,11,12])] }
def ae (a:A):Option O:=@lift O λk=>D.W k a
def p (a1:A):Option O:=(ln.ae (a1.1,())).bind λr2=>cond (Ty.eq bd a1.2.1.2.2.1.2.2.2.2.1 a1.2.2.1) ((kP.ae (r2.1,())).bind λr3=>some (r3.1,()))<|cond (decide (a1.2.1.2.2.1.2.1=1)) ((sr.ae (r2.1,a1.2.1,a1.2.2.1,())).bind λr4=>cond (!r4.1) ((f8.ae (9,())).bind λr5=>some (r5.1,()))<|(kP.ae (r4.2.1,())).bind λr6=>some (r6.1,()))<|(jK.ae (0,a1.2.2.1,())).bind λr7=>(ot.ae (r2.1,a1.2.1.1,a1.2.1.2.1,r7.1,())).bind λr8=>cond r8.1 ((kP.ae (r8.2.1,())).bind λr9=>some (r9.1,()))<|(jK.ae (2,a1.2.2.1,())).bind λwE=>(ja.ae (r8.2.1,a1.2.1.1,wE.1,())).bind λtc=>cond (!tc.2.2.1) ((f8.ae (9,())).bind λtd=>some (td.1,()))<|(pH.ae (tc.1,tc.2.1,())).bind λGA=>(ot.ae (tc.2.2.2.1,a1.2.1.1,a1.2.1.2.1,GA.1,())).bind λze=>(kP.ae (ze.2.1,())).bind λEt=>some (Et.1,())
theorem af (a1:A):@Eq (Option O) (D.W k a1) (p a1):=Bye
theorem ok:Ok prog 300 D.sig:=ap func300 az Bye (fc f8.ok (fc ln.ok (fc ja.ok (fc jK.ok (fc kP.ok (fc sr.ok (fc ot.ok (fc pH.ok (ak _)))))))))
end qm
namespace se
abbrev A:=(List Byt)×Change×Unit
abbrev O:=d7×Unit
noncomputable def D:FD:={ fn:=f247,tl:=bc,ps:=[(.ro,(.aa (.aa u8))),(.ro,(.ptr aq))],rs:=[(dv,(aj dv))],gl:=[(204,lj.D.sig),(240,f8.D.sig),(297,nm.D.sig),(298,qk.D.sig),(299,ql.D.sig),(300,qm.D.sig)],od:=[(3,[0,1,2,3,4,5,6,7,8,9,10,11,12,13,14,15,16,17,18])] }
def ae (a:A):Option O:=@lift O λk=>D.W k a
def p (a1:A):Option O:=(lj.ae (a1.2.1,())).bind λr2=>(nm.ae (a1.1,r2.1,r2.2.1,())).bind λr3=>let j9:Option O:=cond (!a1.2.1.1) ((qk.ae (a1.1,a1.2.1.2.2.2.1,())).bind λwE=>some (wE.1,()))<|cond (!a1.2.1.2.2.1) ((ql.ae (a1.1,r3.1,())).bind λtc=>some (tc.1,()))<|(qm.ae (a1.1,r3.1,a1.2.1.2.2.2.1,())).bind λtd=>some (td.1,());cond (!(r3.2.1 == a1.2.1.1)) ((f8.ae (8,())).bind λr4=>some (r4.1,()))<|cond r3.2.1 (cond (!(Ty.eq bd r3.1.2.2.1.2.2.2.2.1 a1.2.1.2.1)) ((f8.ae (8,())).bind λr5=>some (r5.1,()))<|j9)<|j9
theorem af (a1:A):@Eq (Option O) (D.W k a1) (p a1):=Bye
theorem ok:Ok prog 247 D.sig:=ap func247 az Bye (fc lj.ok (fc f8.ok (fc nm.ok (fc qk.ok (fc ql.ok (fc qm.ok (ak _)))))))
end se
namespace pJ
abbrev A:=Byt×Byt×Unit
abbrev O:=(List cq)×Unit
abbrev P:=Option O
noncomputable def D:FD:={ fn:=f301,tl:=bc,ps:=[(.ro,(.aa u8)),(.ro,(.aa u8))],rs:=[((.aa oB),(aj (.aa oB)))],lv:=[(4,[0,1,5,6,7])],lx:=[(0,[5]),(1,[0,1,5,6,7])],od:=[(6,[0,1,2,3,4,5,6,7,8]),(12,[0,1,2,3,4,5,6,7,8,9,10,11,12,13])] }
def ae (a:A):P:=@lift O λk=>D.W k a
variable (a1:A)
def T0 (U:(List cq)×Bool×Int):St:={ n:=51,sl:=[(0,.val (.aa u8) a1.1),(1,.val (.aa u8) a1.2.1),(5,.own (.aa oB) (aj (.aa oB)) [] U.1),(6,.val .bool U.2.1),(7,.val i64 U.2.2)],vr:=[],aT:=[] }
def b0 (self:((List cq)×Bool×Int)->P) (e0:(List cq)->P) (a1:A) (U:(List cq)×Bool×Int):P:=cond (decide (U.2.2 < (a1.1.length:Int))) (if 0<=U.2.2 then ((a1.1[U.2.2.toNat]?).bind λa8=>if 0<=U.2.2 then ((a1.2.1[U.2.2.toNat]?).bind λgf=>cond (decide ((a8.toNat:Int)=(gf.toNat:Int))) (self (U.1,false,ag (U.2.2+1)))<|let Fs:=λ(sf:List cq)=>(if 0<=ag ((sf.length:Int) - 1)/\ag ((sf.length:Int) - 1) < (sf.length:Int) then ((sf[(ag ((sf.length:Int) - (1:Int))).toNat]?).bind λCS=>if 0<=U.2.2 then ((a1.2.1[U.2.2.toNat]?).bind λFt=>(sf[(ag ((sf.length:Int) - (1:Int))).toNat]?).bind λBl=>(sf[(ag ((sf.length:Int) - (1:Int))).toNat]?).bind λHd=>if Bl.2.1.length+[Ft].length<=b9 then (if (ag ((sf.length:Int) - 1)).toNat=(ag ((sf.length:Int) - 1)).toNat then ((sf.set (ag ((sf.length:Int) - 1)).toNat Hd)[(ag ((sf.length:Int) - (1:Int))).toNat]?).bind λub=>let PP:=(sf.set (ag ((sf.length:Int) - 1)).toNat Hd).set (ag ((sf.length:Int) - 1)).toNat (ub.1,Bl.2.1++[Ft],ub.2.2);self (PP,true,ag (U.2.2+1)) else none) else none) else none) else none:P);cond (!U.2.1) (if U.1.length+[(U.2.2,([]:Byt),())].length<=b9 then (let JK:=U.1++[(U.2.2,([]:Byt),())];Fs JK) else none)<|Fs U.1) else none) else none)<|e0 U.1
def q0 (a1:A) (afa:(List cq)):P:=some (afa,())
def r0:((List cq)×Bool×Int)->P:=am (λw v=>b0 w (q0 a1) a1 v) k
theorem aw:@Eq (((List cq)×Bool×Int)->P) (λU=>D.L k [1,1,1,0,1,0,0] [0,1,5,6,7] [] (ai 0 (ay (D.N k [1,1,1,1]) D.K0)) (T0 a1 U)) (r0 k a1):=
 funext λU=>av _ _ _ (T0 a1) _ (λrec v=>Bye) k U
def p (l0:((List cq)×Bool×Int)->P) (a1:A):P:=l0 (([]:List cq),false,0)
theorem af:@Eq P (D.W k a1) (p (r0 k a1) a1):=By8 (aw k a1) Bye
theorem ok:Ok prog 301 D.sig:=ap func301 az Bye (ak _)
end pJ
namespace ud
abbrev A:=(List Byt)×cq×Int×Int×Unit
abbrev O:=bg×Unit
noncomputable def D:FD:={ fn:=f248,tl:=bc,ps:=[(.ro,(.aa (.aa u8))),(.ro,(.ptr oB)),(.ro,i64),(.ro,i64)],rs:=[(du,(aj du))],gl:=[(241,jT.D.sig),(301,pJ.D.sig)],od:=[(4,[0,1,2,3,4,5,6,7,8,9,10,11,12,13])] }
def ae (a:A):Option O:=@lift O λk=>D.W k a
def p (a1:A):Option O:=(jT.ae ((0:UInt8),())).bind λr2=>cond (decide (a1.2.1.1 < (a1.1.length:Int))) (if 0<=a1.2.1.1 then ((a1.1[a1.2.1.1.toNat]?).bind λx3=>(pJ.ae (x3,a1.2.1.2.1,())).bind λr5=>some ((a1.2.2.1,a1.2.2.2.1,a1.2.1.1,r5.1,()),())) else none)<|(pJ.ae (r2.1,a1.2.1.2.1,())).bind λr6=>some ((a1.2.2.1,a1.2.2.2.1,a1.2.1.1,r6.1,()),())
theorem af (a1:A):@Eq (Option O) (D.W k a1) (p a1):=Bye
theorem ok:Ok prog 248 D.sig:=ap func248 az Bye (fc jT.ok (fc pJ.ok (ak _)))
end ud
namespace lp
abbrev A:=(List Byt)×(List cq)×Unit
abbrev O:=d7×Unit
abbrev P:=Option O
noncomputable def D:FD:={ fn:=f249,tl:=bc,ps:=[(.ro,(.aa (.aa u8))),(.ro,(.aa oB))],rs:=[(dv,(aj dv))],gl:=[(65,cj.D.sig),(126,iW.D.sig),(139,bY.D.sig),(240,f8.D.sig)],lv:=[(5,[1,4,5,6])],lx:=[(0,[4,5])],od:=[(8,[0,1,2,3,4,5,6,7,8,9,10,11,12,13,14,15,16]),(12,[0,1,2,3,4,5,6,7]),(13,[0,1,2,3,4,5,6,7,8,9,10]),(14,[0,1,2,3,4,5,6,7,8,9,10,11,12]),(15,[0,1,2,3,4,5,6,7,8,9,10,11,12,13,14,15])] }
def ae (a:A):P:=@lift O λk=>D.W k a
variable (a1:A)
def T0 (c7:d7×Int):St:={ n:=94,sl:=[(1,.val (.aa oB) a1.2.1),(4,.box dv (aj dv) [] ((0:Int),([]:List cq),([]:List Byt),())),(5,.box dv (aj dv) [] c7.1),(6,.val i64 c7.2)],vr:=[],aT:=[] }
def b0 (self:(d7×Int)->P) (e0:d7->P) (a1:A) (c7:d7×Int):P:=cond (decide (c7.2 < (a1.2.1.length:Int))) (if 0<=c7.2 then ((a1.2.1[c7.2.toNat]?).bind λd6=>cond (!decide ((d6.2.1.length:Int)=64)) ((f8.ae (1,())).bind λjq=>some (jq.1,()))<|(cj.ae (d6.1,0,(c7.1.2.2.1.length:Int),())).bind λiQ=>cond (!iQ.1) ((f8.ae (1,())).bind λqx=>some (qx.1,()))<|cond (decide (d6.1=12)) ((f8.ae (2,())).bind λwD=>some (wD.1,()))<|cond (decide (d6.1=(c7.1.2.2.1.length:Int))) ((bY.ae (d6.2.1,())).bind λzg=>if c7.1.2.2.1.length+[zg.1].length<=b9 then ((bY.ae (d6.2.1,())).bind λzZ=>if c7.1.2.1.length+[(d6.1,zZ.1,())].length<=b9 then (self ((c7.1.1,c7.1.2.1++[(d6.1,zZ.1,())],c7.1.2.2.1++[zg.1],c7.1.2.2.2),ag (c7.2+1))) else none) else none)<|(bY.ae (d6.2.1,())).bind λPK=>if 0<=d6.1/\d6.1 < (c7.1.2.2.1.length:Int) then ((c7.1.2.2.1[d6.1.toNat]?).bind λzY=>(bY.ae (d6.2.1,())).bind λHe=>if c7.1.2.1.length+[(d6.1,He.1,())].length<=b9 then (self ((c7.1.1,c7.1.2.1++[(d6.1,He.1,())],c7.1.2.2.1.set d6.1.toNat PK.1,c7.1.2.2.2),ag (c7.2+1))) else none) else none) else none)<|e0 c7.1
def q0 (a1:A) (Zu:d7):P:=some (Zu,())
def r0:(d7×Int)->P:=am (λw v=>b0 w (q0 a1) a1 v) k
theorem aw:@Eq ((d7×Int)->P) (λc7=>D.L k [1,1,1,0,1,0,0] [1,4,5,6] [] (ai 0 (ay (D.N k [1,1,1,1]) D.K0)) (T0 a1 c7)) (r0 k a1):=
 funext λc7=>av _ _ _ (T0 a1) _ (λrec v=>Bye) k c7
def p (l0:(d7×Int)->P) (a1:A):P:=cond (decide (12 < (a1.1.length:Int))) ((f8.ae (2,())).bind λr2=>some (r2.1,()))<|(iW.ae (a1.1,())).bind λr3=>l0 ((0,([]:List cq),r3.1,()),0)
theorem af:@Eq P (D.W k a1) (p (r0 k a1) a1):=By8 (aw k a1) Bye
theorem ok:Ok prog 249 D.sig:=ap func249 az Bye (fc cj.ok (fc iW.ok (fc bY.ok (fc f8.ok (ak _)))))
end lp
namespace nS
abbrev A:=bi×Change×Int×Int×Unit
abbrev O:=Int×bi×Unit
abbrev P:=Option O
noncomputable def D:FD:={ fn:=f165,tl:=bc,ps:=[(.ke (an cw) (an cw),cw),(.ro,(.ptr aq)),(.ro,i64),(.ro,i64)],rs:=[(i64,(an i64))],gl:=[(129,nl.D.sig),(247,se.D.sig),(248,ud.D.sig),(249,lp.D.sig)],es:=[0],fz:=[(7,3,7)],lv:=[(5,[0,2,3,9,10])],lx:=[(0,[0])],lf:=[(5,[(0,Byc)])],od:=[(7,[0,1,2,3,4,5,6,7,8,9,10,11,12]),(11,[0,1,2,3,4,5,6,7,8,9,10,11,12,13,14,15])],ar:=[(7,[])],pd:=[(7,[11])],er:=[(7,[(3,13),(5,13)])] }
def ae (a:A):P:=@lift O λk=>D.W k a
variable (a1:A)
def T0 (ef:d7) (be:bi×Int):St:={ n:=62,sl:=[(0,.box cw (an cw) [] be.1),(2,.val i64 a1.2.2.1),(3,.val i64 a1.2.2.2.1),(9,.box dv (aj dv) [] ef),(10,.val i64 be.2)],vr:=[],aT:=[(0,0,false)] }
def b0 (self:(bi×Int)->P) (e0:bi->P) (a1:A) (ef:d7) (be:bi×Int):P:=cond (decide (be.2 < (ef.2.1.length:Int))) (if 0<=be.2/\be.2 < (ef.2.1.length:Int) then ((ef.2.1[be.2.toNat]?).bind λd6=>(ud.ae (be.1.2.1,d6,a1.2.2.1,a1.2.2.2.1,())).bind λiQ=>(nl.ae (be.1,iQ.1,())).bind λjq=>cond (!decide (jq.1=0)) (some (jq.1,jq.2.1,()))<|if 0<=be.2/\be.2<=ag (be.2+1)/\ag (be.2+1)<=(ef.2.1.length:Int) then ((lp.ae (jq.2.1.2.1,(ef.2.1.take (ag (be.2+1)).toNat).drop be.2.toNat,())).bind λqx=>self ((jq.2.1.1,qx.1.2.2.1,jq.2.1.2.2),ag (be.2+1))) else none) else none)<|e0 be.1
def q0 (a1:A) (ef:d7) (wF:bi):P:=some (0,wF,())
def r0:d7->(bi×Int)->P:=λef=>am (λw v=>b0 w (q0 a1 ef) a1 ef v) k
theorem aw:@Eq (d7->(bi×Int)->P) (λef=>λbe=>D.L k [1,1,1,0,1,0,0] [0,2,3,9,10] [(0,Byc)] (ai 0 (ay (D.N k [1,1,1,1]) D.K0)) (T0 a1 ef be)) (r0 k a1):=
 funext λef=>funext λbe=>av _ _ _ (T0 a1 ef) _ (λrec v=>Bye) k be
def p (l0:d7->(bi×Int)->P) (a1:A):P:=(se.ae (a1.1.2.1,a1.2.1,())).bind λr2=>cond (!decide (r2.1.1=0)) (some (r2.1.1,a1.1,()))<|l0 r2.1 (a1.1,0)
theorem af:@Eq P (D.W k a1) (p (r0 k a1) a1):=By8 (aw k a1) Bye
theorem ok:Ok prog 165 D.sig:=ap func165 az Bye (fc nl.ok (fc se.ok (fc ud.ok (fc lp.ok (ak _)))))
end nS
namespace nT
abbrev A:=bi×(List Change)×Int×Unit
abbrev O:=Int×bi×Unit
abbrev P:=Option O
noncomputable def D:FD:={ fn:=f128,tl:=bc,ps:=[(.ke (an cw) (an cw),cw),(.ro,(.aa aq)),(.ro,i64)],rs:=[(i64,(an i64))],gl:=[(165,nS.D.sig),(206,jo.D.sig)],es:=[0],fz:=[(1,2,0)],lv:=[(3,[0,2,7,8])],lx:=[(0,[0])] }
def ae (a:A):P:=@lift O λk=>D.W k a
variable (a1:A)
def T0 (ef:List Change) (be:bi×Int):St:={ n:=27,sl:=[(0,.box cw (an cw) [] be.1),(2,.val i64 a1.2.2.1),(7,.val (.aa aq) ef),(8,.val i64 be.2)],vr:=[],aT:=[(0,0,false)] }
def b0 (self:(bi×Int)->P) (e0:bi->P) (a1:A) (ef:List Change) (be:bi×Int):P:=cond (decide (be.2 < (ef.length:Int))) (if 0<=be.2 then ((ef[be.2.toNat]?).bind λd6=>(nS.ae (be.1,d6,3,a1.2.2.1,())).bind λiQ=>cond (!decide (iQ.1=0)) (some (iQ.1,iQ.2.1,()))<|self (iQ.2.1,ag (be.2+1))) else none)<|e0 be.1
def q0 (a1:A) (ef:List Change) (lI:bi):P:=some (0,lI,())
def r0:(List Change)->(bi×Int)->P:=λef=>am (λw v=>b0 w (q0 a1 ef) a1 ef v) k
theorem aw:@Eq ((List Change)->(bi×Int)->P) (λef=>λbe=>D.L k [1,1,0,1,0,0] [0,2,7,8] [] (ai 0 (ay (D.N k [1,1,1]) D.K0)) (T0 a1 ef be)) (r0 k a1):=
 funext λef=>funext λbe=>av _ _ _ (T0 a1 ef) _ (λrec v=>Bye) k be
def p (l0:(List Change)->(bi×Int)->P) (a1:A):P:=(jo.ae (a1.2.1,())).bind λr2=>l0 r2.1 (a1.1,0)
theorem af:@Eq P (D.W k a1) (p (r0 k a1) a1):=By8 (aw k a1) Bye
theorem ok:Ok prog 128 D.sig:=ap func128 az Bye (fc nS.ok (fc jo.ok (ak _)))
end nT
namespace nU
abbrev A:=Byt×Unit
abbrev O:=Byt×Unit
abbrev P:=Option O
noncomputable def D:FD:={ fn:=f95,tl:=bc,ps:=[(.ro,(.aa u8))],rs:=[((.aa u8),(aj (.aa u8)))],lv:=[(3,[0,3,4])],lx:=[(0,[3])] }
def ae (a:A):P:=@lift O λk=>D.W k a
variable (a1:A)
def T0 (U:Byt×Int):St:={ n:=22,sl:=[(0,.val (.aa u8) a1.1),(3,.own (.aa u8) (aj (.aa u8)) [] U.1),(4,.val i64 U.2)],vr:=[],aT:=[] }
def b0 (self:(Byt×Int)->P) (e0:Byt->P) (a1:A) (U:Byt×Int):P:=cond (decide (U.2 < (a1.1.length:Int))) (if 0<=U.2 then ((a1.1[U.2.toNat]?).bind λa8=>if 0<=U.2/\U.2 < (U.1.length:Int) then ((U.1[U.2.toNat]?).bind λgf=>self (U.1.set U.2.toNat a8,ag (U.2+1))) else none) else none)<|e0 U.1
def q0 (a1:A) (ez:Byt):P:=some (ez,())
def r0:(Byt×Int)->P:=am (λw v=>b0 w (q0 a1) a1 v) k
theorem aw:@Eq ((Byt×Int)->P) (λU=>D.L k [1,1,0,1,0,0] [0,3,4] [] (ai 0 (ay (D.N k [1,1,1]) D.K0)) (T0 a1 U)) (r0 k a1):=
 funext λU=>av _ _ _ (T0 a1) _ (λrec v=>Bye) k U
def p (l0:(Byt×Int)->P) (a1:A):P:=if 0<=(a1.1.length:Int)/\(a1.1.length:Int)<=(a1.1.length:Int)/\(a1.1.length:Int)<=(b9:Int) then (l0 (List.replicate (a1.1.length:Int).toNat (0:UInt8),0)) else none
theorem af:@Eq P (D.W k a1) (p (r0 k a1) a1):=By8 (aw k a1) Bye
theorem ok:Ok prog 95 D.sig:=ap func95 az Bye (ak _)
end nU
namespace tq
abbrev A:=(List Byt)×Unit
abbrev O:=(List Byt)×Unit
abbrev P:=Option O
noncomputable def D:FD:={ fn:=f42,tl:=bc,ps:=[(.ro,(.aa (.aa u8)))],rs:=[((.aa (.aa u8)),(aj (.aa (.aa u8))))],gl:=[(95,nU.D.sig)],lv:=[(3,[0,3,4])],lx:=[(0,[3])] }
def ae (a:A):P:=@lift O λk=>D.W k a
variable (a1:A)
def T0 (U:(List Byt)×Int):St:={ n:=23,sl:=[(0,.val (.aa (.aa u8)) a1.1),(3,.own (.aa (.aa u8)) (aj (.aa (.aa u8))) [] U.1),(4,.val i64 U.2)],vr:=[],aT:=[] }
def b0 (self:((List Byt)×Int)->P) (e0:(List Byt)->P) (a1:A) (U:(List Byt)×Int):P:=cond (decide (U.2 < (a1.1.length:Int))) (if 0<=U.2 then ((a1.1[U.2.toNat]?).bind λa8=>(nU.ae (a8,())).bind λcx=>if 0<=U.2/\U.2 < (U.1.length:Int) then ((U.1[U.2.toNat]?).bind λd6=>self (U.1.set U.2.toNat cx.1,ag (U.2+1))) else none) else none)<|e0 U.1
def q0 (a1:A) (pc:(List Byt)):P:=some (pc,())
def r0:((List Byt)×Int)->P:=am (λw v=>b0 w (q0 a1) a1 v) k
theorem aw:@Eq (((List Byt)×Int)->P) (λU=>D.L k [1,1,0,1,0,0] [0,3,4] [] (ai 0 (ay (D.N k [1,1,1]) D.K0)) (T0 a1 U)) (r0 k a1):=
 funext λU=>av _ _ _ (T0 a1) _ (λrec v=>Bye) k U
def p (l0:((List Byt)×Int)->P) (a1:A):P:=if 0<=(a1.1.length:Int)/\(a1.1.length:Int)<=(a1.1.length:Int)/\(a1.1.length:Int)<=(b9:Int) then (l0 (List.replicate (a1.1.length:Int).toNat ([]:Byt),0)) else none
theorem af:@Eq P (D.W k a1) (p (r0 k a1) a1):=By8 (aw k a1) Bye
theorem ok:Ok prog 42 D.sig:=ap func42 az Bye (fc nU.ok (ak _))
end tq
namespace vh
abbrev A:=Log×Unit
abbrev O:=Log×Unit
noncomputable def D:FD:={ fn:=f43,tl:=bc,ps:=[(.ro,gd)],rs:=[(gd,(aj gd))],gl:=[(95,nU.D.sig)] }
def ae (a:A):Option O:=@lift O λk=>D.W k a
def p (a1:A):Option O:=(nU.ae (a1.1.1,())).bind λr2=>(nU.ae (a1.1.2.1,())).bind λr3=>some ((r2.1,r3.1,()),())
theorem af (a1:A):@Eq (Option O) (D.W k a1) (p a1):=Bye
theorem ok:Ok prog 43 D.sig:=ap func43 az Bye (fc nU.ok (ak _))
end vh
namespace tK
abbrev A:=Row×Unit
abbrev O:=Row×Unit
noncomputable def D:FD:={ fn:=f45,tl:=bc,ps:=[(.ro,bd)],rs:=[(bd,(an bd))] }
def ae (a:A):Option O:=@lift O λk=>D.W k a
def p (a1:A):Option O:=some ((a1.1.1,a1.1.2.1,a1.1.2.2.1,a1.1.2.2.2.1,()),())
theorem af (a1:A):@Eq (Option O) (D.W k a1) (p a1):=Bye
theorem ok:Ok prog 45 D.sig:=ap func45 az Bye (ak _)
end tK
namespace qn
abbrev A:=Change×Unit
abbrev O:=Change×Unit
noncomputable def D:FD:={ fn:=f130,tl:=bc,ps:=[(.ro,aq)],rs:=[(aq,(an aq))],gl:=[(45,tK.D.sig)] }
def ae (a:A):Option O:=@lift O λk=>D.W k a
def p (a1:A):Option O:=(tK.ae (a1.1.2.1,())).bind λr2=>(tK.ae (a1.1.2.2.2.1,())).bind λr3=>some ((a1.1.1,r2.1,a1.1.2.2.1,r3.1,()),())
theorem af (a1:A):@Eq (Option O) (D.W k a1) (p a1):=Bye
theorem ok:Ok prog 130 D.sig:=ap func130 az Bye (fc tK.ok (ak _))
end qn
namespace sB
abbrev A:=(List Change)×Unit
abbrev O:=(List Change)×Unit
abbrev P:=Option O
noncomputable def D:FD:={ fn:=f69,tl:=bc,ps:=[(.ro,(.aa aq))],rs:=[((.aa aq),(aj (.aa aq)))],gl:=[(130,qn.D.sig)],lv:=[(3,[0,3,4])],lx:=[(0,[3])] }
def ae (a:A):P:=@lift O λk=>D.W k a
variable (a1:A)
def T0 (U:(List Change)×Int):St:={ n:=23,sl:=[(0,.val (.aa aq) a1.1),(3,.own (.aa aq) (aj (.aa aq)) [] U.1),(4,.val i64 U.2)],vr:=[],aT:=[] }
def b0 (self:((List Change)×Int)->P) (e0:(List Change)->P) (a1:A) (U:(List Change)×Int):P:=cond (decide (U.2 < (a1.1.length:Int))) (if 0<=U.2 then ((a1.1[U.2.toNat]?).bind λa8=>(qn.ae (a8,())).bind λcx=>if 0<=U.2/\U.2 < (U.1.length:Int) then ((U.1[U.2.toNat]?).bind λd6=>self (U.1.set U.2.toNat cx.1,ag (U.2+1))) else none) else none)<|e0 U.1
def q0 (a1:A) (pc:(List Change)):P:=some (pc,())
def r0:((List Change)×Int)->P:=am (λw v=>b0 w (q0 a1) a1 v) k
theorem aw:@Eq (((List Change)×Int)->P) (λU=>D.L k [1,1,0,1,0,0] [0,3,4] [] (ai 0 (ay (D.N k [1,1,1]) D.K0)) (T0 a1 U)) (r0 k a1):=
 funext λU=>av _ _ _ (T0 a1) _ (λrec v=>Bye) k U
def p (l0:((List Change)×Int)->P) (a1:A):P:=if 0<=(a1.1.length:Int)/\(a1.1.length:Int)<=(a1.1.length:Int)/\(a1.1.length:Int)<=(b9:Int) then (l0 (List.replicate (a1.1.length:Int).toNat (false,(0,0,0,([]:Byt),()),false,(0,0,0,([]:Byt),()),()),0)) else none
theorem af:@Eq P (D.W k a1) (p (r0 k a1) a1):=By8 (aw k a1) Bye
theorem ok:Ok prog 69 D.sig:=ap func69 az Bye (fc qn.ok (ak _))
end sB
namespace tr
abbrev A:=(List Int)×Unit
abbrev O:=(List Int)×Unit
abbrev P:=Option O
noncomputable def D:FD:={ fn:=f167,tl:=bc,ps:=[(.ro,(.aa i64))],rs:=[((.aa i64),(aj (.aa i64)))],lv:=[(3,[0,3,4])],lx:=[(0,[3])] }
def ae (a:A):P:=@lift O λk=>D.W k a
variable (a1:A)
def T0 (U:(List Int)×Int):St:={ n:=22,sl:=[(0,.val (.aa i64) a1.1),(3,.own (.aa i64) (aj (.aa i64)) [] U.1),(4,.val i64 U.2)],vr:=[],aT:=[] }
def b0 (self:((List Int)×Int)->P) (e0:(List Int)->P) (a1:A) (U:(List Int)×Int):P:=cond (decide (U.2 < (a1.1.length:Int))) (if 0<=U.2 then ((a1.1[U.2.toNat]?).bind λa8=>if 0<=U.2/\U.2 < (U.1.length:Int) then ((U.1[U.2.toNat]?).bind λgf=>self (U.1.set U.2.toNat a8,ag (U.2+1))) else none) else none)<|e0 U.1
def q0 (a1:A) (ez:(List Int)):P:=some (ez,())
def r0:((List Int)×Int)->P:=am (λw v=>b0 w (q0 a1) a1 v) k
theorem aw:@Eq (((List Int)×Int)->P) (λU=>D.L k [1,1,0,1,0,0] [0,3,4] [] (ai 0 (ay (D.N k [1,1,1]) D.K0)) (T0 a1 U)) (r0 k a1):=
 funext λU=>av _ _ _ (T0 a1) _ (λrec v=>Bye) k U
def p (l0:((List Int)×Int)->P) (a1:A):P:=if 0<=(a1.1.length:Int)/\(a1.1.length:Int)<=(a1.1.length:Int)/\(a1.1.length:Int)<=(b9:Int) then (l0 (List.replicate (a1.1.length:Int).toNat 0,0)) else none
theorem af:@Eq P (D.W k a1) (p (r0 k a1) a1):=By8 (aw k a1) Bye
theorem ok:Ok prog 167 D.sig:=ap func167 az Bye (ak _)
end tr
namespace tL
abbrev A:=Key×Unit
abbrev O:=Key×Unit
noncomputable def D:FD:={ fn:=f252,tl:=bc,ps:=[(.ro,bp)],rs:=[(bp,(an bp))] }
def ae (a:A):Option O:=@lift O λk=>D.W k a
def p (a1:A):Option O:=some ((a1.1.1,a1.1.2.1,()),())
theorem af (a1:A):@Eq (Option O) (D.W k a1) (p a1):=Bye
theorem ok:Ok prog 252 D.sig:=ap func252 az Bye (ak _)
end tL
namespace vY
abbrev A:=(List Key)×Unit
abbrev O:=(List Key)×Unit
abbrev P:=Option O
noncomputable def D:FD:={ fn:=f168,tl:=bc,ps:=[(.ro,(.aa bp))],rs:=[((.aa bp),(aj (.aa bp)))],gl:=[(252,tL.D.sig)],lv:=[(3,[0,3,4])],lx:=[(0,[3])] }
def ae (a:A):P:=@lift O λk=>D.W k a
variable (a1:A)
def T0 (U:(List Key)×Int):St:={ n:=23,sl:=[(0,.val (.aa bp) a1.1),(3,.own (.aa bp) (aj (.aa bp)) [] U.1),(4,.val i64 U.2)],vr:=[],aT:=[] }
def b0 (self:((List Key)×Int)->P) (e0:(List Key)->P) (a1:A) (U:(List Key)×Int):P:=cond (decide (U.2 < (a1.1.length:Int))) (if 0<=U.2 then ((a1.1[U.2.toNat]?).bind λa8=>(tL.ae (a8,())).bind λcx=>if 0<=U.2/\U.2 < (U.1.length:Int) then ((U.1[U.2.toNat]?).bind λd6=>self (U.1.set U.2.toNat cx.1,ag (U.2+1))) else none) else none)<|e0 U.1
def q0 (a1:A) (pc:(List Key)):P:=some (pc,())
def r0:((List Key)×Int)->P:=am (λw v=>b0 w (q0 a1) a1 v) k
theorem aw:@Eq (((List Key)×Int)->P) (λU=>D.L k [1,1,0,1,0,0] [0,3,4] [] (ai 0 (ay (D.N k [1,1,1]) D.K0)) (T0 a1 U)) (r0 k a1):=
 funext λU=>av _ _ _ (T0 a1) _ (λrec v=>Bye) k U
def p (l0:((List Key)×Int)->P) (a1:A):P:=if 0<=(a1.1.length:Int)/\(a1.1.length:Int)<=(a1.1.length:Int)/\(a1.1.length:Int)<=(b9:Int) then (l0 (List.replicate (a1.1.length:Int).toNat (0,0,()),0)) else none
theorem af:@Eq P (D.W k a1) (p (r0 k a1) a1):=By8 (aw k a1) Bye
theorem ok:Ok prog 168 D.sig:=ap func168 az Bye (fc tL.ok (ak _))
end vY
namespace uS
abbrev A:=Tx×Unit
abbrev O:=Tx×Unit
noncomputable def D:FD:={ fn:=f96,tl:=bc,ps:=[(.ro,df)],rs:=[(df,(aj df))],gl:=[(69,sB.D.sig),(167,tr.D.sig),(168,vY.D.sig)] }
def ae (a:A):Option O:=@lift O λk=>D.W k a
def p (a1:A):Option O:=(sB.ae (a1.1.2.1,())).bind λr2=>(tr.ae (a1.1.2.2.1,())).bind λr3=>(vY.ae (a1.1.2.2.2.1,())).bind λr4=>some ((a1.1.1,r2.1,r3.1,r4.1,()),())
theorem af (a1:A):@Eq (Option O) (D.W k a1) (p a1):=Bye
theorem ok:Ok prog 96 D.sig:=ap func96 az Bye (fc sB.ok (fc tr.ok (fc vY.ok (ak _))))
end uS
namespace w_
abbrev A:=(List Tx)×Unit
abbrev O:=(List Tx)×Unit
abbrev P:=Option O
noncomputable def D:FD:={ fn:=f44,tl:=bc,ps:=[(.ro,(.aa df))],rs:=[((.aa df),(aj (.aa df)))],gl:=[(96,uS.D.sig)],lv:=[(3,[0,3,4])],lx:=[(0,[3])] }
def ae (a:A):P:=@lift O λk=>D.W k a
variable (a1:A)
def T0 (U:(List Tx)×Int):St:={ n:=23,sl:=[(0,.val (.aa df) a1.1),(3,.own (.aa df) (aj (.aa df)) [] U.1),(4,.val i64 U.2)],vr:=[],aT:=[] }
def b0 (self:((List Tx)×Int)->P) (e0:(List Tx)->P) (a1:A) (U:(List Tx)×Int):P:=cond (decide (U.2 < (a1.1.length:Int))) (if 0<=U.2 then ((a1.1[U.2.toNat]?).bind λa8=>(uS.ae (a8,())).bind λcx=>if 0<=U.2/\U.2 < (U.1.length:Int) then ((U.1[U.2.toNat]?).bind λd6=>self (U.1.set U.2.toNat cx.1,ag (U.2+1))) else none) else none)<|e0 U.1
def q0 (a1:A) (pc:(List Tx)):P:=some (pc,())
def r0:((List Tx)×Int)->P:=am (λw v=>b0 w (q0 a1) a1 v) k
theorem aw:@Eq (((List Tx)×Int)->P) (λU=>D.L k [1,1,0,1,0,0] [0,3,4] [] (ai 0 (ay (D.N k [1,1,1]) D.K0)) (T0 a1 U)) (r0 k a1):=
 funext λU=>av _ _ _ (T0 a1) _ (λrec v=>Bye) k U
def p (l0:((List Tx)×Int)->P) (a1:A):P:=if 0<=(a1.1.length:Int)/\(a1.1.length:Int)<=(a1.1.length:Int)/\(a1.1.length:Int)<=(b9:Int) then (l0 (List.replicate (a1.1.length:Int).toNat (0,([]:List Change),([]:List Int),([]:List Key),()),0)) else none
theorem af:@Eq P (D.W k a1) (p (r0 k a1) a1):=By8 (aw k a1) Bye
theorem ok:Ok prog 44 D.sig:=ap func44 az Bye (fc uS.ok (ak _))
end w_
namespace oX
abbrev A:=bi×Unit
abbrev O:=bi×Unit
noncomputable def D:FD:={ fn:=f10,tl:=bc,ps:=[(.ro,cw)],rs:=[(cw,(aj cw))],gl:=[(42,tq.D.sig),(43,vh.D.sig),(44,w_.D.sig)] }
def ae (a:A):Option O:=@lift O λk=>D.W k a
def p (a1:A):Option O:=(tq.ae (a1.1.2.1,())).bind λr2=>(vh.ae (a1.1.2.2.1,())).bind λr3=>(w_.ae (a1.1.2.2.2.1,())).bind λr4=>some ((a1.1.1,r2.1,r3.1,r4.1,a1.1.2.2.2.2.1,()),())
theorem af (a1:A):@Eq (Option O) (D.W k a1) (p a1):=Bye
theorem ok:Ok prog 10 D.sig:=ap func10 az Bye (fc tq.ok (fc vh.ok (fc w_.ok (ak _))))
end oX
namespace cm
abbrev A:=Byt×Unit
abbrev O:=Byt×Unit
noncomputable def D:FD:={ fn:=f114,tl:=bc,ps:=[(.ro,(.aa u8))],rs:=[((.aa u8),(aj (.aa u8)))] }
def ae (a:A):Option O:=@lift O λk=>D.W k a
def p (a1:A):Option O:=if ([]:Byt).length+a1.1.length<=b9 then (some (([]:Byt)++a1.1,())) else none
theorem af (a1:A):@Eq (Option O) (D.W k a1) (p a1):=Bye
theorem ok:Ok prog 114 D.sig:=ap func114 az Bye (ak _)
end cm
namespace iu
abbrev A:=Int×Int×Int×Unit
abbrev O:=Bool×Unit
noncomputable def D:FD:={ fn:=f98,tl:=bc,ps:=[(.ro,i64),(.ro,i64),(.ro,i64)],rs:=[(.bool,(an .bool))] }
def ae (a:A):Option O:=@lift O λk=>D.W k a
def p (a1:A):Option O:=cond (decide (a1.2.1<=a1.1)) (some (decide (a1.1<=a1.2.2.1),()))<|some (false,())
theorem af (a1:A):@Eq (Option O) (D.W k a1) (p a1):=Bye
theorem ok:Ok prog 98 D.sig:=ap func98 az Bye (ak _)
end iu
namespace rp
abbrev A:=Int×Unit
abbrev O:=Bool×Unit
noncomputable def D:FD:={ fn:=f70,tl:=bc,ps:=[(.ro,i64)],rs:=[(.bool,(an .bool))],gl:=[(98,iu.D.sig)] }
def ae (a:A):Option O:=@lift O λk=>D.W k a
def p (a1:A):Option O:=(iu.ae (a1.1,1,99,())).bind λr2=>some (r2.1,())
theorem af (a1:A):@Eq (Option O) (D.W k a1) (p a1):=Bye
theorem ok:Ok prog 70 D.sig:=ap func70 az Bye (fc iu.ok (ak _))
end rp
namespace pP
abbrev A:=Int×Unit
abbrev O:=Bool×Unit
noncomputable def D:FD:={ fn:=f223,tl:=bc,ps:=[(.ro,i64)],rs:=[(.bool,(an .bool))] }
def ae (a:A):Option O:=@lift O λk=>D.W k a
def p (a1:A):Option O:=cond (decide (a1.1=2)) (some (true,()))<|cond (decide (a1.1=3)) (some (true,()))<|some (decide (a1.1=4),())
theorem af (a1:A):@Eq (Option O) (D.W k a1) (p a1):=Bye
theorem ok:Ok prog 223 D.sig:=ap func223 az Bye (ak _)
end pP
namespace kf
abbrev A:=(List cq)×Unit
abbrev O:=Int×Unit
abbrev P:=Option O
noncomputable def D:FD:={ fn:=f224,tl:=bc,ps:=[(.ro,(.aa oB))],rs:=[(i64,(an i64))],gl:=[(98,iu.D.sig)],lv:=[(5,[3,10,11,12])],lx:=[(0,[])] }
def ae (a:A):P:=@lift O λk=>D.W k a
variable (a1:A)
def T0 (U:Int×Int):St:={ n:=45,sl:=[(3,.val i64 U.1),(10,.val (.aa oB) a1.1),(11,.val i64 (a1.1.length:Int)),(12,.val i64 U.2)],vr:=[],aT:=[] }
def b0 (self:(Int×Int)->P) (e0:(Unit)->P) (a1:A) (U:Int×Int):P:=cond (decide (U.2 < (a1.1.length:Int))) (if 0<=U.2 then ((a1.1[U.2.toNat]?).bind λa8=>(iu.ae (a8.1,0,63,())).bind λcx=>cond (!cx.1) (some (3,()))<|(iu.ae ((a8.2.1.length:Int),1,64,())).bind λky=>cond (!ky.1) (some (3,()))<|cond (decide (64 < ag (a8.1+(a8.2.1.length:Int)))) (some (3,()))<|cond (decide (a8.1 < U.1)) (some (1,()))<|self (ag ((ag (a8.1+(a8.2.1.length:Int)))+1),ag (U.2+1))) else none)<|e0 ()
def q0 (a1:A) (pc:(Unit)):P:=some (0,())
def r0:(Int×Int)->P:=am (λw v=>b0 w (q0 a1) a1 v) k
theorem aw:@Eq ((Int×Int)->P) (λU=>D.L k [1,1,1,0,1,0,0] [3,10,11,12] [] (ai 0 (ay (D.N k [1,1,1,1]) D.K0)) (T0 a1 U)) (r0 k a1):=
 funext λU=>av _ _ _ (T0 a1) _ (λrec v=>Bye) k U
def p (l0:(Int×Int)->P) (a1:A):P:=cond (decide (64 < (a1.1.length:Int))) (some (2,()))<|l0 (0,0)
theorem af:@Eq P (D.W k a1) (p (r0 k a1) a1):=By8 (aw k a1) Bye
theorem ok:Ok prog 224 D.sig:=ap func224 az Bye (fc iu.ok (ak _))
end kf
namespace jb
abbrev A:=bg×Unit
abbrev O:=Int×Unit
abbrev P:=Option O
noncomputable def D:FD:={ fn:=f142,tl:=bc,ps:=[(.ro,du)],rs:=[(i64,(an i64))],gl:=[(70,rp.D.sig),(98,iu.D.sig),(223,pP.D.sig),(224,kf.D.sig)] }
def ae (a:A):P:=@lift O λk=>D.W k a
def p (a1:A):P:=let j15:P:=let j23:P:=(kf.ae (a1.1.2.2.2.1,())).bind λXv=>cond (!decide (Xv.1=0)) (some (Xv.1,()))<|(pP.ae (a1.1.1,())).bind λXw=>cond Xw.1 (cond (decide ((a1.1.2.2.2.1.length:Int)=0)) (some (1,()))<|cond (decide (a1.1.1=4)) (cond (!decide ((a1.1.2.2.2.1.length:Int)=1)) (some (1,()))<|(a1.1.2.2.2.1[0]?).bind λx26=>cond (!decide ((x26.2.1.length:Int)=64)) (some (1,()))<|some (0,()))<|some (0,()))<|cond (decide (a1.1.1=4)) (cond (!decide ((a1.1.2.2.2.1.length:Int)=1)) (some (1,()))<|(a1.1.2.2.2.1[0]?).bind λx27=>cond (!decide ((x27.2.1.length:Int)=64)) (some (1,()))<|some (0,()))<|some (0,());cond (!decide (a1.1.1=4)) ((rp.ae (a1.1.2.1,())).bind λAV=>cond (!AV.1) (some (3,()))<|(iu.ae (a1.1.2.2.1,0,11,())).bind λDB=>cond (!DB.1) (some (3,()))<|j23)<|(iu.ae (a1.1.2.2.1,0,11,())).bind λXt=>cond (!Xt.1) (some (3,()))<|j23;(iu.ae (a1.1.1,1,6,())).bind λr2=>cond (!r2.1) (some (1,()))<|(pP.ae (a1.1.1,())).bind λr3=>cond (!r3.1) (cond (!decide (a1.1.2.2.1=0)) (some (1,()))<|cond (decide (0 < (a1.1.2.2.2.1.length:Int))) (some (1,()))<|cond (decide (a1.1.1=4)) (cond (!decide (a1.1.2.1=0)) (some (1,()))<|j15)<|j15)<|cond (decide (a1.1.1=4)) (cond (!decide (a1.1.2.1=0)) (some (1,()))<|j15)<|j15
theorem af (a1:A):@Eq P (D.W k a1) (p a1):=Bye
theorem ok:Ok prog 142 D.sig:=ap func142 az Bye (fc rp.ok (fc iu.ok (fc pP.ok (fc kf.ok (ak _)))))
end jb
namespace fw
abbrev A:=Byt×Byt×Unit
abbrev O:=Bool×Unit
abbrev P:=Option O
noncomputable def D:FD:={ fn:=f178,tl:=bc,ps:=[(.ro,(.aa u8)),(.ro,(.aa u8))],rs:=[(.bool,(an .bool))],lv:=[(4,[0,1,12,13])],lx:=[(0,[])],od:=[(6,[0,1,2,3,4,5,6,7,8])] }
def ae (a:A):P:=@lift O λk=>D.W k a
variable (a1:A)
def T0 (U:Int):St:={ n:=26,sl:=[(0,.val (.aa u8) a1.1),(1,.val (.aa u8) a1.2.1),(12,.val i64 (a1.1.length:Int)),(13,.val i64 U)],vr:=[],aT:=[] }
def b0 (self:Int->P) (e0:(Unit)->P) (a1:A) (U:Int):P:=cond (decide (U < (a1.1.length:Int))) (if 0<=U then ((a1.1[U.toNat]?).bind λa8=>if 0<=U then ((a1.2.1[U.toNat]?).bind λgf=>cond (!decide ((a8.toNat:Int)=(gf.toNat:Int))) (some (false,()))<|self (ag (U+1))) else none) else none)<|e0 ()
abbrev B0 (_:Nat):=b0
def q0 (a1:A) (ez:(Unit)):P:=some (true,())
abbrev Q0 (_:Nat):=q0
def r0:(Int)->P:=am (λw v=>B0 k w (Q0 k a1) a1 v) k
theorem aw:@Eq ((Int)->P) (λU=>D.L k [1,1,0,1,0,0] [0,1,12,13] [] (ai 0 (ay (D.N k [1,1,1]) D.K0)) (T0 a1 U)) (r0 k a1):=
 funext λU=>av _ _ _ (T0 a1) _ (λrec v=>Bye) k U
def p (l0:(Int)->P) (a1:A):P:=cond (!decide ((a1.1.length:Int)=(a1.2.1.length:Int))) (some (false,()))<|l0 0
theorem af:@Eq P (D.W k a1) (p (r0 k a1) a1):=By8 (aw k a1) Bye
theorem ok:Ok prog 178 D.sig:=ap func178 az Bye (ak _)
end fw
namespace ii
abbrev A:=bg×Unit
abbrev O:=Byt×Unit
abbrev P:=Option O
noncomputable def D:FD:={ fn:=f262,tl:=bc,ps:=[(.ro,du)],rs:=[((.aa u8),(aj (.aa u8)))],lv:=[(3,[3,24,25,26]),(11,[3,6,51,52,53])],lx:=[(0,[3]),(2,[3,6])] }
def ae (a:A):P:=@lift O λk=>D.W k a
def T0 (a1:A) (U:Byt×Int):St:={ n:=72,sl:=[(3,.own (.aa u8) (aj (.aa u8)) [] U.1),(24,.val (.aa oB) a1.1.2.2.2.1),(25,.val i64 (a1.1.2.2.2.1.length:Int)),(26,.val i64 U.2)],vr:=[],aT:=[] }
def S0 (rec:RT O) (a1:A):(Byt×Int)->P:=λU=>rec (T0 a1 U)
def c_ (K:KT O) (a1:A):Byt->P:=λz=>K (.exit 0) ({ n:=72,sl:=[(3,.own (.aa u8) (aj (.aa u8)) [] z)],vr:=[],aT:=[] })
def b0 (self:(Byt×Int)->P) (e0:Byt->P) (a1:A) (U:Byt×Int):P:=cond (decide (U.2 < (a1.1.2.2.2.1.length:Int))) (if 0<=U.2 then ((a1.1.2.2.2.1[U.2.toNat]?).bind λa8=>if U.1.length+[UInt8.ofInt a8.1,UInt8.ofInt (a8.2.1.length:Int)].length<=b9 then (let rR:=U.1++[UInt8.ofInt a8.1,UInt8.ofInt (a8.2.1.length:Int)];if rR.length+a8.2.1.length<=b9 then (self (rR++a8.2.1,ag (U.2+1))) else none) else none) else none)<|e0 U.1
theorem lh (rec:RT O) (K:KT O) (a1:A) (U:Byt×Int):D.N k [1,1,0,1,0,0] (T0 a1 U) (iX rec (ge [3,24,25,26] []) K)=b0 (S0 rec a1) (c_ K a1) a1 U:=Bye
def T1 (a1:A) (c8:Byt) (e8:Int) (dw:Int×Int):St:={ n:=72,sl:=[(3,.own (.aa u8) (aj (.aa u8)) [] c8),(6,.val i64 dw.1),(51,.ref 3 [] [0,0]),(52,.val i64 e8),(53,.val i64 dw.2)],vr:=[],aT:=[] }
def b1 (self:(Int×Int)->P) (e2:Int->P) (a1:A) (c8:Byt) (e8:Int) (dw:Int×Int):P:=cond (decide (dw.2 < e8)) (if 0<=dw.2/\dw.2 < (c8.length:Int) then ((c8[dw.2.toNat]?).bind λAr=>self ((ag ((ag (dw.1*31))+(ag (Ar.toNat:Int)))).tmod 65521,ag (dw.2+1))) else none)<|e2 dw.1
def q1 (a1:A) (c8:Byt) (e8:Int) (w9:Int):P:=if c8.length+[UInt8.ofInt (w9.fdiv (2 ^ 8)),UInt8.ofInt w9].length<=b9 then (let UX:=c8++[UInt8.ofInt (w9.fdiv (2 ^ 8)),UInt8.ofInt w9];some (UX,())) else none
def s1 (a1:A):Byt->Int->(Int×Int)->P:=λc8 e8=>λdw=>D.L k [1,1,1,1,1,0,1,0,0] [3,6,51,52,53] [] (ai 2 (ay (D.N k [1,1,1,1,1,1]) D.K0)) (T1 a1 c8 e8 dw)
def r1 (a1:A):Byt->Int->(Int×Int)->P:=λc8 e8=>am (λw v=>b1 w (q1 a1 c8 e8) a1 c8 e8 v) k
theorem li (a1:A):s1 k a1=r1 k a1:=
 funext λc8=>funext λe8=>funext λdw=>av _ _ _ (T1 a1 c8 e8) _ (λrec v=>Bye) k dw
def q0 (l1:Byt->Int->(Int×Int)->P) (a1:A) (ez:Byt):P:=if 0<=(0:Int)/\0 < (ez.length:Int) then ((ez[0]?).bind λqJ=>let Bj:=ez.set 0 (UInt8.ofInt (ag ((ez.length:Int)+2)));l1 Bj (Bj.length:Int) (1,0)) else none
def Q0 (a1:A) (ez:Byt):P:=q0 (r1 k a1) a1 ez
theorem sa (a1:A) (ez:Byt):c_ (ai 0 (ay (D.N k [1,1,1]) D.K0)) a1 ez=Q0 k a1 ez:=
 aL (b:=q0 (s1 k a1) a1 ez) Bye (by rw[li];rfl)
def s0 (a1:A):(Byt×Int)->P:=λU=>D.L k [1,1,0,1,0,0] [3,24,25,26] [] (ai 0 (ay (D.N k [1,1,1]) D.K0)) (T0 a1 U)
def r0 (a1:A):(Byt×Int)->P:=am (λw v=>b0 w (Q0 k a1) a1 v) k
theorem aw (a1:A):s0 k a1=r0 k a1:=by
 funext U;have h0:c_ (ai 0 (ay (D.N k [1,1,1]) D.K0)) a1=Q0 k a1:=funext λz=>sa k a1 z;refine (av _ _ _ (T0 a1) (λself v=>b0 self (c_ (ai 0 (ay (D.N k [1,1,1]) D.K0)) a1) a1 v) (λrec v=>lh k rec (ai 0 (ay (D.N k [1,1,1]) D.K0)) a1 v) k U).trans ?_;rw[h0];rfl
def p (l0:(Byt×Int)->P) (a1:A):P:=l0 ([(0:UInt8),UInt8.ofInt a1.1.1,UInt8.ofInt a1.1.2.1,UInt8.ofInt a1.1.2.2.1,UInt8.ofInt (a1.1.2.2.2.1.length:Int)],0)
theorem af (a1:A):@Eq P (D.W k a1) (p (r0 k a1) a1):=
 aL (b:=p (s0 k a1) a1) Bye (by rw[aw])
theorem ok:Ok prog 262 D.sig:=ap func262 az Bye (ak _)
end ii
namespace mG
abbrev A:=Byt×Unit
abbrev O:=bg×Int×Unit
abbrev P:=Option O
noncomputable def D:FD:={ fn:=f217,tl:=bc,ps:=[(.ro,(.aa u8))],rs:=[(du,(aj du)),(i64,(an i64))],gl:=[(114,cm.D.sig),(142,jb.D.sig),(178,fw.D.sig),(262,ii.D.sig)],lv:=[(7,[2,4,5,6,7,52,53])],lx:=[(0,[2,4,5,6,7])],od:=[(4,[0,1,2,3,4,5,6,7,8,9,10,11,12,13,14]),(11,[0,1,2,3,4,5,6,7,8,9,10,11,12,13,14,15,16,17,18,19,20])] }
def ae (a:A):P:=@lift O λk=>D.W k a
variable (a1:A)
def T0 (a1:A) (lV:Byt) (z6:Int) (CT:Int) (gw:bg×Int×Int):St:={ n:=123,sl:=[(2,.box du (aj du) [] ((0:Int),(0:Int),(0:Int),([]:List cq),())),(4,.val (.aa u8) lV),(5,.box du (aj du) [] gw.1),(6,.val i64 gw.2.1),(7,.val i64 z6),(52,.val i64 CT),(53,.val i64 gw.2.2)],vr:=[],aT:=[] }
def b0 (self:(bg×Int×Int)->P) (e0:(bg×Int)->P) (a1:A) (lV:Byt) (z6:Int) (CT:Int) (gw:bg×Int×Int):P:=cond (decide (gw.2.2 < CT)) (cond (decide (z6 < ag (gw.2.1+2))) (some ((0,0,0,([]:List cq),()),0,()))<|if 0<=ag (gw.2.1+1) then ((lV[(ag (gw.2.1+(1:Int))).toNat]?).bind λHf=>cond (decide (z6 < ag ((ag (gw.2.1+2))+(ag (Hf.toNat:Int))))) (some ((0,0,0,([]:List cq),()),0,()))<|if 0<=ag (gw.2.1+1) then ((lV[(ag (gw.2.1+(1:Int))).toNat]?).bind λCS=>if 0<=gw.2.1 then ((lV[gw.2.1.toNat]?).bind λFt=>if 0<=ag (gw.2.1+2)/\ag (gw.2.1+2)<=ag ((ag (gw.2.1+2))+(ag (CS.toNat:Int)))/\ag ((ag (gw.2.1+2))+(ag (CS.toNat:Int)))<=(lV.length:Int) then ((cm.ae ((lV.take (ag ((ag (gw.2.1+2))+(ag (CS.toNat:Int)))).toNat).drop (ag (gw.2.1+2)).toNat,())).bind λU3=>if gw.1.2.2.2.1.length+[(ag (Ft.toNat:Int),U3.1,())].length<=b9 then (let PR:=gw.1.2.2.2.1++[(ag (Ft.toNat:Int),U3.1,())];self ((gw.1.1,gw.1.2.1,gw.1.2.2.1,PR,gw.1.2.2.2.2),ag (gw.2.1+(ag (2+(ag (CS.toNat:Int))))),ag (gw.2.2+1))) else none) else none) else none) else none) else none)<|e0 (gw.1,gw.2.1)
abbrev B0 (_:Nat):=b0
def q0 (a1:A) (lV:Byt) (z6:Int) (CT:Int) (U4:(bg×Int)):P:=cond (!decide (U4.2=z6)) (some ((0,0,0,([]:List cq),()),0,()))<|(jb.ae (U4.1,())).bind λz7=>cond (!decide (z7.1=0)) (some ((0,0,0,([]:List cq),()),0,()))<|(ii.ae (U4.1,())).bind λHg=>(fw.ae (Hg.1,lV,())).bind λafb=>cond (!afb.1) (some ((0,0,0,([]:List cq),()),0,()))<|some (U4.1,(lV.length:Int),())
abbrev Q0 (_:Nat):=q0
def r0:Byt->Int->Int->(bg×Int×Int)->P:=λlV z6 CT=>am (λw v=>B0 k w (Q0 k a1 lV z6 CT) a1 lV z6 CT v) k
theorem aw:@Eq (Byt->Int->Int->(bg×Int×Int)->P) (λlV z6 CT=>λgw=>D.L k [1,1,1,1,1,0,1,0,0] [2,4,5,6,7,52,53] [] (ai 0 (ay (D.N k [1,1,1,1,1,1]) D.K0)) (T0 a1 lV z6 CT gw)) (r0 k a1):=
 funext λlV=>funext λz6=>funext λCT=>funext λgw=>av _ _ _ (T0 a1 lV z6 CT) _ (λrec v=>Bye) k gw
def p (l0:Byt->Int->Int->(bg×Int×Int)->P) (a1:A):P:=cond (decide ((a1.1.length:Int) < 7)) (some ((0,0,0,([]:List cq),()),0,()))<|(a1.1[0]?).bind λx2=>cond (decide ((a1.1.length:Int) < ag (x2.toNat:Int))) (some ((0,0,0,([]:List cq),()),0,()))<|(a1.1[0]?).bind λx3=>cond (decide ((x3.toNat:Int) < 7)) (some ((0,0,0,([]:List cq),()),0,()))<|(a1.1[0]?).bind λx4=>if 0<=(x4.toNat:Int)/\(x4.toNat:Int)<=(a1.1.length:Int) then ((((a1.1.take (x4.toNat:Int).toNat).drop 0)[1]?).bind λx5=>(((a1.1.take (x4.toNat:Int).toNat).drop 0)[2]?).bind λx6=>(((a1.1.take (x4.toNat:Int).toNat).drop 0)[3]?).bind λx7=>(((a1.1.take (x4.toNat:Int).toNat).drop 0)[4]?).bind λx8=>l0 ((a1.1.take (x4.toNat:Int).toNat).drop 0) (ag ((((a1.1.take (x4.toNat:Int).toNat).drop 0).length:Int) - 2)) (ag (x8.toNat:Int)) ((ag (x5.toNat:Int),ag (x6.toNat:Int),ag (x7.toNat:Int),([]:List cq),()),5,0)) else none
theorem af:@Eq P (D.W k a1) (p (r0 k a1) a1):=By8 (aw k a1) Bye
theorem ok:Ok prog 217 D.sig:=ap func217 az Bye (fc cm.ok (fc jb.ok (fc fw.ok (fc ii.ok (ak _)))))
end mG
namespace ml
abbrev A:=Byt×Unit
abbrev O:=(List bg)×Int×Unit
abbrev P:=Option O
noncomputable def D:FD:={ fn:=f140,tl:=bc,ps:=[(.ro,(.aa u8))],rs:=[((.aa du),(aj (.aa du))),(i64,(an i64))],gl:=[(217,mG.D.sig)],lv:=[(3,[0,4,5])] }
def ae (a:A):P:=@lift O λk=>D.W k a
variable (a1:A)
def T0 (U:(List bg)×Int):St:={ n:=26,sl:=[(0,.val (.aa u8) a1.1),(4,.own (.aa du) (aj (.aa du)) [] U.1),(5,.val i64 U.2)],vr:=[],aT:=[] }
def b0 (self:((List bg)×Int)->P) (a1:A) (U:(List bg)×Int):P:=if 0<=U.2/\U.2<=(a1.1.length:Int) then ((mG.ae ((a1.1.take a1.1.length).drop U.2.toNat,())).bind λxr=>cond (decide (xr.2.1=0)) (some (U.1,U.2,()))<|if U.1.length+[xr.1].length<=b9 then (self (U.1++[xr.1],ag (U.2+xr.2.1))) else none) else none
abbrev B0 (_:Nat):=b0
def r0:((List bg)×Int)->P:=am (λw v=>B0 k w a1 v) k
theorem aw:@Eq (((List bg)×Int)->P) (λU=>D.L k [1,1,1,0,0] [0,4,5] [] (ai 0 D.K0) (T0 a1 U)) (r0 k a1):=
 funext λU=>av _ _ _ (T0 a1) _ (λrec v=>Bye) k U
def p (l0:((List bg)×Int)->P) (a1:A):P:=l0 (([]:List bg),0)
theorem af:@Eq P (D.W k a1) (p (r0 k a1) a1):=By8 (aw k a1) Bye
theorem ok:Ok prog 140 D.sig:=ap func140 az Bye (fc mG.ok (ak _))
end ml
namespace lJ
abbrev A:=Log×Unit
abbrev O:=(List bg)×Unit
noncomputable def D:FD:={ fn:=f79,tl:=bc,ps:=[(.ro,gd)],rs:=[((.aa du),(aj (.aa du)))],gl:=[(140,ml.D.sig)] }
def ae (a:A):Option O:=@lift O λk=>D.W k a
def p (a1:A):Option O:=(ml.ae (a1.1.1,())).bind λr2=>(ml.ae (a1.1.2.1,())).bind λr3=>if r2.1.length+r3.1.length<=b9 then (some (r2.1++r3.1,())) else none
theorem af (a1:A):@Eq (Option O) (D.W k a1) (p a1):=Bye
theorem ok:Ok prog 79 D.sig:=ap func79 az Bye (fc ml.ok (ak _))
end lJ
namespace jc
abbrev A:=UInt8×Unit
abbrev O:=Byt×Unit
abbrev P:=Option O
noncomputable def D:FD:={ fn:=f193,tl:=bc,ps:=[(.ro,u8)],rs:=[((.aa u8),(aj (.aa u8)))],lv:=[(3,[0,3,7,8])],lx:=[(0,[3])] }
def ae (a:A):P:=@lift O λk=>D.W k a
variable (a1:A)
def T0 (U:Byt×Int):St:={ n:=21,sl:=[(0,.val u8 a1.1),(3,.own (.aa u8) (aj (.aa u8)) [] U.1),(7,.val i64 ((List.replicate 64 (0:UInt8)).length:Int)),(8,.val i64 U.2)],vr:=[],aT:=[] }
def b0 (self:(Byt×Int)->P) (e0:Byt->P) (a1:A) (U:Byt×Int):P:=cond (decide (U.2 < ((List.replicate 64 (0:UInt8)).length:Int))) (if 0<=U.2/\U.2 < (U.1.length:Int) then ((U.1[U.2.toNat]?).bind λa8=>self (U.1.set U.2.toNat a1.1,ag (U.2+1))) else none)<|e0 U.1
def q0 (a1:A) (mU:Byt):P:=if 0<=(0:Int)/\0 < (mU.length:Int) then ((mU[0]?).bind λd6=>if 0<=(1:Int)/\1 < ((mU.set 0 (0:UInt8)).length:Int) then (((mU.set 0 (0:UInt8))[1]?).bind λqJ=>let Bj:=(mU.set 0 (0:UInt8)).set 1 (64:UInt8);some (Bj,())) else none) else none
def r0:(Byt×Int)->P:=am (λw v=>b0 w (q0 a1) a1 v) k
theorem aw:@Eq ((Byt×Int)->P) (λU=>D.L k [1,1,0,1,0,0] [0,3,7,8] [] (ai 0 (ay (D.N k [1,1,1]) D.K0)) (T0 a1 U)) (r0 k a1):=
 funext λU=>av _ _ _ (T0 a1) _ (λrec v=>Bye) k U
def p (l0:(Byt×Int)->P) (a1:A):P:=if 0<=(64:Int)/\(64:Int)<=64/\64<=(b9:Int) then (l0 (List.replicate 64 (0:UInt8),0)) else none
theorem af:@Eq P (D.W k a1) (p (r0 k a1) a1):=By8 (aw k a1) Bye
theorem ok:Ok prog 193 D.sig:=ap func193 az Bye (ak _)
end jc
namespace mH
abbrev A:=(List Byt)×Unit
abbrev O:=(List Byt)×Unit
noncomputable def D:FD:={ fn:=f225,tl:=bc,ps:=[(.ro,(.aa (.aa u8)))],rs:=[((.aa (.aa u8)),(.aa true (an (.aa u8))))] }
def ae (a:A):Option O:=@lift O λk=>D.W k a
def p (a1:A):Option O:=Ce a1.1 (some (([]:List Byt),())) (if ([]:List Byt).length+a1.1.length<=b9 then (some (([]:List Byt)++a1.1,())) else none)
theorem af (a1:A):@Eq (Option O) (D.W k a1) (p a1):=Bye
theorem ok:Ok prog 225 D.sig:=ap func225 az Bye (ak _)
end mH
namespace lq
abbrev A:=Byt×(List cq)×Unit
abbrev O:=Byt×Unit
abbrev P:=Option O
noncomputable def D:FD:={ fn:=f226,tl:=bc,ps:=[(.ro,(.aa u8)),(.ro,(.aa oB))],rs:=[((.aa u8),(aj (.aa u8)))],gl:=[(114,cm.D.sig)],lv:=[(3,[5,10,11,12])],lx:=[(0,[5])],od:=[(5,[0,1,2,3,4,5,6])] }
def ae (a:A):P:=@lift O λk=>D.W k a
variable (a1:A)
def T0 (be:Byt×Int):St:={ n:=25,sl:=[(5,.own (.aa u8) (aj (.aa u8)) [] be.1),(10,.val (.aa oB) a1.2.1),(11,.val i64 (a1.2.1.length:Int)),(12,.val i64 be.2)],vr:=[],aT:=[] }
def b0 (self:(Byt×Int)->P) (e0:Byt->P) (a1:A) (be:Byt×Int):P:=cond (decide (be.2 < (a1.2.1.length:Int))) (if 0<=be.2 then ((a1.2.1[be.2.toNat]?).bind λgf=>if 0<=gf.1/\gf.1<=(be.1.length:Int) then (let JK:=pD be.1 gf.1.toNat (min gf.2.1.length (be.1.length - gf.1.toNat)) gf.2.1;self (JK,ag (be.2+1))) else none) else none)<|e0 be.1
def q0 (a1:A) (pc:Byt):P:=some (pc,())
def r0:(Byt×Int)->P:=am (λw v=>b0 w (q0 a1) a1 v) k
theorem aw:@Eq ((Byt×Int)->P) (λbe=>D.L k [1,1,0,1,0,0] [5,10,11,12] [] (ai 0 (ay (D.N k [1,1,1]) D.K0)) (T0 a1 be)) (r0 k a1):=
 funext λbe=>av _ _ _ (T0 a1) _ (λrec v=>Bye) k be
def p (l0:(Byt×Int)->P) (a1:A):P:=(cm.ae (a1.1,())).bind λr2=>l0 (r2.1,0)
theorem af:@Eq P (D.W k a1) (p (r0 k a1) a1):=By8 (aw k a1) Bye
theorem ok:Ok prog 226 D.sig:=ap func226 az Bye (fc cm.ok (ak _))
end lq
namespace mg
abbrev A:=(List Byt)×bg×Unit
abbrev O:=(List Byt)×Int×Unit
noncomputable def D:FD:={ fn:=f143,tl:=bc,ps:=[(.ro,(.aa (.aa u8))),(.ro,du)],rs:=[((.aa (.aa u8)),(an (.aa (.aa u8)))),(i64,(an i64))],gl:=[(193,jc.D.sig),(223,pP.D.sig),(225,mH.D.sig),(226,lq.D.sig)],od:=[(10,[0,1,2,3,4,5,6,7,8,9,10,11,12])] }
def ae (a:A):Option O:=@lift O λk=>D.W k a
def p (a1:A):Option O:=(pP.ae (a1.2.1.1,())).bind λr2=>cond (!r2.1) (some (a1.1,0,()))<|cond (decide ((a1.1.length:Int) < a1.2.1.2.2.1)) (some (([]:List Byt),1,()))<|cond (decide (a1.2.1.2.2.1=12)) (some (([]:List Byt),2,()))<|(mH.ae (a1.1,())).bind λr3=>let Xx:=λ(p9:List Byt)=>(if 0<=a1.2.1.2.2.1/\a1.2.1.2.2.1 < (p9.length:Int) then ((p9[a1.2.1.2.2.1.toNat]?).bind λTq=>(lq.ae (Tq,a1.2.1.2.2.2.1,())).bind λtd=>if 0<=a1.2.1.2.2.1/\a1.2.1.2.2.1 < (p9.length:Int) then ((p9[a1.2.1.2.2.1.toNat]?).bind λx13=>some (p9.set a1.2.1.2.2.1.toNat td.1,0,())) else none) else none:Option O);cond (decide (a1.2.1.2.2.1=(a1.1.length:Int))) ((jc.ae ((0:UInt8),())).bind λr4=>if r3.1.length+[r4.1].length<=b9 then (Xx (r3.1++[r4.1])) else none)<|Xx r3.1
theorem af (a1:A):@Eq (Option O) (D.W k a1) (p a1):=Bye
theorem ok:Ok prog 143 D.sig:=ap func143 az Bye (fc jc.ok (fc pP.ok (fc mH.ok (fc lq.ok (ak _)))))
end mg
namespace oK
abbrev A:=(List bg)×Unit
abbrev O:=(List Byt)×Int×Unit
abbrev P:=Option O
noncomputable def D:FD:={ fn:=f81,tl:=bc,ps:=[(.ro,(.aa du))],rs:=[((.aa (.aa u8)),(an (.aa (.aa u8)))),(i64,(an i64))],gl:=[(142,jb.D.sig),(143,mg.D.sig)],lv:=[(3,[4,10,11,12])],lx:=[(0,[4])],lf:=[(3,[(4,(.aa false (.aa false .leaf)))])] }
def ae (a:A):P:=@lift O λk=>D.W k a
variable (a1:A)
def T0 (U:(List Byt)×Int):St:={ n:=33,sl:=[(4,.val (.aa (.aa u8)) U.1),(10,.val (.aa du) a1.1),(11,.val i64 (a1.1.length:Int)),(12,.val i64 U.2)],vr:=[],aT:=[] }
def b0 (self:((List Byt)×Int)->P) (e0:(List Byt)->P) (a1:A) (U:(List Byt)×Int):P:=cond (decide (U.2 < (a1.1.length:Int))) (if 0<=U.2 then ((a1.1[U.2.toNat]?).bind λa8=>(jb.ae (a8,())).bind λcx=>cond (!decide (cx.1=0)) (some (([]:List Byt),cx.1,()))<|(mg.ae (U.1,a8,())).bind λky=>cond (!decide (ky.2.1=0)) (some (([]:List Byt),ky.2.1,()))<|self (ky.1,ag (U.2+1))) else none)<|e0 U.1
def q0 (a1:A) (pc:(List Byt)):P:=some (pc,0,())
def r0:((List Byt)×Int)->P:=am (λw v=>b0 w (q0 a1) a1 v) k
theorem aw:@Eq (((List Byt)×Int)->P) (λU=>D.L k [1,1,0,1,0,0] [4,10,11,12] [(4,(.aa false (.aa false .leaf)))] (ai 0 (ay (D.N k [1,1,1]) D.K0)) (T0 a1 U)) (r0 k a1):=
 funext λU=>av _ _ _ (T0 a1) _ (λrec v=>Bye) k U
def p (l0:((List Byt)×Int)->P) (a1:A):P:=l0 (([]:List Byt),0)
theorem af:@Eq P (D.W k a1) (p (r0 k a1) a1):=By8 (aw k a1) Bye
theorem ok:Ok prog 81 D.sig:=ap func81 az Bye (fc jb.ok (fc mg.ok (ak _)))
end oK
namespace mX
abbrev A:=Log×Unit
abbrev O:=Int×Unit
noncomputable def D:FD:={ fn:=f49,tl:=bc,ps:=[(.ro,gd)],rs:=[(i64,(an i64))] }
def ae (a:A):Option O:=@lift O λk=>D.W k a
def p (a1:A):Option O:=some (ag ((a1.1.1.length:Int)+(a1.1.2.1.length:Int)),())
theorem af (a1:A):@Eq (Option O) (D.W k a1) (p a1):=Bye
theorem ok:Ok prog 49 D.sig:=ap func49 az Bye (ak _)
end mX
namespace kX
abbrev A:=Log×Unit
abbrev O:=Int×Unit
abbrev P:=Option O
noncomputable def D:FD:={ fn:=f97,tl:=bc,ps:=[(.ro,gd)],rs:=[(i64,(an i64))],gl:=[(49,mX.D.sig),(140,ml.D.sig)],lv:=[(4,[14,15,16])],lx:=[(0,[])] }
def ae (a:A):P:=@lift O λk=>D.W k a
variable (a1:A)
def T0 (be:Int):St:={ n:=30,sl:=[(14,.own (.aa (.aa u8)) (.aa true (an (.aa u8))) [] [a1.1.1,a1.1.2.1]),(15,.val i64 ([a1.1.1,a1.1.2.1].length:Int)),(16,.val i64 be)],vr:=[],aT:=[] }
def b0 (self:Int->P) (e0:(Unit)->P) (a1:A) (be:Int):P:=cond (decide (be < ([a1.1.1,a1.1.2.1].length:Int))) (if 0<=be/\be < ([a1.1.1,a1.1.2.1].length:Int) then (([a1.1.1,a1.1.2.1][be.toNat]?).bind λgf=>(ml.ae (gf,())).bind λky=>cond (!decide (ky.2.1=(gf.length:Int))) (some (5,()))<|self (ag (be+1))) else none)<|e0 ()
def q0 (a1:A) (pc:(Unit)):P:=some (0,())
def r0:(Int)->P:=am (λw v=>b0 w (q0 a1) a1 v) k
theorem aw:@Eq ((Int)->P) (λbe=>D.L k [1,1,0,1,0,0] [14,15,16] [] (ai 0 (ay (D.N k [1,1,1]) D.K0)) (T0 a1 be)) (r0 k a1):=
 funext λbe=>av _ _ _ (T0 a1) _ (λrec v=>Bye) k be
def p (l0:(Int)->P) (a1:A):P:=(mX.ae (a1.1,())).bind λr2=>cond (decide (16000 < r2.1)) (some (2,()))<|l0 0
theorem af:@Eq P (D.W k a1) (p (r0 k a1) a1):=By8 (aw k a1) Bye
theorem ok:Ok prog 97 D.sig:=ap func97 az Bye (fc mX.ok (fc ml.ok (ak _)))
end kX
namespace ft
abbrev A:=Byt×Unit
abbrev O:=Int×Unit
noncomputable def D:FD:={ fn:=f170,tl:=bc,ps:=[(.ro,(.aa u8))],rs:=[(i64,(an i64))] }
def ae (a:A):Option O:=@lift O λk=>D.W k a
def p (a1:A):Option O:=(a1.1[0]?).bind λx2=>some (ag (x2.toNat:Int),())
theorem af (a1:A):@Eq (Option O) (D.W k a1) (p a1):=Bye
theorem ok:Ok prog 170 D.sig:=ap func170 az Bye (ak _)
end ft
namespace lZ
abbrev A:=Byt×Int×Unit
abbrev O:=Int×Int×Unit
noncomputable def D:FD:={ fn:=f253,tl:=bc,ps:=[(.ro,(.aa u8)),(.ro,i64)],rs:=[(i64,(an i64)),(i64,(an i64))],od:=[(1,[0,1,2,3,4,5,6,7,8,9,10,11,12,13,14,15])] }
def ae (a:A):Option O:=@lift O λk=>D.W k a
def p (a1:A):Option O:=if 0<=ag (2+(ag (2*a1.2.1))) then ((a1.1[(ag ((2:Int)+(ag ((2:Int)*a1.2.1)))).toNat]?).bind λx2=>if 0<=ag (3+(ag (2*a1.2.1))) then ((a1.1[(ag ((3:Int)+(ag ((2:Int)*a1.2.1)))).toNat]?).bind λx3=>some (ag (x2.toNat:Int),ag (x3.toNat:Int),())) else none) else none
theorem af (a1:A):@Eq (Option O) (D.W k a1) (p a1):=Bye
theorem ok:Ok prog 253 D.sig:=ap func253 az Bye (ak _)
end lZ
namespace bm
abbrev A:=Byt×Unit
abbrev O:=Int×Unit
abbrev P:=Option O
noncomputable def D:FD:={ fn:=f169,tl:=bc,ps:=[(.ro,(.aa u8))],rs:=[(i64,(an i64))],gl:=[(170,ft.D.sig),(253,lZ.D.sig)],lv:=[(7,[0,3,4,35,36]),(15,[0,3,8,66,67]),(19,[0,3,8,10,11,12,66,67])],lx:=[(0,[0,3]),(2,[0,3]),(4,[0,3,8,66,67])],od:=[(3,[0,2,3,4,5,1,6,7])] }
def ae (a:A):P:=@lift O λk=>D.W k a
def T0 (a1:A) (fd:Int) (d0:Int) (c7:Int):St:={ n:=101,sl:=[(0,.val (.aa u8) a1.1),(3,.val i64 fd),(4,.val i64 d0),(35,.val i64 fd),(36,.val i64 c7)],vr:=[],aT:=[] }
def S0 (rec:RT O) (a1:A) (fd:Int) (d0:Int):(Int)->P:=λc7=>rec (T0 a1 fd d0 c7)
def c_ (K:KT O) (a1:A) (fd:Int) (d0:Int):(Unit)->P:=λz=>K (.exit 0) ({ n:=101,sl:=[(0,.val (.aa u8) a1.1),(3,.val i64 fd)],vr:=[],aT:=[] })
def b0 (self:Int->P) (e0:(Unit)->P) (a1:A) (fd:Int) (d0:Int) (c7:Int):P:=cond (decide (c7 < fd)) ((lZ.ae (a1.1,c7,())).bind λjq=>cond (!((decide (jq.1=0)) == (decide (jq.2.1=0)))) (some (3,()))<|cond (!decide (jq.1=0)) (cond (decide (jq.1 < d0)) (some (3,()))<|cond (decide (64 < ag (jq.1+jq.2.1))) (some (3,()))<|self (ag (c7+1)))<|cond (decide (64 < ag (jq.1+jq.2.1))) (some (3,()))<|self (ag (c7+1)))<|e0 ()
theorem lh (rec:RT O) (K:KT O) (a1:A) (fd:Int) (d0:Int) (c7:Int):D.N k [1,1,1,1,0,1,0,0] (T0 a1 fd d0 c7) (iX rec (ge [0,3,4,35,36] []) K)=b0 (S0 rec a1 fd d0) (c_ K a1 fd d0) a1 fd d0 c7:=Bye
def T1 (a1:A) (dm:Byt×Int×(List Bool)×Int×Int):St:={ n:=101,sl:=[(0,.val (.aa u8) dm.1),(3,.val i64 dm.2.1),(8,.box (.arr 64 .bool) (an (.arr 64 .bool)) [] dm.2.2.1),(66,.val i64 dm.2.2.2.1),(67,.val i64 dm.2.2.2.2)],vr:=[],aT:=[] }
def S1 (rec:RT O) (a1:A):(Byt×Int×(List Bool)×Int×Int)->P:=λdm=>rec (T1 a1 dm)
def jM (K:KT O) (a1:A):(Byt×Int)->P:=λz=>K (.exit 2) ({ n:=101,sl:=[(0,.val (.aa u8) z.1),(3,.val i64 z.2)],vr:=[],aT:=[] })
def T2 (a1:A) (iN:Byt) (fh:Int) (pQ:Int) (pR:Int) (pT:Int) (pU:Int) (l8:(List Bool)×Int):St:={ n:=101,sl:=[(0,.val (.aa u8) iN),(3,.val i64 fh),(8,.box (.arr 64 .bool) (an (.arr 64 .bool)) [] l8.1),(10,.val i64 pQ),(11,.val i64 pR),(12,.val i64 l8.2),(66,.val i64 pT),(67,.val i64 pU)],vr:=[],aT:=[] }
def b2 (self:((List Bool)×Int)->P) (e4:(List Bool)->P) (a1:A) (iN:Byt) (fh:Int) (pQ:Int) (pR:Int) (pT:Int) (pU:Int) (l8:(List Bool)×Int):P:=cond (decide (l8.2 < ag (pQ+pR))) (if 0<=l8.2/\l8.2 < (l8.1.length:Int) then ((l8.1[l8.2.toNat]?).bind λadO=>cond adO (some (8,()))<|if 0<=l8.2/\l8.2 < (l8.1.length:Int) then ((l8.1[l8.2.toNat]?).bind λU5=>self (l8.1.set l8.2.toNat true,ag (l8.2+1))) else none) else none)<|e4 l8.1
def q1 (self:(Byt×Int×(List Bool)×Int×Int)->P) (e2:(Byt×Int)->P) (a1:A) (iN:Byt) (fh:Int) (pQ:Int) (pR:Int) (pT:Int) (pU:Int) (U6:(List Bool)):P:=self (iN,fh,U6,pT,ag (pU+1))
def s2 (rec:RT O) (K:KT O) (a1:A):Byt->Int->Int->Int->Int->Int->((List Bool)×Int)->P:=λiN fh pQ pR pT pU=>λl8=>D.L k [1,1,1,1,1,1,0,1,0,0,1,1,0,0,1,1,1,0,0] [0,3,8,10,11,12,66,67] [] (ai 4 (ai 3 (ay (D.N k [1,1,1,1,1,1,0,1,0,0,1,1,1]) (iX rec (ge [0,3,8,66,67] []) K)))) (T2 a1 iN fh pQ pR pT pU l8)
def r2 (self:(Byt×Int×(List Bool)×Int×Int)->P) (e2:(Byt×Int)->P) (a1:A):Byt->Int->Int->Int->Int->Int->((List Bool)×Int)->P:=λiN fh pQ pR pT pU=>am (λw v=>b2 w (q1 self e2 a1 iN fh pQ pR pT pU) a1 iN fh pQ pR pT pU v) k
theorem tI (rec:RT O) (K:KT O) (a1:A):s2 k rec K a1=r2 k (S1 rec a1) (jM K a1) a1:=
 funext λiN=>funext λfh=>funext λpQ=>funext λpR=>funext λpT=>funext λpU=>funext λl8=>av _ _ _ (T2 a1 iN fh pQ pR pT pU) _ (λrec v=>Bye) k l8
def b1 (self:(Byt×Int×(List Bool)×Int×Int)->P) (e2:(Byt×Int)->P) (l2:Byt->Int->Int->Int->Int->Int->((List Bool)×Int)->P) (a1:A) (dm:Byt×Int×(List Bool)×Int×Int):P:=cond (decide (dm.2.2.2.2 < dm.2.2.2.1)) ((lZ.ae (dm.1,dm.2.2.2.2,())).bind λBI=>l2 dm.1 dm.2.1 BI.1 BI.2.1 dm.2.2.2.1 dm.2.2.2.2 (dm.2.2.1,BI.1))<|e2 (dm.1,dm.2.1)
def B1 (self:(Byt×Int×(List Bool)×Int×Int)->P) (e2:(Byt×Int)->P) (a1:A) (dm:Byt×Int×(List Bool)×Int×Int):P:=b1 self e2 (r2 k self e2 a1) a1 dm
theorem vd (rec:RT O) (K:KT O) (a1:A) (dm:Byt×Int×(List Bool)×Int×Int):D.N k [1,1,1,1,1,1,0,1,0,0] (T1 a1 dm) (iX rec (ge [0,3,8,66,67] []) K)=B1 k (S1 rec a1) (jM K a1) a1 dm:=
 aL (b:=b1 (S1 rec a1) (jM K a1) (s2 k rec K a1) a1 dm) Bye (by rw[tI];rfl)
def q2 (a1:A) (xQ:(Byt×Int)):P:=cond (decide (0 < xQ.2)) (if 0<=ag ((ag (2*xQ.2))+1) then ((xQ.1[(ag ((ag ((2:Int)*xQ.2))+(1:Int))).toNat]?).bind λadP=>cond (decide ((adP.toNat:Int)=0)) (some (8,()))<|some (0,())) else none)<|some (0,())
theorem w7 (a1:A) (xQ:(Byt×Int)):jM (ai 2 (ay (D.N k [1,1,1,1,1,1,1]) D.K0)) a1 xQ=q2 a1 xQ:=Bye
def s1 (a1:A) (fd:Int) (d0:Int):(Byt×Int×(List Bool)×Int×Int)->P:=λdm=>D.L k [1,1,1,1,1,1,0,1,0,0] [0,3,8,66,67] [] (ai 2 (ay (D.N k [1,1,1,1,1,1,1]) D.K0)) (T1 a1 dm)
def r1 (a1:A) (fd:Int) (d0:Int):(Byt×Int×(List Bool)×Int×Int)->P:=am (λw v=>B1 k w (q2 a1) a1 v) k
theorem li (a1:A) (fd:Int) (d0:Int):s1 k a1 fd d0=r1 k a1 fd d0:=by
 funext dm;have h2:jM (ai 2 (ay (D.N k [1,1,1,1,1,1,1]) D.K0)) a1=q2 a1:=funext λz=>w7 k a1 z;refine (av _ _ _ (T1 a1) (λself v=>B1 k self (jM (ai 2 (ay (D.N k [1,1,1,1,1,1,1]) D.K0)) a1) a1 v) (λrec v=>vd k rec (ai 2 (ay (D.N k [1,1,1,1,1,1,1]) D.K0)) a1 v) k dm).trans ?_;rw[h2];rfl
def q0 (l1:(Byt×Int×(List Bool)×Int×Int)->P) (a1:A) (fd:Int) (d0:Int) (oC:(Unit)):P:=l1 (a1.1,fd,List.replicate 64 false,fd,0)
def Q0 (a1:A) (fd:Int) (d0:Int) (oC:(Unit)):P:=q0 (r1 k a1 fd d0) a1 fd d0 oC
theorem sa (a1:A) (fd:Int) (d0:Int) (oC:(Unit)):c_ (ai 0 (ay (D.N k [1,1,1,1,1]) D.K0)) a1 fd d0 oC=Q0 k a1 fd d0 oC:=
 aL (b:=q0 (s1 k a1 fd d0) a1 fd d0 oC) Bye (by rw[li];rfl)
def s0 (a1:A):Int->Int->(Int)->P:=λfd d0=>λc7=>D.L k [1,1,1,1,0,1,0,0] [0,3,4,35,36] [] (ai 0 (ay (D.N k [1,1,1,1,1]) D.K0)) (T0 a1 fd d0 c7)
def r0 (a1:A):Int->Int->(Int)->P:=λfd d0=>am (λw v=>b0 w (Q0 k a1 fd d0) a1 fd d0 v) k
theorem aw (a1:A):s0 k a1=r0 k a1:=by
 funext fd;funext d0;funext c7;have h0:c_ (ai 0 (ay (D.N k [1,1,1,1,1]) D.K0)) a1 fd d0=Q0 k a1 fd d0:=funext λz=>sa k a1 fd d0 z;refine (av _ _ _ (T0 a1 fd d0) (λself v=>b0 self (c_ (ai 0 (ay (D.N k [1,1,1,1,1]) D.K0)) a1 fd d0) a1 fd d0 v) (λrec v=>lh k rec (ai 0 (ay (D.N k [1,1,1,1,1]) D.K0)) a1 fd d0 v) k c7).trans ?_;rw[h0];rfl
def p (l0:Int->Int->(Int)->P) (a1:A):P:=cond (!decide ((a1.1.length:Int)=64)) (some (1,()))<|(a1.1[1]?).bind λx2=>(ft.ae (a1.1,())).bind λr3=>cond (decide (16 < r3.1)) (some (3,()))<|cond (decide (ag (x2.toNat:Int) < ag (2+(ag (2*r3.1))))) (some (3,()))<|cond (decide (64 < ag (x2.toNat:Int))) (some (3,()))<|l0 r3.1 (ag (x2.toNat:Int)) 0
theorem af (a1:A):@Eq P (D.W k a1) (p (r0 k a1) a1):=
 aL (b:=p (s0 k a1) a1) Bye (by rw[aw])
theorem ok:Ok prog 169 D.sig:=ap func169 az Bye (fc ft.ok (fc lZ.ok (ak _)))
end bm
namespace iv
abbrev A:=Byt×Int×Unit
abbrev O:=Bool×Unit
noncomputable def D:FD:={ fn:=f171,tl:=bc,ps:=[(.ro,(.aa u8)),(.ro,i64)],rs:=[(.bool,(an .bool))],gl:=[(170,ft.D.sig)] }
def ae (a:A):Option O:=@lift O λk=>D.W k a
def p (a1:A):Option O:=cond (decide (0<=a1.2.1)) ((ft.ae (a1.1,())).bind λr2=>cond (decide (a1.2.1 < r2.1)) (if 0<=ag (3+(ag (2*a1.2.1))) then ((a1.1[(ag ((3:Int)+(ag ((2:Int)*a1.2.1)))).toNat]?).bind λx3=>some (!decide ((x3.toNat:Int)=0),())) else none)<|some (false,()))<|some (false,())
theorem af (a1:A):@Eq (Option O) (D.W k a1) (p a1):=Bye
theorem ok:Ok prog 171 D.sig:=ap func171 az Bye (fc ft.ok (ak _))
end iv
namespace f_
abbrev A:=Row×Unit
abbrev O:=Int×Unit
abbrev P:=Option O
noncomputable def D:FD:={ fn:=f179,tl:=bc,ps:=[(.ro,bd)],rs:=[(i64,(an i64))],gl:=[(98,iu.D.sig)],lv:=[(6,[1,26,27])],lx:=[(0,[])] }
def ae (a:A):P:=@lift O λk=>D.W k a
variable (a1:A)
def T0 (dO:Int):St:={ n:=43,sl:=[(1,.box bd (an bd) [] a1.1),(26,.val i64 (a1.1.2.2.2.1.length:Int)),(27,.val i64 dO)],vr:=[],aT:=[] }
def b0 (self:Int->P) (e0:(Unit)->P) (a1:A) (dO:Int):P:=cond (decide (dO < (a1.1.2.2.2.1.length:Int))) (if 0<=dO then ((a1.1.2.2.2.1[dO.toNat]?).bind λqJ=>cond (decide ((qJ.toNat:Int) < 97)) (some (5,()))<|if 0<=dO then ((a1.1.2.2.2.1[dO.toNat]?).bind λtk=>cond (decide (122 < (tk.toNat:Int))) (some (5,()))<|self (ag (dO+1))) else none) else none)<|e0 ()
def q0 (a1:A) (oC:(Unit)):P:=some (0,())
def r0:(Int)->P:=am (λw v=>b0 w (q0 a1) a1 v) k
theorem aw:@Eq ((Int)->P) (λdO=>D.L k [1,1,1,0,1,0,0] [1,26,27] [] (ai 0 (ay (D.N k [1,1,1,1]) D.K0)) (T0 a1 dO)) (r0 k a1):=
 funext λdO=>av _ _ _ (T0 a1) _ (λrec v=>Bye) k dO
def p (l0:(Int)->P) (a1:A):P:=(iu.ae (a1.1.1,0,3,())).bind λr2=>cond (!r2.1) (some (3,()))<|(iu.ae (a1.1.2.1,1,99,())).bind λr3=>cond (!r3.1) (some (3,()))<|(iu.ae (a1.1.2.2.1,0,999,())).bind λr4=>cond (!r4.1) (some (3,()))<|cond (decide (8 < (a1.1.2.2.2.1.length:Int))) (some (5,()))<|l0 0
theorem af:@Eq P (D.W k a1) (p (r0 k a1) a1):=By8 (aw k a1) Bye
theorem ok:Ok prog 179 D.sig:=ap func179 az Bye (fc iu.ok (ak _))
end f_
namespace kt
abbrev A:=Byt×Unit
abbrev O:=tF×Unit
abbrev P:=Option O
noncomputable def D:FD:={ fn:=f172,tl:=bc,ps:=[(.ro,(.aa u8))],rs:=[(sq,(an sq))],gl:=[(179,f_.D.sig)],od:=[(2,[0,1,2,3,4,5,6,7,8,9]),(5,[0,1,2,3,4,5,6,7,8,9,10,11,12,13,14,15,16,17,18,19,20,21,22,23]),(8,[0,1,2,3,4,5,6])] }
def ae (a:A):P:=@lift O λk=>D.W k a
def p (a1:A):P:=let j25:P:=let j37:P:=(a1.1[1]?).bind λx38=>(a1.1[2]?).bind λx39=>(a1.1[3]?).bind λx40=>(a1.1[4]?).bind λx41=>if 0<=(6:Int)/\6<=(a1.1.length:Int) then (let y42:=ag ((BitVec.ofInt 64 (ag ((ag (x40.toNat:Int))*2 ^ 8)) ||| BitVec.ofInt 64 (ag (x41.toNat:Int))).toNat:Int);(f_.ae ((ag (x38.toNat:Int),ag (x39.toNat:Int),y42,(a1.1.take a1.1.length).drop 6,()),())).bind λr43=>cond (!decide (r43.1=0)) (some ((5,0,0,0,(0,0,0,([]:Byt),()),()),()))<|(a1.1[0]?).bind λx44=>some ((0,ag (x44.toNat:Int),0,0,(ag (x38.toNat:Int),ag (x39.toNat:Int),y42,(a1.1.take a1.1.length).drop 6,()),()),())) else none;cond (decide ((a1.1.length:Int) < 6)) (some ((5,0,0,0,(0,0,0,([]:Byt),()),()),()))<|(a1.1[0]?).bind λx26=>cond (!decide ((x26.toNat:Int)=0)) ((a1.1[0]?).bind λx27=>cond (!decide ((x27.toNat:Int)=2)) (some ((5,0,0,0,(0,0,0,([]:Byt),()),()),()))<|(a1.1[5]?).bind λx28=>cond (!decide ((a1.1.length:Int)=ag (6+(ag (x28.toNat:Int))))) (some ((5,0,0,0,(0,0,0,([]:Byt),()),()),()))<|j37)<|(a1.1[5]?).bind λx29=>cond (!decide ((a1.1.length:Int)=ag (6+(ag (x29.toNat:Int))))) (some ((5,0,0,0,(0,0,0,([]:Byt),()),()),()))<|j37;cond (decide ((a1.1.length:Int)=3)) ((a1.1[0]?).bind λx2=>cond (decide ((x2.toNat:Int)=1)) ((a1.1[1]?).bind λx3=>cond (decide ((x3.toNat:Int) < 12)) ((a1.1[2]?).bind λx4=>cond (decide ((x4.toNat:Int) < 16)) ((a1.1[1]?).bind λx5=>(a1.1[2]?).bind λx6=>some ((0,1,ag (x5.toNat:Int),ag (x6.toNat:Int),(0,0,0,([]:Byt),()),()),()))<|j25)<|j25)<|j25)<|j25
theorem af (a1:A):@Eq P (D.W k a1) (p a1):=Bye
theorem ok:Ok prog 172 D.sig:=ap func172 az Bye (fc f_.ok (ak _))
end kt
namespace mz
abbrev A:=Byt×Int×Unit
abbrev O:=Byt×Unit
noncomputable def D:FD:={ fn:=f173,tl:=bc,ps:=[(.ro,(.aa u8)),(.ro,i64)],rs:=[((.aa u8),(an (.aa u8)))],gl:=[(253,lZ.D.sig)] }
def ae (a:A):Option O:=@lift O λk=>D.W k a
def p (a1:A):Option O:=(lZ.ae (a1.1,a1.2.1,())).bind λr2=>if 0<=r2.1/\r2.1<=ag (r2.1+r2.2.1)/\ag (r2.1+r2.2.1)<=(a1.1.length:Int) then (some ((a1.1.take (ag (r2.1+r2.2.1)).toNat).drop r2.1.toNat,())) else none
theorem af (a1:A):@Eq (Option O) (D.W k a1) (p a1):=Bye
theorem ok:Ok prog 173 D.sig:=ap func173 az Bye (fc lZ.ok (ak _))
end mz
namespace jk
abbrev A:=Row×Row×Unit
abbrev O:=Bool×Unit
noncomputable def D:FD:={ fn:=f132,tl:=bc,ps:=[(.ro,bd),(.ro,bd)],rs:=[(.bool,(an .bool))] }
def ae (a:A):Option O:=@lift O λk=>D.W k a
def p (a1:A):Option O:=cond (decide (a1.1.1 < a1.2.1.1)) (some (true,()))<|cond (decide (a1.1.1=a1.2.1.1)) (some (decide (a1.1.2.1 < a1.2.1.2.1),()))<|some (false,())
theorem af (a1:A):@Eq (Option O) (D.W k a1) (p a1):=Bye
theorem ok:Ok prog 132 D.sig:=ap func132 az Bye (ak _)
end jk
namespace jw
abbrev A:=Row×Row×Unit
abbrev O:=Int×Unit
noncomputable def D:FD:={ fn:=f186,tl:=bc,ps:=[(.ro,bd),(.ro,bd)],rs:=[(i64,(an i64))],gl:=[(132,jk.D.sig)] }
def ae (a:A):Option O:=@lift O λk=>D.W k a
def p (a1:A):Option O:=(jk.ae (a1.1,a1.2.1,())).bind λr2=>cond r2.1 (some ((-1),()))<|(jk.ae (a1.2.1,a1.1,())).bind λr3=>cond r3.1 (some (1,()))<|some (0,())
theorem af (a1:A):@Eq (Option O) (D.W k a1) (p a1):=Bye
theorem ok:Ok prog 186 D.sig:=ap func186 az Bye (fc jk.ok (ak _))
end jw
namespace pK
abbrev A:=Seen×Seen×Unit
abbrev O:=Int×Unit
noncomputable def D:FD:={ fn:=f255,tl:=bc,ps:=[(.ro,gz),(.ro,gz)],rs:=[(i64,(an i64))],gl:=[(186,jw.D.sig)] }
def ae (a:A):Option O:=@lift O λk=>D.W k a
def p (a1:A):Option O:=(jw.ae (a1.1.1,a1.2.1.1,())).bind λr2=>some (r2.1,())
theorem af (a1:A):@Eq (Option O) (D.W k a1) (p a1):=Bye
theorem ok:Ok prog 255 D.sig:=ap func255 az Bye (fc jw.ok (ak _))
end pK
namespace pV
open Go.Proofs
abbrev A:=(List Seen)×(Nat×Int)×Unit
abbrev O:=(List Seen)×Unit
def ae (a:A):Option O:=(BD gz pK.ae a.1).map λr=>(r,())
def sig:uQ:={ ps:=[(.lT (aj (.aa gz)),.aa gz),(.fix 255,.fn)],rs:=[],F:=ae }
def RI:Go.Shelf.Ren:=⟨λ| 6=>254 | 15=>303 | 14=>302 | 28=>334 | 29=>335 | 20=>326 | 21=>327 | 22=>328 | 23=>329 | 24=>330 | 25=>331 | 26=>332 | 27=>333 | 46=>348 | 47=>349 | 48=>350 | 49=>351 | 50=>352 | 57=>361 | n=>n,λ| 22=>160 | 24=>249 | 25=>323 | 3=>3 | 39=>317 | 0=>0 | 53=>405 | 55=>407 | 4=>4 | 46=>399 | 45=>398 | 50=>256 | 5=>5 | 9=>9 | 66=>423 | 70=>427 | 76=>434 | 77=>314 | n=>n,λ| n=>n⟩
theorem abC:Go.Proofs.SlLaysF0.n6 Tryz.prog RI:={
 mixed:=Bye
 f6:=⟨Tryz.f254.name,by decide,Tryz.func254.trans (cN some Bye)⟩
 f14:=⟨Tryz.f302.name,by decide,Tryz.func302.trans (cN some Bye)⟩
 f15:=Tryz.func303.trans (cN some Bye)
 f20:=⟨Tryz.f326.name,by decide,Tryz.func326.trans (cN some Bye)⟩
 f21:=⟨Tryz.f327.name,by decide,Tryz.func327.trans (cN some Bye)⟩
 f22:=⟨Tryz.f328.name,by decide,Tryz.func328.trans (cN some Bye)⟩
 f23:=⟨Tryz.f329.name,by decide,Tryz.func329.trans (cN some Bye)⟩
 f24:=⟨Tryz.f330.name,by decide,Tryz.func330.trans (cN some Bye)⟩
 f25:=⟨Tryz.f331.name,by decide,Tryz.func331.trans (cN some Bye)⟩
 f26:=⟨Tryz.f332.name,by decide,Tryz.func332.trans (cN some Bye)⟩
 f27:=⟨Tryz.f333.name,by decide,Tryz.func333.trans (cN some Bye)⟩
 f28:=Tryz.func334.trans (cN some Bye)
 f29:=Tryz.func335.trans (cN some Bye)
 f46:=⟨Tryz.f348.name,by decide,Tryz.func348.trans (cN some Bye)⟩
 f47:=Tryz.func349.trans (cN some Bye)
 f48:=Tryz.func350.trans (cN some Bye)
 f49:=⟨Tryz.f351.name,by decide,Tryz.func351.trans (cN some Bye)⟩
 f50:=⟨Tryz.f352.name,by decide,Tryz.func352.trans (cN some Bye)⟩
 f57:=⟨Tryz.f361.name,by decide,Tryz.func361.trans (cN some Bye)⟩
 t0:=Tryz.underlying0
 a0:=Tryz.isAgg0
 z0:=Tryz.sizeOf0
 v0:=Tryz.zeroValue0
 t3:=Tryz.underlying3
 a3:=Tryz.isAgg3
 z3:=Tryz.sizeOf3
 v3:=Tryz.zeroValue3
 t4:=Tryz.underlying4
 a4:=Tryz.isAgg4
 z4:=Tryz.sizeOf4
 v4:=Tryz.zeroValue4
 t5:=Tryz.underlying5
 a5:=Tryz.isAgg5
 z5:=Tryz.sizeOf5
 v5:=Tryz.zeroValue5
 t9:=Tryz.underlying9
 a9:=Tryz.isAgg9
 z9:=Tryz.sizeOf9
 v9:=Tryz.zeroValue9
 t22:=Tryz.underlying160
 a22:=Tryz.isAgg160
 z22:=Tryz.sizeOf160
 v22:=Tryz.zeroValue160
 t25:=Tryz.underlying323
 a25:=Tryz.isAgg323
 z25:=Tryz.sizeOf323
 v25:=Tryz.zeroValue323
 t39:=Tryz.underlying317
 a39:=Tryz.isAgg317
 z39:=Tryz.sizeOf317
 v39:=Tryz.zeroValue317
 t45:=Tryz.underlying398
 a45:=Tryz.isAgg398
 z45:=Tryz.sizeOf398
 v45:=Tryz.zeroValue398
 t46:=Tryz.underlying399
 a46:=Tryz.isAgg399
 z46:=Tryz.sizeOf399
 v46:=Tryz.zeroValue399
 t50:=Tryz.underlying256
 a50:=Tryz.isAgg256
 z50:=Tryz.sizeOf256
 v50:=Tryz.zeroValue256
 t53:=Tryz.underlying405
 a53:=Tryz.isAgg405
 z53:=Tryz.sizeOf405
 v53:=Tryz.zeroValue405
 t55:=Tryz.underlying407
 a55:=Tryz.isAgg407
 z55:=Tryz.sizeOf407
 v55:=Tryz.zeroValue407
 t66:=Tryz.underlying423
 a66:=Tryz.isAgg423
 z66:=Tryz.sizeOf423
 v66:=Tryz.zeroValue423
 t70:=Tryz.underlying427
 a70:=Tryz.isAgg427
 z70:=Tryz.sizeOf427
 v70:=Tryz.zeroValue427
 t76:=Tryz.underlying434
 a76:=Tryz.isAgg434
 z76:=Tryz.sizeOf434
 v76:=Tryz.zeroValue434
 t77:=Tryz.underlying314
 a77:=Tryz.isAgg314
 z77:=Tryz.sizeOf314
 v77:=Tryz.zeroValue314 }
theorem ok:Ok prog 254 sig:=abB (e:=gz) abC rfl rfl Bye (by decide) (g:=255) (cF:=pK.ae) pK.ok ⟨f254,func254,by kernel_rfl,by kernel_rfl,by kernel_rfl⟩
end pV
namespace bu
abbrev A:=(List Byt)×Unit
abbrev O:=(List Seen)×Int×Unit
abbrev P:=Option O
noncomputable def D:FD:={ fn:=f174,tl:=bc,ps:=[(.ro,(.aa (.aa u8)))],rs:=[((.aa gz),(aj (.aa gz))),(i64,(an i64))],gl:=[(132,jk.D.sig),(170,ft.D.sig),(171,iv.D.sig),(172,kt.D.sig),(173,mz.D.sig),(254,pV.sig)],lv:=[(4,[4,5,6,21,22,23]),(7,[4,5,6,7,8,21,22,23,29,30]),(21,[4,5,6,81,82,83]),(29,[4,5,6,15,101,102,103]),(40,[4,19])],lx:=[(0,[4,5,6]),(2,[4,5,6,21,22,23]),(3,[4,5,6,7,8,21,22,23,29,30]),(5,[4,5,6]),(7,[4]),(9,[4])],od:=[(42,[0,1,2,3,4,5,6,7,8,9,10,11,12])] }
def ae (a:A):P:=@lift O λk=>D.W k a
def T0 (a1:A) (U:(List Seen)×(List Seen)×(List ((List Int)×Row))×(List Byt)×Int×Int):St:={ n:=148,sl:=[(4,.own (.aa gz) (aj (.aa gz)) [] U.1),(5,.own (.aa gz) (aj (.aa gz)) [] U.2.1),(6,.own (.map (.arr 2 i64) bd) (aj (.map (.arr 2 i64) bd)) [] U.2.2.1),(21,.val (.aa (.aa u8)) U.2.2.2.1),(22,.val i64 U.2.2.2.2.1),(23,.val i64 U.2.2.2.2.2)],vr:=[],aT:=[] }
def S0 (rec:RT O) (a1:A):((List Seen)×(List Seen)×(List ((List Int)×Row))×(List Byt)×Int×Int)->P:=λU=>rec (T0 a1 U)
def c_ (K:KT O) (a1:A):((List Seen)×(List Seen)×(List ((List Int)×Row)))->P:=λz=>K (.exit 0) ({ n:=148,sl:=[(4,.own (.aa gz) (aj (.aa gz)) [] z.1),(5,.own (.aa gz) (aj (.aa gz)) [] z.2.1),(6,.own (.map (.arr 2 i64) bd) (aj (.map (.arr 2 i64) bd)) [] z.2.2)],vr:=[],aT:=[] })
def T1 (a1:A) (fq:Int) (eg:Byt) (ek:List Byt) (c8:Int) (e8:Int) (cy:(List Seen)×(List Seen)×(List ((List Int)×Row))×Int):St:={ n:=148,sl:=[(4,.own (.aa gz) (aj (.aa gz)) [] cy.1),(5,.own (.aa gz) (aj (.aa gz)) [] cy.2.1),(6,.own (.map (.arr 2 i64) bd) (aj (.map (.arr 2 i64) bd)) [] cy.2.2.1),(7,.val i64 fq),(8,.val (.aa u8) eg),(21,.val (.aa (.aa u8)) ek),(22,.val i64 c8),(23,.val i64 fq),(29,.val i64 e8),(30,.val i64 cy.2.2.2)],vr:=[],aT:=[] }
def b1 (self:((List Seen)×(List Seen)×(List ((List Int)×Row))×Int)->P) (e2:((List Seen)×(List Seen)×(List ((List Int)×Row)))->P) (a1:A) (fq:Int) (eg:Byt) (ek:List Byt) (c8:Int) (e8:Int) (cy:(List Seen)×(List Seen)×(List ((List Int)×Row))×Int):P:=cond (decide (cy.2.2.2 < e8)) ((iv.ae (eg,cy.2.2.2,())).bind λKV=>cond (!KV.1) (self (cy.1,cy.2.1,cy.2.2.1,ag (cy.2.2.2+1)))<|(mz.ae (eg,cy.2.2.2,())).bind λN9=>(kt.ae (N9.1,())).bind λoJ=>cond (!decide (oJ.1.1=0)) (some (([]:List Seen),5,()))<|cond (decide (oJ.1.2.1=0)) (if cy.1.length+[(oJ.1.2.2.2.2.1,fq,cy.2.2.2,false,fq,cy.2.2.2,())].length<=b9 then (let adQ:=cy.1++[(oJ.1.2.2.2.2.1,fq,cy.2.2.2,false,fq,cy.2.2.2,())];self (adQ,cy.2.1,cy.2.2.1,ag (cy.2.2.2+1))) else none)<|cond (decide (oJ.1.2.1=2)) (if 0 < (List.replicate 2 0).length then (if 1 < ((List.replicate 2 0).set 0 fq).length then (let adR:=pL (.arr 2 i64) cy.2.2.1 (((List.replicate 2 0).set 0 fq).set 1 cy.2.2.2) oJ.1.2.2.2.2.1;self (cy.1,cy.2.1,adR,ag (cy.2.2.2+1))) else none) else none)<|if cy.2.1.length+[(((0:Int),(0:Int),(0:Int),([]:Byt),()),fq,cy.2.2.2,true,oJ.1.2.2.1,oJ.1.2.2.2.1,())].length<=b9 then (let adS:=cy.2.1++[(((0:Int),(0:Int),(0:Int),([]:Byt),()),fq,cy.2.2.2,true,oJ.1.2.2.1,oJ.1.2.2.2.1,())];self (cy.1,adS,cy.2.2.1,ag (cy.2.2.2+1))) else none)<|e2 (cy.1,cy.2.1,cy.2.2.1)
abbrev B1 (_:Nat):=b1
def q0 (self:((List Seen)×(List Seen)×(List ((List Int)×Row))×(List Byt)×Int×Int)->P) (e0:((List Seen)×(List Seen)×(List ((List Int)×Row)))->P) (a1:A) (fq:Int) (eg:Byt) (ek:List Byt) (c8:Int) (e8:Int) (DC:((List Seen)×(List Seen)×(List ((List Int)×Row)))):P:=self (DC.1,DC.2.1,DC.2.2,ek,c8,ag (fq+1))
abbrev Q0 (_:Nat):=q0
def s1 (rec:RT O) (K:KT O) (a1:A):Int->Byt->(List Byt)->Int->Int->((List Seen)×(List Seen)×(List ((List Int)×Row))×Int)->P:=λfq eg ek c8 e8=>λcy=>D.L k [1,1,1,0,1,0,0,1,1,0,0,1,1,0,0] [4,5,6,7,8,21,22,23,29,30] [] (ai 2 (ai 1 (ay (D.N k [1,1,1,0,1,0,0,1,1,1]) (iX rec (ge [4,5,6,21,22,23] []) K)))) (T1 a1 fq eg ek c8 e8 cy)
def r1 (self:((List Seen)×(List Seen)×(List ((List Int)×Row))×(List Byt)×Int×Int)->P) (e0:((List Seen)×(List Seen)×(List ((List Int)×Row)))->P) (a1:A):Int->Byt->(List Byt)->Int->Int->((List Seen)×(List Seen)×(List ((List Int)×Row))×Int)->P:=λfq eg ek c8 e8=>am (λw v=>B1 k w (Q0 k self e0 a1 fq eg ek c8 e8) a1 fq eg ek c8 e8 v) k
theorem li (rec:RT O) (K:KT O) (a1:A):s1 k rec K a1=r1 k (S0 rec a1) (c_ K a1) a1:=
 funext λfq=>funext λeg=>funext λek=>funext λc8=>funext λe8=>funext λcy=>av _ _ _ (T1 a1 fq eg ek c8 e8) _ (λrec v=>Bye) k cy
def b0 (self:((List Seen)×(List Seen)×(List ((List Int)×Row))×(List Byt)×Int×Int)->P) (e0:((List Seen)×(List Seen)×(List ((List Int)×Row)))->P) (l1:Int->Byt->(List Byt)->Int->Int->((List Seen)×(List Seen)×(List ((List Int)×Row))×Int)->P) (a1:A) (U:(List Seen)×(List Seen)×(List ((List Int)×Row))×(List Byt)×Int×Int):P:=cond (decide (U.2.2.2.2.2 < U.2.2.2.2.1)) (if 0<=U.2.2.2.2.2 then ((U.2.2.2.1[U.2.2.2.2.2.toNat]?).bind λa8=>(ft.ae (a8,())).bind λcx=>l1 U.2.2.2.2.2 a8 U.2.2.2.1 U.2.2.2.2.1 cx.1 (U.1,U.2.1,U.2.2.1,0)) else none)<|e0 (U.1,U.2.1,U.2.2.1)
def B0 (self:((List Seen)×(List Seen)×(List ((List Int)×Row))×(List Byt)×Int×Int)->P) (e0:((List Seen)×(List Seen)×(List ((List Int)×Row)))->P) (a1:A) (U:(List Seen)×(List Seen)×(List ((List Int)×Row))×(List Byt)×Int×Int):P:=b0 self e0 (r1 k self e0 a1) a1 U
theorem lh (rec:RT O) (K:KT O) (a1:A) (U:(List Seen)×(List Seen)×(List ((List Int)×Row))×(List Byt)×Int×Int):D.N k [1,1,1,0,1,0,0] (T0 a1 U) (iX rec (ge [4,5,6,21,22,23] []) K)=B0 k (S0 rec a1) (c_ K a1) a1 U:=
 aL (b:=b0 (S0 rec a1) (c_ K a1) (s1 k rec K a1) a1 U) Bye (by rw[li];rfl)
def T2 (a1:A) (jU:List Seen) (jC:List Seen) (jE:List ((List Int)×Row)) (ku:Int) (uu:Int):St:={ n:=148,sl:=[(4,.own (.aa gz) (aj (.aa gz)) [] jU),(5,.own (.aa gz) (aj (.aa gz)) [] jC),(6,.own (.map (.arr 2 i64) bd) (aj (.map (.arr 2 i64) bd)) [] jE),(81,.ref 5 [] [0,0]),(82,.val i64 ku),(83,.val i64 uu)],vr:=[],aT:=[] }
def S2 (rec:RT O) (a1:A) (jU:List Seen) (jC:List Seen) (jE:List ((List Int)×Row)) (ku:Int):(Int)->P:=λuu=>rec (T2 a1 jU jC jE ku uu)
def U7 (K:KT O) (a1:A) (jU:List Seen) (jC:List Seen) (jE:List ((List Int)×Row)) (ku:Int):(Unit)->P:=λz=>K (.exit 5) ({ n:=148,sl:=[(4,.own (.aa gz) (aj (.aa gz)) [] jU),(5,.own (.aa gz) (aj (.aa gz)) [] jC),(6,.own (.map (.arr 2 i64) bd) (aj (.map (.arr 2 i64) bd)) [] jE)],vr:=[],aT:=[] })
def b2 (self:Int->P) (e5:(Unit)->P) (a1:A) (jU:List Seen) (jC:List Seen) (jE:List ((List Int)×Row)) (ku:Int) (uu:Int):P:=cond (decide (uu < ku)) (if 0<=uu/\uu < (jC.length:Int) then ((jC[uu.toNat]?).bind λKW=>if 0 < (List.replicate 2 0).length then (if 1 < ((List.replicate 2 0).set 0 KW.2.2.2.2.1).length then (let afB:=Di (jZ (.arr 2 i64) jE (((List.replicate 2 0).set 0 KW.2.2.2.2.1).set 1 KW.2.2.2.2.2.1)) (0,0,0,([]:Byt),());cond (!(jZ (.arr 2 i64) jE (((List.replicate 2 0).set 0 KW.2.2.2.2.1).set 1 KW.2.2.2.2.2.1)).isSome) (some (([]:List Seen),4,()))<|self (ag (uu+1))) else none) else none) else none)<|e5 ()
abbrev B2 (_:Nat):=b2
theorem U1 (rec:RT O) (K:KT O) (a1:A) (jU:List Seen) (jC:List Seen) (jE:List ((List Int)×Row)) (ku:Int) (uu:Int):D.N k [1,1,1,1,0,1,0,0] (T2 a1 jU jC jE ku uu) (iX rec (ge [4,5,6,81,82,83] []) K)=b2 (S2 rec a1 jU jC jE ku) (U7 K a1 jU jC jE ku) a1 jU jC jE ku uu:=Bye
def T3 (a1:A) (jV:List Seen) (kw:List ((List Int)×Row)) (kx:Int) (pW:(List Seen)×(List ((List Int)×Bool))×Int):St:={ n:=148,sl:=[(4,.own (.aa gz) (aj (.aa gz)) [] pW.1),(5,.own (.aa gz) (aj (.aa gz)) [] jV),(6,.own (.map (.arr 2 i64) bd) (aj (.map (.arr 2 i64) bd)) [] kw),(15,.own (.map (.arr 2 i64) .bool) (aj (.map (.arr 2 i64) .bool)) [] pW.2.1),(101,.ref 5 [] [0,0]),(102,.val i64 kx),(103,.val i64 pW.2.2)],vr:=[],aT:=[] }
def S3 (rec:RT O) (a1:A) (jV:List Seen) (kw:List ((List Int)×Row)) (kx:Int):((List Seen)×(List ((List Int)×Bool))×Int)->P:=λpW=>rec (T3 a1 jV kw kx pW)
def U8 (K:KT O) (a1:A) (jV:List Seen) (kw:List ((List Int)×Row)) (kx:Int):(List Seen)->P:=λz=>K (.exit 7) ({ n:=148,sl:=[(4,.own (.aa gz) (aj (.aa gz)) [] z)],vr:=[],aT:=[] })
def b3 (self:((List Seen)×(List ((List Int)×Bool))×Int)->P) (e7:(List Seen)->P) (a1:A) (jV:List Seen) (kw:List ((List Int)×Row)) (kx:Int) (pW:(List Seen)×(List ((List Int)×Bool))×Int):P:=cond (decide (pW.2.2 < kx)) (if 0<=pW.2.2/\pW.2.2 < (jV.length:Int) then ((jV[pW.2.2.toNat]?).bind λKX=>if 0 < (List.replicate 2 0).length then (if 1 < ((List.replicate 2 0).set 0 KX.2.2.2.2.1).length then (let U9:=((List.replicate 2 0).set 0 KX.2.2.2.2.1).set 1 KX.2.2.2.2.2.1;cond (Di (jZ (.arr 2 i64) pW.2.1 U9) false) (some (([]:List Seen),6,()))<|let aaP:=Di (jZ (.arr 2 i64) kw U9) (0,0,0,([]:Byt),());if pW.1.length+[(aaP,KX.2)].length<=b9 then (self (pW.1++[(aaP,KX.2)],pL (.arr 2 i64) pW.2.1 U9 true,ag (pW.2.2+1))) else none) else none) else none) else none)<|e7 pW.1
abbrev B3 (_:Nat):=b3
theorem adT (rec:RT O) (K:KT O) (a1:A) (jV:List Seen) (kw:List ((List Int)×Row)) (kx:Int) (pW:(List Seen)×(List ((List Int)×Bool))×Int):D.N k [1,1,1,1,1,1,0,1,0,0] (T3 a1 jV kw kx pW) (iX rec (ge [4,5,6,15,101,102,103] []) K)=b3 (S3 rec a1 jV kw kx) (U8 K a1 jV kw kx) a1 jV kw kx pW:=Bye
def T4 (a1:A) (uw:List Seen) (wj:Int):St:={ n:=148,sl:=[(4,.own (.aa gz) (aj (.aa gz)) [] uw),(19,.val i64 wj)],vr:=[],aT:=[] }
def b4 (self:Int->P) (e9:(Unit)->P) (a1:A) (uw:List Seen) (wj:Int):P:=cond (decide (wj < (uw.length:Int))) (if 0<=ag (wj - 1)/\ag (wj - 1) < (uw.length:Int) then ((uw[(ag (wj - (1:Int))).toNat]?).bind λadU=>if 0<=wj/\wj < (uw.length:Int) then ((uw[wj.toNat]?).bind λadV=>(jk.ae (adU.1,adV.1,())).bind λadW=>cond (!adW.1) (some (([]:List Seen),8,()))<|self (ag (wj+1))) else none) else none)<|e9 ()
abbrev B4 (_:Nat):=b4
def q4 (a1:A) (uw:List Seen) (afC:(Unit)):P:=some (uw,0,())
abbrev Q4 (_:Nat):=q4
def s4 (a1:A) (jV:List Seen) (kw:List ((List Int)×Row)) (kx:Int):(List Seen)->(Int)->P:=λuw=>λwj=>D.L k [1,1,1,1,1,1,1,1,0,1,0,0] [4,19] [] (ai 9 (ay (D.N k [1,1,1,1,1,1,1,1,1]) D.K0)) (T4 a1 uw wj)
def r4 (a1:A) (jV:List Seen) (kw:List ((List Int)×Row)) (kx:Int):(List Seen)->(Int)->P:=λuw=>am (λw v=>B4 k w (Q4 k a1 uw) a1 uw v) k
theorem adX (a1:A) (jV:List Seen) (kw:List ((List Int)×Row)) (kx:Int):s4 k a1 jV kw kx=r4 k a1 jV kw kx:=
 funext λuw=>funext λwj=>av _ _ _ (T4 a1 uw) _ (λrec v=>Bye) k wj
def q3 (l4:(List Seen)->(Int)->P) (a1:A) (jV:List Seen) (kw:List ((List Int)×Row)) (kx:Int) (Fu:(List Seen)):P:=(pV.ae (Fu,((255,0):Nat×Int),())).bind λadY=>l4 adY.1 1
def Q3 (a1:A) (jV:List Seen) (kw:List ((List Int)×Row)) (kx:Int) (Fu:(List Seen)):P:=q3 (r4 k a1 jV kw kx) a1 jV kw kx Fu
theorem U2 (a1:A) (jV:List Seen) (kw:List ((List Int)×Row)) (kx:Int) (Fu:(List Seen)):U8 (ai 7 (ay (D.N k [1,1,1,1,1,1,1]) D.K0)) a1 jV kw kx Fu=Q3 k a1 jV kw kx Fu:=
 aL (b:=q3 (s4 k a1 jV kw kx) a1 jV kw kx Fu) Bye (by rw[adX];rfl)
def s3 (a1:A) (jU:List Seen) (jC:List Seen) (jE:List ((List Int)×Row)) (ku:Int):(List Seen)->(List ((List Int)×Row))->Int->((List Seen)×(List ((List Int)×Bool))×Int)->P:=λjV kw kx=>λpW=>D.L k [1,1,1,1,1,1,0,1,0,0] [4,5,6,15,101,102,103] [] (ai 7 (ay (D.N k [1,1,1,1,1,1,1]) D.K0)) (T3 a1 jV kw kx pW)
def r3 (a1:A) (jU:List Seen) (jC:List Seen) (jE:List ((List Int)×Row)) (ku:Int):(List Seen)->(List ((List Int)×Row))->Int->((List Seen)×(List ((List Int)×Bool))×Int)->P:=λjV kw kx=>am (λw v=>B3 k w (Q3 k a1 jV kw kx) a1 jV kw kx v) k
theorem U0 (a1:A) (jU:List Seen) (jC:List Seen) (jE:List ((List Int)×Row)) (ku:Int):s3 k a1 jU jC jE ku=r3 k a1 jU jC jE ku:=by
 funext jV;funext kw;funext kx;funext pW;have h7:U8 (ai 7 (ay (D.N k [1,1,1,1,1,1,1]) D.K0)) a1 jV kw kx=Q3 k a1 jV kw kx:=funext λz=>U2 k a1 jV kw kx z;refine (av _ _ _ (T3 a1 jV kw kx) (λself v=>B3 k self (U8 (ai 7 (ay (D.N k [1,1,1,1,1,1,1]) D.K0)) a1 jV kw kx) a1 jV kw kx v) (λrec v=>adT k rec (ai 7 (ay (D.N k [1,1,1,1,1,1,1]) D.K0)) a1 jV kw kx v) k pW).trans ?_;rw[h7];rfl
def q2 (l3:(List Seen)->(List ((List Int)×Row))->Int->((List Seen)×(List ((List Int)×Bool))×Int)->P) (a1:A) (jU:List Seen) (jC:List Seen) (jE:List ((List Int)×Row)) (ku:Int) (Ii:(Unit)):P:=l3 jC jE (jC.length:Int) (jU,([]:List ((List Int)×Bool)),0)
def Q2 (a1:A) (jU:List Seen) (jC:List Seen) (jE:List ((List Int)×Row)) (ku:Int) (Ii:(Unit)):P:=q2 (r3 k a1 jU jC jE ku) a1 jU jC jE ku Ii
theorem w7 (a1:A) (jU:List Seen) (jC:List Seen) (jE:List ((List Int)×Row)) (ku:Int) (Ii:(Unit)):U7 (ai 5 (ay (D.N k [1,1,1,1,1]) D.K0)) a1 jU jC jE ku Ii=Q2 k a1 jU jC jE ku Ii:=
 aL (b:=q2 (s3 k a1 jU jC jE ku) a1 jU jC jE ku Ii) Bye (by rw[U0];rfl)
def s2 (a1:A):(List Seen)->(List Seen)->(List ((List Int)×Row))->Int->(Int)->P:=λjU jC jE ku=>λuu=>D.L k [1,1,1,1,0,1,0,0] [4,5,6,81,82,83] [] (ai 5 (ay (D.N k [1,1,1,1,1]) D.K0)) (T2 a1 jU jC jE ku uu)
def r2 (a1:A):(List Seen)->(List Seen)->(List ((List Int)×Row))->Int->(Int)->P:=λjU jC jE ku=>am (λw v=>B2 k w (Q2 k a1 jU jC jE ku) a1 jU jC jE ku v) k
theorem tI (a1:A):s2 k a1=r2 k a1:=by
 funext jU;funext jC;funext jE;funext ku;funext uu;have h5:U7 (ai 5 (ay (D.N k [1,1,1,1,1]) D.K0)) a1 jU jC jE ku=Q2 k a1 jU jC jE ku:=funext λz=>w7 k a1 jU jC jE ku z;refine (av _ _ _ (T2 a1 jU jC jE ku) (λself v=>B2 k self (U7 (ai 5 (ay (D.N k [1,1,1,1,1]) D.K0)) a1 jU jC jE ku) a1 jU jC jE ku v) (λrec v=>U1 k rec (ai 5 (ay (D.N k [1,1,1,1,1]) D.K0)) a1 jU jC jE ku v) k uu).trans ?_;rw[h5];rfl
def q1 (l2:(List Seen)->(List Seen)->(List ((List Int)×Row))->Int->(Int)->P) (a1:A) (As:((List Seen)×(List Seen)×(List ((List Int)×Row)))):P:=l2 As.1 As.2.1 As.2.2 (As.2.1.length:Int) 0
def Q1 (a1:A) (As:((List Seen)×(List Seen)×(List ((List Int)×Row)))):P:=q1 (r2 k a1) a1 As
theorem sb (a1:A) (As:((List Seen)×(List Seen)×(List ((List Int)×Row)))):c_ (ai 0 (ay (D.N k [1,1,1,1]) D.K0)) a1 As=Q1 k a1 As:=
 aL (b:=q1 (s2 k a1) a1 As) Bye (by rw[tI];rfl)
def s0 (a1:A):((List Seen)×(List Seen)×(List ((List Int)×Row))×(List Byt)×Int×Int)->P:=λU=>D.L k [1,1,1,0,1,0,0] [4,5,6,21,22,23] [] (ai 0 (ay (D.N k [1,1,1,1]) D.K0)) (T0 a1 U)
def r0 (a1:A):((List Seen)×(List Seen)×(List ((List Int)×Row))×(List Byt)×Int×Int)->P:=am (λw v=>B0 k w (Q1 k a1) a1 v) k
theorem aw (a1:A):s0 k a1=r0 k a1:=by
 funext U;have h0:c_ (ai 0 (ay (D.N k [1,1,1,1]) D.K0)) a1=Q1 k a1:=funext λz=>sb k a1 z;refine (av _ _ _ (T0 a1) (λself v=>B0 k self (c_ (ai 0 (ay (D.N k [1,1,1,1]) D.K0)) a1) a1 v) (λrec v=>lh k rec (ai 0 (ay (D.N k [1,1,1,1]) D.K0)) a1 v) k U).trans ?_;rw[h0];rfl
def p (l0:((List Seen)×(List Seen)×(List ((List Int)×Row))×(List Byt)×Int×Int)->P) (a1:A):P:=l0 (([]:List Seen),([]:List Seen),([]:List ((List Int)×Row)),a1.1,(a1.1.length:Int),0)
theorem af (a1:A):@Eq P (D.W k a1) (p (r0 k a1) a1):=
 aL (b:=p (s0 k a1) a1) Bye (by rw[aw])
theorem ok:Ok prog 174 D.sig:=ap func174 az Bye (fc jk.ok (fc ft.ok (fc iv.ok (fc kt.ok (fc mz.ok (fc pV.ok (ak _)))))))
end bu
namespace fi
abbrev A:=(List Byt)×Unit
abbrev O:=(List Seen)×Int×Unit
abbrev P:=Option O
noncomputable def D:FD:={ fn:=f99,tl:=bc,ps:=[(.ro,(.aa (.aa u8)))],rs:=[((.aa gz),(aj (.aa gz))),(i64,(an i64))],gl:=[(169,bm.D.sig),(170,ft.D.sig),(171,iv.D.sig),(172,kt.D.sig),(173,mz.D.sig),(174,bu.D.sig)],lv:=[(4,[0,11,12,13]),(10,[0,5,11,12,13,23,24])],lx:=[(0,[0]),(2,[0,11,12,13])] }
def ae (a:A):P:=@lift O λk=>D.W k a
def T0 (a1:A) (U:(List Byt)×(List Byt)×Int×Int):St:={ n:=44,sl:=[(0,.val (.aa (.aa u8)) U.1),(11,.val (.aa (.aa u8)) U.2.1),(12,.val i64 U.2.2.1),(13,.val i64 U.2.2.2)],vr:=[],aT:=[] }
def S0 (rec:RT O) (a1:A):((List Byt)×(List Byt)×Int×Int)->P:=λU=>rec (T0 a1 U)
def c_ (K:KT O) (a1:A):(List Byt)->P:=λz=>K (.exit 0) ({ n:=44,sl:=[(0,.val (.aa (.aa u8)) z)],vr:=[],aT:=[] })
def T1 (a1:A) (eg:List Byt) (ek:Byt) (c8:List Byt) (e8:Int) (ll:Int) (pX:Int) (f5:Int):St:={ n:=44,sl:=[(0,.val (.aa (.aa u8)) eg),(5,.val (.aa u8) ek),(11,.val (.aa (.aa u8)) c8),(12,.val i64 e8),(13,.val i64 ll),(23,.val i64 pX),(24,.val i64 f5)],vr:=[],aT:=[] }
def b1 (self:Int->P) (e2:(Unit)->P) (a1:A) (eg:List Byt) (ek:Byt) (c8:List Byt) (e8:Int) (ll:Int) (pX:Int) (f5:Int):P:=cond (decide (f5 < pX)) ((iv.ae (ek,f5,())).bind λoJ=>cond oJ.1 ((mz.ae (ek,f5,())).bind λDA=>(kt.ae (DA.1,())).bind λadZ=>cond (!decide (adZ.1.1=0)) (some (([]:List Seen),5,()))<|self (ag (f5+1)))<|self (ag (f5+1)))<|e2 ()
def q0 (self:((List Byt)×(List Byt)×Int×Int)->P) (e0:(List Byt)->P) (a1:A) (eg:List Byt) (ek:Byt) (c8:List Byt) (e8:Int) (ll:Int) (pX:Int) (N8:(Unit)):P:=self (eg,c8,e8,ag (ll+1))
def s1 (rec:RT O) (K:KT O) (a1:A):(List Byt)->Byt->(List Byt)->Int->Int->Int->(Int)->P:=λeg ek c8 e8 ll pX=>λf5=>D.L k [1,1,0,1,0,0,1,1,0,0,1,1,1,0,0] [0,5,11,12,13,23,24] [] (ai 2 (ai 1 (ay (D.N k [1,1,0,1,0,0,1,1,1]) (iX rec (ge [0,11,12,13] []) K)))) (T1 a1 eg ek c8 e8 ll pX f5)
def r1 (self:((List Byt)×(List Byt)×Int×Int)->P) (e0:(List Byt)->P) (a1:A):(List Byt)->Byt->(List Byt)->Int->Int->Int->(Int)->P:=λeg ek c8 e8 ll pX=>am (λw v=>b1 w (q0 self e0 a1 eg ek c8 e8 ll pX) a1 eg ek c8 e8 ll pX v) k
theorem li (rec:RT O) (K:KT O) (a1:A):s1 k rec K a1=r1 k (S0 rec a1) (c_ K a1) a1:=
 funext λeg=>funext λek=>funext λc8=>funext λe8=>funext λll=>funext λpX=>funext λf5=>av _ _ _ (T1 a1 eg ek c8 e8 ll pX) _ (λrec v=>Bye) k f5
def b0 (self:((List Byt)×(List Byt)×Int×Int)->P) (e0:(List Byt)->P) (l1:(List Byt)->Byt->(List Byt)->Int->Int->Int->(Int)->P) (a1:A) (U:(List Byt)×(List Byt)×Int×Int):P:=cond (decide (U.2.2.2 < U.2.2.1)) (if 0<=U.2.2.2 then ((U.2.1[U.2.2.2.toNat]?).bind λa8=>(bm.ae (a8,())).bind λcx=>cond (!decide (cx.1=0)) (some (([]:List Seen),cx.1,()))<|(ft.ae (a8,())).bind λky=>l1 U.1 a8 U.2.1 U.2.2.1 U.2.2.2 ky.1 0) else none)<|e0 U.1
def B0 (self:((List Byt)×(List Byt)×Int×Int)->P) (e0:(List Byt)->P) (a1:A) (U:(List Byt)×(List Byt)×Int×Int):P:=b0 self e0 (r1 k self e0 a1) a1 U
theorem lh (rec:RT O) (K:KT O) (a1:A) (U:(List Byt)×(List Byt)×Int×Int):D.N k [1,1,0,1,0,0] (T0 a1 U) (iX rec (ge [0,11,12,13] []) K)=B0 k (S0 rec a1) (c_ K a1) a1 U:=
 aL (b:=b0 (S0 rec a1) (c_ K a1) (s1 k rec K a1) a1 U) Bye (by rw[li];rfl)
def q1 (a1:A) (DC:(List Byt)):P:=(bu.ae (DC,())).bind λaaQ=>some (aaQ.1,aaQ.2.1,())
theorem sb (a1:A) (DC:(List Byt)):c_ (ai 0 (ay (D.N k [1,1,1]) D.K0)) a1 DC=q1 a1 DC:=Bye
def s0 (a1:A):((List Byt)×(List Byt)×Int×Int)->P:=λU=>D.L k [1,1,0,1,0,0] [0,11,12,13] [] (ai 0 (ay (D.N k [1,1,1]) D.K0)) (T0 a1 U)
def r0 (a1:A):((List Byt)×(List Byt)×Int×Int)->P:=am (λw v=>B0 k w (q1 a1) a1 v) k
theorem aw (a1:A):s0 k a1=r0 k a1:=by
 funext U;have h0:c_ (ai 0 (ay (D.N k [1,1,1]) D.K0)) a1=q1 a1:=funext λz=>sb k a1 z;refine (av _ _ _ (T0 a1) (λself v=>B0 k self (c_ (ai 0 (ay (D.N k [1,1,1]) D.K0)) a1) a1 v) (λrec v=>lh k rec (ai 0 (ay (D.N k [1,1,1]) D.K0)) a1 v) k U).trans ?_;rw[h0];rfl
def p (l0:((List Byt)×(List Byt)×Int×Int)->P) (a1:A):P:=cond (decide (12 < (a1.1.length:Int))) (some (([]:List Seen),2,()))<|l0 (a1.1,a1.1,(a1.1.length:Int),0)
theorem af (a1:A):@Eq P (D.W k a1) (p (r0 k a1) a1):=
 aL (b:=p (s0 k a1) a1) Bye (by rw[aw])
theorem ok:Ok prog 99 D.sig:=ap func99 az Bye (fc bm.ok (fc ft.ok (fc iv.ok (fc kt.ok (fc mz.ok (fc bu.ok (ak _)))))))
end fi
namespace iw
abbrev A:=(List Row)×Unit
abbrev O:=Int×Unit
abbrev P:=Option O
noncomputable def D:FD:={ fn:=f103,tl:=bc,ps:=[(.ro,(.aa bd))],rs:=[(i64,(an i64))],gl:=[(132,jk.D.sig),(179,f_.D.sig)],lv:=[(4,[0,9,10,11])],lx:=[(0,[])],od:=[(9,[0,1,2,3,4,5,6,7,8,9,10,11])] }
def ae (a:A):P:=@lift O λk=>D.W k a
variable (a1:A)
def T0 (U:Int):St:={ n:=34,sl:=[(0,.val (.aa bd) a1.1),(9,.val (.aa bd) a1.1),(10,.val i64 (a1.1.length:Int)),(11,.val i64 U)],vr:=[],aT:=[] }
def b0 (self:Int->P) (e0:(Unit)->P) (a1:A) (U:Int):P:=cond (decide (U < (a1.1.length:Int))) (if 0<=U then ((a1.1[U.toNat]?).bind λa8=>(f_.ae (a8,())).bind λcx=>cond (!decide (cx.1=0)) (some (cx.1,()))<|cond (decide (0 < U)) (if 0<=ag (U - 1) then ((a1.1[(ag (U - (1:Int))).toNat]?).bind λd6=>(jk.ae (d6,a8,())).bind λiQ=>cond (!iQ.1) (some (1,()))<|self (ag (U+1))) else none)<|self (ag (U+1))) else none)<|e0 ()
def q0 (a1:A) (lI:(Unit)):P:=some (0,())
def r0:(Int)->P:=am (λw v=>b0 w (q0 a1) a1 v) k
theorem aw:@Eq ((Int)->P) (λU=>D.L k [1,1,0,1,0,0] [0,9,10,11] [] (ai 0 (ay (D.N k [1,1,1]) D.K0)) (T0 a1 U)) (r0 k a1):=
 funext λU=>av _ _ _ (T0 a1) _ (λrec v=>Bye) k U
def p (l0:(Int)->P) (a1:A):P:=cond (decide (60 < (a1.1.length:Int))) (some (2,()))<|l0 0
theorem af:@Eq P (D.W k a1) (p (r0 k a1) a1):=By8 (aw k a1) Bye
theorem ok:Ok prog 103 D.sig:=ap func103 az Bye (fc jk.ok (fc f_.ok (ak _)))
end iw
namespace jd
abbrev A:=Change×Unit
abbrev O:=Int×Unit
noncomputable def D:FD:={ fn:=f208,tl:=bc,ps:=[(.ro,aq)],rs:=[(i64,(an i64))],gl:=[(179,f_.D.sig),(186,jw.D.sig)] }
def ae (a:A):Option O:=@lift O λk=>D.W k a
def p (a1:A):Option O:=let j7:Option O:=cond a1.1.1 ((f_.ae (a1.1.2.1,())).bind λr8=>cond (!decide (r8.1=0)) (some (r8.1,()))<|cond a1.1.2.2.1 ((f_.ae (a1.1.2.2.2.1,())).bind λwE=>some (wE.1,()))<|some (0,()))<|cond a1.1.2.2.1 ((f_.ae (a1.1.2.2.2.1,())).bind λtc=>some (tc.1,()))<|some (0,());cond (!a1.1.1) (cond (!a1.1.2.2.1) (some (1,()))<|cond a1.1.1 (cond a1.1.2.2.1 ((jw.ae (a1.1.2.1,a1.1.2.2.2.1,())).bind λr2=>cond (!decide (r2.1=0)) (some (1,()))<|j7)<|j7)<|j7)<|cond a1.1.1 (cond a1.1.2.2.1 ((jw.ae (a1.1.2.1,a1.1.2.2.2.1,())).bind λr3=>cond (!decide (r3.1=0)) (some (1,()))<|j7)<|j7)<|j7
theorem af (a1:A):@Eq (Option O) (D.W k a1) (p a1):=Bye
theorem ok:Ok prog 208 D.sig:=ap func208 az Bye (fc f_.ok (fc jw.ok (ak _)))
end jd
namespace jr
abbrev A:=Change×Unit
abbrev O:=Int×Unit
noncomputable def D:FD:={ fn:=f131,tl:=bc,ps:=[(.ro,aq)],rs:=[(i64,(an i64))],gl:=[(208,jd.D.sig)] }
def ae (a:A):Option O:=@lift O λk=>D.W k a
def p (a1:A):Option O:=(jd.ae (a1.1,())).bind λr2=>cond (!decide (r2.1=0)) (some (r2.1,()))<|cond a1.1.1 (cond a1.1.2.2.1 (cond (Ty.eq bd a1.1.2.1 a1.1.2.2.2.1) (some (1,()))<|some (0,()))<|some (0,()))<|some (0,())
theorem af (a1:A):@Eq (Option O) (D.W k a1) (p a1):=Bye
theorem ok:Ok prog 131 D.sig:=ap func131 az Bye (fc jd.ok (ak _))
end jr
namespace cz
abbrev A:=Change×Unit
abbrev O:=Row×Unit
noncomputable def D:FD:={ fn:=f133,tl:=bc,ps:=[(.ro,aq)],rs:=[(bd,(an bd))] }
def ae (a:A):Option O:=@lift O λk=>D.W k a
def p (a1:A):Option O:=cond a1.1.2.2.1 (some (a1.1.2.2.2.1,()))<|some (a1.1.2.1,())
theorem af (a1:A):@Eq (Option O) (D.W k a1) (p a1):=Bye
theorem ok:Ok prog 133 D.sig:=ap func133 az Bye (ak _)
end cz
namespace pe
abbrev A:=Change×Unit
abbrev O:=Key×Unit
noncomputable def D:FD:={ fn:=f196,tl:=bc,ps:=[(.ro,aq)],rs:=[(bp,(an bp))],gl:=[(133,cz.D.sig)],od:=[(1,[0,3,1,2,4,5,6,7])] }
def ae (a:A):Option O:=@lift O λk=>D.W k a
def p (a1:A):Option O:=(cz.ae (a1.1,())).bind λr2=>(cz.ae (a1.1,())).bind λr3=>some ((r2.1.1,r3.1.2.1,()),())
theorem af (a1:A):@Eq (Option O) (D.W k a1) (p a1):=Bye
theorem ok:Ok prog 196 D.sig:=ap func196 az Bye (fc cz.ok (ak _))
end pe
namespace kD
abbrev A:=(List Key)×Key×Unit
abbrev O:=Int×Unit
abbrev P:=Option O
noncomputable def D:FD:={ fn:=f305,tl:=bc,ps:=[(.ro,(.aa bp)),(.ro,bp)],rs:=[(i64,(an i64))],lv:=[(2,[0,3,7,8])],lx:=[(0,[])],od:=[(4,[0,1,2,3,4,5])] }
def ae (a:A):P:=@lift O λk=>D.W k a
variable (a1:A)
def T0 (U:Int):St:={ n:=19,sl:=[(0,.val (.aa bp) a1.1),(3,.box bp (an bp) [] a1.2.1),(7,.val i64 (a1.1.length:Int)),(8,.val i64 U)],vr:=[],aT:=[] }
def b0 (self:Int->P) (e0:(Unit)->P) (a1:A) (U:Int):P:=cond (decide (U < (a1.1.length:Int))) (if 0<=U then ((a1.1[U.toNat]?).bind λa8=>cond (Ty.eq bp a1.2.1 a8) (some (U,()))<|self (ag (U+1))) else none)<|e0 ()
def q0 (a1:A) (mU:(Unit)):P:=some ((-1),())
def r0:(Int)->P:=am (λw v=>b0 w (q0 a1) a1 v) k
theorem aw:@Eq ((Int)->P) (λU=>D.L k [1,0,1,0,0] [0,3,7,8] [] (ai 0 (ay (D.N k [1,1]) D.K0)) (T0 a1 U)) (r0 k a1):=
 funext λU=>av _ _ _ (T0 a1) _ (λrec v=>Bye) k U
def p (l0:(Int)->P) (a1:A):P:=l0 0
theorem af:@Eq P (D.W k a1) (p (r0 k a1) a1):=By8 (aw k a1) Bye
theorem ok:Ok prog 305 D.sig:=ap func305 az Bye (ak _)
end kD
namespace l5
abbrev A:=(List Key)×Key×Unit
abbrev O:=Bool×Unit
noncomputable def D:FD:={ fn:=f258,tl:=bc,ps:=[(.ro,(.aa bp)),(.ro,bp)],rs:=[(.bool,(an .bool))],gl:=[(305,kD.D.sig)] }
def ae (a:A):Option O:=@lift O λk=>D.W k a
def p (a1:A):Option O:=(kD.ae (a1.1,a1.2.1,())).bind λr2=>some (decide (0<=r2.1),())
theorem af (a1:A):@Eq (Option O) (D.W k a1) (p a1):=Bye
theorem ok:Ok prog 258 D.sig:=ap func258 az Bye (fc kD.ok (ak _))
end l5
namespace vj
abbrev A:=Int×Int×Unit
abbrev O:=Bool×Unit
noncomputable def D:FD:={ fn:=f259,tl:=bc,ps:=[(.ro,i64),(.ro,i64)],rs:=[(.bool,(an .bool))],gl:=[(98,iu.D.sig)] }
def ae (a:A):Option O:=@lift O λk=>D.W k a
def p (a1:A):Option O:=(iu.ae (a1.1,0,3,())).bind λr2=>cond r2.1 ((iu.ae (a1.2.1,1,99,())).bind λr3=>some (r3.1,()))<|some (false,())
theorem af (a1:A):@Eq (Option O) (D.W k a1) (p a1):=Bye
theorem ok:Ok prog 259 D.sig:=ap func259 az Bye (fc iu.ok (ak _))
end vj
namespace e_
abbrev A:=Tx×Unit
abbrev O:=Int×Unit
abbrev P:=Option O
noncomputable def D:FD:={ fn:=f180,tl:=bc,ps:=[(.ro,df)],rs:=[(i64,(an i64))],gl:=[(98,iu.D.sig),(131,jr.D.sig),(196,pe.D.sig),(258,l5.D.sig),(259,vj.D.sig)],lv:=[(2,[1,12,13,14]),(14,[1,6,41,42,43]),(21,[1,57,58,59])],lx:=[(0,[1]),(2,[1]),(4,[])],od:=[(7,[0,1,2,3,4,5]),(25,[0,1,2,3,4,5])] }
def ae (a:A):P:=@lift O λk=>D.W k a
def T0 (a1:A) (U:Int):St:={ n:=77,sl:=[(1,.box df (an df) [] a1.1),(12,.val (.aa aq) a1.1.2.1),(13,.val i64 (a1.1.2.1.length:Int)),(14,.val i64 U)],vr:=[],aT:=[] }
def S0 (rec:RT O) (a1:A):(Int)->P:=λU=>rec (T0 a1 U)
def c_ (K:KT O) (a1:A):(Unit)->P:=λz=>K (.exit 0) ({ n:=77,sl:=[(1,.box df (an df) [] a1.1)],vr:=[],aT:=[] })
def b0 (self:Int->P) (e0:(Unit)->P) (a1:A) (U:Int):P:=cond (decide (U < (a1.1.2.1.length:Int))) (if 0<=U then ((a1.1.2.1[U.toNat]?).bind λa8=>(jr.ae (a8,())).bind λcx=>cond (!decide (cx.1=0)) (some (cx.1,()))<|(pe.ae (a8,())).bind λky=>(l5.ae (a1.1.2.2.2.1,ky.1,())).bind λiQ=>cond (!iQ.1) (some (8,()))<|self (ag (U+1))) else none)<|e0 ()
theorem lh (rec:RT O) (K:KT O) (a1:A) (U:Int):D.N k [1,0,1,0,0] (T0 a1 U) (iX rec (ge [1,12,13,14] []) K)=b0 (S0 rec a1) (c_ K a1) a1 U:=Bye
def T1 (a1:A) (dw:Int×Int):St:={ n:=77,sl:=[(1,.box df (an df) [] a1.1),(6,.val i64 dw.1),(41,.val (.aa i64) a1.1.2.2.1),(42,.val i64 (a1.1.2.2.1.length:Int)),(43,.val i64 dw.2)],vr:=[],aT:=[] }
def S1 (rec:RT O) (a1:A):(Int×Int)->P:=λdw=>rec (T1 a1 dw)
def jM (K:KT O) (a1:A):(Unit)->P:=λz=>K (.exit 2) ({ n:=77,sl:=[(1,.box df (an df) [] a1.1)],vr:=[],aT:=[] })
def b1 (self:(Int×Int)->P) (e2:(Unit)->P) (a1:A) (dw:Int×Int):P:=cond (decide (dw.2 < (a1.1.2.2.1.length:Int))) (if 0<=dw.2 then ((a1.1.2.2.1[dw.2.toNat]?).bind λIh=>(iu.ae (Ih,dw.1,(a1.1.2.1.length:Int),())).bind λBI=>cond (!BI.1) (some (3,()))<|self (Ih,ag (dw.2+1))) else none)<|e2 ()
theorem vd (rec:RT O) (K:KT O) (a1:A) (dw:Int×Int):D.N k [1,1,1,1,0,1,0,0] (T1 a1 dw) (iX rec (ge [1,6,41,42,43] []) K)=b1 (S1 rec a1) (jM K a1) a1 dw:=Bye
def T2 (a1:A) (nJ:Int):St:={ n:=77,sl:=[(1,.box df (an df) [] a1.1),(57,.val (.aa bp) a1.1.2.2.2.1),(58,.val i64 (a1.1.2.2.2.1.length:Int)),(59,.val i64 nJ)],vr:=[],aT:=[] }
def b2 (self:Int->P) (e4:(Unit)->P) (a1:A) (nJ:Int):P:=cond (decide (nJ < (a1.1.2.2.2.1.length:Int))) (if 0<=nJ then ((a1.1.2.2.2.1[nJ.toNat]?).bind λFg=>(vj.ae (Fg.1,Fg.2.1,())).bind λUT=>cond (!UT.1) (some (3,()))<|if 0<=nJ/\nJ<=(a1.1.2.2.2.1.length:Int) then ((l5.ae ((a1.1.2.2.2.1.take nJ.toNat).drop 0,Fg,())).bind λad3=>cond ad3.1 (some (6,()))<|self (ag (nJ+1))) else none) else none)<|e4 ()
def q2 (a1:A) (wZ:(Unit)):P:=some (0,())
def s2 (a1:A):(Int)->P:=λnJ=>D.L k [1,1,1,1,1,0,1,0,0] [1,57,58,59] [] (ai 4 (ay (D.N k [1,1,1,1,1,1]) D.K0)) (T2 a1 nJ)
def r2 (a1:A):(Int)->P:=am (λw v=>b2 w (q2 a1) a1 v) k
theorem tI (a1:A):s2 k a1=r2 k a1:=
 funext λnJ=>av _ _ _ (T2 a1) _ (λrec v=>Bye) k nJ
def q1 (l2:(Int)->P) (a1:A) (Fm:(Unit)):P:=l2 0
def Q1 (a1:A) (Fm:(Unit)):P:=q1 (r2 k a1) a1 Fm
theorem sb (a1:A) (Fm:(Unit)):jM (ai 2 (ay (D.N k [1,1,1,1,1]) D.K0)) a1 Fm=Q1 k a1 Fm:=
 aL (b:=q1 (s2 k a1) a1 Fm) Bye (by rw[tI];rfl)
def s1 (a1:A):(Int×Int)->P:=λdw=>D.L k [1,1,1,1,0,1,0,0] [1,6,41,42,43] [] (ai 2 (ay (D.N k [1,1,1,1,1]) D.K0)) (T1 a1 dw)
def r1 (a1:A):(Int×Int)->P:=am (λw v=>b1 w (Q1 k a1) a1 v) k
theorem li (a1:A):s1 k a1=r1 k a1:=by
 funext dw;have h2:jM (ai 2 (ay (D.N k [1,1,1,1,1]) D.K0)) a1=Q1 k a1:=funext λz=>sb k a1 z;refine (av _ _ _ (T1 a1) (λself v=>b1 self (jM (ai 2 (ay (D.N k [1,1,1,1,1]) D.K0)) a1) a1 v) (λrec v=>vd k rec (ai 2 (ay (D.N k [1,1,1,1,1]) D.K0)) a1 v) k dw).trans ?_;rw[h2];rfl
def q0 (l1:(Int×Int)->P) (a1:A) (lI:(Unit)):P:=cond (decide (8 < (a1.1.2.2.1.length:Int))) (some (2,()))<|cond (decide (12 < (a1.1.2.2.2.1.length:Int))) (some (2,()))<|l1 (0,0)
def Q0 (a1:A) (lI:(Unit)):P:=q0 (r1 k a1) a1 lI
theorem sa (a1:A) (lI:(Unit)):c_ (ai 0 (ay (D.N k [1,1]) D.K0)) a1 lI=Q0 k a1 lI:=
 aL (b:=q0 (s1 k a1) a1 lI) Bye (by rw[li];rfl)
def s0 (a1:A):(Int)->P:=λU=>D.L k [1,0,1,0,0] [1,12,13,14] [] (ai 0 (ay (D.N k [1,1]) D.K0)) (T0 a1 U)
def r0 (a1:A):(Int)->P:=am (λw v=>b0 w (Q0 k a1) a1 v) k
theorem aw (a1:A):s0 k a1=r0 k a1:=by
 funext U;have h0:c_ (ai 0 (ay (D.N k [1,1]) D.K0)) a1=Q0 k a1:=funext λz=>sa k a1 z;refine (av _ _ _ (T0 a1) (λself v=>b0 self (c_ (ai 0 (ay (D.N k [1,1]) D.K0)) a1) a1 v) (λrec v=>lh k rec (ai 0 (ay (D.N k [1,1]) D.K0)) a1 v) k U).trans ?_;rw[h0];rfl
def p (l0:(Int)->P) (a1:A):P:=l0 0
theorem af (a1:A):@Eq P (D.W k a1) (p (r0 k a1) a1):=
 aL (b:=p (s0 k a1) a1) Bye (by rw[aw])
theorem ok:Ok prog 180 D.sig:=ap func180 az Bye (fc iu.ok (fc jr.ok (fc pe.ok (fc l5.ok (fc vj.ok (ak _))))))
end e_
namespace oc
abbrev A:=(List Tx)×Unit
abbrev O:=Int×Unit
abbrev P:=Option O
noncomputable def D:FD:={ fn:=f181,tl:=bc,ps:=[(.ro,(.aa df))],rs:=[(i64,(an i64))],lv:=[(3,[3,6,7,8])],lx:=[(0,[3])] }
def ae (a:A):P:=@lift O λk=>D.W k a
variable (a1:A)
def T0 (U:Int×Int):St:={ n:=19,sl:=[(3,.val i64 U.1),(6,.val (.aa df) a1.1),(7,.val i64 (a1.1.length:Int)),(8,.val i64 U.2)],vr:=[],aT:=[] }
def b0 (self:(Int×Int)->P) (e0:Int->P) (a1:A) (U:Int×Int):P:=cond (decide (U.2 < (a1.1.length:Int))) (if 0<=U.2 then ((a1.1[U.2.toNat]?).bind λa8=>self (ag (U.1+(a8.2.1.length:Int)),ag (U.2+1))) else none)<|e0 U.1
def q0 (a1:A) (mU:Int):P:=some (mU,())
def r0:(Int×Int)->P:=am (λw v=>b0 w (q0 a1) a1 v) k
theorem aw:@Eq ((Int×Int)->P) (λU=>D.L k [1,1,0,1,0,0] [3,6,7,8] [] (ai 0 (ay (D.N k [1,1,1]) D.K0)) (T0 a1 U)) (r0 k a1):=
 funext λU=>av _ _ _ (T0 a1) _ (λrec v=>Bye) k U
def p (l0:(Int×Int)->P) (a1:A):P:=l0 (0,0)
theorem af:@Eq P (D.W k a1) (p (r0 k a1) a1):=By8 (aw k a1) Bye
theorem ok:Ok prog 181 D.sig:=ap func181 az Bye (ak _)
end oc
namespace dr
abbrev A:=(List Tx)×Unit
abbrev O:=Int×Unit
abbrev P:=Option O
noncomputable def D:FD:={ fn:=f104,tl:=bc,ps:=[(.ro,(.aa df))],rs:=[(i64,(an i64))],gl:=[(70,rp.D.sig),(180,e_.D.sig),(181,oc.D.sig)],lv:=[(4,[0,14,15,16]),(16,[0,6,45,46,47]),(19,[0,6,45,46,47,52,53,54])],lx:=[(0,[0]),(2,[0]),(4,[0,6,45,46,47])],od:=[(8,[0,1,2,3,4,5,6,7,8,9,10,11,12])] }
def ae (a:A):P:=@lift O λk=>D.W k a
def T0 (a1:A) (U:Int):St:={ n:=68,sl:=[(0,.val (.aa df) a1.1),(14,.val (.aa df) a1.1),(15,.val i64 (a1.1.length:Int)),(16,.val i64 U)],vr:=[],aT:=[] }
def S0 (rec:RT O) (a1:A):(Int)->P:=λU=>rec (T0 a1 U)
def c_ (K:KT O) (a1:A):(Unit)->P:=λz=>K (.exit 0) ({ n:=68,sl:=[(0,.val (.aa df) a1.1)],vr:=[],aT:=[] })
def b0 (self:Int->P) (e0:(Unit)->P) (a1:A) (U:Int):P:=cond (decide (U < (a1.1.length:Int))) (if 0<=U then ((a1.1[U.toNat]?).bind λa8=>(rp.ae (a8.1,())).bind λcx=>cond (!cx.1) (some (3,()))<|cond (decide (0 < U)) (if 0<=ag (U - 1) then ((a1.1[(ag (U - (1:Int))).toNat]?).bind λd6=>cond (decide (a8.1<=d6.1)) (some (1,()))<|(e_.ae (a8,())).bind λjq=>cond (!decide (jq.1=0)) (some (jq.1,()))<|self (ag (U+1))) else none)<|(e_.ae (a8,())).bind λqx=>cond (!decide (qx.1=0)) (some (qx.1,()))<|self (ag (U+1))) else none)<|e0 ()
theorem lh (rec:RT O) (K:KT O) (a1:A) (U:Int):D.N k [1,1,0,1,0,0] (T0 a1 U) (iX rec (ge [0,14,15,16] []) K)=b0 (S0 rec a1) (c_ K a1) a1 U:=Bye
def T1 (a1:A) (i_:(List Tx)×(List (Key×Bool))×(List Tx)×Int×Int):St:={ n:=68,sl:=[(0,.val (.aa df) i_.1),(6,.own (.map bp .bool) (aj (.map bp .bool)) [] i_.2.1),(45,.val (.aa df) i_.2.2.1),(46,.val i64 i_.2.2.2.1),(47,.val i64 i_.2.2.2.2)],vr:=[],aT:=[] }
def S1 (rec:RT O) (a1:A):((List Tx)×(List (Key×Bool))×(List Tx)×Int×Int)->P:=λi_=>rec (T1 a1 i_)
def jM (K:KT O) (a1:A):(List Tx)->P:=λz=>K (.exit 2) ({ n:=68,sl:=[(0,.val (.aa df) z)],vr:=[],aT:=[] })
def T2 (a1:A) (fh:List Tx) (pQ:List Tx) (pR:Int) (pT:Int) (pU:List Key) (zh:Int) (nJ:(List (Key×Bool))×Int):St:={ n:=68,sl:=[(0,.val (.aa df) fh),(6,.own (.map bp .bool) (aj (.map bp .bool)) [] nJ.1),(45,.val (.aa df) pQ),(46,.val i64 pR),(47,.val i64 pT),(52,.val (.aa bp) pU),(53,.val i64 zh),(54,.val i64 nJ.2)],vr:=[],aT:=[] }
def b2 (self:((List (Key×Bool))×Int)->P) (e4:(List (Key×Bool))->P) (a1:A) (fh:List Tx) (pQ:List Tx) (pR:Int) (pT:Int) (pU:List Key) (zh:Int) (nJ:(List (Key×Bool))×Int):P:=cond (decide (nJ.2 < zh)) (if 0<=nJ.2 then ((pU[nJ.2.toNat]?).bind λU5=>cond (Di (jZ bp nJ.1 U5) false) (some (7,()))<|self (pL bp nJ.1 U5 true,ag (nJ.2+1))) else none)<|e4 nJ.1
def q1 (self:((List Tx)×(List (Key×Bool))×(List Tx)×Int×Int)->P) (e2:(List Tx)->P) (a1:A) (fh:List Tx) (pQ:List Tx) (pR:Int) (pT:Int) (pU:List Key) (zh:Int) (U6:(List (Key×Bool))):P:=self (fh,U6,pQ,pR,ag (pT+1))
def s2 (rec:RT O) (K:KT O) (a1:A):(List Tx)->(List Tx)->Int->Int->(List Key)->Int->((List (Key×Bool))×Int)->P:=λfh pQ pR pT pU zh=>λnJ=>D.L k [1,1,1,1,0,1,0,0,1,1,0,0,1,1,0,0] [0,6,45,46,47,52,53,54] [] (ai 4 (ai 3 (ay (D.N k [1,1,1,1,0,1,0,0,1,1,1]) (iX rec (ge [0,6,45,46,47] []) K)))) (T2 a1 fh pQ pR pT pU zh nJ)
def r2 (self:((List Tx)×(List (Key×Bool))×(List Tx)×Int×Int)->P) (e2:(List Tx)->P) (a1:A):(List Tx)->(List Tx)->Int->Int->(List Key)->Int->((List (Key×Bool))×Int)->P:=λfh pQ pR pT pU zh=>am (λw v=>b2 w (q1 self e2 a1 fh pQ pR pT pU zh) a1 fh pQ pR pT pU zh v) k
theorem tI (rec:RT O) (K:KT O) (a1:A):s2 k rec K a1=r2 k (S1 rec a1) (jM K a1) a1:=
 funext λfh=>funext λpQ=>funext λpR=>funext λpT=>funext λpU=>funext λzh=>funext λnJ=>av _ _ _ (T2 a1 fh pQ pR pT pU zh) _ (λrec v=>Bye) k nJ
def b1 (self:((List Tx)×(List (Key×Bool))×(List Tx)×Int×Int)->P) (e2:(List Tx)->P) (l2:(List Tx)->(List Tx)->Int->Int->(List Key)->Int->((List (Key×Bool))×Int)->P) (a1:A) (i_:(List Tx)×(List (Key×Bool))×(List Tx)×Int×Int):P:=cond (decide (i_.2.2.2.2 < i_.2.2.2.1)) (if 0<=i_.2.2.2.2 then ((i_.2.2.1[i_.2.2.2.2.toNat]?).bind λAr=>l2 i_.1 i_.2.2.1 i_.2.2.2.1 i_.2.2.2.2 Ar.2.2.2.1 (Ar.2.2.2.1.length:Int) (i_.2.1,0)) else none)<|e2 i_.1
def B1 (self:((List Tx)×(List (Key×Bool))×(List Tx)×Int×Int)->P) (e2:(List Tx)->P) (a1:A) (i_:(List Tx)×(List (Key×Bool))×(List Tx)×Int×Int):P:=b1 self e2 (r2 k self e2 a1) a1 i_
theorem vd (rec:RT O) (K:KT O) (a1:A) (i_:(List Tx)×(List (Key×Bool))×(List Tx)×Int×Int):D.N k [1,1,1,1,0,1,0,0] (T1 a1 i_) (iX rec (ge [0,6,45,46,47] []) K)=B1 k (S1 rec a1) (jM K a1) a1 i_:=
 aL (b:=b1 (S1 rec a1) (jM K a1) (s2 k rec K a1) a1 i_) Bye (by rw[tI];rfl)
def q2 (a1:A) (xQ:(List Tx)):P:=(oc.ae (xQ,())).bind λad5=>cond (decide (12 < ad5.1)) (some (2,()))<|some (0,())
theorem w7 (a1:A) (xQ:(List Tx)):jM (ai 2 (ay (D.N k [1,1,1,1,1]) D.K0)) a1 xQ=q2 a1 xQ:=Bye
def s1 (a1:A):((List Tx)×(List (Key×Bool))×(List Tx)×Int×Int)->P:=λi_=>D.L k [1,1,1,1,0,1,0,0] [0,6,45,46,47] [] (ai 2 (ay (D.N k [1,1,1,1,1]) D.K0)) (T1 a1 i_)
def r1 (a1:A):((List Tx)×(List (Key×Bool))×(List Tx)×Int×Int)->P:=am (λw v=>B1 k w (q2 a1) a1 v) k
theorem li (a1:A):s1 k a1=r1 k a1:=by
 funext i_;have h2:jM (ai 2 (ay (D.N k [1,1,1,1,1]) D.K0)) a1=q2 a1:=funext λz=>w7 k a1 z;refine (av _ _ _ (T1 a1) (λself v=>B1 k self (jM (ai 2 (ay (D.N k [1,1,1,1,1]) D.K0)) a1) a1 v) (λrec v=>vd k rec (ai 2 (ay (D.N k [1,1,1,1,1]) D.K0)) a1 v) k i_).trans ?_;rw[h2];rfl
def q0 (l1:((List Tx)×(List (Key×Bool))×(List Tx)×Int×Int)->P) (a1:A) (wF:(Unit)):P:=l1 (a1.1,([]:List (Key×Bool)),a1.1,(a1.1.length:Int),0)
def Q0 (a1:A) (wF:(Unit)):P:=q0 (r1 k a1) a1 wF
theorem sa (a1:A) (wF:(Unit)):c_ (ai 0 (ay (D.N k [1,1,1]) D.K0)) a1 wF=Q0 k a1 wF:=
 aL (b:=q0 (s1 k a1) a1 wF) Bye (by rw[li];rfl)
def s0 (a1:A):(Int)->P:=λU=>D.L k [1,1,0,1,0,0] [0,14,15,16] [] (ai 0 (ay (D.N k [1,1,1]) D.K0)) (T0 a1 U)
def r0 (a1:A):(Int)->P:=am (λw v=>b0 w (Q0 k a1) a1 v) k
theorem aw (a1:A):s0 k a1=r0 k a1:=by
 funext U;have h0:c_ (ai 0 (ay (D.N k [1,1,1]) D.K0)) a1=Q0 k a1:=funext λz=>sa k a1 z;refine (av _ _ _ (T0 a1) (λself v=>b0 self (c_ (ai 0 (ay (D.N k [1,1,1]) D.K0)) a1) a1 v) (λrec v=>lh k rec (ai 0 (ay (D.N k [1,1,1]) D.K0)) a1 v) k U).trans ?_;rw[h0];rfl
def p (l0:(Int)->P) (a1:A):P:=cond (decide (4 < (a1.1.length:Int))) (some (2,()))<|l0 0
theorem af (a1:A):@Eq P (D.W k a1) (p (r0 k a1) a1):=
 aL (b:=p (s0 k a1) a1) Bye (by rw[aw])
theorem ok:Ok prog 104 D.sig:=ap func104 az Bye (fc rp.ok (fc e_.ok (fc oc.ok (ak _))))
end dr
namespace fk
abbrev A:=(List Row)×(List Tx)×Unit
abbrev O:=(List (Key×Bool))×Unit
abbrev P:=Option O
noncomputable def D:FD:={ fn:=f175,tl:=bc,ps:=[(.ro,(.aa bd)),(.ro,(.aa df))],rs:=[((.map bp .bool),(aj (.map bp .bool)))],lv:=[(3,[1,5,13,14,15]),(8,[5,26,27,28]),(11,[5,26,27,28,33,34,35])],lx:=[(0,[1,5]),(2,[5]),(4,[5,26,27,28])] }
def ae (a:A):P:=@lift O λk=>D.W k a
def T0 (a1:A) (U:(List (Key×Bool))×Int):St:={ n:=44,sl:=[(1,.val (.aa df) a1.2.1),(5,.own (.map bp .bool) (aj (.map bp .bool)) [] U.1),(13,.val (.aa bd) a1.1),(14,.val i64 (a1.1.length:Int)),(15,.val i64 U.2)],vr:=[],aT:=[] }
def S0 (rec:RT O) (a1:A):((List (Key×Bool))×Int)->P:=λU=>rec (T0 a1 U)
def c_ (K:KT O) (a1:A):(List (Key×Bool))->P:=λz=>K (.exit 0) ({ n:=44,sl:=[(1,.val (.aa df) a1.2.1),(5,.own (.map bp .bool) (aj (.map bp .bool)) [] z)],vr:=[],aT:=[] })
def b0 (self:((List (Key×Bool))×Int)->P) (e0:(List (Key×Bool))->P) (a1:A) (U:(List (Key×Bool))×Int):P:=cond (decide (U.2 < (a1.1.length:Int))) (if 0<=U.2 then ((a1.1[U.2.toNat]?).bind λa8=>let rR:=pL bp U.1 (a8.1,a8.2.1,()) true;self (rR,ag (U.2+1))) else none)<|e0 U.1
theorem lh (rec:RT O) (K:KT O) (a1:A) (U:(List (Key×Bool))×Int):D.N k [1,1,0,1,0,0] (T0 a1 U) (iX rec (ge [1,5,13,14,15] []) K)=b0 (S0 rec a1) (c_ K a1) a1 U:=Bye
def T1 (a1:A) (f5:(List (Key×Bool))×(List Tx)×Int×Int):St:={ n:=44,sl:=[(5,.own (.map bp .bool) (aj (.map bp .bool)) [] f5.1),(26,.val (.aa df) f5.2.1),(27,.val i64 f5.2.2.1),(28,.val i64 f5.2.2.2)],vr:=[],aT:=[] }
def S1 (rec:RT O) (a1:A):((List (Key×Bool))×(List Tx)×Int×Int)->P:=λf5=>rec (T1 a1 f5)
def jM (K:KT O) (a1:A):(List (Key×Bool))->P:=λz=>K (.exit 2) ({ n:=44,sl:=[(5,.own (.map bp .bool) (aj (.map bp .bool)) [] z)],vr:=[],aT:=[] })
def T2 (a1:A) (zi:List Tx) (o5:Int) (jS:Int) (iN:List Key) (fh:Int) (xd:(List (Key×Bool))×Int):St:={ n:=44,sl:=[(5,.own (.map bp .bool) (aj (.map bp .bool)) [] xd.1),(26,.val (.aa df) zi),(27,.val i64 o5),(28,.val i64 jS),(33,.val (.aa bp) iN),(34,.val i64 fh),(35,.val i64 xd.2)],vr:=[],aT:=[] }
def b2 (self:((List (Key×Bool))×Int)->P) (e4:(List (Key×Bool))->P) (a1:A) (zi:List Tx) (o5:Int) (jS:Int) (iN:List Key) (fh:Int) (xd:(List (Key×Bool))×Int):P:=cond (decide (xd.2 < fh)) (if 0<=xd.2 then ((iN[xd.2.toNat]?).bind λUY=>self (pL bp xd.1 UY true,ag (xd.2+1))) else none)<|e4 xd.1
def q1 (self:((List (Key×Bool))×(List Tx)×Int×Int)->P) (e2:(List (Key×Bool))->P) (a1:A) (zi:List Tx) (o5:Int) (jS:Int) (iN:List Key) (fh:Int) (Ig:(List (Key×Bool))):P:=self (Ig,zi,o5,ag (jS+1))
def s2 (rec:RT O) (K:KT O) (a1:A):(List Tx)->Int->Int->(List Key)->Int->((List (Key×Bool))×Int)->P:=λzi o5 jS iN fh=>λxd=>D.L k [1,1,1,0,1,0,0,1,1,0,0,1,1,0,0] [5,26,27,28,33,34,35] [] (ai 4 (ai 3 (ay (D.N k [1,1,1,0,1,0,0,1,1,1]) (iX rec (ge [5,26,27,28] []) K)))) (T2 a1 zi o5 jS iN fh xd)
def r2 (self:((List (Key×Bool))×(List Tx)×Int×Int)->P) (e2:(List (Key×Bool))->P) (a1:A):(List Tx)->Int->Int->(List Key)->Int->((List (Key×Bool))×Int)->P:=λzi o5 jS iN fh=>am (λw v=>b2 w (q1 self e2 a1 zi o5 jS iN fh) a1 zi o5 jS iN fh v) k
theorem tI (rec:RT O) (K:KT O) (a1:A):s2 k rec K a1=r2 k (S1 rec a1) (jM K a1) a1:=
 funext λzi=>funext λo5=>funext λjS=>funext λiN=>funext λfh=>funext λxd=>av _ _ _ (T2 a1 zi o5 jS iN fh) _ (λrec v=>Bye) k xd
def b1 (self:((List (Key×Bool))×(List Tx)×Int×Int)->P) (e2:(List (Key×Bool))->P) (l2:(List Tx)->Int->Int->(List Key)->Int->((List (Key×Bool))×Int)->P) (a1:A) (f5:(List (Key×Bool))×(List Tx)×Int×Int):P:=cond (decide (f5.2.2.2 < f5.2.2.1)) (if 0<=f5.2.2.2 then ((f5.2.1[f5.2.2.2.toNat]?).bind λFl=>l2 f5.2.1 f5.2.2.1 f5.2.2.2 Fl.2.2.2.1 (Fl.2.2.2.1.length:Int) (f5.1,0)) else none)<|e2 f5.1
def B1 (self:((List (Key×Bool))×(List Tx)×Int×Int)->P) (e2:(List (Key×Bool))->P) (a1:A) (f5:(List (Key×Bool))×(List Tx)×Int×Int):P:=b1 self e2 (r2 k self e2 a1) a1 f5
theorem vd (rec:RT O) (K:KT O) (a1:A) (f5:(List (Key×Bool))×(List Tx)×Int×Int):D.N k [1,1,1,0,1,0,0] (T1 a1 f5) (iX rec (ge [5,26,27,28] []) K)=B1 k (S1 rec a1) (jM K a1) a1 f5:=
 aL (b:=b1 (S1 rec a1) (jM K a1) (s2 k rec K a1) a1 f5) Bye (by rw[tI];rfl)
def q2 (a1:A) (wZ:(List (Key×Bool))):P:=some (wZ,())
theorem w7 (a1:A) (wZ:(List (Key×Bool))):jM (ai 2 (ay (D.N k [1,1,1,1]) D.K0)) a1 wZ=q2 a1 wZ:=Bye
def s1 (a1:A):((List (Key×Bool))×(List Tx)×Int×Int)->P:=λf5=>D.L k [1,1,1,0,1,0,0] [5,26,27,28] [] (ai 2 (ay (D.N k [1,1,1,1]) D.K0)) (T1 a1 f5)
def r1 (a1:A):((List (Key×Bool))×(List Tx)×Int×Int)->P:=am (λw v=>B1 k w (q2 a1) a1 v) k
theorem li (a1:A):s1 k a1=r1 k a1:=by
 funext f5;have h2:jM (ai 2 (ay (D.N k [1,1,1,1]) D.K0)) a1=q2 a1:=funext λz=>w7 k a1 z;refine (av _ _ _ (T1 a1) (λself v=>B1 k self (jM (ai 2 (ay (D.N k [1,1,1,1]) D.K0)) a1) a1 v) (λrec v=>vd k rec (ai 2 (ay (D.N k [1,1,1,1]) D.K0)) a1 v) k f5).trans ?_;rw[h2];rfl
def q0 (l1:((List (Key×Bool))×(List Tx)×Int×Int)->P) (a1:A) (ez:(List (Key×Bool))):P:=l1 (ez,a1.2.1,(a1.2.1.length:Int),0)
def Q0 (a1:A) (ez:(List (Key×Bool))):P:=q0 (r1 k a1) a1 ez
theorem sa (a1:A) (ez:(List (Key×Bool))):c_ (ai 0 (ay (D.N k [1,1,1]) D.K0)) a1 ez=Q0 k a1 ez:=
 aL (b:=q0 (s1 k a1) a1 ez) Bye (by rw[li];rfl)
def s0 (a1:A):((List (Key×Bool))×Int)->P:=λU=>D.L k [1,1,0,1,0,0] [1,5,13,14,15] [] (ai 0 (ay (D.N k [1,1,1]) D.K0)) (T0 a1 U)
def r0 (a1:A):((List (Key×Bool))×Int)->P:=am (λw v=>b0 w (Q0 k a1) a1 v) k
theorem aw (a1:A):s0 k a1=r0 k a1:=by
 funext U;have h0:c_ (ai 0 (ay (D.N k [1,1,1]) D.K0)) a1=Q0 k a1:=funext λz=>sa k a1 z;refine (av _ _ _ (T0 a1) (λself v=>b0 self (c_ (ai 0 (ay (D.N k [1,1,1]) D.K0)) a1) a1 v) (λrec v=>lh k rec (ai 0 (ay (D.N k [1,1,1]) D.K0)) a1 v) k U).trans ?_;rw[h0];rfl
def p (l0:((List (Key×Bool))×Int)->P) (a1:A):P:=l0 (([]:List (Key×Bool)),0)
theorem af (a1:A):@Eq P (D.W k a1) (p (r0 k a1) a1):=
 aL (b:=p (s0 k a1) a1) Bye (by rw[aw])
theorem ok:Ok prog 175 D.sig:=ap func175 az Bye (ak _)
end fk
namespace lr
abbrev A:=(List Change)×Unit
abbrev O:=(List Change)×Unit
abbrev P:=Option O
noncomputable def D:FD:={ fn:=f134,tl:=bc,ps:=[(.ro,(.aa aq))],rs:=[((.aa aq),(aj (.aa aq)))],lv:=[(3,[0,3,4])],lx:=[(0,[3])] }
def ae (a:A):P:=@lift O λk=>D.W k a
variable (a1:A)
def T0 (U:(List Change)×Int):St:={ n:=30,sl:=[(0,.val (.aa aq) a1.1),(3,.own (.aa aq) (aj (.aa aq)) [] U.1),(4,.val i64 U.2)],vr:=[],aT:=[] }
def b0 (self:((List Change)×Int)->P) (e0:(List Change)->P) (a1:A) (U:(List Change)×Int):P:=cond (decide (0<=U.2)) (if 0<=U.2 then ((a1.1[U.2.toNat]?).bind λa8=>if U.1.length+[(a8.2.2.1,a8.2.2.2.1,a8.1,a8.2.1,())].length<=b9 then (let rR:=U.1++[(a8.2.2.1,a8.2.2.2.1,a8.1,a8.2.1,())];self (rR,ag (U.2 - 1))) else none) else none)<|e0 U.1
def q0 (a1:A) (ez:(List Change)):P:=some (ez,())
def r0:((List Change)×Int)->P:=am (λw v=>b0 w (q0 a1) a1 v) k
theorem aw:@Eq (((List Change)×Int)->P) (λU=>D.L k [1,1,0,1,0,0] [0,3,4] [] (ai 0 (ay (D.N k [1,1,1]) D.K0)) (T0 a1 U)) (r0 k a1):=
 funext λU=>av _ _ _ (T0 a1) _ (λrec v=>Bye) k U
def p (l0:((List Change)×Int)->P) (a1:A):P:=l0 (([]:List Change),ag ((a1.1.length:Int) - 1))
theorem af:@Eq P (D.W k a1) (p (r0 k a1) a1):=By8 (aw k a1) Bye
theorem ok:Ok prog 134 D.sig:=ap func134 az Bye (ak _)
end lr
namespace kE
abbrev A:=(List Row)×Unit
abbrev O:=(List Row)×Unit
noncomputable def D:FD:={ fn:=f257,tl:=bc,ps:=[(.ro,(.aa bd))],rs:=[((.aa bd),(aj (.aa bd)))] }
def ae (a:A):Option O:=@lift O λk=>D.W k a
def p (a1:A):Option O:=Ce a1.1 (some (([]:List Row),())) (if ([]:List Row).length+a1.1.length<=b9 then (some (([]:List Row)++a1.1,())) else none)
theorem af (a1:A):@Eq (Option O) (D.W k a1) (p a1):=Bye
theorem ok:Ok prog 257 D.sig:=ap func257 az Bye (ak _)
end kE
namespace cd
abbrev A:=(List Row)×Row×(Nat×Int)×Unit
abbrev O:=Int×Bool×Unit
abbrev P:=Option O
noncomputable def D:FD:={ fn:=f185,tl:=bc,ps:=[(.ro,(.aa bd)),(.ro,bd),(.fix 186,.fn)],rs:=[(i64,(an i64)),(.bool,(an .bool))],gl:=[(186,jw.D.sig)],lv:=[(3,[0,2,4,8,9,10])],lx:=[(0,[0,2,4,8,9])],od:=[(5,[0,1,2,3,4,5,6,7]),(8,[0,1,2,3,4,5,6,7,8,9,10,11,12,13,14,15])] }
def ae (a:A):P:=@lift O λk=>D.W k a
variable (a1:A)
def T0 (U:Int×Int):St:={ n:=49,sl:=[(0,.val (.aa bd) a1.1),(2,.val .fn ((186,a1.2.2.1.2):Nat×Int)),(4,.box bd (an bd) [] a1.2.1),(8,.val i64 (a1.1.length:Int)),(9,.val i64 U.1),(10,.val i64 U.2)],vr:=[],aT:=[] }
def b0 (self:(Int×Int)->P) (e0:Int->P) (a1:A) (U:Int×Int):P:=cond (decide (U.1 < U.2)) (if 0<=ag ((IntKind.wrap .u64 (ag (U.1+U.2))).fdiv (2 ^ 1)) then ((a1.1[(ag ((IntKind.wrap .u64 (ag (U.1+U.2))).fdiv (2 ^ 1))).toNat]?).bind λa8=>(jw.ae (a8,a1.2.1,())).bind λcx=>cond (decide (cx.1 < 0)) (self (ag ((ag ((IntKind.wrap .u64 (ag (U.1+U.2))).fdiv (2 ^ 1)))+1),U.2))<|self (U.1,ag ((IntKind.wrap .u64 (ag (U.1+U.2))).fdiv (2 ^ 1)))) else none)<|e0 U.1
def q0 (ez:Int):P:=cond (decide (ez < (a1.1.length:Int))) (if 0<=ez then ((a1.1[ez.toNat]?).bind λqJ=>(jw.ae (qJ,a1.2.1,())).bind λjq=>some (ez,decide (jq.1=0),())) else none)<|some (ez,false,())
def r0:(Int×Int)->P:=am (λw v=>b0 w (q0 a1) a1 v) k
theorem aw:@Eq ((Int×Int)->P) (λU=>D.L k [1,1,1,0,0,0] [0,2,4,8,9,10] [] (ai 0 (ay (D.N k [1,1,1,1]) D.K0)) (T0 a1 U)) (r0 k a1):=
 funext λU=>av _ _ _ (T0 a1) _ (λrec v=>Bye) k U
def p (l0:(Int×Int)->P) (a1:A):P:=l0 (0,(a1.1.length:Int))
theorem af:@Eq P (D.W k a1) (p (r0 k a1) a1):=By8 (aw k a1) Bye
theorem ok:Ok prog 185 D.sig:=ap func185 az Bye (fc jw.ok (ak _))
end cd
namespace kd
abbrev A:=Change×(List Row)×Unit
abbrev O:=Bool×Unit
noncomputable def D:FD:={ fn:=f263,tl:=bc,ps:=[(.ro,aq),(.ro,(.aa bd))],rs:=[(.bool,(an .bool))],gl:=[(133,cz.D.sig),(185,cd.D.sig)],od:=[(2,[0,1,2,3,4,5,6,7,8,9,10,11,12,13,14,15,16,17])] }
def ae (a:A):Option O:=@lift O λk=>D.W k a
def p (a1:A):Option O:=(cz.ae (a1.1,())).bind λr2=>(cd.ae (a1.2.1,r2.1,((186,0):Nat×Int),())).bind λr3=>cond (r3.2.1 == a1.1.1) (cond (!r3.2.1) (some (true,()))<|if 0<=r3.1 then ((a1.2.1[r3.1.toNat]?).bind λx4=>some ((Ty.eq bd x4 a1.1.2.1),())) else none)<|some (false,())
theorem af (a1:A):@Eq (Option O) (D.W k a1) (p a1):=Bye
theorem ok:Ok prog 263 D.sig:=ap func263 az Bye (fc cz.ok (fc cd.ok (ak _)))
end kd
namespace rq
abbrev A:=(List Row)×Change×Unit
abbrev O:=(List Row)×Unit
abbrev P:=Option O
noncomputable def D:FD:={ fn:=f304,tl:=bc,ps:=[(.ro,(.aa bd)),(.ro,aq)],rs:=[((.aa bd),(aj (.aa bd)))],gl:=[(133,cz.D.sig),(185,cd.D.sig)] }
def ae (a:A):P:=@lift O λk=>D.W k a
def p (a1:A):P:=(cz.ae (a1.2.1,())).bind λr2=>(cd.ae (a1.1,r2.1,((186,0):Nat×Int),())).bind λr3=>if 0<=r3.1/\r3.1<=(a1.1.length:Int) then (if ([]:List Row).length+((a1.1.take r3.1.toNat).drop 0).length<=b9 then (let y4:=([]:List Row)++((a1.1.take r3.1.toNat).drop 0);let j8:=λ(p7:List Row)=>(let j11:=λ(p10:Int)=>(if 0<=p10/\p10<=(a1.1.length:Int) then (if p7.length+((a1.1.take a1.1.length).drop p10.toNat).length<=b9 then (let y12:=p7++((a1.1.take a1.1.length).drop p10.toNat);some (y12,())) else none) else none:P);cond r3.2.1 (j11 (ag (r3.1+1)))<|j11 r3.1:P);cond a1.2.1.2.2.1 (if y4.length+[a1.2.1.2.2.2.1].length<=b9 then (j8 (y4++[a1.2.1.2.2.2.1])) else none)<|j8 y4) else none) else none
theorem af (a1:A):@Eq P (D.W k a1) (p a1):=Bye
theorem ok:Ok prog 304 D.sig:=ap func304 az Bye (fc cz.ok (fc cd.ok (ak _)))
end rq
namespace je
abbrev A:=(List Row)×(List Change)×Unit
abbrev O:=BF×Unit
abbrev P:=Option O
noncomputable def D:FD:={ fn:=f256,tl:=bc,ps:=[(.ro,(.aa bd)),(.ro,(.aa aq))],rs:=[(xG,(aj xG))],gl:=[(103,iw.D.sig),(208,jd.D.sig),(257,kE.D.sig),(263,kd.D.sig),(304,rq.D.sig)],lv:=[(6,[4,6,18,19,20])],lx:=[(0,[4,6])] }
def ae (a:A):P:=@lift O λk=>D.W k a
variable (a1:A)
def T0 (c7:(List Row)×Int):St:={ n:=45,sl:=[(4,.box xG (aj xG) [] ((0:Int),([]:List Row),())),(6,.own (.aa bd) (aj (.aa bd)) [] c7.1),(18,.val (.aa aq) a1.2.1),(19,.val i64 (a1.2.1.length:Int)),(20,.val i64 c7.2)],vr:=[],aT:=[] }
def b0 (self:((List Row)×Int)->P) (e0:(List Row)->P) (a1:A) (c7:(List Row)×Int):P:=cond (decide (c7.2 < (a1.2.1.length:Int))) (if 0<=c7.2 then ((a1.2.1[c7.2.toNat]?).bind λd6=>(jd.ae (d6,())).bind λiQ=>cond (!decide (iQ.1=0)) (some ((iQ.1,([]:List Row),()),()))<|(kd.ae (d6,c7.1,())).bind λjq=>cond (!jq.1) (some ((8,([]:List Row),()),()))<|(rq.ae (c7.1,d6,())).bind λqx=>self (qx.1,ag (c7.2+1))) else none)<|e0 c7.1
def q0 (a1:A) (wF:(List Row)):P:=cond (decide (60 < (wF.length:Int))) (some ((2,([]:List Row),()),()))<|some ((0,wF,()),())
def r0:((List Row)×Int)->P:=am (λw v=>b0 w (q0 a1) a1 v) k
theorem aw:@Eq (((List Row)×Int)->P) (λc7=>D.L k [1,1,1,0,1,0,0] [4,6,18,19,20] [] (ai 0 (ay (D.N k [1,1,1,1]) D.K0)) (T0 a1 c7)) (r0 k a1):=
 funext λc7=>av _ _ _ (T0 a1) _ (λrec v=>Bye) k c7
def p (l0:((List Row)×Int)->P) (a1:A):P:=(iw.ae (a1.1,())).bind λr2=>cond (!decide (r2.1=0)) (some ((r2.1,([]:List Row),()),()))<|(kE.ae (a1.1,())).bind λr3=>l0 (r3.1,0)
theorem af:@Eq P (D.W k a1) (p (r0 k a1) a1):=By8 (aw k a1) Bye
theorem ok:Ok prog 256 D.sig:=ap func256 az Bye (fc iw.ok (fc jd.ok (fc kE.ok (fc kd.ok (fc rq.ok (ak _))))))
end je
namespace kg
abbrev A:=(List Row)×(List Tx)×Unit
abbrev O:=(List Row)×Int×Unit
abbrev P:=Option O
noncomputable def D:FD:={ fn:=f176,tl:=bc,ps:=[(.ro,(.aa bd)),(.ro,(.aa df))],rs:=[((.aa bd),(aj (.aa bd))),(i64,(an i64))],gl:=[(134,lr.D.sig),(256,je.D.sig),(257,kE.D.sig)],lv:=[(2,[0,9,10,11])],lx:=[(0,[0])],lf:=[(2,[(0,Byd)])],od:=[(6,[0,1,2,3])] }
def ae (a:A):P:=@lift O λk=>D.W k a
variable (a1:A)
def T0 (U:(List Row)×Int):St:={ n:=30,sl:=[(0,.val (.aa bd) U.1),(9,.val (.aa df) a1.2.1),(10,.val i64 (a1.2.1.length:Int)),(11,.val i64 U.2)],vr:=[],aT:=[] }
def b0 (self:((List Row)×Int)->P) (e0:(List Row)->P) (a1:A) (U:(List Row)×Int):P:=cond (decide (U.2 < (a1.2.1.length:Int))) (if 0<=U.2 then ((a1.2.1[U.2.toNat]?).bind λa8=>(lr.ae (a8.2.1,())).bind λcx=>(je.ae (U.1,cx.1,())).bind λky=>cond (!decide (ky.1.1=0)) (some (([]:List Row),ky.1.1,()))<|self (ky.1.2.1,ag (U.2+1))) else none)<|e0 U.1
def q0 (a1:A) (pc:(List Row)):P:=(kE.ae (pc,())).bind λjq=>some (jq.1,0,())
def r0:((List Row)×Int)->P:=am (λw v=>b0 w (q0 a1) a1 v) k
theorem aw:@Eq (((List Row)×Int)->P) (λU=>D.L k [1,0,1,0,0] [0,9,10,11] [(0,Byd)] (ai 0 (ay (D.N k [1,1]) D.K0)) (T0 a1 U)) (r0 k a1):=
 funext λU=>av _ _ _ (T0 a1) _ (λrec v=>Bye) k U
def p (l0:((List Row)×Int)->P) (a1:A):P:=l0 (a1.1,0)
theorem af:@Eq P (D.W k a1) (p (r0 k a1) a1):=By8 (aw k a1) Bye
theorem ok:Ok prog 176 D.sig:=ap func176 az Bye (fc lr.ok (fc je.ok (fc kE.ok (ak _))))
end kg
namespace oL
abbrev A:=Plain×Unit
abbrev O:=Int×Unit
noncomputable def D:FD:={ fn:=f100,tl:=bc,ps:=[(.ro,Es)],rs:=[(i64,(an i64))],gl:=[(98,iu.D.sig),(103,iw.D.sig),(104,dr.D.sig),(175,fk.D.sig),(176,kg.D.sig)],od:=[(7,[0,1,2,3,4,5,6,7,8,9,10,11,12,13,14,15,16,17,18,19,20,21,22,23])],ar:=[(7,[1,6,11,13,18,20])],bx:=[(7,[1])] }
def ae (a:A):Option O:=@lift O λk=>D.W k a
def p (a1:A):Option O:=(iw.ae (a1.1.1,())).bind λr2=>cond (!decide (r2.1=0)) (some (r2.1,()))<|(dr.ae (a1.1.2.1,())).bind λr3=>cond (!decide (r3.1=0)) (some (r3.1,()))<|let j8:Option O:=(fk.ae (a1.1.1,a1.1.2.1,())).bind λr9=>cond (decide (12 < (r9.1.length:Int))) (some (2,()))<|(kg.ae (a1.1.1,a1.1.2.1,())).bind λwE=>cond (!decide (wE.2.1=0)) (some (8,()))<|some (0,());(iu.ae (a1.1.2.2.1,1,100,())).bind λr4=>cond (!r4.1) (some (3,()))<|cond (decide (0 < (a1.1.2.1.length:Int))) (if 0<=ag ((a1.1.2.1.length:Int) - 1) then ((a1.1.2.1[(ag ((a1.1.2.1.length:Int) - (1:Int))).toNat]?).bind λx5=>cond (decide (a1.1.2.2.1<=x5.1)) (some (3,()))<|j8) else none)<|j8
theorem af (a1:A):@Eq (Option O) (D.W k a1) (p a1):=Bye
theorem ok:Ok prog 100 D.sig:=ap func100 az Bye (fc iu.ok (fc iw.ok (fc dr.ok (fc fk.ok (fc kg.ok (ak _))))))
end oL
namespace jW
abbrev A:=(List Seen)×Unit
abbrev O:=(List Row)×Unit
abbrev P:=Option O
noncomputable def D:FD:={ fn:=f101,tl:=bc,ps:=[(.ro,(.aa gz))],rs:=[((.aa bd),(aj (.aa bd)))],lv:=[(3,[3,6,7,8])],lx:=[(0,[3])] }
def ae (a:A):P:=@lift O λk=>D.W k a
variable (a1:A)
def T0 (U:(List Row)×Int):St:={ n:=19,sl:=[(3,.own (.aa bd) (aj (.aa bd)) [] U.1),(6,.val (.aa gz) a1.1),(7,.val i64 (a1.1.length:Int)),(8,.val i64 U.2)],vr:=[],aT:=[] }
def b0 (self:((List Row)×Int)->P) (e0:(List Row)->P) (a1:A) (U:(List Row)×Int):P:=cond (decide (U.2 < (a1.1.length:Int))) (if 0<=U.2 then ((a1.1[U.2.toNat]?).bind λa8=>if U.1.length+[a8.1].length<=b9 then (self (U.1++[a8.1],ag (U.2+1))) else none) else none)<|e0 U.1
def q0 (a1:A) (mU:(List Row)):P:=some (mU,())
def r0:((List Row)×Int)->P:=am (λw v=>b0 w (q0 a1) a1 v) k
theorem aw:@Eq (((List Row)×Int)->P) (λU=>D.L k [1,1,0,1,0,0] [3,6,7,8] [] (ai 0 (ay (D.N k [1,1,1]) D.K0)) (T0 a1 U)) (r0 k a1):=
 funext λU=>av _ _ _ (T0 a1) _ (λrec v=>Bye) k U
def p (l0:((List Row)×Int)->P) (a1:A):P:=l0 (([]:List Row),0)
theorem af:@Eq P (D.W k a1) (p (r0 k a1) a1):=By8 (aw k a1) Bye
theorem ok:Ok prog 101 D.sig:=ap func101 az Bye (ak _)
end jW
namespace gk
abbrev A:=(List Byt)×(List Byt)×(Nat×Int)×Unit
abbrev O:=Bool×Unit
abbrev P:=Option O
noncomputable def D:FD:={ fn:=f177,tl:=bc,ps:=[(.ro,(.aa (.aa u8))),(.ro,(.aa (.aa u8))),(.fix 178,.fn)],rs:=[(.bool,(an .bool))],gl:=[(178,fw.D.sig)],lv:=[(4,[1,2,15,16,17])],lx:=[(0,[])] }
def ae (a:A):P:=@lift O λk=>D.W k a
variable (a1:A)
def T0 (U:Int):St:={ n:=32,sl:=[(1,.val (.aa (.aa u8)) a1.2.1),(2,.val .fn ((178,a1.2.2.1.2):Nat×Int)),(15,.val (.aa (.aa u8)) a1.1),(16,.val i64 (a1.1.length:Int)),(17,.val i64 U)],vr:=[],aT:=[] }
def b0 (self:Int->P) (e0:(Unit)->P) (a1:A) (U:Int):P:=cond (decide (U < (a1.1.length:Int))) (if 0<=U then ((a1.1[U.toNat]?).bind λa8=>if 0<=U then ((a1.2.1[U.toNat]?).bind λgf=>(fw.ae (a8,gf,())).bind λky=>cond (!ky.1) (some (false,()))<|self (ag (U+1))) else none) else none)<|e0 ()
def q0 (a1:A) (pc:(Unit)):P:=some (true,())
def r0:(Int)->P:=am (λw v=>b0 w (q0 a1) a1 v) k
theorem aw:@Eq ((Int)->P) (λU=>D.L k [1,1,0,1,0,0] [1,2,15,16,17] [] (ai 0 (ay (D.N k [1,1,1]) D.K0)) (T0 a1 U)) (r0 k a1):=
 funext λU=>av _ _ _ (T0 a1) _ (λrec v=>Bye) k U
def p (l0:(Int)->P) (a1:A):P:=cond (!decide ((a1.1.length:Int)=(a1.2.1.length:Int))) (some (false,()))<|l0 0
theorem af:@Eq P (D.W k a1) (p (r0 k a1) a1):=By8 (aw k a1) Bye
theorem ok:Ok prog 177 D.sig:=ap func177 az Bye (fc fw.ok (ak _))
end gk
namespace qK
abbrev A:=(List Byt)×(List Byt)×Unit
abbrev O:=Bool×Unit
noncomputable def D:FD:={ fn:=f102,tl:=bc,ps:=[(.ro,(.aa (.aa u8))),(.ro,(.aa (.aa u8)))],rs:=[(.bool,(an .bool))],gl:=[(177,gk.D.sig)] }
def ae (a:A):Option O:=@lift O λk=>D.W k a
def p (a1:A):Option O:=(gk.ae (a1.1,a1.2.1,((178,0):Nat×Int),())).bind λr2=>some (r2.1,())
theorem af (a1:A):@Eq (Option O) (D.W k a1) (p a1):=Bye
theorem ok:Ok prog 102 D.sig:=ap func102 az Bye (fc gk.ok (ak _))
end qK
namespace pY
abbrev A:=bi×Unit
abbrev O:=Int×Unit
noncomputable def D:FD:={ fn:=f46,tl:=bc,ps:=[(.ro,cw)],rs:=[(i64,(an i64))],gl:=[(79,lJ.D.sig),(81,oK.D.sig),(97,kX.D.sig),(98,iu.D.sig),(99,fi.D.sig),(100,oL.D.sig),(101,jW.D.sig),(102,qK.D.sig)],od:=[(13,[0,2,3,4,5,1,6,7,8])] }
def ae (a:A):Option O:=@lift O λk=>D.W k a
def p (a1:A):Option O:=(kX.ae (a1.1.2.2.1,())).bind λr2=>cond (!decide (r2.1=0)) (some (r2.1,()))<|cond (!a1.1.1) (cond (decide (0 < (a1.1.2.1.length:Int))) (some (1,()))<|cond (decide (0 < (a1.1.2.2.2.1.length:Int))) (some (1,()))<|cond (decide (0 < (a1.1.2.2.1.2.1.length:Int))) (some (1,()))<|(iu.ae (a1.1.2.2.2.2.1,1,100,())).bind λr3=>cond (!r3.1) (some (3,()))<|some (0,()))<|(fi.ae (a1.1.2.1,())).bind λr4=>cond (!decide (r4.2.1=0)) (some (r4.2.1,()))<|(jW.ae (r4.1,())).bind λr5=>(oL.ae ((r5.1,a1.1.2.2.2.1,a1.1.2.2.2.2.1,()),())).bind λr6=>cond (!decide (r6.1=0)) (some (r6.1,()))<|(lJ.ae (a1.1.2.2.1,())).bind λr7=>(oK.ae (r7.1,())).bind λr8=>cond (!decide (r8.2.1=0)) (some (8,()))<|(qK.ae (r8.1,a1.1.2.1,())).bind λr9=>cond (!r9.1) (some (8,()))<|some (0,())
theorem af (a1:A):@Eq (Option O) (D.W k a1) (p a1):=Bye
theorem ok:Ok prog 46 D.sig:=ap func46 az Bye (fc lJ.ok (fc oK.ok (fc kX.ok (fc iu.ok (fc fi.ok (fc oL.ok (fc jW.ok (fc qK.ok (ak _)))))))))
end pY
namespace gv
abbrev A:=(List Byt)×Unit
abbrev O:=(List Byt)×Unit
abbrev P:=Option O
noncomputable def D:FD:={ fn:=f82,tl:=bc,ps:=[(.ro,(.aa (.aa u8)))],rs:=[((.aa (.aa u8)),(aj (.aa (.aa u8))))],gl:=[(114,cm.D.sig)],lv:=[(3,[3,6,7,8])],lx:=[(0,[3])] }
def ae (a:A):P:=@lift O λk=>D.W k a
variable (a1:A)
def T0 (U:(List Byt)×Int):St:={ n:=19,sl:=[(3,.own (.aa (.aa u8)) (aj (.aa (.aa u8))) [] U.1),(6,.val (.aa (.aa u8)) a1.1),(7,.val i64 (a1.1.length:Int)),(8,.val i64 U.2)],vr:=[],aT:=[] }
def b0 (self:((List Byt)×Int)->P) (e0:(List Byt)->P) (a1:A) (U:(List Byt)×Int):P:=cond (decide (U.2 < (a1.1.length:Int))) (if 0<=U.2 then ((a1.1[U.2.toNat]?).bind λa8=>(cm.ae (a8,())).bind λcx=>if U.1.length+[cx.1].length<=b9 then (self (U.1++[cx.1],ag (U.2+1))) else none) else none)<|e0 U.1
def q0 (a1:A) (ez:(List Byt)):P:=some (ez,())
def r0:((List Byt)×Int)->P:=am (λw v=>b0 w (q0 a1) a1 v) k
theorem aw:@Eq (((List Byt)×Int)->P) (λU=>D.L k [1,1,0,1,0,0] [3,6,7,8] [] (ai 0 (ay (D.N k [1,1,1]) D.K0)) (T0 a1 U)) (r0 k a1):=
 funext λU=>av _ _ _ (T0 a1) _ (λrec v=>Bye) k U
def p (l0:((List Byt)×Int)->P) (a1:A):P:=l0 (([]:List Byt),0)
theorem af:@Eq P (D.W k a1) (p (r0 k a1) a1):=By8 (aw k a1) Bye
theorem ok:Ok prog 82 D.sig:=ap func82 az Bye (fc cm.ok (ak _))
end gv
namespace oY
abbrev A:=Log×Unit
abbrev O:=Log×Unit
noncomputable def D:FD:={ fn:=f83,tl:=bc,ps:=[(.ro,gd)],rs:=[(gd,(aj gd))],gl:=[(114,cm.D.sig)],od:=[(1,[0,1,3,4,2,5,6,7])] }
def ae (a:A):Option O:=@lift O λk=>D.W k a
def p (a1:A):Option O:=(cm.ae (a1.1.1,())).bind λr2=>(cm.ae (a1.1.2.1,())).bind λr3=>some ((r2.1,r3.1,()),())
theorem af (a1:A):@Eq (Option O) (D.W k a1) (p a1):=Bye
theorem ok:Ok prog 83 D.sig:=ap func83 az Bye (fc cm.ok (ak _))
end oY
namespace d8
abbrev A:=(List Change)×Unit
abbrev O:=(List Change)×Unit
noncomputable def D:FD:={ fn:=f188,tl:=bc,ps:=[(.ro,(.aa aq))],rs:=[((.aa aq),(aj (.aa aq)))] }
def ae (a:A):Option O:=@lift O λk=>D.W k a
def p (a1:A):Option O:=Ce a1.1 (some (([]:List Change),())) (if ([]:List Change).length+a1.1.length<=b9 then (some (([]:List Change)++a1.1,())) else none)
theorem af (a1:A):@Eq (Option O) (D.W k a1) (p a1):=Bye
theorem ok:Ok prog 188 D.sig:=ap func188 az Bye (ak _)
end d8
namespace mI
abbrev A:=(List Int)×Unit
abbrev O:=(List Int)×Unit
noncomputable def D:FD:={ fn:=f189,tl:=bc,ps:=[(.ro,(.aa i64))],rs:=[((.aa i64),(aj (.aa i64)))] }
def ae (a:A):Option O:=@lift O λk=>D.W k a
def p (a1:A):Option O:=Ce a1.1 (some (([]:List Int),())) (if ([]:List Int).length+a1.1.length<=b9 then (some (([]:List Int)++a1.1,())) else none)
theorem af (a1:A):@Eq (Option O) (D.W k a1) (p a1):=Bye
theorem ok:Ok prog 189 D.sig:=ap func189 az Bye (ak _)
end mI
namespace nV
abbrev A:=(List Key)×Unit
abbrev O:=(List Key)×Unit
noncomputable def D:FD:={ fn:=f190,tl:=bc,ps:=[(.ro,(.aa bp))],rs:=[((.aa bp),(aj (.aa bp)))] }
def ae (a:A):Option O:=@lift O λk=>D.W k a
def p (a1:A):Option O:=Ce a1.1 (some (([]:List Key),())) (if ([]:List Key).length+a1.1.length<=b9 then (some (([]:List Key)++a1.1,())) else none)
theorem af (a1:A):@Eq (Option O) (D.W k a1) (p a1):=Bye
theorem ok:Ok prog 190 D.sig:=ap func190 az Bye (ak _)
end nV
namespace of
abbrev A:=(List Tx)×Unit
abbrev O:=(List Tx)×Unit
abbrev P:=Option O
noncomputable def D:FD:={ fn:=f108,tl:=bc,ps:=[(.ro,(.aa df))],rs:=[((.aa df),(aj (.aa df)))],gl:=[(188,d8.D.sig),(189,mI.D.sig),(190,nV.D.sig)],lv:=[(3,[3,6,7,8])],lx:=[(0,[3])],od:=[(5,[0,1,2,3,4,6,7,9,10,5,8,11,12,13,14,15])] }
def ae (a:A):P:=@lift O λk=>D.W k a
variable (a1:A)
def T0 (U:(List Tx)×Int):St:={ n:=29,sl:=[(3,.own (.aa df) (aj (.aa df)) [] U.1),(6,.val (.aa df) a1.1),(7,.val i64 (a1.1.length:Int)),(8,.val i64 U.2)],vr:=[],aT:=[] }
def b0 (self:((List Tx)×Int)->P) (e0:(List Tx)->P) (a1:A) (U:(List Tx)×Int):P:=cond (decide (U.2 < (a1.1.length:Int))) (if 0<=U.2 then ((a1.1[U.2.toNat]?).bind λa8=>(d8.ae (a8.2.1,())).bind λcx=>(mI.ae (a8.2.2.1,())).bind λky=>(nV.ae (a8.2.2.2.1,())).bind λiQ=>if U.1.length+[(a8.1,cx.1,ky.1,iQ.1,())].length<=b9 then (let Bj:=U.1++[(a8.1,cx.1,ky.1,iQ.1,())];self (Bj,ag (U.2+1))) else none) else none)<|e0 U.1
def q0 (a1:A) (oC:(List Tx)):P:=some (oC,())
def r0:((List Tx)×Int)->P:=am (λw v=>b0 w (q0 a1) a1 v) k
theorem aw:@Eq (((List Tx)×Int)->P) (λU=>D.L k [1,1,0,1,0,0] [3,6,7,8] [] (ai 0 (ay (D.N k [1,1,1]) D.K0)) (T0 a1 U)) (r0 k a1):=
 funext λU=>av _ _ _ (T0 a1) _ (λrec v=>Bye) k U
def p (l0:((List Tx)×Int)->P) (a1:A):P:=l0 (([]:List Tx),0)
theorem af:@Eq P (D.W k a1) (p (r0 k a1) a1):=By8 (aw k a1) Bye
theorem ok:Ok prog 108 D.sig:=ap func108 az Bye (fc d8.ok (fc mI.ok (fc nV.ok (ak _))))
end of
namespace qL
abbrev A:=bi×Unit
abbrev O:=bi×Unit
noncomputable def D:FD:={ fn:=f50,tl:=bc,ps:=[(.ro,cw)],rs:=[(cw,(aj cw))],gl:=[(82,gv.D.sig),(83,oY.D.sig),(108,of.D.sig)],od:=[(1,[0,1,2,3,5,6,8,9,11,12,4,7,10,13,14])] }
def ae (a:A):Option O:=@lift O λk=>D.W k a
def p (a1:A):Option O:=(gv.ae (a1.1.2.1,())).bind λr2=>(oY.ae (a1.1.2.2.1,())).bind λr3=>(of.ae (a1.1.2.2.2.1,())).bind λr4=>some ((a1.1.1,r2.1,r3.1,r4.1,a1.1.2.2.2.2.1,()),())
theorem af (a1:A):@Eq (Option O) (D.W k a1) (p a1):=Bye
theorem ok:Ok prog 50 D.sig:=ap func50 az Bye (fc gv.ok (fc oY.ok (fc of.ok (ak _))))
end qL
end
end OT
