/- The proof's parts, merged: Printed by gen.py, a program of this claim  what each Go function computes.. No conditions but those that each states. -/
import Derived.Test.YtghckfpmmofmnaaGreatRf
set_option maxRecDepth 100000
set_option linter.unusedVariables false
namespace OT
open Go Go.Proofs.Tryz
noncomputable section
variable (k:Nat)
namespace sP
abbrev A:=Log×Unit
abbrev O:=Byt×Unit
noncomputable def D:FD:={ fn:=f144,tl:=bc,ps:=[(.ro,gd)],rs:=[((.aa u8),(aj (.aa u8)))],gl:=[(114,cm.D.sig)],od:=[(1,[0,1,3,4,2,5,6])] }
def ae (a:A):Option O:=@lift O λk=>D.W k a
def p (a1:A):Option O:=(cm.ae (a1.1.1,())).bind λr2=>if r2.1.length+a1.1.2.1.length<=b9 then (some (r2.1++a1.1.2.1,())) else none
theorem af (a1:A):@Eq (Option O) (D.W k a1) (p a1):=Bye
theorem ok:Ok prog 144 D.sig:=ap func144 az Bye (fc cm.ok (ak _))
end sP
namespace pZ
abbrev A:=Log×Unit
abbrev O:=Log×Unit
noncomputable def D:FD:={ fn:=f84,tl:=bc,ps:=[(.ro,gd)],rs:=[(gd,(aj gd))],gl:=[(144,sP.D.sig)] }
def ae (a:A):Option O:=@lift O λk=>D.W k a
def p (a1:A):Option O:=(sP.ae (a1.1,())).bind λr2=>some ((r2.1,([]:Byt),()),())
theorem af (a1:A):@Eq (Option O) (D.W k a1) (p a1):=Bye
theorem ok:Ok prog 84 D.sig:=ap func84 az Bye (fc sP.ok (ak _))
end pZ
namespace oD
abbrev A:=Log×bg×Unit
abbrev O:=Log×Bool×Unit
noncomputable def D:FD:={ fn:=f191,tl:=bc,ps:=[(.ro,gd),(.ro,du)],rs:=[(gd,(an gd)),(.bool,(an .bool))],gl:=[(49,mX.D.sig),(114,cm.D.sig),(262,ii.D.sig)],od:=[(4,[0,1,2,3,5,4,6,7,8,9])],ar:=[(4,[1,3])],bx:=[(4,[2])] }
def ae (a:A):Option O:=@lift O λk=>D.W k a
def p (a1:A):Option O:=(ii.ae (a1.2.1,())).bind λr2=>(mX.ae (a1.1,())).bind λr3=>cond (decide (16000 < ag (r3.1+(r2.1.length:Int)))) (some (a1.1,false,()))<|(cm.ae (a1.1.2.1,())).bind λr4=>if r4.1.length+r2.1.length<=b9 then (some ((a1.1.1,r4.1++r2.1,()),true,())) else none
theorem af (a1:A):@Eq (Option O) (D.W k a1) (p a1):=Bye
theorem ok:Ok prog 191 D.sig:=ap func191 az Bye (fc mX.ok (fc cm.ok (fc ii.ok (ak _))))
end oD
namespace kF
abbrev A:=bi×bg×Unit
abbrev O:=Int×bi×Unit
noncomputable def D:FD:={ fn:=f109,tl:=bc,ps:=[(.ke Byb Byb,cw),(.ro,du)],rs:=[(i64,(an i64))],gl:=[(191,oD.D.sig)],es:=[0],fz:=[(1,3,7),(1,4,7)],od:=[(1,[0,1,2,3,4,5,6,7,8,9,10,11])],ar:=[(1,[])],pd:=[(1,[9])],er:=[(1,[(3,12),(4,12)])] }
def ae (a:A):Option O:=@lift O λk=>D.W k a
def p (a1:A):Option O:=(oD.ae (a1.1.2.2.1,a1.2.1,())).bind λr2=>cond (!r2.2.1) (some (9,a1.1,()))<|some (0,(a1.1.1,a1.1.2.1,r2.1,a1.1.2.2.2),())
theorem af (a1:A):@Eq (Option O) (D.W k a1) (p a1):=Bye
theorem ok:Ok prog 109 D.sig:=ap func109 az Bye (fc oD.ok (ak _))
end kF
namespace st
abbrev A:=(List Byt)×Unit
abbrev O:=ba×Unit
noncomputable def D:FD:={ fn:=f264,tl:=bc,ps:=[(.ro,(.aa (.aa u8)))],rs:=[((.ptr dh),(aj (.ptr dh)))],gl:=[(82,gv.D.sig)] }
def ae (a:A):Option O:=@lift O λk=>D.W k a
def p (a1:A):Option O:=(gv.ae (a1.1,())).bind λr2=>some ((r2.1,([]:List cq),()),())
theorem af (a1:A):@Eq (Option O) (D.W k a1) (p a1):=Bye
theorem ok:Ok prog 264 D.sig:=ap func264 az Bye (fc gv.ok (ak _))
end st
namespace qo
abbrev A:=(List Seen)×Int×Int×Unit
abbrev O:=Seen×Bool×Unit
abbrev P:=Option O
noncomputable def D:FD:={ fn:=f265,tl:=bc,ps:=[(.ro,(.aa gz)),(.ro,i64),(.ro,i64)],rs:=[(gz,(an gz)),(.bool,(an .bool))],lv:=[(2,[1,2,6,10,11,12])],lx:=[(0,[6])] }
def ae (a:A):P:=@lift O λk=>D.W k a
variable (a1:A)
def T0 (U:Int):St:={ n:=31,sl:=[(1,.val i64 a1.2.1),(2,.val i64 a1.2.2.1),(6,.box gz (an gz) [] (((0:Int),(0:Int),(0:Int),([]:Byt),()),(0:Int),(0:Int),false,(0:Int),(0:Int),())),(10,.val (.aa gz) a1.1),(11,.val i64 (a1.1.length:Int)),(12,.val i64 U)],vr:=[],aT:=[] }
def b0 (self:Int->P) (e0:(Unit)->P) (a1:A) (U:Int):P:=cond (decide (U < (a1.1.length:Int))) (if 0<=U then ((a1.1[U.toNat]?).bind λa8=>cond (decide (a8.1.1=a1.2.1)) (cond (decide (a8.1.2.1=a1.2.2.1)) (some (a8,true,()))<|self (ag (U+1)))<|self (ag (U+1))) else none)<|e0 ()
def q0 (a1:A) (mU:(Unit)):P:=some (((0,0,0,([]:Byt),()),0,0,false,0,0,()),false,())
def r0:(Int)->P:=am (λw v=>b0 w (q0 a1) a1 v) k
theorem aw:@Eq ((Int)->P) (λU=>D.L k [1,0,1,0,0] [1,2,6,10,11,12] [] (ai 0 (ay (D.N k [1,1]) D.K0)) (T0 a1 U)) (r0 k a1):=
 funext λU=>av _ _ _ (T0 a1) _ (λrec v=>Bye) k U
def p (l0:(Int)->P) (a1:A):P:=l0 0
theorem af:@Eq P (D.W k a1) (p (r0 k a1) a1):=By8 (aw k a1) Bye
theorem ok:Ok prog 265 D.sig:=ap func265 az Bye (ak _)
end qo
namespace lK
abbrev A:=ba×Unit
abbrev O:=d7×Unit
noncomputable def D:FD:={ fn:=f270,tl:=bc,ps:=[(.tw (aj dh),dh)],rs:=[(dv,(aj dv))],fz:=[(1,3,7),(1,7,7)],od:=[(1,[0,1,2,3,4,5,6,7,8,9])] }
def ae (a:A):Option O:=@lift O λk=>D.W k a
def p (a1:A):Option O:=some ((0,a1.1.2.1,a1.1.1,()),())
theorem af (a1:A):@Eq (Option O) (D.W k a1) (p a1):=Bye
theorem ok:Ok prog 270 D.sig:=ap func270 az Bye (ak _)
end lK
namespace np
abbrev A:=ba×Bool×Unit
abbrev O:=d7×Unit
noncomputable def D:FD:={ fn:=f266,tl:=bc,ps:=[(.tw (aj dh),dh),(.ro,.bool)],rs:=[(dv,(aj dv))],gl:=[(270,lK.D.sig)] }
def ae (a:A):Option O:=@lift O λk=>D.W k a
def p (a1:A):Option O:=cond (!a1.2.1) (some ((9,([]:List cq),([]:List Byt),()),()))<|(lK.ae (a1.1,())).bind λr2=>some (r2.1,())
theorem af (a1:A):@Eq (Option O) (D.W k a1) (p a1):=Bye
theorem ok:Ok prog 266 D.sig:=ap func266 az Bye (fc lK.ok (ak _))
end np
namespace mm
abbrev A:=Byt×Byt×Unit
abbrev O:=Int×Unit
noncomputable def D:FD:={ fn:=f353,tl:=bc,ps:=[(.ro,(.aa u8)),(.ro,(.aa u8))],rs:=[(i64,(an i64))],gl:=[(169,bm.D.sig)] }
def ae (a:A):Option O:=@lift O λk=>D.W k a
def p (a1:A):Option O:=(bm.ae (a1.1,())).bind λr2=>cond (!decide (r2.1=0)) (some (r2.1,()))<|cond (decide ((a1.2.1.length:Int) < 1)) (some (1,()))<|cond (decide (20 < (a1.2.1.length:Int))) (some (1,()))<|some (0,())
theorem af (a1:A):@Eq (Option O) (D.W k a1) (p a1):=Bye
theorem ok:Ok prog 353 D.sig:=ap func353 az Bye (fc bm.ok (ak _))
end mm
namespace kQ
abbrev A:=Byt×Unit
abbrev O:=Int×Unit
abbrev P:=Option O
noncomputable def D:FD:={ fn:=f354,tl:=bc,ps:=[(.ro,(.aa u8))],rs:=[(i64,(an i64))],gl:=[(170,ft.D.sig),(253,lZ.D.sig)],lv:=[(3,[0,3,12,13])],lx:=[(0,[3])] }
def ae (a:A):P:=@lift O λk=>D.W k a
variable (a1:A)
def T0 (fd:Int) (c7:Int×Int):St:={ n:=27,sl:=[(0,.val (.aa u8) a1.1),(3,.val i64 c7.1),(12,.val i64 fd),(13,.val i64 c7.2)],vr:=[],aT:=[] }
def b0 (self:(Int×Int)->P) (e0:Int->P) (a1:A) (fd:Int) (c7:Int×Int):P:=cond (decide (c7.2 < fd)) ((lZ.ae (a1.1,c7.2,())).bind λiQ=>self (ag (c7.1 - iQ.2.1),ag (c7.2+1)))<|e0 c7.1
def q0 (a1:A) (fd:Int) (lI:Int):P:=some (lI,())
def r0:Int->(Int×Int)->P:=λfd=>am (λw v=>b0 w (q0 a1 fd) a1 fd v) k
theorem aw:@Eq (Int->(Int×Int)->P) (λfd=>λc7=>D.L k [1,1,0,1,0,0] [0,3,12,13] [] (ai 0 (ay (D.N k [1,1,1]) D.K0)) (T0 a1 fd c7)) (r0 k a1):=
 funext λfd=>funext λc7=>av _ _ _ (T0 a1 fd) _ (λrec v=>Bye) k c7
def p (l0:Int->(Int×Int)->P) (a1:A):P:=(ft.ae (a1.1,())).bind λr2=>(ft.ae (a1.1,())).bind λr3=>l0 r3.1 (ag (62 - (ag (2*r2.1))),0)
theorem af:@Eq P (D.W k a1) (p (r0 k a1) a1):=By8 (aw k a1) Bye
theorem ok:Ok prog 354 D.sig:=ap func354 az Bye (fc ft.ok (fc lZ.ok (ak _)))
end kQ
namespace ou
abbrev A:=Byt×Int×Int×Byt×Unit
abbrev O:=Byt×Unit
noncomputable def D:FD:={ fn:=f355,tl:=bc,ps:=[(.ro,(.aa u8)),(.ro,i64),(.ro,i64),(.ro,(.aa u8))],rs:=[((.aa u8),(aj (.aa u8)))],gl:=[(114,cm.D.sig)] }
def ae (a:A):Option O:=@lift O λk=>D.W k a
def p (a1:A):Option O:=(cm.ae (a1.1,())).bind λr2=>if 0<=a1.2.2.1/\a1.2.2.1<=(r2.1.length:Int) then (let y3:=pD r2.1 a1.2.2.1.toNat (min a1.2.2.2.1.length (r2.1.length - a1.2.2.1.toNat)) a1.2.2.2.1;if 0<=ag (2+(ag (2*a1.2.1)))/\ag (2+(ag (2*a1.2.1))) < (y3.length:Int) then ((y3[(ag ((2:Int)+(ag ((2:Int)*a1.2.1)))).toNat]?).bind λx4=>let y5:=y3.set (ag (2+(ag (2*a1.2.1)))).toNat (UInt8.ofInt a1.2.2.1);if 0<=ag (3+(ag (2*a1.2.1)))/\ag (3+(ag (2*a1.2.1))) < (y5.length:Int) then ((y5[(ag ((3:Int)+(ag ((2:Int)*a1.2.1)))).toNat]?).bind λx6=>let y7:=y5.set (ag (3+(ag (2*a1.2.1)))).toNat (UInt8.ofInt (a1.2.2.2.1.length:Int));some (y7,())) else none) else none) else none
theorem af (a1:A):@Eq (Option O) (D.W k a1) (p a1):=Bye
theorem ok:Ok prog 355 D.sig:=ap func355 az Bye (fc cm.ok (ak _))
end ou
namespace iy
abbrev A:=Byt×Byt×Unit
abbrev O:=zb×Unit
abbrev P:=Option O
noncomputable def D:FD:={ fn:=f336,tl:=bc,ps:=[(.ro,(.aa u8)),(.ro,(.aa u8))],rs:=[(lH,(aj lH))],gl:=[(170,ft.D.sig),(353,mm.D.sig),(354,kQ.D.sig),(355,ou.D.sig)],lv:=[(6,[0,1,4,6,7])],lx:=[(0,[0,1,4,6,7])] }
def ae (a:A):P:=@lift O λk=>D.W k a
variable (a1:A)
def T0 (fd:Int) (c7:Int):St:={ n:=88,sl:=[(0,.val (.aa u8) a1.1),(1,.val (.aa u8) a1.2.1),(4,.box lH (aj lH) [] ((0:Int),(0:Int),([]:Byt),())),(6,.val i64 fd),(7,.val i64 c7)],vr:=[],aT:=[] }
def b0 (self:Int->P) (e0:Int->P) (a1:A) (fd:Int) (c7:Int):P:=cond (decide (c7 < fd)) (if 0<=ag (3+(ag (2*c7))) then ((a1.1[(ag ((3:Int)+(ag ((2:Int)*c7)))).toNat]?).bind λqJ=>cond (!decide ((qJ.toNat:Int)=0)) (self (ag (c7+1)))<|e0 c7) else none)<|e0 c7
def q0 (fd:Int) (lI:Int):P:=let acW:=λ(Zv:Int)=>((kQ.ae (a1.1,())).bind λU_=>cond (decide (U_.1 < ag ((a1.2.1.length:Int)+Zv))) (some ((9,0,([]:Byt),()),()))<|(a1.1[1]?).bind λub=>cond (decide (ag ((ag (ub.toNat:Int)) - (ag ((ag (2+(ag (2*fd))))+Zv))) < (a1.2.1.length:Int))) (some ((8,0,([]:Byt),()),()))<|(ou.ae (a1.1,lI,ag ((ag (ub.toNat:Int)) - (a1.2.1.length:Int)),a1.2.1,())).bind λz7=>if 0<=(0:Int)/\0 < (z7.1.length:Int) then ((z7.1[0]?).bind λFx=>let z8:=z7.1.set 0 (UInt8.ofInt (ag (fd+(ag (Zv.tdiv 2)))));if 0<=(1:Int)/\1 < (z8.length:Int) then ((z8[1]?).bind λPN=>let Zw:=z8.set 1 (UInt8.ofInt (ag ((ag (ub.toNat:Int)) - (a1.2.1.length:Int))));some ((0,lI,Zw,()),())) else none) else none:P);cond (decide (lI=fd)) (cond (decide (fd=16)) (some ((2,0,([]:Byt),()),()))<|acW 2)<|acW 0
def r0:Int->(Int)->P:=λfd=>am (λw v=>b0 w (q0 a1 fd) a1 fd v) k
theorem aw:@Eq (Int->(Int)->P) (λfd=>λc7=>D.L k [1,1,1,1,0,0,0] [0,1,4,6,7] [] (ai 0 (ay (D.N k [1,1,1,1,1]) D.K0)) (T0 a1 fd c7)) (r0 k a1):=
 funext λfd=>funext λc7=>av _ _ _ (T0 a1 fd) _ (λrec v=>Bye) k c7
def p (l0:Int->(Int)->P) (a1:A):P:=(mm.ae (a1.1,a1.2.1,())).bind λr2=>cond (!decide (r2.1=0)) (some ((r2.1,0,([]:Byt),()),()))<|(ft.ae (a1.1,())).bind λr3=>l0 r3.1 0
theorem af:@Eq P (D.W k a1) (p (r0 k a1) a1):=By8 (aw k a1) Bye
theorem ok:Ok prog 336 D.sig:=ap func336 az Bye (fc ft.ok (fc mm.ok (fc kQ.ok (fc ou.ok (ak _)))))
end iy
namespace gq
abbrev A:=ba×Int×Byt×Unit
abbrev O:=ba×Unit
noncomputable def D:FD:={ fn:=f338,tl:=bc,ps:=[(.ke (aj dh) (aj dh),dh),(.ro,i64),(.ro,(.aa u8))],rs:=[],gl:=[(114,cm.D.sig)],es:=[0],od:=[(1,[0,1,2,3,4,5,6,7,8,9,10,11]),(2,[0,1,2,3,4,5,6,7,8,9,10]),(3,[0,1,2,3,4,5,6,7,8]),(4,[0,1,2,3,4,5,6,7,8,9,10,11,12,13])] }
def ae (a:A):Option O:=@lift O λk=>D.W k a
def p (a1:A):Option O:=let j9:=λ(p8:ba)=>((cm.ae (a1.2.2.1,())).bind λwE=>if p8.2.1.length+[(a1.2.1,wE.1,())].length<=b9 then (some ((p8.1,p8.2.1++[(a1.2.1,wE.1,())],p8.2.2),())) else none:Option O);cond (decide (a1.2.1=(a1.1.1.length:Int))) ((cm.ae (a1.2.2.1,())).bind λr2=>if a1.1.1.length+[r2.1].length<=b9 then (j9 (a1.1.1++[r2.1],a1.1.2)) else none)<|if 0<=a1.2.1/\a1.2.1 < (a1.1.1.length:Int) then ((a1.1.1[a1.2.1.toNat]?).bind λx3=>(a1.1.1[a1.2.1.toNat]?).bind λx4=>cond (decide (x4=a1.2.2.1)) (some (a1.1,()))<|(cm.ae (a1.2.2.1,())).bind λr5=>if 0<=a1.2.1/\a1.2.1 < (a1.1.1.length:Int) then ((a1.1.1[a1.2.1.toNat]?).bind λx6=>j9 (a1.1.1.set a1.2.1.toNat r5.1,a1.1.2)) else none) else none
theorem af (a1:A):@Eq (Option O) (D.W k a1) (p a1):=Bye
theorem ok:Ok prog 338 D.sig:=ap func338 az Bye (fc cm.ok (ak _))
end gq
namespace ir
abbrev A:=Byt×Unit
abbrev O:=zb×Unit
abbrev P:=Option O
noncomputable def D:FD:={ fn:=f356,tl:=bc,ps:=[(.ro,(.aa u8))],rs:=[(lH,(aj lH))],gl:=[(169,bm.D.sig),(170,ft.D.sig),(171,iv.D.sig),(173,mz.D.sig)],lv:=[(9,[0,2,5,6,25,26])],lx:=[(0,[2,5,6]),(1,[0,2,5,6,25,26])] }
def ae (a:A):P:=@lift O λk=>D.W k a
variable (a1:A)
def T0 (d0:Int) (dO:Byt×Int×Int):St:={ n:=59,sl:=[(0,.val (.aa u8) a1.1),(2,.box lH (aj lH) [] ((0:Int),(0:Int),([]:Byt),())),(5,.own (.aa u8) (aj (.aa u8)) [] dO.1),(6,.val i64 dO.2.1),(25,.val i64 d0),(26,.val i64 dO.2.2)],vr:=[],aT:=[] }
def b0 (self:(Byt×Int×Int)->P) (e0:(Byt×Int)->P) (a1:A) (d0:Int) (dO:Byt×Int×Int):P:=cond (decide (dO.2.2 < d0)) ((iv.ae (a1.1,dO.2.2,())).bind λjq=>cond (!jq.1) (self (dO.1,dO.2.1,ag (dO.2.2+1)))<|(mz.ae (a1.1,dO.2.2,())).bind λqx=>if 0<=ag (dO.2.1 - (qx.1.length:Int))/\ag (dO.2.1 - (qx.1.length:Int))<=(dO.1.length:Int) then (let JJ:=pD dO.1 (ag (dO.2.1 - (qx.1.length:Int))).toNat (min qx.1.length (dO.1.length - (ag (dO.2.1 - (qx.1.length:Int))).toNat)) qx.1;if 0<=ag (2+(ag (2*dO.2.2)))/\ag (2+(ag (2*dO.2.2))) < (JJ.length:Int) then ((JJ[(ag ((2:Int)+(ag ((2:Int)*dO.2.2)))).toNat]?).bind λJI=>let Zr:=JJ.set (ag (2+(ag (2*dO.2.2)))).toNat (UInt8.ofInt (ag (dO.2.1 - (qx.1.length:Int))));self (Zr,ag (dO.2.1 - (qx.1.length:Int)),ag (dO.2.2+1))) else none) else none)<|e0 (dO.1,dO.2.1)
def q0 (a1:A) (d0:Int) (Va:(Byt×Int)):P:=if 0<=(1:Int)/\1 < (Va.1.length:Int) then ((Va.1[1]?).bind λHf=>some ((0,0,Va.1.set 1 (UInt8.ofInt Va.2),()),())) else none
def r0:Int->(Byt×Int×Int)->P:=λd0=>am (λw v=>b0 w (q0 a1 d0) a1 d0 v) k
theorem aw:@Eq (Int->(Byt×Int×Int)->P) (λd0=>λdO=>D.L k [1,1,1,1,1,1,0,1,0,0] [0,2,5,6,25,26] [] (ai 0 (ay (D.N k [1,1,1,1,1,1,1]) D.K0)) (T0 a1 d0 dO)) (r0 k a1):=
 funext λd0=>funext λdO=>av _ _ _ (T0 a1 d0) _ (λrec v=>Bye) k dO
def p (l0:Int->(Byt×Int×Int)->P) (a1:A):P:=(bm.ae (a1.1,())).bind λr2=>cond (!decide (r2.1=0)) (some ((r2.1,0,([]:Byt),()),()))<|(ft.ae (a1.1,())).bind λr3=>if 0<=(64:Int)/\(64:Int)<=64/\64<=(b9:Int) then (if 0<=ag (2+(ag (2*r3.1)))/\ag (2+(ag (2*r3.1)))<=(a1.1.length:Int) then (let y4:=pD (List.replicate 64 (0:UInt8)) 0 (min ((a1.1.take (ag (2+(ag (2*r3.1)))).toNat).drop 0).length (List.replicate 64 (0:UInt8)).length) ((a1.1.take (ag (2+(ag (2*r3.1)))).toNat).drop 0);l0 r3.1 (y4,64,0)) else none) else none
theorem af:@Eq P (D.W k a1) (p (r0 k a1) a1):=By8 (aw k a1) Bye
theorem ok:Ok prog 356 D.sig:=ap func356 az Bye (fc bm.ok (fc ft.ok (fc iv.ok (fc mz.ok (ak _)))))
end ir
namespace jP
abbrev A:=ba×Int×Unit
abbrev O:=ba×Unit
noncomputable def D:FD:={ fn:=f337,tl:=bc,ps:=[(.ke (aj dh) (aj dh),dh),(.ro,i64)],rs:=[],gl:=[(338,gq.D.sig),(356,ir.D.sig)],es:=[0] }
def ae (a:A):Option O:=@lift O λk=>D.W k a
def p (a1:A):Option O:=if 0<=a1.2.1/\a1.2.1 < (a1.1.1.length:Int) then ((a1.1.1[a1.2.1.toNat]?).bind λx2=>(a1.1.1[a1.2.1.toNat]?).bind λx3=>(ir.ae (x3,())).bind λr4=>(gq.ae (a1.1,a1.2.1,r4.1.2.2.1,())).bind λr5=>some (r5.1,())) else none
theorem af (a1:A):@Eq (Option O) (D.W k a1) (p a1):=Bye
theorem ok:Ok prog 337 D.sig:=ap func337 az Bye (fc gq.ok (fc ir.ok (ak _)))
end jP
namespace gm
abbrev A:=ba×Byt×Int×Unit
abbrev O:=Int×Int×Bool×ba×Unit
abbrev P:=Option O
noncomputable def D:FD:={ fn:=f306,tl:=bc,ps:=[(.ke (aj dh) (aj dh),dh),(.ro,(.aa u8)),(.ro,i64)],rs:=[(i64,(an i64)),(i64,(an i64)),(.bool,(an .bool))],gl:=[(193,jc.D.sig),(336,iy.D.sig),(337,jP.D.sig),(338,gq.D.sig)],es:=[0],lv:=[(2,[0,1,2,16,17])],lx:=[(0,[0,1]),(1,[0,1,2,16,17])],od:=[(11,[0,1,2,3,4,5]),(16,[0,1,2,3,4,5,6,7,8]),(17,[0,1,2,3,4,5,6,7,8,9,10])] }
def ae (a:A):P:=@lift O λk=>D.W k a
variable (a1:A)
def T0 (U:ba×Int):St:={ n:=85,sl:=[(0,.box dh (aj dh) [] U.1),(1,.val (.aa u8) a1.2.1),(2,.val i64 a1.2.2.1),(16,.val i64 (a1.1.1.length:Int)),(17,.val i64 U.2)],vr:=[],aT:=[(0,0,false)] }
def b0 (self:(ba×Int)->P) (e0:ba->P) (a1:A) (U:ba×Int):P:=cond (decide (U.2 < (a1.1.1.length:Int))) (cond (decide (U.2=a1.2.2.1)) (self (U.1,ag (U.2+1)))<|if 0<=U.2/\U.2 < (U.1.1.length:Int) then ((U.1.1[U.2.toNat]?).bind λa8=>(U.1.1[U.2.toNat]?).bind λgf=>(iy.ae (gf,a1.2.1,())).bind λky=>let Fs:=λ(CU:ba) (sf:zb)=>(cond (decide (sf.1=0)) ((gq.ae (CU,U.2,sf.2.2.1,())).bind λzZ=>some (U.2,sf.2.1,true,zZ.1,()))<|self (CU,ag (U.2+1)):P);cond (decide (ky.1.1=8)) ((jP.ae (U.1,U.2,())).bind λiQ=>if 0<=U.2/\U.2 < (iQ.1.1.length:Int) then ((iQ.1.1[U.2.toNat]?).bind λtk=>(iQ.1.1[U.2.toNat]?).bind λCQ=>(iy.ae (CQ,a1.2.1,())).bind λwD=>Fs iQ.1 wD.1) else none)<|Fs U.1 ky.1) else none)<|e0 U.1
def q0 (Mn:ba):P:=cond (decide ((Mn.1.length:Int)=12)) (some (0,0,false,Mn,()))<|(jc.ae ((0:UInt8),())).bind λU3=>(iy.ae (U3.1,a1.2.1,())).bind λU_=>(gq.ae (Mn,(Mn.1.length:Int),U_.1.2.2.1,())).bind λacX=>some (ag ((acX.1.1.length:Int) - 1),U_.1.2.1,true,acX.1,())
def r0:(ba×Int)->P:=am (λw v=>b0 w (q0 a1) a1 v) k
theorem aw:@Eq ((ba×Int)->P) (λU=>D.L k [1,0,1,0,0] [0,1,2,16,17] [] (ai 0 (ay (D.N k [1,1]) D.K0)) (T0 a1 U)) (r0 k a1):=
 funext λU=>av _ _ _ (T0 a1) _ (λrec v=>Bye) k U
def p (l0:(ba×Int)->P) (a1:A):P:=l0 (a1.1,0)
theorem af:@Eq P (D.W k a1) (p (r0 k a1) a1):=By8 (aw k a1) Bye
theorem ok:Ok prog 306 D.sig:=ap func306 az Bye (fc jc.ok (fc iy.ok (fc jP.ok (fc gq.ok (ak _)))))
end gm
namespace oM
abbrev A:=Int×Row×Unit
abbrev O:=Byt×Unit
noncomputable def D:FD:={ fn:=f307,tl:=bc,ps:=[(.ro,i64),(.ro,bd)],rs:=[((.aa u8),(aj (.aa u8)))] }
def ae (a:A):Option O:=@lift O λk=>D.W k a
def p (a1:A):Option O:=if [UInt8.ofInt a1.1,UInt8.ofInt a1.2.1.1,UInt8.ofInt a1.2.1.2.1,UInt8.ofInt (a1.2.1.2.2.1.fdiv (2 ^ 8)),UInt8.ofInt a1.2.1.2.2.1,UInt8.ofInt (a1.2.1.2.2.2.1.length:Int)].length+a1.2.1.2.2.2.1.length<=b9 then (let y2:=[UInt8.ofInt a1.1,UInt8.ofInt a1.2.1.1,UInt8.ofInt a1.2.1.2.1,UInt8.ofInt (a1.2.1.2.2.1.fdiv (2 ^ 8)),UInt8.ofInt a1.2.1.2.2.1,UInt8.ofInt (a1.2.1.2.2.2.1.length:Int)]++a1.2.1.2.2.2.1;some (y2,())) else none
theorem af (a1:A):@Eq (Option O) (D.W k a1) (p a1):=Bye
theorem ok:Ok prog 307 D.sig:=ap func307 az Bye (ak _)
end oM
namespace pg
abbrev A:=ba×Row×Unit
abbrev O:=Bool×ba×Unit
noncomputable def D:FD:={ fn:=f267,tl:=bc,ps:=[(.ke (aj dh) (aj dh),dh),(.ro,bd)],rs:=[(.bool,(an .bool))],gl:=[(306,gm.D.sig),(307,oM.D.sig)],es:=[0] }
def ae (a:A):Option O:=@lift O λk=>D.W k a
def p (a1:A):Option O:=(oM.ae (0,a1.2.1,())).bind λr2=>(gm.ae (a1.1,r2.1,(-1),())).bind λr3=>some (r3.2.2.1,r3.2.2.2.1,())
theorem af (a1:A):@Eq (Option O) (D.W k a1) (p a1):=Bye
theorem ok:Ok prog 267 D.sig:=ap func267 az Bye (fc gm.ok (fc oM.ok (ak _)))
end pg
namespace p5
abbrev A:=Byt×Int×Byt×Unit
abbrev O:=zb×Unit
noncomputable def D:FD:={ fn:=f339,tl:=bc,ps:=[(.ro,(.aa u8)),(.ro,i64),(.ro,(.aa u8))],rs:=[(lH,(aj lH))],gl:=[(170,ft.D.sig),(171,iv.D.sig),(253,lZ.D.sig),(353,mm.D.sig),(354,kQ.D.sig),(355,ou.D.sig)] }
def ae (a:A):Option O:=@lift O λk=>D.W k a
def p (a1:A):Option O:=(mm.ae (a1.1,a1.2.2.1,())).bind λr2=>cond (!decide (r2.1=0)) (some ((r2.1,0,([]:Byt),()),()))<|(iv.ae (a1.1,a1.2.1,())).bind λr3=>cond (!r3.1) (some ((4,0,([]:Byt),()),()))<|(lZ.ae (a1.1,a1.2.1,())).bind λr4=>cond (decide ((a1.2.2.1.length:Int)<=r4.2.1)) ((ou.ae (a1.1,a1.2.1,ag ((ag (r4.1+r4.2.1)) - (a1.2.2.1.length:Int)),a1.2.2.1,())).bind λr5=>some ((0,a1.2.1,r5.1,()),()))<|(kQ.ae (a1.1,())).bind λr6=>cond (decide (ag (r6.1+r4.2.1) < (a1.2.2.1.length:Int))) (some ((9,0,([]:Byt),()),()))<|(a1.1[1]?).bind λx7=>(ft.ae (a1.1,())).bind λr8=>cond (decide (ag ((ag (x7.toNat:Int)) - (ag (2+(ag (2*r8.1))))) < (a1.2.2.1.length:Int))) (some ((8,0,([]:Byt),()),()))<|(ou.ae (a1.1,a1.2.1,ag ((ag (x7.toNat:Int)) - (a1.2.2.1.length:Int)),a1.2.2.1,())).bind λr9=>if 0<=(1:Int)/\1 < (r9.1.length:Int) then ((r9.1[1]?).bind λXu=>let y11:=r9.1.set 1 (UInt8.ofInt (ag ((ag (x7.toNat:Int)) - (a1.2.2.1.length:Int))));some ((0,a1.2.1,y11,()),())) else none
theorem af (a1:A):@Eq (Option O) (D.W k a1) (p a1):=Bye
theorem ok:Ok prog 339 D.sig:=ap func339 az Bye (fc ft.ok (fc iv.ok (fc lZ.ok (fc mm.ok (fc kQ.ok (fc ou.ok (ak _)))))))
end p5
namespace mn
abbrev A:=ba×Int×Int×Byt×Unit
abbrev O:=Bool×ba×Unit
noncomputable def D:FD:={ fn:=f308,tl:=bc,ps:=[(.ke (aj dh) (aj dh),dh),(.ro,i64),(.ro,i64),(.ro,(.aa u8))],rs:=[(.bool,(an .bool))],gl:=[(337,jP.D.sig),(338,gq.D.sig),(339,p5.D.sig)],es:=[0] }
def ae (a:A):Option O:=@lift O λk=>D.W k a
def p (a1:A):Option O:=if 0<=a1.2.1/\a1.2.1 < (a1.1.1.length:Int) then ((a1.1.1[a1.2.1.toNat]?).bind λx2=>(a1.1.1[a1.2.1.toNat]?).bind λx3=>(p5.ae (x3,a1.2.2.1,a1.2.2.2.1,())).bind λr4=>cond (decide (r4.1.1=8)) ((jP.ae (a1.1,a1.2.1,())).bind λr5=>if 0<=a1.2.1/\a1.2.1 < (r5.1.1.length:Int) then ((r5.1.1[a1.2.1.toNat]?).bind λx6=>(r5.1.1[a1.2.1.toNat]?).bind λx7=>(p5.ae (x7,a1.2.2.1,a1.2.2.2.1,())).bind λr8=>cond (!decide (r8.1.1=0)) (some (false,r5.1,()))<|(gq.ae (r5.1,a1.2.1,r8.1.2.2.1,())).bind λwE=>some (true,wE.1,())) else none)<|cond (!decide (r4.1.1=0)) (some (false,a1.1,()))<|(gq.ae (a1.1,a1.2.1,r4.1.2.2.1,())).bind λtc=>some (true,tc.1,())) else none
theorem af (a1:A):@Eq (Option O) (D.W k a1) (p a1):=Bye
theorem ok:Ok prog 308 D.sig:=ap func308 az Bye (fc jP.ok (fc gq.ok (fc p5.ok (ak _))))
end mn
namespace uT
abbrev A:=Int×Int×Unit
abbrev O:=Byt×Unit
noncomputable def D:FD:={ fn:=f309,tl:=bc,ps:=[(.ro,i64),(.ro,i64)],rs:=[((.aa u8),(aj (.aa u8)))] }
def ae (a:A):Option O:=@lift O λk=>D.W k a
def p (a1:A):Option O:=some ([(1:UInt8),UInt8.ofInt a1.1,UInt8.ofInt a1.2.1],())
theorem af (a1:A):@Eq (Option O) (D.W k a1) (p a1):=Bye
theorem ok:Ok prog 309 D.sig:=ap func309 az Bye (ak _)
end uT
namespace og
abbrev A:=Byt×Int×Unit
abbrev O:=zb×Unit
abbrev P:=Option O
noncomputable def D:FD:={ fn:=f340,tl:=bc,ps:=[(.ro,(.aa u8)),(.ro,i64)],rs:=[(lH,(aj lH))],gl:=[(114,cm.D.sig),(169,bm.D.sig),(171,iv.D.sig)],lv:=[(9,[1,4,6])],lx:=[(0,[1,4,6])] }
def ae (a:A):P:=@lift O λk=>D.W k a
variable (a1:A)
def T0 (gw:Byt):St:={ n:=54,sl:=[(1,.val i64 a1.2.1),(4,.box lH (aj lH) [] ((0:Int),(0:Int),([]:Byt),())),(6,.own (.aa u8) (aj (.aa u8)) [] gw)],vr:=[],aT:=[] }
def b0 (self:Byt->P) (e0:Byt->P) (a1:A) (gw:Byt):P:=if 0<=(0:Int)/\0 < (gw.length:Int) then ((gw[0]?).bind λJI=>cond (decide (0 < (JI.toNat:Int))) (if 0<=(0:Int)/\0 < (gw.length:Int) then ((gw[0]?).bind λBk=>if 0<=ag ((ag (2*(ag (Bk.toNat:Int))))+1)/\ag ((ag (2*(ag (Bk.toNat:Int))))+1) < (gw.length:Int) then ((gw[(ag ((ag ((2:Int)*(ag (Bk.toNat:Int))))+(1:Int))).toNat]?).bind λzY=>cond (decide ((zY.toNat:Int)=0)) (if 0<=(0:Int)/\0 < (gw.length:Int) then ((gw[0]?).bind λHf=>if 0<=(0:Int)/\0 < (gw.length:Int) then ((gw[0]?).bind λCS=>let PT:=gw.set 0 (UInt8.ofInt ((Hf.toNat:Int) - 1));self PT) else none) else none)<|e0 gw) else none) else none)<|e0 gw) else none
def q0 (Zu:Byt):P:=some ((0,a1.2.1,Zu,()),())
def r0:Byt->P:=am (λw v=>b0 w (q0 a1) a1 v) k
theorem aw:@Eq (Byt->P) (λgw=>D.L k [1,1,1,1,1,1,0,0,0] [1,4,6] [] (ai 0 (ay (D.N k [1,1,1,1,1,1,1]) D.K0)) (T0 a1 gw)) (r0 k a1):=
 funext λgw=>av _ _ _ (T0 a1) _ (λrec v=>Bye) k gw
def p (l0:Byt->P) (a1:A):P:=(bm.ae (a1.1,())).bind λr2=>cond (!decide (r2.1=0)) (some ((r2.1,0,([]:Byt),()),()))<|(iv.ae (a1.1,a1.2.1,())).bind λr3=>cond (!r3.1) (some ((4,0,([]:Byt),()),()))<|(cm.ae (a1.1,())).bind λr4=>if 0<=ag (2+(ag (2*a1.2.1)))/\ag (2+(ag (2*a1.2.1))) < (r4.1.length:Int) then ((r4.1[(ag ((2:Int)+(ag ((2:Int)*a1.2.1)))).toNat]?).bind λx5=>let y6:=r4.1.set (ag (2+(ag (2*a1.2.1)))).toNat (0:UInt8);if 0<=ag (3+(ag (2*a1.2.1)))/\ag (3+(ag (2*a1.2.1))) < (y6.length:Int) then ((y6[(ag ((3:Int)+(ag ((2:Int)*a1.2.1)))).toNat]?).bind λx7=>let y8:=y6.set (ag (3+(ag (2*a1.2.1)))).toNat (0:UInt8);l0 y8) else none) else none
theorem af:@Eq P (D.W k a1) (p (r0 k a1) a1):=By8 (aw k a1) Bye
theorem ok:Ok prog 340 D.sig:=ap func340 az Bye (fc cm.ok (fc bm.ok (fc iv.ok (ak _))))
end og
namespace kh
abbrev A:=ba×Int×Int×Unit
abbrev O:=ba×Unit
noncomputable def D:FD:={ fn:=f310,tl:=bc,ps:=[(.ke (aj dh) (aj dh),dh),(.ro,i64),(.ro,i64)],rs:=[],gl:=[(338,gq.D.sig),(340,og.D.sig)],es:=[0] }
def ae (a:A):Option O:=@lift O λk=>D.W k a
def p (a1:A):Option O:=if 0<=a1.2.1/\a1.2.1 < (a1.1.1.length:Int) then ((a1.1.1[a1.2.1.toNat]?).bind λx2=>(a1.1.1[a1.2.1.toNat]?).bind λx3=>(og.ae (x3,a1.2.2.1,())).bind λr4=>(gq.ae (a1.1,a1.2.1,r4.1.2.2.1,())).bind λr5=>some (r5.1,())) else none
theorem af (a1:A):@Eq (Option O) (D.W k a1) (p a1):=Bye
theorem ok:Ok prog 310 D.sig:=ap func310 az Bye (fc gq.ok (fc og.ok (ak _)))
end kh
namespace kG
abbrev A:=ba×Seen×Row×Unit
abbrev O:=Bool×ba×Unit
noncomputable def D:FD:={ fn:=f268,tl:=bc,ps:=[(.ke (aj dh) (aj dh),dh),(.ro,gz),(.ro,bd)],rs:=[(.bool,(an .bool))],gl:=[(306,gm.D.sig),(307,oM.D.sig),(308,mn.D.sig),(309,uT.D.sig),(310,kh.D.sig)],es:=[0],od:=[(6,[0,1,2,3,4,5,6,7,8]),(8,[0,1,3,4,2,5,6,7,8,9,10,11,12]),(11,[0,1,2,3,4,5,6,7,8])] }
def ae (a:A):Option O:=@lift O λk=>D.W k a
def p (a1:A):Option O:=cond (Ty.eq bd a1.2.1.1 a1.2.2.1) (some (true,a1.1,()))<|let Xx:=λ(p9:Int)=>((oM.ae (p9,a1.2.2.1,())).bind λtc=>(mn.ae (a1.1,a1.2.1.2.2.2.2.1,a1.2.1.2.2.2.2.2.1,tc.1,())).bind λtd=>cond td.1 (some (true,td.2.1,()))<|(oM.ae (2,a1.2.2.1,())).bind λGA=>(gm.ae (td.2.1,GA.1,a1.2.1.2.2.2.2.1,())).bind λze=>cond (!ze.2.2.1) (some (false,ze.2.2.2.1,()))<|(uT.ae (ze.1,ze.2.1,())).bind λEt=>(mn.ae (ze.2.2.2.1,a1.2.1.2.1,a1.2.1.2.2.1,Et.1,())).bind λAV=>cond a1.2.1.2.2.2.1 ((kh.ae (AV.2.1,a1.2.1.2.2.2.2.1,a1.2.1.2.2.2.2.2.1,())).bind λDB=>some (true,DB.1,()))<|some (true,AV.2.1,()):Option O);cond a1.2.1.2.2.2.1 (Xx 2)<|Xx 0
theorem af (a1:A):@Eq (Option O) (D.W k a1) (p a1):=Bye
theorem ok:Ok prog 268 D.sig:=ap func268 az Bye (fc gm.ok (fc oM.ok (fc mn.ok (fc uT.ok (fc kh.ok (ak _))))))
end kG
namespace lL
abbrev A:=ba×Seen×Unit
abbrev O:=ba×Unit
noncomputable def D:FD:={ fn:=f269,tl:=bc,ps:=[(.ke (aj dh) (aj dh),dh),(.ro,gz)],rs:=[],gl:=[(310,kh.D.sig)],es:=[0] }
def ae (a:A):Option O:=@lift O λk=>D.W k a
def p (a1:A):Option O:=(kh.ae (a1.1,a1.2.1.2.1,a1.2.1.2.2.1,())).bind λr2=>cond a1.2.1.2.2.2.1 ((kh.ae (r2.1,a1.2.1.2.2.2.2.1,a1.2.1.2.2.2.2.2.1,())).bind λr3=>some (r3.1,()))<|some (r2.1,())
theorem af (a1:A):@Eq (Option O) (D.W k a1) (p a1):=Bye
theorem ok:Ok prog 269 D.sig:=ap func269 az Bye (fc kh.ok (ak _))
end lL
namespace qp
abbrev A:=(List Byt)×Change×Unit
abbrev O:=d7×Unit
noncomputable def D:FD:={ fn:=f192,tl:=bc,ps:=[(.ro,(.aa (.aa u8))),(.ro,aq)],rs:=[(dv,(aj dv))],gl:=[(99,fi.D.sig),(101,jW.D.sig),(133,cz.D.sig),(208,jd.D.sig),(263,kd.D.sig),(264,st.D.sig),(265,qo.D.sig),(266,np.D.sig),(267,pg.D.sig),(268,kG.D.sig),(269,lL.D.sig),(270,lK.D.sig)],od:=[(6,[0,1,2,3,4]),(9,[0,1,4,2,3,5,6,7,8,9,10,11,12,13])],ar:=[(9,[1,4])],bx:=[(9,[3])],pd:=[(9,[11])] }
def ae (a:A):Option O:=@lift O λk=>D.W k a
def p (a1:A):Option O:=(fi.ae (a1.1,())).bind λr2=>let Xs:=λ(p16:Int)=>(cond (!decide (p16=0)) (some ((p16,([]:List cq),([]:List Byt),()),()))<|(jW.ae (r2.1,())).bind λXt=>(kd.ae (a1.2.1,Xt.1,())).bind λr19=>cond (!r19.1) (some ((8,([]:List cq),([]:List Byt),()),()))<|(st.ae (a1.1,())).bind λr20=>(cz.ae (a1.2.1,())).bind λPH=>(cz.ae (a1.2.1,())).bind λr22=>(qo.ae (r2.1,PH.1.1,r22.1.2.1,())).bind λr23=>cond (!a1.2.1.1) ((pg.ae (r20.1,a1.2.1.2.2.2.1,())).bind λXv=>(np.ae (Xv.2.1,Xv.1,())).bind λXw=>some (Xw.1,()))<|cond a1.2.1.2.2.1 ((kG.ae (r20.1,r23.1,a1.2.1.2.2.2.1,())).bind λTp=>(np.ae (Tp.2.1,Tp.1,())).bind λr27=>some (r27.1,()))<|(lL.ae (r20.1,r23.1,())).bind λr28=>(lK.ae (r28.1,())).bind λr29=>some (r29.1,()):Option O);cond (decide (r2.2.1=0)) ((jd.ae (a1.2.1,())).bind λr3=>Xs r3.1)<|Xs r2.2.1
theorem af (a1:A):@Eq (Option O) (D.W k a1) (p a1):=Bye
theorem ok:Ok prog 192 D.sig:=ap func192 az Bye (fc fi.ok (fc jW.ok (fc cz.ok (fc jd.ok (fc kd.ok (fc st.ok (fc qo.ok (fc np.ok (fc pg.ok (fc kG.ok (fc lL.ok (fc lK.ok (ak _)))))))))))))
end qp
namespace jB
abbrev A:=Byt×Byt×Unit
abbrev O:=(List cq)×Unit
abbrev P:=Option O
noncomputable def D:FD:={ fn:=f194,tl:=bc,ps:=[(.ro,(.aa u8)),(.ro,(.aa u8))],rs:=[((.aa oB),(aj (.aa oB)))],gl:=[(114,cm.D.sig)],lv:=[(3,[0,1,5,6]),(7,[0,1,5,6,7])],lx:=[(0,[5]),(1,[0,1,5,6]),(2,[0,1,5,6,7])],od:=[(5,[0,1,2,3,4,5,6,7,8]),(7,[0,1,2,3,4,5,6,7,8,9,10,11,12])] }
def ae (a:A):P:=@lift O λk=>D.W k a
def T0 (a1:A) (U:Byt×Byt×(List cq)×Int):St:={ n:=49,sl:=[(0,.val (.aa u8) U.1),(1,.val (.aa u8) U.2.1),(5,.own (.aa oB) (aj (.aa oB)) [] U.2.2.1),(6,.val i64 U.2.2.2)],vr:=[],aT:=[] }
def S0 (rec:RT O) (a1:A):(Byt×Byt×(List cq)×Int)->P:=λU=>rec (T0 a1 U)
def c_ (K:KT O) (a1:A):(List cq)->P:=λz=>K (.exit 0) ({ n:=49,sl:=[(5,.own (.aa oB) (aj (.aa oB)) [] z)],vr:=[],aT:=[] })
def T1 (a1:A) (fq:Byt) (eg:Byt) (ek:List cq) (c8:Int) (cy:Int):St:={ n:=49,sl:=[(0,.val (.aa u8) fq),(1,.val (.aa u8) eg),(5,.own (.aa oB) (aj (.aa oB)) [] ek),(6,.val i64 c8),(7,.val i64 cy)],vr:=[],aT:=[] }
def b1 (self:Int->P) (e2:Int->P) (a1:A) (fq:Byt) (eg:Byt) (ek:List cq) (c8:Int) (cy:Int):P:=cond (decide (cy < 64)) (if 0<=cy then ((fq[cy.toNat]?).bind λFf=>if 0<=cy then ((eg[cy.toNat]?).bind λAr=>cond (!decide ((Ff.toNat:Int)=(Ar.toNat:Int))) (self (ag (cy+1)))<|e2 cy) else none) else none)<|e2 cy
def q0 (self:(Byt×Byt×(List cq)×Int)->P) (e0:(List cq)->P) (a1:A) (fq:Byt) (eg:Byt) (ek:List cq) (c8:Int) (w9:Int):P:=if 0<=c8/\c8<=w9/\w9<=(eg.length:Int) then ((cm.ae ((eg.take w9.toNat).drop c8.toNat,())).bind λoJ=>if ek.length+[(c8,oJ.1,())].length<=b9 then (self (fq,eg,ek++[(c8,oJ.1,())],ag (w9+1))) else none) else none
def s1 (rec:RT O) (K:KT O) (a1:A):Byt->Byt->(List cq)->Int->(Int)->P:=λfq eg ek c8=>λcy=>D.L k [1,1,0,1,0,0,1,0,0,1,1,0,0,0] [0,1,5,6,7] [] (ai 2 (ay (D.N k [1,1,0,1,0,0,1,0,0,1,1,1]) (ai 1 (ay (D.N k [1,1,0,1,0,0,1,1]) (iX rec (ge [0,1,5,6] []) K))))) (T1 a1 fq eg ek c8 cy)
def r1 (self:(Byt×Byt×(List cq)×Int)->P) (e0:(List cq)->P) (a1:A):Byt->Byt->(List cq)->Int->(Int)->P:=λfq eg ek c8=>am (λw v=>b1 w (q0 self e0 a1 fq eg ek c8) a1 fq eg ek c8 v) k
theorem li (rec:RT O) (K:KT O) (a1:A):s1 k rec K a1=r1 k (S0 rec a1) (c_ K a1) a1:=
 funext λfq=>funext λeg=>funext λek=>funext λc8=>funext λcy=>av _ _ _ (T1 a1 fq eg ek c8) _ (λrec v=>Bye) k cy
def b0 (self:(Byt×Byt×(List cq)×Int)->P) (e0:(List cq)->P) (l1:Byt->Byt->(List cq)->Int->(Int)->P) (a1:A) (U:Byt×Byt×(List cq)×Int):P:=cond (decide (U.2.2.2 < 64)) (if 0<=U.2.2.2 then ((U.1[U.2.2.2.toNat]?).bind λa8=>if 0<=U.2.2.2 then ((U.2.1[U.2.2.2.toNat]?).bind λgf=>cond (decide ((a8.toNat:Int)=(gf.toNat:Int))) (self (U.1,U.2.1,U.2.2.1,ag (U.2.2.2+1)))<|l1 U.1 U.2.1 U.2.2.1 U.2.2.2 U.2.2.2) else none) else none)<|e0 U.2.2.1
def B0 (self:(Byt×Byt×(List cq)×Int)->P) (e0:(List cq)->P) (a1:A) (U:Byt×Byt×(List cq)×Int):P:=b0 self e0 (r1 k self e0 a1) a1 U
theorem lh (rec:RT O) (K:KT O) (a1:A) (U:Byt×Byt×(List cq)×Int):D.N k [1,1,0,1,0,0] (T0 a1 U) (iX rec (ge [0,1,5,6] []) K)=B0 k (S0 rec a1) (c_ K a1) a1 U:=
 aL (b:=b0 (S0 rec a1) (c_ K a1) (s1 k rec K a1) a1 U) Bye (by rw[li];rfl)
def q1 (a1:A) (Fh:(List cq)):P:=some (Fh,())
theorem sb (a1:A) (Fh:(List cq)):c_ (ai 0 (ay (D.N k [1,1,1]) D.K0)) a1 Fh=q1 a1 Fh:=Bye
def s0 (a1:A):(Byt×Byt×(List cq)×Int)->P:=λU=>D.L k [1,1,0,1,0,0] [0,1,5,6] [] (ai 0 (ay (D.N k [1,1,1]) D.K0)) (T0 a1 U)
def r0 (a1:A):(Byt×Byt×(List cq)×Int)->P:=am (λw v=>B0 k w (q1 a1) a1 v) k
theorem aw (a1:A):s0 k a1=r0 k a1:=by
 funext U;have h0:c_ (ai 0 (ay (D.N k [1,1,1]) D.K0)) a1=q1 a1:=funext λz=>sb k a1 z;refine (av _ _ _ (T0 a1) (λself v=>B0 k self (c_ (ai 0 (ay (D.N k [1,1,1]) D.K0)) a1) a1 v) (λrec v=>lh k rec (ai 0 (ay (D.N k [1,1,1]) D.K0)) a1 v) k U).trans ?_;rw[h0];rfl
def p (l0:(Byt×Byt×(List cq)×Int)->P) (a1:A):P:=l0 (a1.1,a1.2.1,([]:List cq),0)
theorem af (a1:A):@Eq P (D.W k a1) (p (r0 k a1) a1):=
 aL (b:=p (s0 k a1) a1) Bye (by rw[aw])
theorem ok:Ok prog 194 D.sig:=ap func194 az Bye (fc cm.ok (ak _))
end jB
namespace fe
abbrev A:=bi×(List Change)×Int×Int×Unit
abbrev O:=Int×bi×Unit
abbrev P:=Option O
noncomputable def D:FD:={ fn:=f110,tl:=bc,ps:=[(.ke Byb Byb,cw),(.ro,(.aa aq)),(.ro,i64),(.ro,i64)],rs:=[(i64,(an i64))],gl:=[(109,kF.D.sig),(114,cm.D.sig),(192,qp.D.sig),(193,jc.D.sig),(194,jB.D.sig)],es:=[0],fz:=[(4,7,1)],lv:=[(2,[0,2,3,15,16,17]),(8,[0,2,3,15,16,17,33,34,35])],lx:=[(0,[0]),(2,[0,2,3,15,16,17])],od:=[(4,[0,1,2,3,4,5,6,7]),(10,[0,1,2,3,4,5,6,7]),(11,[0,1,2,3,4,5,6,7,8,9,10]),(12,[0,1,2,3,4,5,6,7,8,9,10,11,12,13,14,15,16,17,18]),(15,[0,1,2,3,4,5,6,7,8,9,10])],ar:=[(4,[4])],bx:=[(4,[10])],pd:=[(4,[6])],er:=[(4,[(3,8)])] }
def ae (a:A):P:=@lift O λk=>D.W k a
def T0 (a1:A) (U:bi×Int×Int×(List Change)×Int×Int):St:={ n:=90,sl:=[(0,.box cw Byb [] U.1),(2,.val i64 U.2.1),(3,.val i64 U.2.2.1),(15,.val (.aa aq) U.2.2.2.1),(16,.val i64 U.2.2.2.2.1),(17,.val i64 U.2.2.2.2.2)],vr:=[],aT:=[(0,0,false)] }
def S0 (rec:RT O) (a1:A):(bi×Int×Int×(List Change)×Int×Int)->P:=λU=>rec (T0 a1 U)
def c_ (K:KT O) (a1:A):bi->P:=λz=>K (.exit 0) ({ n:=90,sl:=[(0,.box cw (.pair (an .bool) (.pair (aj (.aa (.aa u8))) (.pair (an gd) (.pair (.aa true (.pair (an i64) (.pair (an (.aa aq)) (aj (c9 [(.aa i64),(.aa bp)]))))) (an (c9 [i64])))))) [] z)],vr:=[],aT:=[(0,0,false)] })
def T1 (a1:A) (fq:Int) (eg:Int) (ek:List Change) (c8:Int) (e8:Int) (ll:List cq) (pX:Int) (cy:bi×Int):St:={ n:=90,sl:=[(0,.box cw Byb [] cy.1),(2,.val i64 fq),(3,.val i64 eg),(15,.val (.aa aq) ek),(16,.val i64 c8),(17,.val i64 e8),(33,.val (.aa oB) ll),(34,.val i64 pX),(35,.val i64 cy.2)],vr:=[],aT:=[(0,0,false)] }
def b1 (self:(bi×Int)->P) (e2:bi->P) (a1:A) (fq:Int) (eg:Int) (ek:List Change) (c8:Int) (e8:Int) (ll:List cq) (pX:Int) (cy:bi×Int):P:=cond (decide (cy.2 < pX)) (if 0<=cy.2 then ((ll[cy.2.toNat]?).bind λwi=>let aaR:=λ(Oa:bi)=>(if 0<=wi.1/\wi.1 < (Oa.2.1.length:Int) then ((Oa.2.1[wi.1.toNat]?).bind λad6=>(Oa.2.1[wi.1.toNat]?).bind λVb=>(jB.ae (Vb,wi.2.1,())).bind λVc=>(kF.ae (Oa,(fq,eg,wi.1,Vc.1,()),())).bind λtM=>cond (!decide (tM.1=0)) (some (tM.1,tM.2.1,()))<|(cm.ae (wi.2.1,())).bind λVd=>if 0<=wi.1/\wi.1 < (tM.2.1.2.1.length:Int) then ((tM.2.1.2.1[wi.1.toNat]?).bind λad7=>self ((tM.2.1.1,tM.2.1.2.1.set wi.1.toNat Vd.1,tM.2.1.2.2),ag (cy.2+1))) else none) else none:P);cond (decide (wi.1=(cy.1.2.1.length:Int))) ((jc.ae ((0:UInt8),())).bind λDA=>if cy.1.2.1.length+[DA.1].length<=b9 then (aaR (cy.1.1,cy.1.2.1++[DA.1],cy.1.2.2)) else none)<|aaR cy.1) else none)<|e2 cy.1
def q0 (self:(bi×Int×Int×(List Change)×Int×Int)->P) (e0:bi->P) (a1:A) (fq:Int) (eg:Int) (ek:List Change) (c8:Int) (e8:Int) (ll:List cq) (pX:Int) (ad8:bi):P:=self (ad8,fq,eg,ek,c8,ag (e8+1))
def s1 (rec:RT O) (K:KT O) (a1:A):Int->Int->(List Change)->Int->Int->(List cq)->Int->(bi×Int)->P:=λfq eg ek c8 e8 ll pX=>λcy=>D.L k [1,0,1,0,0,1,1,0,0,1,1,1,1,0,0] [0,2,3,15,16,17,33,34,35] [] (ai 2 (ai 1 (ay (D.N k [1,0,1,0,0,1,1,1]) (iX rec (ge [0,2,3,15,16,17] []) K)))) (T1 a1 fq eg ek c8 e8 ll pX cy)
def r1 (self:(bi×Int×Int×(List Change)×Int×Int)->P) (e0:bi->P) (a1:A):Int->Int->(List Change)->Int->Int->(List cq)->Int->(bi×Int)->P:=λfq eg ek c8 e8 ll pX=>am (λw v=>b1 w (q0 self e0 a1 fq eg ek c8 e8 ll pX) a1 fq eg ek c8 e8 ll pX v) k
theorem li (rec:RT O) (K:KT O) (a1:A):s1 k rec K a1=r1 k (S0 rec a1) (c_ K a1) a1:=
 funext λfq=>funext λeg=>funext λek=>funext λc8=>funext λe8=>funext λll=>funext λpX=>funext λcy=>av _ _ _ (T1 a1 fq eg ek c8 e8 ll pX) _ (λrec v=>Bye) k cy
def b0 (self:(bi×Int×Int×(List Change)×Int×Int)->P) (e0:bi->P) (l1:Int->Int->(List Change)->Int->Int->(List cq)->Int->(bi×Int)->P) (a1:A) (U:bi×Int×Int×(List Change)×Int×Int):P:=cond (decide (U.2.2.2.2.2 < U.2.2.2.2.1)) (if 0<=U.2.2.2.2.2 then ((U.2.2.2.1[U.2.2.2.2.2.toNat]?).bind λa8=>(qp.ae (U.1.2.1,a8,())).bind λcx=>cond (!decide (cx.1.1=0)) (some (cx.1.1,U.1,()))<|l1 U.2.1 U.2.2.1 U.2.2.2.1 U.2.2.2.2.1 U.2.2.2.2.2 cx.1.2.1 (cx.1.2.1.length:Int) (U.1,0)) else none)<|e0 U.1
def B0 (self:(bi×Int×Int×(List Change)×Int×Int)->P) (e0:bi->P) (a1:A) (U:bi×Int×Int×(List Change)×Int×Int):P:=b0 self e0 (r1 k self e0 a1) a1 U
theorem lh (rec:RT O) (K:KT O) (a1:A) (U:bi×Int×Int×(List Change)×Int×Int):D.N k [1,0,1,0,0] (T0 a1 U) (iX rec (ge [0,2,3,15,16,17] []) K)=B0 k (S0 rec a1) (c_ K a1) a1 U:=
 aL (b:=b0 (S0 rec a1) (c_ K a1) (s1 k rec K a1) a1 U) Bye (by rw[li];rfl)
def q1 (a1:A) (Ob:bi):P:=some (0,Ob,())
theorem sb (a1:A) (Ob:bi):c_ (ai 0 (ay (D.N k [1,1]) D.K0)) a1 Ob=q1 a1 Ob:=Bye
def s0 (a1:A):(bi×Int×Int×(List Change)×Int×Int)->P:=λU=>D.L k [1,0,1,0,0] [0,2,3,15,16,17] [] (ai 0 (ay (D.N k [1,1]) D.K0)) (T0 a1 U)
def r0 (a1:A):(bi×Int×Int×(List Change)×Int×Int)->P:=am (λw v=>B0 k w (q1 a1) a1 v) k
theorem aw (a1:A):s0 k a1=r0 k a1:=by
 funext U;have h0:c_ (ai 0 (ay (D.N k [1,1]) D.K0)) a1=q1 a1:=funext λz=>sb k a1 z;refine (av _ _ _ (T0 a1) (λself v=>B0 k self (c_ (ai 0 (ay (D.N k [1,1]) D.K0)) a1) a1 v) (λrec v=>lh k rec (ai 0 (ay (D.N k [1,1]) D.K0)) a1 v) k U).trans ?_;rw[h0];rfl
def p (l0:(bi×Int×Int×(List Change)×Int×Int)->P) (a1:A):P:=l0 (a1.1,a1.2.2.1,a1.2.2.2.1,a1.2.1,(a1.2.1.length:Int),0)
theorem af (a1:A):@Eq P (D.W k a1) (p (r0 k a1) a1):=
 aL (b:=p (s0 k a1) a1) Bye (by rw[aw])
theorem ok:Ok prog 110 D.sig:=ap func110 az Bye (fc kF.ok (fc cm.ok (fc qp.ok (fc jc.ok (fc jB.ok (ak _))))))
end fe
namespace nW
abbrev A:=Byt×Byt×Unit
abbrev O:=Bool×Unit
abbrev P:=Option O
noncomputable def D:FD:={ fn:=f115,tl:=bc,ps:=[(.ro,(.aa u8)),(.ro,(.aa u8))],rs:=[(.bool,(an .bool))],lv:=[(4,[0,1,5])],lx:=[(0,[])],od:=[(6,[0,1,2,3,4,5,6,7,8])] }
def ae (a:A):P:=@lift O λk=>D.W k a
variable (a1:A)
def T0 (U:Int):St:={ n:=26,sl:=[(0,.val (.aa u8) a1.1),(1,.val (.aa u8) a1.2.1),(5,.val i64 U)],vr:=[],aT:=[] }
def b0 (self:Int->P) (e0:(Unit)->P) (a1:A) (U:Int):P:=cond (decide (U < (a1.1.length:Int))) (if 0<=U then ((a1.1[U.toNat]?).bind λa8=>if 0<=U then ((a1.2.1[U.toNat]?).bind λgf=>cond (!decide ((a8.toNat:Int)=(gf.toNat:Int))) (some (false,()))<|self (ag (U+1))) else none) else none)<|e0 ()
def q0 (a1:A) (ez:(Unit)):P:=some (true,())
def r0:(Int)->P:=am (λw v=>b0 w (q0 a1) a1 v) k
theorem aw:@Eq ((Int)->P) (λU=>D.L k [1,1,0,1,0,0] [0,1,5] [] (ai 0 (ay (D.N k [1,1,1]) D.K0)) (T0 a1 U)) (r0 k a1):=
 funext λU=>av _ _ _ (T0 a1) _ (λrec v=>Bye) k U
def p (l0:(Int)->P) (a1:A):P:=cond (!decide ((a1.1.length:Int)=(a1.2.1.length:Int))) (some (false,()))<|l0 0
theorem af:@Eq P (D.W k a1) (p (r0 k a1) a1):=By8 (aw k a1) Bye
theorem ok:Ok prog 115 D.sig:=ap func115 az Bye (ak _)
end nW
namespace tt
abbrev A:=(List Byt)×(List Byt)×Unit
abbrev O:=Bool×Unit
abbrev P:=Option O
noncomputable def D:FD:={ fn:=f52,tl:=bc,ps:=[(.ro,(.aa (.aa u8))),(.ro,(.aa (.aa u8)))],rs:=[(.bool,(an .bool))],gl:=[(115,nW.D.sig)],lv:=[(4,[0,1,5])],lx:=[(0,[])],od:=[(6,[0,1,2,3,4,5,6,7,8,9])] }
def ae (a:A):P:=@lift O λk=>D.W k a
variable (a1:A)
def T0 (U:Int):St:={ n:=27,sl:=[(0,.val (.aa (.aa u8)) a1.1),(1,.val (.aa (.aa u8)) a1.2.1),(5,.val i64 U)],vr:=[],aT:=[] }
def b0 (self:Int->P) (e0:(Unit)->P) (a1:A) (U:Int):P:=cond (decide (U < (a1.1.length:Int))) (if 0<=U then ((a1.1[U.toNat]?).bind λa8=>if 0<=U then ((a1.2.1[U.toNat]?).bind λgf=>(nW.ae (a8,gf,())).bind λky=>cond (!ky.1) (some (false,()))<|self (ag (U+1))) else none) else none)<|e0 ()
def q0 (a1:A) (pc:(Unit)):P:=some (true,())
def r0:(Int)->P:=am (λw v=>b0 w (q0 a1) a1 v) k
theorem aw:@Eq ((Int)->P) (λU=>D.L k [1,1,0,1,0,0] [0,1,5] [] (ai 0 (ay (D.N k [1,1,1]) D.K0)) (T0 a1 U)) (r0 k a1):=
 funext λU=>av _ _ _ (T0 a1) _ (λrec v=>Bye) k U
def p (l0:(Int)->P) (a1:A):P:=cond (!decide ((a1.1.length:Int)=(a1.2.1.length:Int))) (some (false,()))<|l0 0
theorem af:@Eq P (D.W k a1) (p (r0 k a1) a1):=By8 (aw k a1) Bye
theorem ok:Ok prog 52 D.sig:=ap func52 az Bye (fc nW.ok (ak _))
end tt
namespace vk
abbrev A:=Log×Log×Unit
abbrev O:=Bool×Unit
noncomputable def D:FD:={ fn:=f53,tl:=bc,ps:=[(.ro,gd),(.ro,gd)],rs:=[(.bool,(an .bool))],gl:=[(115,nW.D.sig)] }
def ae (a:A):Option O:=@lift O λk=>D.W k a
def p (a1:A):Option O:=(nW.ae (a1.1.1,a1.2.1.1,())).bind λr2=>cond (!r2.1) (some (false,()))<|(nW.ae (a1.1.2.1,a1.2.1.2.1,())).bind λr3=>cond (!r3.1) (some (false,()))<|some (true,())
theorem af (a1:A):@Eq (Option O) (D.W k a1) (p a1):=Bye
theorem ok:Ok prog 53 D.sig:=ap func53 az Bye (fc nW.ok (ak _))
end vk
namespace tu
abbrev A:=(List Int)×(List Int)×Unit
abbrev O:=Bool×Unit
abbrev P:=Option O
noncomputable def D:FD:={ fn:=f59,tl:=bc,ps:=[(.ro,(.aa i64)),(.ro,(.aa i64))],rs:=[(.bool,(an .bool))],lv:=[(4,[0,1,5])],lx:=[(0,[])],od:=[(6,[0,1,2,3,4,5,6,7,8])] }
def ae (a:A):P:=@lift O λk=>D.W k a
variable (a1:A)
def T0 (U:Int):St:={ n:=26,sl:=[(0,.val (.aa i64) a1.1),(1,.val (.aa i64) a1.2.1),(5,.val i64 U)],vr:=[],aT:=[] }
def b0 (self:Int->P) (e0:(Unit)->P) (a1:A) (U:Int):P:=cond (decide (U < (a1.1.length:Int))) (if 0<=U then ((a1.1[U.toNat]?).bind λa8=>if 0<=U then ((a1.2.1[U.toNat]?).bind λgf=>cond (!decide (a8=gf)) (some (false,()))<|self (ag (U+1))) else none) else none)<|e0 ()
def q0 (a1:A) (ez:(Unit)):P:=some (true,())
def r0:(Int)->P:=am (λw v=>b0 w (q0 a1) a1 v) k
theorem aw:@Eq ((Int)->P) (λU=>D.L k [1,1,0,1,0,0] [0,1,5] [] (ai 0 (ay (D.N k [1,1,1]) D.K0)) (T0 a1 U)) (r0 k a1):=
 funext λU=>av _ _ _ (T0 a1) _ (λrec v=>Bye) k U
def p (l0:(Int)->P) (a1:A):P:=cond (!decide ((a1.1.length:Int)=(a1.2.1.length:Int))) (some (false,()))<|l0 0
theorem af:@Eq P (D.W k a1) (p (r0 k a1) a1):=By8 (aw k a1) Bye
theorem ok:Ok prog 59 D.sig:=ap func59 az Bye (ak _)
end tu
namespace tN
abbrev A:=Row×Row×Unit
abbrev O:=Bool×Unit
noncomputable def D:FD:={ fn:=f122,tl:=bc,ps:=[(.ro,bd),(.ro,bd)],rs:=[(.bool,(an .bool))] }
def ae (a:A):Option O:=@lift O λk=>D.W k a
def p (a1:A):Option O:=cond (!decide (a1.1.1=a1.2.1.1)) (some (false,()))<|cond (!decide (a1.1.2.1=a1.2.1.2.1)) (some (false,()))<|cond (!decide (a1.1.2.2.1=a1.2.1.2.2.1)) (some (false,()))<|cond (!decide (a1.1.2.2.2.1=a1.2.1.2.2.2.1)) (some (false,()))<|some (true,())
theorem af (a1:A):@Eq (Option O) (D.W k a1) (p a1):=Bye
theorem ok:Ok prog 122 D.sig:=ap func122 az Bye (ak _)
end tN
namespace qq
abbrev A:=Change×Change×Unit
abbrev O:=Bool×Unit
noncomputable def D:FD:={ fn:=f135,tl:=bc,ps:=[(.ro,aq),(.ro,aq)],rs:=[(.bool,(an .bool))],gl:=[(122,tN.D.sig)] }
def ae (a:A):Option O:=@lift O λk=>D.W k a
def p (a1:A):Option O:=cond (!(a1.1.1 == a1.2.1.1)) (some (false,()))<|(tN.ae (a1.1.2.1,a1.2.1.2.1,())).bind λr2=>cond (!r2.1) (some (false,()))<|cond (!(a1.1.2.2.1 == a1.2.1.2.2.1)) (some (false,()))<|(tN.ae (a1.1.2.2.2.1,a1.2.1.2.2.2.1,())).bind λr3=>cond (!r3.1) (some (false,()))<|some (true,())
theorem af (a1:A):@Eq (Option O) (D.W k a1) (p a1):=Bye
theorem ok:Ok prog 135 D.sig:=ap func135 az Bye (fc tN.ok (ak _))
end qq
namespace sC
abbrev A:=(List Change)×(List Change)×Unit
abbrev O:=Bool×Unit
abbrev P:=Option O
noncomputable def D:FD:={ fn:=f73,tl:=bc,ps:=[(.ro,(.aa aq)),(.ro,(.aa aq))],rs:=[(.bool,(an .bool))],gl:=[(135,qq.D.sig)],lv:=[(4,[0,1,5])],lx:=[(0,[])],od:=[(6,[0,1,2,3,4,5,6,7,8,9])] }
def ae (a:A):P:=@lift O λk=>D.W k a
variable (a1:A)
def T0 (U:Int):St:={ n:=27,sl:=[(0,.val (.aa aq) a1.1),(1,.val (.aa aq) a1.2.1),(5,.val i64 U)],vr:=[],aT:=[] }
def b0 (self:Int->P) (e0:(Unit)->P) (a1:A) (U:Int):P:=cond (decide (U < (a1.1.length:Int))) (if 0<=U then ((a1.1[U.toNat]?).bind λa8=>if 0<=U then ((a1.2.1[U.toNat]?).bind λgf=>(qq.ae (a8,gf,())).bind λky=>cond (!ky.1) (some (false,()))<|self (ag (U+1))) else none) else none)<|e0 ()
def q0 (a1:A) (pc:(Unit)):P:=some (true,())
def r0:(Int)->P:=am (λw v=>b0 w (q0 a1) a1 v) k
theorem aw:@Eq ((Int)->P) (λU=>D.L k [1,1,0,1,0,0] [0,1,5] [] (ai 0 (ay (D.N k [1,1,1]) D.K0)) (T0 a1 U)) (r0 k a1):=
 funext λU=>av _ _ _ (T0 a1) _ (λrec v=>Bye) k U
def p (l0:(Int)->P) (a1:A):P:=cond (!decide ((a1.1.length:Int)=(a1.2.1.length:Int))) (some (false,()))<|l0 0
theorem af:@Eq P (D.W k a1) (p (r0 k a1) a1):=By8 (aw k a1) Bye
theorem ok:Ok prog 73 D.sig:=ap func73 az Bye (fc qq.ok (ak _))
end sC
namespace tO
abbrev A:=Key×Key×Unit
abbrev O:=Bool×Unit
noncomputable def D:FD:={ fn:=f271,tl:=bc,ps:=[(.ro,bp),(.ro,bp)],rs:=[(.bool,(an .bool))] }
def ae (a:A):Option O:=@lift O λk=>D.W k a
def p (a1:A):Option O:=cond (!decide (a1.1.1=a1.2.1.1)) (some (false,()))<|cond (!decide (a1.1.2.1=a1.2.1.2.1)) (some (false,()))<|some (true,())
theorem af (a1:A):@Eq (Option O) (D.W k a1) (p a1):=Bye
theorem ok:Ok prog 271 D.sig:=ap func271 az Bye (ak _)
end tO
namespace vZ
abbrev A:=(List Key)×(List Key)×Unit
abbrev O:=Bool×Unit
abbrev P:=Option O
noncomputable def D:FD:={ fn:=f199,tl:=bc,ps:=[(.ro,(.aa bp)),(.ro,(.aa bp))],rs:=[(.bool,(an .bool))],gl:=[(271,tO.D.sig)],lv:=[(4,[0,1,5])],lx:=[(0,[])],od:=[(6,[0,1,2,3,4,5,6,7,8,9])] }
def ae (a:A):P:=@lift O λk=>D.W k a
variable (a1:A)
def T0 (U:Int):St:={ n:=27,sl:=[(0,.val (.aa bp) a1.1),(1,.val (.aa bp) a1.2.1),(5,.val i64 U)],vr:=[],aT:=[] }
def b0 (self:Int->P) (e0:(Unit)->P) (a1:A) (U:Int):P:=cond (decide (U < (a1.1.length:Int))) (if 0<=U then ((a1.1[U.toNat]?).bind λa8=>if 0<=U then ((a1.2.1[U.toNat]?).bind λgf=>(tO.ae (a8,gf,())).bind λky=>cond (!ky.1) (some (false,()))<|self (ag (U+1))) else none) else none)<|e0 ()
def q0 (a1:A) (pc:(Unit)):P:=some (true,())
def r0:(Int)->P:=am (λw v=>b0 w (q0 a1) a1 v) k
theorem aw:@Eq ((Int)->P) (λU=>D.L k [1,1,0,1,0,0] [0,1,5] [] (ai 0 (ay (D.N k [1,1,1]) D.K0)) (T0 a1 U)) (r0 k a1):=
 funext λU=>av _ _ _ (T0 a1) _ (λrec v=>Bye) k U
def p (l0:(Int)->P) (a1:A):P:=cond (!decide ((a1.1.length:Int)=(a1.2.1.length:Int))) (some (false,()))<|l0 0
theorem af:@Eq P (D.W k a1) (p (r0 k a1) a1):=By8 (aw k a1) Bye
theorem ok:Ok prog 199 D.sig:=ap func199 az Bye (fc tO.ok (ak _))
end vZ
namespace uU
abbrev A:=Tx×Tx×Unit
abbrev O:=Bool×Unit
noncomputable def D:FD:={ fn:=f116,tl:=bc,ps:=[(.ro,df),(.ro,df)],rs:=[(.bool,(an .bool))],gl:=[(59,tu.D.sig),(73,sC.D.sig),(199,vZ.D.sig)] }
def ae (a:A):Option O:=@lift O λk=>D.W k a
def p (a1:A):Option O:=cond (!decide (a1.1.1=a1.2.1.1)) (some (false,()))<|(sC.ae (a1.1.2.1,a1.2.1.2.1,())).bind λr2=>cond (!r2.1) (some (false,()))<|(tu.ae (a1.1.2.2.1,a1.2.1.2.2.1,())).bind λr3=>cond (!r3.1) (some (false,()))<|(vZ.ae (a1.1.2.2.2.1,a1.2.1.2.2.2.1,())).bind λr4=>cond (!r4.1) (some (false,()))<|some (true,())
theorem af (a1:A):@Eq (Option O) (D.W k a1) (p a1):=Bye
theorem ok:Ok prog 116 D.sig:=ap func116 az Bye (fc tu.ok (fc sC.ok (fc vZ.ok (ak _))))
end uU
namespace xe
abbrev A:=(List Tx)×(List Tx)×Unit
abbrev O:=Bool×Unit
abbrev P:=Option O
noncomputable def D:FD:={ fn:=f54,tl:=bc,ps:=[(.ro,(.aa df)),(.ro,(.aa df))],rs:=[(.bool,(an .bool))],gl:=[(116,uU.D.sig)],lv:=[(4,[0,1,5])],lx:=[(0,[])],od:=[(6,[0,1,2,3,4,5,6,7,8,9])] }
def ae (a:A):P:=@lift O λk=>D.W k a
variable (a1:A)
def T0 (U:Int):St:={ n:=27,sl:=[(0,.val (.aa df) a1.1),(1,.val (.aa df) a1.2.1),(5,.val i64 U)],vr:=[],aT:=[] }
def b0 (self:Int->P) (e0:(Unit)->P) (a1:A) (U:Int):P:=cond (decide (U < (a1.1.length:Int))) (if 0<=U then ((a1.1[U.toNat]?).bind λa8=>if 0<=U then ((a1.2.1[U.toNat]?).bind λgf=>(uU.ae (a8,gf,())).bind λky=>cond (!ky.1) (some (false,()))<|self (ag (U+1))) else none) else none)<|e0 ()
def q0 (a1:A) (pc:(Unit)):P:=some (true,())
def r0:(Int)->P:=am (λw v=>b0 w (q0 a1) a1 v) k
theorem aw:@Eq ((Int)->P) (λU=>D.L k [1,1,0,1,0,0] [0,1,5] [] (ai 0 (ay (D.N k [1,1,1]) D.K0)) (T0 a1 U)) (r0 k a1):=
 funext λU=>av _ _ _ (T0 a1) _ (λrec v=>Bye) k U
def p (l0:(Int)->P) (a1:A):P:=cond (!decide ((a1.1.length:Int)=(a1.2.1.length:Int))) (some (false,()))<|l0 0
theorem af:@Eq P (D.W k a1) (p (r0 k a1) a1):=By8 (aw k a1) Bye
theorem ok:Ok prog 54 D.sig:=ap func54 az Bye (fc uU.ok (ak _))
end xe
namespace oZ
abbrev A:=bi×bi×Unit
abbrev O:=Bool×Unit
noncomputable def D:FD:={ fn:=f14,tl:=bc,ps:=[(.ro,cw),(.ro,cw)],rs:=[(.bool,(an .bool))],gl:=[(52,tt.D.sig),(53,vk.D.sig),(54,xe.D.sig)] }
def ae (a:A):Option O:=@lift O λk=>D.W k a
def p (a1:A):Option O:=cond (!(a1.1.1 == a1.2.1.1)) (some (false,()))<|(tt.ae (a1.1.2.1,a1.2.1.2.1,())).bind λr2=>cond (!r2.1) (some (false,()))<|(vk.ae (a1.1.2.2.1,a1.2.1.2.2.1,())).bind λr3=>cond (!r3.1) (some (false,()))<|(xe.ae (a1.1.2.2.2.1,a1.2.1.2.2.2.1,())).bind λr4=>cond (!r4.1) (some (false,()))<|cond (!decide (a1.1.2.2.2.2.1=a1.2.1.2.2.2.2.1)) (some (false,()))<|some (true,())
theorem af (a1:A):@Eq (Option O) (D.W k a1) (p a1):=Bye
theorem ok:Ok prog 14 D.sig:=ap func14 az Bye (fc tt.ok (fc vk.ok (fc xe.ok (ak _))))
end oZ
namespace ls
abbrev A:=nf×nf×Unit
abbrev O:=Bool×Unit
noncomputable def D:FD:={ fn:=f13,tl:=bc,ps:=[(.ro,fx),(.ro,fx)],rs:=[(.bool,(an .bool))],gl:=[(14,oZ.D.sig)] }
def ae (a:A):Option O:=@lift O λk=>D.W k a
def p (a1:A):Option O:=cond (!decide (a1.1.1=a1.2.1.1)) (some (false,()))<|cond (!decide (a1.1.2.1=a1.2.1.2.1)) (some (false,()))<|(oZ.ae (a1.1.2.2.1,a1.2.1.2.2.1,())).bind λr2=>cond (!r2.1) (some (false,()))<|some (true,())
theorem af (a1:A):@Eq (Option O) (D.W k a1) (p a1):=Bye
theorem ok:Ok prog 13 D.sig:=ap func13 az Bye (fc oZ.ok (ak _))
end ls
namespace jF
abbrev A:=Byt×Int×Unit
abbrev O:=Int×Byt×Unit
abbrev P:=Option O
noncomputable def D:FD:={ fn:=f117,tl:=bc,ps:=[(.lT (aj (.aa u8)),(.aa u8)),(.ro,i64)],rs:=[(i64,(an i64))],es:=[0],lv:=[(2,[0,1,5])],lx:=[(0,[0,1])] }
def ae (a:A):P:=@lift O λk=>D.W k a
variable (a1:A)
def T0 (a1:A) (U:Byt×Int×Int):St:={ n:=20,sl:=[(0,.own (.aa u8) (aj (.aa u8)) [] U.1),(1,.val i64 U.2.1),(5,.val i64 U.2.2)],vr:=[],aT:=[(0,0,true)] }
def b0 (self:(Byt×Int×Int)->P) (e0:(Byt×Int)->P) (a1:A) (U:Byt×Int×Int):P:=cond (decide (U.2.2 < (U.1.length:Int))) (if 0<=U.2.2/\U.2.2 < (U.1.length:Int) then ((U.1[U.2.2.toNat]?).bind λa8=>let rR:=U.1.set U.2.2.toNat (UInt8.ofInt U.2.1);self (rR,ag (U.2.1+1),ag (U.2.2+1))) else none)<|e0 (U.1,U.2.1)
def q0 (a1:A) (ez:(Byt×Int)):P:=some (ez.2,ez.1,())
def r0:(Byt×Int×Int)->P:=am (λw v=>b0 w (q0 a1) a1 v) k
theorem aw:@Eq ((Byt×Int×Int)->P) (λU=>D.L k [1,0,1,0,0] [0,1,5] [] (ai 0 (ay (D.N k [1,1]) D.K0)) (T0 a1 U)) (r0 k a1):=
 funext λU=>av _ _ _ (T0 a1) _ (λrec v=>Bye) k U
def p (l0:(Byt×Int×Int)->P) (a1:A):P:=l0 (a1.1,a1.2.1,0)
theorem af:@Eq P (D.W k a1) (p (r0 k a1) a1):=By8 (aw k a1) Bye
theorem ok:Ok prog 117 D.sig:=ap func117 az Bye (ak _)
end jF
namespace oN
abbrev A:=(List Byt)×Int×Unit
abbrev O:=Int×(List Byt)×Unit
abbrev P:=Option O
noncomputable def D:FD:={ fn:=f55,tl:=bc,ps:=[(.lT (aj (.aa (.aa u8))),(.aa (.aa u8))),(.ro,i64)],rs:=[(i64,(an i64))],gl:=[(117,jF.D.sig)],es:=[0],lv:=[(2,[0,1,5])],lx:=[(0,[0,1])] }
def ae (a:A):P:=@lift O λk=>D.W k a
variable (a1:A)
def T0 (a1:A) (U:(List Byt)×Int×Int):St:={ n:=19,sl:=[(0,.own (.aa (.aa u8)) (aj (.aa (.aa u8))) [] U.1),(1,.val i64 U.2.1),(5,.val i64 U.2.2)],vr:=[],aT:=[(0,0,true)] }
def b0 (self:((List Byt)×Int×Int)->P) (e0:((List Byt)×Int)->P) (a1:A) (U:(List Byt)×Int×Int):P:=cond (decide (U.2.2 < (U.1.length:Int))) (if 0<=U.2.2/\U.2.2 < (U.1.length:Int) then ((U.1[U.2.2.toNat]?).bind λa8=>(U.1[U.2.2.toNat]?).bind λgf=>(U.1[U.2.2.toNat]?).bind λd6=>(jF.ae (d6,U.2.1,())).bind λiQ=>(U.1[U.2.2.toNat]?).bind λtk=>self (U.1.set U.2.2.toNat iQ.2.1,iQ.1,ag (U.2.2+1))) else none)<|e0 (U.1,U.2.1)
def q0 (a1:A) (oC:((List Byt)×Int)):P:=some (oC.2,oC.1,())
def r0:((List Byt)×Int×Int)->P:=am (λw v=>b0 w (q0 a1) a1 v) k
theorem aw:@Eq (((List Byt)×Int×Int)->P) (λU=>D.L k [1,0,1,0,0] [0,1,5] [] (ai 0 (ay (D.N k [1,1]) D.K0)) (T0 a1 U)) (r0 k a1):=
 funext λU=>av _ _ _ (T0 a1) _ (λrec v=>Bye) k U
def p (l0:((List Byt)×Int×Int)->P) (a1:A):P:=l0 (a1.1,a1.2.1,0)
theorem af:@Eq P (D.W k a1) (p (r0 k a1) a1):=By8 (aw k a1) Bye
theorem ok:Ok prog 55 D.sig:=ap func55 az Bye (fc jF.ok (ak _))
end oN
namespace o3
abbrev A:=Log×Int×Unit
abbrev O:=Int×Log×Unit
noncomputable def D:FD:={ fn:=f56,tl:=bc,ps:=[(.lT (aj gd),gd),(.ro,i64)],rs:=[(i64,(an i64))],gl:=[(117,jF.D.sig)],es:=[2] }
def ae (a:A):Option O:=@lift O λk=>D.W k a
def p (a1:A):Option O:=(jF.ae (a1.1.1,a1.2.1,())).bind λr2=>(jF.ae (a1.1.2.1,r2.1,())).bind λr3=>some (r3.1,(r2.2.1,r3.2.1,a1.1.2.2),())
theorem af (a1:A):@Eq (Option O) (D.W k a1) (p a1):=Bye
theorem ok:Ok prog 56 D.sig:=ap func56 az Bye (fc jF.ok (ak _))
end o3
namespace mA
abbrev A:=(List Int)×Int×Unit
abbrev O:=Int×(List Int)×Unit
abbrev P:=Option O
noncomputable def D:FD:={ fn:=f62,tl:=bc,ps:=[(.lT (aj (.aa i64)),(.aa i64)),(.ro,i64)],rs:=[(i64,(an i64))],es:=[0],lv:=[(2,[0,1,5])],lx:=[(0,[0,1])] }
def ae (a:A):P:=@lift O λk=>D.W k a
variable (a1:A)
def T0 (a1:A) (U:(List Int)×Int×Int):St:={ n:=19,sl:=[(0,.own (.aa i64) (aj (.aa i64)) [] U.1),(1,.val i64 U.2.1),(5,.val i64 U.2.2)],vr:=[],aT:=[(0,0,true)] }
def b0 (self:((List Int)×Int×Int)->P) (e0:((List Int)×Int)->P) (a1:A) (U:(List Int)×Int×Int):P:=cond (decide (U.2.2 < (U.1.length:Int))) (if 0<=U.2.2/\U.2.2 < (U.1.length:Int) then ((U.1[U.2.2.toNat]?).bind λa8=>self (U.1.set U.2.2.toNat U.2.1,ag (U.2.1+1),ag (U.2.2+1))) else none)<|e0 (U.1,U.2.1)
def q0 (a1:A) (mU:((List Int)×Int)):P:=some (mU.2,mU.1,())
def r0:((List Int)×Int×Int)->P:=am (λw v=>b0 w (q0 a1) a1 v) k
theorem aw:@Eq (((List Int)×Int×Int)->P) (λU=>D.L k [1,0,1,0,0] [0,1,5] [] (ai 0 (ay (D.N k [1,1]) D.K0)) (T0 a1 U)) (r0 k a1):=
 funext λU=>av _ _ _ (T0 a1) _ (λrec v=>Bye) k U
def p (l0:((List Int)×Int×Int)->P) (a1:A):P:=l0 (a1.1,a1.2.1,0)
theorem af:@Eq P (D.W k a1) (p (r0 k a1) a1):=By8 (aw k a1) Bye
theorem ok:Ok prog 62 D.sig:=ap func62 az Bye (ak _)
end mA
namespace fm
abbrev A:=Int×Unit
abbrev O:=Byt×Unit
abbrev P:=Option O
noncomputable def D:FD:={ fn:=f61,tl:=bc,ps:=[(.ro,i64)],rs:=[(.str,(an .str))],lv:=[(4,[0,3])],lx:=[(0,[3])] }
def ae (a:A):P:=@lift O λk=>D.W k a
variable (a1:A)
def T0 (a1:A) (U:Int×Byt):St:={ n:=20,sl:=[(0,.val i64 U.1),(3,.val .str U.2)],vr:=[],aT:=[] }
def b0 (self:(Int×Byt)->P) (e0:Byt->P) (a1:A) (U:Int×Byt):P:=cond (decide (0 < U.1)) (if [UInt8.ofInt (ag ((48:Int)+(U.1.tmod (10:Int))))].length+U.2.length<=b9 then (self (ag (U.1.tdiv 10),[UInt8.ofInt (ag ((48:Int)+(U.1.tmod (10:Int))))]++U.2)) else none)<|e0 U.2
abbrev B0 (_:Nat):=b0
def q0 (a1:A) (acY:Byt):P:=if ([109]:Byt).length+acY.length<=b9 then (some (([109]:Byt)++acY,())) else none
abbrev Q0 (_:Nat):=q0
def r0:(Int×Byt)->P:=am (λw v=>B0 k w (Q0 k a1) a1 v) k
theorem aw:@Eq ((Int×Byt)->P) (λU=>D.L k [1,1,1,0,0,0] [0,3] [] (ai 0 (ay (D.N k [1,1,1,1]) D.K0)) (T0 a1 U)) (r0 k a1):=
 funext λU=>av _ _ _ (T0 a1) _ (λrec v=>Bye) k U
def p (l0:(Int×Byt)->P) (a1:A):P:=cond (decide (a1.1<=0)) (some (([109,48]:Byt),()))<|l0 (a1.1,([]:Byt))
theorem af:@Eq P (D.W k a1) (p (r0 k a1) a1):=By8 (aw k a1) Bye
theorem ok:Ok prog 61 D.sig:=ap func61 az Bye (ak _)
end fm
namespace lM
abbrev A:=(List Change)×Int×Unit
abbrev O:=Int×(List Change)×Unit
abbrev P:=Option O
noncomputable def D:FD:={ fn:=f74,tl:=bc,ps:=[(.lT (aj (.aa aq)),(.aa aq)),(.ro,i64)],rs:=[(i64,(an i64))],gl:=[(61,fm.D.sig)],es:=[0],lv:=[(2,[0,1,5])],lx:=[(0,[0,1])] }
def ae (a:A):P:=@lift O λk=>D.W k a
variable (a1:A)
def T0 (a1:A) (U:(List Change)×Int×Int):St:={ n:=97,sl:=[(0,.own (.aa aq) (aj (.aa aq)) [] U.1),(1,.val i64 U.2.1),(5,.val i64 U.2.2)],vr:=[],aT:=[(0,0,true)] }
def b0 (self:((List Change)×Int×Int)->P) (e0:((List Change)×Int)->P) (a1:A) (U:(List Change)×Int×Int):P:=cond (decide (U.2.2 < (U.1.length:Int))) (if 0<=U.2.2/\U.2.2 < (U.1.length:Int) then ((U.1[U.2.2.toNat]?).bind λa8=>let rR:=U.1.set U.2.2.toNat (decide (U.2.1.tmod (3:Int)=0),a8.2);if 0<=U.2.2/\U.2.2 < (rR.length:Int) then ((rR[U.2.2.toNat]?).bind λd6=>let zf:=rR.set U.2.2.toNat (d6.1,(ag (U.2.1+1),d6.2.1.2),d6.2.2);if 0<=U.2.2/\U.2.2 < (zf.length:Int) then ((zf[U.2.2.toNat]?).bind λtk=>let Zx:=zf.set U.2.2.toNat (tk.1,(tk.2.1.1,ag ((ag (U.2.1+1))+1),tk.2.1.2.2),tk.2.2);if 0<=U.2.2/\U.2.2 < (Zx.length:Int) then ((Zx[U.2.2.toNat]?).bind λzd=>let Bi:=Zx.set U.2.2.toNat (zd.1,(zd.2.1.1,zd.2.1.2.1,ag ((ag ((ag (U.2.1+1))+1))+1),zd.2.1.2.2.2),zd.2.2);(fm.ae (ag ((ag ((ag ((ag (U.2.1+1))+1))+1))+1),())).bind λPK=>if 0<=U.2.2/\U.2.2 < (Bi.length:Int) then ((Bi[U.2.2.toNat]?).bind λzY=>let PO:=Bi.set U.2.2.toNat (zY.1,(zY.2.1.1,zY.2.1.2.1,zY.2.1.2.2.1,PK.1,zY.2.1.2.2.2.2),zY.2.2);if 0<=U.2.2/\U.2.2 < (PO.length:Int) then ((PO[U.2.2.toNat]?).bind λCS=>let PT:=PO.set U.2.2.toNat (CS.1,CS.2.1,decide ((ag ((ag ((ag ((ag ((ag (U.2.1+1))+1))+1))+1))+1)).tmod (3:Int)=0),CS.2.2.2);if 0<=U.2.2/\U.2.2 < (PT.length:Int) then ((PT[U.2.2.toNat]?).bind λBl=>let PR:=PT.set U.2.2.toNat (Bl.1,Bl.2.1,Bl.2.2.1,(ag ((ag ((ag ((ag ((ag ((ag (U.2.1+1))+1))+1))+1))+1))+1),Bl.2.2.2.1.2),Bl.2.2.2.2);if 0<=U.2.2/\U.2.2 < (PR.length:Int) then ((PR[U.2.2.toNat]?).bind λub=>let PP:=PR.set U.2.2.toNat (ub.1,ub.2.1,ub.2.2.1,(ub.2.2.2.1.1,ag ((ag ((ag ((ag ((ag ((ag ((ag (U.2.1+1))+1))+1))+1))+1))+1))+1),ub.2.2.2.1.2.2),ub.2.2.2.2);if 0<=U.2.2/\U.2.2 < (PP.length:Int) then ((PP[U.2.2.toNat]?).bind λFx=>let z8:=PP.set U.2.2.toNat (Fx.1,Fx.2.1,Fx.2.2.1,(Fx.2.2.2.1.1,Fx.2.2.2.1.2.1,ag ((ag ((ag ((ag ((ag ((ag ((ag ((ag (U.2.1+1))+1))+1))+1))+1))+1))+1))+1),Fx.2.2.2.1.2.2.2),Fx.2.2.2.2);(fm.ae (ag ((ag ((ag ((ag ((ag ((ag ((ag ((ag ((ag (U.2.1+1))+1))+1))+1))+1))+1))+1))+1))+1),())).bind λafc=>if 0<=U.2.2/\U.2.2 < (z8.length:Int) then ((z8[U.2.2.toNat]?).bind λHh=>let afd:=z8.set U.2.2.toNat (Hh.1,Hh.2.1,Hh.2.2.1,(Hh.2.2.2.1.1,Hh.2.2.2.1.2.1,Hh.2.2.2.1.2.2.1,afc.1,Hh.2.2.2.1.2.2.2.2),Hh.2.2.2.2);self (afd,ag ((ag ((ag ((ag ((ag ((ag ((ag ((ag ((ag ((ag (U.2.1+1))+1))+1))+1))+1))+1))+1))+1))+1))+1),ag (U.2.2+1))) else none) else none) else none) else none) else none) else none) else none) else none) else none) else none)<|e0 (U.1,U.2.1)
def q0 (a1:A) (acZ:((List Change)×Int)):P:=some (acZ.2,acZ.1,())
def r0:((List Change)×Int×Int)->P:=am (λw v=>b0 w (q0 a1) a1 v) k
theorem aw:@Eq (((List Change)×Int×Int)->P) (λU=>D.L k [1,0,1,0,0] [0,1,5] [] (ai 0 (ay (D.N k [1,1]) D.K0)) (T0 a1 U)) (r0 k a1):=
 funext λU=>av _ _ _ (T0 a1) _ (λrec v=>Bye) k U
def p (l0:((List Change)×Int×Int)->P) (a1:A):P:=l0 (a1.1,a1.2.1,0)
theorem af:@Eq P (D.W k a1) (p (r0 k a1) a1):=By8 (aw k a1) Bye
theorem ok:Ok prog 74 D.sig:=ap func74 az Bye (fc fm.ok (ak _))
end lM
namespace oh
abbrev A:=(List Key)×Int×Unit
abbrev O:=Int×(List Key)×Unit
abbrev P:=Option O
noncomputable def D:FD:={ fn:=f118,tl:=bc,ps:=[(.lT (aj (.aa bp)),(.aa bp)),(.ro,i64)],rs:=[(i64,(an i64))],es:=[0],lv:=[(2,[0,1,5])],lx:=[(0,[0,1])] }
def ae (a:A):P:=@lift O λk=>D.W k a
variable (a1:A)
def T0 (a1:A) (U:(List Key)×Int×Int):St:={ n:=27,sl:=[(0,.own (.aa bp) (aj (.aa bp)) [] U.1),(1,.val i64 U.2.1),(5,.val i64 U.2.2)],vr:=[],aT:=[(0,0,true)] }
def b0 (self:((List Key)×Int×Int)->P) (e0:((List Key)×Int)->P) (a1:A) (U:(List Key)×Int×Int):P:=cond (decide (U.2.2 < (U.1.length:Int))) (if 0<=U.2.2/\U.2.2 < (U.1.length:Int) then ((U.1[U.2.2.toNat]?).bind λa8=>let rR:=U.1.set U.2.2.toNat (U.2.1,a8.2);if 0<=U.2.2/\U.2.2 < (rR.length:Int) then ((rR[U.2.2.toNat]?).bind λd6=>let zf:=rR.set U.2.2.toNat (d6.1,ag (U.2.1+1),d6.2.2);self (zf,ag ((ag (U.2.1+1))+1),ag (U.2.2+1))) else none) else none)<|e0 (U.1,U.2.1)
def q0 (a1:A) (lI:((List Key)×Int)):P:=some (lI.2,lI.1,())
def r0:((List Key)×Int×Int)->P:=am (λw v=>b0 w (q0 a1) a1 v) k
theorem aw:@Eq (((List Key)×Int×Int)->P) (λU=>D.L k [1,0,1,0,0] [0,1,5] [] (ai 0 (ay (D.N k [1,1]) D.K0)) (T0 a1 U)) (r0 k a1):=
 funext λU=>av _ _ _ (T0 a1) _ (λrec v=>Bye) k U
def p (l0:((List Key)×Int×Int)->P) (a1:A):P:=l0 (a1.1,a1.2.1,0)
theorem af:@Eq P (D.W k a1) (p (r0 k a1) a1):=By8 (aw k a1) Bye
theorem ok:Ok prog 118 D.sig:=ap func118 az Bye (ak _)
end oh
namespace rr
abbrev A:=(List Tx)×Int×Unit
abbrev O:=Int×(List Tx)×Unit
abbrev P:=Option O
noncomputable def D:FD:={ fn:=f57,tl:=bc,ps:=[(.lT (aj (.aa df)),(.aa df)),(.ro,i64)],rs:=[(i64,(an i64))],gl:=[(62,mA.D.sig),(74,lM.D.sig),(118,oh.D.sig)],es:=[0],lv:=[(2,[0,1,5])],lx:=[(0,[0,1])] }
def ae (a:A):P:=@lift O λk=>D.W k a
variable (a1:A)
def T0 (a1:A) (U:(List Tx)×Int×Int):St:={ n:=41,sl:=[(0,.own (.aa df) (aj (.aa df)) [] U.1),(1,.val i64 U.2.1),(5,.val i64 U.2.2)],vr:=[],aT:=[(0,0,true)] }
def b0 (self:((List Tx)×Int×Int)->P) (e0:((List Tx)×Int)->P) (a1:A) (U:(List Tx)×Int×Int):P:=cond (decide (U.2.2 < (U.1.length:Int))) (if 0<=U.2.2/\U.2.2 < (U.1.length:Int) then ((U.1[U.2.2.toNat]?).bind λa8=>let rR:=U.1.set U.2.2.toNat (U.2.1,a8.2);if 0<=U.2.2/\U.2.2 < (rR.length:Int) then ((rR[U.2.2.toNat]?).bind λd6=>(rR[U.2.2.toNat]?).bind λqJ=>(rR[U.2.2.toNat]?).bind λtk=>(lM.ae (tk.2.1,ag (U.2.1+1),())).bind λqx=>(rR[U.2.2.toNat]?).bind λzd=>let Bi:=rR.set U.2.2.toNat (zd.1,qx.2.1,zd.2.2);if 0<=U.2.2/\U.2.2 < (Bi.length:Int) then ((Bi[U.2.2.toNat]?).bind λBk=>(Bi[U.2.2.toNat]?).bind λzY=>(Bi[U.2.2.toNat]?).bind λHf=>(mA.ae (Hf.2.2.1,qx.1,())).bind λzZ=>(Bi[U.2.2.toNat]?).bind λFt=>let Mo:=Bi.set U.2.2.toNat (Ft.1,Ft.2.1,zZ.2.1,Ft.2.2.2);if 0<=U.2.2/\U.2.2 < (Mo.length:Int) then ((Mo[U.2.2.toNat]?).bind λHd=>(Mo[U.2.2.toNat]?).bind λub=>(Mo[U.2.2.toNat]?).bind λZy=>(oh.ae (Zy.2.2.2.1,zZ.1,())).bind λHg=>(Mo[U.2.2.toNat]?).bind λFq=>let Zz:=Mo.set U.2.2.toNat (Fq.1,Fq.2.1,Fq.2.2.1,Hg.2.1,Fq.2.2.2.2);self (Zz,Hg.1,ag (U.2.2+1))) else none) else none) else none) else none)<|e0 (U.1,U.2.1)
def q0 (a1:A) (Ve:((List Tx)×Int)):P:=some (Ve.2,Ve.1,())
def r0:((List Tx)×Int×Int)->P:=am (λw v=>b0 w (q0 a1) a1 v) k
theorem aw:@Eq (((List Tx)×Int×Int)->P) (λU=>D.L k [1,0,1,0,0] [0,1,5] [] (ai 0 (ay (D.N k [1,1]) D.K0)) (T0 a1 U)) (r0 k a1):=
 funext λU=>av _ _ _ (T0 a1) _ (λrec v=>Bye) k U
def p (l0:((List Tx)×Int×Int)->P) (a1:A):P:=l0 (a1.1,a1.2.1,0)
theorem af:@Eq P (D.W k a1) (p (r0 k a1) a1):=By8 (aw k a1) Bye
theorem ok:Ok prog 57 D.sig:=ap func57 az Bye (fc mA.ok (fc lM.ok (fc oh.ok (ak _))))
end rr
namespace kj
abbrev A:=bi×Int×Unit
abbrev O:=Int×bi×Unit
noncomputable def D:FD:={ fn:=f15,tl:=bc,ps:=[(.lT (aj cw),cw),(.ro,i64)],rs:=[(i64,(an i64))],gl:=[(55,oN.D.sig),(56,o3.D.sig),(57,rr.D.sig)],es:=[2] }
def ae (a:A):Option O:=@lift O λk=>D.W k a
def p (a1:A):Option O:=(oN.ae (a1.1.2.1,a1.2.1,())).bind λr2=>(o3.ae (a1.1.2.2.1,r2.1,())).bind λr3=>(rr.ae (a1.1.2.2.2.1,r3.1,())).bind λr4=>some (r4.1,(a1.1.1,r2.2.1,r3.2.1,r4.2.1,a1.1.2.2.2.2),())
theorem af (a1:A):@Eq (Option O) (D.W k a1) (p a1):=Bye
theorem ok:Ok prog 15 D.sig:=ap func15 az Bye (fc oN.ok (fc o3.ok (fc rr.ok (ak _))))
end kj
namespace mM
abbrev A:=nf×Int×Unit
abbrev O:=Int×nf×Unit
noncomputable def D:FD:={ fn:=f16,tl:=bc,ps:=[(.lT (aj fx),fx),(.ro,i64)],rs:=[(i64,(an i64))],gl:=[(15,kj.D.sig)],es:=[2] }
def ae (a:A):Option O:=@lift O λk=>D.W k a
def p (a1:A):Option O:=(kj.ae (a1.1.2.2.1,a1.2.1,())).bind λr2=>some (r2.1,(a1.1.1,a1.1.2.1,r2.2.1,a1.1.2.2.2),())
theorem af (a1:A):@Eq (Option O) (D.W k a1) (p a1):=Bye
theorem ok:Ok prog 16 D.sig:=ap func16 az Bye (fc kj.ok (ak _))
end mM
namespace mp
abbrev A:=Byt×Int×Unit
abbrev O:=Int×Unit
abbrev P:=Option O
noncomputable def D:FD:={ fn:=f200,tl:=bc,ps:=[(.ro,(.aa u8)),(.ro,i64)],rs:=[(i64,(an i64))],lv:=[(2,[0,1,5])],lx:=[(0,[1])] }
def ae (a:A):P:=@lift O λk=>D.W k a
variable (a1:A)
def T0 (U:Int×Int):St:={ n:=22,sl:=[(0,.val (.aa u8) a1.1),(1,.val i64 U.1),(5,.val i64 U.2)],vr:=[],aT:=[] }
def b0 (self:(Int×Int)->P) (e0:Int->P) (a1:A) (U:Int×Int):P:=cond (decide (U.2 < (a1.1.length:Int))) (if 0<=U.2 then ((a1.1[U.2.toNat]?).bind λa8=>cond (!decide ((a8.toNat:Int)=((UInt8.ofInt U.1).toNat:Int))) (some ((-1),()))<|self (ag (U.1+1),ag (U.2+1))) else none)<|e0 U.1
def q0 (a1:A) (mU:Int):P:=some (mU,())
def r0:(Int×Int)->P:=am (λw v=>b0 w (q0 a1) a1 v) k
theorem aw:@Eq ((Int×Int)->P) (λU=>D.L k [1,0,1,0,0] [0,1,5] [] (ai 0 (ay (D.N k [1,1]) D.K0)) (T0 a1 U)) (r0 k a1):=
 funext λU=>av _ _ _ (T0 a1) _ (λrec v=>Bye) k U
def p (l0:(Int×Int)->P) (a1:A):P:=l0 (a1.2.1,0)
theorem af:@Eq P (D.W k a1) (p (r0 k a1) a1):=By8 (aw k a1) Bye
theorem ok:Ok prog 200 D.sig:=ap func200 az Bye (ak _)
end mp
namespace rJ
abbrev A:=(List Byt)×Int×Unit
abbrev O:=Int×Unit
abbrev P:=Option O
noncomputable def D:FD:={ fn:=f119,tl:=bc,ps:=[(.ro,(.aa (.aa u8))),(.ro,i64)],rs:=[(i64,(an i64))],gl:=[(200,mp.D.sig)],lv:=[(2,[0,1,5])],lx:=[(0,[1])] }
def ae (a:A):P:=@lift O λk=>D.W k a
variable (a1:A)
def T0 (U:Int×Int):St:={ n:=21,sl:=[(0,.val (.aa (.aa u8)) a1.1),(1,.val i64 U.1),(5,.val i64 U.2)],vr:=[],aT:=[] }
def b0 (self:(Int×Int)->P) (e0:Int->P) (a1:A) (U:Int×Int):P:=cond (decide (U.2 < (a1.1.length:Int))) (if 0<=U.2 then ((a1.1[U.2.toNat]?).bind λa8=>(mp.ae (a8,U.1,())).bind λcx=>cond (decide (cx.1 < 0)) (some ((-1),()))<|self (cx.1,ag (U.2+1))) else none)<|e0 U.1
def q0 (a1:A) (ez:Int):P:=some (ez,())
def r0:(Int×Int)->P:=am (λw v=>b0 w (q0 a1) a1 v) k
theorem aw:@Eq ((Int×Int)->P) (λU=>D.L k [1,0,1,0,0] [0,1,5] [] (ai 0 (ay (D.N k [1,1]) D.K0)) (T0 a1 U)) (r0 k a1):=
 funext λU=>av _ _ _ (T0 a1) _ (λrec v=>Bye) k U
def p (l0:(Int×Int)->P) (a1:A):P:=l0 (a1.2.1,0)
theorem af:@Eq P (D.W k a1) (p (r0 k a1) a1):=By8 (aw k a1) Bye
theorem ok:Ok prog 119 D.sig:=ap func119 az Bye (fc mp.ok (ak _))
end rJ
namespace sQ
abbrev A:=Log×Int×Unit
abbrev O:=Int×Unit
noncomputable def D:FD:={ fn:=f120,tl:=bc,ps:=[(.ro,gd),(.ro,i64)],rs:=[(i64,(an i64))],gl:=[(200,mp.D.sig)] }
def ae (a:A):Option O:=@lift O λk=>D.W k a
def p (a1:A):Option O:=(mp.ae (a1.1.1,a1.2.1,())).bind λr2=>cond (decide (r2.1 < 0)) (some ((-1),()))<|(mp.ae (a1.1.2.1,r2.1,())).bind λr3=>cond (decide (r3.1 < 0)) (some ((-1),()))<|some (r3.1,())
theorem af (a1:A):@Eq (Option O) (D.W k a1) (p a1):=Bye
theorem ok:Ok prog 120 D.sig:=ap func120 az Bye (fc mp.ok (ak _))
end sQ
namespace p6
abbrev A:=(List Int)×Int×Unit
abbrev O:=Int×Unit
abbrev P:=Option O
noncomputable def D:FD:={ fn:=f63,tl:=bc,ps:=[(.ro,(.aa i64)),(.ro,i64)],rs:=[(i64,(an i64))],lv:=[(2,[0,1,5])],lx:=[(0,[1])] }
def ae (a:A):P:=@lift O λk=>D.W k a
variable (a1:A)
def T0 (U:Int×Int):St:={ n:=21,sl:=[(0,.val (.aa i64) a1.1),(1,.val i64 U.1),(5,.val i64 U.2)],vr:=[],aT:=[] }
def b0 (self:(Int×Int)->P) (e0:Int->P) (a1:A) (U:Int×Int):P:=cond (decide (U.2 < (a1.1.length:Int))) (if 0<=U.2 then ((a1.1[U.2.toNat]?).bind λa8=>cond (!decide (a8=U.1)) (some ((-1),()))<|self (ag (U.1+1),ag (U.2+1))) else none)<|e0 U.1
def q0 (a1:A) (mU:Int):P:=some (mU,())
def r0:(Int×Int)->P:=am (λw v=>b0 w (q0 a1) a1 v) k
theorem aw:@Eq ((Int×Int)->P) (λU=>D.L k [1,0,1,0,0] [0,1,5] [] (ai 0 (ay (D.N k [1,1]) D.K0)) (T0 a1 U)) (r0 k a1):=
 funext λU=>av _ _ _ (T0 a1) _ (λrec v=>Bye) k U
def p (l0:(Int×Int)->P) (a1:A):P:=l0 (a1.2.1,0)
theorem af:@Eq P (D.W k a1) (p (r0 k a1) a1):=By8 (aw k a1) Bye
theorem ok:Ok prog 63 D.sig:=ap func63 az Bye (ak _)
end p6
namespace ph
abbrev A:=(List Change)×Int×Unit
abbrev O:=Int×Unit
abbrev P:=Option O
noncomputable def D:FD:={ fn:=f201,tl:=bc,ps:=[(.ro,(.aa aq)),(.ro,i64)],rs:=[(i64,(an i64))],gl:=[(61,fm.D.sig)],lv:=[(2,[0,1,5])],lx:=[(0,[1])],od:=[(16,[0,1,2,3,4,5,6,7,8]),(31,[0,1,2,3,4,5,6,7,8])] }
def ae (a:A):P:=@lift O λk=>D.W k a
variable (a1:A)
def T0 (U:Int×Int):St:={ n:=117,sl:=[(0,.val (.aa aq) a1.1),(1,.val i64 U.1),(5,.val i64 U.2)],vr:=[],aT:=[] }
def b0 (self:(Int×Int)->P) (e0:Int->P) (a1:A) (U:Int×Int):P:=cond (decide (U.2 < (a1.1.length:Int))) (if 0<=U.2 then ((a1.1[U.2.toNat]?).bind λa8=>cond (!(a8.1 == (decide (U.1.tmod (3:Int)=0)))) (some ((-1),()))<|if 0<=U.2 then ((a1.1[U.2.toNat]?).bind λgf=>cond (!decide (gf.2.1.1=ag (U.1+1))) (some ((-1),()))<|if 0<=U.2 then ((a1.1[U.2.toNat]?).bind λd6=>cond (!decide (d6.2.1.2.1=ag ((ag (U.1+1))+1))) (some ((-1),()))<|if 0<=U.2 then ((a1.1[U.2.toNat]?).bind λqJ=>cond (!decide (qJ.2.1.2.2.1=ag ((ag ((ag (U.1+1))+1))+1))) (some ((-1),()))<|if 0<=U.2 then ((a1.1[U.2.toNat]?).bind λtk=>(fm.ae (ag ((ag ((ag ((ag (U.1+1))+1))+1))+1),())).bind λqx=>cond (!decide (tk.2.1.2.2.2.1=qx.1)) (some ((-1),()))<|if 0<=U.2 then ((a1.1[U.2.toNat]?).bind λzd=>cond (!(zd.2.2.1 == (decide ((ag ((ag ((ag ((ag ((ag (U.1+1))+1))+1))+1))+1)).tmod (3:Int)=0)))) (some ((-1),()))<|if 0<=U.2 then ((a1.1[U.2.toNat]?).bind λJI=>cond (!decide (JI.2.2.2.1.1=ag ((ag ((ag ((ag ((ag ((ag (U.1+1))+1))+1))+1))+1))+1))) (some ((-1),()))<|if 0<=U.2 then ((a1.1[U.2.toNat]?).bind λBk=>cond (!decide (Bk.2.2.2.1.2.1=ag ((ag ((ag ((ag ((ag ((ag ((ag (U.1+1))+1))+1))+1))+1))+1))+1))) (some ((-1),()))<|if 0<=U.2 then ((a1.1[U.2.toNat]?).bind λzY=>cond (!decide (zY.2.2.2.1.2.2.1=ag ((ag ((ag ((ag ((ag ((ag ((ag ((ag (U.1+1))+1))+1))+1))+1))+1))+1))+1))) (some ((-1),()))<|if 0<=U.2 then ((a1.1[U.2.toNat]?).bind λHf=>(fm.ae (ag ((ag ((ag ((ag ((ag ((ag ((ag ((ag ((ag (U.1+1))+1))+1))+1))+1))+1))+1))+1))+1),())).bind λzZ=>cond (!decide (Hf.2.2.2.1.2.2.2.1=zZ.1)) (some ((-1),()))<|self (ag ((ag ((ag ((ag ((ag ((ag ((ag ((ag ((ag ((ag (U.1+1))+1))+1))+1))+1))+1))+1))+1))+1))+1),ag (U.2+1))) else none) else none) else none) else none) else none) else none) else none) else none) else none) else none)<|e0 U.1
def q0 (a1:A) (Mn:Int):P:=some (Mn,())
def r0:(Int×Int)->P:=am (λw v=>b0 w (q0 a1) a1 v) k
theorem aw:@Eq ((Int×Int)->P) (λU=>D.L k [1,0,1,0,0] [0,1,5] [] (ai 0 (ay (D.N k [1,1]) D.K0)) (T0 a1 U)) (r0 k a1):=
 funext λU=>av _ _ _ (T0 a1) _ (λrec v=>Bye) k U
def p (l0:(Int×Int)->P) (a1:A):P:=l0 (a1.2.1,0)
theorem af:@Eq P (D.W k a1) (p (r0 k a1) a1):=By8 (aw k a1) Bye
theorem ok:Ok prog 201 D.sig:=ap func201 az Bye (fc fm.ok (ak _))
end ph
namespace rT
abbrev A:=(List Key)×Int×Unit
abbrev O:=Int×Unit
abbrev P:=Option O
noncomputable def D:FD:={ fn:=f202,tl:=bc,ps:=[(.ro,(.aa bp)),(.ro,i64)],rs:=[(i64,(an i64))],lv:=[(2,[0,1,5])],lx:=[(0,[1])] }
def ae (a:A):P:=@lift O λk=>D.W k a
variable (a1:A)
def T0 (U:Int×Int):St:={ n:=31,sl:=[(0,.val (.aa bp) a1.1),(1,.val i64 U.1),(5,.val i64 U.2)],vr:=[],aT:=[] }
def b0 (self:(Int×Int)->P) (e0:Int->P) (a1:A) (U:Int×Int):P:=cond (decide (U.2 < (a1.1.length:Int))) (if 0<=U.2 then ((a1.1[U.2.toNat]?).bind λa8=>cond (!decide (a8.1=U.1)) (some ((-1),()))<|if 0<=U.2 then ((a1.1[U.2.toNat]?).bind λgf=>cond (!decide (gf.2.1=ag (U.1+1))) (some ((-1),()))<|self (ag ((ag (U.1+1))+1),ag (U.2+1))) else none) else none)<|e0 U.1
def q0 (a1:A) (ez:Int):P:=some (ez,())
def r0:(Int×Int)->P:=am (λw v=>b0 w (q0 a1) a1 v) k
theorem aw:@Eq ((Int×Int)->P) (λU=>D.L k [1,0,1,0,0] [0,1,5] [] (ai 0 (ay (D.N k [1,1]) D.K0)) (T0 a1 U)) (r0 k a1):=
 funext λU=>av _ _ _ (T0 a1) _ (λrec v=>Bye) k U
def p (l0:(Int×Int)->P) (a1:A):P:=l0 (a1.2.1,0)
theorem af:@Eq P (D.W k a1) (p (r0 k a1) a1):=By8 (aw k a1) Bye
theorem ok:Ok prog 202 D.sig:=ap func202 az Bye (ak _)
end rT
namespace uH
abbrev A:=(List Tx)×Int×Unit
abbrev O:=Int×Unit
abbrev P:=Option O
noncomputable def D:FD:={ fn:=f121,tl:=bc,ps:=[(.ro,(.aa df)),(.ro,i64)],rs:=[(i64,(an i64))],gl:=[(63,p6.D.sig),(201,ph.D.sig),(202,rT.D.sig)],lv:=[(2,[0,1,5])],lx:=[(0,[1])] }
def ae (a:A):P:=@lift O λk=>D.W k a
variable (a1:A)
def T0 (U:Int×Int):St:={ n:=49,sl:=[(0,.val (.aa df) a1.1),(1,.val i64 U.1),(5,.val i64 U.2)],vr:=[],aT:=[] }
def b0 (self:(Int×Int)->P) (e0:Int->P) (a1:A) (U:Int×Int):P:=cond (decide (U.2 < (a1.1.length:Int))) (if 0<=U.2 then ((a1.1[U.2.toNat]?).bind λa8=>cond (!decide (a8.1=U.1)) (some ((-1),()))<|if 0<=U.2 then ((a1.1[U.2.toNat]?).bind λgf=>(ph.ae (gf.2.1,ag (U.1+1),())).bind λky=>cond (decide (ky.1 < 0)) (some ((-1),()))<|if 0<=U.2 then ((a1.1[U.2.toNat]?).bind λqJ=>(p6.ae (qJ.2.2.1,ky.1,())).bind λjq=>cond (decide (jq.1 < 0)) (some ((-1),()))<|if 0<=U.2 then ((a1.1[U.2.toNat]?).bind λCQ=>(rT.ae (CQ.2.2.2.1,jq.1,())).bind λwD=>cond (decide (wD.1 < 0)) (some ((-1),()))<|self (wD.1,ag (U.2+1))) else none) else none) else none) else none)<|e0 U.1
def q0 (a1:A) (Zs:Int):P:=some (Zs,())
def r0:(Int×Int)->P:=am (λw v=>b0 w (q0 a1) a1 v) k
theorem aw:@Eq ((Int×Int)->P) (λU=>D.L k [1,0,1,0,0] [0,1,5] [] (ai 0 (ay (D.N k [1,1]) D.K0)) (T0 a1 U)) (r0 k a1):=
 funext λU=>av _ _ _ (T0 a1) _ (λrec v=>Bye) k U
def p (l0:(Int×Int)->P) (a1:A):P:=l0 (a1.2.1,0)
theorem af:@Eq P (D.W k a1) (p (r0 k a1) a1):=By8 (aw k a1) Bye
theorem ok:Ok prog 121 D.sig:=ap func121 az Bye (fc p6.ok (fc ph.ok (fc rT.ok (ak _))))
end uH
namespace qM
abbrev A:=bi×Int×Unit
abbrev O:=Int×Unit
noncomputable def D:FD:={ fn:=f58,tl:=bc,ps:=[(.ro,cw),(.ro,i64)],rs:=[(i64,(an i64))],gl:=[(119,rJ.D.sig),(120,sQ.D.sig),(121,uH.D.sig)] }
def ae (a:A):Option O:=@lift O λk=>D.W k a
def p (a1:A):Option O:=(rJ.ae (a1.1.2.1,a1.2.1,())).bind λr2=>cond (decide (r2.1 < 0)) (some ((-1),()))<|(sQ.ae (a1.1.2.2.1,r2.1,())).bind λr3=>cond (decide (r3.1 < 0)) (some ((-1),()))<|(uH.ae (a1.1.2.2.2.1,r3.1,())).bind λr4=>cond (decide (r4.1 < 0)) (some ((-1),()))<|some (r4.1,())
theorem af (a1:A):@Eq (Option O) (D.W k a1) (p a1):=Bye
theorem ok:Ok prog 58 D.sig:=ap func58 az Bye (fc rJ.ok (fc sQ.ok (fc uH.ok (ak _))))
end qM
namespace lu
abbrev A:=nf×Int×Unit
abbrev O:=Int×Unit
noncomputable def D:FD:={ fn:=f17,tl:=bc,ps:=[(.ro,fx),(.ro,i64)],rs:=[(i64,(an i64))],gl:=[(58,qM.D.sig)] }
def ae (a:A):Option O:=@lift O λk=>D.W k a
def p (a1:A):Option O:=(qM.ae (a1.1.2.2.1,a1.2.1,())).bind λr2=>cond (decide (r2.1 < 0)) (some ((-1),()))<|some (r2.1,())
theorem af (a1:A):@Eq (Option O) (D.W k a1) (p a1):=Bye
theorem ok:Ok prog 17 D.sig:=ap func17 az Bye (fc qM.ok (ak _))
end lu
namespace mq
abbrev A:=Change×Change×Unit
abbrev O:=Bool×Unit
noncomputable def D:FD:={ fn:=f125,tl:=bc,ps:=[(.ro,(.ptr aq)),(.ro,(.ptr aq))],rs:=[(.bool,(an .bool))],gl:=[(204,lj.D.sig)] }
def ae (a:A):Option O:=@lift O λk=>D.W k a
def p (a1:A):Option O:=(lj.ae (a1.1,())).bind λr2=>(lj.ae (a1.2.1,())).bind λr3=>cond (decide (r2.1 < r3.1)) (some (true,()))<|cond (decide (r2.1=r3.1)) (some (decide (r2.2.1 < r3.2.1),()))<|some (false,())
theorem af (a1:A):@Eq (Option O) (D.W k a1) (p a1):=Bye
theorem ok:Ok prog 125 D.sig:=ap func125 az Bye (fc lj.ok (ak _))
end mq
namespace kR
abbrev A:=(List Change)×Unit
abbrev O:=Int×Unit
abbrev P:=Option O
noncomputable def D:FD:={ fn:=f66,tl:=bc,ps:=[(.ro,(.aa aq))],rs:=[(i64,(an i64))],gl:=[(124,kW.D.sig),(125,mq.D.sig)],lv:=[(4,[0,3])],lx:=[(0,[])],od:=[(9,[0,1,2,3,4,5,6,7,8,9,10,11,12])] }
def ae (a:A):P:=@lift O λk=>D.W k a
variable (a1:A)
def T0 (U:Int):St:={ n:=34,sl:=[(0,.val (.aa aq) a1.1),(3,.val i64 U)],vr:=[],aT:=[] }
def b0 (self:Int->P) (e0:(Unit)->P) (a1:A) (U:Int):P:=cond (decide (U < (a1.1.length:Int))) (if 0<=U then ((a1.1[U.toNat]?).bind λa8=>(kW.ae (a8,())).bind λcx=>cond (!decide (cx.1=0)) (some (cx.1,()))<|cond (decide (0 < U)) (if 0<=ag (U - 1) then ((a1.1[(ag (U - (1:Int))).toNat]?).bind λd6=>if 0<=U then ((a1.1[U.toNat]?).bind λqJ=>(mq.ae (d6,qJ,())).bind λjq=>cond (!jq.1) (some (1,()))<|self (ag (U+1))) else none) else none)<|self (ag (U+1))) else none)<|e0 ()
def q0 (a1:A) (oC:(Unit)):P:=some (0,())
def r0:(Int)->P:=am (λw v=>b0 w (q0 a1) a1 v) k
theorem aw:@Eq ((Int)->P) (λU=>D.L k [1,1,0,1,0,0] [0,3] [] (ai 0 (ay (D.N k [1,1,1]) D.K0)) (T0 a1 U)) (r0 k a1):=
 funext λU=>av _ _ _ (T0 a1) _ (λrec v=>Bye) k U
def p (l0:(Int)->P) (a1:A):P:=cond (decide (60 < (a1.1.length:Int))) (some (2,()))<|l0 0
theorem af:@Eq P (D.W k a1) (p (r0 k a1) a1):=By8 (aw k a1) Bye
theorem ok:Ok prog 66 D.sig:=ap func66 az Bye (fc kW.ok (fc mq.ok (ak _)))
end kR
namespace rt
abbrev A:=bi×Buffer×Unit
abbrev O:=Int×bi×Unit
noncomputable def D:FD:={ fn:=f68,tl:=bc,ps:=[(.ke (an cw) (an cw),cw),(.ro,(.ptr ej))],rs:=[(i64,(an i64))],gl:=[(128,nT.D.sig),(129,nl.D.sig)],es:=[0],od:=[(1,[0,1,2,3,4,5,6,7,8,9,10])] }
def ae (a:A):Option O:=@lift O λk=>D.W k a
def p (a1:A):Option O:=(nT.ae (a1.1,a1.2.1.2.1,a1.2.1.1,())).bind λr2=>cond (!decide (r2.1=0)) (some (r2.1,r2.2.1,()))<|(nl.ae (r2.2.1,(6,a1.2.1.1,0,([]:List cq),()),())).bind λr3=>some (r3.1,r3.2.1,())
theorem af (a1:A):@Eq (Option O) (D.W k a1) (p a1):=Bye
theorem ok:Ok prog 68 D.sig:=ap func68 az Bye (fc nT.ok (fc nl.ok (ak _)))
end rt
namespace gx
abbrev A:=(List Change)×Unit
abbrev O:=Int×Unit
abbrev P:=Option O
noncomputable def D:FD:={ fn:=f71,tl:=bc,ps:=[(.ro,(.aa aq))],rs:=[(i64,(an i64))],gl:=[(131,jr.D.sig),(132,jk.D.sig),(133,cz.D.sig)],lv:=[(4,[0,9,10,11])],lx:=[(0,[])],od:=[(9,[0,1,2,3,4,5,6,7,9,8,10,11,12,13])] }
def ae (a:A):P:=@lift O λk=>D.W k a
variable (a1:A)
def T0 (U:Int):St:={ n:=36,sl:=[(0,.val (.aa aq) a1.1),(9,.val (.aa aq) a1.1),(10,.val i64 (a1.1.length:Int)),(11,.val i64 U)],vr:=[],aT:=[] }
def b0 (self:Int->P) (e0:(Unit)->P) (a1:A) (U:Int):P:=cond (decide (U < (a1.1.length:Int))) (if 0<=U then ((a1.1[U.toNat]?).bind λa8=>(jr.ae (a8,())).bind λcx=>cond (!decide (cx.1=0)) (some (cx.1,()))<|cond (decide (0 < U)) (if 0<=ag (U - 1) then ((a1.1[(ag (U - (1:Int))).toNat]?).bind λd6=>(cz.ae (d6,())).bind λiQ=>(cz.ae (a8,())).bind λjq=>(jk.ae (iQ.1,jq.1,())).bind λqx=>cond (!qx.1) (some (1,()))<|self (ag (U+1))) else none)<|self (ag (U+1))) else none)<|e0 ()
def q0 (a1:A) (wF:(Unit)):P:=some (0,())
def r0:(Int)->P:=am (λw v=>b0 w (q0 a1) a1 v) k
theorem aw:@Eq ((Int)->P) (λU=>D.L k [1,1,0,1,0,0] [0,9,10,11] [] (ai 0 (ay (D.N k [1,1,1]) D.K0)) (T0 a1 U)) (r0 k a1):=
 funext λU=>av _ _ _ (T0 a1) _ (λrec v=>Bye) k U
def p (l0:(Int)->P) (a1:A):P:=cond (decide (60 < (a1.1.length:Int))) (some (2,()))<|l0 0
theorem af:@Eq P (D.W k a1) (p (r0 k a1) a1):=By8 (aw k a1) Bye
theorem ok:Ok prog 71 D.sig:=ap func71 az Bye (fc jr.ok (fc jk.ok (fc cz.ok (ak _))))
end gx
namespace l6
abbrev A:=bi×Buffer×Unit
abbrev O:=Int×bi×Unit
noncomputable def D:FD:={ fn:=f72,tl:=bc,ps:=[(.ke Byb Byb,cw),(.ro,ej)],rs:=[(i64,(an i64))],gl:=[(109,kF.D.sig),(110,fe.D.sig),(134,lr.D.sig)],es:=[0],od:=[(1,[0,1,2,4,5,3,6,7])] }
def ae (a:A):Option O:=@lift O λk=>D.W k a
def p (a1:A):Option O:=(lr.ae (a1.2.1.2.1,())).bind λr2=>(fe.ae (a1.1,r2.1,3,a1.2.1.1,())).bind λr3=>cond (!decide (r3.1=0)) (some (r3.1,r3.2.1,()))<|(kF.ae (r3.2.1,(6,a1.2.1.1,0,([]:List cq),()),())).bind λr4=>some (r4.1,r4.2.1,())
theorem af (a1:A):@Eq (Option O) (D.W k a1) (p a1):=Bye
theorem ok:Ok prog 72 D.sig:=ap func72 az Bye (fc kF.ok (fc fe.ok (fc lr.ok (ak _))))
end l6
namespace lw
abbrev A:=di×Int×Unit
abbrev O:=Int×Unit
abbrev P:=Option O
noncomputable def D:FD:={ fn:=f212,tl:=bc,ps:=[(.ro,(.ptr jN)),(.ro,i64)],rs:=[(i64,(an i64))],lv:=[(2,[0,1,5])],lx:=[(0,[])] }
def ae (a:A):P:=@lift O λk=>D.W k a
variable (a1:A)
def T0 (U:Int):St:={ n:=26,sl:=[(0,.cp jN a1.1),(1,.val i64 a1.2.1),(5,.val i64 U)],vr:=[],aT:=[] }
def b0 (self:Int->P) (e0:(Unit)->P) (a1:A) (U:Int):P:=cond (decide (U < (a1.1.2.1.length:Int))) (if 0<=U then ((a1.1.2.1[U.toNat]?).bind λa8=>cond (decide (a8.1=a1.2.1)) (some (U,()))<|self (ag (U+1))) else none)<|e0 ()
def q0 (a1:A) (mU:(Unit)):P:=some ((-1),())
def r0:(Int)->P:=am (λw v=>b0 w (q0 a1) a1 v) k
theorem aw:@Eq ((Int)->P) (λU=>D.L k [1,0,1,0,0] [0,1,5] [] (ai 0 (ay (D.N k [1,1]) D.K0)) (T0 a1 U)) (r0 k a1):=
 funext λU=>av _ _ _ (T0 a1) _ (λrec v=>Bye) k U
def p (l0:(Int)->P) (a1:A):P:=l0 0
theorem af:@Eq P (D.W k a1) (p (r0 k a1) a1):=By8 (aw k a1) Bye
theorem ok:Ok prog 212 D.sig:=ap func212 az Bye (ak _)
end lw
namespace jX
abbrev A:=Int×Unit
abbrev O:=ng×Unit
noncomputable def D:FD:={ fn:=f213,tl:=bc,ps:=[(.ro,i64)],rs:=[(mh,(aj mh))] }
def ae (a:A):Option O:=@lift O λk=>D.W k a
def p (a1:A):Option O:=some ((a1.1,false,false,0,([]:List Change),(([]:List Byt),([]:List Buffer),()),()),())
theorem af (a1:A):@Eq (Option O) (D.W k a1) (p a1):=Bye
theorem ok:Ok prog 213 D.sig:=ap func213 az Bye (ak _)
end jX
namespace kY
abbrev A:=(List Buffer)×Unit
abbrev O:=(List Buffer)×Unit
abbrev P:=Option O
noncomputable def D:FD:={ fn:=f273,tl:=bc,ps:=[(.ro,(.aa ej))],rs:=[((.aa ej),(aj (.aa ej)))],lv:=[(3,[0,3,4])],lx:=[(0,[3])],od:=[(5,[0,1,2,3,4,5,7,8,9,10,11,6,12,13,14,15,16])],ar:=[(5,[5,11])] }
def ae (a:A):P:=@lift O λk=>D.W k a
variable (a1:A)
def T0 (U:(List Buffer)×Int):St:={ n:=29,sl:=[(0,.val (.aa ej) a1.1),(3,.own (.aa ej) (aj (.aa ej)) [] U.1),(4,.val i64 U.2)],vr:=[],aT:=[] }
def b0 (self:((List Buffer)×Int)->P) (e0:(List Buffer)->P) (a1:A) (U:(List Buffer)×Int):P:=cond (decide (U.2 < (a1.1.length:Int))) (if 0<=U.2 then ((a1.1[U.2.toNat]?).bind λa8=>if 0<=U.2 then ((a1.1[U.2.toNat]?).bind λgf=>if ([]:List Change).length+gf.2.1.length<=b9 then (if U.1.length+[(a8.1,([]:List Change)++gf.2.1,())].length<=b9 then (let JK:=U.1++[(a8.1,([]:List Change)++gf.2.1,())];self (JK,ag (U.2+1))) else none) else none) else none) else none)<|e0 U.1
def q0 (a1:A) (pc:(List Buffer)):P:=some (pc,())
def r0:((List Buffer)×Int)->P:=am (λw v=>b0 w (q0 a1) a1 v) k
theorem aw:@Eq (((List Buffer)×Int)->P) (λU=>D.L k [1,1,0,1,0,0] [0,3,4] [] (ai 0 (ay (D.N k [1,1,1]) D.K0)) (T0 a1 U)) (r0 k a1):=
 funext λU=>av _ _ _ (T0 a1) _ (λrec v=>Bye) k U
def p (l0:((List Buffer)×Int)->P) (a1:A):P:=l0 (([]:List Buffer),0)
theorem af:@Eq P (D.W k a1) (p (r0 k a1) a1):=By8 (aw k a1) Bye
theorem ok:Ok prog 273 D.sig:=ap func273 az Bye (ak _)
end kY
namespace lN
abbrev A:=di×Unit
abbrev O:=di×Unit
noncomputable def D:FD:={ fn:=f214,tl:=bc,ps:=[(.ro,jN)],rs:=[(jN,(aj jN))],gl:=[(126,iW.D.sig),(273,kY.D.sig)],od:=[(1,[0,1,3,4,2,5,6,7])] }
def ae (a:A):Option O:=@lift O λk=>D.W k a
def p (a1:A):Option O:=(iW.ae (a1.1.1,())).bind λr2=>(kY.ae (a1.1.2.1,())).bind λr3=>some ((r2.1,r3.1,()),())
theorem af (a1:A):@Eq (Option O) (D.W k a1) (p a1):=Bye
theorem ok:Ok prog 214 D.sig:=ap func214 az Bye (fc iW.ok (fc kY.ok (ak _)))
end lN
namespace sg
abbrev A:=di×bg×Unit
abbrev O:=ng×Unit
noncomputable def D:FD:={ fn:=f211,tl:=bc,ps:=[(.ro,jN),(.ro,(.ptr du))],rs:=[(mh,Bt8)],gl:=[(212,lw.D.sig),(213,jX.D.sig),(214,lN.D.sig)],fz:=[(5,5,1)],od:=[(8,[0,1,2,3,4,5,6,7,8,9,10,11,12])] }
def ae (a:A):Option O:=@lift O λk=>D.W k a
def p (a1:A):Option O:=(lw.ae (a1.1,a1.2.1.2.1,())).bind λr2=>cond (decide (r2.1 < 0)) ((jX.ae (4,())).bind λr3=>some (r3.1,()))<|(lN.ae (a1.1,())).bind λr4=>if 0<=r2.1/\r2.1<=(r4.1.2.1.length:Int) then (if ([]:List Buffer).length+((r4.1.2.1.take r2.1.toNat).drop 0).length<=b9 then (let y5:=([]:List Buffer)++((r4.1.2.1.take r2.1.toNat).drop 0);if 0<=r2.1 then ((r4.1.2.1[r2.1.toNat]?).bind λx6=>if 0<=ag (r2.1+1)/\ag (r2.1+1)<=(r4.1.2.1.length:Int) then (if y5.length+((r4.1.2.1.take r4.1.2.1.length).drop (ag (r2.1+1)).toNat).length<=b9 then (let y7:=y5++((r4.1.2.1.take r4.1.2.1.length).drop (ag (r2.1+1)).toNat);some ((0,true,decide (a1.2.1.1=5),a1.2.1.2.1,x6.2.1,(r4.1.1,y7,r4.1.2.2),()),())) else none) else none) else none) else none) else none
theorem af (a1:A):@Eq (Option O) (D.W k a1) (p a1):=Bye
theorem ok:Ok prog 211 D.sig:=ap func211 az Bye (fc lw.ok (fc jX.ok (fc lN.ok (ak _))))
end sg
namespace fu
abbrev A:=(List Row)×(List Row)×Unit
abbrev O:=(List Change)×Unit
abbrev P:=Option O
noncomputable def D:FD:={ fn:=f274,tl:=bc,ps:=[(.ro,(.aa bd)),(.ro,(.aa bd))],rs:=[((.aa aq),(aj (.aa aq)))],gl:=[(151,jD.D.sig),(312,lk.D.sig)],lv:=[(3,[0,1,5,6]),(9,[0,1,5,7,8])],lx:=[(0,[0,1,5]),(2,[7]),(3,[0,1,5,7,8])],od:=[(5,[0,1,2,3,4,5,6,7,8,9,10,11,12]),(11,[0,1,2,3,4,5,6,7,8,9,10,11,12]),(12,[0,1,2,3,4,5,6,7,8,9,10,11,12]),(13,[0,1,2,3,4,5,6,7,8,9,10,11,12,13,14,15,16])] }
def ae (a:A):P:=@lift O λk=>D.W k a
def T0 (a1:A) (U:(List Row)×Int):St:={ n:=112,sl:=[(0,.val (.aa bd) a1.1),(1,.val (.aa bd) a1.2.1),(5,.own (.aa bd) (aj (.aa bd)) [] U.1),(6,.val i64 U.2)],vr:=[],aT:=[] }
def S0 (rec:RT O) (a1:A):((List Row)×Int)->P:=λU=>rec (T0 a1 U)
def c_ (K:KT O) (a1:A):(List Row)->P:=λz=>K (.exit 0) ({ n:=112,sl:=[(0,.val (.aa bd) a1.1),(1,.val (.aa bd) a1.2.1),(5,.own (.aa bd) (aj (.aa bd)) [] z)],vr:=[],aT:=[] })
def b0 (self:((List Row)×Int)->P) (e0:(List Row)->P) (a1:A) (U:(List Row)×Int):P:=cond (decide (U.2 < (a1.2.1.length:Int))) (if 0<=U.2 then ((a1.2.1[U.2.toNat]?).bind λa8=>if 0<=U.2 then ((a1.2.1[U.2.toNat]?).bind λgf=>(lk.ae (a1.1,a8.1,gf.2.1,())).bind λky=>cond (decide (ky.1 < 0)) (if 0<=U.2 then ((a1.2.1[U.2.toNat]?).bind λqJ=>(jD.ae (U.1,qJ,())).bind λjq=>self (jq.1,ag (U.2+1))) else none)<|self (U.1,ag (U.2+1))) else none) else none)<|e0 U.1
theorem lh (rec:RT O) (K:KT O) (a1:A) (U:(List Row)×Int):D.N k [1,1,0,1,0,0] (T0 a1 U) (iX rec (ge [0,1,5,6] []) K)=b0 (S0 rec a1) (c_ K a1) a1 U:=Bye
def T1 (a1:A) (e8:List Row) (dm:(List Change)×Int):St:={ n:=112,sl:=[(0,.val (.aa bd) a1.1),(1,.val (.aa bd) a1.2.1),(5,.own (.aa bd) (aj (.aa bd)) [] e8),(7,.own (.aa aq) (aj (.aa aq)) [] dm.1),(8,.val i64 dm.2)],vr:=[],aT:=[] }
def b1 (self:((List Change)×Int)->P) (e2:(List Change)->P) (a1:A) (e8:List Row) (dm:(List Change)×Int):P:=cond (decide (dm.2 < (e8.length:Int))) (if 0<=dm.2/\dm.2 < (e8.length:Int) then ((e8[dm.2.toNat]?).bind λAr=>if 0<=dm.2/\dm.2 < (e8.length:Int) then ((e8[dm.2.toNat]?).bind λDz=>(lk.ae (a1.1,Ar.1,Dz.2.1,())).bind λoJ=>if 0<=dm.2/\dm.2 < (e8.length:Int) then ((e8[dm.2.toNat]?).bind λad9=>if 0<=dm.2/\dm.2 < (e8.length:Int) then ((e8[dm.2.toNat]?).bind λad_=>(lk.ae (a1.2.1,ad9.1,ad_.2.1,())).bind λDD=>let Vf:P:=let aaS:=λ(KY:Change)=>(let KZ:=λ(aaT:Change)=>(if dm.1.length+[aaT].length<=b9 then (self (dm.1++[aaT],ag (dm.2+1))) else none:P);cond (decide (0<=DD.1)) (if 0<=DD.1 then ((a1.2.1[DD.1.toNat]?).bind λaea=>KZ (KY.1,KY.2.1,KY.2.2.1,aea,KY.2.2.2.2)) else none)<|KZ KY:P);cond (decide (0<=oJ.1)) (if 0<=oJ.1 then ((a1.1[oJ.1.toNat]?).bind λaeb=>aaS (decide (0<=oJ.1),aeb,decide (0<=DD.1),(0,0,0,([]:Byt),()),())) else none)<|aaS (decide (0<=oJ.1),(0,0,0,([]:Byt),()),decide (0<=DD.1),(0,0,0,([]:Byt),()),());cond (decide (0<=oJ.1)) (cond (decide (0<=DD.1)) (if 0<=oJ.1 then ((a1.1[oJ.1.toNat]?).bind λaec=>if 0<=DD.1 then ((a1.2.1[DD.1.toNat]?).bind λaed=>cond (Ty.eq bd aec aed) (self (dm.1,ag (dm.2+1)))<|Vf) else none) else none)<|Vf)<|Vf) else none) else none) else none) else none)<|e2 dm.1
def q1 (a1:A) (e8:List Row) (aee:(List Change)):P:=some (aee,())
def s1 (a1:A):(List Row)->((List Change)×Int)->P:=λe8=>λdm=>D.L k [1,1,1,1,0,1,0,0] [0,1,5,7,8] [] (ai 2 (ay (D.N k [1,1,1,1,1]) D.K0)) (T1 a1 e8 dm)
def r1 (a1:A):(List Row)->((List Change)×Int)->P:=λe8=>am (λw v=>b1 w (q1 a1 e8) a1 e8 v) k
theorem li (a1:A):s1 k a1=r1 k a1:=
 funext λe8=>funext λdm=>av _ _ _ (T1 a1 e8) _ (λrec v=>Bye) k dm
def q0 (l1:(List Row)->((List Change)×Int)->P) (a1:A) (oC:(List Row)):P:=l1 oC (([]:List Change),0)
def Q0 (a1:A) (oC:(List Row)):P:=q0 (r1 k a1) a1 oC
theorem sa (a1:A) (oC:(List Row)):c_ (ai 0 (ay (D.N k [1,1,1]) D.K0)) a1 oC=Q0 k a1 oC:=
 aL (b:=q0 (s1 k a1) a1 oC) Bye (by rw[li];rfl)
def s0 (a1:A):((List Row)×Int)->P:=λU=>D.L k [1,1,0,1,0,0] [0,1,5,6] [] (ai 0 (ay (D.N k [1,1,1]) D.K0)) (T0 a1 U)
def r0 (a1:A):((List Row)×Int)->P:=am (λw v=>b0 w (Q0 k a1) a1 v) k
theorem aw (a1:A):s0 k a1=r0 k a1:=by
 funext U;have h0:c_ (ai 0 (ay (D.N k [1,1,1]) D.K0)) a1=Q0 k a1:=funext λz=>sa k a1 z;refine (av _ _ _ (T0 a1) (λself v=>b0 self (c_ (ai 0 (ay (D.N k [1,1,1]) D.K0)) a1) a1 v) (λrec v=>lh k rec (ai 0 (ay (D.N k [1,1,1]) D.K0)) a1 v) k U).trans ?_;rw[h0];rfl
def p (l0:((List Row)×Int)->P) (a1:A):P:=if ([]:List Row).length+a1.1.length<=b9 then (l0 (([]:List Row)++a1.1,0)) else none
theorem af (a1:A):@Eq P (D.W k a1) (p (r0 k a1) a1):=
 aL (b:=p (s0 k a1) a1) Bye (by rw[aw])
theorem ok:Ok prog 274 D.sig:=ap func274 az Bye (fc jD.ok (fc lk.ok (ak _)))
end fu
namespace nq
abbrev A:=(List Change)×Change×Unit
abbrev O:=(List Change)×Bool×Unit
abbrev P:=Option O
noncomputable def D:FD:={ fn:=f313,tl:=bc,ps:=[(.ro,(.aa aq)),(.ro,aq)],rs:=[((.aa aq),(aj (.aa aq))),(.bool,(an .bool))],gl:=[(125,mq.D.sig)],lv:=[(4,[0,3,6,7,8])],lx:=[(0,[3,6,7]),(1,[0,3,6,7,8])] }
def ae (a:A):P:=@lift O λk=>D.W k a
variable (a1:A)
def T0 (U:(List Change)×Bool×Int):St:={ n:=88,sl:=[(0,.val (.aa aq) a1.1),(3,.box aq (an aq) [] a1.2.1),(6,.own (.aa aq) (aj (.aa aq)) [] U.1),(7,.val .bool U.2.1),(8,.val i64 U.2.2)],vr:=[],aT:=[] }
def b0 (self:((List Change)×Bool×Int)->P) (e0:((List Change)×Bool)->P) (a1:A) (U:(List Change)×Bool×Int):P:=cond (decide (U.2.2 < (a1.1.length:Int))) (if 0<=U.2.2 then ((a1.1[U.2.2.toNat]?).bind λa8=>let Fs:=λ(CU:List Change) (sf:Bool)=>((mq.ae (a8,a1.2.1,())).bind λzZ=>cond zZ.1 (if CU.length+[a8].length<=b9 then (self (CU++[a8],sf,ag (U.2.2+1))) else none)<|(mq.ae (a1.2.1,a8,())).bind λHe=>cond He.1 (if CU.length+[a8].length<=b9 then (self (CU++[a8],sf,ag (U.2.2+1))) else none)<|let ac0:P:=let PL:P:=if CU.length+[(a8.1,a8.2.1,a1.2.1.2.2.1,a1.2.1.2.2.2.1,a8.2.2.2.2)].length<=b9 then (let z8:=CU++[(a8.1,a8.2.1,a1.2.1.2.2.1,a1.2.1.2.2.2.1,a8.2.2.2.2)];self (z8,true,ag (U.2.2+1))) else none;cond (a8.1 == a1.2.1.2.2.1) (cond (!a8.1) (self (CU,true,ag (U.2.2+1)))<|cond (Ty.eq bd a8.2.1 a1.2.1.2.2.2.1) (self (CU,true,ag (U.2.2+1)))<|PL)<|PL;cond (!(a8.2.2.1 == a1.2.1.1)) (some (([]:List Change),false,()))<|cond a8.2.2.1 (cond (!(Ty.eq bd a8.2.2.2.1 a1.2.1.2.1)) (some (([]:List Change),false,()))<|ac0)<|ac0:P);cond (!U.2.1) ((mq.ae (a1.2.1,a8,())).bind λcx=>cond cx.1 (if U.1.length+[a1.2.1].length<=b9 then (Fs (U.1++[a1.2.1]) true) else none)<|Fs U.1 U.2.1)<|Fs U.1 U.2.1) else none)<|e0 (U.1,U.2.1)
def q0 (Vg:((List Change)×Bool)):P:=cond (!Vg.2) (if Vg.1.length+[a1.2.1].length<=b9 then (some (Vg.1++[a1.2.1],true,())) else none)<|some (Vg.1,true,())
def r0:((List Change)×Bool×Int)->P:=am (λw v=>b0 w (q0 a1) a1 v) k
theorem aw:@Eq (((List Change)×Bool×Int)->P) (λU=>D.L k [1,1,1,0,1,0,0] [0,3,6,7,8] [] (ai 0 (ay (D.N k [1,1,1,1]) D.K0)) (T0 a1 U)) (r0 k a1):=
 funext λU=>av _ _ _ (T0 a1) _ (λrec v=>Bye) k U
def p (l0:((List Change)×Bool×Int)->P) (a1:A):P:=l0 (([]:List Change),false,0)
theorem af:@Eq P (D.W k a1) (p (r0 k a1) a1):=By8 (aw k a1) Bye
theorem ok:Ok prog 313 D.sig:=ap func313 az Bye (fc mq.ok (ak _))
end nq
namespace oO
abbrev A:=(List Change)×Change×Unit
abbrev O:=Buffer×Unit
noncomputable def D:FD:={ fn:=f275,tl:=bc,ps:=[(.ro,(.aa aq)),(.ro,aq)],rs:=[(ej,(aj ej))],gl:=[(66,kR.D.sig),(124,kW.D.sig),(313,nq.D.sig)] }
def ae (a:A):Option O:=@lift O λk=>D.W k a
def p (a1:A):Option O:=(kR.ae (a1.1,())).bind λr2=>cond (!decide (r2.1=0)) (some ((r2.1,([]:List Change),()),()))<|(kW.ae (a1.2.1,())).bind λr3=>cond (!decide (r3.1=0)) (some ((r3.1,([]:List Change),()),()))<|(nq.ae (a1.1,a1.2.1,())).bind λr4=>cond (!r4.2.1) (some ((8,([]:List Change),()),()))<|some ((0,r4.1,()),())
theorem af (a1:A):@Eq (Option O) (D.W k a1) (p a1):=Bye
theorem ok:Ok prog 275 D.sig:=ap func275 az Bye (fc kR.ok (fc kW.ok (fc nq.ok (ak _))))
end oO
namespace mB
abbrev A:=di×bg×Unit
abbrev O:=ng×Unit
abbrev P:=Option O
noncomputable def D:FD:={ fn:=f215,tl:=bc,ps:=[(.ro,jN),(.ro,(.ptr du))],rs:=[(mh,(aj mh))],gl:=[(88,f0.D.sig),(89,jj.D.sig),(156,fj.D.sig),(212,lw.D.sig),(213,jX.D.sig),(214,lN.D.sig),(274,fu.D.sig),(275,oO.D.sig)],fz:=[(1,1,7),(7,7,0)],lv:=[(18,[4,7,8,9,10])],lx:=[(0,[4,8])],od:=[(1,[0,1,2,3,4,5,6,7]),(7,[0,1,3,4,2,5,6,7]),(20,[0,1,2,3,4,5,6,7,8,9,10,11,12])],ar:=[(1,[4]),(20,[9])],pd:=[(1,[6]),(20,[11])],er:=[(1,[(1,8)]),(20,[(1,13),(5,13)])] }
def ae (a:A):P:=@lift O λk=>D.W k a
variable (a1:A)
def T0 (a1:A) (Bm:List Change) (sh:Int) (uI:di×Int):St:={ n:=94,sl:=[(4,.box mh (aj mh) [] ((0:Int),false,false,(0:Int),([]:List Change),(([]:List Byt),([]:List Buffer),()),())),(7,.val (.aa aq) Bm),(8,.box jN (aj jN) [] uI.1),(9,.val i64 sh),(10,.val i64 uI.2)],vr:=[],aT:=[] }
def b0 (self:(di×Int)->P) (e0:di->P) (a1:A) (Bm:List Change) (sh:Int) (uI:di×Int):P:=cond (decide (uI.2 < (Bm.length:Int))) (if 0<=sh/\sh < (uI.1.2.1.length:Int) then ((uI.1.2.1[sh.toNat]?).bind λBl=>cond (rC [.snd,.fst,.idx sh.toNat,.snd,.fst] [.snd,.fst,.idx sh.toNat,.snd,.fst]&&true) (if 0<=uI.2 then ((Bm[uI.2.toNat]?).bind λHd=>(uI.1.2.1[sh.toNat]?).bind λub=>(oO.ae (ub.2.1,Hd,())).bind λz7=>cond (rC [.snd,.fst,.idx sh.toNat,.snd,.fst] [.snd,.fst,.idx sh.toNat,.snd,.fst]&&true) (cond (rC [.snd,.fst,.idx sh.toNat,.snd,.fst] [.snd,.fst,.idx sh.toNat,.snd,.fst]&&true) (cond (!decide (z7.1.1=0)) ((jX.ae (z7.1.1,())).bind λHg=>some (Hg.1,()))<|if 0<=sh/\sh < (uI.1.2.1.length:Int) then ((uI.1.2.1[sh.toNat]?).bind λFq=>let Zz:=uI.1.2.1.set sh.toNat (Fq.1,z7.1.2.1,Fq.2.2);self ((uI.1.1,Zz,uI.1.2.2),ag (uI.2+1))) else none)<|none)<|none) else none)<|none) else none)<|e0 uI.1
def q0 (a1:A) (Bm:List Change) (sh:Int) (Ve:di):P:=some ((0,false,false,0,([]:List Change),Ve,()),())
def r0:(List Change)->Int->(di×Int)->P:=λBm sh=>am (λw v=>b0 w (q0 a1 Bm sh) a1 Bm sh v) k
theorem aw:@Eq ((List Change)->Int->(di×Int)->P) (λBm sh=>λuI=>D.L k [1,1,1,1,1,1,1,1,1,1,0,1,0,0] [4,7,8,9,10] [] (ai 0 (ay (D.N k [1,1,1,1,1,1,1,1,1,1,1]) D.K0)) (T0 a1 Bm sh uI)) (r0 k a1):=
 funext λBm=>funext λsh=>funext λuI=>av _ _ _ (T0 a1 Bm sh) _ (λrec v=>Bye) k uI
def p (l0:(List Change)->Int->(di×Int)->P) (a1:A):P:=(fj.ae (a1.1.1,a1.2.1,())).bind λr2=>cond (!decide (r2.1.1=0)) ((jX.ae (r2.1.1,())).bind λr3=>some (r3.1,()))<|(f0.ae (r2.1.2.2.1,())).bind λr4=>cond (!decide (r4.1=0)) ((jX.ae (r4.1,())).bind λr5=>some (r5.1,()))<|(jj.ae (a1.1.1,())).bind λr6=>(jj.ae (r2.1.2.2.1,())).bind λr7=>(fu.ae (r6.1,r7.1,())).bind λr8=>(lN.ae (a1.1,())).bind λr9=>cond (decide (a1.2.1.1=4)) (cond (decide (0 < (r8.1.length:Int))) ((jX.ae (8,())).bind λwE=>some (wE.1,()))<|some ((0,false,false,0,([]:List Change),(r2.1.2.2.1,r9.1.2),()),()))<|(lw.ae (a1.1,a1.2.1.2.1,())).bind λtc=>cond (decide (tc.1 < 0)) ((jX.ae (4,())).bind λtd=>some (td.1,()))<|l0 r8.1 tc.1 ((r2.1.2.2.1,r9.1.2),0)
theorem af:@Eq P (D.W k a1) (p (r0 k a1) a1):=By8 (aw k a1) Bye
theorem ok:Ok prog 215 D.sig:=ap func215 az Bye (fc f0.ok (fc jj.ok (fc fj.ok (fc lw.ok (fc jX.ok (fc lN.ok (fc fu.ok (fc oO.ok (ak _)))))))))
end mB
namespace su
abbrev A:=di×bg×Unit
abbrev O:=ng×Unit
noncomputable def D:FD:={ fn:=f137,tl:=bc,ps:=[(.ro,jN),(.ro,(.ptr du))],rs:=[(mh,Bt8)],gl:=[(211,sg.D.sig),(212,lw.D.sig),(213,jX.D.sig),(214,lN.D.sig),(215,mB.D.sig)],od:=[(11,[0,1,2,3,4,5,6,7,8,9,10])] }
def ae (a:A):Option O:=@lift O λk=>D.W k a
def p (a1:A):Option O:=cond (decide (a1.2.1.1=5)) (cond (decide (a1.2.1.1=5)) ((sg.ae (a1.1,a1.2.1,())).bind λr2=>some (r2.1,()))<|cond (decide (a1.2.1.1=1)) ((lw.ae (a1.1,a1.2.1.2.1,())).bind λr3=>cond (decide (0<=r3.1)) ((jX.ae (6,())).bind λr4=>some (r4.1,()))<|cond (decide (8<=(a1.1.2.1.length:Int))) ((jX.ae (2,())).bind λr5=>some (r5.1,()))<|(lN.ae (a1.1,())).bind λr6=>if r6.1.2.1.length+[(a1.2.1.2.1,([]:List Change),())].length<=b9 then (let y7:=r6.1.2.1++[(a1.2.1.2.1,([]:List Change),())];some ((0,false,false,0,([]:List Change),(r6.1.1,y7,r6.1.2.2),()),())) else none)<|(mB.ae (a1.1,a1.2.1,())).bind λEt=>some (Et.1,()))<|cond (decide (a1.2.1.1=6)) ((sg.ae (a1.1,a1.2.1,())).bind λr8=>some (r8.1,()))<|cond (decide (a1.2.1.1=1)) ((lw.ae (a1.1,a1.2.1.2.1,())).bind λr9=>cond (decide (0<=r9.1)) ((jX.ae (6,())).bind λwE=>some (wE.1,()))<|cond (decide (8<=(a1.1.2.1.length:Int))) ((jX.ae (2,())).bind λtc=>some (tc.1,()))<|(lN.ae (a1.1,())).bind λtd=>if td.1.2.1.length+[(a1.2.1.2.1,([]:List Change),())].length<=b9 then (let y13:=td.1.2.1++[(a1.2.1.2.1,([]:List Change),())];some ((0,false,false,0,([]:List Change),(td.1.1,y13,td.1.2.2),()),())) else none)<|(mB.ae (a1.1,a1.2.1,())).bind λAV=>some (AV.1,())
theorem af (a1:A):@Eq (Option O) (D.W k a1) (p a1):=Bye
theorem ok:Ok prog 137 D.sig:=ap func137 az Bye (fc sg.ok (fc lw.ok (fc jX.ok (fc lN.ok (fc mB.ok (ak _))))))
end su
namespace o6
abbrev A:=(List bg)×Unit
abbrev O:=ju×Unit
abbrev P:=Option O
noncomputable def D:FD:={ fn:=f75,tl:=bc,ps:=[(.ro,(.aa du))],rs:=[(sN,(.pair (an i64) (.pair (.aa true (an ej)) Bte)))],gl:=[(136,lg.D.sig),(137,su.D.sig)],lv:=[(3,[0,2,3,4])],lx:=[(0,[2,3])],lf:=[(3,[(3,Bts)])],od:=[(8,[0,1,2,3,4,5,6,7])],ar:=[(8,[])],pd:=[(8,[6])],er:=[(8,[(1,8)])] }
def ae (a:A):P:=@lift O λk=>D.W k a
variable (a1:A)
def T0 (U:ju×Int):St:={ n:=50,sl:=[(0,.val (.aa du) a1.1),(2,.box sN (aj sN) [] ((0:Int),([]:List Buffer),(([]:List Byt),([]:List Buffer),()),())),(3,.box sN (.pair (an i64) (.pair (.aa true (an ej)) Bte)) [] U.1),(4,.val i64 U.2)],vr:=[],aT:=[] }
def b0 (self:(ju×Int)->P) (e0:ju->P) (a1:A) (U:ju×Int):P:=cond (decide (U.2 < (a1.1.length:Int))) (if 0<=U.2 then ((a1.1[U.2.toNat]?).bind λa8=>(lg.ae (a8,())).bind λcx=>cond (!decide (cx.1=0)) (some ((cx.1,([]:List Buffer),(([]:List Byt),([]:List Buffer),()),()),()))<|if 0<=U.2 then ((a1.1[U.2.toNat]?).bind λd6=>(su.ae (U.1.2.2.1,d6,())).bind λiQ=>cond (!decide (iQ.1.1=0)) (some ((iQ.1.1,([]:List Buffer),(([]:List Byt),([]:List Buffer),()),()),()))<|cond iQ.1.2.2.1 (if U.1.2.1.length+[(iQ.1.2.2.2.1,iQ.1.2.2.2.2.1,())].length<=b9 then (let Bj:=U.1.2.1++[(iQ.1.2.2.2.1,iQ.1.2.2.2.2.1,())];self ((U.1.1,Bj,iQ.1.2.2.2.2.2.1,U.1.2.2.2),ag (U.2+1))) else none)<|self ((U.1.1,U.1.2.1,iQ.1.2.2.2.2.2.1,U.1.2.2.2),ag (U.2+1))) else none) else none)<|e0 U.1
def q0 (a1:A) (oC:ju):P:=some (oC,())
def r0:(ju×Int)->P:=am (λw v=>b0 w (q0 a1) a1 v) k
theorem aw:@Eq ((ju×Int)->P) (λU=>D.L k [1,1,0,1,0,0] [0,2,3,4] [(3,Bts)] (ai 0 (ay (D.N k [1,1,1]) D.K0)) (T0 a1 U)) (r0 k a1):=
 funext λU=>av _ _ _ (T0 a1) _ (λrec v=>Bye) k U
def p (l0:(ju×Int)->P) (a1:A):P:=l0 ((0,([]:List Buffer),(([]:List Byt),([]:List Buffer),()),()),0)
theorem af:@Eq P (D.W k a1) (p (r0 k a1) a1):=By8 (aw k a1) Bye
theorem ok:Ok prog 75 D.sig:=ap func75 az Bye (fc lg.ok (fc su.ok (ak _)))
end o6
namespace jt
abbrev A:=bi×Unit
abbrev O:=nf×Unit
abbrev P:=Option O
noncomputable def D:FD:={ fn:=f33,tl:=bc,ps:=[(.ro,cw)],rs:=[(fx,(.pair (an i64) (.pair (an i64) (.pair (.pair (an .bool) (.pair (an (.aa (.aa u8))) (.pair (aj gd) (an (c9 [(.aa df),i64]))))) (an .unit)))))],gl:=[(39,rS.D.sig),(40,qW.D.sig),(68,rt.D.sig),(75,o6.D.sig),(76,mu.D.sig),(77,nk.D.sig),(78,ua.D.sig)],fz:=[(6,4,1),(9,2,7)],lv:=[(11,[2,4,5,6])],lx:=[(0,[2,5])],lf:=[(11,[(5,Byc)])],od:=[(9,[0,1,2,3,4,6,7,5,8,9,10])],ar:=[(9,[4,7])],bx:=[(9,[1])],pd:=[(9,[9])],er:=[(9,[(2,10)])] }
def ae (a:A):P:=@lift O λk=>D.W k a
variable (a1:A)
def T0 (a1:A) (lV:ju) (gw:bi×Int):St:={ n:=58,sl:=[(2,.box fx (aj fx) [] ((0:Int),(0:Int),(false,([]:List Byt),(([]:Byt),([]:Byt),()),([]:List Tx),(0:Int),()),())),(4,.box sN (an sN) [] lV),(5,.box cw (an cw) [] gw.1),(6,.val i64 gw.2)],vr:=[],aT:=[] }
def b0 (self:(bi×Int)->P) (e0:bi->P) (a1:A) (lV:ju) (gw:bi×Int):P:=cond (decide (gw.2 < (lV.2.2.1.2.1.length:Int))) (if 0<=gw.2 then ((lV.2.2.1.2.1[gw.2.toNat]?).bind λBk=>(rt.ae (gw.1,Bk,())).bind λCR=>cond (!decide (CR.1=0)) ((qW.ae (CR.1,())).bind λMk=>some (Mk.1,()))<|self (CR.2.1,ag (gw.2+1))) else none)<|e0 gw.1
def q0 (a1:A) (lV:ju) (Mm:bi):P:=(ua.ae (Mm.2.2.1,())).bind λHe=>some ((0,0,(Mm.1,Mm.2.1,He.1,Mm.2.2.2),()),())
def r0:ju->(bi×Int)->P:=λlV=>am (λw v=>b0 w (q0 a1 lV) a1 lV v) k
theorem aw:@Eq (ju->(bi×Int)->P) (λlV=>λgw=>D.L k [1,1,1,1,1,1,0,1,0,0] [2,4,5,6] [(5,Byc)] (ai 0 (ay (D.N k [1,1,1,1,1,1,1]) D.K0)) (T0 a1 lV gw)) (r0 k a1):=
 funext λlV=>funext λgw=>av _ _ _ (T0 a1 lV) _ (λrec v=>Bye) k gw
def p (l0:ju->(bi×Int)->P) (a1:A):P:=(rS.ae (a1.1,())).bind λr2=>cond (!decide (r2.1=0)) ((qW.ae (r2.1,())).bind λr3=>some (r3.1,()))<|cond a1.1.1 ((qW.ae (8,())).bind λr4=>some (r4.1,()))<|(mu.ae (a1.1.2.2.1,())).bind λr5=>(o6.ae (r5.1,())).bind λr6=>cond (!decide (r6.1.1=0)) ((qW.ae (r6.1.1,())).bind λr7=>some (r7.1,()))<|(nk.ae (a1.1.2.2.1,())).bind λr8=>l0 r6.1 ((true,r6.1.2.2.1.1,r8.1,([]:List Tx),a1.1.2.2.2.2.1,()),0)
theorem af:@Eq P (D.W k a1) (p (r0 k a1) a1):=By8 (aw k a1) Bye
theorem ok:Ok prog 33 D.sig:=ap func33 az Bye (fc rS.ok (fc qW.ok (fc rt.ok (fc o6.ok (fc mu.ok (fc nk.ok (fc ua.ok (ak _))))))))
end jt
namespace qd
abbrev A:=Buffer×Int×Unit
abbrev O:=Bool×Unit
noncomputable def D:FD:={ fn:=f278,tl:=bc,ps:=[(.ro,ej),(.ro,(.ptr i64))],rs:=[(.bool,(an .bool))],cap:=true }
def ae (a:A):Option O:=@lift O λk=>D.W k a
def p (a1:A):Option O:=some (decide (a1.1.1=a1.2.1),())
theorem af (a1:A):@Eq (Option O) (D.W k a1) (p a1):=Bye
theorem ok:Ok prog 278 D.sig:=ap func278 az Bye (ak _)
end qd
namespace gb
abbrev A:=(List Buffer)×(Nat×Int)×Unit
abbrev O:=Int×Unit
abbrev P:=Option O
noncomputable def D:FD:={ fn:=f277,tl:=bc,ps:=[(.ro,(.aa ej)),(.fix 278,.fn)],rs:=[(i64,(an i64))],gl:=[(278,qd.D.sig)],lv:=[(2,[0,1,7,8])],lx:=[(0,[])] }
def ae (a:A):P:=@lift O λk=>D.W k a
variable (a1:A)
def T0 (U:Int):St:={ n:=19,sl:=[(0,.val (.aa ej) a1.1),(1,.val .fn ((278,a1.2.1.2):Nat×Int)),(7,.val i64 (a1.1.length:Int)),(8,.val i64 U)],vr:=[],aT:=[] }
def b0 (self:Int->P) (e0:(Unit)->P) (a1:A) (U:Int):P:=cond (decide (U < (a1.1.length:Int))) (if 0<=U then ((a1.1[U.toNat]?).bind λa8=>(qd.ae (a8,a1.2.1.2,())).bind λcx=>cond cx.1 (some (U,()))<|self (ag (U+1))) else none)<|e0 ()
def q0 (a1:A) (ez:(Unit)):P:=some ((-1),())
def r0:(Int)->P:=am (λw v=>b0 w (q0 a1) a1 v) k
theorem aw:@Eq ((Int)->P) (λU=>D.L k [1,0,1,0,0] [0,1,7,8] [] (ai 0 (ay (D.N k [1,1]) D.K0)) (T0 a1 U)) (r0 k a1):=
 funext λU=>av _ _ _ (T0 a1) _ (λrec v=>Bye) k U
def p (l0:(Int)->P) (a1:A):P:=l0 0
theorem af:@Eq P (D.W k a1) (p (r0 k a1) a1):=By8 (aw k a1) Bye
theorem ok:Ok prog 277 D.sig:=ap func277 az Bye (fc qd.ok (ak _))
end gb
namespace oP
abbrev A:=di×Int×Unit
abbrev O:=Int×Unit
noncomputable def D:FD:={ fn:=f218,tl:=bc,ps:=[(.ro,jN),(.ro,i64)],rs:=[(i64,(an i64))],gl:=[(277,gb.D.sig)] }
def ae (a:A):Option O:=@lift O λk=>D.W k a
def p (a1:A):Option O:=(gb.ae (a1.1.2.1,((278,a1.2.1):Nat×Int),())).bind λr2=>some (r2.1,())
theorem af (a1:A):@Eq (Option O) (D.W k a1) (p a1):=Bye
theorem ok:Ok prog 218 D.sig:=ap func218 az Bye (fc gb.ok (ak _))
end oP
namespace pt
abbrev A:=Buffer×Unit
abbrev O:=Buffer×Unit
noncomputable def D:FD:={ fn:=f279,tl:=bc,ps:=[(.ro,ej)],rs:=[(ej,(aj ej))],gl:=[(188,d8.D.sig)],od:=[(1,[0,1,2,3,4,5,6])] }
def ae (a:A):Option O:=@lift O λk=>D.W k a
def p (a1:A):Option O:=(d8.ae (a1.1.2.1,())).bind λr2=>some ((a1.1.1,r2.1,()),())
theorem af (a1:A):@Eq (Option O) (D.W k a1) (p a1):=Bye
theorem ok:Ok prog 279 D.sig:=ap func279 az Bye (fc d8.ok (ak _))
end pt
namespace kl
abbrev A:=di×Unit
abbrev O:=di×Unit
abbrev P:=Option O
noncomputable def D:FD:={ fn:=f219,tl:=bc,ps:=[(.ro,jN)],rs:=[(jN,(aj jN))],gl:=[(82,gv.D.sig),(279,pt.D.sig)],lv:=[(3,[2,3,11,12,13])],lx:=[(0,[2,3])],od:=[(5,[0,1,2,3,4,5,6,7])] }
def ae (a:A):P:=@lift O λk=>D.W k a
variable (a1:A)
def T0 (be:di×Int):St:={ n:=26,sl:=[(2,.box jN (aj jN) [] (([]:List Byt),([]:List Buffer),())),(3,.box jN (aj jN) [] be.1),(11,.val (.aa ej) a1.1.2.1),(12,.val i64 (a1.1.2.1.length:Int)),(13,.val i64 be.2)],vr:=[],aT:=[] }
def b0 (self:(di×Int)->P) (e0:di->P) (a1:A) (be:di×Int):P:=cond (decide (be.2 < (a1.1.2.1.length:Int))) (if 0<=be.2 then ((a1.1.2.1[be.2.toNat]?).bind λgf=>(pt.ae (gf,())).bind λky=>if be.1.2.1.length+[ky.1].length<=b9 then (self ((be.1.1,be.1.2.1++[ky.1],be.1.2.2),ag (be.2+1))) else none) else none)<|e0 be.1
def q0 (a1:A) (pc:di):P:=some (pc,())
def r0:(di×Int)->P:=am (λw v=>b0 w (q0 a1) a1 v) k
theorem aw:@Eq ((di×Int)->P) (λbe=>D.L k [1,1,0,1,0,0] [2,3,11,12,13] [] (ai 0 (ay (D.N k [1,1,1]) D.K0)) (T0 a1 be)) (r0 k a1):=
 funext λbe=>av _ _ _ (T0 a1) _ (λrec v=>Bye) k be
def p (l0:(di×Int)->P) (a1:A):P:=(gv.ae (a1.1.1,())).bind λr2=>l0 ((r2.1,([]:List Buffer),()),0)
theorem af:@Eq P (D.W k a1) (p (r0 k a1) a1):=By8 (aw k a1) Bye
theorem ok:Ok prog 219 D.sig:=ap func219 az Bye (fc gv.ok (fc pt.ok (ak _)))
end kl
namespace mN
open Go.Proofs
abbrev A:=(List Buffer)×Int×(Int)×Unit
abbrev O:=(List Buffer)×Unit
def ae (a:A):Option O:=PA ej a
def sig:uQ:={ ps:=[(.nK (aj (.aa ej)),(.aa ej)),(.ro,i64),(.ro,i64)],rs:=[((.aa ej),aj (.aa ej))],F:=ae,Eb:=λv H=>Mg v.2.1 v.2.2.1 H }
def Xy:Go.Shelf.Ren:=⟨λ| 45=>220 | n=>n,λ| 22=>124 | 23=>72 | 3=>3 | 4=>4 | 0=>0 | n=>n,λn=>n⟩
theorem lay:SlLaysE0.n45 prog Xy:=⟨by kernel_rfl,⟨f220.name,by decide,func220.trans (cN some Bye)⟩,underlying0,isAgg0,sizeOf0,zeroValue0,underlying3,isAgg3,sizeOf3,zeroValue3,underlying4,isAgg4,sizeOf4,zeroValue4,underlying124,isAgg124,sizeOf124,zeroValue124⟩
theorem ok:Ok prog 220 sig:=Na (e:=ej) lay Bye (by decide) (by decide) ⟨f220,func220,by kernel_rfl,by kernel_rfl,by kernel_rfl⟩
end mN
namespace jQ
abbrev A:=(List Row)×(List Row)×Unit
abbrev O:=(List Change)×Unit
abbrev P:=Option O
noncomputable def D:FD:={ fn:=f221,tl:=bc,ps:=[(.ro,(.aa bd)),(.ro,(.aa bd))],rs:=[((.aa aq),(aj (.aa aq)))],gl:=[(186,jw.D.sig)],lv:=[(2,[0,1,5])],lx:=[(0,[5])],od:=[(4,[0,1,2,3,4,5,6,7]),(11,[0,1,2,3,4,5,6]),(14,[0,1,2,3,4,5,6])],ar:=[(11,[2]),(14,[2])] }
def ae (a:A):P:=@lift O λk=>D.W k a
variable (a1:A)
def T0 (a1:A) (U:(List Row)×(List Row)×(List Change)):St:={ n:=69,sl:=[(0,.val (.aa bd) U.1),(1,.val (.aa bd) U.2.1),(5,.own (.aa aq) (aj (.aa aq)) [] U.2.2)],vr:=[],aT:=[] }
def b0 (self:((List Row)×(List Row)×(List Change))->P) (e0:(List Change)->P) (a1:A) (U:(List Row)×(List Row)×(List Change)):P:=let ac1:P:=let ZA:=λ(ac2:Int)=>(let ac3:=λ(Vh:List Row) (Vi:Change)=>(let ac4:=λ(Vj:List Row) (DZ:Change)=>(cond (!DZ.1) (if U.2.2.length+[DZ].length<=b9 then (self (Vh,Vj,U.2.2++[DZ])) else none)<|cond (!DZ.2.2.1) (if U.2.2.length+[DZ].length<=b9 then (self (Vh,Vj,U.2.2++[DZ])) else none)<|cond (!(Ty.eq bd DZ.2.1 DZ.2.2.2.1)) (if U.2.2.length+[DZ].length<=b9 then (self (Vh,Vj,U.2.2++[DZ])) else none)<|self (Vh,Vj,U.2.2):P);cond (decide (0<=ac2)) ((U.2.1[0]?).bind λafe=>if 0<=(1:Int)/\1<=(U.2.1.length:Int) then (ac4 ((U.2.1.take U.2.1.length).drop 1) (Vi.1,Vi.2.1,true,afe,Vi.2.2.2.2)) else none)<|ac4 U.2.1 Vi:P);cond (decide (ac2<=0)) ((U.1[0]?).bind λaff=>if 0<=(1:Int)/\1<=(U.1.length:Int) then (ac3 ((U.1.take U.1.length).drop 1) (true,aff,false,(0,0,0,([]:Byt),()),())) else none)<|ac3 U.1 (false,(0,0,0,([]:Byt),()),false,(0,0,0,([]:Byt),()),()):P);cond (decide ((U.1.length:Int)=0)) (ZA 1)<|cond (decide ((U.2.1.length:Int)=0)) (ZA (-1))<|(U.1[0]?).bind λub=>(U.2.1[0]?).bind λZy=>(jw.ae (ub,Zy,())).bind λHg=>ZA Hg.1;cond (decide (0 < (U.1.length:Int))) (ac1)<|cond (decide (0 < (U.2.1.length:Int))) (ac1)<|e0 U.2.2
def q0 (a1:A) (afg:(List Change)):P:=some (afg,())
def r0:((List Row)×(List Row)×(List Change))->P:=am (λw v=>b0 w (q0 a1) a1 v) k
theorem aw:@Eq (((List Row)×(List Row)×(List Change))->P) (λU=>D.L k [1,1,0,0,0] [0,1,5] [] (ai 0 (ay (D.N k [1,1,1]) D.K0)) (T0 a1 U)) (r0 k a1):=
 funext λU=>av _ _ _ (T0 a1) _ (λrec v=>Bye) k U
def p (l0:((List Row)×(List Row)×(List Change))->P) (a1:A):P:=l0 (a1.1,a1.2.1,([]:List Change))
theorem af:@Eq P (D.W k a1) (p (r0 k a1) a1):=By8 (aw k a1) Bye
theorem ok:Ok prog 221 D.sig:=ap func221 az Bye (fc jw.ok (ak _))
end jQ
namespace o7
abbrev A:=Change×Row×Unit
abbrev O:=Int×Unit
noncomputable def D:FD:={ fn:=f281,tl:=bc,ps:=[(.ro,aq),(.ro,bd)],rs:=[(i64,(an i64))],gl:=[(133,cz.D.sig),(186,jw.D.sig)],od:=[(1,[0,2,1,3,4])] }
def ae (a:A):Option O:=@lift O λk=>D.W k a
def p (a1:A):Option O:=(cz.ae (a1.1,())).bind λr2=>(jw.ae (r2.1,a1.2.1,())).bind λr3=>some (r3.1,())
theorem af (a1:A):@Eq (Option O) (D.W k a1) (p a1):=Bye
theorem ok:Ok prog 281 D.sig:=ap func281 az Bye (fc cz.ok (fc jw.ok (ak _)))
end o7
namespace bz
abbrev A:=(List Change)×Row×(Nat×Int)×Unit
abbrev O:=Int×Bool×Unit
abbrev P:=Option O
noncomputable def D:FD:={ fn:=f280,tl:=bc,ps:=[(.ro,(.aa aq)),(.ro,bd),(.fix 281,.fn)],rs:=[(i64,(an i64)),(.bool,(an .bool))],gl:=[(281,o7.D.sig)],lv:=[(3,[0,2,4,8,9,10])],lx:=[(0,[0,2,4,8,9])],od:=[(5,[0,1,2,3,4,5,6,7]),(8,[0,1,2,3,4,5,6,7,8,9,10,11,12,13,14,15])] }
def ae (a:A):P:=@lift O λk=>D.W k a
variable (a1:A)
def T0 (U:Int×Int):St:={ n:=49,sl:=[(0,.val (.aa aq) a1.1),(2,.val .fn ((281,a1.2.2.1.2):Nat×Int)),(4,.box bd (an bd) [] a1.2.1),(8,.val i64 (a1.1.length:Int)),(9,.val i64 U.1),(10,.val i64 U.2)],vr:=[],aT:=[] }
def b0 (self:(Int×Int)->P) (e0:Int->P) (a1:A) (U:Int×Int):P:=cond (decide (U.1 < U.2)) (if 0<=ag ((IntKind.wrap .u64 (ag (U.1+U.2))).fdiv (2 ^ 1)) then ((a1.1[(ag ((IntKind.wrap .u64 (ag (U.1+U.2))).fdiv (2 ^ 1))).toNat]?).bind λa8=>(o7.ae (a8,a1.2.1,())).bind λcx=>cond (decide (cx.1 < 0)) (self (ag ((ag ((IntKind.wrap .u64 (ag (U.1+U.2))).fdiv (2 ^ 1)))+1),U.2))<|self (U.1,ag ((IntKind.wrap .u64 (ag (U.1+U.2))).fdiv (2 ^ 1)))) else none)<|e0 U.1
def q0 (ez:Int):P:=cond (decide (ez < (a1.1.length:Int))) (if 0<=ez then ((a1.1[ez.toNat]?).bind λqJ=>(o7.ae (qJ,a1.2.1,())).bind λjq=>some (ez,decide (jq.1=0),())) else none)<|some (ez,false,())
def r0:(Int×Int)->P:=am (λw v=>b0 w (q0 a1) a1 v) k
theorem aw:@Eq ((Int×Int)->P) (λU=>D.L k [1,1,1,0,0,0] [0,2,4,8,9,10] [] (ai 0 (ay (D.N k [1,1,1,1]) D.K0)) (T0 a1 U)) (r0 k a1):=
 funext λU=>av _ _ _ (T0 a1) _ (λrec v=>Bye) k U
def p (l0:(Int×Int)->P) (a1:A):P:=l0 (0,(a1.1.length:Int))
theorem af:@Eq P (D.W k a1) (p (r0 k a1) a1):=By8 (aw k a1) Bye
theorem ok:Ok prog 280 D.sig:=ap func280 az Bye (fc o7.ok (ak _))
end bz
namespace p_
open Go.Proofs
abbrev A:=(List Change)×Int×(List Change)×Unit
abbrev O:=(List Change)×Unit
def ae (a:A):Option O:=UR aq a
def sig:uQ:={ ps:=[(.nK (aj (.aa aq)),(.aa aq)),(.ro,i64),(.ro,(.aa aq))],rs:=[((.aa aq),aj (.aa aq))],F:=ae }
def Xy:Go.Shelf.Ren:=⟨λ| 22=>282 | 29=>314 | 30=>315 | n=>n,λ| 24=>70 | 9=>94 | 3=>3 | 4=>4 | n=>n,λn=>n⟩
theorem lay:KR prog Xy aq:=⟨by kernel_rfl,⟨f282.name,by decide,func282.trans (cN some Bye)⟩,⟨f314,func314,by kernel_rfl,by kernel_rfl,by kernel_rfl,by kernel_rfl⟩,by kernel_rfl,by kernel_rfl,by kernel_rfl,underlying70,by kernel_rfl,by kernel_rfl,by kernel_rfl,by kernel_rfl⟩
theorem ok:Ok prog 282 sig:=Xp lay (by decide) (by decide) (by decide) ⟨f282,func282,by kernel_rfl,by kernel_rfl,by kernel_rfl⟩
end p_
namespace mO
open Go.Proofs
abbrev A:=(List Change)×Int×(Int)×Unit
abbrev O:=(List Change)×Unit
def ae (a:A):Option O:=PA aq a
def sig:uQ:={ ps:=[(.nK (aj (.aa aq)),(.aa aq)),(.ro,i64),(.ro,i64)],rs:=[((.aa aq),aj (.aa aq))],F:=ae,Eb:=λv H=>Mg v.2.1 v.2.2.1 H }
def Xy:Go.Shelf.Ren:=⟨λ| 45=>283 | n=>n,λ| 22=>70 | 23=>94 | 3=>3 | 4=>4 | 0=>0 | n=>n,λn=>n⟩
theorem lay:SlLaysE0.n45 prog Xy:=⟨by kernel_rfl,⟨f283.name,by decide,func283.trans (cN some Bye)⟩,underlying0,isAgg0,sizeOf0,zeroValue0,underlying3,isAgg3,sizeOf3,zeroValue3,underlying4,isAgg4,sizeOf4,zeroValue4,underlying70,isAgg70,sizeOf70,zeroValue70⟩
theorem ok:Ok prog 283 sig:=Na (e:=aq) lay Bye (by decide) (by decide) ⟨f283,func283,by kernel_rfl,by kernel_rfl,by kernel_rfl⟩
end mO
namespace oQ
abbrev A:=(List Change)×Change×Unit
abbrev O:=Buffer×Unit
abbrev P:=Option O
noncomputable def D:FD:={ fn:=f222,tl:=bc,ps:=[(.ro,(.aa aq)),(.ro,aq)],rs:=[(ej,(aj ej))],gl:=[(71,gx.D.sig),(131,jr.D.sig),(133,cz.D.sig),(188,d8.D.sig),(280,bz.D.sig),(282,p_.sig),(283,mO.sig)],od:=[(14,[0,1,2,3,4,5,6,7])],ar:=[(14,[1,3])],bx:=[(14,[3])] }
def ae (a:A):P:=@lift O λk=>D.W k a
def p (a1:A):P:=(gx.ae (a1.1,())).bind λr2=>cond (!decide (r2.1=0)) (some ((r2.1,([]:List Change),()),()))<|(jr.ae (a1.2.1,())).bind λr3=>cond (!decide (r3.1=0)) (some ((r3.1,([]:List Change),()),()))<|(cz.ae (a1.2.1,())).bind λr4=>(bz.ae (a1.1,r4.1,((281,0):Nat×Int),())).bind λr5=>(d8.ae (a1.1,())).bind λr6=>cond (!r5.2.1) ((p_.ae (r6.1,r5.1,[a1.2.1],())).bind λr7=>some ((0,r7.1,()),()))<|if 0<=r5.1/\r5.1 < (r6.1.length:Int) then ((r6.1[r5.1.toNat]?).bind λx8=>let j24:P:=let Tr:P:=if 0<=r5.1/\r5.1 < (r6.1.length:Int) then ((r6.1[r5.1.toNat]?).bind λx31=>let y32:=r6.1.set r5.1.toNat (x8.1,x8.2.1,a1.2.1.2.2.1,a1.2.1.2.2.2.1,x8.2.2.2.2);some ((0,y32,()),())) else none;cond (!x8.1) (cond (!a1.2.1.2.2.1) ((mO.ae (r6.1,r5.1,ag (r5.1+1),())).bind λXw=>some ((0,Xw.1,()),()))<|cond x8.1 (cond a1.2.1.2.2.1 (cond (Ty.eq bd x8.2.1 a1.2.1.2.2.2.1) ((mO.ae (r6.1,r5.1,ag (r5.1+1),())).bind λTp=>some ((0,Tp.1,()),()))<|Tr)<|Tr)<|Tr)<|cond x8.1 (cond a1.2.1.2.2.1 (cond (Ty.eq bd x8.2.1 a1.2.1.2.2.2.1) ((mO.ae (r6.1,r5.1,ag (r5.1+1),())).bind λr27=>some ((0,r27.1,()),()))<|Tr)<|Tr)<|Tr;cond (!(a1.2.1.1 == x8.2.2.1)) (some ((8,([]:List Change),()),()))<|cond a1.2.1.1 (cond (!(Ty.eq bd a1.2.1.2.1 x8.2.2.2.1)) (some ((8,([]:List Change),()),()))<|j24)<|j24) else none
theorem af (a1:A):@Eq P (D.W k a1) (p a1):=Bye
theorem ok:Ok prog 222 D.sig:=ap func222 az Bye (fc gx.ok (fc jr.ok (fc cz.ok (fc d8.ok (fc bz.ok (fc p_.ok (fc mO.ok (ak _))))))))
end oQ
namespace jG
abbrev A:=di×bg×Unit
abbrev O:=ng×Unit
abbrev P:=Option O
noncomputable def D:FD:={ fn:=f141,tl:=bc,ps:=[(.ro,jN),(.ro,du)],rs:=[(mh,(aj mh))],gl:=[(82,gv.D.sig),(99,fi.D.sig),(101,jW.D.sig),(142,jb.D.sig),(143,mg.D.sig),(218,oP.D.sig),(219,kl.D.sig),(220,mN.sig),(221,jQ.D.sig),(222,oQ.D.sig)],lv:=[(37,[4,6,7,15,131,132,133])],lx:=[(1,[4,7])],od:=[(39,[0,1,2,3,4,5,6,7,8,9])],ar:=[(39,[6])],bx:=[(39,[17])],pd:=[(39,[8])],er:=[(39,[(1,10),(5,10)])] }
def ae (a:A):P:=@lift O λk=>D.W k a
variable (a1:A)
def T0 (a1:A) (pA:Int) (xR:List Change) (zj:Int) (qX:di×Int):St:={ n:=161,sl:=[(4,.box mh (aj mh) [] ((0:Int),false,false,(0:Int),([]:List Change),(([]:List Byt),([]:List Buffer),()),())),(6,.val i64 pA),(7,.box jN (aj jN) [] qX.1),(15,.own (.aa aq) (aj (.aa aq)) [] xR),(131,.ref 15 [] [0,0]),(132,.val i64 zj),(133,.val i64 qX.2)],vr:=[],aT:=[] }
def b0 (self:(di×Int)->P) (e1:di->P) (a1:A) (pA:Int) (xR:List Change) (zj:Int) (qX:di×Int):P:=cond (decide (qX.2 < zj)) (if 0<=qX.2/\qX.2 < (xR.length:Int) then ((xR[qX.2.toNat]?).bind λaef=>if 0<=pA/\pA < (qX.1.2.1.length:Int) then ((qX.1.2.1[pA.toNat]?).bind λafD=>cond (rC [.snd,.fst,.idx pA.toNat,.snd,.fst] [.snd,.fst,.idx pA.toNat,.snd,.fst]&&true) ((qX.1.2.1[pA.toNat]?).bind λaeg=>(oQ.ae (aeg.2.1,aef,())).bind λVk=>cond (rC [.snd,.fst,.idx pA.toNat,.snd,.fst] [.snd,.fst,.idx pA.toNat,.snd,.fst]&&true) (cond (rC [.snd,.fst,.idx pA.toNat,.snd,.fst] [.snd,.fst,.idx pA.toNat,.snd,.fst]&&true) (cond (!decide (Vk.1.1=0)) (some ((Vk.1.1,false,false,0,([]:List Change),(([]:List Byt),([]:List Buffer),()),()),()))<|if 0<=pA/\pA < (qX.1.2.1.length:Int) then ((qX.1.2.1[pA.toNat]?).bind λaaU=>let aeh:=qX.1.2.1.set pA.toNat (aaU.1,Vk.1.2.1,aaU.2.2);self ((qX.1.1,aeh,qX.1.2.2),ag (qX.2+1))) else none)<|none)<|none)<|none) else none) else none)<|e1 qX.1
def q0 (a1:A) (pA:Int) (xR:List Change) (zj:Int) (aei:di):P:=some ((0,false,false,0,([]:List Change),aei,()),())
def r0:Int->(List Change)->Int->(di×Int)->P:=λpA xR zj=>am (λw v=>b0 w (q0 a1 pA xR zj) a1 pA xR zj v) k
theorem aw:@Eq (Int->(List Change)->Int->(di×Int)->P) (λpA xR zj=>λqX=>D.L k [1,1,1,1,1,1,1,1,1,1,1,1,1,1,0,1,0,0] [4,6,7,15,131,132,133] [] (ai 1 (ay (D.N k [1,1,1,1,1,1,1,1,1,1,1,1,1,1,1]) D.K0)) (T0 a1 pA xR zj qX)) (r0 k a1):=
 funext λpA=>funext λxR=>funext λzj=>funext λqX=>av _ _ _ (T0 a1 pA xR zj) _ (λrec v=>Bye) k qX
def p (l0:Int->(List Change)->Int->(di×Int)->P) (a1:A):P:=(jb.ae (a1.2.1,())).bind λr2=>cond (!decide (r2.1=0)) (some ((r2.1,false,false,0,([]:List Change),(([]:List Byt),([]:List Buffer),()),()),()))<|(oP.ae (a1.1,a1.2.1.2.1,())).bind λr3=>(kl.ae (a1.1,())).bind λr4=>let KZ:P:=(mg.ae (r4.1.1,a1.2.1,())).bind λOc=>cond (!decide (Oc.2.1=0)) (some ((Oc.2.1,false,false,0,([]:List Change),(([]:List Byt),([]:List Buffer),()),()),()))<|(fi.ae (Oc.1,())).bind λVl=>cond (!decide (Vl.2.1=0)) (some ((Vl.2.1,false,false,0,([]:List Change),(([]:List Byt),([]:List Buffer),()),()),()))<|let aaV:P:=(fi.ae (a1.1.1,())).bind λaej=>(jW.ae (aej.1,())).bind λaek=>(jW.ae (Vl.1,())).bind λael=>(jQ.ae (aek.1,ael.1,())).bind λVm=>(gv.ae (Oc.1,())).bind λaaW=>cond (decide (a1.2.1.1=4)) (cond (decide (0 < (Vm.1.length:Int))) (some ((8,false,false,0,([]:List Change),(([]:List Byt),([]:List Buffer),()),()),()))<|some ((0,false,false,0,([]:List Change),(aaW.1,r4.1.2),()),()))<|l0 r3.1 Vm.1 (Vm.1.length:Int) ((aaW.1,r4.1.2),0);cond (!decide (a1.2.1.1=4)) (cond (decide (r3.1 < 0)) (some ((4,false,false,0,([]:List Change),(([]:List Byt),([]:List Buffer),()),()),()))<|aaV)<|aaV;cond (decide (a1.2.1.1=1)) (cond (decide (0<=r3.1)) (some ((6,false,false,0,([]:List Change),(([]:List Byt),([]:List Buffer),()),()),()))<|cond (decide (8<=(a1.1.2.1.length:Int))) (some ((2,false,false,0,([]:List Change),(([]:List Byt),([]:List Buffer),()),()),()))<|if r4.1.2.1.length+[(a1.2.1.2.1,([]:List Change),())].length<=b9 then (let y5:=r4.1.2.1++[(a1.2.1.2.1,([]:List Change),())];some ((0,false,false,0,([]:List Change),(r4.1.1,y5,r4.1.2.2),()),())) else none)<|cond (decide (a1.2.1.1=5)) (cond (decide (a1.2.1.1=5)) (cond (decide (r3.1 < 0)) (some ((4,false,false,0,([]:List Change),(([]:List Byt),([]:List Buffer),()),()),()))<|if 0<=r3.1/\r3.1 < (r4.1.2.1.length:Int) then ((r4.1.2.1[r3.1.toNat]?).bind λx6=>(r4.1.2.1[r3.1.toNat]?).bind λx7=>(r4.1.2.1[r3.1.toNat]?).bind λx8=>cond (Fe r3.1 (ag (r3.1+1)) r3.1.toNat) ((mN.ae (r4.1.2.1.set r3.1.toNat x8,r3.1,ag (r3.1+1),())).bind λr9=>some ((0,true,decide (a1.2.1.1=5),x7.1,x7.2.1,(r4.1.1,r9.1,r4.1.2.2),()),()))<|none) else none)<|KZ)<|cond (decide (a1.2.1.1=6)) (cond (decide (r3.1 < 0)) (some ((4,false,false,0,([]:List Change),(([]:List Byt),([]:List Buffer),()),()),()))<|if 0<=r3.1/\r3.1 < (r4.1.2.1.length:Int) then ((r4.1.2.1[r3.1.toNat]?).bind λXu=>(r4.1.2.1[r3.1.toNat]?).bind λTq=>(r4.1.2.1[r3.1.toNat]?).bind λx12=>cond (Fe r3.1 (ag (r3.1+1)) r3.1.toNat) ((mN.ae (r4.1.2.1.set r3.1.toNat x12,r3.1,ag (r3.1+1),())).bind λGA=>some ((0,true,decide (a1.2.1.1=5),Tq.1,Tq.2.1,(r4.1.1,GA.1,r4.1.2.2),()),()))<|none) else none)<|KZ
theorem af:@Eq P (D.W k a1) (p (r0 k a1) a1):=By8 (aw k a1) Bye
theorem ok:Ok prog 141 D.sig:=ap func141 az Bye (fc gv.ok (fc fi.ok (fc jW.ok (fc jb.ok (fc mg.ok (fc oP.ok (fc kl.ok (fc mN.ok (fc jQ.ok (fc oQ.ok (ak _)))))))))))
end jG
namespace qt
abbrev A:=(List bg)×Unit
abbrev O:=(List Buffer)×di×Int×Unit
abbrev P:=Option O
noncomputable def D:FD:={ fn:=f80,tl:=bc,ps:=[(.ro,(.aa du))],rs:=[((.aa ej),(aj (.aa ej))),(jN,(aj jN)),(i64,(an i64))],gl:=[(141,jG.D.sig)],lv:=[(4,[3,5,6,10,11,12])],lx:=[(0,[3,5,6])],od:=[(8,[0,1,2,3,4,5]),(13,[0,1,2,3,4])],ar:=[(8,[2])],bx:=[(8,[9])] }
def ae (a:A):P:=@lift O λk=>D.W k a
variable (a1:A)
def T0 (U:(List Buffer)×di×Int):St:={ n:=40,sl:=[(3,.box jN (aj jN) [] (([]:List Byt),([]:List Buffer),())),(5,.own (.aa ej) (aj (.aa ej)) [] U.1),(6,.box jN (aj jN) [] U.2.1),(10,.val (.aa du) a1.1),(11,.val i64 (a1.1.length:Int)),(12,.val i64 U.2.2)],vr:=[],aT:=[] }
def b0 (self:((List Buffer)×di×Int)->P) (e0:((List Buffer)×di)->P) (a1:A) (U:(List Buffer)×di×Int):P:=cond (decide (U.2.2 < (a1.1.length:Int))) (if 0<=U.2.2 then ((a1.1[U.2.2.toNat]?).bind λa8=>(jG.ae (U.2.1,a8,())).bind λcx=>cond (!decide (cx.1.1=0)) (some (([]:List Buffer),(([]:List Byt),([]:List Buffer),()),cx.1.1,()))<|cond cx.1.2.2.1 (if U.1.length+[(cx.1.2.2.2.1,cx.1.2.2.2.2.1,())].length<=b9 then (let JK:=U.1++[(cx.1.2.2.2.1,cx.1.2.2.2.2.1,())];self (JK,cx.1.2.2.2.2.2.1,ag (U.2.2+1))) else none)<|self (U.1,cx.1.2.2.2.2.2.1,ag (U.2.2+1))) else none)<|e0 (U.1,U.2.1)
def q0 (a1:A) (pc:((List Buffer)×di)):P:=some (pc.1,pc.2,0,())
def r0:((List Buffer)×di×Int)->P:=am (λw v=>b0 w (q0 a1) a1 v) k
theorem aw:@Eq (((List Buffer)×di×Int)->P) (λU=>D.L k [1,1,1,0,1,0,0] [3,5,6,10,11,12] [] (ai 0 (ay (D.N k [1,1,1,1]) D.K0)) (T0 a1 U)) (r0 k a1):=
 funext λU=>av _ _ _ (T0 a1) _ (λrec v=>Bye) k U
def p (l0:((List Buffer)×di×Int)->P) (a1:A):P:=l0 (([]:List Buffer),(([]:List Byt),([]:List Buffer),()),0)
theorem af:@Eq P (D.W k a1) (p (r0 k a1) a1):=By8 (aw k a1) Bye
theorem ok:Ok prog 80 D.sig:=ap func80 az Bye (fc jG.ok (ak _))
end qt
namespace jf
abbrev A:=bi×Unit
abbrev O:=nf×Unit
abbrev P:=Option O
noncomputable def D:FD:={ fn:=f34,tl:=bc,ps:=[(.ro,cw)],rs:=[(fx,(aj fx))],gl:=[(46,pY.D.sig),(50,qL.D.sig),(72,l6.D.sig),(79,lJ.D.sig),(80,qt.D.sig),(81,oK.D.sig),(82,gv.D.sig),(83,oY.D.sig),(84,pZ.D.sig)],fz:=[(7,8,1),(13,3,7)],lv:=[(15,[2,10,54,55,56])],lx:=[(0,[2,10])],lf:=[(15,[(10,Btt)])],od:=[(13,[0,2,3,5,6,1,4,7,8,9])],ar:=[(13,[3,6])],bx:=[(13,[1])],pd:=[(13,[8])] }
def ae (a:A):P:=@lift O λk=>D.W k a
variable (a1:A)
def T0 (a1:A) (CV:List Buffer) (lV:Int) (z_:bi×Int):St:={ n:=74,sl:=[(2,.box fx (aj fx) [] ((0:Int),(0:Int),(false,([]:List Byt),(([]:Byt),([]:Byt),()),([]:List Tx),(0:Int),()),())),(10,.box cw Byb [] z_.1),(54,.val (.aa ej) CV),(55,.val i64 lV),(56,.val i64 z_.2)],vr:=[],aT:=[] }
def b0 (self:(bi×Int)->P) (e0:bi->P) (a1:A) (CV:List Buffer) (lV:Int) (z_:bi×Int):P:=cond (decide (z_.2 < lV)) (if 0<=z_.2 then ((CV[z_.2.toNat]?).bind λBk=>(l6.ae (z_.1,Bk,())).bind λCR=>cond (!decide (CR.1=0)) (some ((CR.1,0,(false,([]:List Byt),(([]:Byt),([]:Byt),()),([]:List Tx),0,()),()),()))<|self (CR.2.1,ag (z_.2+1))) else none)<|e0 z_.1
def q0 (a1:A) (CV:List Buffer) (lV:Int) (Vn:bi):P:=(pZ.ae (Vn.2.2.1,())).bind λzZ=>(qL.ae ((Vn.1,Vn.2.1,zZ.1,Vn.2.2.2),())).bind λHe=>some ((0,0,He.1,()),())
def r0:(List Buffer)->Int->(bi×Int)->P:=λCV lV=>am (λw v=>b0 w (q0 a1 CV lV) a1 CV lV v) k
theorem aw:@Eq ((List Buffer)->Int->(bi×Int)->P) (λCV lV=>λz_=>D.L k [1,1,1,1,1,1,1,1,1,0,1,0,0] [2,10,54,55,56] [(10,Btt)] (ai 0 (ay (D.N k [1,1,1,1,1,1,1,1,1,1]) D.K0)) (T0 a1 CV lV z_)) (r0 k a1):=
 funext λCV=>funext λlV=>funext λz_=>av _ _ _ (T0 a1 CV lV) _ (λrec v=>Bye) k z_
def p (l0:(List Buffer)->Int->(bi×Int)->P) (a1:A):P:=(pY.ae (a1.1,())).bind λr2=>cond (!decide (r2.1=0)) (some ((r2.1,0,(false,([]:List Byt),(([]:Byt),([]:Byt),()),([]:List Tx),0,()),()),()))<|cond a1.1.1 (some ((8,0,(false,([]:List Byt),(([]:Byt),([]:Byt),()),([]:List Tx),0,()),()),()))<|(lJ.ae (a1.1.2.2.1,())).bind λr3=>(qt.ae (r3.1,())).bind λr4=>cond (!decide (r4.2.2.1=0)) (some ((r4.2.2.1,0,(false,([]:List Byt),(([]:Byt),([]:Byt),()),([]:List Tx),0,()),()),()))<|(oK.ae (r3.1,())).bind λr5=>cond (!decide (r5.2.1=0)) (some ((r5.2.1,0,(false,([]:List Byt),(([]:Byt),([]:Byt),()),([]:List Tx),0,()),()),()))<|(gv.ae (r5.1,())).bind λr6=>(oY.ae (a1.1.2.2.1,())).bind λr7=>l0 r4.2.1.2.1 (r4.2.1.2.1.length:Int) ((true,r6.1,r7.1,([]:List Tx),a1.1.2.2.2.2.1,()),0)
theorem af:@Eq P (D.W k a1) (p (r0 k a1) a1):=By8 (aw k a1) Bye
theorem ok:Ok prog 34 D.sig:=ap func34 az Bye (fc pY.ok (fc qL.ok (fc l6.ok (fc lJ.ok (fc qt.ok (fc oK.ok (fc gv.ok (fc oY.ok (fc pZ.ok (ak _))))))))))
end jf
namespace fa
abbrev A:=bi×Unit
abbrev O:=Bool×Unit
abbrev ps:PQ:=[(.ro,cw)]
noncomputable def D:FD:={ fn:=f6,tl:=bc,ps:=ps,rs:=[(.bool,(an .bool))],gl:=[(7,ri.D.sig),(10,oX.D.sig),(13,ls.D.sig),(14,oZ.D.sig),(15,kj.D.sig),(16,mM.D.sig),(17,lu.D.sig),(33,jt.D.sig),(34,jf.D.sig)],od:=[(10,[0,1,2,3,4])] }
def ae (a:A):Option O:=@lift O λk=>D.W k a
def p (a1:A):Option O:=(ri.ae (a1.1,1048576,())).bind λr2=>cond (decide (r2.1 < 0)) (some (true,()))<|(oX.ae (a1.1,())).bind λr3=>(jt.ae (r3.1,())).bind λr4=>(oX.ae (a1.1,())).bind λr5=>(jf.ae (r5.1,())).bind λr6=>(ls.ae (r6.1,r4.1,())).bind λr7=>cond (!r7.1) (some (false,()))<|(oX.ae (a1.1,())).bind λr8=>(oZ.ae (r5.1,r8.1,())).bind λr9=>cond (!r9.1) (some (false,()))<|(kj.ae (r5.1,1,())).bind λwE=>cond (decide (wE.1 < 0)) (some (false,()))<|(ls.ae (r6.1,r4.1,())).bind λtc=>cond (!tc.1) (some (false,()))<|(mM.ae (r6.1,1,())).bind λtd=>(lu.ae (td.2.1,1,())).bind λGA=>cond (decide (GA.1 < 0)) (some (false,()))<|cond (!decide (GA.1=td.1)) (some (false,()))<|(oX.ae (a1.1,())).bind λze=>(jf.ae (ze.1,())).bind λEt=>(ls.ae (Et.1,r4.1,())).bind λAV=>cond (!AV.1) (some (false,()))<|(lu.ae (td.2.1,1,())).bind λDB=>cond (decide (DB.1 < 0)) (some (false,()))<|cond (!decide (DB.1=td.1)) (some (false,()))<|some (true,())
theorem af (a1:A):@Eq (Option O) (D.W k a1) (p a1):=Bye
theorem ok:Ok prog 6 D.sig:=ap func6 az Bye (fc ri.ok (fc oX.ok (fc ls.ok (fc oZ.ok (fc kj.ok (fc mM.ok (fc lu.ok (fc jt.ok (fc jf.ok (ak _))))))))))
end fa
end
end OT
set_option linter.unusedSimpArgs false
namespace OT
open Go
noncomputable def Ij (n:Int):List UInt8:=((fm.ae (n,())).map (·.1)).getD []
theorem xH (n:Int) (h:n<=9223372036854775807):fm.ae (n,())=some (Ij n,()):=by
 have main:∃ t,fm.ae (n,())=some (t,()):=by
  by_cases hn:n<=0
  ·refine ⟨[109,48],ah (k:=0) λk _=>(fm.af k _).trans ?_⟩
   grind [fm.p]
  ·have key:∀ (f:Nat) (m:Int) (out:List UInt8),0<=m->m<=9223372036854775807->m < 10 ^ f->out.length+f<=100->∃ t,t.length<=100/\∀ k,f < k->am (λself v=>fm.B0 0 self (λz=>fm.Q0 0 (n,()) z) (n,()) v) k (m,out)=some (109::t,()):=by
    intro f
    induction f with
    | zero=>
     intro m out h0 h9 h1 h2;have hm:m=0:=by grind
     subst hm;refine ⟨out,by omega,λk hk=>?_⟩
     cases k <;> grind [CN,fm.b0,fm.q0,b9]
    | succ f ih=>
     intro m out h0 h9 h1 h2;by_cases hm:0 < m
     ·have hq0:0<=m.tdiv 10:=Int.tdiv_nonneg h0 Bys
      have hq:m.tdiv 10 < 10 ^ f:=by
       grind
      have hd:=Int.emod_nonneg m (b:=10) Bys;have Ts:=Int.emod_lt_of_pos m (b:=10) Bys;obtain ⟨t,t1,t2⟩:=ih (m.tdiv 10) ([UInt8.ofInt (ag (48+m.tmod 10))]++out) hq0 (by grind) hq (by simp;omega);refine ⟨t,t1,λk hk=>?_⟩
      cases k <;> grind [CN,fm.b0,bh,b9]
     ·have hm:m=0:=by omega
      subst hm;refine ⟨out,by omega,λk hk=>?_⟩
      cases k <;> grind [CN,fm.b0,fm.q0,b9]
   obtain ⟨t,t1,t2⟩:=key 19 n [] Bys h Bys (by simp);refine ⟨109::t,ah (k:=20) λk hk=>(fm.af k _).trans ?_⟩
   unfold fm.p;simp only[hn,aG,aE];exact t2 k Bys
 grind [Ij]
theorem Fy (x:List UInt8) (n:Int) (hx:uG (.aa u8) x) (h0:0<=n) (h1:n<=1048576):nP.ae (x,n,())=some (nH n (zz (.aa u8) x),()):=Ze (e:=u8) (λ_=>rfl) (λx n k=>nP.af k (x,n,())) x n hx h0 h1
theorem RJ (x:List (List UInt8)) (n:Int) (hx:uG (.aa (.aa u8)) x) (h0:0<=n) (h1:n<=1048576):tn.ae (x,n,())=some (nH n (zz (.aa (.aa u8)) x),()):=szG (e:=(.aa u8)) (f:=λa n=>nP.ae (a,n,())) (λx n k=>tn.af k (x,n,())) Fy x n hx h0 h1
theorem ZB (x:Log) (n:Int) (hx:uG gd x) (h0:0<=n) (h1:n<=1048576):tG.ae (x,n,())=some (nH n (zz gd x),()):=by
 have hz:zz gd x=(zz (.aa u8) x.1+(zz (.aa u8) x.2.1+0)):=rfl;refine ah (k:=0) λk _=>(tG.af k _).trans ?_;show tG.p _=_;unfold tG.p;simp only[Fy x.1 (n) hx.1 Bys Bys,aA];by_cases hc:((zz (.aa u8) x.1:Nat):Int)<=n;rotate_left
 ·grind [nH]
 have e1:nH (n) (zz (.aa u8) x.1)=n - ((zz (.aa u8) x.1:Nat):Int):=aR hc;have n1:¬ (n - ((zz (.aa u8) x.1:Nat):Int) < 0):=by omega
 simp only[e1,n1,aG,aE];clear e1 n1;simp only[Fy x.2.1 ((n - ((zz (.aa u8) x.1:Nat):Int))) hx.2.1 Bys Bys,aA];grind [nH]
theorem PU (x:Row) (n:Int) (hx:uG bd x) (h0:0<=n) (h1:n<=1048576):r_.ae (x,n,())=some (nH n (zz bd x),()):=by
 have hz:zz bd x=(0+(0+(0+(List.length x.2.2.2.1+0)))):=rfl;refine ah (k:=0) λk _=>(r_.af k _).trans ?_;show r_.p _=_;unfold r_.p;have hw:ag (n - (List.length x.2.2.2.1:Int))=n - (List.length x.2.2.2.1:Int):=bh (by have h9:=hx.2.2.2.1;grind [uG,au]);grind [nH]
theorem RK (x:Change) (n:Int) (hx:uG aq x) (h0:0<=n) (h1:n<=1048576):o4.ae (x,n,())=some (nH n (zz aq x),()):=by
 have hz:zz aq x=(0+((0+(0+(0+(List.length x.2.1.2.2.2.1+0))))+(0+((0+(0+(0+(List.length x.2.2.2.1.2.2.2.1+0))))+0)))):=rfl;refine ah (k:=0) λk _=>(o4.af k _).trans ?_;show o4.p _=_;unfold o4.p;have AK:zz bd x.2.1=(0+(0+(0+(List.length x.2.1.2.2.2.1+0)))):=rfl;simp only[PU x.2.1 (n) hx.2.1 Bys Bys,aA];by_cases hc:((zz bd x.2.1:Nat):Int)<=n;rotate_left
 ·grind [nH]
 have e1:nH (n) (zz bd x.2.1)=n - ((zz bd x.2.1:Nat):Int):=aR hc;have n1:¬ (n - ((zz bd x.2.1:Nat):Int) < 0):=by omega
 simp only[e1,n1,aG,aE];clear e1 n1;have hz3:zz bd x.2.2.2.1=(0+(0+(0+(List.length x.2.2.2.1.2.2.2.1+0)))):=rfl;simp only[PU x.2.2.2.1 ((n - ((zz bd x.2.1:Nat):Int))) hx.2.2.2.1 Bys Bys,aA];grind [nH]
theorem PV (x:List Change) (n:Int) (hx:uG (.aa aq) x) (h0:0<=n) (h1:n<=1048576):sA.ae (x,n,())=some (nH n (zz (.aa aq) x),()):=szG (e:=aq) (f:=λa n=>o4.ae (a,n,())) (λx n k=>sA.af k (x,n,())) RK x n hx h0 h1
theorem RL (x:List Int) (n:Int) (hx:uG (.aa i64) x) (h0:0<=n) (h1:n<=1048576):to.ae (x,n,())=some (nH n (zz (.aa i64) x),()):=Ze (e:=i64) (λ_=>rfl) (λx n k=>to.af k (x,n,())) x n hx h0 h1
theorem Xz (x:List Key) (n:Int) (hx:uG (.aa bp) x) (h0:0<=n) (h1:n<=1048576):vX.ae (x,n,())=some (nH n (zz (.aa bp) x),()):=Ze (e:=bp) (λ_=>rfl) (λx n k=>vX.af k (x,n,())) x n hx h0 h1
theorem abD (x:Tx) (n:Int) (hx:uG df x) (h0:0<=n) (h1:n<=1048576):tH.ae (x,n,())=some (nH n (zz df x),()):=by
 have hz:zz df x=(0+(zz (.aa aq) x.2.1+(zz (.aa i64) x.2.2.1+(zz (.aa bp) x.2.2.2.1+0)))):=rfl;refine ah (k:=0) λk _=>(tH.af k _).trans ?_;show tH.p _=_;unfold tH.p;simp only[PV x.2.1 (n) hx.2.1 Bys Bys,aA];by_cases hc:((zz (.aa aq) x.2.1:Nat):Int)<=n;rotate_left
 ·grind [nH]
 have e1:nH (n) (zz (.aa aq) x.2.1)=n - ((zz (.aa aq) x.2.1:Nat):Int):=aR hc;have n1:¬ (n - ((zz (.aa aq) x.2.1:Nat):Int) < 0):=by omega
 simp only[e1,n1,aG,aE];clear e1 n1;simp only[RL x.2.2.1 ((n - ((zz (.aa aq) x.2.1:Nat):Int))) hx.2.2.1 Bys Bys,aA]
 by_cases hc:((zz (.aa i64) x.2.2.1:Nat):Int)<=(n - ((zz (.aa aq) x.2.1:Nat):Int))
 rotate_left
 ·grind [nH]
 have e1:nH ((n - ((zz (.aa aq) x.2.1:Nat):Int))) (zz (.aa i64) x.2.2.1)=(n - ((zz (.aa aq) x.2.1:Nat):Int)) - ((zz (.aa i64) x.2.2.1:Nat):Int):=aR hc;have n1:¬ ((n - ((zz (.aa aq) x.2.1:Nat):Int)) - ((zz (.aa i64) x.2.2.1:Nat):Int) < 0):=by omega
 simp only[e1,n1,aG,aE];clear e1 n1;simp only[Xz x.2.2.2.1 (((n - ((zz (.aa aq) x.2.1:Nat):Int)) - ((zz (.aa i64) x.2.2.1:Nat):Int))) hx.2.2.2.1 Bys Bys,aA];grind [nH]
theorem ZC (x:List Tx) (n:Int) (hx:uG (.aa df) x) (h0:0<=n) (h1:n<=1048576):wY.ae (x,n,())=some (nH n (zz (.aa df) x),()):=szG (e:=df) (f:=λa n=>tH.ae (a,n,())) (λx n k=>wY.af k (x,n,())) abD x n hx h0 h1
theorem Vo (x:bi) (n:Int) (hx:uG cw x) (h0:0<=n) (h1:n<=1048576):ri.ae (x,n,())=some (nH n (zz cw x),()):=by
 have hz:zz cw x=(0+(zz (.aa (.aa u8)) x.2.1+((zz (.aa u8) x.2.2.1.1+(zz (.aa u8) x.2.2.1.2.1+0))+(zz (.aa df) x.2.2.2.1+(0+0))))):=rfl;refine ah (k:=0) λk _=>(ri.af k _).trans ?_;show ri.p _=_;unfold ri.p;simp only[RJ x.2.1 (n) hx.2.1 Bys Bys,aA];by_cases hc:((zz (.aa (.aa u8)) x.2.1:Nat):Int)<=n;rotate_left
 ·grind [nH]
 have e1:nH (n) (zz (.aa (.aa u8)) x.2.1)=n - ((zz (.aa (.aa u8)) x.2.1:Nat):Int):=aR hc;have n1:¬ (n - ((zz (.aa (.aa u8)) x.2.1:Nat):Int) < 0):=by omega
 simp only[e1,n1,aG,aE];clear e1 n1;have CB:zz gd x.2.2.1=(zz (.aa u8) x.2.2.1.1+(zz (.aa u8) x.2.2.1.2.1+0)):=rfl;simp only[ZB x.2.2.1 ((n - ((zz (.aa (.aa u8)) x.2.1:Nat):Int))) hx.2.2.1 Bys Bys,aA]
 by_cases hc:((zz gd x.2.2.1:Nat):Int)<=(n - ((zz (.aa (.aa u8)) x.2.1:Nat):Int))
 rotate_left
 ·grind [nH]
 have e1:nH ((n - ((zz (.aa (.aa u8)) x.2.1:Nat):Int))) (zz gd x.2.2.1)=(n - ((zz (.aa (.aa u8)) x.2.1:Nat):Int)) - ((zz gd x.2.2.1:Nat):Int):=aR hc;have n1:¬ ((n - ((zz (.aa (.aa u8)) x.2.1:Nat):Int)) - ((zz gd x.2.2.1:Nat):Int) < 0):=by omega
 simp only[e1,n1,aG,aE];clear e1 n1;simp only[ZC x.2.2.2.1 (((n - ((zz (.aa (.aa u8)) x.2.1:Nat):Int)) - ((zz gd x.2.2.1:Nat):Int))) hx.2.2.2.1 Bys Bys,aA];grind [nH]
theorem K1 (x:List UInt8) (h:zz (.aa u8) x<=1048576):nU.ae (x,())=some (x,()):=Th (e:=u8) (f:=λa=>some (a,())) (λx k=>nU.af k (x,())) (λ_ _=>rfl) x h
theorem RM (x:List (List UInt8)) (h:zz (.aa (.aa u8)) x<=1048576):tq.ae (x,())=some (x,()):=Th (e:=(.aa u8)) (f:=λa=>nU.ae (a,())) (λx k=>tq.af k (x,())) K1 x h
theorem ZD (x:Log) (h:zz gd x<=1048576):vh.ae (x,())=some (x,()):=by
 have hz:zz gd x=(zz (.aa u8) x.1+(zz (.aa u8) x.2.1+0)):=rfl;refine ah (k:=0) λk _=>(vh.af k _).trans ?_;grind [vh.p,K1]
theorem ZE (x:Row) (h:zz bd x<=1048576):tK.ae (x,())=some (x,()):=by
 have hz:zz bd x=(0+(0+(0+(List.length x.2.2.2.1+0)))):=rfl;refine ah (k:=0) λk _=>(tK.af k _).trans ?_;grind [tK.p]
theorem RN (x:Change) (h:zz aq x<=1048576):qn.ae (x,())=some (x,()):=by
 have hz:zz aq x=(0+((0+(0+(0+(List.length x.2.1.2.2.2.1+0))))+(0+((0+(0+(0+(List.length x.2.2.2.1.2.2.2.1+0))))+0)))):=rfl;have AK:zz bd x.2.1=(0+(0+(0+(List.length x.2.1.2.2.2.1+0)))):=rfl;have hz3:zz bd x.2.2.2.1=(0+(0+(0+(List.length x.2.2.2.1.2.2.2.1+0)))):=rfl;refine ah (k:=0) λk _=>(qn.af k _).trans ?_;grind [qn.p,ZE]
theorem PW (x:List Change) (h:zz (.aa aq) x<=1048576):sB.ae (x,())=some (x,()):=Th (e:=aq) (f:=λa=>qn.ae (a,())) (λx k=>sB.af k (x,())) RN x h
theorem RP (x:List Int) (h:zz (.aa i64) x<=1048576):tr.ae (x,())=some (x,()):=Th (e:=i64) (f:=λa=>some (a,())) (λx k=>tr.af k (x,())) (λ_ _=>rfl) x h
theorem ZF (x:Key) (h:zz bp x<=1048576):tL.ae (x,())=some (x,()):=by
 have hz:zz bp x=(0+(0+0)):=rfl;refine ah (k:=0) λk _=>(tL.af k _).trans ?_;grind [tL.p]
theorem XA (x:List Key) (h:zz (.aa bp) x<=1048576):vY.ae (x,())=some (x,()):=Th (e:=bp) (f:=λa=>tL.ae (a,())) (λx k=>vY.af k (x,())) ZF x h
theorem abE (x:Tx) (h:zz df x<=1048576):uS.ae (x,())=some (x,()):=by
 have hz:zz df x=(0+(zz (.aa aq) x.2.1+(zz (.aa i64) x.2.2.1+(zz (.aa bp) x.2.2.2.1+0)))):=rfl;refine ah (k:=0) λk _=>(uS.af k _).trans ?_;grind [uS.p,PW,RP,XA]
theorem ZG (x:List Tx) (h:zz (.aa df) x<=1048576):w_.ae (x,())=some (x,()):=Th (e:=df) (f:=λa=>uS.ae (a,())) (λx k=>w_.af k (x,())) abE x h
theorem Vp (x:bi) (h:zz cw x<=1048576):oX.ae (x,())=some (x,()):=by
 have hz:zz cw x=(0+(zz (.aa (.aa u8)) x.2.1+((zz (.aa u8) x.2.2.1.1+(zz (.aa u8) x.2.2.1.2.1+0))+(zz (.aa df) x.2.2.2.1+(0+0))))):=rfl;have CB:zz gd x.2.2.1=(zz (.aa u8) x.2.2.1.1+(zz (.aa u8) x.2.2.1.2.1+0)):=rfl;refine ah (k:=0) λk _=>(oX.af k _).trans ?_;grind [oX.p,RM,ZD,ZG]
theorem Hj (x:List UInt8) (h:zz (.aa u8) x<=4611686018427387904):nW.ae (x,x,())=some (true,()):=Ti (e:=u8) (f:=λ(a b:UInt8)=>some (decide ((a.toNat:Int)=(b.toNat:Int)),())) (λx k=>nW.af k (x,x,())) (λa _=>by simp) x h
theorem NR (x:List (List UInt8)) (h:zz (.aa (.aa u8)) x<=4611686018427387904):tt.ae (x,x,())=some (true,()):=Ti (e:=(.aa u8)) (f:=λ(a b:List UInt8)=>nW.ae (a,b,())) (λx k=>tt.af k (x,x,())) Hj x h
theorem Vq (x:Log) (h:zz gd x<=4611686018427387904):vk.ae (x,x,())=some (true,()):=by
 have hz:zz gd x=(zz (.aa u8) x.1+(zz (.aa u8) x.2.1+0)):=rfl;refine ah (k:=0) λk _=>(vk.af k _).trans ?_;grind [vk.p,Hj]
theorem NS (x:List Int) (h:zz (.aa i64) x<=4611686018427387904):tu.ae (x,x,())=some (true,()):=Ti (e:=i64) (f:=λ(a b:Int)=>some (decide (a=b),())) (λx k=>tu.af k (x,x,())) (λa _=>by simp) x h
theorem Vr (x:Row) (h:zz bd x<=4611686018427387904):tN.ae (x,x,())=some (true,()):=by
 have hz:zz bd x=(0+(0+(0+(List.length x.2.2.2.1+0)))):=rfl;refine ah (k:=0) λk _=>(tN.af k _).trans ?_;grind [tN.p]
theorem NT (x:Change) (h:zz aq x<=4611686018427387904):qq.ae (x,x,())=some (true,()):=by
 have hz:zz aq x=(0+((0+(0+(0+(List.length x.2.1.2.2.2.1+0))))+(0+((0+(0+(0+(List.length x.2.2.2.1.2.2.2.1+0))))+0)))):=rfl;have AK:zz bd x.2.1=(0+(0+(0+(List.length x.2.1.2.2.2.1+0)))):=rfl;have hz3:zz bd x.2.2.2.1=(0+(0+(0+(List.length x.2.2.2.1.2.2.2.1+0)))):=rfl;refine ah (k:=0) λk _=>(qq.af k _).trans ?_;grind [qq.p,Vr]
theorem Mp (x:List Change) (h:zz (.aa aq) x<=4611686018427387904):sC.ae (x,x,())=some (true,()):=Ti (e:=aq) (f:=λ(a b:Change)=>qq.ae (a,b,())) (λx k=>sC.af k (x,x,())) NT x h
theorem Vs (x:Key) (h:zz bp x<=4611686018427387904):tO.ae (x,x,())=some (true,()):=by
 have hz:zz bp x=(0+(0+0)):=rfl;refine ah (k:=0) λk _=>(tO.af k _).trans ?_;grind [tO.p]
theorem RR (x:List Key) (h:zz (.aa bp) x<=4611686018427387904):vZ.ae (x,x,())=some (true,()):=Ti (e:=bp) (f:=λ(a b:Key)=>tO.ae (a,b,())) (λx k=>vZ.af k (x,x,())) Vs x h
theorem XB (x:Tx) (h:zz df x<=4611686018427387904):uU.ae (x,x,())=some (true,()):=by
 have hz:zz df x=(0+(zz (.aa aq) x.2.1+(zz (.aa i64) x.2.2.1+(zz (.aa bp) x.2.2.2.1+0)))):=rfl;refine ah (k:=0) λk _=>(uU.af k _).trans ?_;grind [uU.p,Mp,NS,RR]
theorem Vt (x:List Tx) (h:zz (.aa df) x<=4611686018427387904):xe.ae (x,x,())=some (true,()):=Ti (e:=df) (f:=λ(a b:Tx)=>uU.ae (a,b,())) (λx k=>xe.af k (x,x,())) XB x h
theorem Hk (x:bi) (h:zz cw x<=4611686018427387904):oZ.ae (x,x,())=some (true,()):=by
 have hz:zz cw x=(0+(zz (.aa (.aa u8)) x.2.1+((zz (.aa u8) x.2.2.1.1+(zz (.aa u8) x.2.2.1.2.1+0))+(zz (.aa df) x.2.2.2.1+(0+0))))):=rfl;have CB:zz gd x.2.2.1=(zz (.aa u8) x.2.2.1.1+(zz (.aa u8) x.2.2.1.2.1+0)):=rfl;refine ah (k:=0) λk _=>(oZ.af k _).trans ?_;grind [oZ.p,NR,Vq,Vt]
theorem Hl (x:nf) (h:zz fx x<=4611686018427387904):ls.ae (x,x,())=some (true,()):=by
 have hz:zz fx x=(0+(0+((0+(zz (.aa (.aa u8)) x.2.2.1.2.1+((zz (.aa u8) x.2.2.1.2.2.1.1+(zz (.aa u8) x.2.2.1.2.2.1.2.1+0))+(zz (.aa df) x.2.2.1.2.2.2.1+(0+0)))))+0))):=rfl;have CB:zz cw x.2.2.1=(0+(zz (.aa (.aa u8)) x.2.2.1.2.1+((zz (.aa u8) x.2.2.1.2.2.1.1+(zz (.aa u8) x.2.2.1.2.2.1.2.1+0))+(zz (.aa df) x.2.2.1.2.2.2.1+(0+0))))):=rfl;refine ah (k:=0) λk _=>(ls.af k _).trans ?_;grind [ls.p,Hk]
def ac5 (x:UInt8) (k:Int) (y:UInt8) (k':Int):Prop:=y=(UInt8.ofInt (k))/\k+1=k'
theorem Mq (x:List UInt8) (k:Int) (h0:0<=k) (h1:k+32*((zz (.aa u8) x:Nat):Int)<=mS):∃ (k':Int) (y:List UInt8),jF.ae (x,k,())=some (k',y,())/\k<=k'/\k'<=k+32*((zz (.aa u8) x:Nat):Int):=by
 have hB:mS=4611686018427387904:=rfl
 exact Tj (α:=UInt8) (zz u8) ac5 (λx k f=>jF.af f (x,k,())) (λ(x:UInt8) k h0 h1=>by
   exact ⟨_,_,by omega,by omega,⟨rfl,rfl⟩⟩) (λi (acc:List (UInt8)) k self (x y:UInt8) k' hi hx h0 h1 h2 h3 hE a_=>by
   obtain ⟨rfl,rfl⟩:=hE
   grind [bh]) x k h0 h1
def abF (x:List UInt8) (k:Int) (y:List UInt8) (k':Int):Prop:=∃ (r1:Int) (y1:List UInt8),jF.ae (x,k,())=some (r1,y1,())/\k<=r1/\r1<=k+32*((zz (.aa u8) x:Nat):Int)/\y=y1/\r1=k'
theorem ZH (x:List (List UInt8)) (k:Int) (h0:0<=k) (h1:k+32*((zz (.aa (.aa u8)) x:Nat):Int)<=mS):∃ (k':Int) (y:List (List UInt8)),oN.ae (x,k,())=some (k',y,())/\k<=k'/\k'<=k+32*((zz (.aa (.aa u8)) x:Nat):Int):=by
 have hB:mS=4611686018427387904:=rfl
 exact Tj (α:=List UInt8) (zz (.aa u8)) abF (λx k f=>oN.af f (x,k,())) (λ(x:List UInt8) k h0 h1=>by
   obtain ⟨r1,y1,e1,g1,i1⟩:=Mq x (k) Bys Bys
   exact ⟨_,_,by omega,by omega,⟨r1,y1,e1,g1,i1,rfl,rfl⟩⟩) (λi (acc:List (List UInt8)) k self (x y:List UInt8) k' hi hx h0 h1 h2 h3 hE a_=>by
   obtain ⟨r1,y1,e1,g1,i1,rfl,rfl⟩:=hE
   grind) x k h0 h1
theorem aem (x:Log) (k:Int) (h0:0<=k) (h1:k+32*((zz gd x:Nat):Int)<=mS):∃ (k':Int) (y:Log),o3.ae (x,k,())=some (k',y,())/\k<=k'/\k'<=k+32*((zz gd x:Nat):Int):=by
 have hB:mS=4611686018427387904:=rfl;have hz:zz gd x=(zz (.aa u8) x.1+(zz (.aa u8) x.2.1+0)):=rfl;obtain ⟨k1,y1,e1,g1,i1⟩:=Mq x.1 k Bys Bys;obtain ⟨k2,y2,e2,g2,i2⟩:=Mq x.2.1 k1 Bys Bys;refine ⟨k2,(y1,y2,x.2.2),ah (k:=0) λf _=>(o3.af f _).trans ?_,by omega,by omega⟩
 grind [o3.p]
def abG (x:Int) (k:Int) (y:Int) (k':Int):Prop:=y=(k)/\k+1=k'
theorem ZI (x:List Int) (k:Int) (h0:0<=k) (h1:k+32*((zz (.aa i64) x:Nat):Int)<=mS):∃ (k':Int) (y:List Int),mA.ae (x,k,())=some (k',y,())/\k<=k'/\k'<=k+32*((zz (.aa i64) x:Nat):Int):=by
 have hB:mS=4611686018427387904:=rfl
 exact Tj (α:=Int) (zz i64) abG (λx k f=>mA.af f (x,k,())) (λ(x:Int) k h0 h1=>by
   exact ⟨_,_,by omega,by omega,⟨rfl,rfl⟩⟩) (λi (acc:List (Int)) k self (x y:Int) k' hi hx h0 h1 h2 h3 hE a_=>by
   obtain ⟨rfl,rfl⟩:=hE
   grind [bh]) x k h0 h1
def ZJ (x:Change) (k:Int) (y:Change) (k':Int):Prop:=y=((decide ((k).tmod (3:Int)=(0:Int))),((k+1),(k+1+1),(k+1+1+1),(Ij (k+1+1+1+1)),x.2.1.2.2.2.2),(decide ((k+1+1+1+1+1).tmod (3:Int)=(0:Int))),((k+1+1+1+1+1+1),(k+1+1+1+1+1+1+1),(k+1+1+1+1+1+1+1+1),(Ij (k+1+1+1+1+1+1+1+1+1)),x.2.2.2.1.2.2.2.2),x.2.2.2.2)/\k+1+1+1+1+1+1+1+1+1+1=k'
theorem XC (x:List Change) (k:Int) (h0:0<=k) (h1:k+32*((zz (.aa aq) x:Nat):Int)<=mS):∃ (k':Int) (y:List Change),lM.ae (x,k,())=some (k',y,())/\k<=k'/\k'<=k+32*((zz (.aa aq) x:Nat):Int):=by
 have hB:mS=4611686018427387904:=rfl
 exact Tj (α:=Change) (zz aq) ZJ (λx k f=>lM.af f (x,k,())) (λ(x:Change) k h0 h1=>by
   have hz:zz aq x=(0+((0+(0+(0+(List.length x.2.1.2.2.2.1+0))))+(0+((0+(0+(0+(List.length x.2.2.2.1.2.2.2.1+0))))+0)))):=rfl
   exact ⟨_,_,by omega,by omega,⟨rfl,rfl⟩⟩) (λi (acc:List (Change)) k self (x y:Change) k' hi hx h0 h1 h2 h3 hE a_=>by
   have hz:zz aq x=(0+((0+(0+(0+(List.length x.2.1.2.2.2.1+0))))+(0+((0+(0+(0+(List.length x.2.2.2.1.2.2.2.1+0))))+0)))):=rfl;obtain ⟨rfl,rfl⟩:=hE
   simp (disch:=omega) only [a_,aI,aO,aK,cI,aJ,aC,hx,aA,cE,za,gS,bh,xH]) x k h0 h1
def aen (x:Key) (k:Int) (y:Key) (k':Int):Prop:=y=((k),(k+1),x.2.2)/\k+1+1=k'
theorem ac6 (x:List Key) (k:Int) (h0:0<=k) (h1:k+32*((zz (.aa bp) x:Nat):Int)<=mS):∃ (k':Int) (y:List Key),oh.ae (x,k,())=some (k',y,())/\k<=k'/\k'<=k+32*((zz (.aa bp) x:Nat):Int):=by
 have hB:mS=4611686018427387904:=rfl
 exact Tj (α:=Key) (zz bp) aen (λx k f=>oh.af f (x,k,())) (λ(x:Key) k h0 h1=>by
   have hz:zz bp x=(0+(0+0)):=rfl
   exact ⟨_,_,by omega,by omega,⟨rfl,rfl⟩⟩) (λi (acc:List (Key)) k self (x y:Key) k' hi hx h0 h1 h2 h3 hE a_=>by
   have hz:zz bp x=(0+(0+0)):=rfl;obtain ⟨rfl,rfl⟩:=hE
   grind [List.set_set,bh]) x k h0 h1
def afh (x:Tx) (k:Int) (y:Tx) (k':Int):Prop:=∃ (r1:Int) (y1:List Change),∃ (r2:Int) (y2:List Int),∃ (r3:Int) (y3:List Key),lM.ae (x.2.1,k+1,())=some (r1,y1,())/\k+1<=r1/\r1<=k+1+32*((zz (.aa aq) x.2.1:Nat):Int)/\mA.ae (x.2.2.1,r1,())=some (r2,y2,())/\r1<=r2/\r2<=r1+32*((zz (.aa i64) x.2.2.1:Nat):Int)/\oh.ae (x.2.2.2.1,r2,())=some (r3,y3,())/\r2<=r3/\r3<=r2+32*((zz (.aa bp) x.2.2.2.1:Nat):Int)/\y=((k),y1,y2,y3,x.2.2.2.2)/\r3=k'
theorem aeo (x:List Tx) (k:Int) (h0:0<=k) (h1:k+32*((zz (.aa df) x:Nat):Int)<=mS):∃ (k':Int) (y:List Tx),rr.ae (x,k,())=some (k',y,())/\k<=k'/\k'<=k+32*((zz (.aa df) x:Nat):Int):=by
 have hB:mS=4611686018427387904:=rfl
 exact Tj (α:=Tx) (zz df) afh (λx k f=>rr.af f (x,k,())) (λ(x:Tx) k h0 h1=>by
   have hz:zz df x=(0+(zz (.aa aq) x.2.1+(zz (.aa i64) x.2.2.1+(zz (.aa bp) x.2.2.2.1+0)))):=rfl;obtain ⟨r1,y1,e1,g1,i1⟩:=XC x.2.1 (k+1) Bys Bys;obtain ⟨r2,y2,e2,g2,i2⟩:=ZI x.2.2.1 (r1) Bys Bys;obtain ⟨r3,y3,e3,g3,i3⟩:=ac6 x.2.2.2.1 (r2) Bys Bys
   exact ⟨_,_,by omega,by omega,⟨r1,y1,r2,y2,r3,y3,e1,g1,i1,e2,g2,i2,e3,g3,i3,rfl,rfl⟩⟩) (λi (acc:List (Tx)) k self (x y:Tx) k' hi hx h0 h1 h2 h3 hE a_=>by
   have hz:zz df x=(0+(zz (.aa aq) x.2.1+(zz (.aa i64) x.2.2.1+(zz (.aa bp) x.2.2.2.1+0)))):=rfl;obtain ⟨r1,y1,r2,y2,r3,y3,e1,g1,i1,e2,g2,i2,e3,g3,i3,rfl,rfl⟩:=hE
   simp (disch:=omega) only [a_,aI,aO,aK,cI,aJ,aC,hx,aA,cE,za,gS,bh,xH,e1,e2,e3]) x k h0 h1
theorem abH (x:bi) (k:Int) (h0:0<=k) (h1:k+32*((zz cw x:Nat):Int)<=mS):∃ (k':Int) (y:bi),kj.ae (x,k,())=some (k',y,())/\k<=k'/\k'<=k+32*((zz cw x:Nat):Int):=by
 have hB:mS=4611686018427387904:=rfl;have hz:zz cw x=(0+(zz (.aa (.aa u8)) x.2.1+((zz (.aa u8) x.2.2.1.1+(zz (.aa u8) x.2.2.1.2.1+0))+(zz (.aa df) x.2.2.2.1+(0+0))))):=rfl;obtain ⟨k1,y1,e1,g1,i1⟩:=ZH x.2.1 k Bys Bys;have CB:zz gd x.2.2.1=(zz (.aa u8) x.2.2.1.1+(zz (.aa u8) x.2.2.1.2.1+0)):=rfl;obtain ⟨k2,y2,e2,g2,i2⟩:=aem x.2.2.1 k1 Bys Bys;obtain ⟨k3,y3,e3,g3,i3⟩:=aeo x.2.2.2.1 k2 Bys Bys;refine ⟨k3,(x.1,y1,y2,y3,x.2.2.2.2.1,x.2.2.2.2.2),ah (k:=0) λf _=>(kj.af f _).trans ?_,by omega,by omega⟩
 grind [kj.p]
def ac7 (x:UInt8) (k:Int) (y:UInt8) (k':Int):Prop:=y=(UInt8.ofInt (k))/\k+1=k'
theorem Mr (x:List UInt8) (k:Int) (h0:0<=k) (h1:k+32*((zz (.aa u8) x:Nat):Int)<=mS):∃ (k':Int) (y:List UInt8),jF.ae (x,k,())=some (k',y,())/\mp.ae (y,k,())=some (k',())/\k<=k'/\k'<=k+32*((zz (.aa u8) x:Nat):Int):=by
 have hB:mS=4611686018427387904:=rfl
 exact Tl (α:=UInt8) (zz u8) ac7 (λx k f=>jF.af f (x,k,())) (λy k f=>mp.af f (y,k,())) (λ(x:UInt8) k h0 h1=>by
   exact ⟨_,_,by omega,by omega,⟨rfl,rfl⟩⟩) (λi (acc:List (UInt8)) k self (x y:UInt8) k' hi hx h0 h1 h2 h3 hE a_=>by
   obtain ⟨rfl,rfl⟩:=hE
   grind [bh]) (λ_ i (ys:List (UInt8)) k self (x y:UInt8) k' hi hx h0 h1 h2 h3 hE a_=>by
   obtain ⟨rfl,rfl⟩:=hE
   grind [bh]) x k h0 h1
def abI (x:List UInt8) (k:Int) (y:List UInt8) (k':Int):Prop:=∃ (r1:Int) (y1:List UInt8),jF.ae (x,k,())=some (r1,y1,())/\mp.ae (y1,k,())=some (r1,())/\k<=r1/\r1<=k+32*((zz (.aa u8) x:Nat):Int)/\y=y1/\r1=k'
theorem ZK (x:List (List UInt8)) (k:Int) (h0:0<=k) (h1:k+32*((zz (.aa (.aa u8)) x:Nat):Int)<=mS):∃ (k':Int) (y:List (List UInt8)),oN.ae (x,k,())=some (k',y,())/\rJ.ae (y,k,())=some (k',())/\k<=k'/\k'<=k+32*((zz (.aa (.aa u8)) x:Nat):Int):=by
 have hB:mS=4611686018427387904:=rfl
 exact Tl (α:=List UInt8) (zz (.aa u8)) abI (λx k f=>oN.af f (x,k,())) (λy k f=>rJ.af f (y,k,())) (λ(x:List UInt8) k h0 h1=>by
   obtain ⟨r1,y1,e1,f1,g1,i1⟩:=Mr x (k) Bys Bys
   exact ⟨_,_,by omega,by omega,⟨r1,y1,e1,f1,g1,i1,rfl,rfl⟩⟩) (λi (acc:List (List UInt8)) k self (x y:List UInt8) k' hi hx h0 h1 h2 h3 hE a_=>by
   obtain ⟨r1,y1,e1,f1,g1,i1,rfl,rfl⟩:=hE
   grind) (λ_ i (ys:List (List UInt8)) k self (x y:List UInt8) k' hi hx h0 h1 h2 h3 hE a_=>by
   obtain ⟨r1,y1,e1,f1,g1,i1,rfl,rfl⟩:=hE
   grind) x k h0 h1
theorem aep (x:Log) (k:Int) (h0:0<=k) (h1:k+32*((zz gd x:Nat):Int)<=mS):∃ (k':Int) (y:Log),o3.ae (x,k,())=some (k',y,())/\sQ.ae (y,k,())=some (k',())/\k<=k'/\k'<=k+32*((zz gd x:Nat):Int):=by
 have hB:mS=4611686018427387904:=rfl;have hz:zz gd x=(zz (.aa u8) x.1+(zz (.aa u8) x.2.1+0)):=rfl;obtain ⟨k1,y1,e1,f1,g1,i1⟩:=Mr x.1 k Bys Bys;have n1:¬ k1 < 0:=by omega
 obtain ⟨k2,y2,e2,f2,g2,i2⟩:=Mr x.2.1 k1 Bys Bys;have n2:¬ k2 < 0:=by omega
 refine ⟨k2,(y1,y2,x.2.2),ah (k:=0) λf _=>(o3.af f _).trans ?_,ah (k:=0) λf _=>(sQ.af f _).trans ?_,by omega,by omega⟩
 all_goals grind [o3.p,sQ.p]
def abJ (x:Int) (k:Int) (y:Int) (k':Int):Prop:=y=(k)/\k+1=k'
theorem ZL (x:List Int) (k:Int) (h0:0<=k) (h1:k+32*((zz (.aa i64) x:Nat):Int)<=mS):∃ (k':Int) (y:List Int),mA.ae (x,k,())=some (k',y,())/\p6.ae (y,k,())=some (k',())/\k<=k'/\k'<=k+32*((zz (.aa i64) x:Nat):Int):=by
 have hB:mS=4611686018427387904:=rfl
 exact Tl (α:=Int) (zz i64) abJ (λx k f=>mA.af f (x,k,())) (λy k f=>p6.af f (y,k,())) (λ(x:Int) k h0 h1=>by
   exact ⟨_,_,by omega,by omega,⟨rfl,rfl⟩⟩) (λi (acc:List (Int)) k self (x y:Int) k' hi hx h0 h1 h2 h3 hE a_=>by
   obtain ⟨rfl,rfl⟩:=hE
   grind [bh]) (λ_ i (ys:List (Int)) k self (x y:Int) k' hi hx h0 h1 h2 h3 hE a_=>by
   obtain ⟨rfl,rfl⟩:=hE
   grind [bh]) x k h0 h1
def ZM (x:Change) (k:Int) (y:Change) (k':Int):Prop:=y=((decide ((k).tmod (3:Int)=(0:Int))),((k+1),(k+1+1),(k+1+1+1),(Ij (k+1+1+1+1)),x.2.1.2.2.2.2),(decide ((k+1+1+1+1+1).tmod (3:Int)=(0:Int))),((k+1+1+1+1+1+1),(k+1+1+1+1+1+1+1),(k+1+1+1+1+1+1+1+1),(Ij (k+1+1+1+1+1+1+1+1+1)),x.2.2.2.1.2.2.2.2),x.2.2.2.2)/\k+1+1+1+1+1+1+1+1+1+1=k'
theorem XD (x:List Change) (k:Int) (h0:0<=k) (h1:k+32*((zz (.aa aq) x:Nat):Int)<=mS):∃ (k':Int) (y:List Change),lM.ae (x,k,())=some (k',y,())/\ph.ae (y,k,())=some (k',())/\k<=k'/\k'<=k+32*((zz (.aa aq) x:Nat):Int):=by
 have hB:mS=4611686018427387904:=rfl
 exact Tl (α:=Change) (zz aq) ZM (λx k f=>lM.af f (x,k,())) (λy k f=>ph.af f (y,k,())) (λ(x:Change) k h0 h1=>by
   have hz:zz aq x=(0+((0+(0+(0+(List.length x.2.1.2.2.2.1+0))))+(0+((0+(0+(0+(List.length x.2.2.2.1.2.2.2.1+0))))+0)))):=rfl
   exact ⟨_,_,by omega,by omega,⟨rfl,rfl⟩⟩) (λi (acc:List (Change)) k self (x y:Change) k' hi hx h0 h1 h2 h3 hE a_=>by
   have hz:zz aq x=(0+((0+(0+(0+(List.length x.2.1.2.2.2.1+0))))+(0+((0+(0+(0+(List.length x.2.2.2.1.2.2.2.1+0))))+0)))):=rfl;obtain ⟨rfl,rfl⟩:=hE
   simp (disch:=omega) only [a_,aI,aO,aK,cI,aJ,aC,hx,aA,cE,za,gS,bh,xH]) (λ_ i (ys:List (Change)) k self (x y:Change) k' hi hx h0 h1 h2 h3 hE a_=>by
   have hz:zz aq x=(0+((0+(0+(0+(List.length x.2.1.2.2.2.1+0))))+(0+((0+(0+(0+(List.length x.2.2.2.1.2.2.2.1+0))))+0)))):=rfl;obtain ⟨rfl,rfl⟩:=hE
   simp (disch:=omega) only [a_,aI,aO,aK,cI,aJ,aC,hx,aA,bh,xH,beq_self_eq_true,aN,aE,aG]) x k h0 h1
def aeq (x:Key) (k:Int) (y:Key) (k':Int):Prop:=y=((k),(k+1),x.2.2)/\k+1+1=k'
theorem ac8 (x:List Key) (k:Int) (h0:0<=k) (h1:k+32*((zz (.aa bp) x:Nat):Int)<=mS):∃ (k':Int) (y:List Key),oh.ae (x,k,())=some (k',y,())/\rT.ae (y,k,())=some (k',())/\k<=k'/\k'<=k+32*((zz (.aa bp) x:Nat):Int):=by
 have hB:mS=4611686018427387904:=rfl
 exact Tl (α:=Key) (zz bp) aeq (λx k f=>oh.af f (x,k,())) (λy k f=>rT.af f (y,k,())) (λ(x:Key) k h0 h1=>by
   have hz:zz bp x=(0+(0+0)):=rfl
   exact ⟨_,_,by omega,by omega,⟨rfl,rfl⟩⟩) (λi (acc:List (Key)) k self (x y:Key) k' hi hx h0 h1 h2 h3 hE a_=>by
   have hz:zz bp x=(0+(0+0)):=rfl;obtain ⟨rfl,rfl⟩:=hE
   grind [List.set_set,bh]) (λ_ i (ys:List (Key)) k self (x y:Key) k' hi hx h0 h1 h2 h3 hE a_=>by
   have hz:zz bp x=(0+(0+0)):=rfl;obtain ⟨rfl,rfl⟩:=hE
   grind [bh]) x k h0 h1
def afi (x:Tx) (k:Int) (y:Tx) (k':Int):Prop:=∃ (r1:Int) (y1:List Change),∃ (r2:Int) (y2:List Int),∃ (r3:Int) (y3:List Key),lM.ae (x.2.1,k+1,())=some (r1,y1,())/\ph.ae (y1,k+1,())=some (r1,())/\k+1<=r1/\r1<=k+1+32*((zz (.aa aq) x.2.1:Nat):Int)/\mA.ae (x.2.2.1,r1,())=some (r2,y2,())/\p6.ae (y2,r1,())=some (r2,())/\r1<=r2/\r2<=r1+32*((zz (.aa i64) x.2.2.1:Nat):Int)/\oh.ae (x.2.2.2.1,r2,())=some (r3,y3,())/\rT.ae (y3,r2,())=some (r3,())/\r2<=r3/\r3<=r2+32*((zz (.aa bp) x.2.2.2.1:Nat):Int)/\y=((k),y1,y2,y3,x.2.2.2.2)/\r3=k'
theorem aer (x:List Tx) (k:Int) (h0:0<=k) (h1:k+32*((zz (.aa df) x:Nat):Int)<=mS):∃ (k':Int) (y:List Tx),rr.ae (x,k,())=some (k',y,())/\uH.ae (y,k,())=some (k',())/\k<=k'/\k'<=k+32*((zz (.aa df) x:Nat):Int):=by
 have hB:mS=4611686018427387904:=rfl
 exact Tl (α:=Tx) (zz df) afi (λx k f=>rr.af f (x,k,())) (λy k f=>uH.af f (y,k,())) (λ(x:Tx) k h0 h1=>by
   have hz:zz df x=(0+(zz (.aa aq) x.2.1+(zz (.aa i64) x.2.2.1+(zz (.aa bp) x.2.2.2.1+0)))):=rfl;obtain ⟨r1,y1,e1,f1,g1,i1⟩:=XD x.2.1 (k+1) Bys Bys;obtain ⟨r2,y2,e2,f2,g2,i2⟩:=ZL x.2.2.1 (r1) Bys Bys;obtain ⟨r3,y3,e3,f3,g3,i3⟩:=ac8 x.2.2.2.1 (r2) Bys Bys
   exact ⟨_,_,by omega,by omega,⟨r1,y1,r2,y2,r3,y3,e1,f1,g1,i1,e2,f2,g2,i2,e3,f3,g3,i3,rfl,rfl⟩⟩) (λi (acc:List (Tx)) k self (x y:Tx) k' hi hx h0 h1 h2 h3 hE a_=>by
   have hz:zz df x=(0+(zz (.aa aq) x.2.1+(zz (.aa i64) x.2.2.1+(zz (.aa bp) x.2.2.2.1+0)))):=rfl;obtain ⟨r1,y1,r2,y2,r3,y3,e1,f1,g1,i1,e2,f2,g2,i2,e3,f3,g3,i3,rfl,rfl⟩:=hE
   simp (disch:=omega) only [a_,aI,aO,aK,cI,aJ,aC,hx,aA,cE,za,gS,bh,xH,e1,e2,e3]) (λ_ i (ys:List (Tx)) k self (x y:Tx) k' hi hx h0 h1 h2 h3 hE a_=>by
   have hz:zz df x=(0+(zz (.aa aq) x.2.1+(zz (.aa i64) x.2.2.1+(zz (.aa bp) x.2.2.2.1+0)))):=rfl;obtain ⟨r1,y1,r2,y2,r3,y3,e1,f1,g1,i1,e2,f2,g2,i2,e3,f3,g3,i3,rfl,rfl⟩:=hE
   grind [bh]) x k h0 h1
theorem abK (x:bi) (k:Int) (h0:0<=k) (h1:k+32*((zz cw x:Nat):Int)<=mS):∃ (k':Int) (y:bi),kj.ae (x,k,())=some (k',y,())/\qM.ae (y,k,())=some (k',())/\k<=k'/\k'<=k+32*((zz cw x:Nat):Int):=by
 have hB:mS=4611686018427387904:=rfl;have hz:zz cw x=(0+(zz (.aa (.aa u8)) x.2.1+((zz (.aa u8) x.2.2.1.1+(zz (.aa u8) x.2.2.1.2.1+0))+(zz (.aa df) x.2.2.2.1+(0+0))))):=rfl;obtain ⟨k1,y1,e1,f1,g1,i1⟩:=ZK x.2.1 k Bys Bys;have n1:¬ k1 < 0:=by omega
 have CB:zz gd x.2.2.1=(zz (.aa u8) x.2.2.1.1+(zz (.aa u8) x.2.2.1.2.1+0)):=rfl;obtain ⟨k2,y2,e2,f2,g2,i2⟩:=aep x.2.2.1 k1 Bys Bys;have n2:¬ k2 < 0:=by omega
 obtain ⟨k3,y3,e3,f3,g3,i3⟩:=aer x.2.2.2.1 k2 Bys Bys;have n3:¬ k3 < 0:=by omega
 refine ⟨k3,(x.1,y1,y2,y3,x.2.2.2.2.1,x.2.2.2.2.2),ah (k:=0) λf _=>(kj.af f _).trans ?_,ah (k:=0) λf _=>(qM.af f _).trans ?_,by omega,by omega⟩
 all_goals grind [kj.p,qM.p]
theorem NU (x:nf) (k:Int) (h0:0<=k) (h1:k+32*((zz fx x:Nat):Int)<=mS):∃ (k':Int) (y:nf),mM.ae (x,k,())=some (k',y,())/\lu.ae (y,k,())=some (k',())/\k<=k'/\k'<=k+32*((zz fx x:Nat):Int):=by
 have hB:mS=4611686018427387904:=rfl;have hz:zz fx x=(0+(0+((0+(zz (.aa (.aa u8)) x.2.2.1.2.1+((zz (.aa u8) x.2.2.1.2.2.1.1+(zz (.aa u8) x.2.2.1.2.2.1.2.1+0))+(zz (.aa df) x.2.2.1.2.2.2.1+(0+0)))))+0))):=rfl;have AK:zz cw x.2.2.1=(0+(zz (.aa (.aa u8)) x.2.2.1.2.1+((zz (.aa u8) x.2.2.1.2.2.1.1+(zz (.aa u8) x.2.2.1.2.2.1.2.1+0))+(zz (.aa df) x.2.2.1.2.2.2.1+(0+0))))):=rfl;obtain ⟨k1,y1,e1,f1,g1,i1⟩:=abK x.2.2.1 k Bys Bys;have n1:¬ k1 < 0:=by omega
 refine ⟨k1,(x.1,x.2.1,y1,x.2.2.2),ah (k:=0) λf _=>(mM.af f _).trans ?_,ah (k:=0) λf _=>(lu.af f _).trans ?_,by omega,by omega⟩
 all_goals grind [mM.p,lu.p]
end OT
namespace OT
open Go
theorem pu (a b c:Int):cj.ae (a,b,c,())=some (decide (b<=a)&&decide (a<=c),()):=by
 refine ah (k:=0) λk _=>(cj.af k _).trans ?_;show cj.p _=_;unfold cj.p;by_cases h:b<=a <;> simp[h]
theorem uV (a b c:Int):iu.ae (a,b,c,())=some (decide (b<=a)&&decide (a<=c),()):=by
 refine ah (k:=0) λk _=>(iu.af k _).trans ?_;show iu.p _=_;unfold iu.p;by_cases h:b<=a <;> simp[h]
theorem Tt (a:Int):rp.ae (a,())=some (decide (1<=a)&&decide (a<=99),()):=by
 refine ah (k:=0) λk _=>(rp.af k _).trans ?_;show rp.p _=_;unfold rp.p;simp[uV]
def lD (a b c:Int):Bool:=decide (b<=a)&&decide (a<=c)
theorem mY (s:List UInt8) (h:s.length<=200000000000):cm.ae (s,())=some (s,()):=by
 refine ah (k:=0) λk _=>(cm.af k _).trans ?_;show cm.p _=_;unfold cm.p;have:([]:List UInt8).length+s.length<=b9:=cv (by simpa using h);rw[aR this,cJ]
theorem nr (s:List UInt8) (h:s.length<=200000000000):bY.ae (s,())=some (s,()):=by
 refine ah (k:=0) λk _=>(bY.af k _).trans ?_;show bY.p _=_;unfold bY.p;have:([]:List UInt8).length+s.length<=b9:=cv (by simpa using h);rw[aR this,cJ]
theorem gt {S O α:Type} {g:S->α->S} {fin:S->O}:∀ (xs:List α) (i:Nat) (s:S),bq (λ_ s x=>.inr (g s x)) fin i xs s=fin (xs.foldl g s)
 | [],_,_=>rfl
 | x::xs,i,s=>by simp only[bq,eQ];exact gt xs _ _
theorem yy {α:Type}:∀ (xs s:List α),xs.foldl (λs x=>s++[x]) s=s++xs
 | [],s=>by simp
 | x::xs,s=>by rw[eQ,yy];simp
abbrev l_:Type:=List (List UInt8)
def gp (ps:l_):Prop:=ps.length<=12/\∀ p ∈ ps,p.length=64
def wG:List UInt8:=((List.replicate 64 (0:UInt8)).set 0 0).set 1 64
theorem Aa:wG.length=64:=by simp[wG]
theorem vQ (ps:l_) (h:gp ps):gv.ae (ps,())=some (ps,()):=by
 obtain ⟨h1,h2⟩:=h;refine ah (k:=14) λk hk=>(gv.af k _).trans ?_
 have:=ci (B:=λself v=>gv.b0 self (λz=>gv.q0 (ps,()) z) (ps,()) v) ps (λ(s:l_) (i:Int)=>(s,i)) (λ_ s x=>.inr (s++[x])) (λs=>(s,())) (λi s=>s.length=i) (by rw[au];omega)
  (λi hi s self hI=>by
   show gv.b0 _ _ _ _=_;unfold gv.b0;have a_:(i:Int) < (ps.length:Int):=by omega
   have hx:=h2 ps[i] (aP hi);simp only[a_,aI,aO,aK,aJ,aC,aB hi,aA];rw[mY _ Bys];have hc:s.length+[ps[i]].length<=b9:=cv (by simp only[bM,cY];omega)
   simp only[aA,hc,aJ])
  (λi hi s s' hI hs=>by injection hs with hs;rw[<-hs];simp[hI]) (λs self hI=>by
   show gv.b0 _ _ _ _=_;unfold gv.b0;simp only[aU,aG,aE]
   rfl) [] rfl k Bys
 rw[gt,yy] at this;exact this
theorem xS (ps:l_) (h:gp ps):iW.ae (ps,())=some (ps,()):=by
 obtain ⟨h1,h2⟩:=h;refine ah (k:=14) λk hk=>(iW.af k _).trans ?_
 have:=ci (B:=λself v=>iW.b0 self (λz=>iW.q0 (ps,()) z) (ps,()) v) ps (λ(s:l_) (i:Int)=>(s,i)) (λ_ s x=>.inr (s++[x])) (λs=>(s,())) (λi s=>s.length=i) (by rw[au];omega)
  (λi hi s self hI=>by
   show iW.b0 _ _ _ _=_;unfold iW.b0;have a_:(i:Int) < (ps.length:Int):=by omega
   have hx:=h2 ps[i] (aP hi);simp only[a_,aI,aO,aK,aJ,aC,aB hi,aA];rw[nr _ Bys];have hc:s.length+[ps[i]].length<=b9:=cv (by simp only[bM,cY];omega)
   simp only[aA,hc,aJ])
  (λi hi s s' hI hs=>by injection hs with hs;rw[<-hs];simp[hI]) (λs self hI=>by
   show iW.b0 _ _ _ _=_;unfold iW.b0;simp only[aU,aG,aE]
   rfl) [] rfl k Bys
 rw[gt,yy] at this;exact this
end OT
namespace OT
open Go
def bl (x:cq):Int:=(List.length x.2.1:Int)
def sD (s:Int) (x:cq):Sum (Int×Unit) Int:=
 if lD x.1 0 63 then (if lD (bl x) 1 64 then (if 64 < x.1+bl x then .inl (3,()) else if x.1 < s then .inl (1,()) else .inr (x.1+bl x+1)) else .inl (3,())) else .inl (3,())
def K3 (s:Int) (xs:List cq):Int:=(bq (λ_ s x=>sD s x) (λ_=>((0:Int),())) 0 xs s).1
def xf (xs:List cq):Int:=if 64 < xs.length then 2 else K3 0 xs
theorem Nc {s s':Int} {x:cq} (h:sD s x=.inr s'):0<=x.1/\x.1<=63/\1<=bl x/\bl x<=64/\x.1+bl x<=64/\s<=x.1/\s'=x.1+bl x+1:=by
 grind [sD,lD]
theorem ZN {s:Int} {x:cq} {o:Int×Unit} (h:sD s x=.inl o):o.1≠0:=by
 grind [sD]
theorem Tu {S O α:Type} {f:S->α->Sum O S} {fin:S->O}:∀ (xs:List α) (i j:Nat) (s:S),bq (λ_ s x=>f s x) fin i xs s=bq (λ_ s x=>f s x) fin j xs s
 | [],_,_,_=>rfl
 | x::xs,i,j,s=>by
  simp only[bq];split
  ·rfl
  ·exact Tu xs _ _ _
theorem K4 (s:Int) (x:cq) (xs:List cq):K3 s (x::xs)=match sD s x with | .inl o=>o.1 | .inr s'=>K3 s' xs:=by
 unfold K3;simp only[bq]
 cases h:sD s x with
 | inl o=>rfl
 | inr s'=>simp only;rw[Tu xs 1 0]
theorem K5:∀ (xs:List cq) (s:Int),K3 s xs=0->∀ x ∈ xs,0<=x.1/\x.1<=63/\1<=bl x/\bl x<=64
 | [],_,_,_,hx=>by cases hx
 | y::ys,s,h,x,hx=>by
  rw[K4] at h
  cases hs:sD s y with
  | inl o=>grind [ZN]
  | inr s'=>
   rw[hs] at h;have:=Nc hs;rcases aY.1 hx with e | e
   ·grind
   ·exact K5 ys s' h x e
theorem Vu {xs:List cq} (h:xf xs=0):List.length xs<=64/\∀ x ∈ xs,0<=x.1/\x.1<=63/\1<=bl x/\bl x<=64:=by
 unfold xf at h;split at h
 ·cases h
 ·exact ⟨by omega,K5 xs 0 h⟩
theorem XE {y z:cq} {ys:List cq} (h:xf (y::z::ys)=0):List.length y.2.1≠64:=by
 grind [xf,K4,sD,bl]
theorem RS (xs:List cq):kf.ae (xs,())=some (xf xs,()):=by
 refine ah (k:=66) λk hk=>(kf.af k _).trans ?_;unfold kf.p xf;by_cases hl:64 < xs.length
 ·grind
 have yx:¬ (64:Int) < (xs.length:Int):=by omega
 have:=ci (B:=λself v=>kf.b0 self (λz=>kf.q0 (xs,()) z) (xs,()) v) xs (λ(s:Int) (i:Int)=>(s,i)) (λ_ s x=>sD s x) (λ_=>(0,())) (λ_ _=>True) (by rw[au];omega)
  (λi hi s self _=>by
   show kf.b0 _ _ _ _=_;unfold kf.b0
   grind [Int.natCast_nonneg,Int.toNat_natCast,uV,sD,bl,lD,bh]) (λ_ _ _ _ _ _=>trivial) (λs self _=>by
   grind [kf.b0,kf.q0]) 0 trivial k Bys
 simp only[hl,aS,yx,aG,aE];exact this
theorem IP (xs:List cq):ld.ae (xs,())=some (xf xs,()):=by
 refine ah (k:=66) λk hk=>(ld.af k _).trans ?_;unfold ld.p xf;by_cases hl:64 < xs.length
 ·grind
 have yx:¬ (64:Int) < (xs.length:Int):=by omega
 have:=ci (B:=λself v=>ld.b0 self (λz=>ld.q0 (xs,()) z) (xs,()) v) xs (λ(s:Int) (i:Int)=>i) (λ_ s x=>sD s x) (λ_=>(0,()))
  (λi s=>(i=0->s=0)/\∀ y,0 < i->xs[i - 1]?=some y->0<=y.1/\y.1<=63/\bl y<=64/\s=y.1+bl y+1) (by rw[au];omega)
  (λi hi s self hI=>by
   show ld.b0 _ _ _ _=_;unfold ld.b0;have a_:(i:Int) < (xs.length:Int):=by omega
   simp only[a_,aI,aO,aK,aJ,aC,aB hi,aA,pu];generalize xs[i]=x;unfold sD bl lD;by_cases a1:(0:Int)<=x.1;rotate_left
   ·simp[a1]
   by_cases a2:x.1<=63;rotate_left
   ·simp[a2]
   by_cases a3:(1:Int)<=(List.length x.2.1:Int)
   rotate_left
   ·grind
   by_cases a4:(List.length x.2.1:Int)<=64;rotate_left
   ·grind
   have e1:ag (x.1+(List.length x.2.1:Int))=x.1+(List.length x.2.1:Int):=bh Bys
   grind [bh,bl,Int.toNat_natCast])
  (λi hi s s' _ hs=>⟨λe=>by omega,λy _ hy=>by
   rw[Nat.add_sub_cancel,aB hi] at hy;injection hy with hy;subst hy;have:=Nc hs
   omega⟩) (λs self _=>by
   grind [ld.b0,ld.q0]) 0 ⟨λ_=>rfl,λy h=>by omega⟩ k Bys
 simp only[hl,aS,yx,aG,aE];exact this
def K6 (k:Int) (xs:List cq):Int:=match xs with
 | []=>1
 | y::_=>if decide (k=4)&&!decide (List.length y.2.1=64) then 1 else 0
def ru (r:bg):Int:=
 if !lD r.1 1 6||(!lD r.1 2 4&&(!decide (r.2.2.1=0)||decide (0 < List.length r.2.2.2.1)))||(decide (r.1=4)&&!decide (r.2.1=0)) then 1
 else if (!decide (r.1=4)&&!lD r.2.1 1 99)||!lD r.2.2.1 0 11 then 3
 else if !lD r.1 2 4 then 0
 else if xf r.2.2.2.1=0 then K6 r.1 r.2.2.2.1 else xf r.2.2.2.1
theorem Hm (k:Int):n8.ae (k,())=some (lD k 2 4,()):=by
 refine ah (k:=0) λn _=>(n8.af n _).trans ?_;show n8.p _=_;unfold n8.p;simp[pu,lD]
theorem PX (k:Int):pP.ae (k,())=some (lD k 2 4,()):=by
 refine ah (k:=0) λn _=>(pP.af n _).trans ?_;grind [pP.p,lD,decide]
theorem Fz (r:bg):lg.ae (r,())=some (ru r,()):=by
 obtain ⟨k,t,p,xs,⟨⟩⟩:=r;refine ah (k:=0) λn _=>(lg.af n _).trans ?_;show lg.p _=_;unfold lg.p ru;simp only[pu,Hm,IP,aA,show ∀ a b c:Int,(decide (b<=a)&&decide (a<=c))=lD a b c from λ_ _ _=>rfl];have h0:decide ((0:Int) < (xs.length:Int))=decide (0 < xs.length):=by simp
 have hj:(ld.ae (xs,()))=some (xf xs,()):=IP xs;rw[h0]
 have hh:(bif decide ((List.length xs:Int)=0) then some ((1:Int),()) else bif decide (k=4) then (xs[0]?).bind λPI=>bif !decide ((List.length PI.2.1:Int)=64) then some ((1:Int),()) else some (0,()) else some (0,()))=some (K6 k xs,()):=by
  cases xs <;> grind [K6]
 grind
theorem FA (r:bg):jb.ae (r,())=some (ru r,()):=by
 obtain ⟨k,t,p,xs,⟨⟩⟩:=r;refine ah (k:=0) λn _=>(jb.af n _).trans ?_;show jb.p _=_;unfold jb.p ru;simp only[uV,PX,Tt,RS,aA,show ∀ a b c:Int,(decide (b<=a)&&decide (a<=c))=lD a b c from λ_ _ _=>rfl];have h0:decide ((0:Int) < (xs.length:Int))=decide (0 < xs.length):=by simp
 rw[h0]
 have hk:lD k 2 4=false->decide (k=4)=false:=by
  intro h;by_cases e:k=4
  ·subst e;cases h
  ·simp[e]
 have h64:∀ y:cq,decide ((List.length y.2.1:Int)=64)=decide (List.length y.2.1=64):=λy=>by
  grind
 have hz:decide (0 < xs.length)=false->xs=[]:=by
  simp_all
 have hh:xf xs=0->(bif decide ((List.length xs:Int)=0) then some ((1:Int),()) else bif decide (k=4) then bif !decide ((List.length xs:Int)=1) then some ((1:Int),()) else (xs[0]?).bind λPI=>bif !decide ((List.length PI.2.1:Int)=64) then some ((1:Int),()) else some (0,()) else some (0,()))=some (K6 k xs,()):=by
  intro hr
  cases xs with
  | nil=>rfl
  | cons y ys=>
   have:¬ ((List.length (y::ys):Int)=0):=by grind
   simp only[this,aG,aE,K6,eW,aA,h64]
   cases ys with
   | nil=>grind
   | cons z ys=>
    have h1:=XE hr;grind
 cases nM:lD k 2 4 with
 | false=>
  have hk4:=hk nM;have hr0:xf ([]:List cq)=0:=rfl;grind
 | true=>
  grind
theorem yz {r:bg} (h:ru r=0):1<=r.1/\r.1<=6/\0<=r.2.1/\r.2.1<=99/\0<=r.2.2.1/\r.2.2.1<=11/\List.length r.2.2.2.1<=64/\∀ x ∈ r.2.2.2.1,0<=x.1/\x.1<=63/\1<=bl x/\bl x<=64:=by
 obtain ⟨k,t,p,xs,⟨⟩⟩:=r;unfold ru at h;split at h
 all_goals grind [Vu,lD]
end OT
namespace OT
open Go
theorem FB:jc.ae ((0:UInt8),())=some (wG,()):=by
 refine ah (k:=66) λk hk=>(jc.af k _).trans ?_;unfold jc.p
 have:=ci (B:=λself v=>jc.b0 self (λz=>jc.q0 ((0:UInt8),()) z) ((0:UInt8),()) v) (List.replicate 64 (0:UInt8)) (λ(s:List UInt8) (i:Int)=>(s,i)) (λ_ s _=>.inr s) (λs=>(wG,())) (λ_ s=>s=List.replicate 64 (0:UInt8)) (by rw[au];simp)
  (λi hi s self hI=>by
   show jc.b0 _ _ _ _=_;unfold jc.b0;subst hI;simp only[cU] at hi ⊢;have a_:(i:Int) < ((64:Nat):Int):=by omega
   have iZ:(0:Int)<=(i:Int)/\(i:Int) < ((64:Nat):Int):=by omega
   have hg:(List.replicate 64 (0:UInt8))[i]?=some 0:=(fT (n:=64) (i:=i) (a:=(0:UInt8))).trans (aR hi);have hs:(List.replicate 64 (0:UInt8)).set i 0=List.replicate 64 (0:UInt8):=List.set_replicate_self
   simp only[a_,iZ,cI,aI,aO,aJ,aC,hg,aA,hs])
  (λi hi s s' hI hs=>by injection hs with hs;rw[<-hs,hI]) (λs self hI=>by
   show jc.b0 _ _ _ _=_;unfold jc.b0;subst hI;simp only[cU,aU,aG,aE]
   rfl) (List.replicate 64 (0:UInt8)) rfl k (by simp;omega)
 rw[gt (g:=λs _=>s)] at this
 have hc:(0:Int)<=64/\(64:Int)<=64/\(64:Int)<=(b9:Int):=⟨by omega,by omega,by simp only[b9];omega⟩
 rw[aR hc];exact this
theorem FC:jT.ae ((0:UInt8),())=some (wG,()):=by
 refine ah (k:=66) λk hk=>(jT.af k _).trans ?_;unfold jT.p
 have:=ci (B:=λself v=>jT.b0 self (λz=>jT.q0 ((0:UInt8),()) z) ((0:UInt8),()) v) (List.replicate 64 (0:UInt8)) (λ(s:List UInt8) (i:Int)=>(s,i)) (λ_ s _=>.inr s) (λs=>(wG,())) (λ_ s=>s=List.replicate 64 (0:UInt8)) (by rw[au];simp)
  (λi hi s self hI=>by
   show jT.b0 _ _ _ _=_;unfold jT.b0;subst hI;simp only[cU] at hi ⊢;have a_:(i:Int) < (64:Int):=by omega
   have iZ:(0:Int)<=(i:Int)/\(i:Int) < ((64:Nat):Int):=by omega
   have hg:(List.replicate 64 (0:UInt8))[i]?=some 0:=(fT (n:=64) (i:=i) (a:=(0:UInt8))).trans (aR hi);have hs:(List.replicate 64 (0:UInt8)).set i 0=List.replicate 64 (0:UInt8):=List.set_replicate_self
   simp only[a_,iZ,cI,aI,aO,aJ,aC,hg,aA,hs])
  (λi hi s s' hI hs=>by injection hs with hs;rw[<-hs,hI]) (λs self hI=>by
   show jT.b0 _ _ _ _=_;unfold jT.b0;subst hI;have:¬ (((64:Nat):Int) < 64):=by omega
   simp only[cU,this,aG,aE]
   rfl) (List.replicate 64 (0:UInt8)) rfl k (by simp;omega)
 rw[gt (g:=λs _=>s)] at this
 have hc:(0:Int)<=64/\(64:Int)<=64/\(64:Int)<=(b9:Int):=⟨by omega,by omega,by simp only[b9];omega⟩
 rw[aR hc];exact this
end OT
