/- The proof's parts, merged: Printed by gen.py, a program of this claim  what each Go function computes.. No conditions but those that each states. -/
import Derived.Test.YtghckfpmmofmnaaGreatRd
import Derived.Test.YtghckfpmmofmnaaGreatProg
import Derived.KernelRfl
set_option maxRecDepth 100000
set_option linter.unusedVariables false
namespace OT
open Go Go.Proofs.Tryz
abbrev Byt:=List UInt8
theorem Bye {p:Prop} (h:p:=by kernel_rfl):p:=h
theorem By8 {α β γ:Type} {x:β} {p:α->γ->β} {s r:α} {a:γ} (h:s=r) (e:x=p s a):x=p r a:=h▸e
abbrev Log:Type:=((List UInt8)×(List UInt8)×Unit)
abbrev gd:Ty:=(c9 [(.aa u8),(.aa u8)])
abbrev Row:Type:=(Int×Int×Int×(List UInt8)×Unit)
abbrev bd:Ty:=(c9 [i64,i64,i64,.str])
abbrev Change:Type:=(Bool×Row×Bool×Row×Unit)
abbrev aq:Ty:=(c9 [.bool,bd,.bool,bd])
abbrev Key:Type:=(Int×Int×Unit)
abbrev bp:Ty:=(c9 [i64,i64])
abbrev Tx:Type:=(Int×(List Change)×(List Int)×(List Key)×Unit)
abbrev df:Ty:=(c9 [i64,(.aa aq),(.aa i64),(.aa bp)])
abbrev bi:Type:=(Bool×(List (List UInt8))×Log×(List Tx)×Int×Unit)
abbrev cw:Ty:=(c9 [.bool,(.aa (.aa u8)),gd,(.aa df),i64])
abbrev Op:Type:=(Int×Int×Row×Int×Unit)
abbrev tOp:Ty:=(c9 [i64,i64,bd,i64])
abbrev cq:Type:=(Int×(List UInt8)×Unit)
abbrev oB:Ty:=(c9 [i64,(.aa u8)])
abbrev bg:Type:=(Int×Int×Int×(List cq)×Unit)
abbrev du:Ty:=(c9 [i64,i64,i64,(.aa oB)])
abbrev PG:Type:=(Int×Int×bg×Unit)
abbrev Bh:Ty:=(c9 [i64,i64,du])
abbrev tF:Type:=(Int×Int×Int×Int×Row×Unit)
abbrev sq:Ty:=(c9 [i64,i64,i64,i64,bd])
abbrev a7:Type:=(Int×Int×tF×Unit)
abbrev ip:Ty:=(c9 [i64,i64,sq])
abbrev Plain:Type:=((List Row)×(List Tx)×Int×Unit)
abbrev Es:Ty:=(c9 [(.aa bd),(.aa df),i64])
abbrev d7:Type:=(Int×(List cq)×(List (List UInt8))×Unit)
abbrev dv:Ty:=(c9 [i64,(.aa oB),(.aa (.aa u8))])
abbrev nf:Type:=(Int×Int×bi×Unit)
abbrev fx:Ty:=(c9 [i64,i64,cw])
abbrev acT:Type:=(Int×Bool×Change×Unit)
abbrev ab9:Ty:=(c9 [i64,.bool,aq])
abbrev ba:Type:=((List (List UInt8))×(List cq)×Unit)
abbrev dh:Ty:=(c9 [(.aa (.aa u8)),(.aa oB)])
abbrev Seen:Type:=(Row×Int×Int×Bool×Int×Int×Unit)
abbrev gz:Ty:=(c9 [bd,i64,i64,.bool,i64,i64])
abbrev BF:Type:=(Int×(List Row)×Unit)
abbrev xG:Ty:=(c9 [i64,(.aa bd)])
abbrev zb:Type:=(Int×Int×(List UInt8)×Unit)
abbrev lH:Ty:=(c9 [i64,i64,(.aa u8)])
abbrev aeA:Type:=(Int×(List Tx)×Unit)
abbrev adG:Ty:=(c9 [i64,(.aa df)])
abbrev ae9:Type:=(Int×(List Int)×(List Int)×bi×Unit)
abbrev aeB:Ty:=(c9 [i64,(.aa i64),(.aa i64),cw])
abbrev Buffer:Type:=(Int×(List Change)×Unit)
abbrev ej:Ty:=(c9 [i64,(.aa aq)])
abbrev di:Type:=((List (List UInt8))×(List Buffer)×Unit)
abbrev jN:Ty:=(c9 [(.aa (.aa u8)),(.aa ej)])
abbrev ng:Type:=(Int×Bool×Bool×Int×(List Change)×di×Unit)
abbrev mh:Ty:=(c9 [i64,.bool,.bool,i64,(.aa aq),jN])
abbrev ju:Type:=(Int×(List Buffer)×di×Unit)
abbrev sN:Ty:=(c9 [i64,(.aa ej),jN])
abbrev rQ:Type:=cq
abbrev afz:Ty:=oB
noncomputable def bc:TL:=[(23,(.aa u8)),(2,i64),(43,bd),(22,(.aa (.aa u8))),(5,u8),(70,(.aa aq)),(3,i64),(94,aq),(4,.bool),(35,gd),(173,du),(36,(.aa df)),(157,df),(98,(.aa bd)),(222,bp),(155,(.aa bp)),(9,.str),(38,cw),(216,sq),(72,ej),(227,dv),(54,(.aa i64)),(124,(.aa ej)),(171,(.aa oB)),(126,jN),(183,oB),(218,ip),(130,(.aa du)),(409,lH),(40,fx),(204,mh),(225,(.aa oB)),(249,gz),(375,dh),(416,dh),(213,(.aa ip)),(265,oB),(25,gd),(26,(.aa df)),(30,bd),(65,(.aa aq)),(142,(.aa bp)),(144,df),(149,Es),(160,(.aa gz)),(190,aq),(290,ej),(28,cw),(244,(.map bp .bool)),(128,sN),(281,Bh),(313,bp),(317,(.int .u64)),(325,xG),(316,(.arr 64 .bool)),(318,(.map (.arr 2 i64) bd)),(319,(.arr 2 i64)),(321,(.map (.arr 2 i64) .bool))]
theorem az:(UM prog bc&&N7 prog bc)=true:=by kernel_rfl
noncomputable section
noncomputable abbrev Byy:Md:=.aa false (.pair .leaf (.pair (.pair .leaf (.pair .leaf (.pair .leaf (.pair .leaf .leaf)))) (.pair .leaf (.pair (.pair .leaf (.pair .leaf (.pair .leaf (.pair .leaf .leaf)))) .leaf))))
noncomputable abbrev Byb:Md:=.pair (an .bool) (.pair (aj (.aa (.aa u8))) (.pair (an gd) (.pair (.aa true (.pair (an i64) (.pair (an (.aa aq)) (aj (c9 [(.aa i64),(.aa bp)]))))) (an (c9 [i64])))))
noncomputable abbrev Byc:Md:=.pair .leaf (.pair (.aa false (.aa false .leaf)) (.pair (.pair (.aa false .leaf) (.pair (.aa false .leaf) .leaf)) (.pair (.aa false (.pair .leaf (.pair Byy (.pair (.aa false .leaf) (.pair (.aa false (.pair .leaf (.pair .leaf .leaf))) .leaf))))) (.pair .leaf .leaf))))
noncomputable abbrev Byd:Md:=.aa false (.pair .leaf (.pair .leaf (.pair .leaf (.pair .leaf .leaf))))
noncomputable abbrev Btt:Md:=.pair .leaf (.pair (.aa true (.aa true .leaf)) (.pair (.pair (.aa false .leaf) (.pair (.aa false .leaf) .leaf)) (.pair (.aa true (.pair .leaf (.pair Byy (.pair (.aa true .leaf) (.pair (.aa true (.pair .leaf (.pair .leaf .leaf))) .leaf))))) (.pair .leaf .leaf))))
noncomputable abbrev Bte:Md:=.pair (.pair (aj (.aa (.aa u8))) (.pair (.aa true (an ej)) (an .unit))) (an .unit)
noncomputable abbrev Bts:Md:=.pair .leaf (.pair (.aa true (.pair .leaf (.pair Byy .leaf))) (.pair (.pair (.aa true (.aa true .leaf)) (.pair (.aa true (.pair .leaf (.pair Byy .leaf))) .leaf)) .leaf))
noncomputable abbrev Bt8:Md:=.pair (an i64) (.pair (an .bool) (.pair (an .bool) (.pair (an i64) (.pair (an (.aa aq)) Bte))))
variable (k:Nat)
namespace nP
abbrev A:=Byt×Int×Unit
abbrev O:=Int×Unit
noncomputable def D:FD:={ fn:=f85,tl:=bc,ps:=[(.ro,(.aa u8)),(.ro,i64)],rs:=[(i64,(an i64))] }
def ae (a:A):Option O:=@lift O λk=>D.W k a
def p (a1:A):Option O:=cond (decide (ag (a1.2.1 - (a1.1.length:Int)) < 0)) (some ((-1),()))<|some (ag (a1.2.1 - (a1.1.length:Int)),())
theorem af (a1:A):@Eq (Option O) (D.W k a1) (p a1):=Bye
theorem ok:Ok prog 85 D.sig:=ap func85 az Bye (ak _)
end nP
namespace tn
abbrev A:=(List Byt)×Int×Unit
abbrev O:=Int×Unit
abbrev P:=Option O
noncomputable def D:FD:={ fn:=f35,tl:=bc,ps:=[(.ro,(.aa (.aa u8))),(.ro,i64)],rs:=[(i64,(an i64))],gl:=[(85,nP.D.sig)],lv:=[(5,[0,1,5])],lx:=[(0,[1])] }
def ae (a:A):P:=@lift O λk=>D.W k a
variable (a1:A)
def T0 (U:Int×Int):St:={ n:=27,sl:=[(0,.val (.aa (.aa u8)) a1.1),(1,.val i64 U.1),(5,.val i64 U.2)],vr:=[],aT:=[] }
def b0 (self:(Int×Int)->P) (e0:Int->P) (a1:A) (U:Int×Int):P:=cond (decide (U.2 < (a1.1.length:Int))) (if 0<=U.2 then ((a1.1[U.2.toNat]?).bind λa8=>(nP.ae (a8,U.1,())).bind λcx=>cond (decide (cx.1 < 0)) (some ((-1),()))<|self (cx.1,ag (U.2+1))) else none)<|e0 U.1
def q0 (a1:A) (ez:Int):P:=some (ez,())
def r0:(Int×Int)->P:=am (λw v=>b0 w (q0 a1) a1 v) k
theorem aw:@Eq ((Int×Int)->P) (λU=>D.L k [1,1,1,0,1,0,0] [0,1,5] [] (ai 0 (ay (D.N k [1,1,1,1]) D.K0)) (T0 a1 U)) (r0 k a1):=
 funext λU=>av _ _ _ (T0 a1) _ (λrec v=>Bye) k U
def p (l0:(Int×Int)->P) (a1:A):P:=cond (decide (ag (a1.2.1 - (a1.1.length:Int)) < 0)) (some ((-1),()))<|l0 (ag (a1.2.1 - (a1.1.length:Int)),0)
theorem af:@Eq P (D.W k a1) (p (r0 k a1) a1):=By8 (aw k a1) Bye
theorem ok:Ok prog 35 D.sig:=ap func35 az Bye (fc nP.ok (ak _))
end tn
namespace tG
abbrev A:=Log×Int×Unit
abbrev O:=Int×Unit
noncomputable def D:FD:={ fn:=f36,tl:=bc,ps:=[(.ro,gd),(.ro,i64)],rs:=[(i64,(an i64))],gl:=[(85,nP.D.sig)] }
def ae (a:A):Option O:=@lift O λk=>D.W k a
def p (a1:A):Option O:=(nP.ae (a1.1.1,a1.2.1,())).bind λr2=>cond (decide (r2.1 < 0)) (some ((-1),()))<|(nP.ae (a1.1.2.1,r2.1,())).bind λr3=>cond (decide (r3.1 < 0)) (some ((-1),()))<|some (r3.1,())
theorem af (a1:A):@Eq (Option O) (D.W k a1) (p a1):=Bye
theorem ok:Ok prog 36 D.sig:=ap func36 az Bye (fc nP.ok (ak _))
end tG
namespace r_
abbrev A:=Row×Int×Unit
abbrev O:=Int×Unit
noncomputable def D:FD:={ fn:=f38,tl:=bc,ps:=[(.ro,bd),(.ro,i64)],rs:=[(i64,(an i64))] }
def ae (a:A):Option O:=@lift O λk=>D.W k a
def p (a1:A):Option O:=cond (decide (ag (a1.2.1 - (a1.1.2.2.2.1.length:Int)) < 0)) (some ((-1),()))<|some (ag (a1.2.1 - (a1.1.2.2.2.1.length:Int)),())
theorem af (a1:A):@Eq (Option O) (D.W k a1) (p a1):=Bye
theorem ok:Ok prog 38 D.sig:=ap func38 az Bye (ak _)
end r_
namespace o4
abbrev A:=Change×Int×Unit
abbrev O:=Int×Unit
noncomputable def D:FD:={ fn:=f123,tl:=bc,ps:=[(.ro,aq),(.ro,i64)],rs:=[(i64,(an i64))],gl:=[(38,r_.D.sig)] }
def ae (a:A):Option O:=@lift O λk=>D.W k a
def p (a1:A):Option O:=(r_.ae (a1.1.2.1,a1.2.1,())).bind λr2=>cond (decide (r2.1 < 0)) (some ((-1),()))<|(r_.ae (a1.1.2.2.2.1,r2.1,())).bind λr3=>cond (decide (r3.1 < 0)) (some ((-1),()))<|some (r3.1,())
theorem af (a1:A):@Eq (Option O) (D.W k a1) (p a1):=Bye
theorem ok:Ok prog 123 D.sig:=ap func123 az Bye (fc r_.ok (ak _))
end o4
namespace sA
abbrev A:=(List Change)×Int×Unit
abbrev O:=Int×Unit
abbrev P:=Option O
noncomputable def D:FD:={ fn:=f64,tl:=bc,ps:=[(.ro,(.aa aq)),(.ro,i64)],rs:=[(i64,(an i64))],gl:=[(123,o4.D.sig)],lv:=[(5,[0,1,5])],lx:=[(0,[1])] }
def ae (a:A):P:=@lift O λk=>D.W k a
variable (a1:A)
def T0 (U:Int×Int):St:={ n:=27,sl:=[(0,.val (.aa aq) a1.1),(1,.val i64 U.1),(5,.val i64 U.2)],vr:=[],aT:=[] }
def b0 (self:(Int×Int)->P) (e0:Int->P) (a1:A) (U:Int×Int):P:=cond (decide (U.2 < (a1.1.length:Int))) (if 0<=U.2 then ((a1.1[U.2.toNat]?).bind λa8=>(o4.ae (a8,U.1,())).bind λcx=>cond (decide (cx.1 < 0)) (some ((-1),()))<|self (cx.1,ag (U.2+1))) else none)<|e0 U.1
def q0 (a1:A) (ez:Int):P:=some (ez,())
def r0:(Int×Int)->P:=am (λw v=>b0 w (q0 a1) a1 v) k
theorem aw:@Eq ((Int×Int)->P) (λU=>D.L k [1,1,1,0,1,0,0] [0,1,5] [] (ai 0 (ay (D.N k [1,1,1,1]) D.K0)) (T0 a1 U)) (r0 k a1):=
 funext λU=>av _ _ _ (T0 a1) _ (λrec v=>Bye) k U
def p (l0:(Int×Int)->P) (a1:A):P:=cond (decide (ag (a1.2.1 - (a1.1.length:Int)) < 0)) (some ((-1),()))<|l0 (ag (a1.2.1 - (a1.1.length:Int)),0)
theorem af:@Eq P (D.W k a1) (p (r0 k a1) a1):=By8 (aw k a1) Bye
theorem ok:Ok prog 64 D.sig:=ap func64 az Bye (fc o4.ok (ak _))
end sA
namespace to
abbrev A:=(List Int)×Int×Unit
abbrev O:=Int×Unit
noncomputable def D:FD:={ fn:=f145,tl:=bc,ps:=[(.ro,(.aa i64)),(.ro,i64)],rs:=[(i64,(an i64))] }
def ae (a:A):Option O:=@lift O λk=>D.W k a
def p (a1:A):Option O:=cond (decide (ag (a1.2.1 - (a1.1.length:Int)) < 0)) (some ((-1),()))<|some (ag (a1.2.1 - (a1.1.length:Int)),())
theorem af (a1:A):@Eq (Option O) (D.W k a1) (p a1):=Bye
theorem ok:Ok prog 145 D.sig:=ap func145 az Bye (ak _)
end to
namespace vX
abbrev A:=(List Key)×Int×Unit
abbrev O:=Int×Unit
noncomputable def D:FD:={ fn:=f146,tl:=bc,ps:=[(.ro,(.aa bp)),(.ro,i64)],rs:=[(i64,(an i64))] }
def ae (a:A):Option O:=@lift O λk=>D.W k a
def p (a1:A):Option O:=cond (decide (ag (a1.2.1 - (a1.1.length:Int)) < 0)) (some ((-1),()))<|some (ag (a1.2.1 - (a1.1.length:Int)),())
theorem af (a1:A):@Eq (Option O) (D.W k a1) (p a1):=Bye
theorem ok:Ok prog 146 D.sig:=ap func146 az Bye (ak _)
end vX
namespace tH
abbrev A:=Tx×Int×Unit
abbrev O:=Int×Unit
noncomputable def D:FD:={ fn:=f86,tl:=bc,ps:=[(.ro,df),(.ro,i64)],rs:=[(i64,(an i64))],gl:=[(64,sA.D.sig),(145,to.D.sig),(146,vX.D.sig)] }
def ae (a:A):Option O:=@lift O λk=>D.W k a
def p (a1:A):Option O:=(sA.ae (a1.1.2.1,a1.2.1,())).bind λr2=>cond (decide (r2.1 < 0)) (some ((-1),()))<|(to.ae (a1.1.2.2.1,r2.1,())).bind λr3=>cond (decide (r3.1 < 0)) (some ((-1),()))<|(vX.ae (a1.1.2.2.2.1,r3.1,())).bind λr4=>cond (decide (r4.1 < 0)) (some ((-1),()))<|some (r4.1,())
theorem af (a1:A):@Eq (Option O) (D.W k a1) (p a1):=Bye
theorem ok:Ok prog 86 D.sig:=ap func86 az Bye (fc sA.ok (fc to.ok (fc vX.ok (ak _))))
end tH
namespace wY
abbrev A:=(List Tx)×Int×Unit
abbrev O:=Int×Unit
abbrev P:=Option O
noncomputable def D:FD:={ fn:=f37,tl:=bc,ps:=[(.ro,(.aa df)),(.ro,i64)],rs:=[(i64,(an i64))],gl:=[(86,tH.D.sig)],lv:=[(5,[0,1,5])],lx:=[(0,[1])] }
def ae (a:A):P:=@lift O λk=>D.W k a
variable (a1:A)
def T0 (U:Int×Int):St:={ n:=27,sl:=[(0,.val (.aa df) a1.1),(1,.val i64 U.1),(5,.val i64 U.2)],vr:=[],aT:=[] }
def b0 (self:(Int×Int)->P) (e0:Int->P) (a1:A) (U:Int×Int):P:=cond (decide (U.2 < (a1.1.length:Int))) (if 0<=U.2 then ((a1.1[U.2.toNat]?).bind λa8=>(tH.ae (a8,U.1,())).bind λcx=>cond (decide (cx.1 < 0)) (some ((-1),()))<|self (cx.1,ag (U.2+1))) else none)<|e0 U.1
def q0 (a1:A) (ez:Int):P:=some (ez,())
def r0:(Int×Int)->P:=am (λw v=>b0 w (q0 a1) a1 v) k
theorem aw:@Eq ((Int×Int)->P) (λU=>D.L k [1,1,1,0,1,0,0] [0,1,5] [] (ai 0 (ay (D.N k [1,1,1,1]) D.K0)) (T0 a1 U)) (r0 k a1):=
 funext λU=>av _ _ _ (T0 a1) _ (λrec v=>Bye) k U
def p (l0:(Int×Int)->P) (a1:A):P:=cond (decide (ag (a1.2.1 - (a1.1.length:Int)) < 0)) (some ((-1),()))<|l0 (ag (a1.2.1 - (a1.1.length:Int)),0)
theorem af:@Eq P (D.W k a1) (p (r0 k a1) a1):=By8 (aw k a1) Bye
theorem ok:Ok prog 37 D.sig:=ap func37 az Bye (fc tH.ok (ak _))
end wY
namespace ri
abbrev A:=bi×Int×Unit
abbrev O:=Int×Unit
noncomputable def D:FD:={ fn:=f7,tl:=bc,ps:=[(.ro,cw),(.ro,i64)],rs:=[(i64,(an i64))],gl:=[(35,tn.D.sig),(36,tG.D.sig),(37,wY.D.sig)] }
def ae (a:A):Option O:=@lift O λk=>D.W k a
def p (a1:A):Option O:=(tn.ae (a1.1.2.1,a1.2.1,())).bind λr2=>cond (decide (r2.1 < 0)) (some ((-1),()))<|(tG.ae (a1.1.2.2.1,r2.1,())).bind λr3=>cond (decide (r3.1 < 0)) (some ((-1),()))<|(wY.ae (a1.1.2.2.2.1,r3.1,())).bind λr4=>cond (decide (r4.1 < 0)) (some ((-1),()))<|some (r4.1,())
theorem af (a1:A):@Eq (Option O) (D.W k a1) (p a1):=Bye
theorem ok:Ok prog 7 D.sig:=ap func7 az Bye (fc tn.ok (fc tG.ok (fc wY.ok (ak _))))
end ri
namespace cj
abbrev A:=Int×Int×Int×Unit
abbrev O:=Bool×Unit
noncomputable def D:FD:={ fn:=f65,tl:=bc,ps:=[(.ro,i64),(.ro,i64),(.ro,i64)],rs:=[(.bool,(an .bool))] }
def ae (a:A):Option O:=@lift O λk=>D.W k a
def p (a1:A):Option O:=cond (decide (a1.2.1<=a1.1)) (some (decide (a1.1<=a1.2.2.1),()))<|some (false,())
theorem af (a1:A):@Eq (Option O) (D.W k a1) (p a1):=Bye
theorem ok:Ok prog 65 D.sig:=ap func65 az Bye (ak _)
end cj
namespace n8
abbrev A:=Int×Unit
abbrev O:=Bool×Unit
noncomputable def D:FD:={ fn:=f209,tl:=bc,ps:=[(.ro,i64)],rs:=[(.bool,(an .bool))],gl:=[(65,cj.D.sig)] }
def ae (a:A):Option O:=@lift O λk=>D.W k a
def p (a1:A):Option O:=(cj.ae (a1.1,2,4,())).bind λr2=>some (r2.1,())
theorem af (a1:A):@Eq (Option O) (D.W k a1) (p a1):=Bye
theorem ok:Ok prog 209 D.sig:=ap func209 az Bye (fc cj.ok (ak _))
end n8
namespace ld
abbrev A:=(List cq)×Unit
abbrev O:=Int×Unit
abbrev P:=Option O
noncomputable def D:FD:={ fn:=f210,tl:=bc,ps:=[(.ro,(.aa oB))],rs:=[(i64,(an i64))],gl:=[(65,cj.D.sig)],lv:=[(4,[0,3])],lx:=[(0,[])],od:=[(9,[0,1,2,3,4,5,6,7,8,9,10,11,12,13,14,15,16,17,18,19,20,21,22,23])] }
def ae (a:A):P:=@lift O λk=>D.W k a
variable (a1:A)
def T0 (U:Int):St:={ n:=66,sl:=[(0,.val (.aa oB) a1.1),(3,.val i64 U)],vr:=[],aT:=[] }
def b0 (self:Int->P) (e0:(Unit)->P) (a1:A) (U:Int):P:=cond (decide (U < (a1.1.length:Int))) (if 0<=U then ((a1.1[U.toNat]?).bind λa8=>if 0<=U then ((a1.1[U.toNat]?).bind λgf=>(cj.ae (gf.1,0,63,())).bind λky=>cond (!ky.1) (some (3,()))<|(cj.ae ((a8.2.1.length:Int),1,64,())).bind λiQ=>cond (!iQ.1) (some (3,()))<|if 0<=U then ((a1.1[U.toNat]?).bind λtk=>cond (decide (64 < ag (tk.1+(a8.2.1.length:Int)))) (some (3,()))<|cond (decide (0 < U)) (if 0<=U then ((a1.1[U.toNat]?).bind λCQ=>if 0<=ag (U - 1) then ((a1.1[(ag (U - (1:Int))).toNat]?).bind λzd=>if 0<=ag (U - 1) then ((a1.1[(ag (U - (1:Int))).toNat]?).bind λJI=>cond (decide (CQ.1<=ag (zd.1+(JI.2.1.length:Int)))) (some (1,()))<|self (ag (U+1))) else none) else none) else none)<|self (ag (U+1))) else none) else none) else none)<|e0 ()
def q0 (a1:A) (Zq:(Unit)):P:=some (0,())
def r0:(Int)->P:=am (λw v=>b0 w (q0 a1) a1 v) k
theorem aw:@Eq ((Int)->P) (λU=>D.L k [1,1,0,1,0,0] [0,3] [] (ai 0 (ay (D.N k [1,1,1]) D.K0)) (T0 a1 U)) (r0 k a1):=
 funext λU=>av _ _ _ (T0 a1) _ (λrec v=>Bye) k U
def p (l0:(Int)->P) (a1:A):P:=cond (decide (64 < (a1.1.length:Int))) (some (2,()))<|l0 0
theorem af:@Eq P (D.W k a1) (p (r0 k a1) a1):=By8 (aw k a1) Bye
theorem ok:Ok prog 210 D.sig:=ap func210 az Bye (fc cj.ok (ak _))
end ld
namespace lg
abbrev A:=bg×Unit
abbrev O:=Int×Unit
abbrev P:=Option O
noncomputable def D:FD:={ fn:=f136,tl:=bc,ps:=[(.ro,(.ptr du))],rs:=[(i64,(an i64))],gl:=[(65,cj.D.sig),(209,n8.D.sig),(210,ld.D.sig)] }
def ae (a:A):P:=@lift O λk=>D.W k a
def p (a1:A):P:=let j13:P:=let j20:P:=(n8.ae (a1.1.1,())).bind λPH=>cond (!PH.1) (some (0,()))<|(ld.ae (a1.1.2.2.2.1,())).bind λr22=>cond (!decide (r22.1=0)) (some (r22.1,()))<|cond (decide ((a1.1.2.2.2.1.length:Int)=0)) (some (1,()))<|cond (decide (a1.1.1=4)) ((a1.1.2.2.2.1[0]?).bind λPI=>cond (!decide ((PI.2.1.length:Int)=64)) (some (1,()))<|some (0,()))<|some (0,());cond (!decide (a1.1.1=4)) ((cj.ae (a1.1.2.1,1,99,())).bind λze=>cond (!ze.1) (some (3,()))<|(cj.ae (a1.1.2.2.1,0,11,())).bind λEt=>cond (!Et.1) (some (3,()))<|j20)<|(cj.ae (a1.1.2.2.1,0,11,())).bind λAV=>cond (!AV.1) (some (3,()))<|j20;(cj.ae (a1.1.1,1,6,())).bind λr2=>cond (!r2.1) (some (1,()))<|(n8.ae (a1.1.1,())).bind λr3=>cond (!r3.1) (cond (!decide (a1.1.2.2.1=0)) (some (1,()))<|cond (decide (0 < (a1.1.2.2.2.1.length:Int))) (some (1,()))<|cond (decide (a1.1.1=4)) (cond (!decide (a1.1.2.1=0)) (some (1,()))<|j13)<|j13)<|cond (decide (a1.1.1=4)) (cond (!decide (a1.1.2.1=0)) (some (1,()))<|j13)<|j13
theorem af (a1:A):@Eq P (D.W k a1) (p a1):=Bye
theorem ok:Ok prog 136 D.sig:=ap func136 az Bye (fc cj.ok (fc n8.ok (fc ld.ok (ak _))))
end lg
namespace pO
abbrev A:=Byt×Unit
abbrev O:=Int×Unit
abbrev P:=Option O
noncomputable def D:FD:={ fn:=f311,tl:=bc,ps:=[(.ro,(.aa u8))],rs:=[(i64,(an i64))],lv:=[(3,[0,3,4])],lx:=[(0,[3])] }
def ae (a:A):P:=@lift O λk=>D.W k a
variable (a1:A)
def T0 (U:Int×Int):St:={ n:=21,sl:=[(0,.val (.aa u8) a1.1),(3,.val i64 U.1),(4,.val i64 U.2)],vr:=[],aT:=[] }
def b0 (self:(Int×Int)->P) (e0:Int->P) (a1:A) (U:Int×Int):P:=cond (decide (U.2 < (a1.1.length:Int))) (if 0<=U.2 then ((a1.1[U.2.toNat]?).bind λa8=>self ((ag ((ag (U.1*31))+(ag (a8.toNat:Int)))).tmod 65521,ag (U.2+1))) else none)<|e0 U.1
def q0 (a1:A) (mU:Int):P:=some (mU,())
def r0:(Int×Int)->P:=am (λw v=>b0 w (q0 a1) a1 v) k
theorem aw:@Eq ((Int×Int)->P) (λU=>D.L k [1,1,0,1,0,0] [0,3,4] [] (ai 0 (ay (D.N k [1,1,1]) D.K0)) (T0 a1 U)) (r0 k a1):=
 funext λU=>av _ _ _ (T0 a1) _ (λrec v=>Bye) k U
def p (l0:(Int×Int)->P) (a1:A):P:=l0 (1,0)
theorem af:@Eq P (D.W k a1) (p (r0 k a1) a1):=By8 (aw k a1) Bye
theorem ok:Ok prog 311 D.sig:=ap func311 az Bye (ak _)
end pO
namespace j6
abbrev A:=bg×Unit
abbrev O:=Byt×Unit
abbrev P:=Option O
noncomputable def D:FD:={ fn:=f272,tl:=bc,ps:=[(.ro,(.ptr du))],rs:=[((.aa u8),(aj (.aa u8)))],gl:=[(311,pO.D.sig)],lv:=[(3,[0,3,4])],lx:=[(0,[3])],od:=[(1,[0,1,2,3,4,5,6,7,8,9,10,11,12,13,14,15,16,17,18,19,20,21,22]),(5,[0,1,2,3,4,5,6,7,8,9,10,11,12,13,14,15,16,17,18,19,22,23,24,25,26,27,28,29,20,21,30,31])],ar:=[(5,[4,8,9,13,17,19,25,29])] }
def ae (a:A):P:=@lift O λk=>D.W k a
variable (a1:A)
def T0 (U:Byt×Int):St:={ n:=85,sl:=[(0,.cp du a1.1),(3,.own (.aa u8) (aj (.aa u8)) [] U.1),(4,.val i64 U.2)],vr:=[],aT:=[] }
def b0 (self:(Byt×Int)->P) (e0:Byt->P) (a1:A) (U:Byt×Int):P:=cond (decide (U.2 < (a1.1.2.2.2.1.length:Int))) (if 0<=U.2 then ((a1.1.2.2.2.1[U.2.toNat]?).bind λa8=>if 0<=U.2 then ((a1.1.2.2.2.1[U.2.toNat]?).bind λgf=>if 0<=U.2 then ((a1.1.2.2.2.1[U.2.toNat]?).bind λd6=>if U.1.length+[UInt8.ofInt a8.1,UInt8.ofInt (gf.2.1.length:Int)].length<=b9 then (let zf:=U.1++[UInt8.ofInt a8.1,UInt8.ofInt (gf.2.1.length:Int)];if zf.length+d6.2.1.length<=b9 then (self (zf++d6.2.1,ag (U.2+1))) else none) else none) else none) else none) else none)<|e0 U.1
def q0 (a1:A) (lI:Byt):P:=if 0<=(0:Int)/\0 < (lI.length:Int) then ((lI[0]?).bind λCQ=>let JJ:=lI.set 0 (UInt8.ofInt (ag ((lI.length:Int)+2)));(pO.ae (JJ,())).bind λzg=>if JJ.length+[UInt8.ofInt (ag (zg.1.tdiv (256:Int))),UInt8.ofInt (zg.1.tmod (256:Int))].length<=b9 then (let Zr:=JJ++[UInt8.ofInt (ag (zg.1.tdiv (256:Int))),UInt8.ofInt (zg.1.tmod (256:Int))];some (Zr,())) else none) else none
def r0:(Byt×Int)->P:=am (λw v=>b0 w (q0 a1) a1 v) k
theorem aw:@Eq ((Byt×Int)->P) (λU=>D.L k [1,1,0,1,0,0] [0,3,4] [] (ai 0 (ay (D.N k [1,1,1]) D.K0)) (T0 a1 U)) (r0 k a1):=
 funext λU=>av _ _ _ (T0 a1) _ (λrec v=>Bye) k U
def p (l0:(Byt×Int)->P) (a1:A):P:=l0 ([(0:UInt8),UInt8.ofInt a1.1.1,UInt8.ofInt a1.1.2.1,UInt8.ofInt a1.1.2.2.1,UInt8.ofInt (a1.1.2.2.2.1.length:Int)],0)
theorem af:@Eq P (D.W k a1) (p (r0 k a1) a1):=By8 (aw k a1) Bye
theorem ok:Ok prog 272 D.sig:=ap func272 az Bye (fc pO.ok (ak _))
end j6
namespace bY
abbrev A:=Byt×Unit
abbrev O:=Byt×Unit
noncomputable def D:FD:={ fn:=f139,tl:=bc,ps:=[(.ro,(.aa u8))],rs:=[((.aa u8),(aj (.aa u8)))] }
def ae (a:A):Option O:=@lift O λk=>D.W k a
def p (a1:A):Option O:=if ([]:Byt).length+a1.1.length<=b9 then (some (([]:Byt)++a1.1,())) else none
theorem af (a1:A):@Eq (Option O) (D.W k a1) (p a1):=Bye
theorem ok:Ok prog 139 D.sig:=ap func139 az Bye (ak _)
end bY
namespace mt
abbrev A:=Byt×Unit
abbrev O:=bg×Unit
abbrev P:=Option O
noncomputable def D:FD:={ fn:=f276,tl:=bc,ps:=[(.ro,(.aa u8))],rs:=[(du,(aj du))],gl:=[(139,bY.D.sig)],lv:=[(4,[0,2,3,4,5])],lx:=[(0,[2,3])],od:=[(1,[0,1,2,3,4,5,6,7,8,9,10,11,12,13,14]),(8,[0,1,2,3,4,5,6,7,8,9,10,11,12,13,14,15,16,17,18,19,20])] }
def ae (a:A):P:=@lift O λk=>D.W k a
variable (a1:A)
def T0 (dO:bg×Int×Int):St:={ n:=73,sl:=[(0,.val (.aa u8) a1.1),(2,.box du (aj du) [] ((0:Int),(0:Int),(0:Int),([]:List cq),())),(3,.box du (aj du) [] dO.1),(4,.val i64 dO.2.1),(5,.val i64 dO.2.2)],vr:=[],aT:=[] }
def b0 (self:(bg×Int×Int)->P) (e0:bg->P) (a1:A) (dO:bg×Int×Int):P:=(a1.1[4]?).bind λqJ=>cond (decide (dO.2.2 < ag (qJ.toNat:Int))) (cond (decide (ag (dO.2.1+2)<=(a1.1.length:Int))) (if 0<=ag (dO.2.1+1) then ((a1.1[(ag (dO.2.1+(1:Int))).toNat]?).bind λtk=>cond (decide ((a1.1.length:Int) < ag ((ag (dO.2.1+2))+(ag (tk.toNat:Int))))) (e0 dO.1)<|if 0<=dO.2.1 then ((a1.1[dO.2.1.toNat]?).bind λCQ=>if 0<=ag (dO.2.1+2)/\ag (dO.2.1+2)<=ag ((ag (dO.2.1+2))+(ag (tk.toNat:Int)))/\ag ((ag (dO.2.1+2))+(ag (tk.toNat:Int)))<=(a1.1.length:Int) then ((bY.ae ((a1.1.take (ag ((ag (dO.2.1+2))+(ag (tk.toNat:Int)))).toNat).drop (ag (dO.2.1+2)).toNat,())).bind λwD=>if dO.1.2.2.2.1.length+[(ag (CQ.toNat:Int),wD.1,())].length<=b9 then (let Bi:=dO.1.2.2.2.1++[(ag (CQ.toNat:Int),wD.1,())];self ((dO.1.1,dO.1.2.1,dO.1.2.2.1,Bi,dO.1.2.2.2.2),ag ((ag (dO.2.1+2))+(ag (tk.toNat:Int))),ag (dO.2.2+1))) else none) else none) else none) else none)<|e0 dO.1)<|e0 dO.1
abbrev B0 (_:Nat):=b0
def q0 (a1:A) (Zq:bg):P:=some (Zq,())
abbrev Q0 (_:Nat):=q0
def r0:(bg×Int×Int)->P:=am (λw v=>B0 k w (Q0 k a1) a1 v) k
theorem aw:@Eq ((bg×Int×Int)->P) (λdO=>D.L k [1,1,1,0,1,0,0] [0,2,3,4,5] [] (ai 0 (ay (D.N k [1,1,1,1]) D.K0)) (T0 a1 dO)) (r0 k a1):=
 funext λdO=>av _ _ _ (T0 a1) _ (λrec v=>Bye) k dO
def p (l0:(bg×Int×Int)->P) (a1:A):P:=(a1.1[1]?).bind λx2=>(a1.1[2]?).bind λx3=>(a1.1[3]?).bind λx4=>l0 ((ag (x2.toNat:Int),ag (x3.toNat:Int),ag (x4.toNat:Int),([]:List cq),()),5,0)
theorem af:@Eq P (D.W k a1) (p (r0 k a1) a1):=By8 (aw k a1) Bye
theorem ok:Ok prog 276 D.sig:=ap func276 az Bye (fc bY.ok (ak _))
end mt
namespace oI
abbrev A:=Byt×Unit
abbrev O:=PG×Unit
noncomputable def D:FD:={ fn:=f216,tl:=bc,ps:=[(.ro,(.aa u8))],rs:=[(Bh,(aj Bh))],gl:=[(136,lg.D.sig),(272,j6.D.sig),(276,mt.D.sig)],od:=[(5,[0,1,2,5,6,7,8,3,4,9,10])],ar:=[(5,[8])] }
def ae (a:A):Option O:=@lift O λk=>D.W k a
def p (a1:A):Option O:=cond (decide ((a1.1.length:Int) < 7)) (some ((5,0,(0,0,0,([]:List cq),()),()),()))<|(a1.1[0]?).bind λx2=>cond (decide (ag (x2.toNat:Int) < 7)) (some ((5,0,(0,0,0,([]:List cq),()),()),()))<|(a1.1[0]?).bind λx3=>cond (decide ((a1.1.length:Int) < ag (x3.toNat:Int))) (some ((5,0,(0,0,0,([]:List cq),()),()),()))<|(a1.1[0]?).bind λx4=>if 0<=ag (x4.toNat:Int)/\ag (x4.toNat:Int)<=(a1.1.length:Int) then ((mt.ae ((a1.1.take (ag (x4.toNat:Int)).toNat).drop 0,())).bind λr5=>(lg.ae (r5.1,())).bind λr6=>cond (!decide (r6.1=0)) (some ((5,0,(0,0,0,([]:List cq),()),()),()))<|if 0<=ag (x4.toNat:Int)/\ag (x4.toNat:Int)<=(a1.1.length:Int) then ((j6.ae (r5.1,())).bind λr7=>cond (!decide (r7.1=(a1.1.take (ag (x4.toNat:Int)).toNat).drop 0)) (some ((5,0,(0,0,0,([]:List cq),()),()),()))<|some ((0,ag (x4.toNat:Int),r5.1,()),())) else none) else none
theorem af (a1:A):@Eq (Option O) (D.W k a1) (p a1):=Bye
theorem ok:Ok prog 216 D.sig:=ap func216 az Bye (fc lg.ok (fc j6.ok (fc mt.ok (ak _))))
end oI
namespace kN
abbrev A:=Byt×Unit
abbrev O:=(List bg)×Int×Unit
abbrev P:=Option O
noncomputable def D:FD:={ fn:=f138,tl:=bc,ps:=[(.ro,(.aa u8))],rs:=[((.aa du),(aj (.aa du))),(i64,(an i64))],gl:=[(216,oI.D.sig)],lv:=[(3,[0,4,5])],lx:=[(0,[4,5])] }
def ae (a:A):P:=@lift O λk=>D.W k a
variable (a1:A)
def T0 (U:(List bg)×Int):St:={ n:=30,sl:=[(0,.val (.aa u8) a1.1),(4,.own (.aa du) (aj (.aa du)) [] U.1),(5,.val i64 U.2)],vr:=[],aT:=[] }
def b0 (self:((List bg)×Int)->P) (e0:((List bg)×Int)->P) (a1:A) (U:(List bg)×Int):P:=cond (decide (U.2 < (a1.1.length:Int))) (if 0<=U.2/\U.2<=(a1.1.length:Int) then ((oI.ae ((a1.1.take a1.1.length).drop U.2.toNat,())).bind λxr=>cond (!decide (xr.1.1=0)) (e0 (U.1,U.2))<|if U.1.length+[xr.1.2.2.1].length<=b9 then (self (U.1++[xr.1.2.2.1],ag (U.2+xr.1.2.1))) else none) else none)<|e0 (U.1,U.2)
abbrev B0 (_:Nat):=b0
def q0 (a1:A) (mU:((List bg)×Int)):P:=some (mU.1,mU.2,())
abbrev Q0 (_:Nat):=q0
def r0:((List bg)×Int)->P:=am (λw v=>B0 k w (Q0 k a1) a1 v) k
theorem aw:@Eq (((List bg)×Int)->P) (λU=>D.L k [1,1,1,0,0,0] [0,4,5] [] (ai 0 (ay (D.N k [1,1,1,1]) D.K0)) (T0 a1 U)) (r0 k a1):=
 funext λU=>av _ _ _ (T0 a1) _ (λrec v=>Bye) k U
def p (l0:((List bg)×Int)->P) (a1:A):P:=l0 (([]:List bg),0)
theorem af:@Eq P (D.W k a1) (p (r0 k a1) a1):=By8 (aw k a1) Bye
theorem ok:Ok prog 138 D.sig:=ap func138 az Bye (fc oI.ok (ak _))
end kN
namespace mu
abbrev A:=Log×Unit
abbrev O:=(List bg)×Unit
noncomputable def D:FD:={ fn:=f76,tl:=bc,ps:=[(.ro,(.ptr gd))],rs:=[((.aa du),(aj (.aa du)))],gl:=[(138,kN.D.sig),(139,bY.D.sig)],od:=[(1,[0,1,2,3,5,6,7,8,4,9,10,11,12,13,14,15])] }
def ae (a:A):Option O:=@lift O λk=>D.W k a
def p (a1:A):Option O:=(bY.ae (a1.1.1,())).bind λr2=>if r2.1.length+a1.1.2.1.length<=b9 then ((kN.ae (r2.1++a1.1.2.1,())).bind λr3=>some (r3.1,())) else none
theorem af (a1:A):@Eq (Option O) (D.W k a1) (p a1):=Bye
theorem ok:Ok prog 76 D.sig:=ap func76 az Bye (fc kN.ok (fc bY.ok (ak _)))
end mu
namespace rj
abbrev A:=Log×Unit
abbrev O:=Int×Unit
noncomputable def D:FD:={ fn:=f87,tl:=bc,ps:=[(.ro,(.ptr gd))],rs:=[(i64,(an i64))],gl:=[(138,kN.D.sig)],od:=[(1,[0,1,2,3,4,5,6,7,8,9,10,11])] }
def ae (a:A):Option O:=@lift O λk=>D.W k a
def p (a1:A):Option O:=cond (decide (16000 < ag ((a1.1.1.length:Int)+(a1.1.2.1.length:Int)))) (some (2,()))<|(kN.ae (a1.1.1,())).bind λr2=>cond (!decide (r2.2.1=(a1.1.1.length:Int))) (some (5,()))<|(kN.ae (a1.1.2.1,())).bind λr3=>cond (!decide (r3.2.1=(a1.1.2.1.length:Int))) (some (5,()))<|some (0,())
theorem af (a1:A):@Eq (Option O) (D.W k a1) (p a1):=Bye
theorem ok:Ok prog 87 D.sig:=ap func87 az Bye (fc kN.ok (ak _))
end rj
namespace db
abbrev A:=Byt×Unit
abbrev O:=Int×Unit
noncomputable def D:FD:={ fn:=f228,tl:=bc,ps:=[(.ro,(.aa u8))],rs:=[(i64,(an i64))] }
def ae (a:A):Option O:=@lift O λk=>D.W k a
def p (a1:A):Option O:=(a1.1[0]?).bind λx2=>some (ag (x2.toNat:Int),())
theorem af (a1:A):@Eq (Option O) (D.W k a1) (p a1):=Bye
theorem ok:Ok prog 228 D.sig:=ap func228 az Bye (ak _)
end db
namespace b_
abbrev A:=Byt×Int×Unit
abbrev O:=Int×Unit
noncomputable def D:FD:={ fn:=f229,tl:=bc,ps:=[(.ro,(.aa u8)),(.ro,i64)],rs:=[(i64,(an i64))] }
def ae (a:A):Option O:=@lift O λk=>D.W k a
def p (a1:A):Option O:=if 0<=ag (3+(ag (2*a1.2.1))) then ((a1.1[(ag ((3:Int)+(ag ((2:Int)*a1.2.1)))).toNat]?).bind λx2=>some (ag (x2.toNat:Int),())) else none
theorem af (a1:A):@Eq (Option O) (D.W k a1) (p a1):=Bye
theorem ok:Ok prog 229 D.sig:=ap func229 az Bye (ak _)
end b_
namespace kI
abbrev A:=Byt×Unit
abbrev O:=Int×Unit
noncomputable def D:FD:={ fn:=f284,tl:=bc,ps:=[(.ro,(.aa u8))],rs:=[(i64,(an i64))] }
def ae (a:A):Option O:=@lift O λk=>D.W k a
def p (a1:A):Option O:=(a1.1[1]?).bind λx2=>some (ag (x2.toNat:Int),())
theorem af (a1:A):@Eq (Option O) (D.W k a1) (p a1):=Bye
theorem ok:Ok prog 284 D.sig:=ap func284 az Bye (ak _)
end kI
namespace it
abbrev A:=Byt×Int×Unit
abbrev O:=Int×Unit
noncomputable def D:FD:={ fn:=f288,tl:=bc,ps:=[(.ro,(.aa u8)),(.ro,i64)],rs:=[(i64,(an i64))] }
def ae (a:A):Option O:=@lift O λk=>D.W k a
def p (a1:A):Option O:=if 0<=ag (2+(ag (2*a1.2.1))) then ((a1.1[(ag ((2:Int)+(ag ((2:Int)*a1.2.1)))).toNat]?).bind λx2=>some (ag (x2.toNat:Int),())) else none
theorem af (a1:A):@Eq (Option O) (D.W k a1) (p a1):=Bye
theorem ok:Ok prog 288 D.sig:=ap func288 az Bye (ak _)
end it
namespace t8
abbrev A:=Byt×Int×Unit
abbrev O:=Bool×Unit
noncomputable def D:FD:={ fn:=f285,tl:=bc,ps:=[(.ro,(.aa u8)),(.ro,i64)],rs:=[(.bool,(an .bool))],gl:=[(229,b_.D.sig),(284,kI.D.sig),(288,it.D.sig)] }
def ae (a:A):Option O:=@lift O λk=>D.W k a
def p (a1:A):Option O:=(it.ae (a1.1,a1.2.1,())).bind λr2=>(b_.ae (a1.1,a1.2.1,())).bind λr3=>cond (decide (r2.1=0)) (some (decide (r2.1=r3.1),()))<|cond (decide (r3.1=0)) (some (decide (r2.1=r3.1),()))<|(kI.ae (a1.1,())).bind λr4=>cond (decide (r4.1<=r2.1)) (some (decide (ag (r2.1+r3.1)<=64),()))<|some (false,())
theorem af (a1:A):@Eq (Option O) (D.W k a1) (p a1):=Bye
theorem ok:Ok prog 285 D.sig:=ap func285 az Bye (fc b_.ok (fc kI.ok (fc it.ok (ak _))))
end t8
namespace rm
abbrev A:=Byt×Int×Int×Unit
abbrev O:=Bool×Unit
noncomputable def D:FD:={ fn:=f286,tl:=bc,ps:=[(.ro,(.aa u8)),(.ro,i64),(.ro,i64)],rs:=[(.bool,(an .bool))],gl:=[(229,b_.D.sig),(288,it.D.sig)] }
def ae (a:A):Option O:=@lift O λk=>D.W k a
def p (a1:A):Option O:=(b_.ae (a1.1,a1.2.1,())).bind λr2=>cond (decide (r2.1=0)) (some (true,()))<|(b_.ae (a1.1,a1.2.2.1,())).bind λr3=>cond (decide (r3.1=0)) (some (true,()))<|(it.ae (a1.1,a1.2.1,())).bind λr4=>(b_.ae (a1.1,a1.2.1,())).bind λr5=>(it.ae (a1.1,a1.2.2.1,())).bind λr6=>cond (decide (ag (r4.1+r5.1)<=r6.1)) (some (true,()))<|(it.ae (a1.1,a1.2.2.1,())).bind λr7=>(b_.ae (a1.1,a1.2.2.1,())).bind λr8=>(it.ae (a1.1,a1.2.1,())).bind λr9=>some (decide (ag (r7.1+r8.1)<=r9.1),())
theorem af (a1:A):@Eq (Option O) (D.W k a1) (p a1):=Bye
theorem ok:Ok prog 286 D.sig:=ap func286 az Bye (fc b_.ok (fc it.ok (ak _)))
end rm
namespace dj
abbrev A:=Byt×Unit
abbrev O:=Int×Unit
abbrev P:=Option O
noncomputable def D:FD:={ fn:=f227,tl:=bc,ps:=[(.ro,(.aa u8))],rs:=[(i64,(an i64))],gl:=[(228,db.D.sig),(229,b_.D.sig),(284,kI.D.sig),(285,t8.D.sig),(286,rm.D.sig)],lv:=[(7,[0,3,4]),(12,[0,3,5]),(15,[0,3,5,6])],lx:=[(0,[0,3]),(2,[0,3]),(4,[0,3,5])] }
def ae (a:A):P:=@lift O λk=>D.W k a
def T0 (a1:A) (d0:Int) (dO:Int):St:={ n:=60,sl:=[(0,.val (.aa u8) a1.1),(3,.val i64 d0),(4,.val i64 dO)],vr:=[],aT:=[] }
def S0 (rec:RT O) (a1:A) (d0:Int):(Int)->P:=λdO=>rec (T0 a1 d0 dO)
def c_ (K:KT O) (a1:A) (d0:Int):(Unit)->P:=λz=>K (.exit 0) ({ n:=60,sl:=[(0,.val (.aa u8) a1.1),(3,.val i64 d0)],vr:=[],aT:=[] })
def b0 (self:Int->P) (e0:(Unit)->P) (a1:A) (d0:Int) (dO:Int):P:=cond (decide (dO < d0)) ((t8.ae (a1.1,dO,())).bind λjq=>cond (!jq.1) (some (3,()))<|self (ag (dO+1)))<|e0 ()
theorem lh (rec:RT O) (K:KT O) (a1:A) (d0:Int) (dO:Int):D.N k [1,1,1,1,0,1,0,0] (T0 a1 d0 dO) (iX rec (ge [0,3,4] []) K)=b0 (S0 rec a1 d0) (c_ K a1 d0) a1 d0 dO:=Bye
def T1 (a1:A) (dm:Byt×Int×Int):St:={ n:=60,sl:=[(0,.val (.aa u8) dm.1),(3,.val i64 dm.2.1),(5,.val i64 dm.2.2)],vr:=[],aT:=[] }
def S1 (rec:RT O) (a1:A):(Byt×Int×Int)->P:=λdm=>rec (T1 a1 dm)
def jM (K:KT O) (a1:A):(Byt×Int)->P:=λz=>K (.exit 2) ({ n:=60,sl:=[(0,.val (.aa u8) z.1),(3,.val i64 z.2)],vr:=[],aT:=[] })
def T2 (a1:A) (jS:Byt) (iN:Int) (fh:Int) (BG:Int):St:={ n:=60,sl:=[(0,.val (.aa u8) jS),(3,.val i64 iN),(5,.val i64 fh),(6,.val i64 BG)],vr:=[],aT:=[] }
def b2 (self:Int->P) (e4:(Unit)->P) (a1:A) (jS:Byt) (iN:Int) (fh:Int) (BG:Int):P:=cond (decide (BG < fh)) ((rm.ae (jS,fh,BG,())).bind λUT=>cond (!UT.1) (some (8,()))<|self (ag (BG+1)))<|e4 ()
def q1 (self:(Byt×Int×Int)->P) (e2:(Byt×Int)->P) (a1:A) (jS:Byt) (iN:Int) (fh:Int) (Ig:(Unit)):P:=self (jS,iN,ag (fh+1))
def s2 (rec:RT O) (K:KT O) (a1:A):Byt->Int->Int->(Int)->P:=λjS iN fh=>λBG=>D.L k [1,1,1,1,1,0,1,0,0,1,0,0,1,0,0] [0,3,5,6] [] (ai 4 (ai 3 (ay (D.N k [1,1,1,1,1,0,1,0,0,1,1]) (iX rec (ge [0,3,5] []) K)))) (T2 a1 jS iN fh BG)
def r2 (self:(Byt×Int×Int)->P) (e2:(Byt×Int)->P) (a1:A):Byt->Int->Int->(Int)->P:=λjS iN fh=>am (λw v=>b2 w (q1 self e2 a1 jS iN fh) a1 jS iN fh v) k
theorem tI (rec:RT O) (K:KT O) (a1:A):s2 k rec K a1=r2 k (S1 rec a1) (jM K a1) a1:=
 funext λjS=>funext λiN=>funext λfh=>funext λBG=>av _ _ _ (T2 a1 jS iN fh) _ (λrec v=>Bye) k BG
def b1 (self:(Byt×Int×Int)->P) (e2:(Byt×Int)->P) (l2:Byt->Int->Int->(Int)->P) (a1:A) (dm:Byt×Int×Int):P:=cond (decide (dm.2.2 < dm.2.1)) (l2 dm.1 dm.2.1 dm.2.2 0)<|e2 (dm.1,dm.2.1)
def B1 (self:(Byt×Int×Int)->P) (e2:(Byt×Int)->P) (a1:A) (dm:Byt×Int×Int):P:=b1 self e2 (r2 k self e2 a1) a1 dm
theorem vd (rec:RT O) (K:KT O) (a1:A) (dm:Byt×Int×Int):D.N k [1,1,1,1,1,0,1,0,0] (T1 a1 dm) (iX rec (ge [0,3,5] []) K)=B1 k (S1 rec a1) (jM K a1) a1 dm:=
 aL (b:=b1 (S1 rec a1) (jM K a1) (s2 k rec K a1) a1 dm) Bye (by rw[tI];rfl)
def q2 (a1:A) (wZ:(Byt×Int)):P:=cond (decide (0 < wZ.2)) ((b_.ae (wZ.1,ag (wZ.2 - 1),())).bind λadH=>cond (decide (adH.1=0)) (some (8,()))<|some (0,()))<|some (0,())
theorem w7 (a1:A) (wZ:(Byt×Int)):jM (ai 2 (ay (D.N k [1,1,1,1,1,1]) D.K0)) a1 wZ=q2 a1 wZ:=Bye
def s1 (a1:A) (d0:Int):(Byt×Int×Int)->P:=λdm=>D.L k [1,1,1,1,1,0,1,0,0] [0,3,5] [] (ai 2 (ay (D.N k [1,1,1,1,1,1]) D.K0)) (T1 a1 dm)
def r1 (a1:A) (d0:Int):(Byt×Int×Int)->P:=am (λw v=>B1 k w (q2 a1) a1 v) k
theorem li (a1:A) (d0:Int):s1 k a1 d0=r1 k a1 d0:=by
 funext dm;have h2:jM (ai 2 (ay (D.N k [1,1,1,1,1,1]) D.K0)) a1=q2 a1:=funext λz=>w7 k a1 z;refine (av _ _ _ (T1 a1) (λself v=>B1 k self (jM (ai 2 (ay (D.N k [1,1,1,1,1,1]) D.K0)) a1) a1 v) (λrec v=>vd k rec (ai 2 (ay (D.N k [1,1,1,1,1,1]) D.K0)) a1 v) k dm).trans ?_;rw[h2];rfl
def q0 (l1:(Byt×Int×Int)->P) (a1:A) (d0:Int) (oC:(Unit)):P:=l1 (a1.1,d0,0)
def Q0 (a1:A) (d0:Int) (oC:(Unit)):P:=q0 (r1 k a1 d0) a1 d0 oC
theorem sa (a1:A) (d0:Int) (oC:(Unit)):c_ (ai 0 (ay (D.N k [1,1,1,1,1]) D.K0)) a1 d0 oC=Q0 k a1 d0 oC:=
 aL (b:=q0 (s1 k a1 d0) a1 d0 oC) Bye (by rw[li];rfl)
def s0 (a1:A):Int->(Int)->P:=λd0=>λdO=>D.L k [1,1,1,1,0,1,0,0] [0,3,4] [] (ai 0 (ay (D.N k [1,1,1,1,1]) D.K0)) (T0 a1 d0 dO)
def r0 (a1:A):Int->(Int)->P:=λd0=>am (λw v=>b0 w (Q0 k a1 d0) a1 d0 v) k
theorem aw (a1:A):s0 k a1=r0 k a1:=by
 funext d0;funext dO;have h0:c_ (ai 0 (ay (D.N k [1,1,1,1,1]) D.K0)) a1 d0=Q0 k a1 d0:=funext λz=>sa k a1 d0 z;refine (av _ _ _ (T0 a1 d0) (λself v=>b0 self (c_ (ai 0 (ay (D.N k [1,1,1,1,1]) D.K0)) a1 d0) a1 d0 v) (λrec v=>lh k rec (ai 0 (ay (D.N k [1,1,1,1,1]) D.K0)) a1 d0 v) k dO).trans ?_;rw[h0];rfl
def p (l0:Int->(Int)->P) (a1:A):P:=cond (!decide ((a1.1.length:Int)=64)) (some (1,()))<|(db.ae (a1.1,())).bind λr2=>cond (decide (16 < r2.1)) (some (3,()))<|(kI.ae (a1.1,())).bind λr3=>cond (decide (r3.1 < ag (2+(ag (2*r2.1))))) (some (3,()))<|(kI.ae (a1.1,())).bind λr4=>cond (decide (64 < r4.1)) (some (3,()))<|l0 r2.1 0
theorem af (a1:A):@Eq P (D.W k a1) (p (r0 k a1) a1):=
 aL (b:=p (s0 k a1) a1) Bye (by rw[aw])
theorem ok:Ok prog 227 D.sig:=ap func227 az Bye (fc db.ok (fc b_.ok (fc kI.ok (fc t8.ok (fc rm.ok (ak _))))))
end dj
namespace oW
abbrev A:=Byt×Unit
abbrev O:=Bool×Unit
abbrev P:=Option O
noncomputable def D:FD:={ fn:=f290,tl:=bc,ps:=[(.ro,.str)],rs:=[(.bool,(an .bool))],lv:=[(2,[0,3])],lx:=[(0,[0])] }
def ae (a:A):P:=@lift O λk=>D.W k a
variable (a1:A)
def T0 (U:Int):St:={ n:=23,sl:=[(0,.val .str a1.1),(3,.val i64 U)],vr:=[],aT:=[] }
def b0 (self:Int->P) (e0:(Unit)->P) (a1:A) (U:Int):P:=cond (decide (U < (a1.1.length:Int))) (if 0<=U then ((a1.1[U.toNat]?).bind λa8=>cond (decide ((a8.toNat:Int) < 97)) (some (false,()))<|if 0<=U then ((a1.1[U.toNat]?).bind λgf=>cond (decide (122 < (gf.toNat:Int))) (some (false,()))<|self (ag (U+1))) else none) else none)<|e0 ()
def q0 (ez:(Unit)):P:=some (decide ((a1.1.length:Int)<=8),())
def r0:(Int)->P:=am (λw v=>b0 w (q0 a1) a1 v) k
theorem aw:@Eq ((Int)->P) (λU=>D.L k [1,0,1,0,0] [0,3] [] (ai 0 (ay (D.N k [1,1]) D.K0)) (T0 a1 U)) (r0 k a1):=
 funext λU=>av _ _ _ (T0 a1) _ (λrec v=>Bye) k U
def p (l0:(Int)->P) (a1:A):P:=l0 0
theorem af:@Eq P (D.W k a1) (p (r0 k a1) a1):=By8 (aw k a1) Bye
theorem ok:Ok prog 290 D.sig:=ap func290 az Bye (ak _)
end oW
namespace jA
abbrev A:=Row×Unit
abbrev O:=Int×Unit
noncomputable def D:FD:={ fn:=f234,tl:=bc,ps:=[(.ro,(.ptr bd))],rs:=[(i64,(an i64))],gl:=[(65,cj.D.sig),(290,oW.D.sig)] }
def ae (a:A):Option O:=@lift O λk=>D.W k a
def p (a1:A):Option O:=(cj.ae (a1.1.1,0,3,())).bind λr2=>cond (!r2.1) (some (3,()))<|(cj.ae (a1.1.2.1,1,99,())).bind λr3=>cond (!r3.1) (some (3,()))<|(cj.ae (a1.1.2.2.1,0,999,())).bind λr4=>cond (!r4.1) (some (3,()))<|(oW.ae (a1.1.2.2.2.1,())).bind λr5=>cond (!r5.1) (some (5,()))<|some (0,())
theorem af (a1:A):@Eq (Option O) (D.W k a1) (p a1):=Bye
theorem ok:Ok prog 234 D.sig:=ap func234 az Bye (fc cj.ok (fc oW.ok (ak _)))
end jA
namespace sO
abbrev A:=Int×Int×Unit
abbrev O:=Bool×Unit
noncomputable def D:FD:={ fn:=f287,tl:=bc,ps:=[(.ro,i64),(.ro,i64)],rs:=[(.bool,(an .bool))],gl:=[(65,cj.D.sig)] }
def ae (a:A):Option O:=@lift O λk=>D.W k a
def p (a1:A):Option O:=(cj.ae (a1.1,0,11,())).bind λr2=>cond r2.1 ((cj.ae (a1.2.1,0,15,())).bind λr3=>some (r3.1,()))<|some (false,())
theorem af (a1:A):@Eq (Option O) (D.W k a1) (p a1):=Bye
theorem ok:Ok prog 287 D.sig:=ap func287 az Bye (fc cj.ok (ak _))
end sO
namespace mw
abbrev A:=Byt×Unit
abbrev O:=tF×Bool×Unit
noncomputable def D:FD:={ fn:=f230,tl:=bc,ps:=[(.ro,(.aa u8))],rs:=[(sq,(an sq)),(.bool,(an .bool))],gl:=[(234,jA.D.sig),(287,sO.D.sig)],od:=[(2,[0,1,2,3,4,5,6,7,8,9,10]),(3,[0,1,2,3,4,5,6,7]),(6,[0,1,2,3,4,5,6,7,8,9,10,11,12,13,14,15,16,17,18,19,20,21,22,23]),(7,[0,1,2,3,4,5,6,7,8,9])] }
def ae (a:A):Option O:=@lift O λk=>D.W k a
def p (a1:A):Option O:=let j16:Option O:=cond (decide ((a1.1.length:Int) < 6)) (some ((0,0,0,0,(0,0,0,([]:Byt),()),()),false,()))<|(a1.1[0]?).bind λx17=>cond (decide ((x17.toNat:Int)=1)) (some ((0,0,0,0,(0,0,0,([]:Byt),()),()),false,()))<|(a1.1[0]?).bind λx18=>cond (decide (2 < (x18.toNat:Int))) (some ((0,0,0,0,(0,0,0,([]:Byt),()),()),false,()))<|(a1.1[5]?).bind λx19=>cond (!decide ((a1.1.length:Int)=ag (6+(ag (x19.toNat:Int))))) (some ((0,0,0,0,(0,0,0,([]:Byt),()),()),false,()))<|(a1.1[1]?).bind λx20=>(a1.1[2]?).bind λx21=>(a1.1[3]?).bind λx22=>(a1.1[4]?).bind λPI=>if 0<=(6:Int)/\6<=(a1.1.length:Int) then (let y24:=ag ((ag ((ag (x22.toNat:Int))*256))+(ag (PI.toNat:Int)));(a1.1[0]?).bind λx25=>(jA.ae ((ag (x20.toNat:Int),ag (x21.toNat:Int),y24,(a1.1.take a1.1.length).drop 6,()),())).bind λTp=>some ((0,ag (x25.toNat:Int),0,0,(ag (x20.toNat:Int),ag (x21.toNat:Int),y24,(a1.1.take a1.1.length).drop 6,()),()),decide (Tp.1=0),())) else none;cond (decide ((a1.1.length:Int)=3)) ((a1.1[0]?).bind λx2=>cond (decide ((x2.toNat:Int)=1)) ((a1.1[1]?).bind λx3=>(a1.1[2]?).bind λx4=>(sO.ae (ag (x3.toNat:Int),ag (x4.toNat:Int),())).bind λr5=>some ((0,1,ag (x3.toNat:Int),ag (x4.toNat:Int),(0,0,0,([]:Byt),()),()),r5.1,()))<|j16)<|j16
theorem af (a1:A):@Eq (Option O) (D.W k a1) (p a1):=Bye
theorem ok:Ok prog 230 D.sig:=ap func230 az Bye (fc jA.ok (fc sO.ok (ak _)))
end mw
namespace j_
abbrev A:=Byt×Int×Unit
abbrev O:=Byt×Unit
noncomputable def D:FD:={ fn:=f231,tl:=bc,ps:=[(.ro,(.aa u8)),(.ro,i64)],rs:=[((.aa u8),(aj (.aa u8)))],gl:=[(229,b_.D.sig),(288,it.D.sig)] }
def ae (a:A):Option O:=@lift O λk=>D.W k a
def p (a1:A):Option O:=(it.ae (a1.1,a1.2.1,())).bind λr2=>(b_.ae (a1.1,a1.2.1,())).bind λr3=>if 0<=r2.1/\r2.1<=ag (r2.1+r3.1)/\ag (r2.1+r3.1)<=(a1.1.length:Int) then (if ([]:Byt).length+((a1.1.take (ag (r2.1+r3.1)).toNat).drop r2.1.toNat).length<=b9 then (let y4:=([]:Byt)++((a1.1.take (ag (r2.1+r3.1)).toNat).drop r2.1.toNat);some (y4,())) else none) else none
theorem af (a1:A):@Eq (Option O) (D.W k a1) (p a1):=Bye
theorem ok:Ok prog 231 D.sig:=ap func231 az Bye (fc b_.ok (fc it.ok (ak _)))
end j_
namespace ig
abbrev A:=(List Byt)×Unit
abbrev O:=Int×Unit
abbrev P:=Option O
noncomputable def D:FD:={ fn:=f147,tl:=bc,ps:=[(.ro,(.aa (.aa u8)))],rs:=[(i64,(an i64))],gl:=[(227,dj.D.sig),(228,db.D.sig),(229,b_.D.sig),(230,mw.D.sig),(231,j_.D.sig)],lv:=[(2,[0,3]),(8,[0,3,5])],lx:=[(0,[]),(2,[0,3])] }
def ae (a:A):P:=@lift O λk=>D.W k a
def T0 (a1:A) (U:(List Byt)×Int):St:={ n:=50,sl:=[(0,.val (.aa (.aa u8)) U.1),(3,.val i64 U.2)],vr:=[],aT:=[] }
def S0 (rec:RT O) (a1:A):((List Byt)×Int)->P:=λU=>rec (T0 a1 U)
def c_ (K:KT O) (a1:A):(Unit)->P:=λz=>K (.exit 0) ({ n:=50,sl:=[],vr:=[],aT:=[] })
def T1 (a1:A) (fq:List Byt) (eg:Int) (cy:Int):St:={ n:=50,sl:=[(0,.val (.aa (.aa u8)) fq),(3,.val i64 eg),(5,.val i64 cy)],vr:=[],aT:=[] }
def b1 (self:Int->P) (e2:(Unit)->P) (a1:A) (fq:List Byt) (eg:Int) (cy:Int):P:=if 0<=eg then ((fq[eg.toNat]?).bind λKU=>(db.ae (KU,())).bind λUU=>cond (decide (cy < UU.1)) (if 0<=eg then ((fq[eg.toNat]?).bind λFf=>(b_.ae (Ff,cy,())).bind λKV=>cond (decide (0 < KV.1)) (if 0<=eg then ((fq[eg.toNat]?).bind λDz=>(j_.ae (Dz,cy,())).bind λoJ=>(mw.ae (oJ.1,())).bind λDA=>cond (!DA.2.1) (some (5,()))<|self (ag (cy+1))) else none)<|self (ag (cy+1))) else none)<|e2 ()) else none
def q0 (self:((List Byt)×Int)->P) (e0:(Unit)->P) (a1:A) (fq:List Byt) (eg:Int) (BH:(Unit)):P:=self (fq,ag (eg+1))
def s1 (rec:RT O) (K:KT O) (a1:A):(List Byt)->Int->(Int)->P:=λfq eg=>λcy=>D.L k [1,0,1,0,0,1,0,0,1,1,0,0] [0,3,5] [] (ai 2 (ai 1 (ay (D.N k [1,0,1,0,0,1,1]) (iX rec (ge [0,3] []) K)))) (T1 a1 fq eg cy)
def r1 (self:((List Byt)×Int)->P) (e0:(Unit)->P) (a1:A):(List Byt)->Int->(Int)->P:=λfq eg=>am (λw v=>b1 w (q0 self e0 a1 fq eg) a1 fq eg v) k
theorem li (rec:RT O) (K:KT O) (a1:A):s1 k rec K a1=r1 k (S0 rec a1) (c_ K a1) a1:=
 funext λfq=>funext λeg=>funext λcy=>av _ _ _ (T1 a1 fq eg) _ (λrec v=>Bye) k cy
def b0 (self:((List Byt)×Int)->P) (e0:(Unit)->P) (l1:(List Byt)->Int->(Int)->P) (a1:A) (U:(List Byt)×Int):P:=cond (decide (U.2 < (U.1.length:Int))) (if 0<=U.2 then ((U.1[U.2.toNat]?).bind λa8=>(dj.ae (a8,())).bind λcx=>cond (!decide (cx.1=0)) (some (cx.1,()))<|l1 U.1 U.2 0) else none)<|e0 ()
def B0 (self:((List Byt)×Int)->P) (e0:(Unit)->P) (a1:A) (U:(List Byt)×Int):P:=b0 self e0 (r1 k self e0 a1) a1 U
theorem lh (rec:RT O) (K:KT O) (a1:A) (U:(List Byt)×Int):D.N k [1,0,1,0,0] (T0 a1 U) (iX rec (ge [0,3] []) K)=B0 k (S0 rec a1) (c_ K a1) a1 U:=
 aL (b:=b0 (S0 rec a1) (c_ K a1) (s1 k rec K a1) a1 U) Bye (by rw[li];rfl)
def q1 (a1:A) (N8:(Unit)):P:=some (0,())
theorem sb (a1:A) (N8:(Unit)):c_ (ai 0 (ay (D.N k [1,1]) D.K0)) a1 N8=q1 a1 N8:=Bye
def s0 (a1:A):((List Byt)×Int)->P:=λU=>D.L k [1,0,1,0,0] [0,3] [] (ai 0 (ay (D.N k [1,1]) D.K0)) (T0 a1 U)
def r0 (a1:A):((List Byt)×Int)->P:=am (λw v=>B0 k w (q1 a1) a1 v) k
theorem aw (a1:A):s0 k a1=r0 k a1:=by
 funext U;have h0:c_ (ai 0 (ay (D.N k [1,1]) D.K0)) a1=q1 a1:=funext λz=>sb k a1 z;refine (av _ _ _ (T0 a1) (λself v=>B0 k self (c_ (ai 0 (ay (D.N k [1,1]) D.K0)) a1) a1 v) (λrec v=>lh k rec (ai 0 (ay (D.N k [1,1]) D.K0)) a1 v) k U).trans ?_;rw[h0];rfl
def p (l0:((List Byt)×Int)->P) (a1:A):P:=l0 (a1.1,0)
theorem af (a1:A):@Eq P (D.W k a1) (p (r0 k a1) a1):=
 aL (b:=p (s0 k a1) a1) Bye (by rw[aw])
theorem ok:Ok prog 147 D.sig:=ap func147 az Bye (fc dj.ok (fc db.ok (fc b_.ok (fc mw.ok (fc j_.ok (ak _))))))
end ig
namespace tJ
abbrev A:=Byt×Int×Unit
abbrev O:=Bool×Unit
noncomputable def D:FD:={ fn:=f289,tl:=bc,ps:=[(.ro,(.aa u8)),(.ro,i64)],rs:=[(.bool,(an .bool))],gl:=[(65,cj.D.sig),(228,db.D.sig),(229,b_.D.sig)] }
def ae (a:A):Option O:=@lift O λk=>D.W k a
def p (a1:A):Option O:=(db.ae (a1.1,())).bind λr2=>(cj.ae (a1.2.1,0,ag (r2.1 - 1),())).bind λr3=>cond r3.1 ((b_.ae (a1.1,a1.2.1,())).bind λr4=>some (decide (0 < r4.1),()))<|some (false,())
theorem af (a1:A):@Eq (Option O) (D.W k a1) (p a1):=Bye
theorem ok:Ok prog 289 D.sig:=ap func289 az Bye (fc cj.ok (fc db.ok (fc b_.ok (ak _))))
end tJ
namespace nh
abbrev A:=(List Byt)×Int×Int×Unit
abbrev O:=tF×Bool×Unit
noncomputable def D:FD:={ fn:=f232,tl:=bc,ps:=[(.ro,(.aa (.aa u8))),(.ro,i64),(.ro,i64)],rs:=[(sq,(an sq)),(.bool,(an .bool))],gl:=[(65,cj.D.sig),(230,mw.D.sig),(231,j_.D.sig),(289,tJ.D.sig)] }
def ae (a:A):Option O:=@lift O λk=>D.W k a
def p (a1:A):Option O:=(cj.ae (a1.2.1,0,ag ((a1.1.length:Int) - 1),())).bind λr2=>cond (!r2.1) (some ((0,0,0,0,(0,0,0,([]:Byt),()),()),false,()))<|if 0<=a1.2.1 then ((a1.1[a1.2.1.toNat]?).bind λx3=>(tJ.ae (x3,a1.2.2.1,())).bind λr4=>cond (!r4.1) (some ((0,0,0,0,(0,0,0,([]:Byt),()),()),false,()))<|if 0<=a1.2.1 then ((a1.1[a1.2.1.toNat]?).bind λx5=>(j_.ae (x5,a1.2.2.1,())).bind λr6=>(mw.ae (r6.1,())).bind λr7=>some (r7.1,r7.2.1,())) else none) else none
theorem af (a1:A):@Eq (Option O) (D.W k a1) (p a1):=Bye
theorem ok:Ok prog 232 D.sig:=ap func232 az Bye (fc cj.ok (fc mw.ok (fc j_.ok (fc tJ.ok (ak _)))))
end nh
namespace d_
abbrev A:=(List a7)×(List Byt)×Unit
abbrev O:=Int×Unit
abbrev P:=Option O
noncomputable def D:FD:={ fn:=f148,tl:=bc,ps:=[(.ro,(.aa ip)),(.ro,(.aa (.aa u8)))],rs:=[(i64,(an i64))],gl:=[(232,nh.D.sig)],lv:=[(2,[0,1,5]),(9,[0,8]),(12,[0,8,9])],lx:=[(0,[0]),(1,[0,1,5]),(2,[]),(4,[0,8])],od:=[(5,[0,1,2,3,4,5,6,7,8,9,10,11,12,13,14,15,16,17,18,19]),(16,[0,1,2,3,4,5,6,7,8,9,10,11,12,13,14,15,16,17,18,19,20,21,22,23,24,25,26,27,28,29,30,31,32,33])],ar:=[(5,[6,12])],pd:=[(5,[17])] }
def ae (a:A):P:=@lift O λk=>D.W k a
def T0 (a1:A) (U:Int):St:={ n:=102,sl:=[(0,.val (.aa ip) a1.1),(1,.val (.aa (.aa u8)) a1.2.1),(5,.val i64 U)],vr:=[],aT:=[] }
def S0 (rec:RT O) (a1:A):(Int)->P:=λU=>rec (T0 a1 U)
def c_ (K:KT O) (a1:A):(Unit)->P:=λz=>K (.exit 0) ({ n:=102,sl:=[(0,.val (.aa ip) a1.1)],vr:=[],aT:=[] })
def b0 (self:Int->P) (e0:(Unit)->P) (a1:A) (U:Int):P:=cond (decide (U < (a1.1.length:Int))) (if 0<=U then ((a1.1[U.toNat]?).bind λa8=>cond (!decide (a8.2.2.1.2.1=1)) (self (ag (U+1)))<|if 0<=U then ((a1.1[U.toNat]?).bind λgf=>if 0<=U then ((a1.1[U.toNat]?).bind λd6=>(nh.ae (a1.2.1,gf.2.2.1.2.2.1,d6.2.2.1.2.2.2.1,())).bind λiQ=>cond (!iQ.2.1) (some (4,()))<|cond (!decide (iQ.1.2.1=2)) (some (4,()))<|self (ag (U+1))) else none) else none) else none)<|e0 ()
theorem lh (rec:RT O) (K:KT O) (a1:A) (U:Int):D.N k [1,0,1,0,0] (T0 a1 U) (iX rec (ge [0,1,5] []) K)=b0 (S0 rec a1) (c_ K a1) a1 U:=Bye
def T1 (a1:A) (dw:(List a7)×Int):St:={ n:=102,sl:=[(0,.val (.aa ip) dw.1),(8,.val i64 dw.2)],vr:=[],aT:=[] }
def S1 (rec:RT O) (a1:A):((List a7)×Int)->P:=λdw=>rec (T1 a1 dw)
def jM (K:KT O) (a1:A):(Unit)->P:=λz=>K (.exit 2) ({ n:=102,sl:=[],vr:=[],aT:=[] })
def T2 (a1:A) (o5:List a7) (jS:Int) (w8:Int):St:={ n:=102,sl:=[(0,.val (.aa ip) o5),(8,.val i64 jS),(9,.val i64 w8)],vr:=[],aT:=[] }
def b2 (self:Int->P) (e4:(Unit)->P) (a1:A) (o5:List a7) (jS:Int) (w8:Int):P:=cond (decide (w8 < jS)) (if 0<=jS then ((o5[jS.toNat]?).bind λUV=>if 0<=w8 then ((o5[w8.toNat]?).bind λFg=>cond (decide (UV.2.2.1.2.1=1)) (cond (decide (Fg.2.2.1.2.1=1)) (cond (decide (UV.2.2.1.2.2.1=Fg.2.2.1.2.2.1)) (cond (decide (UV.2.2.1.2.2.2.1=Fg.2.2.1.2.2.2.1)) (some (6,()))<|self (ag (w8+1)))<|self (ag (w8+1)))<|self (ag (w8+1)))<|self (ag (w8+1))) else none) else none)<|e4 ()
def q1 (self:((List a7)×Int)->P) (e2:(Unit)->P) (a1:A) (o5:List a7) (jS:Int) (afA:(Unit)):P:=self (o5,ag (jS+1))
def s2 (rec:RT O) (K:KT O) (a1:A):(List a7)->Int->(Int)->P:=λo5 jS=>λw8=>D.L k [1,1,0,1,0,0,1,0,0,1,0,0] [0,8,9] [] (ai 4 (ai 3 (ay (D.N k [1,1,0,1,0,0,1,1]) (iX rec (ge [0,8] []) K)))) (T2 a1 o5 jS w8)
def r2 (self:((List a7)×Int)->P) (e2:(Unit)->P) (a1:A):(List a7)->Int->(Int)->P:=λo5 jS=>am (λw v=>b2 w (q1 self e2 a1 o5 jS) a1 o5 jS v) k
theorem tI (rec:RT O) (K:KT O) (a1:A):s2 k rec K a1=r2 k (S1 rec a1) (jM K a1) a1:=
 funext λo5=>funext λjS=>funext λw8=>av _ _ _ (T2 a1 o5 jS) _ (λrec v=>Bye) k w8
def b1 (self:((List a7)×Int)->P) (e2:(Unit)->P) (l2:(List a7)->Int->(Int)->P) (a1:A) (dw:(List a7)×Int):P:=cond (decide (dw.2 < (dw.1.length:Int))) (l2 dw.1 dw.2 0)<|e2 ()
def B1 (self:((List a7)×Int)->P) (e2:(Unit)->P) (a1:A) (dw:(List a7)×Int):P:=b1 self e2 (r2 k self e2 a1) a1 dw
theorem vd (rec:RT O) (K:KT O) (a1:A) (dw:(List a7)×Int):D.N k [1,1,0,1,0,0] (T1 a1 dw) (iX rec (ge [0,8] []) K)=B1 k (S1 rec a1) (jM K a1) a1 dw:=
 aL (b:=b1 (S1 rec a1) (jM K a1) (s2 k rec K a1) a1 dw) Bye (by rw[tI];rfl)
def q2 (a1:A) (Ig:(Unit)):P:=some (0,())
theorem w7 (a1:A) (Ig:(Unit)):jM (ai 2 (ay (D.N k [1,1,1]) D.K0)) a1 Ig=q2 a1 Ig:=Bye
def s1 (a1:A):((List a7)×Int)->P:=λdw=>D.L k [1,1,0,1,0,0] [0,8] [] (ai 2 (ay (D.N k [1,1,1]) D.K0)) (T1 a1 dw)
def r1 (a1:A):((List a7)×Int)->P:=am (λw v=>B1 k w (q2 a1) a1 v) k
theorem li (a1:A):s1 k a1=r1 k a1:=by
 funext dw;have h2:jM (ai 2 (ay (D.N k [1,1,1]) D.K0)) a1=q2 a1:=funext λz=>w7 k a1 z;refine (av _ _ _ (T1 a1) (λself v=>B1 k self (jM (ai 2 (ay (D.N k [1,1,1]) D.K0)) a1) a1 v) (λrec v=>vd k rec (ai 2 (ay (D.N k [1,1,1]) D.K0)) a1 v) k dw).trans ?_;rw[h2];rfl
def q0 (l1:((List a7)×Int)->P) (a1:A) (lI:(Unit)):P:=l1 (a1.1,0)
def Q0 (a1:A) (lI:(Unit)):P:=q0 (r1 k a1) a1 lI
theorem sa (a1:A) (lI:(Unit)):c_ (ai 0 (ay (D.N k [1,1]) D.K0)) a1 lI=Q0 k a1 lI:=
 aL (b:=q0 (s1 k a1) a1 lI) Bye (by rw[li];rfl)
def s0 (a1:A):(Int)->P:=λU=>D.L k [1,0,1,0,0] [0,1,5] [] (ai 0 (ay (D.N k [1,1]) D.K0)) (T0 a1 U)
def r0 (a1:A):(Int)->P:=am (λw v=>b0 w (Q0 k a1) a1 v) k
theorem aw (a1:A):s0 k a1=r0 k a1:=by
 funext U;have h0:c_ (ai 0 (ay (D.N k [1,1]) D.K0)) a1=Q0 k a1:=funext λz=>sa k a1 z;refine (av _ _ _ (T0 a1) (λself v=>b0 self (c_ (ai 0 (ay (D.N k [1,1]) D.K0)) a1) a1 v) (λrec v=>lh k rec (ai 0 (ay (D.N k [1,1]) D.K0)) a1 v) k U).trans ?_;rw[h0];rfl
def p (l0:(Int)->P) (a1:A):P:=l0 0
theorem af (a1:A):@Eq P (D.W k a1) (p (r0 k a1) a1):=
 aL (b:=p (s0 k a1) a1) Bye (by rw[aw])
theorem ok:Ok prog 148 D.sig:=ap func148 az Bye (fc nh.ok (ak _))
end d_
namespace fy
abbrev A:=(List Byt)×Unit
abbrev O:=(List a7)×Unit
abbrev P:=Option O
noncomputable def D:FD:={ fn:=f149,tl:=bc,ps:=[(.ro,(.aa (.aa u8)))],rs:=[((.aa ip),(aj (.aa ip)))],gl:=[(228,db.D.sig),(229,b_.D.sig),(230,mw.D.sig),(231,j_.D.sig)],lv:=[(3,[0,3,4]),(6,[0,3,4,5])],lx:=[(0,[3]),(2,[0,3,4])] }
def ae (a:A):P:=@lift O λk=>D.W k a
def T0 (a1:A) (U:(List Byt)×(List a7)×Int):St:={ n:=49,sl:=[(0,.val (.aa (.aa u8)) U.1),(3,.own (.aa ip) (aj (.aa ip)) [] U.2.1),(4,.val i64 U.2.2)],vr:=[],aT:=[] }
def S0 (rec:RT O) (a1:A):((List Byt)×(List a7)×Int)->P:=λU=>rec (T0 a1 U)
def c_ (K:KT O) (a1:A):(List a7)->P:=λz=>K (.exit 0) ({ n:=49,sl:=[(3,.own (.aa ip) (aj (.aa ip)) [] z)],vr:=[],aT:=[] })
def T1 (a1:A) (nc:List Byt) (kJ:Int) (nz:(List a7)×Int):St:={ n:=49,sl:=[(0,.val (.aa (.aa u8)) nc),(3,.own (.aa ip) (aj (.aa ip)) [] nz.1),(4,.val i64 kJ),(5,.val i64 nz.2)],vr:=[],aT:=[] }
def b1 (self:((List a7)×Int)->P) (e2:(List a7)->P) (a1:A) (nc:List Byt) (kJ:Int) (nz:(List a7)×Int):P:=if 0<=kJ then ((nc[kJ.toNat]?).bind λUW=>(db.ae (UW,())).bind λadI=>cond (decide (nz.2 < adI.1)) (if 0<=kJ then ((nc[kJ.toNat]?).bind λKU=>(b_.ae (KU,nz.2,())).bind λUU=>cond (decide (0 < UU.1)) (if 0<=kJ then ((nc[kJ.toNat]?).bind λFf=>(j_.ae (Ff,nz.2,())).bind λKV=>(mw.ae (KV.1,())).bind λN9=>if nz.1.length+[(kJ,nz.2,N9.1,())].length<=b9 then (let UX:=nz.1++[(kJ,nz.2,N9.1,())];self (UX,ag (nz.2+1))) else none) else none)<|self (nz.1,ag (nz.2+1))) else none)<|e2 nz.1) else none
def q0 (self:((List Byt)×(List a7)×Int)->P) (e0:(List a7)->P) (a1:A) (nc:List Byt) (kJ:Int) (Fh:(List a7)):P:=self (nc,Fh,ag (kJ+1))
def s1 (rec:RT O) (K:KT O) (a1:A):(List Byt)->Int->((List a7)×Int)->P:=λnc kJ=>λnz=>D.L k [1,1,0,1,0,0,1,0,0,1,0,0] [0,3,4,5] [] (ai 2 (ai 1 (ay (D.N k [1,1,0,1,0,0,1,1]) (iX rec (ge [0,3,4] []) K)))) (T1 a1 nc kJ nz)
def r1 (self:((List Byt)×(List a7)×Int)->P) (e0:(List a7)->P) (a1:A):(List Byt)->Int->((List a7)×Int)->P:=λnc kJ=>am (λw v=>b1 w (q0 self e0 a1 nc kJ) a1 nc kJ v) k
theorem li (rec:RT O) (K:KT O) (a1:A):s1 k rec K a1=r1 k (S0 rec a1) (c_ K a1) a1:=
 funext λnc=>funext λkJ=>funext λnz=>av _ _ _ (T1 a1 nc kJ) _ (λrec v=>Bye) k nz
def b0 (self:((List Byt)×(List a7)×Int)->P) (e0:(List a7)->P) (l1:(List Byt)->Int->((List a7)×Int)->P) (a1:A) (U:(List Byt)×(List a7)×Int):P:=cond (decide (U.2.2 < (U.1.length:Int))) (l1 U.1 U.2.2 (U.2.1,0))<|e0 U.2.1
def B0 (self:((List Byt)×(List a7)×Int)->P) (e0:(List a7)->P) (a1:A) (U:(List Byt)×(List a7)×Int):P:=b0 self e0 (r1 k self e0 a1) a1 U
theorem lh (rec:RT O) (K:KT O) (a1:A) (U:(List Byt)×(List a7)×Int):D.N k [1,1,0,1,0,0] (T0 a1 U) (iX rec (ge [0,3,4] []) K)=B0 k (S0 rec a1) (c_ K a1) a1 U:=
 aL (b:=b0 (S0 rec a1) (c_ K a1) (s1 k rec K a1) a1 U) Bye (by rw[li];rfl)
def q1 (a1:A) (BH:(List a7)):P:=some (BH,())
theorem sb (a1:A) (BH:(List a7)):c_ (ai 0 (ay (D.N k [1,1,1]) D.K0)) a1 BH=q1 a1 BH:=Bye
def s0 (a1:A):((List Byt)×(List a7)×Int)->P:=λU=>D.L k [1,1,0,1,0,0] [0,3,4] [] (ai 0 (ay (D.N k [1,1,1]) D.K0)) (T0 a1 U)
def r0 (a1:A):((List Byt)×(List a7)×Int)->P:=am (λw v=>B0 k w (q1 a1) a1 v) k
theorem aw (a1:A):s0 k a1=r0 k a1:=by
 funext U;have h0:c_ (ai 0 (ay (D.N k [1,1,1]) D.K0)) a1=q1 a1:=funext λz=>sb k a1 z;refine (av _ _ _ (T0 a1) (λself v=>B0 k self (c_ (ai 0 (ay (D.N k [1,1,1]) D.K0)) a1) a1 v) (λrec v=>lh k rec (ai 0 (ay (D.N k [1,1,1]) D.K0)) a1 v) k U).trans ?_;rw[h0];rfl
def p (l0:((List Byt)×(List a7)×Int)->P) (a1:A):P:=l0 (a1.1,([]:List a7),0)
theorem af (a1:A):@Eq P (D.W k a1) (p (r0 k a1) a1):=
 aL (b:=p (s0 k a1) a1) Bye (by rw[aw])
theorem ok:Ok prog 149 D.sig:=ap func149 az Bye (fc db.ok (fc b_.ok (fc mw.ok (fc j_.ok (ak _)))))
end fy
namespace jv
abbrev A:=(List Byt)×Unit
abbrev O:=(List a7)×Unit
abbrev P:=Option O
noncomputable def D:FD:={ fn:=f150,tl:=bc,ps:=[(.ro,(.aa (.aa u8)))],rs:=[((.aa ip),(aj (.aa ip)))],gl:=[(149,fy.D.sig),(232,nh.D.sig)],lv:=[(4,[0,3,4,5])],lx:=[(0,[3]),(1,[0,3,4,5])] }
def ae (a:A):P:=@lift O λk=>D.W k a
variable (a1:A)
def T0 (ef:List a7) (be:(List a7)×Int):St:={ n:=50,sl:=[(0,.val (.aa (.aa u8)) a1.1),(3,.own (.aa ip) (aj (.aa ip)) [] be.1),(4,.own (.aa ip) (aj (.aa ip)) [] ef),(5,.val i64 be.2)],vr:=[],aT:=[] }
def b0 (self:((List a7)×Int)->P) (e0:(List a7)->P) (a1:A) (ef:List a7) (be:(List a7)×Int):P:=cond (decide (be.2 < (ef.length:Int))) (if 0<=be.2/\be.2 < (ef.length:Int) then ((ef[be.2.toNat]?).bind λd6=>cond (decide (d6.2.2.1.2.1=2)) (self (be.1,ag (be.2+1)))<|let PJ:=λ(acU:a7)=>(if be.1.length+[acU].length<=b9 then (self (be.1++[acU],ag (be.2+1))) else none:P);cond (decide (d6.2.2.1.2.1=1)) ((nh.ae (a1.1,d6.2.2.1.2.2.1,d6.2.2.1.2.2.2.1,())).bind λiQ=>PJ (d6.1,d6.2.1,(d6.2.2.1.1,d6.2.2.1.2.1,d6.2.2.1.2.2.1,d6.2.2.1.2.2.2.1,iQ.1.2.2.2.2.1,d6.2.2.1.2.2.2.2.2),d6.2.2.2))<|PJ d6) else none)<|e0 be.1
def q0 (a1:A) (ef:List a7) (Zs:(List a7)):P:=some (Zs,())
def r0:(List a7)->((List a7)×Int)->P:=λef=>am (λw v=>b0 w (q0 a1 ef) a1 ef v) k
theorem aw:@Eq ((List a7)->((List a7)×Int)->P) (λef=>λbe=>D.L k [1,1,1,0,1,0,0] [0,3,4,5] [] (ai 0 (ay (D.N k [1,1,1,1]) D.K0)) (T0 a1 ef be)) (r0 k a1):=
 funext λef=>funext λbe=>av _ _ _ (T0 a1 ef) _ (λrec v=>Bye) k be
def p (l0:(List a7)->((List a7)×Int)->P) (a1:A):P:=(fy.ae (a1.1,())).bind λr2=>l0 r2.1 (([]:List a7),0)
theorem af:@Eq P (D.W k a1) (p (r0 k a1) a1):=By8 (aw k a1) Bye
theorem ok:Ok prog 150 D.sig:=ap func150 az Bye (fc fy.ok (fc nh.ok (ak _)))
end jv
namespace f0
abbrev A:=(List Byt)×Unit
abbrev O:=Int×Unit
abbrev P:=Option O
noncomputable def D:FD:={ fn:=f88,tl:=bc,ps:=[(.ro,(.aa (.aa u8)))],rs:=[(i64,(an i64))],gl:=[(147,ig.D.sig),(148,d_.D.sig),(149,fy.D.sig),(150,jv.D.sig)],lv:=[(11,[5,6]),(14,[5,6,7])],lx:=[(0,[]),(2,[5,6])],od:=[(16,[0,1,2,3,4,5,6,7,8,9,10,11,12,13,14,15,16,17,18,19,20,21,22,23,24,25,26,27,28,29,30,31])] }
def ae (a:A):P:=@lift O λk=>D.W k a
def T0 (a1:A) (ve:(List a7)×Int):St:={ n:=68,sl:=[(5,.own (.aa ip) (aj (.aa ip)) [] ve.1),(6,.val i64 ve.2)],vr:=[],aT:=[] }
def S0 (rec:RT O) (a1:A):((List a7)×Int)->P:=λve=>rec (T0 a1 ve)
def c_ (K:KT O) (a1:A):(Unit)->P:=λz=>K (.exit 0) ({ n:=68,sl:=[],vr:=[],aT:=[] })
def T1 (a1:A) (ek:List a7) (c8:Int) (vf:Int):St:={ n:=68,sl:=[(5,.own (.aa ip) (aj (.aa ip)) [] ek),(6,.val i64 c8),(7,.val i64 vf)],vr:=[],aT:=[] }
def b1 (self:Int->P) (e2:(Unit)->P) (a1:A) (ek:List a7) (c8:Int) (vf:Int):P:=cond (decide (vf < c8)) (if 0<=c8/\c8 < (ek.length:Int) then ((ek[c8.toNat]?).bind λFf=>if 0<=vf/\vf < (ek.length:Int) then ((ek[vf.toNat]?).bind λAr=>cond (decide (Ff.2.2.1.2.2.2.2.1.1=Ar.2.2.1.2.2.2.2.1.1)) (if 0<=c8/\c8 < (ek.length:Int) then ((ek[c8.toNat]?).bind λDz=>if 0<=vf/\vf < (ek.length:Int) then ((ek[vf.toNat]?).bind λwi=>cond (decide (Dz.2.2.1.2.2.2.2.1.2.1=wi.2.2.1.2.2.2.2.1.2.1)) (some (8,()))<|self (ag (vf+1))) else none) else none)<|self (ag (vf+1))) else none) else none)<|e2 ()
def q0 (self:((List a7)×Int)->P) (e0:(Unit)->P) (a1:A) (ek:List a7) (c8:Int) (Fh:(Unit)):P:=self (ek,ag (c8+1))
def s1 (rec:RT O) (K:KT O) (a1:A):(List a7)->Int->(Int)->P:=λek c8=>λvf=>D.L k [1,1,1,1,1,0,1,0,0,1,0,0,1,0,0] [5,6,7] [] (ai 2 (ai 1 (ay (D.N k [1,1,1,1,1,0,1,0,0,1,1]) (iX rec (ge [5,6] []) K)))) (T1 a1 ek c8 vf)
def r1 (self:((List a7)×Int)->P) (e0:(Unit)->P) (a1:A):(List a7)->Int->(Int)->P:=λek c8=>am (λw v=>b1 w (q0 self e0 a1 ek c8) a1 ek c8 v) k
theorem li (rec:RT O) (K:KT O) (a1:A):s1 k rec K a1=r1 k (S0 rec a1) (c_ K a1) a1:=
 funext λek=>funext λc8=>funext λvf=>av _ _ _ (T1 a1 ek c8) _ (λrec v=>Bye) k vf
def b0 (self:((List a7)×Int)->P) (e0:(Unit)->P) (l1:(List a7)->Int->(Int)->P) (a1:A) (ve:(List a7)×Int):P:=cond (decide (ve.2 < (ve.1.length:Int))) (l1 ve.1 ve.2 0)<|e0 ()
def B0 (self:((List a7)×Int)->P) (e0:(Unit)->P) (a1:A) (ve:(List a7)×Int):P:=b0 self e0 (r1 k self e0 a1) a1 ve
theorem lh (rec:RT O) (K:KT O) (a1:A) (ve:(List a7)×Int):D.N k [1,1,1,1,1,0,1,0,0] (T0 a1 ve) (iX rec (ge [5,6] []) K)=B0 k (S0 rec a1) (c_ K a1) a1 ve:=
 aL (b:=b0 (S0 rec a1) (c_ K a1) (s1 k rec K a1) a1 ve) Bye (by rw[li];rfl)
def q1 (a1:A) (BH:(Unit)):P:=some (0,())
theorem sb (a1:A) (BH:(Unit)):c_ (ai 0 (ay (D.N k [1,1,1,1,1,1]) D.K0)) a1 BH=q1 a1 BH:=Bye
def s0 (a1:A):((List a7)×Int)->P:=λve=>D.L k [1,1,1,1,1,0,1,0,0] [5,6] [] (ai 0 (ay (D.N k [1,1,1,1,1,1]) D.K0)) (T0 a1 ve)
def r0 (a1:A):((List a7)×Int)->P:=am (λw v=>B0 k w (q1 a1) a1 v) k
theorem aw (a1:A):s0 k a1=r0 k a1:=by
 funext ve;have h0:c_ (ai 0 (ay (D.N k [1,1,1,1,1,1]) D.K0)) a1=q1 a1:=funext λz=>sb k a1 z;refine (av _ _ _ (T0 a1) (λself v=>B0 k self (c_ (ai 0 (ay (D.N k [1,1,1,1,1,1]) D.K0)) a1) a1 v) (λrec v=>lh k rec (ai 0 (ay (D.N k [1,1,1,1,1,1]) D.K0)) a1 v) k ve).trans ?_;rw[h0];rfl
def p (l0:((List a7)×Int)->P) (a1:A):P:=cond (decide (12 < (a1.1.length:Int))) (some (2,()))<|(ig.ae (a1.1,())).bind λr2=>cond (!decide (r2.1=0)) (some (r2.1,()))<|(fy.ae (a1.1,())).bind λr3=>(d_.ae (r3.1,a1.1,())).bind λr4=>cond (!decide (r4.1=0)) (some (r4.1,()))<|(jv.ae (a1.1,())).bind λr5=>l0 (r5.1,0)
theorem af (a1:A):@Eq P (D.W k a1) (p (r0 k a1) a1):=
 aL (b:=p (s0 k a1) a1) Bye (by rw[aw])
theorem ok:Ok prog 88 D.sig:=ap func88 az Bye (fc ig.ok (fc d_.ok (fc fy.ok (fc jv.ok (ak _)))))
end f0
namespace n9
abbrev A:=Row×Row×Unit
abbrev O:=Bool×Unit
noncomputable def D:FD:={ fn:=f233,tl:=bc,ps:=[(.ro,(.ptr bd)),(.ro,(.ptr bd))],rs:=[(.bool,(an .bool))],od:=[(1,[0,1,2,3,4,5,6,7,8,9,10,11,12,13,14,15,16,17,18,19,20,21,22,23,24,25,26,27,28,29,30,31])] }
def ae (a:A):Option O:=@lift O λk=>D.W k a
def p (a1:A):Option O:=cond (decide (a1.1.1 < a1.2.1.1)) (some (true,()))<|cond (decide (a1.1.1=a1.2.1.1)) (some (decide (a1.1.2.1 < a1.2.1.2.1),()))<|some (false,())
theorem af (a1:A):@Eq (Option O) (D.W k a1) (p a1):=Bye
theorem ok:Ok prog 233 D.sig:=ap func233 az Bye (ak _)
end n9
namespace jD
abbrev A:=(List Row)×Row×Unit
abbrev O:=(List Row)×Unit
abbrev P:=Option O
noncomputable def D:FD:={ fn:=f151,tl:=bc,ps:=[(.ro,(.aa bd)),(.ro,bd)],rs:=[((.aa bd),(aj (.aa bd)))],gl:=[(233,n9.D.sig)],lv:=[(2,[0,3,5])],lx:=[(0,[0,3,5])],od:=[(5,[0,1,4,5,6,2,3,7,8])] }
def ae (a:A):P:=@lift O λk=>D.W k a
variable (a1:A)
def T0 (U:Int):St:={ n:=32,sl:=[(0,.val (.aa bd) a1.1),(3,.box bd (an bd) [] a1.2.1),(5,.val i64 U)],vr:=[],aT:=[] }
def b0 (self:Int->P) (e0:Int->P) (a1:A) (U:Int):P:=cond (decide (U < (a1.1.length:Int))) (if 0<=U then ((a1.1[U.toNat]?).bind λa8=>(n9.ae (a8,a1.2.1,())).bind λcx=>cond cx.1 (self (ag (U+1)))<|e0 U) else none)<|e0 U
def q0 (ez:Int):P:=if 0<=ez/\ez<=(a1.1.length:Int) then (if ([]:List Row).length+((a1.1.take ez.toNat).drop 0).length<=b9 then (let zf:=([]:List Row)++((a1.1.take ez.toNat).drop 0);if 0<=ez/\ez<=(a1.1.length:Int) then (if zf.length+[a1.2.1].length<=b9 then (if (zf++[a1.2.1]).length+((a1.1.take a1.1.length).drop ez.toNat).length<=b9 then (let Bj:=(zf++[a1.2.1])++((a1.1.take a1.1.length).drop ez.toNat);some (Bj,())) else none) else none) else none) else none) else none
def r0:(Int)->P:=am (λw v=>b0 w (q0 a1) a1 v) k
theorem aw:@Eq ((Int)->P) (λU=>D.L k [1,1,0,0,0] [0,3,5] [] (ai 0 (ay (D.N k [1,1,1]) D.K0)) (T0 a1 U)) (r0 k a1):=
 funext λU=>av _ _ _ (T0 a1) _ (λrec v=>Bye) k U
def p (l0:(Int)->P) (a1:A):P:=l0 0
theorem af:@Eq P (D.W k a1) (p (r0 k a1) a1):=By8 (aw k a1) Bye
theorem ok:Ok prog 151 D.sig:=ap func151 az Bye (fc n9.ok (ak _))
end jD
namespace jj
abbrev A:=(List Byt)×Unit
abbrev O:=(List Row)×Unit
abbrev P:=Option O
noncomputable def D:FD:={ fn:=f89,tl:=bc,ps:=[(.ro,(.aa (.aa u8)))],rs:=[((.aa bd),(aj (.aa bd)))],gl:=[(150,jv.D.sig),(151,jD.D.sig)],lv:=[(4,[3,4,5])],lx:=[(0,[3])] }
def ae (a:A):P:=@lift O λk=>D.W k a
variable (a1:A)
def T0 (a1:A) (ef:List a7) (be:(List Row)×Int):St:={ n:=24,sl:=[(3,.own (.aa bd) (aj (.aa bd)) [] be.1),(4,.own (.aa ip) (aj (.aa ip)) [] ef),(5,.val i64 be.2)],vr:=[],aT:=[] }
def b0 (self:((List Row)×Int)->P) (e0:(List Row)->P) (a1:A) (ef:List a7) (be:(List Row)×Int):P:=cond (decide (be.2 < (ef.length:Int))) (if 0<=be.2/\be.2 < (ef.length:Int) then ((ef[be.2.toNat]?).bind λd6=>(jD.ae (be.1,d6.2.2.1.2.2.2.2.1,())).bind λiQ=>self (iQ.1,ag (be.2+1))) else none)<|e0 be.1
def q0 (a1:A) (ef:List a7) (lI:(List Row)):P:=some (lI,())
def r0:(List a7)->((List Row)×Int)->P:=λef=>am (λw v=>b0 w (q0 a1 ef) a1 ef v) k
theorem aw:@Eq ((List a7)->((List Row)×Int)->P) (λef=>λbe=>D.L k [1,1,1,0,1,0,0] [3,4,5] [] (ai 0 (ay (D.N k [1,1,1,1]) D.K0)) (T0 a1 ef be)) (r0 k a1):=
 funext λef=>funext λbe=>av _ _ _ (T0 a1 ef) _ (λrec v=>Bye) k be
def p (l0:(List a7)->((List Row)×Int)->P) (a1:A):P:=(jv.ae (a1.1,())).bind λr2=>l0 r2.1 (([]:List Row),0)
theorem af:@Eq P (D.W k a1) (p (r0 k a1) a1):=By8 (aw k a1) Bye
theorem ok:Ok prog 89 D.sig:=ap func89 az Bye (fc jv.ok (fc jD.ok (ak _)))
end jj
namespace my
abbrev A:=(List Row)×Unit
abbrev O:=Int×Unit
abbrev P:=Option O
noncomputable def D:FD:={ fn:=f152,tl:=bc,ps:=[(.ro,(.aa bd))],rs:=[(i64,(an i64))],gl:=[(233,n9.D.sig),(234,jA.D.sig)],lv:=[(4,[0,3])],lx:=[(0,[])],od:=[(9,[0,1,2,3,4,5,6,7,8,9,10,11,12])] }
def ae (a:A):P:=@lift O λk=>D.W k a
variable (a1:A)
def T0 (U:Int):St:={ n:=34,sl:=[(0,.val (.aa bd) a1.1),(3,.val i64 U)],vr:=[],aT:=[] }
def b0 (self:Int->P) (e0:(Unit)->P) (a1:A) (U:Int):P:=cond (decide (U < (a1.1.length:Int))) (if 0<=U then ((a1.1[U.toNat]?).bind λa8=>(jA.ae (a8,())).bind λcx=>cond (!decide (cx.1=0)) (some (cx.1,()))<|cond (decide (0 < U)) (if 0<=ag (U - 1) then ((a1.1[(ag (U - (1:Int))).toNat]?).bind λd6=>if 0<=U then ((a1.1[U.toNat]?).bind λqJ=>(n9.ae (d6,qJ,())).bind λjq=>cond (!jq.1) (some (1,()))<|self (ag (U+1))) else none) else none)<|self (ag (U+1))) else none)<|e0 ()
def q0 (a1:A) (oC:(Unit)):P:=some (0,())
def r0:(Int)->P:=am (λw v=>b0 w (q0 a1) a1 v) k
theorem aw:@Eq ((Int)->P) (λU=>D.L k [1,1,0,1,0,0] [0,3] [] (ai 0 (ay (D.N k [1,1,1]) D.K0)) (T0 a1 U)) (r0 k a1):=
 funext λU=>av _ _ _ (T0 a1) _ (λrec v=>Bye) k U
def p (l0:(Int)->P) (a1:A):P:=cond (decide (60 < (a1.1.length:Int))) (some (2,()))<|l0 0
theorem af:@Eq P (D.W k a1) (p (r0 k a1) a1):=By8 (aw k a1) Bye
theorem ok:Ok prog 152 D.sig:=ap func152 az Bye (fc n9.ok (fc jA.ok (ak _)))
end my
namespace qg
abbrev A:=Change×Unit
abbrev O:=Int×Unit
noncomputable def D:FD:={ fn:=f203,tl:=bc,ps:=[(.ro,(.ptr aq))],rs:=[(i64,(an i64))],gl:=[(234,jA.D.sig)],od:=[(1,[0,1,2,3,4,5,6,7,8,9,10,11,12,13,14,15,16,17,18,19,20,21,22,23,24,25,26,27,28,29,30,31,32,33,34,35,36,37,38,39,40,41,42,43,44,45,46,47,48,49])] }
def ae (a:A):Option O:=@lift O λk=>D.W k a
def p (a1:A):Option O:=let j5:Option O:=cond a1.1.1 ((jA.ae (a1.1.2.1,())).bind λr6=>cond (!decide (r6.1=0)) (some (r6.1,()))<|cond a1.1.2.2.1 ((jA.ae (a1.1.2.2.2.1,())).bind λr8=>some (r8.1,()))<|some (0,()))<|cond a1.1.2.2.1 ((jA.ae (a1.1.2.2.2.1,())).bind λr9=>some (r9.1,()))<|some (0,());cond (!a1.1.1) (cond (!a1.1.2.2.1) (some (1,()))<|cond a1.1.1 (cond a1.1.2.2.1 (cond (!decide (a1.1.2.1.1=a1.1.2.2.2.1.1)) (some (1,()))<|cond (!decide (a1.1.2.1.2.1=a1.1.2.2.2.1.2.1)) (some (1,()))<|j5)<|j5)<|j5)<|cond a1.1.1 (cond a1.1.2.2.1 (cond (!decide (a1.1.2.1.1=a1.1.2.2.2.1.1)) (some (1,()))<|cond (!decide (a1.1.2.1.2.1=a1.1.2.2.2.1.2.1)) (some (1,()))<|j5)<|j5)<|j5
theorem af (a1:A):@Eq (Option O) (D.W k a1) (p a1):=Bye
theorem ok:Ok prog 203 D.sig:=ap func203 az Bye (fc jA.ok (ak _))
end qg
namespace kW
abbrev A:=Change×Unit
abbrev O:=Int×Unit
noncomputable def D:FD:={ fn:=f124,tl:=bc,ps:=[(.ro,(.ptr aq))],rs:=[(i64,(an i64))],gl:=[(203,qg.D.sig)],od:=[(4,[0,1,2,3,4,5,6,7,8,9,10,11,12,13,14,15,16,17,18,19,20])] }
def ae (a:A):Option O:=@lift O λk=>D.W k a
def p (a1:A):Option O:=(qg.ae (a1.1,())).bind λr2=>cond (!decide (r2.1=0)) (some (r2.1,()))<|cond a1.1.1 (cond a1.1.2.2.1 (cond (Ty.eq bd a1.1.2.1 a1.1.2.2.2.1) (some (1,()))<|some (0,()))<|some (0,()))<|some (0,())
theorem af (a1:A):@Eq (Option O) (D.W k a1) (p a1):=Bye
theorem ok:Ok prog 124 D.sig:=ap func124 az Bye (fc qg.ok (ak _))
end kW
namespace lj
abbrev A:=Change×Unit
abbrev O:=Int×Int×Unit
noncomputable def D:FD:={ fn:=f204,tl:=bc,ps:=[(.ro,(.ptr aq))],rs:=[(i64,(an i64)),(i64,(an i64))],od:=[(2,[0,1,2,3,4,5,6,7,8,9,10,11]),(3,[0,1,2,3,4,5,6,7,8,9,10,11])] }
def ae (a:A):Option O:=@lift O λk=>D.W k a
def p (a1:A):Option O:=cond a1.1.2.2.1 (some (a1.1.2.2.2.1.1,a1.1.2.2.2.1.2.1,()))<|some (a1.1.2.1.1,a1.1.2.1.2.1,())
theorem af (a1:A):@Eq (Option O) (D.W k a1) (p a1):=Bye
theorem ok:Ok prog 204 D.sig:=ap func204 az Bye (ak _)
end lj
namespace qh
abbrev A:=Change×Unit
abbrev O:=Key×Unit
noncomputable def D:FD:={ fn:=f250,tl:=bc,ps:=[(.ro,(.ptr aq))],rs:=[(bp,(an bp))],gl:=[(204,lj.D.sig)] }
def ae (a:A):Option O:=@lift O λk=>D.W k a
def p (a1:A):Option O:=(lj.ae (a1.1,())).bind λr2=>some ((r2.1,r2.2.1,()),())
theorem af (a1:A):@Eq (Option O) (D.W k a1) (p a1):=Bye
theorem ok:Ok prog 250 D.sig:=ap func250 az Bye (fc lj.ok (ak _))
end qh
namespace ko
abbrev A:=Tx×Key×Unit
abbrev O:=Bool×Unit
abbrev P:=Option O
noncomputable def D:FD:={ fn:=f251,tl:=bc,ps:=[(.ro,(.ptr df)),(.ro,bp)],rs:=[(.bool,(an .bool))],lv:=[(2,[0,3,5])],lx:=[(0,[])],od:=[(4,[0,1,2,3,4,5,6,7,8])] }
def ae (a:A):P:=@lift O λk=>D.W k a
variable (a1:A)
def T0 (U:Int):St:={ n:=24,sl:=[(0,.cp df a1.1),(3,.box bp (an bp) [] a1.2.1),(5,.val i64 U)],vr:=[],aT:=[] }
def b0 (self:Int->P) (e0:(Unit)->P) (a1:A) (U:Int):P:=cond (decide (U < (a1.1.2.2.2.1.length:Int))) (if 0<=U then ((a1.1.2.2.2.1[U.toNat]?).bind λa8=>cond (Ty.eq bp a8 a1.2.1) (some (true,()))<|self (ag (U+1))) else none)<|e0 ()
def q0 (a1:A) (mU:(Unit)):P:=some (false,())
def r0:(Int)->P:=am (λw v=>b0 w (q0 a1) a1 v) k
theorem aw:@Eq ((Int)->P) (λU=>D.L k [1,0,1,0,0] [0,3,5] [] (ai 0 (ay (D.N k [1,1]) D.K0)) (T0 a1 U)) (r0 k a1):=
 funext λU=>av _ _ _ (T0 a1) _ (λrec v=>Bye) k U
def p (l0:(Int)->P) (a1:A):P:=l0 0
theorem af:@Eq P (D.W k a1) (p (r0 k a1) a1):=By8 (aw k a1) Bye
theorem ok:Ok prog 251 D.sig:=ap func251 az Bye (ak _)
end ko
namespace mV
abbrev A:=Tx×Unit
abbrev O:=Int×Unit
abbrev P:=Option O
noncomputable def D:FD:={ fn:=f235,tl:=bc,ps:=[(.ro,(.ptr df))],rs:=[(i64,(an i64))],gl:=[(124,kW.D.sig),(250,qh.D.sig),(251,ko.D.sig)],lv:=[(2,[0,3])],lx:=[(0,[])] }
def ae (a:A):P:=@lift O λk=>D.W k a
variable (a1:A)
def T0 (U:Int):St:={ n:=34,sl:=[(0,.cp df a1.1),(3,.val i64 U)],vr:=[],aT:=[] }
def b0 (self:Int->P) (e0:(Unit)->P) (a1:A) (U:Int):P:=cond (decide (U < (a1.1.2.1.length:Int))) (if 0<=U then ((a1.1.2.1[U.toNat]?).bind λa8=>(kW.ae (a8,())).bind λcx=>cond (!decide (cx.1=0)) (some (cx.1,()))<|if 0<=U then ((a1.1.2.1[U.toNat]?).bind λd6=>(qh.ae (d6,())).bind λiQ=>(ko.ae (a1.1,iQ.1,())).bind λjq=>cond (!jq.1) (some (8,()))<|self (ag (U+1))) else none) else none)<|e0 ()
def q0 (a1:A) (oC:(Unit)):P:=some (0,())
def r0:(Int)->P:=am (λw v=>b0 w (q0 a1) a1 v) k
theorem aw:@Eq ((Int)->P) (λU=>D.L k [1,0,1,0,0] [0,3] [] (ai 0 (ay (D.N k [1,1]) D.K0)) (T0 a1 U)) (r0 k a1):=
 funext λU=>av _ _ _ (T0 a1) _ (λrec v=>Bye) k U
def p (l0:(Int)->P) (a1:A):P:=l0 0
theorem af:@Eq P (D.W k a1) (p (r0 k a1) a1):=By8 (aw k a1) Bye
theorem ok:Ok prog 235 D.sig:=ap func235 az Bye (fc kW.ok (fc qh.ok (fc ko.ok (ak _))))
end mV
namespace t_
abbrev A:=Key×Unit
abbrev O:=Bool×Unit
noncomputable def D:FD:={ fn:=f291,tl:=bc,ps:=[(.ro,(.ptr bp))],rs:=[(.bool,(an .bool))],gl:=[(65,cj.D.sig)] }
def ae (a:A):Option O:=@lift O λk=>D.W k a
def p (a1:A):Option O:=(cj.ae (a1.1.1,0,3,())).bind λr2=>cond r2.1 ((cj.ae (a1.1.2.1,1,99,())).bind λr3=>some (r3.1,()))<|some (false,())
theorem af (a1:A):@Eq (Option O) (D.W k a1) (p a1):=Bye
theorem ok:Ok prog 291 D.sig:=ap func291 az Bye (fc cj.ok (ak _))
end t_
namespace dx
abbrev A:=Tx×Unit
abbrev O:=Int×Unit
abbrev P:=Option O
noncomputable def D:FD:={ fn:=f236,tl:=bc,ps:=[(.ro,(.ptr df))],rs:=[(i64,(an i64))],gl:=[(65,cj.D.sig),(291,t_.D.sig)],lv:=[(4,[0,3]),(9,[0,4]),(14,[0,4,5])],lx:=[(0,[0]),(2,[]),(4,[0,4])],od:=[(6,[0,1,2,3,4,5,6,7,8,9,10,11,12,13,14,15,16,17,18,19,20,21,22,23,24,25,26,27,28,29,30,31,32,33,34,35]),(16,[0,1,2,3,4,5,6,7,8,9,10,11,12,13,14])],ar:=[(6,[3,6,10,21,24,28,32])] }
def ae (a:A):P:=@lift O λk=>D.W k a
def T0 (a1:A) (U:Int):St:={ n:=102,sl:=[(0,.cp df a1.1),(3,.val i64 U)],vr:=[],aT:=[] }
def S0 (rec:RT O) (a1:A):(Int)->P:=λU=>rec (T0 a1 U)
def c_ (K:KT O) (a1:A):(Unit)->P:=λz=>K (.exit 0) ({ n:=102,sl:=[(0,.cp df a1.1)],vr:=[],aT:=[] })
def b0 (self:Int->P) (e0:(Unit)->P) (a1:A) (U:Int):P:=cond (decide (U < (a1.1.2.2.1.length:Int))) (if 0<=U then ((a1.1.2.2.1[U.toNat]?).bind λa8=>(cj.ae (a8,0,(a1.1.2.1.length:Int),())).bind λcx=>cond (!cx.1) (some (3,()))<|cond (decide (0 < U)) (if 0<=U then ((a1.1.2.2.1[U.toNat]?).bind λd6=>if 0<=ag (U - 1) then ((a1.1.2.2.1[(ag (U - (1:Int))).toNat]?).bind λqJ=>cond (decide (d6 < qJ)) (some (3,()))<|self (ag (U+1))) else none) else none)<|self (ag (U+1))) else none)<|e0 ()
theorem lh (rec:RT O) (K:KT O) (a1:A) (U:Int):D.N k [1,1,0,1,0,0] (T0 a1 U) (iX rec (ge [0,3] []) K)=b0 (S0 rec a1) (c_ K a1) a1 U:=Bye
def T1 (a1:A) (dw:Tx×Int):St:={ n:=102,sl:=[(0,.cp df dw.1),(4,.val i64 dw.2)],vr:=[],aT:=[] }
def S1 (rec:RT O) (a1:A):(Tx×Int)->P:=λdw=>rec (T1 a1 dw)
def jM (K:KT O) (a1:A):(Unit)->P:=λz=>K (.exit 2) ({ n:=102,sl:=[],vr:=[],aT:=[] })
def T2 (a1:A) (iN:Tx) (fh:Int) (l8:Int):St:={ n:=102,sl:=[(0,.cp df iN),(4,.val i64 fh),(5,.val i64 l8)],vr:=[],aT:=[] }
def b2 (self:Int->P) (e4:(Unit)->P) (a1:A) (iN:Tx) (fh:Int) (l8:Int):P:=cond (decide (l8 < fh)) (if 0<=l8 then ((iN.2.2.2.1[l8.toNat]?).bind λUY=>if 0<=fh then ((iN.2.2.2.1[fh.toNat]?).bind λadJ=>cond (Ty.eq bp UY adJ) (some (6,()))<|self (ag (l8+1))) else none) else none)<|e4 ()
def q1 (self:(Tx×Int)->P) (e2:(Unit)->P) (a1:A) (iN:Tx) (fh:Int) (wZ:(Unit)):P:=self (iN,ag (fh+1))
def s2 (rec:RT O) (K:KT O) (a1:A):Tx->Int->(Int)->P:=λiN fh=>λl8=>D.L k [1,1,1,0,1,0,0,1,0,0,1,1,0,0] [0,4,5] [] (ai 4 (ai 3 (ay (D.N k [1,1,1,0,1,0,0,1,1]) (iX rec (ge [0,4] []) K)))) (T2 a1 iN fh l8)
def r2 (self:(Tx×Int)->P) (e2:(Unit)->P) (a1:A):Tx->Int->(Int)->P:=λiN fh=>am (λw v=>b2 w (q1 self e2 a1 iN fh) a1 iN fh v) k
theorem tI (rec:RT O) (K:KT O) (a1:A):s2 k rec K a1=r2 k (S1 rec a1) (jM K a1) a1:=
 funext λiN=>funext λfh=>funext λl8=>av _ _ _ (T2 a1 iN fh) _ (λrec v=>Bye) k l8
def b1 (self:(Tx×Int)->P) (e2:(Unit)->P) (l2:Tx->Int->(Int)->P) (a1:A) (dw:Tx×Int):P:=cond (decide (dw.2 < (dw.1.2.2.2.1.length:Int))) (if 0<=dw.2 then ((dw.1.2.2.2.1[dw.2.toNat]?).bind λIh=>(t_.ae (Ih,())).bind λBI=>cond (!BI.1) (some (3,()))<|l2 dw.1 dw.2 0) else none)<|e2 ()
def B1 (self:(Tx×Int)->P) (e2:(Unit)->P) (a1:A) (dw:Tx×Int):P:=b1 self e2 (r2 k self e2 a1) a1 dw
theorem vd (rec:RT O) (K:KT O) (a1:A) (dw:Tx×Int):D.N k [1,1,1,0,1,0,0] (T1 a1 dw) (iX rec (ge [0,4] []) K)=B1 k (S1 rec a1) (jM K a1) a1 dw:=
 aL (b:=b1 (S1 rec a1) (jM K a1) (s2 k rec K a1) a1 dw) Bye (by rw[tI];rfl)
def q2 (a1:A) (UZ:(Unit)):P:=some (0,())
theorem w7 (a1:A) (UZ:(Unit)):jM (ai 2 (ay (D.N k [1,1,1,1]) D.K0)) a1 UZ=q2 a1 UZ:=Bye
def s1 (a1:A):(Tx×Int)->P:=λdw=>D.L k [1,1,1,0,1,0,0] [0,4] [] (ai 2 (ay (D.N k [1,1,1,1]) D.K0)) (T1 a1 dw)
def r1 (a1:A):(Tx×Int)->P:=am (λw v=>B1 k w (q2 a1) a1 v) k
theorem li (a1:A):s1 k a1=r1 k a1:=by
 funext dw;have h2:jM (ai 2 (ay (D.N k [1,1,1,1]) D.K0)) a1=q2 a1:=funext λz=>w7 k a1 z;refine (av _ _ _ (T1 a1) (λself v=>B1 k self (jM (ai 2 (ay (D.N k [1,1,1,1]) D.K0)) a1) a1 v) (λrec v=>vd k rec (ai 2 (ay (D.N k [1,1,1,1]) D.K0)) a1 v) k dw).trans ?_;rw[h2];rfl
def q0 (l1:(Tx×Int)->P) (a1:A) (lI:(Unit)):P:=l1 (a1.1,0)
def Q0 (a1:A) (lI:(Unit)):P:=q0 (r1 k a1) a1 lI
theorem sa (a1:A) (lI:(Unit)):c_ (ai 0 (ay (D.N k [1,1,1]) D.K0)) a1 lI=Q0 k a1 lI:=
 aL (b:=q0 (s1 k a1) a1 lI) Bye (by rw[li];rfl)
def s0 (a1:A):(Int)->P:=λU=>D.L k [1,1,0,1,0,0] [0,3] [] (ai 0 (ay (D.N k [1,1,1]) D.K0)) (T0 a1 U)
def r0 (a1:A):(Int)->P:=am (λw v=>b0 w (Q0 k a1) a1 v) k
theorem aw (a1:A):s0 k a1=r0 k a1:=by
 funext U;have h0:c_ (ai 0 (ay (D.N k [1,1,1]) D.K0)) a1=Q0 k a1:=funext λz=>sa k a1 z;refine (av _ _ _ (T0 a1) (λself v=>b0 self (c_ (ai 0 (ay (D.N k [1,1,1]) D.K0)) a1) a1 v) (λrec v=>lh k rec (ai 0 (ay (D.N k [1,1,1]) D.K0)) a1 v) k U).trans ?_;rw[h0];rfl
def p (l0:(Int)->P) (a1:A):P:=cond (decide (8 < (a1.1.2.2.1.length:Int))) (some (2,()))<|cond (decide (12 < (a1.1.2.2.2.1.length:Int))) (some (2,()))<|l0 0
theorem af (a1:A):@Eq P (D.W k a1) (p (r0 k a1) a1):=
 aL (b:=p (s0 k a1) a1) Bye (by rw[aw])
theorem ok:Ok prog 236 D.sig:=ap func236 az Bye (fc cj.ok (fc t_.ok (ak _)))
end dx
namespace nQ
abbrev A:=(List Tx)×Key×Unit
abbrev O:=Int×Unit
abbrev P:=Option O
noncomputable def D:FD:={ fn:=f292,tl:=bc,ps:=[(.ro,(.aa df)),(.ro,bp)],rs:=[(i64,(an i64))],gl:=[(251,ko.D.sig)],lv:=[(2,[0,3,5])],lx:=[(0,[])],od:=[(4,[0,1,2,3,4])] }
def ae (a:A):P:=@lift O λk=>D.W k a
variable (a1:A)
def T0 (U:Int):St:={ n:=22,sl:=[(0,.val (.aa df) a1.1),(3,.box bp (an bp) [] a1.2.1),(5,.val i64 U)],vr:=[],aT:=[] }
def b0 (self:Int->P) (e0:(Unit)->P) (a1:A) (U:Int):P:=cond (decide (U < (a1.1.length:Int))) (if 0<=U then ((a1.1[U.toNat]?).bind λa8=>(ko.ae (a8,a1.2.1,())).bind λcx=>cond cx.1 (if 0<=U then ((a1.1[U.toNat]?).bind λd6=>some (d6.1,())) else none)<|self (ag (U+1))) else none)<|e0 ()
def q0 (a1:A) (pc:(Unit)):P:=some (0,())
def r0:(Int)->P:=am (λw v=>b0 w (q0 a1) a1 v) k
theorem aw:@Eq ((Int)->P) (λU=>D.L k [1,0,1,0,0] [0,3,5] [] (ai 0 (ay (D.N k [1,1]) D.K0)) (T0 a1 U)) (r0 k a1):=
 funext λU=>av _ _ _ (T0 a1) _ (λrec v=>Bye) k U
def p (l0:(Int)->P) (a1:A):P:=l0 0
theorem af:@Eq P (D.W k a1) (p (r0 k a1) a1):=By8 (aw k a1) Bye
theorem ok:Ok prog 292 D.sig:=ap func292 az Bye (fc ko.ok (ak _))
end nQ
namespace gj
abbrev A:=(List Tx)×Unit
abbrev O:=Bool×Unit
abbrev P:=Option O
noncomputable def D:FD:={ fn:=f237,tl:=bc,ps:=[(.ro,(.aa df))],rs:=[(.bool,(an .bool))],gl:=[(292,nQ.D.sig)],lv:=[(2,[0,3]),(5,[0,3,4])],lx:=[(0,[]),(2,[0,3])],od:=[(7,[0,1,2,3,4,5,6,7,8,10,11,12,13,14,9,15])] }
def ae (a:A):P:=@lift O λk=>D.W k a
def T0 (a1:A) (U:(List Tx)×Int):St:={ n:=37,sl:=[(0,.val (.aa df) U.1),(3,.val i64 U.2)],vr:=[],aT:=[] }
def S0 (rec:RT O) (a1:A):((List Tx)×Int)->P:=λU=>rec (T0 a1 U)
def c_ (K:KT O) (a1:A):(Unit)->P:=λz=>K (.exit 0) ({ n:=37,sl:=[],vr:=[],aT:=[] })
def T1 (a1:A) (nc:List Tx) (kJ:Int) (nz:Int):St:={ n:=37,sl:=[(0,.val (.aa df) nc),(3,.val i64 kJ),(4,.val i64 nz)],vr:=[],aT:=[] }
def b1 (self:Int->P) (e2:(Unit)->P) (a1:A) (nc:List Tx) (kJ:Int) (nz:Int):P:=if 0<=kJ then ((nc[kJ.toNat]?).bind λUW=>cond (decide (nz < (UW.2.2.2.1.length:Int))) (if 0<=kJ then ((nc[kJ.toNat]?).bind λFl=>if 0<=nz then ((Fl.2.2.2.1[nz.toNat]?).bind λKU=>if 0<=kJ then ((nc[kJ.toNat]?).bind λIh=>(nQ.ae (nc,KU,())).bind λBI=>cond (!decide (BI.1=Ih.1)) (some (false,()))<|self (ag (nz+1))) else none) else none) else none)<|e2 ()) else none
def q0 (self:((List Tx)×Int)->P) (e0:(Unit)->P) (a1:A) (nc:List Tx) (kJ:Int) (Fm:(Unit)):P:=self (nc,ag (kJ+1))
def s1 (rec:RT O) (K:KT O) (a1:A):(List Tx)->Int->(Int)->P:=λnc kJ=>λnz=>D.L k [1,0,1,0,0,1,0,0,1,0,0] [0,3,4] [] (ai 2 (ai 1 (ay (D.N k [1,0,1,0,0,1,1]) (iX rec (ge [0,3] []) K)))) (T1 a1 nc kJ nz)
def r1 (self:((List Tx)×Int)->P) (e0:(Unit)->P) (a1:A):(List Tx)->Int->(Int)->P:=λnc kJ=>am (λw v=>b1 w (q0 self e0 a1 nc kJ) a1 nc kJ v) k
theorem li (rec:RT O) (K:KT O) (a1:A):s1 k rec K a1=r1 k (S0 rec a1) (c_ K a1) a1:=
 funext λnc=>funext λkJ=>funext λnz=>av _ _ _ (T1 a1 nc kJ) _ (λrec v=>Bye) k nz
def b0 (self:((List Tx)×Int)->P) (e0:(Unit)->P) (l1:(List Tx)->Int->(Int)->P) (a1:A) (U:(List Tx)×Int):P:=cond (decide (U.2 < (U.1.length:Int))) (l1 U.1 U.2 0)<|e0 ()
def B0 (self:((List Tx)×Int)->P) (e0:(Unit)->P) (a1:A) (U:(List Tx)×Int):P:=b0 self e0 (r1 k self e0 a1) a1 U
theorem lh (rec:RT O) (K:KT O) (a1:A) (U:(List Tx)×Int):D.N k [1,0,1,0,0] (T0 a1 U) (iX rec (ge [0,3] []) K)=B0 k (S0 rec a1) (c_ K a1) a1 U:=
 aL (b:=b0 (S0 rec a1) (c_ K a1) (s1 k rec K a1) a1 U) Bye (by rw[li];rfl)
def q1 (a1:A) (w9:(Unit)):P:=some (true,())
theorem sb (a1:A) (w9:(Unit)):c_ (ai 0 (ay (D.N k [1,1]) D.K0)) a1 w9=q1 a1 w9:=Bye
def s0 (a1:A):((List Tx)×Int)->P:=λU=>D.L k [1,0,1,0,0] [0,3] [] (ai 0 (ay (D.N k [1,1]) D.K0)) (T0 a1 U)
def r0 (a1:A):((List Tx)×Int)->P:=am (λw v=>B0 k w (q1 a1) a1 v) k
theorem aw (a1:A):s0 k a1=r0 k a1:=by
 funext U;have h0:c_ (ai 0 (ay (D.N k [1,1]) D.K0)) a1=q1 a1:=funext λz=>sb k a1 z;refine (av _ _ _ (T0 a1) (λself v=>B0 k self (c_ (ai 0 (ay (D.N k [1,1]) D.K0)) a1) a1 v) (λrec v=>lh k rec (ai 0 (ay (D.N k [1,1]) D.K0)) a1 v) k U).trans ?_;rw[h0];rfl
def p (l0:((List Tx)×Int)->P) (a1:A):P:=l0 (a1.1,0)
theorem af (a1:A):@Eq P (D.W k a1) (p (r0 k a1) a1):=
 aL (b:=p (s0 k a1) a1) Bye (by rw[aw])
theorem ok:Ok prog 237 D.sig:=ap func237 az Bye (fc nQ.ok (ak _))
end gj
namespace mf
abbrev A:=(List Tx)×Unit
abbrev O:=Int×Unit
abbrev P:=Option O
noncomputable def D:FD:={ fn:=f238,tl:=bc,ps:=[(.ro,(.aa df))],rs:=[(i64,(an i64))],lv:=[(3,[0,3,4])],lx:=[(0,[3])] }
def ae (a:A):P:=@lift O λk=>D.W k a
variable (a1:A)
def T0 (U:Int×Int):St:={ n:=20,sl:=[(0,.val (.aa df) a1.1),(3,.val i64 U.1),(4,.val i64 U.2)],vr:=[],aT:=[] }
def b0 (self:(Int×Int)->P) (e0:Int->P) (a1:A) (U:Int×Int):P:=cond (decide (U.2 < (a1.1.length:Int))) (if 0<=U.2 then ((a1.1[U.2.toNat]?).bind λa8=>self (ag (U.1+(a8.2.1.length:Int)),ag (U.2+1))) else none)<|e0 U.1
def q0 (a1:A) (mU:Int):P:=some (mU,())
def r0:(Int×Int)->P:=am (λw v=>b0 w (q0 a1) a1 v) k
theorem aw:@Eq ((Int×Int)->P) (λU=>D.L k [1,1,0,1,0,0] [0,3,4] [] (ai 0 (ay (D.N k [1,1,1]) D.K0)) (T0 a1 U)) (r0 k a1):=
 funext λU=>av _ _ _ (T0 a1) _ (λrec v=>Bye) k U
def p (l0:(Int×Int)->P) (a1:A):P:=l0 (0,0)
theorem af:@Eq P (D.W k a1) (p (r0 k a1) a1):=By8 (aw k a1) Bye
theorem ok:Ok prog 238 D.sig:=ap func238 az Bye (ak _)
end mf
namespace kq
abbrev A:=(List Tx)×Unit
abbrev O:=Int×Unit
abbrev P:=Option O
noncomputable def D:FD:={ fn:=f153,tl:=bc,ps:=[(.ro,(.aa df))],rs:=[(i64,(an i64))],gl:=[(65,cj.D.sig),(235,mV.D.sig),(236,dx.D.sig),(237,gj.D.sig),(238,mf.D.sig)],lv:=[(4,[0,3])],lx:=[(0,[0])],od:=[(9,[0,1,2,3,4,5,6,7,8,9,10,11,12,13,14])] }
def ae (a:A):P:=@lift O λk=>D.W k a
variable (a1:A)
def T0 (U:Int):St:={ n:=56,sl:=[(0,.val (.aa df) a1.1),(3,.val i64 U)],vr:=[],aT:=[] }
def b0 (self:Int->P) (e0:(Unit)->P) (a1:A) (U:Int):P:=cond (decide (U < (a1.1.length:Int))) (if 0<=U then ((a1.1[U.toNat]?).bind λa8=>(cj.ae (a8.1,1,99,())).bind λcx=>cond (!cx.1) (some (3,()))<|let acV:P:=(mV.ae (a8,())).bind λwD=>cond (!decide (wD.1=0)) (some (wD.1,()))<|(dx.ae (a8,())).bind λzg=>cond (!decide (zg.1=0)) (some (zg.1,()))<|self (ag (U+1));cond (decide (0 < U)) (if 0<=ag (U - 1) then ((a1.1[(ag (U - (1:Int))).toNat]?).bind λd6=>cond (decide (a8.1<=d6.1)) (some (1,()))<|acV) else none)<|acV) else none)<|e0 ()
def q0 (Zq:(Unit)):P:=(gj.ae (a1.1,())).bind λCR=>cond (!CR.1) (some (7,()))<|(mf.ae (a1.1,())).bind λMk=>cond (decide (12 < Mk.1)) (some (2,()))<|some (0,())
def r0:(Int)->P:=am (λw v=>b0 w (q0 a1) a1 v) k
theorem aw:@Eq ((Int)->P) (λU=>D.L k [1,1,0,1,0,0] [0,3] [] (ai 0 (ay (D.N k [1,1,1]) D.K0)) (T0 a1 U)) (r0 k a1):=
 funext λU=>av _ _ _ (T0 a1) _ (λrec v=>Bye) k U
def p (l0:(Int)->P) (a1:A):P:=cond (decide (4 < (a1.1.length:Int))) (some (2,()))<|l0 0
theorem af:@Eq P (D.W k a1) (p (r0 k a1) a1):=By8 (aw k a1) Bye
theorem ok:Ok prog 153 D.sig:=ap func153 az Bye (fc cj.ok (fc mV.ok (fc dx.ok (fc gj.ok (fc mf.ok (ak _))))))
end kq
namespace cn
abbrev A:=(List Row)×(List Tx)×Key×Unit
abbrev O:=Int×Unit
abbrev P:=Option O
noncomputable def D:FD:={ fn:=f154,tl:=bc,ps:=[(.ro,(.aa bd)),(.ro,(.aa df)),(.ro,bp)],rs:=[(i64,(an i64))],lv:=[(3,[0,1,5,7,8]),(7,[1,5,7,9]),(14,[7,10,11]),(18,[7,10,11,12,13])],lx:=[(0,[1,5,7]),(2,[5,7]),(4,[10]),(6,[7,10,11,12])],od:=[(5,[0,1,2,3,4,5,6,7,8,9,10,11,12,13,14]),(20,[0,1,2,3,4,5,6,7,8,9])] }
def ae (a:A):P:=@lift O λk=>D.W k a
def T0 (a1:A) (U:(List Key)×Int):St:={ n:=82,sl:=[(0,.val (.aa bd) a1.1),(1,.val (.aa df) a1.2.1),(5,.box bp (an bp) [] a1.2.2.1),(7,.own (.aa bp) (aj (.aa bp)) [] U.1),(8,.val i64 U.2)],vr:=[],aT:=[] }
def S0 (rec:RT O) (a1:A):((List Key)×Int)->P:=λU=>rec (T0 a1 U)
def c_ (K:KT O) (a1:A):(List Key)->P:=λz=>K (.exit 0) ({ n:=82,sl:=[(1,.val (.aa df) a1.2.1),(5,.box bp (an bp) [] a1.2.2.1),(7,.own (.aa bp) (aj (.aa bp)) [] z)],vr:=[],aT:=[] })
def b0 (self:((List Key)×Int)->P) (e0:(List Key)->P) (a1:A) (U:(List Key)×Int):P:=cond (decide (U.2 < (a1.1.length:Int))) (if 0<=U.2 then ((a1.1[U.2.toNat]?).bind λa8=>if 0<=U.2 then ((a1.1[U.2.toNat]?).bind λgf=>if U.1.length+[(a8.1,gf.2.1,())].length<=b9 then (self (U.1++[(a8.1,gf.2.1,())],ag (U.2+1))) else none) else none) else none)<|e0 U.1
theorem lh (rec:RT O) (K:KT O) (a1:A) (U:(List Key)×Int):D.N k [1,1,0,1,0,0] (T0 a1 U) (iX rec (ge [0,1,5,7,8] []) K)=b0 (S0 rec a1) (c_ K a1) a1 U:=Bye
def T1 (a1:A) (f5:(List Key)×Int):St:={ n:=82,sl:=[(1,.val (.aa df) a1.2.1),(5,.box bp (an bp) [] a1.2.2.1),(7,.own (.aa bp) (aj (.aa bp)) [] f5.1),(9,.val i64 f5.2)],vr:=[],aT:=[] }
def S1 (rec:RT O) (a1:A):((List Key)×Int)->P:=λf5=>rec (T1 a1 f5)
def jM (K:KT O) (a1:A):(List Key)->P:=λz=>K (.exit 2) ({ n:=82,sl:=[(5,.box bp (an bp) [] a1.2.2.1),(7,.own (.aa bp) (aj (.aa bp)) [] z)],vr:=[],aT:=[] })
def b1 (self:((List Key)×Int)->P) (e2:(List Key)->P) (a1:A) (f5:(List Key)×Int):P:=cond (decide (f5.2 < (a1.2.1.length:Int))) (if 0<=f5.2 then ((a1.2.1[f5.2.toNat]?).bind λFl=>if f5.1.length+Fl.2.2.2.1.length<=b9 then (self (f5.1++Fl.2.2.2.1,ag (f5.2+1))) else none) else none)<|e2 f5.1
theorem vd (rec:RT O) (K:KT O) (a1:A) (f5:(List Key)×Int):D.N k [1,1,1,0,1,0,0] (T1 a1 f5) (iX rec (ge [1,5,7,9] []) K)=b1 (S1 rec a1) (jM K a1) a1 f5:=Bye
def T2 (a1:A) (qz:(List Key)×Int×Int):St:={ n:=82,sl:=[(7,.own (.aa bp) (aj (.aa bp)) [] qz.1),(10,.val i64 qz.2.1),(11,.val i64 qz.2.2)],vr:=[],aT:=[] }
def S2 (rec:RT O) (a1:A):((List Key)×Int×Int)->P:=λqz=>rec (T2 a1 qz)
def Ml (K:KT O) (a1:A):Int->P:=λz=>K (.exit 4) ({ n:=82,sl:=[(10,.val i64 z)],vr:=[],aT:=[] })
def T3 (a1:A) (ur:List Key) (xP:Int) (ut:Int) (vg:Bool×Int):St:={ n:=82,sl:=[(7,.own (.aa bp) (aj (.aa bp)) [] ur),(10,.val i64 xP),(11,.val i64 ut),(12,.val .bool vg.1),(13,.val i64 vg.2)],vr:=[],aT:=[] }
def b3 (self:(Bool×Int)->P) (e6:Bool->P) (a1:A) (ur:List Key) (xP:Int) (ut:Int) (vg:Bool×Int):P:=cond (decide (vg.2 < ut)) (cond vg.1 (if 0<=vg.2/\vg.2 < (ur.length:Int) then ((ur[vg.2.toNat]?).bind λadK=>if 0<=ut/\ut < (ur.length:Int) then ((ur[ut.toNat]?).bind λadL=>self (!(Ty.eq bp adK adL),ag (vg.2+1))) else none) else none)<|e6 vg.1)<|e6 vg.1
def q2 (self:((List Key)×Int×Int)->P) (e4:Int->P) (a1:A) (ur:List Key) (xP:Int) (ut:Int) (adM:Bool):P:=cond adM (self (ur,ag (xP+1),ag (ut+1)))<|self (ur,xP,ag (ut+1))
def s3 (rec:RT O) (K:KT O) (a1:A):(List Key)->Int->Int->(Bool×Int)->P:=λur xP ut=>λvg=>D.L k [1,1,1,1,1,1,0,1,0,0,1,0,0,1,0,1,0,0] [7,10,11,12,13] [] (ai 6 (ay (D.N k [1,1,1,1,1,1,0,1,0,0,1,0,0,1,1]) (ai 5 (ay (D.N k [1,1,1,1,1,1,0,1,0,0,1,1]) (iX rec (ge [7,10,11] []) K))))) (T3 a1 ur xP ut vg)
def r3 (self:((List Key)×Int×Int)->P) (e4:Int->P) (a1:A):(List Key)->Int->Int->(Bool×Int)->P:=λur xP ut=>am (λw v=>b3 w (q2 self e4 a1 ur xP ut) a1 ur xP ut v) k
theorem U0 (rec:RT O) (K:KT O) (a1:A):s3 k rec K a1=r3 k (S2 rec a1) (Ml K a1) a1:=
 funext λur=>funext λxP=>funext λut=>funext λvg=>av _ _ _ (T3 a1 ur xP ut) _ (λrec v=>Bye) k vg
def b2 (self:((List Key)×Int×Int)->P) (e4:Int->P) (l3:(List Key)->Int->Int->(Bool×Int)->P) (a1:A) (qz:(List Key)×Int×Int):P:=cond (decide (qz.2.2 < (qz.1.length:Int))) (l3 qz.1 qz.2.1 qz.2.2 (true,0))<|e4 qz.2.1
def B2 (self:((List Key)×Int×Int)->P) (e4:Int->P) (a1:A) (qz:(List Key)×Int×Int):P:=b2 self e4 (r3 k self e4 a1) a1 qz
theorem U1 (rec:RT O) (K:KT O) (a1:A) (qz:(List Key)×Int×Int):D.N k [1,1,1,1,1,1,0,1,0,0] (T2 a1 qz) (iX rec (ge [7,10,11] []) K)=B2 k (S2 rec a1) (Ml K a1) a1 qz:=
 aL (b:=b2 (S2 rec a1) (Ml K a1) (s3 k rec K a1) a1 qz) Bye (by rw[U0];rfl)
def q3 (a1:A) (N_:Int):P:=some (N_,())
theorem U2 (a1:A) (N_:Int):Ml (ai 4 (ay (D.N k [1,1,1,1,1,1,1]) D.K0)) a1 N_=q3 a1 N_:=Bye
def s2 (a1:A):((List Key)×Int×Int)->P:=λqz=>D.L k [1,1,1,1,1,1,0,1,0,0] [7,10,11] [] (ai 4 (ay (D.N k [1,1,1,1,1,1,1]) D.K0)) (T2 a1 qz)
def r2 (a1:A):((List Key)×Int×Int)->P:=am (λw v=>B2 k w (q3 a1) a1 v) k
theorem tI (a1:A):s2 k a1=r2 k a1:=by
 funext qz;have h4:Ml (ai 4 (ay (D.N k [1,1,1,1,1,1,1]) D.K0)) a1=q3 a1:=funext λz=>U2 k a1 z;refine (av _ _ _ (T2 a1) (λself v=>B2 k self (Ml (ai 4 (ay (D.N k [1,1,1,1,1,1,1]) D.K0)) a1) a1 v) (λrec v=>U1 k rec (ai 4 (ay (D.N k [1,1,1,1,1,1,1]) D.K0)) a1 v) k qz).trans ?_;rw[h4];rfl
def q1 (l2:((List Key)×Int×Int)->P) (a1:A) (BJ:(List Key)):P:=let aaN:=λ(adN:List Key)=>(l2 (adN,0,0):P);cond (!decide (a1.2.2.1.2.1=0)) (if BJ.length+[a1.2.2.1].length<=b9 then (aaN (BJ++[a1.2.2.1])) else none)<|aaN BJ
def Q1 (a1:A) (BJ:(List Key)):P:=q1 (r2 k a1) a1 BJ
theorem sb (a1:A) (BJ:(List Key)):jM (ai 2 (ay (D.N k [1,1,1,1]) D.K0)) a1 BJ=Q1 k a1 BJ:=
 aL (b:=q1 (s2 k a1) a1 BJ) Bye (by rw[tI];rfl)
def s1 (a1:A):((List Key)×Int)->P:=λf5=>D.L k [1,1,1,0,1,0,0] [1,5,7,9] [] (ai 2 (ay (D.N k [1,1,1,1]) D.K0)) (T1 a1 f5)
def r1 (a1:A):((List Key)×Int)->P:=am (λw v=>b1 w (Q1 k a1) a1 v) k
theorem li (a1:A):s1 k a1=r1 k a1:=by
 funext f5;have h2:jM (ai 2 (ay (D.N k [1,1,1,1]) D.K0)) a1=Q1 k a1:=funext λz=>sb k a1 z;refine (av _ _ _ (T1 a1) (λself v=>b1 self (jM (ai 2 (ay (D.N k [1,1,1,1]) D.K0)) a1) a1 v) (λrec v=>vd k rec (ai 2 (ay (D.N k [1,1,1,1]) D.K0)) a1 v) k f5).trans ?_;rw[h2];rfl
def q0 (l1:((List Key)×Int)->P) (a1:A) (ez:(List Key)):P:=l1 (ez,0)
def Q0 (a1:A) (ez:(List Key)):P:=q0 (r1 k a1) a1 ez
theorem sa (a1:A) (ez:(List Key)):c_ (ai 0 (ay (D.N k [1,1,1]) D.K0)) a1 ez=Q0 k a1 ez:=
 aL (b:=q0 (s1 k a1) a1 ez) Bye (by rw[li];rfl)
def s0 (a1:A):((List Key)×Int)->P:=λU=>D.L k [1,1,0,1,0,0] [0,1,5,7,8] [] (ai 0 (ay (D.N k [1,1,1]) D.K0)) (T0 a1 U)
def r0 (a1:A):((List Key)×Int)->P:=am (λw v=>b0 w (Q0 k a1) a1 v) k
theorem aw (a1:A):s0 k a1=r0 k a1:=by
 funext U;have h0:c_ (ai 0 (ay (D.N k [1,1,1]) D.K0)) a1=Q0 k a1:=funext λz=>sa k a1 z;refine (av _ _ _ (T0 a1) (λself v=>b0 self (c_ (ai 0 (ay (D.N k [1,1,1]) D.K0)) a1) a1 v) (λrec v=>lh k rec (ai 0 (ay (D.N k [1,1,1]) D.K0)) a1 v) k U).trans ?_;rw[h0];rfl
def p (l0:((List Key)×Int)->P) (a1:A):P:=l0 (([]:List Key),0)
theorem af (a1:A):@Eq P (D.W k a1) (p (r0 k a1) a1):=
 aL (b:=p (s0 k a1) a1) Bye (by rw[aw])
theorem ok:Ok prog 154 D.sig:=ap func154 az Bye (ak _)
end cn
namespace jo
abbrev A:=(List Change)×Unit
abbrev O:=(List Change)×Unit
abbrev P:=Option O
noncomputable def D:FD:={ fn:=f206,tl:=bc,ps:=[(.ro,(.aa aq))],rs:=[((.aa aq),(aj (.aa aq)))],lv:=[(3,[0,3,4])],lx:=[(0,[3])] }
def ae (a:A):P:=@lift O λk=>D.W k a
variable (a1:A)
def T0 (U:(List Change)×Int):St:={ n:=31,sl:=[(0,.val (.aa aq) a1.1),(3,.own (.aa aq) (aj (.aa aq)) [] U.1),(4,.val i64 U.2)],vr:=[],aT:=[] }
def b0 (self:((List Change)×Int)->P) (e0:(List Change)->P) (a1:A) (U:(List Change)×Int):P:=cond (decide (0<=U.2)) (if 0<=U.2 then ((a1.1[U.2.toNat]?).bind λa8=>if U.1.length+[(a8.2.2.1,a8.2.2.2.1,a8.1,a8.2.1,())].length<=b9 then (let rR:=U.1++[(a8.2.2.1,a8.2.2.2.1,a8.1,a8.2.1,())];self (rR,ag (U.2 - 1))) else none) else none)<|e0 U.1
def q0 (a1:A) (ez:(List Change)):P:=some (ez,())
def r0:((List Change)×Int)->P:=am (λw v=>b0 w (q0 a1) a1 v) k
theorem aw:@Eq (((List Change)×Int)->P) (λU=>D.L k [1,1,0,1,0,0] [0,3,4] [] (ai 0 (ay (D.N k [1,1,1]) D.K0)) (T0 a1 U)) (r0 k a1):=
 funext λU=>av _ _ _ (T0 a1) _ (λrec v=>Bye) k U
def p (l0:((List Change)×Int)->P) (a1:A):P:=l0 (([]:List Change),ag ((a1.1.length:Int) - 1))
theorem af:@Eq P (D.W k a1) (p (r0 k a1) a1):=By8 (aw k a1) Bye
theorem ok:Ok prog 206 D.sig:=ap func206 az Bye (ak _)
end jo
namespace lk
abbrev A:=(List Row)×Int×Int×Unit
abbrev O:=Int×Unit
abbrev P:=Option O
noncomputable def D:FD:={ fn:=f312,tl:=bc,ps:=[(.ro,(.aa bd)),(.ro,i64),(.ro,i64)],rs:=[(i64,(an i64))],lv:=[(2,[0,1,2,7])],lx:=[(0,[])] }
def ae (a:A):P:=@lift O λk=>D.W k a
variable (a1:A)
def T0 (U:Int):St:={ n:=31,sl:=[(0,.val (.aa bd) a1.1),(1,.val i64 a1.2.1),(2,.val i64 a1.2.2.1),(7,.val i64 U)],vr:=[],aT:=[] }
def b0 (self:Int->P) (e0:(Unit)->P) (a1:A) (U:Int):P:=cond (decide (U < (a1.1.length:Int))) (if 0<=U then ((a1.1[U.toNat]?).bind λa8=>cond (decide (a8.1=a1.2.1)) (if 0<=U then ((a1.1[U.toNat]?).bind λgf=>cond (decide (gf.2.1=a1.2.2.1)) (some (U,()))<|self (ag (U+1))) else none)<|self (ag (U+1))) else none)<|e0 ()
def q0 (a1:A) (ez:(Unit)):P:=some ((-1),())
def r0:(Int)->P:=am (λw v=>b0 w (q0 a1) a1 v) k
theorem aw:@Eq ((Int)->P) (λU=>D.L k [1,0,1,0,0] [0,1,2,7] [] (ai 0 (ay (D.N k [1,1]) D.K0)) (T0 a1 U)) (r0 k a1):=
 funext λU=>av _ _ _ (T0 a1) _ (λrec v=>Bye) k U
def p (l0:(Int)->P) (a1:A):P:=l0 0
theorem af:@Eq P (D.W k a1) (p (r0 k a1) a1):=By8 (aw k a1) Bye
theorem ok:Ok prog 312 D.sig:=ap func312 az Bye (ak _)
end lk
namespace pr
abbrev A:=(List Row)×Change×Unit
abbrev O:=(List Row)×Bool×Unit
abbrev P:=Option O
noncomputable def D:FD:={ fn:=f293,tl:=bc,ps:=[(.ro,(.aa bd)),(.ro,(.ptr aq))],rs:=[((.aa bd),(aj (.aa bd))),(.bool,(an .bool))],gl:=[(151,jD.D.sig),(204,lj.D.sig),(312,lk.D.sig)],lv:=[(7,[0,1,8,9,10])],lx:=[(0,[1,9])],od:=[(3,[0,1,2,3,4,5,6,7,8,9,10,11,12,13,14,15,16,17,18,19,20,21])] }
def ae (a:A):P:=@lift O λk=>D.W k a
variable (a1:A)
def T0 (ll:Int) (i_:(List Row)×Int):St:={ n:=70,sl:=[(0,.val (.aa bd) a1.1),(1,.cp aq a1.2.1),(8,.val i64 ll),(9,.own (.aa bd) (aj (.aa bd)) [] i_.1),(10,.val i64 i_.2)],vr:=[],aT:=[] }
def b0 (self:((List Row)×Int)->P) (e0:(List Row)->P) (a1:A) (ll:Int) (i_:(List Row)×Int):P:=cond (decide (i_.2 < (a1.1.length:Int))) (cond (!decide (i_.2=ll)) (if 0<=i_.2 then ((a1.1[i_.2.toNat]?).bind λDz=>if i_.1.length+[Dz].length<=b9 then (self (i_.1++[Dz],ag (i_.2+1))) else none) else none)<|self (i_.1,ag (i_.2+1)))<|e0 i_.1
def q0 (ll:Int) (aaO:(List Row)):P:=cond a1.2.1.2.2.1 ((jD.ae (aaO,a1.2.1.2.2.2.1,())).bind λDA=>some (DA.1,true,()))<|some (aaO,true,())
def r0:Int->((List Row)×Int)->P:=λll=>am (λw v=>b0 w (q0 a1 ll) a1 ll v) k
theorem aw:@Eq (Int->((List Row)×Int)->P) (λll=>λi_=>D.L k [1,1,1,1,1,0,1,0,0] [0,1,8,9,10] [] (ai 0 (ay (D.N k [1,1,1,1,1,1]) D.K0)) (T0 a1 ll i_)) (r0 k a1):=
 funext λll=>funext λi_=>av _ _ _ (T0 a1 ll) _ (λrec v=>Bye) k i_
def p (l0:Int->((List Row)×Int)->P) (a1:A):P:=(lj.ae (a1.2.1,())).bind λr2=>(lk.ae (a1.1,r2.1,r2.2.1,())).bind λr3=>let PJ:P:=l0 r3.1 (([]:List Row),0);cond (!(a1.2.1.1 == (decide (0<=r3.1)))) (some (([]:List Row),false,()))<|cond (decide (0<=r3.1)) (if 0<=r3.1 then ((a1.1[r3.1.toNat]?).bind λx4=>cond (!(Ty.eq bd x4 a1.2.1.2.1)) (some (([]:List Row),false,()))<|PJ) else none)<|PJ
theorem af:@Eq P (D.W k a1) (p (r0 k a1) a1):=By8 (aw k a1) Bye
theorem ok:Ok prog 293 D.sig:=ap func293 az Bye (fc jD.ok (fc lj.ok (fc lk.ok (ak _))))
end pr
namespace mi
abbrev A:=(List Row)×(List Change)×Unit
abbrev O:=(List Row)×Bool×Unit
abbrev P:=Option O
noncomputable def D:FD:={ fn:=f239,tl:=bc,ps:=[(.ro,(.aa bd)),(.ro,(.aa aq))],rs:=[((.aa bd),(an (.aa bd))),(.bool,(an .bool))],gl:=[(206,jo.D.sig),(293,pr.D.sig)],lv:=[(3,[0,6,7])],lx:=[(0,[0])],lf:=[(3,[(0,Byd)])] }
def ae (a:A):P:=@lift O λk=>D.W k a
variable (a1:A)
def T0 (a1:A) (ef:List Change) (be:(List Row)×Int):St:={ n:=30,sl:=[(0,.val (.aa bd) be.1),(6,.own (.aa aq) (aj (.aa aq)) [] ef),(7,.val i64 be.2)],vr:=[],aT:=[] }
def b0 (self:((List Row)×Int)->P) (e0:(List Row)->P) (a1:A) (ef:List Change) (be:(List Row)×Int):P:=cond (decide (be.2 < (ef.length:Int))) (if 0<=be.2/\be.2 < (ef.length:Int) then ((ef[be.2.toNat]?).bind λd6=>(pr.ae (be.1,d6,())).bind λiQ=>cond (!iQ.2.1) (some (([]:List Row),false,()))<|self (iQ.1,ag (be.2+1))) else none)<|e0 be.1
def q0 (a1:A) (ef:List Change) (lI:(List Row)):P:=some (lI,true,())
def r0:(List Change)->((List Row)×Int)->P:=λef=>am (λw v=>b0 w (q0 a1 ef) a1 ef v) k
theorem aw:@Eq ((List Change)->((List Row)×Int)->P) (λef=>λbe=>D.L k [1,1,0,1,0,0] [0,6,7] [(0,Byd)] (ai 0 (ay (D.N k [1,1,1]) D.K0)) (T0 a1 ef be)) (r0 k a1):=
 funext λef=>funext λbe=>av _ _ _ (T0 a1 ef) _ (λrec v=>Bye) k be
def p (l0:(List Change)->((List Row)×Int)->P) (a1:A):P:=(jo.ae (a1.2.1,())).bind λr2=>l0 r2.1 (a1.1,0)
theorem af:@Eq P (D.W k a1) (p (r0 k a1) a1):=By8 (aw k a1) Bye
theorem ok:Ok prog 239 D.sig:=ap func239 az Bye (fc jo.ok (fc pr.ok (ak _)))
end mi
namespace mj
abbrev A:=(List Row)×(List Tx)×Unit
abbrev O:=(List Row)×Bool×Unit
abbrev P:=Option O
noncomputable def D:FD:={ fn:=f155,tl:=bc,ps:=[(.ro,(.aa bd)),(.ro,(.aa df))],rs:=[((.aa bd),(an (.aa bd))),(.bool,(an .bool))],gl:=[(239,mi.D.sig)],lv:=[(3,[1,6,7])],lx:=[(0,[6])],lf:=[(3,[(6,Byd)])] }
def ae (a:A):P:=@lift O λk=>D.W k a
variable (a1:A)
def T0 (U:(List Row)×Int):St:={ n:=33,sl:=[(1,.val (.aa df) a1.2.1),(6,.val (.aa bd) U.1),(7,.val i64 U.2)],vr:=[],aT:=[] }
def b0 (self:((List Row)×Int)->P) (e0:(List Row)->P) (a1:A) (U:(List Row)×Int):P:=cond (decide (U.2 < (a1.2.1.length:Int))) (if 0<=U.2 then ((a1.2.1[U.2.toNat]?).bind λa8=>(mi.ae (U.1,a8.2.1,())).bind λcx=>cond (!cx.2.1) (some (([]:List Row),false,()))<|self (cx.1,ag (U.2+1))) else none)<|e0 U.1
def q0 (a1:A) (ez:(List Row)):P:=some (ez,true,())
def r0:((List Row)×Int)->P:=am (λw v=>b0 w (q0 a1) a1 v) k
theorem aw:@Eq (((List Row)×Int)->P) (λU=>D.L k [1,1,0,1,0,0] [1,6,7] [(6,Byd)] (ai 0 (ay (D.N k [1,1,1]) D.K0)) (T0 a1 U)) (r0 k a1):=
 funext λU=>av _ _ _ (T0 a1) _ (λrec v=>Bye) k U
def p (l0:((List Row)×Int)->P) (a1:A):P:=if ([]:List Row).length+a1.1.length<=b9 then (l0 (([]:List Row)++a1.1,0)) else none
theorem af:@Eq P (D.W k a1) (p (r0 k a1) a1):=By8 (aw k a1) Bye
theorem ok:Ok prog 155 D.sig:=ap func155 az Bye (fc mi.ok (ak _))
end mj
namespace qi
abbrev A:=Plain×Unit
abbrev O:=Int×Unit
noncomputable def D:FD:={ fn:=f90,tl:=bc,ps:=[(.ro,(.ptr Es))],rs:=[(i64,(an i64))],gl:=[(65,cj.D.sig),(152,my.D.sig),(153,kq.D.sig),(154,cn.D.sig),(155,mj.D.sig)],od:=[(8,[0,1,2,3,4,5,6,7,8,9,10,11,12,13,14,15,16,17,18,19,20,21,22,23,24,25]),(10,[0,1,2,3,4,5,6,7,8,9,10]),(12,[0,1,2,3,4,5,6,7,8,9,10,11,12,13])],ar:=[(8,[3,13,18,22])] }
def ae (a:A):Option O:=@lift O λk=>D.W k a
def p (a1:A):Option O:=(my.ae (a1.1.1,())).bind λr2=>cond (!decide (r2.1=0)) (some (r2.1,()))<|(kq.ae (a1.1.2.1,())).bind λr3=>cond (!decide (r3.1=0)) (some (r3.1,()))<|let j8:Option O:=(cn.ae (a1.1.1,a1.1.2.1,(0,0,()),())).bind λr9=>cond (decide (12 < r9.1)) (some (2,()))<|(mj.ae (a1.1.1,a1.1.2.1,())).bind λwE=>cond (!wE.2.1) (some (8,()))<|some (0,());(cj.ae (a1.1.2.2.1,1,100,())).bind λr4=>cond (!r4.1) (some (3,()))<|cond (decide (0 < (a1.1.2.1.length:Int))) (if 0<=ag ((a1.1.2.1.length:Int) - 1) then ((a1.1.2.1[(ag ((a1.1.2.1.length:Int) - (1:Int))).toNat]?).bind λx5=>cond (decide (a1.1.2.2.1<=x5.1)) (some (3,()))<|j8) else none)<|j8
theorem af (a1:A):@Eq (Option O) (D.W k a1) (p a1):=Bye
theorem ok:Ok prog 90 D.sig:=ap func90 az Bye (fc cj.ok (fc my.ok (fc kq.ok (fc cn.ok (fc mj.ok (ak _))))))
end qi
namespace iW
abbrev A:=(List Byt)×Unit
abbrev O:=(List Byt)×Unit
abbrev P:=Option O
noncomputable def D:FD:={ fn:=f126,tl:=bc,ps:=[(.ro,(.aa (.aa u8)))],rs:=[((.aa (.aa u8)),(aj (.aa (.aa u8))))],gl:=[(139,bY.D.sig)],lv:=[(3,[0,3,4])],lx:=[(0,[3])] }
def ae (a:A):P:=@lift O λk=>D.W k a
variable (a1:A)
def T0 (U:(List Byt)×Int):St:={ n:=21,sl:=[(0,.val (.aa (.aa u8)) a1.1),(3,.own (.aa (.aa u8)) (aj (.aa (.aa u8))) [] U.1),(4,.val i64 U.2)],vr:=[],aT:=[] }
def b0 (self:((List Byt)×Int)->P) (e0:(List Byt)->P) (a1:A) (U:(List Byt)×Int):P:=cond (decide (U.2 < (a1.1.length:Int))) (if 0<=U.2 then ((a1.1[U.2.toNat]?).bind λa8=>(bY.ae (a8,())).bind λcx=>if U.1.length+[cx.1].length<=b9 then (self (U.1++[cx.1],ag (U.2+1))) else none) else none)<|e0 U.1
def q0 (a1:A) (ez:(List Byt)):P:=some (ez,())
def r0:((List Byt)×Int)->P:=am (λw v=>b0 w (q0 a1) a1 v) k
theorem aw:@Eq (((List Byt)×Int)->P) (λU=>D.L k [1,1,0,1,0,0] [0,3,4] [] (ai 0 (ay (D.N k [1,1,1]) D.K0)) (T0 a1 U)) (r0 k a1):=
 funext λU=>av _ _ _ (T0 a1) _ (λrec v=>Bye) k U
def p (l0:((List Byt)×Int)->P) (a1:A):P:=l0 (([]:List Byt),0)
theorem af:@Eq P (D.W k a1) (p (r0 k a1) a1):=By8 (aw k a1) Bye
theorem ok:Ok prog 126 D.sig:=ap func126 az Bye (fc bY.ok (ak _))
end iW
namespace f8
abbrev A:=Int×Unit
abbrev O:=d7×Unit
noncomputable def D:FD:={ fn:=f240,tl:=bc,ps:=[(.ro,i64)],rs:=[(dv,(aj dv))] }
def ae (a:A):Option O:=@lift O λk=>D.W k a
def p (a1:A):Option O:=some ((a1.1,([]:List cq),([]:List Byt),()),())
theorem af (a1:A):@Eq (Option O) (D.W k a1) (p a1):=Bye
theorem ok:Ok prog 240 D.sig:=ap func240 az Bye (ak _)
end f8
namespace jT
abbrev A:=UInt8×Unit
abbrev O:=Byt×Unit
abbrev P:=Option O
noncomputable def D:FD:={ fn:=f241,tl:=bc,ps:=[(.ro,u8)],rs:=[((.aa u8),(aj (.aa u8)))],lv:=[(3,[0,3,4])],lx:=[(0,[3])] }
def ae (a:A):P:=@lift O λk=>D.W k a
variable (a1:A)
def T0 (U:Byt×Int):St:={ n:=19,sl:=[(0,.val u8 a1.1),(3,.own (.aa u8) (aj (.aa u8)) [] U.1),(4,.val i64 U.2)],vr:=[],aT:=[] }
def b0 (self:(Byt×Int)->P) (e0:Byt->P) (a1:A) (U:Byt×Int):P:=cond (decide (U.2 < 64)) (if 0<=U.2/\U.2 < (U.1.length:Int) then ((U.1[U.2.toNat]?).bind λa8=>self (U.1.set U.2.toNat a1.1,ag (U.2+1))) else none)<|e0 U.1
def q0 (a1:A) (mU:Byt):P:=if 0<=(0:Int)/\0 < (mU.length:Int) then ((mU[0]?).bind λd6=>if 0<=(1:Int)/\1 < ((mU.set 0 (0:UInt8)).length:Int) then (((mU.set 0 (0:UInt8))[1]?).bind λqJ=>let Bj:=(mU.set 0 (0:UInt8)).set 1 (64:UInt8);some (Bj,())) else none) else none
def r0:(Byt×Int)->P:=am (λw v=>b0 w (q0 a1) a1 v) k
theorem aw:@Eq ((Byt×Int)->P) (λU=>D.L k [1,1,0,1,0,0] [0,3,4] [] (ai 0 (ay (D.N k [1,1,1]) D.K0)) (T0 a1 U)) (r0 k a1):=
 funext λU=>av _ _ _ (T0 a1) _ (λrec v=>Bye) k U
def p (l0:(Byt×Int)->P) (a1:A):P:=if 0<=(64:Int)/\(64:Int)<=64/\64<=(b9:Int) then (l0 (List.replicate 64 (0:UInt8),0)) else none
theorem af:@Eq P (D.W k a1) (p (r0 k a1) a1):=By8 (aw k a1) Bye
theorem ok:Ok prog 241 D.sig:=ap func241 az Bye (ak _)
end jT
namespace lm
abbrev A:=Byt×(List cq)×Unit
abbrev O:=Byt×Unit
abbrev P:=Option O
noncomputable def D:FD:={ fn:=f242,tl:=bc,ps:=[(.ro,(.aa u8)),(.ro,(.aa oB))],rs:=[((.aa u8),(aj (.aa u8)))],gl:=[(139,bY.D.sig)],lv:=[(3,[1,5,6])],lx:=[(0,[5])],od:=[(5,[0,1,2,3,4,5,6,7,8,9,10,11,12])] }
def ae (a:A):P:=@lift O λk=>D.W k a
variable (a1:A)
def T0 (be:Byt×Int):St:={ n:=29,sl:=[(1,.val (.aa oB) a1.2.1),(5,.own (.aa u8) (aj (.aa u8)) [] be.1),(6,.val i64 be.2)],vr:=[],aT:=[] }
def b0 (self:(Byt×Int)->P) (e0:Byt->P) (a1:A) (be:Byt×Int):P:=cond (decide (be.2 < (a1.2.1.length:Int))) (if 0<=be.2 then ((a1.2.1[be.2.toNat]?).bind λgf=>if 0<=gf.1/\gf.1<=(be.1.length:Int) then (if 0<=be.2 then ((a1.2.1[be.2.toNat]?).bind λd6=>let zf:=pD be.1 gf.1.toNat (min d6.2.1.length (be.1.length - gf.1.toNat)) d6.2.1;self (zf,ag (be.2+1))) else none) else none) else none)<|e0 be.1
def q0 (a1:A) (lI:Byt):P:=some (lI,())
def r0:(Byt×Int)->P:=am (λw v=>b0 w (q0 a1) a1 v) k
theorem aw:@Eq ((Byt×Int)->P) (λbe=>D.L k [1,1,0,1,0,0] [1,5,6] [] (ai 0 (ay (D.N k [1,1,1]) D.K0)) (T0 a1 be)) (r0 k a1):=
 funext λbe=>av _ _ _ (T0 a1) _ (λrec v=>Bye) k be
def p (l0:(Byt×Int)->P) (a1:A):P:=(bY.ae (a1.1,())).bind λr2=>l0 (r2.1,0)
theorem af:@Eq P (D.W k a1) (p (r0 k a1) a1):=By8 (aw k a1) Bye
theorem ok:Ok prog 242 D.sig:=ap func242 az Bye (fc bY.ok (ak _))
end lm
namespace fj
abbrev A:=(List Byt)×bg×Unit
abbrev O:=d7×Unit
abbrev P:=Option O
noncomputable def D:FD:={ fn:=f156,tl:=bc,ps:=[(.ro,(.aa (.aa u8))),(.ro,du)],rs:=[(dv,(aj dv))],gl:=[(126,iW.D.sig),(136,lg.D.sig),(209,n8.D.sig),(240,f8.D.sig),(241,jT.D.sig),(242,lm.D.sig)],lv:=[(4,[0,3,4,5])],lx:=[(0,[0,3,4])],od:=[(20,[0,1,2,3,4,5,6]),(21,[0,1,2,3,4,5,6,7,8,9,10,11,12,13,14])] }
def ae (a:A):P:=@lift O λk=>D.W k a
variable (a1:A)
def T0 (be:Int):St:={ n:=75,sl:=[(0,.val (.aa (.aa u8)) a1.1),(3,.box du (an du) [] a1.2.1),(4,.box dv (aj dv) [] ((0:Int),([]:List cq),([]:List Byt),())),(5,.val i64 be)],vr:=[],aT:=[] }
def b0 (self:Int->P) (e0:(Unit)->P) (a1:A) (be:Int):P:=cond (decide (be < (a1.1.length:Int))) (if 0<=be then ((a1.1[be.toNat]?).bind λgf=>cond (!decide ((gf.length:Int)=64)) ((f8.ae (1,())).bind λky=>some (ky.1,()))<|self (ag (be+1))) else none)<|e0 ()
def q0 (pc:(Unit)):P:=(lg.ae (a1.2.1,())).bind λjq=>cond (!decide (jq.1=0)) ((f8.ae (jq.1,())).bind λqx=>some (qx.1,()))<|(iW.ae (a1.1,())).bind λwD=>(n8.ae (a1.2.1.1,())).bind λzg=>cond (!zg.1) (some ((0,([]:List cq),wD.1,()),()))<|cond (decide ((a1.1.length:Int) < a1.2.1.2.2.1)) ((f8.ae (1,())).bind λPK=>some (PK.1,()))<|cond (decide (a1.2.1.2.2.1=12)) ((f8.ae (2,())).bind λCR=>some (CR.1,()))<|let PL:=λ(Fo:d7)=>(if 0<=a1.2.1.2.2.1/\a1.2.1.2.2.1 < (Fo.2.2.1.length:Int) then ((Fo.2.2.1[a1.2.1.2.2.1.toNat]?).bind λFq=>(Fo.2.2.1[a1.2.1.2.2.1.toNat]?).bind λPN=>(lm.ae (PN,a1.2.1.2.2.2.1,())).bind λZt=>if 0<=a1.2.1.2.2.1/\a1.2.1.2.2.1 < (Fo.2.2.1.length:Int) then ((Fo.2.2.1[a1.2.1.2.2.1.toNat]?).bind λae_=>some ((Fo.1,Fo.2.1,Fo.2.2.1.set a1.2.1.2.2.1.toNat Zt.1,Fo.2.2.2),())) else none) else none:P);cond (decide (a1.2.1.2.2.1=(a1.1.length:Int))) ((jT.ae ((0:UInt8),())).bind λMk=>if wD.1.length+[Mk.1].length<=b9 then (PL (0,([]:List cq),wD.1++[Mk.1],())) else none)<|PL (0,([]:List cq),wD.1,())
def r0:(Int)->P:=am (λw v=>b0 w (q0 a1) a1 v) k
theorem aw:@Eq ((Int)->P) (λbe=>D.L k [1,1,0,1,0,0] [0,3,4,5] [] (ai 0 (ay (D.N k [1,1,1]) D.K0)) (T0 a1 be)) (r0 k a1):=
 funext λbe=>av _ _ _ (T0 a1) _ (λrec v=>Bye) k be
def p (l0:(Int)->P) (a1:A):P:=cond (decide (12 < (a1.1.length:Int))) ((f8.ae (2,())).bind λr2=>some (r2.1,()))<|l0 0
theorem af:@Eq P (D.W k a1) (p (r0 k a1) a1):=By8 (aw k a1) Bye
theorem ok:Ok prog 156 D.sig:=ap func156 az Bye (fc iW.ok (fc lg.ok (fc n8.ok (fc f8.ok (fc jT.ok (fc lm.ok (ak _)))))))
end fj
namespace nR
abbrev A:=(List bg)×Unit
abbrev O:=(List Byt)×Int×Unit
abbrev P:=Option O
noncomputable def D:FD:={ fn:=f91,tl:=bc,ps:=[(.ro,(.aa du))],rs:=[((.aa (.aa u8)),(aj (.aa (.aa u8)))),(i64,(an i64))],gl:=[(156,fj.D.sig)],lv:=[(3,[0,4,5])],lx:=[(0,[4])],od:=[(7,[0,1,2,3])] }
def ae (a:A):P:=@lift O λk=>D.W k a
variable (a1:A)
def T0 (U:(List Byt)×Int):St:={ n:=28,sl:=[(0,.val (.aa du) a1.1),(4,.own (.aa (.aa u8)) (aj (.aa (.aa u8))) [] U.1),(5,.val i64 U.2)],vr:=[],aT:=[] }
def b0 (self:((List Byt)×Int)->P) (e0:(List Byt)->P) (a1:A) (U:(List Byt)×Int):P:=cond (decide (U.2 < (a1.1.length:Int))) (if 0<=U.2 then ((a1.1[U.2.toNat]?).bind λa8=>(fj.ae (U.1,a8,())).bind λcx=>cond (!decide (cx.1.1=0)) (some (([]:List Byt),cx.1.1,()))<|self (cx.1.2.2.1,ag (U.2+1))) else none)<|e0 U.1
def q0 (a1:A) (ez:(List Byt)):P:=some (ez,0,())
def r0:((List Byt)×Int)->P:=am (λw v=>b0 w (q0 a1) a1 v) k
theorem aw:@Eq (((List Byt)×Int)->P) (λU=>D.L k [1,1,0,1,0,0] [0,4,5] [] (ai 0 (ay (D.N k [1,1,1]) D.K0)) (T0 a1 U)) (r0 k a1):=
 funext λU=>av _ _ _ (T0 a1) _ (λrec v=>Bye) k U
def p (l0:((List Byt)×Int)->P) (a1:A):P:=l0 (([]:List Byt),0)
theorem af:@Eq P (D.W k a1) (p (r0 k a1) a1):=By8 (aw k a1) Bye
theorem ok:Ok prog 91 D.sig:=ap func91 az Bye (fc fj.ok (ak _))
end nR
namespace mW
abbrev A:=(List Byt)×(List Byt)×Unit
abbrev O:=Bool×Unit
abbrev P:=Option O
noncomputable def D:FD:={ fn:=f92,tl:=bc,ps:=[(.ro,(.aa (.aa u8))),(.ro,(.aa (.aa u8)))],rs:=[(.bool,(an .bool))],lv:=[(4,[0,1,5])],lx:=[(0,[])],od:=[(6,[0,1,2,3,4,5,6,7,8,9,10])] }
def ae (a:A):P:=@lift O λk=>D.W k a
variable (a1:A)
def T0 (U:Int):St:={ n:=28,sl:=[(0,.val (.aa (.aa u8)) a1.1),(1,.val (.aa (.aa u8)) a1.2.1),(5,.val i64 U)],vr:=[],aT:=[] }
def b0 (self:Int->P) (e0:(Unit)->P) (a1:A) (U:Int):P:=cond (decide (U < (a1.1.length:Int))) (if 0<=U then ((a1.1[U.toNat]?).bind λa8=>if 0<=U then ((a1.2.1[U.toNat]?).bind λgf=>cond (!decide (a8=gf)) (some (false,()))<|self (ag (U+1))) else none) else none)<|e0 ()
def q0 (a1:A) (ez:(Unit)):P:=some (true,())
def r0:(Int)->P:=am (λw v=>b0 w (q0 a1) a1 v) k
theorem aw:@Eq ((Int)->P) (λU=>D.L k [1,1,0,1,0,0] [0,1,5] [] (ai 0 (ay (D.N k [1,1,1]) D.K0)) (T0 a1 U)) (r0 k a1):=
 funext λU=>av _ _ _ (T0 a1) _ (λrec v=>Bye) k U
def p (l0:(Int)->P) (a1:A):P:=cond (!decide ((a1.1.length:Int)=(a1.2.1.length:Int))) (some (false,()))<|l0 0
theorem af:@Eq P (D.W k a1) (p (r0 k a1) a1):=By8 (aw k a1) Bye
theorem ok:Ok prog 92 D.sig:=ap func92 az Bye (ak _)
end mW
namespace rS
abbrev A:=bi×Unit
abbrev O:=Int×Unit
noncomputable def D:FD:={ fn:=f39,tl:=bc,ps:=[(.ro,(.ptr cw))],rs:=[(i64,(an i64))],gl:=[(65,cj.D.sig),(76,mu.D.sig),(87,rj.D.sig),(88,f0.D.sig),(89,jj.D.sig),(90,qi.D.sig),(91,nR.D.sig),(92,mW.D.sig)],od:=[(13,[0,1,2,3,5,6,7,8,9,10,11,12,4,13,14,15])],ar:=[(13,[3,8,12])],pd:=[(13,[14])] }
def ae (a:A):Option O:=@lift O λk=>D.W k a
def p (a1:A):Option O:=(rj.ae (a1.1.2.2.1,())).bind λr2=>cond (!decide (r2.1=0)) (some (r2.1,()))<|cond (!a1.1.1) (cond (decide (0 < (a1.1.2.1.length:Int))) (some (1,()))<|cond (decide (0 < (a1.1.2.2.2.1.length:Int))) (some (1,()))<|cond (decide (0 < (a1.1.2.2.1.2.1.length:Int))) (some (1,()))<|(cj.ae (a1.1.2.2.2.2.1,1,100,())).bind λr3=>cond (!r3.1) (some (3,()))<|some (0,()))<|(f0.ae (a1.1.2.1,())).bind λr4=>cond (!decide (r4.1=0)) (some (r4.1,()))<|(jj.ae (a1.1.2.1,())).bind λr5=>(qi.ae ((r5.1,a1.1.2.2.2.1,a1.1.2.2.2.2.1,()),())).bind λr6=>cond (!decide (r6.1=0)) (some (r6.1,()))<|(mu.ae (a1.1.2.2.1,())).bind λr7=>(nR.ae (r7.1,())).bind λr8=>cond (!decide (r8.2.1=0)) (some (8,()))<|(mW.ae (r8.1,a1.1.2.1,())).bind λr9=>cond (!r9.1) (some (8,()))<|some (0,())
theorem af (a1:A):@Eq (Option O) (D.W k a1) (p a1):=Bye
theorem ok:Ok prog 39 D.sig:=ap func39 az Bye (fc cj.ok (fc mu.ok (fc rj.ok (fc f0.ok (fc jj.ok (fc qi.ok (fc nR.ok (fc mW.ok (ak _)))))))))
end rS
namespace qW
abbrev A:=Int×Unit
abbrev O:=nf×Unit
noncomputable def D:FD:={ fn:=f40,tl:=bc,ps:=[(.ro,i64)],rs:=[(fx,(aj fx))] }
def ae (a:A):Option O:=@lift O λk=>D.W k a
def p (a1:A):Option O:=some ((a1.1,0,(false,([]:List Byt),(([]:Byt),([]:Byt),()),([]:List Tx),0,()),()),())
theorem af (a1:A):@Eq (Option O) (D.W k a1) (p a1):=Bye
theorem ok:Ok prog 40 D.sig:=ap func40 az Bye (ak _)
end qW
namespace nk
abbrev A:=Log×Unit
abbrev O:=Log×Unit
noncomputable def D:FD:={ fn:=f77,tl:=bc,ps:=[(.ro,gd)],rs:=[(gd,(aj gd))],gl:=[(139,bY.D.sig)],od:=[(1,[0,1,3,4,2,5,6,7])] }
def ae (a:A):Option O:=@lift O λk=>D.W k a
def p (a1:A):Option O:=(bY.ae (a1.1.1,())).bind λr2=>(bY.ae (a1.1.2.1,())).bind λr3=>some ((r2.1,r3.1,()),())
theorem af (a1:A):@Eq (Option O) (D.W k a1) (p a1):=Bye
theorem ok:Ok prog 77 D.sig:=ap func77 az Bye (fc bY.ok (ak _))
end nk
namespace ua
abbrev A:=Log×Unit
abbrev O:=Log×Unit
noncomputable def D:FD:={ fn:=f78,tl:=bc,ps:=[(.ro,gd)],rs:=[(gd,(aj gd))],gl:=[(139,bY.D.sig)],od:=[(1,[0,1,3,4,2,5,6,7])] }
def ae (a:A):Option O:=@lift O λk=>D.W k a
def p (a1:A):Option O:=(bY.ae (a1.1.1,())).bind λr2=>if r2.1.length+a1.1.2.1.length<=b9 then (some ((r2.1++a1.1.2.1,([]:Byt),()),())) else none
theorem af (a1:A):@Eq (Option O) (D.W k a1) (p a1):=Bye
theorem ok:Ok prog 78 D.sig:=ap func78 az Bye (fc bY.ok (ak _))
end ua
namespace qj
abbrev A:=Log×bg×Unit
abbrev O:=Log×Bool×Unit
noncomputable def D:FD:={ fn:=f207,tl:=bc,ps:=[(.ro,gd),(.ro,(.ptr du))],rs:=[(gd,(an gd)),(.bool,(an .bool))],gl:=[(77,nk.D.sig),(272,j6.D.sig)] }
def ae (a:A):Option O:=@lift O λk=>D.W k a
def p (a1:A):Option O:=(j6.ae (a1.2.1,())).bind λr2=>cond (decide (16000 < ag ((ag ((a1.1.1.length:Int)+(a1.1.2.1.length:Int)))+(r2.1.length:Int)))) (some (a1.1,false,()))<|(nk.ae (a1.1,())).bind λr3=>if r3.1.2.1.length+r2.1.length<=b9 then (some ((r3.1.1,r3.1.2.1++r2.1,r3.1.2.2),true,())) else none
theorem af (a1:A):@Eq (Option O) (D.W k a1) (p a1):=Bye
theorem ok:Ok prog 207 D.sig:=ap func207 az Bye (fc nk.ok (fc j6.ok (ak _)))
end qj
namespace nl
abbrev A:=bi×bg×Unit
abbrev O:=Int×bi×Unit
noncomputable def D:FD:={ fn:=f129,tl:=bc,ps:=[(.ke (an cw) (an cw),cw),(.ro,(.ptr du))],rs:=[(i64,(an i64))],gl:=[(207,qj.D.sig)],es:=[0] }
def ae (a:A):Option O:=@lift O λk=>D.W k a
def p (a1:A):Option O:=(qj.ae (a1.1.2.2.1,a1.2.1,())).bind λr2=>cond (!r2.2.1) (some (9,a1.1,()))<|some (0,(a1.1.1,a1.1.2.1,r2.1,a1.1.2.2.2),())
theorem af (a1:A):@Eq (Option O) (D.W k a1) (p a1):=Bye
theorem ok:Ok prog 129 D.sig:=ap func129 az Bye (fc qj.ok (ak _))
end nl
namespace nm
abbrev A:=(List Byt)×Int×Int×Unit
abbrev O:=a7×Bool×Unit
abbrev P:=Option O
noncomputable def D:FD:={ fn:=f297,tl:=bc,ps:=[(.ro,(.aa (.aa u8))),(.ro,i64),(.ro,i64)],rs:=[(ip,(an ip)),(.bool,(an .bool))],gl:=[(150,jv.D.sig)],lv:=[(3,[1,2,6,8,9])],lx:=[(0,[6])] }
def ae (a:A):P:=@lift O λk=>D.W k a
variable (a1:A)
def T0 (ef:List a7) (be:Int):St:={ n:=43,sl:=[(1,.val i64 a1.2.1),(2,.val i64 a1.2.2.1),(6,.box ip (an ip) [] ((0:Int),(0:Int),((0:Int),(0:Int),(0:Int),(0:Int),((0:Int),(0:Int),(0:Int),([]:Byt),()),()),())),(8,.own (.aa ip) (aj (.aa ip)) [] ef),(9,.val i64 be)],vr:=[],aT:=[] }
def b0 (self:Int->P) (e0:(Unit)->P) (a1:A) (ef:List a7) (be:Int):P:=cond (decide (be < (ef.length:Int))) (if 0<=be/\be < (ef.length:Int) then ((ef[be.toNat]?).bind λd6=>cond (decide (d6.2.2.1.2.2.2.2.1.1=a1.2.1)) (if 0<=be/\be < (ef.length:Int) then ((ef[be.toNat]?).bind λqJ=>cond (decide (qJ.2.2.1.2.2.2.2.1.2.1=a1.2.2.1)) (if 0<=be/\be < (ef.length:Int) then ((ef[be.toNat]?).bind λtk=>some (tk,true,())) else none)<|self (ag (be+1))) else none)<|self (ag (be+1))) else none)<|e0 ()
def q0 (a1:A) (ef:List a7) (oC:(Unit)):P:=some ((0,0,(0,0,0,0,(0,0,0,([]:Byt),()),()),()),false,())
def r0:(List a7)->(Int)->P:=λef=>am (λw v=>b0 w (q0 a1 ef) a1 ef v) k
theorem aw:@Eq ((List a7)->(Int)->P) (λef=>λbe=>D.L k [1,1,0,1,0,0] [1,2,6,8,9] [] (ai 0 (ay (D.N k [1,1,1]) D.K0)) (T0 a1 ef be)) (r0 k a1):=
 funext λef=>funext λbe=>av _ _ _ (T0 a1 ef) _ (λrec v=>Bye) k be
def p (l0:(List a7)->(Int)->P) (a1:A):P:=(jv.ae (a1.1,())).bind λr2=>l0 r2.1 0
theorem af:@Eq P (D.W k a1) (p (r0 k a1) a1):=By8 (aw k a1) Bye
theorem ok:Ok prog 297 D.sig:=ap func297 az Bye (fc jv.ok (ak _))
end nm
namespace ln
abbrev A:=(List Byt)×Unit
abbrev O:=ba×Unit
noncomputable def D:FD:={ fn:=f318,tl:=bc,ps:=[(.ro,(.aa (.aa u8)))],rs:=[((.ptr dh),(aj (.ptr dh)))],gl:=[(126,iW.D.sig)] }
def ae (a:A):Option O:=@lift O λk=>D.W k a
def p (a1:A):Option O:=(iW.ae (a1.1,())).bind λr2=>some ((r2.1,([]:List cq),()),())
theorem af (a1:A):@Eq (Option O) (D.W k a1) (p a1):=Bye
theorem ok:Ok prog 318 D.sig:=ap func318 az Bye (fc iW.ok (ak _))
end ln
namespace kC
abbrev A:=Byt×Unit
abbrev O:=Int×Unit
abbrev P:=Option O
noncomputable def D:FD:={ fn:=f358,tl:=bc,ps:=[(.ro,(.aa u8))],rs:=[(i64,(an i64))],gl:=[(228,db.D.sig),(229,b_.D.sig)],lv:=[(2,[0,3])],lx:=[(0,[0])] }
def ae (a:A):P:=@lift O λk=>D.W k a
variable (a1:A)
def T0 (U:Int):St:={ n:=17,sl:=[(0,.val (.aa u8) a1.1),(3,.val i64 U)],vr:=[],aT:=[] }
def b0 (self:Int->P) (e0:(Unit)->P) (a1:A) (U:Int):P:=(db.ae (a1.1,())).bind λxr=>cond (decide (U < xr.1)) ((b_.ae (a1.1,U,())).bind λcx=>cond (decide (cx.1=0)) (some (U,()))<|self (ag (U+1)))<|e0 ()
def q0 (ez:(Unit)):P:=(db.ae (a1.1,())).bind λiQ=>some (iQ.1,())
def r0:(Int)->P:=am (λw v=>b0 w (q0 a1) a1 v) k
theorem aw:@Eq ((Int)->P) (λU=>D.L k [1,0,1,0,0] [0,3] [] (ai 0 (ay (D.N k [1,1]) D.K0)) (T0 a1 U)) (r0 k a1):=
 funext λU=>av _ _ _ (T0 a1) _ (λrec v=>Bye) k U
def p (l0:(Int)->P) (a1:A):P:=l0 0
theorem af:@Eq P (D.W k a1) (p (r0 k a1) a1):=By8 (aw k a1) Bye
theorem ok:Ok prog 358 D.sig:=ap func358 az Bye (fc db.ok (fc b_.ok (ak _)))
end kC
namespace kO
abbrev A:=Byt×Unit
abbrev O:=Int×Unit
abbrev P:=Option O
noncomputable def D:FD:={ fn:=f359,tl:=bc,ps:=[(.ro,(.aa u8))],rs:=[(i64,(an i64))],gl:=[(228,db.D.sig),(229,b_.D.sig)],lv:=[(3,[0,3,4])],lx:=[(0,[3])] }
def ae (a:A):P:=@lift O λk=>D.W k a
variable (a1:A)
def T0 (be:Int×Int):St:={ n:=21,sl:=[(0,.val (.aa u8) a1.1),(3,.val i64 be.1),(4,.val i64 be.2)],vr:=[],aT:=[] }
def b0 (self:(Int×Int)->P) (e0:Int->P) (a1:A) (be:Int×Int):P:=(db.ae (a1.1,())).bind λcx=>cond (decide (be.2 < cx.1)) ((b_.ae (a1.1,be.2,())).bind λky=>self (ag (be.1 - ky.1),ag (be.2+1)))<|e0 be.1
def q0 (a1:A) (pc:Int):P:=some (pc,())
def r0:(Int×Int)->P:=am (λw v=>b0 w (q0 a1) a1 v) k
theorem aw:@Eq ((Int×Int)->P) (λbe=>D.L k [1,1,0,1,0,0] [0,3,4] [] (ai 0 (ay (D.N k [1,1,1]) D.K0)) (T0 a1 be)) (r0 k a1):=
 funext λbe=>av _ _ _ (T0 a1) _ (λrec v=>Bye) k be
def p (l0:(Int×Int)->P) (a1:A):P:=(db.ae (a1.1,())).bind λr2=>l0 (ag (62 - (ag (2*r2.1))),0)
theorem af:@Eq P (D.W k a1) (p (r0 k a1) a1):=By8 (aw k a1) Bye
theorem ok:Ok prog 359 D.sig:=ap func359 az Bye (fc db.ok (fc b_.ok (ak _)))
end kO
namespace jO
abbrev A:=Byt×Int×Int×Byt×Unit
abbrev O:=Byt×Unit
noncomputable def D:FD:={ fn:=f360,tl:=bc,ps:=[(.lT (aj (.aa u8)),(.aa u8)),(.ro,i64),(.ro,i64),(.ro,(.aa u8))],rs:=[],es:=[0] }
def ae (a:A):Option O:=@lift O λk=>D.W k a
def p (a1:A):Option O:=if 0<=a1.2.2.1/\a1.2.2.1<=(a1.1.length:Int) then (let y2:=pD a1.1 a1.2.2.1.toNat (min a1.2.2.2.1.length (a1.1.length - a1.2.2.1.toNat)) a1.2.2.2.1;if 0<=ag (2+(ag (2*a1.2.1)))/\ag (2+(ag (2*a1.2.1))) < (y2.length:Int) then ((y2[(ag ((2:Int)+(ag ((2:Int)*a1.2.1)))).toNat]?).bind λx3=>let y4:=y2.set (ag (2+(ag (2*a1.2.1)))).toNat (UInt8.ofInt a1.2.2.1);if 0<=ag (3+(ag (2*a1.2.1)))/\ag (3+(ag (2*a1.2.1))) < (y4.length:Int) then ((y4[(ag ((3:Int)+(ag ((2:Int)*a1.2.1)))).toNat]?).bind λx5=>let y6:=y4.set (ag (3+(ag (2*a1.2.1)))).toNat (UInt8.ofInt (a1.2.2.2.1.length:Int));some (y6,())) else none) else none) else none
theorem af (a1:A):@Eq (Option O) (D.W k a1) (p a1):=Bye
theorem ok:Ok prog 360 D.sig:=ap func360 az Bye (ak _)
end jO
namespace oq
abbrev A:=Byt×Byt×Unit
abbrev O:=Byt×Int×Int×Unit
noncomputable def D:FD:={ fn:=f343,tl:=bc,ps:=[(.ro,(.aa u8)),(.ro,(.aa u8))],rs:=[((.aa u8),(aj (.aa u8))),(i64,(an i64)),(i64,(an i64))],gl:=[(139,bY.D.sig),(228,db.D.sig),(284,kI.D.sig),(358,kC.D.sig),(359,kO.D.sig),(360,jO.D.sig)] }
def ae (a:A):Option O:=@lift O λk=>D.W k a
def p (a1:A):Option O:=(kC.ae (a1.1,())).bind λr2=>(db.ae (a1.1,())).bind λr3=>let j14:=λ(p12:Int) (p13:Int)=>((kO.ae (a1.1,())).bind λEt=>cond (decide (Et.1 < ag ((a1.2.1.length:Int)+p13))) (some (([]:Byt),0,9,()))<|(kI.ae (a1.1,())).bind λAV=>cond (decide (ag (AV.1 - (a1.2.1.length:Int)) < ag (2+(ag (2*p12))))) (some (([]:Byt),0,8,()))<|(bY.ae (a1.1,())).bind λDB=>if 0<=(0:Int)/\0 < (DB.1.length:Int) then ((DB.1[0]?).bind λx18=>if 0<=(1:Int)/\1 < ((DB.1.set 0 (UInt8.ofInt p12)).length:Int) then (((DB.1.set 0 (UInt8.ofInt p12))[1]?).bind λx19=>let y20:=(DB.1.set 0 (UInt8.ofInt p12)).set 1 (UInt8.ofInt (ag (AV.1 - (a1.2.1.length:Int))));(jO.ae (y20,r2.1,ag (AV.1 - (a1.2.1.length:Int)),a1.2.1,())).bind λPH=>some (PH.1,r2.1,0,())) else none) else none:Option O);cond (decide (r2.1=r3.1)) (cond (decide (16<=r3.1)) (some (([]:Byt),0,2,()))<|j14 (ag (r3.1+1)) 2)<|j14 r3.1 0
theorem af (a1:A):@Eq (Option O) (D.W k a1) (p a1):=Bye
theorem ok:Ok prog 343 D.sig:=ap func343 az Bye (fc bY.ok (fc db.ok (fc kI.ok (fc kC.ok (fc kO.ok (fc jO.ok (ak _)))))))
end oq
namespace jl
abbrev A:=ba×Int×Byt×Unit
abbrev O:=ba×Unit
noncomputable def D:FD:={ fn:=f344,tl:=bc,ps:=[(.ke (aj dh) (aj dh),dh),(.ro,i64),(.ro,(.aa u8))],rs:=[],gl:=[(139,bY.D.sig)],es:=[0],od:=[(1,[0,1,2,3,4,5,6,7,8,9,10,11]),(2,[0,1,2,3,4,5,6,7,8,9,10]),(3,[0,1,2,3,4,5,6,7,8]),(4,[0,1,2,3,4,5,6,7,8,9,10,11,12,13])] }
def ae (a:A):Option O:=@lift O λk=>D.W k a
def p (a1:A):Option O:=let j9:=λ(p8:ba)=>((bY.ae (a1.2.2.1,())).bind λwE=>if p8.2.1.length+[(a1.2.1,wE.1,())].length<=b9 then (some ((p8.1,p8.2.1++[(a1.2.1,wE.1,())],p8.2.2),())) else none:Option O);cond (decide (a1.2.1=(a1.1.1.length:Int))) ((bY.ae (a1.2.2.1,())).bind λr2=>if a1.1.1.length+[r2.1].length<=b9 then (j9 (a1.1.1++[r2.1],a1.1.2)) else none)<|if 0<=a1.2.1/\a1.2.1 < (a1.1.1.length:Int) then ((a1.1.1[a1.2.1.toNat]?).bind λx3=>(a1.1.1[a1.2.1.toNat]?).bind λx4=>cond (decide (x4=a1.2.2.1)) (some (a1.1,()))<|(bY.ae (a1.2.2.1,())).bind λr5=>if 0<=a1.2.1/\a1.2.1 < (a1.1.1.length:Int) then ((a1.1.1[a1.2.1.toNat]?).bind λx6=>j9 (a1.1.1.set a1.2.1.toNat r5.1,a1.1.2)) else none) else none
theorem af (a1:A):@Eq (Option O) (D.W k a1) (p a1):=Bye
theorem ok:Ok prog 344 D.sig:=ap func344 az Bye (fc bY.ok (ak _))
end jl
namespace h_
abbrev A:=Byt×Unit
abbrev O:=Byt×Unit
abbrev P:=Option O
noncomputable def D:FD:={ fn:=f347,tl:=bc,ps:=[(.ro,(.aa u8))],rs:=[((.aa u8),(aj (.aa u8)))],gl:=[(228,db.D.sig),(229,b_.D.sig),(231,j_.D.sig),(360,jO.D.sig)],lv:=[(6,[0,3,4,5,6])],lx:=[(0,[4,5]),(1,[0,3,4,5,6])] }
def ae (a:A):P:=@lift O λk=>D.W k a
variable (a1:A)
def T0 (fd:Int) (c7:Byt×Int×Int):St:={ n:=44,sl:=[(0,.val (.aa u8) a1.1),(3,.val i64 fd),(4,.own (.aa u8) (aj (.aa u8)) [] c7.1),(5,.val i64 c7.2.1),(6,.val i64 c7.2.2)],vr:=[],aT:=[] }
def b0 (self:(Byt×Int×Int)->P) (e0:(Byt×Int)->P) (a1:A) (fd:Int) (c7:Byt×Int×Int):P:=cond (decide (c7.2.2 < fd)) ((b_.ae (a1.1,c7.2.2,())).bind λiQ=>cond (decide (iQ.1=0)) (self (c7.1,c7.2.1,ag (c7.2.2+1)))<|(j_.ae (a1.1,c7.2.2,())).bind λjq=>(jO.ae (c7.1,c7.2.2,ag (c7.2.1 - (jq.1.length:Int)),jq.1,())).bind λqx=>self (qx.1,ag (c7.2.1 - (jq.1.length:Int)),ag (c7.2.2+1)))<|e0 (c7.1,c7.2.1)
def q0 (a1:A) (fd:Int) (wF:(Byt×Int)):P:=if 0<=(1:Int)/\1 < (wF.1.length:Int) then ((wF.1[1]?).bind λJI=>some (wF.1.set 1 (UInt8.ofInt wF.2),())) else none
def r0:Int->(Byt×Int×Int)->P:=λfd=>am (λw v=>b0 w (q0 a1 fd) a1 fd v) k
theorem aw:@Eq (Int->(Byt×Int×Int)->P) (λfd=>λc7=>D.L k [1,1,1,1,1,0,1,0,0] [0,3,4,5,6] [] (ai 0 (ay (D.N k [1,1,1,1,1,1]) D.K0)) (T0 a1 fd c7)) (r0 k a1):=
 funext λfd=>funext λc7=>av _ _ _ (T0 a1 fd) _ (λrec v=>Bye) k c7
def p (l0:Int->(Byt×Int×Int)->P) (a1:A):P:=(db.ae (a1.1,())).bind λr2=>if 0<=(64:Int)/\(64:Int)<=64/\64<=(b9:Int) then (if 0<=ag (2+(ag (2*r2.1)))/\ag (2+(ag (2*r2.1)))<=(a1.1.length:Int) then (let y3:=pD (List.replicate 64 (0:UInt8)) 0 (min ((a1.1.take (ag (2+(ag (2*r2.1)))).toNat).drop 0).length (List.replicate 64 (0:UInt8)).length) ((a1.1.take (ag (2+(ag (2*r2.1)))).toNat).drop 0);l0 r2.1 (y3,64,0)) else none) else none
theorem af:@Eq P (D.W k a1) (p (r0 k a1) a1):=By8 (aw k a1) Bye
theorem ok:Ok prog 347 D.sig:=ap func347 az Bye (fc db.ok (fc b_.ok (fc j_.ok (fc jO.ok (ak _)))))
end h_
namespace rn
abbrev A:=ba×Int×Byt×Unit
abbrev O:=Int×Bool×ba×Unit
noncomputable def D:FD:={ fn:=f342,tl:=bc,ps:=[(.ke (aj dh) (aj dh),dh),(.ro,i64),(.ro,(.aa u8))],rs:=[(i64,(an i64)),(.bool,(an .bool))],gl:=[(343,oq.D.sig),(344,jl.D.sig),(347,h_.D.sig)],es:=[0] }
def ae (a:A):Option O:=@lift O λk=>D.W k a
def p (a1:A):Option O:=if 0<=a1.2.1/\a1.2.1 < (a1.1.1.length:Int) then ((a1.1.1[a1.2.1.toNat]?).bind λx2=>(a1.1.1[a1.2.1.toNat]?).bind λx3=>(oq.ae (x3,a1.2.2.1,())).bind λr4=>let Xs:=λ(p13:ba) (p14:Byt) (p15:Int) (p16:Int)=>(cond (!decide (p16=0)) (some (0,false,p13,()))<|(jl.ae (p13,a1.2.1,p14,())).bind λXt=>some (p15,true,Xt.1,()):Option O);cond (decide (r4.2.2.1=8)) (if 0<=a1.2.1/\a1.2.1 < (a1.1.1.length:Int) then ((a1.1.1[a1.2.1.toNat]?).bind λx5=>(a1.1.1[a1.2.1.toNat]?).bind λx6=>(h_.ae (x6,())).bind λr7=>(jl.ae (a1.1,a1.2.1,r7.1,())).bind λr8=>if 0<=a1.2.1/\a1.2.1 < (r8.1.1.length:Int) then ((r8.1.1[a1.2.1.toNat]?).bind λx9=>(r8.1.1[a1.2.1.toNat]?).bind λXu=>(oq.ae (Xu,a1.2.2.1,())).bind λtc=>Xs r8.1 tc.1 tc.2.1 tc.2.2.1) else none) else none)<|Xs a1.1 r4.1 r4.2.1 r4.2.2.1) else none
theorem af (a1:A):@Eq (Option O) (D.W k a1) (p a1):=Bye
theorem ok:Ok prog 342 D.sig:=ap func342 az Bye (fc oq.ok (fc jl.ok (fc h_.ok (ak _))))
end rn
namespace ja
abbrev A:=ba×Int×Byt×Unit
abbrev O:=Int×Int×Bool×ba×Unit
abbrev P:=Option O
noncomputable def D:FD:={ fn:=f319,tl:=bc,ps:=[(.ke (aj dh) (aj dh),dh),(.ro,i64),(.ro,(.aa u8))],rs:=[(i64,(an i64)),(i64,(an i64)),(.bool,(an .bool))],gl:=[(241,jT.D.sig),(342,rn.D.sig),(343,oq.D.sig),(344,jl.D.sig)],es:=[0],lv:=[(2,[0,1,2,9])],lx:=[(0,[0,2]),(1,[0,1,2,9])] }
def ae (a:A):P:=@lift O λk=>D.W k a
variable (a1:A)
def T0 (U:ba×Int):St:={ n:=65,sl:=[(0,.box dh (aj dh) [] U.1),(1,.val i64 a1.2.1),(2,.val (.aa u8) a1.2.2.1),(9,.val i64 U.2)],vr:=[],aT:=[(0,0,false)] }
def b0 (self:(ba×Int)->P) (e0:ba->P) (a1:A) (U:ba×Int):P:=cond (decide (U.2 < (U.1.1.length:Int))) (cond (decide (U.2=a1.2.1)) (self (U.1,ag (U.2+1)))<|(rn.ae (U.1,U.2,a1.2.2.1,())).bind λxr=>cond xr.2.1 (some (U.2,xr.1,true,xr.2.2.1,()))<|self (xr.2.2.1,ag (U.2+1)))<|e0 U.1
def q0 (mU:ba):P:=cond (decide (12<=(mU.1.length:Int))) (some (0,0,false,mU,()))<|(jT.ae ((0:UInt8),())).bind λky=>(oq.ae (ky.1,a1.2.2.1,())).bind λiQ=>(jl.ae (mU,(mU.1.length:Int),iQ.1,())).bind λjq=>some (ag ((jq.1.1.length:Int) - 1),iQ.2.1,true,jq.1,())
def r0:(ba×Int)->P:=am (λw v=>b0 w (q0 a1) a1 v) k
theorem aw:@Eq ((ba×Int)->P) (λU=>D.L k [1,0,1,0,0] [0,1,2,9] [] (ai 0 (ay (D.N k [1,1]) D.K0)) (T0 a1 U)) (r0 k a1):=
 funext λU=>av _ _ _ (T0 a1) _ (λrec v=>Bye) k U
def p (l0:(ba×Int)->P) (a1:A):P:=l0 (a1.1,0)
theorem af:@Eq P (D.W k a1) (p (r0 k a1) a1):=By8 (aw k a1) Bye
theorem ok:Ok prog 319 D.sig:=ap func319 az Bye (fc jT.ok (fc rn.ok (fc oq.ok (fc jl.ok (ak _)))))
end ja
namespace jK
abbrev A:=Int×Row×Unit
abbrev O:=Byt×Unit
noncomputable def D:FD:={ fn:=f320,tl:=bc,ps:=[(.ro,i64),(.ro,(.ptr bd))],rs:=[((.aa u8),(aj (.aa u8)))],od:=[(1,[0,1,2,3,4,5,6,7,8,9,10,11,12,13,14,15,16,17,18,19,20,21,22,23,24,25,26,27,28,29,30,31])] }
def ae (a:A):Option O:=@lift O λk=>D.W k a
def p (a1:A):Option O:=if a1.2.1.2.2.2.1.length<=b9 then (if [UInt8.ofInt a1.1,UInt8.ofInt a1.2.1.1,UInt8.ofInt a1.2.1.2.1,UInt8.ofInt (ag (a1.2.1.2.2.1.tdiv (256:Int))),UInt8.ofInt (a1.2.1.2.2.1.tmod (256:Int)),UInt8.ofInt (a1.2.1.2.2.2.1.length:Int)].length+a1.2.1.2.2.2.1.length<=b9 then (let y2:=[UInt8.ofInt a1.1,UInt8.ofInt a1.2.1.1,UInt8.ofInt a1.2.1.2.1,UInt8.ofInt (ag (a1.2.1.2.2.1.tdiv (256:Int))),UInt8.ofInt (a1.2.1.2.2.1.tmod (256:Int)),UInt8.ofInt (a1.2.1.2.2.2.1.length:Int)]++a1.2.1.2.2.2.1;some (y2,())) else none) else none
theorem af (a1:A):@Eq (Option O) (D.W k a1) (p a1):=Bye
theorem ok:Ok prog 320 D.sig:=ap func320 az Bye (ak _)
end jK
namespace kP
abbrev A:=ba×Unit
abbrev O:=d7×Unit
noncomputable def D:FD:={ fn:=f321,tl:=bc,ps:=[(.tw (aj dh),dh)],rs:=[(dv,(aj dv))],fz:=[(1,3,7),(1,7,7)],od:=[(1,[0,1,2,3,4,5,6,7,8,9])] }
def ae (a:A):Option O:=@lift O λk=>D.W k a
def p (a1:A):Option O:=some ((0,a1.1.2.1,a1.1.1,()),())
theorem af (a1:A):@Eq (Option O) (D.W k a1) (p a1):=Bye
theorem ok:Ok prog 321 D.sig:=ap func321 az Bye (ak _)
end kP
namespace qk
abbrev A:=(List Byt)×Row×Unit
abbrev O:=d7×Unit
noncomputable def D:FD:={ fn:=f298,tl:=bc,ps:=[(.ro,(.aa (.aa u8))),(.ro,(.ptr bd))],rs:=[(dv,(aj dv))],gl:=[(240,f8.D.sig),(318,ln.D.sig),(319,ja.D.sig),(320,jK.D.sig),(321,kP.D.sig)] }
def ae (a:A):Option O:=@lift O λk=>D.W k a
def p (a1:A):Option O:=(ln.ae (a1.1,())).bind λr2=>(jK.ae (0,a1.2.1,())).bind λr3=>(ja.ae (r2.1,(-1),r3.1,())).bind λr4=>cond (!r4.2.2.1) ((f8.ae (9,())).bind λr5=>some (r5.1,()))<|(kP.ae (r4.2.2.2.1,())).bind λr6=>some (r6.1,())
theorem af (a1:A):@Eq (Option O) (D.W k a1) (p a1):=Bye
theorem ok:Ok prog 298 D.sig:=ap func298 az Bye (fc f8.ok (fc ln.ok (fc ja.ok (fc jK.ok (fc kP.ok (ak _))))))
end qk
namespace pG
abbrev A:=Byt×Int×Unit
abbrev O:=Byt×Unit
abbrev P:=Option O
noncomputable def D:FD:={ fn:=f345,tl:=bc,ps:=[(.ro,(.aa u8)),(.ro,i64)],rs:=[((.aa u8),(aj (.aa u8)))],gl:=[(139,bY.D.sig),(229,b_.D.sig)],lv:=[(4,[5])],lx:=[(0,[5])] }
def ae (a:A):P:=@lift O λk=>D.W k a
variable (a1:A)
def T0 (a1:A) (wc:Byt):St:={ n:=38,sl:=[(5,.own (.aa u8) (aj (.aa u8)) [] wc)],vr:=[],aT:=[] }
def b0 (self:Byt->P) (e0:Byt->P) (a1:A) (wc:Byt):P:=if 0<=(0:Int)/\0 < (wc.length:Int) then ((wc[0]?).bind λCQ=>cond (decide (0 < (CQ.toNat:Int))) (if 0<=(0:Int)/\0 < (wc.length:Int) then ((wc[0]?).bind λzd=>(b_.ae (wc,ag ((ag (zd.toNat:Int)) - 1),())).bind λzg=>cond (decide (zg.1=0)) (if 0<=(0:Int)/\0 < (wc.length:Int) then ((wc[0]?).bind λBk=>if 0<=(0:Int)/\0 < (wc.length:Int) then ((wc[0]?).bind λzY=>let PO:=wc.set 0 (UInt8.ofInt ((Bk.toNat:Int) - 1));self PO) else none) else none)<|e0 wc) else none)<|e0 wc) else none
def q0 (a1:A) (Mm:Byt):P:=some (Mm,())
def r0:Byt->P:=am (λw v=>b0 w (q0 a1) a1 v) k
theorem aw:@Eq (Byt->P) (λwc=>D.L k [1,1,1,1,0,0,0] [5] [] (ai 0 (ay (D.N k [1,1,1,1,1]) D.K0)) (T0 a1 wc)) (r0 k a1):=
 funext λwc=>av _ _ _ (T0 a1) _ (λrec v=>Bye) k wc
def p (l0:Byt->P) (a1:A):P:=(bY.ae (a1.1,())).bind λr2=>if 0<=ag (2+(ag (2*a1.2.1)))/\ag (2+(ag (2*a1.2.1))) < (r2.1.length:Int) then ((r2.1[(ag ((2:Int)+(ag ((2:Int)*a1.2.1)))).toNat]?).bind λx3=>let y4:=r2.1.set (ag (2+(ag (2*a1.2.1)))).toNat (0:UInt8);if 0<=ag (3+(ag (2*a1.2.1)))/\ag (3+(ag (2*a1.2.1))) < (y4.length:Int) then ((y4[(ag ((3:Int)+(ag ((2:Int)*a1.2.1)))).toNat]?).bind λx5=>let y6:=y4.set (ag (3+(ag (2*a1.2.1)))).toNat (0:UInt8);l0 y6) else none) else none
theorem af:@Eq P (D.W k a1) (p (r0 k a1) a1):=By8 (aw k a1) Bye
theorem ok:Ok prog 345 D.sig:=ap func345 az Bye (fc bY.ok (fc b_.ok (ak _)))
end pG
namespace n_
abbrev A:=ba×Int×Int×Unit
abbrev O:=ba×Unit
noncomputable def D:FD:={ fn:=f322,tl:=bc,ps:=[(.ke (aj dh) (aj dh),dh),(.ro,i64),(.ro,i64)],rs:=[],gl:=[(344,jl.D.sig),(345,pG.D.sig)],es:=[0] }
def ae (a:A):Option O:=@lift O λk=>D.W k a
def p (a1:A):Option O:=if 0<=a1.2.1/\a1.2.1 < (a1.1.1.length:Int) then ((a1.1.1[a1.2.1.toNat]?).bind λx2=>(a1.1.1[a1.2.1.toNat]?).bind λx3=>(pG.ae (x3,a1.2.2.1,())).bind λr4=>(jl.ae (a1.1,a1.2.1,r4.1,())).bind λr5=>some (r5.1,())) else none
theorem af (a1:A):@Eq (Option O) (D.W k a1) (p a1):=Bye
theorem ok:Ok prog 322 D.sig:=ap func322 az Bye (fc jl.ok (fc pG.ok (ak _)))
end n_
namespace ql
abbrev A:=(List Byt)×a7×Unit
abbrev O:=d7×Unit
noncomputable def D:FD:={ fn:=f299,tl:=bc,ps:=[(.ro,(.aa (.aa u8))),(.ro,(.ptr ip))],rs:=[(dv,(aj dv))],gl:=[(318,ln.D.sig),(321,kP.D.sig),(322,n_.D.sig)],od:=[(2,[0,1,2,3,4,5,6,7,8,9]),(4,[0,1,2,3,4,5,6,7,8,9,10,11])] }
def ae (a:A):Option O:=@lift O λk=>D.W k a
def p (a1:A):Option O:=(ln.ae (a1.1,())).bind λr2=>(n_.ae (r2.1,a1.2.1.1,a1.2.1.2.1,())).bind λr3=>cond (decide (a1.2.1.2.2.1.2.1=1)) ((n_.ae (r3.1,a1.2.1.2.2.1.2.2.1,a1.2.1.2.2.1.2.2.2.1,())).bind λr4=>(kP.ae (r4.1,())).bind λr6=>some (r6.1,()))<|(kP.ae (r3.1,())).bind λr7=>some (r7.1,())
theorem af (a1:A):@Eq (Option O) (D.W k a1) (p a1):=Bye
theorem ok:Ok prog 299 D.sig:=ap func299 az Bye (fc ln.ok (fc kP.ok (fc n_.ok (ak _))))
end ql
namespace sd
abbrev A:=Byt×Int×Byt×Unit
abbrev O:=Byt×Int×Unit
noncomputable def D:FD:={ fn:=f346,tl:=bc,ps:=[(.ro,(.aa u8)),(.ro,i64),(.ro,(.aa u8))],rs:=[((.aa u8),(aj (.aa u8))),(i64,(an i64))],gl:=[(139,bY.D.sig),(228,db.D.sig),(229,b_.D.sig),(284,kI.D.sig),(288,it.D.sig),(359,kO.D.sig),(360,jO.D.sig)] }
def ae (a:A):Option O:=@lift O λk=>D.W k a
def p (a1:A):Option O:=(b_.ae (a1.1,a1.2.1,())).bind λr2=>(bY.ae (a1.1,())).bind λr3=>cond (decide ((a1.2.2.1.length:Int)<=r2.1)) ((it.ae (a1.1,a1.2.1,())).bind λr4=>(jO.ae (r3.1,a1.2.1,ag ((ag (r4.1+r2.1)) - (a1.2.2.1.length:Int)),a1.2.2.1,())).bind λr5=>some (r5.1,0,()))<|(kO.ae (a1.1,())).bind λr6=>cond (decide (ag (r6.1+r2.1) < (a1.2.2.1.length:Int))) (some (([]:Byt),9,()))<|(kI.ae (a1.1,())).bind λr7=>(db.ae (a1.1,())).bind λr8=>cond (decide (ag (r7.1 - (a1.2.2.1.length:Int)) < ag (2+(ag (2*r8.1))))) (some (([]:Byt),8,()))<|if 0<=(1:Int)/\1 < (r3.1.length:Int) then ((r3.1[1]?).bind λx9=>let y10:=r3.1.set 1 (UInt8.ofInt (ag (r7.1 - (a1.2.2.1.length:Int))));(jO.ae (y10,a1.2.1,ag (r7.1 - (a1.2.2.1.length:Int)),a1.2.2.1,())).bind λtc=>some (tc.1,0,())) else none
theorem af (a1:A):@Eq (Option O) (D.W k a1) (p a1):=Bye
theorem ok:Ok prog 346 D.sig:=ap func346 az Bye (fc bY.ok (fc db.ok (fc b_.ok (fc kI.ok (fc it.ok (fc kO.ok (fc jO.ok (ak _))))))))
end sd
end
end OT
