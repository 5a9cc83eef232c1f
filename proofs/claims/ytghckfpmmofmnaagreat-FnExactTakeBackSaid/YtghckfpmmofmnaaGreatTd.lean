/- The proof's parts, merged: Printed by gen.py, a program of this claim  what each Go function computes.. No conditions but those that each states. -/
import Derived.Test.YtghckfpmmofmnaaGreatTc
import Derived.Test.YtghckfpmmofmnaaGreatProg
import Derived.KernelRfl
set_option maxRecDepth 100000
set_option linter.unusedVariables false
namespace OT
open Go Go.Proofs.Tryz
abbrev Log:Type:=((List UInt8)×(List UInt8)×Unit)
abbrev ee:Ty:=(bq [(.aa u8),(.aa u8)])
abbrev Row:Type:=(Int×Int×Int×(List UInt8)×Unit)
abbrev bd:Ty:=(bq [i64,i64,i64,.str])
abbrev Change:Type:=(Bool×Row×Bool×Row×Unit)
abbrev an:Ty:=(bq [.bool,bd,.bool,bd])
abbrev Key:Type:=(Int×Int×Unit)
abbrev be:Ty:=(bq [i64,i64])
abbrev Tx:Type:=(Int×(List Change)×(List Int)×(List Key)×Unit)
abbrev ca:Ty:=(bq [i64,(.aa an),(.aa i64),(.aa be)])
abbrev bj:Type:=(Bool×(List (List UInt8))×Log×(List Tx)×Int×Unit)
abbrev ci:Ty:=(bq [.bool,(.aa (.aa u8)),ee,(.aa ca),i64])
abbrev Op:Type:=(Int×Int×Row×Int×Unit)
abbrev tOp:Ty:=(bq [i64,i64,bd,i64])
abbrev cd:Type:=(Int×(List UInt8)×Unit)
abbrev nM:Ty:=(bq [i64,(.aa u8)])
abbrev bm:Type:=(Int×Int×Int×(List cd)×Unit)
abbrev ek:Ty:=(bq [i64,i64,i64,(.aa nM)])
abbrev MC:Type:=(Int×Int×bm×Unit)
abbrev yU:Ty:=(bq [i64,i64,ek])
abbrev sq:Type:=(Int×Int×Int×Int×Row×Unit)
abbrev ru:Ty:=(bq [i64,i64,i64,i64,bd])
abbrev ay:Type:=(Int×Int×sq×Unit)
abbrev gv:Ty:=(bq [i64,i64,ru])
abbrev Plain:Type:=((List Row)×(List Tx)×Int×Unit)
abbrev Cg:Ty:=(bq [(.aa bd),(.aa ca),i64])
abbrev dr:Type:=(Int×(List cd)×(List (List UInt8))×Unit)
abbrev db:Ty:=(bq [i64,(.aa nM),(.aa (.aa u8))])
abbrev mE:Type:=(Int×Int×bj×Unit)
abbrev gz:Ty:=(bq [i64,i64,ci])
abbrev ZE:Type:=(Int×Bool×Change×Unit)
abbrev Yv:Ty:=(bq [i64,.bool,an])
abbrev aT:Type:=((List (List UInt8))×(List cd)×Unit)
abbrev cv:Ty:=(bq [(.aa (.aa u8)),(.aa nM)])
abbrev Seen:Type:=(Row×Int×Int×Bool×Int×Int×Unit)
abbrev gc:Ty:=(bq [bd,i64,i64,.bool,i64,i64])
abbrev zo:Type:=(Int×(List Row)×Unit)
abbrev vS:Ty:=(bq [i64,(.aa bd)])
abbrev xe:Type:=(Int×Int×(List UInt8)×Unit)
abbrev ld:Ty:=(bq [i64,i64,(.aa u8)])
abbrev abg:Type:=(Int×(List Tx)×Unit)
abbrev aaG:Ty:=(bq [i64,(.aa ca)])
abbrev abJ:Type:=(Int×(List Int)×(List Int)×bj×Unit)
abbrev abh:Ty:=(bq [i64,(.aa i64),(.aa i64),ci])
abbrev Buffer:Type:=(Int×(List Change)×Unit)
abbrev gi:Ty:=(bq [i64,(.aa an)])
abbrev W5:Type:=((List (List UInt8))×(List Buffer)×Unit)
abbrev Tu:Ty:=(bq [(.aa (.aa u8)),(.aa gi)])
abbrev aak:Type:=(Int×Bool×Bool×Int×(List Change)×W5×Unit)
abbrev ZF:Ty:=(bq [i64,.bool,.bool,i64,(.aa an),Tu])
abbrev aal:Type:=(Int×(List Buffer)×W5×Unit)
abbrev ZG:Ty:=(bq [i64,(.aa gi),Tu])
abbrev qG:Type:=cd
abbrev aca:Ty:=nM
noncomputable def bc:TL:=[(23,(.aa u8)),(2,i64),(22,(.aa (.aa u8))),(43,bd),(5,u8),(3,i64),(70,(.aa an)),(4,.bool),(36,(.aa ca)),(157,ca),(94,an),(35,ee),(173,ek),(222,be),(98,(.aa bd)),(155,(.aa be)),(38,ci),(9,.str),(216,ru),(54,(.aa i64)),(171,(.aa nM)),(227,db),(183,nM),(218,gv),(72,gi),(409,ld),(40,gz),(225,(.aa nM)),(249,gc),(375,cv),(416,cv),(65,(.aa an)),(130,(.aa ek)),(213,(.aa gv)),(265,nM),(25,ee),(26,(.aa ca)),(30,bd),(142,(.aa be)),(144,ca),(149,Cg),(160,(.aa gc)),(190,an),(28,ci),(67,gi),(244,(.map be .bool)),(281,yU),(313,be),(325,vS),(316,(.arr 64 .bool)),(317,(.int .u64)),(318,(.map (.arr 2 i64) bd)),(319,(.arr 2 i64)),(321,(.map (.arr 2 i64) .bool))]
theorem aw:(QV prog bc&&La prog bc)=true:=by kernel_rfl
namespace nh
abbrev Arg:Type:=(List UInt8)×Int×Unit
abbrev Out:Type:=Int×Unit
noncomputable def D:FD:={ fn:=f85,tl:=bc,ps:=[(.ro,(.aa u8)),(.ro,i64)],rs:=[(i64,(ak i64))] }
noncomputable def ab (a:Arg):Option Out:=@lift Out λk=>D.W k a
noncomputable def p (a1:Arg):Option Out:=bif decide (af (a1.2.1 - (a1.1.length:Int)) < (0:Int)) then (some ((-1:Int),())) else some (af (a1.2.1 - (a1.1.length:Int)),())
theorem ae (k:Nat) (a1:Arg):@Eq (Option Out) (D.W k a1) (p a1):=by kernel_rfl
theorem ok:Ok prog 85 D.sig:=am func85 aw (by kernel_rfl) (aj _)
end nh
namespace r_
abbrev Arg:Type:=(List (List UInt8))×Int×Unit
abbrev Out:Type:=Int×Unit
abbrev OO:=Option Out
noncomputable def D:FD:={ fn:=f35,tl:=bc,ps:=[(.ro,(.aa (.aa u8))),(.ro,i64)],rs:=[(i64,(ak i64))],gl:=[(85,nh.D.sig)],lv:=[(5,[0,1,5])],lx:=[(0,[1])] }
noncomputable def ab (a:Arg):OO:=@lift Out λk=>D.W k a
noncomputable def T0 (a1:Arg) (U:Int×Int):St:={ n:=27,sl:=[(0,.val (.aa (.aa u8)) a1.1),(1,.val i64 U.1),(5,.val i64 U.2)],vr:=[],az:=[] }
noncomputable def b0 (self:(Int×Int)->OO) (e0:Int->OO) (a1:Arg) (U:Int×Int):OO:=bif decide (U.2 < (a1.1.length:Int)) then (if 0<=U.2 then ((a1.1[U.2.toNat]?).bind λa8=>(nh.ab (a8,U.1,())).bind λdg=>bif decide (dg.1 < (0:Int)) then (some ((-1:Int),())) else self (dg.1,af (U.2+(1:Int)))) else none) else e0 U.1
noncomputable def q0 (a1:Arg) (et:Int):OO:=some (et,())
noncomputable def s0 (k:Nat) (a1:Arg):(Int×Int)->OO:=λU=>D.L k [1,1,1,0,1,0,0] [0,1,5] [] (ah 0 (av (D.N k [1,1,1,1]) D.K0)) (T0 a1 U)
noncomputable def r0 (k:Nat) (a1:Arg):(Int×Int)->OO:=al (λw v=>b0 w (q0 a1) a1 v) k
theorem aq (k:Nat) (a1:Arg):s0 k a1=r0 k a1:=
 funext λU=>ap _ _ _ (T0 a1) _ (λrec v=>by kernel_rfl) k U
noncomputable def p (l0:(Int×Int)->OO) (a1:Arg):OO:=bif decide (af (a1.2.1 - (a1.1.length:Int)) < (0:Int)) then (some ((-1:Int),())) else l0 (af (a1.2.1 - (a1.1.length:Int)),(0:Int))
theorem ae (k:Nat) (a1:Arg):@Eq OO (D.W k a1) (p (r0 k a1) a1):=
 aQ (b:=p (s0 k a1) a1) (by kernel_rfl) (by rw[aq])
theorem ok:Ok prog 35 D.sig:=am func35 aw (by kernel_rfl) (fc nh.ok (aj _))
end r_
namespace sr
abbrev Arg:Type:=Log×Int×Unit
abbrev Out:Type:=Int×Unit
noncomputable def D:FD:={ fn:=f36,tl:=bc,ps:=[(.ro,ee),(.ro,i64)],rs:=[(i64,(ak i64))],gl:=[(85,nh.D.sig)] }
noncomputable def ab (a:Arg):Option Out:=@lift Out λk=>D.W k a
noncomputable def p (a1:Arg):Option Out:=(nh.ab (a1.1.1,a1.2.1,())).bind λr2=>bif decide (r2.1 < (0:Int)) then (some ((-1:Int),())) else (nh.ab (a1.1.2.1,r2.1,())).bind λr3=>bif decide (r3.1 < (0:Int)) then (some ((-1:Int),())) else some (r3.1,())
theorem ae (k:Nat) (a1:Arg):@Eq (Option Out) (D.W k a1) (p a1):=by kernel_rfl
theorem ok:Ok prog 36 D.sig:=am func36 aw (by kernel_rfl) (fc nh.ok (aj _))
end sr
namespace qW
abbrev Arg:Type:=Row×Int×Unit
abbrev Out:Type:=Int×Unit
noncomputable def D:FD:={ fn:=f38,tl:=bc,ps:=[(.ro,bd),(.ro,i64)],rs:=[(i64,(ak i64))] }
noncomputable def ab (a:Arg):Option Out:=@lift Out λk=>D.W k a
noncomputable def p (a1:Arg):Option Out:=bif decide (af (a1.2.1 - (a1.1.2.2.2.1.length:Int)) < (0:Int)) then (some ((-1:Int),())) else some (af (a1.2.1 - (a1.1.2.2.2.1.length:Int)),())
theorem ae (k:Nat) (a1:Arg):@Eq (Option Out) (D.W k a1) (p a1):=by kernel_rfl
theorem ok:Ok prog 38 D.sig:=am func38 aw (by kernel_rfl) (aj _)
end qW
namespace n7
abbrev Arg:Type:=Change×Int×Unit
abbrev Out:Type:=Int×Unit
noncomputable def D:FD:={ fn:=f123,tl:=bc,ps:=[(.ro,an),(.ro,i64)],rs:=[(i64,(ak i64))],gl:=[(38,qW.D.sig)] }
noncomputable def ab (a:Arg):Option Out:=@lift Out λk=>D.W k a
noncomputable def p (a1:Arg):Option Out:=(qW.ab (a1.1.2.1,a1.2.1,())).bind λr2=>bif decide (r2.1 < (0:Int)) then (some ((-1:Int),())) else (qW.ab (a1.1.2.2.2.1,r2.1,())).bind λr3=>bif decide (r3.1 < (0:Int)) then (some ((-1:Int),())) else some (r3.1,())
theorem ae (k:Nat) (a1:Arg):@Eq (Option Out) (D.W k a1) (p a1):=by kernel_rfl
theorem ok:Ok prog 123 D.sig:=am func123 aw (by kernel_rfl) (fc qW.ok (aj _))
end n7
namespace nE
abbrev Arg:Type:=(List Change)×Int×Unit
abbrev Out:Type:=Int×Unit
abbrev OO:=Option Out
noncomputable def D:FD:={ fn:=f64,tl:=bc,ps:=[(.ro,(.aa an)),(.ro,i64)],rs:=[(i64,(ak i64))],gl:=[(123,n7.D.sig)],lv:=[(5,[0,1,5])],lx:=[(0,[1])] }
noncomputable def ab (a:Arg):OO:=@lift Out λk=>D.W k a
noncomputable def T0 (a1:Arg) (U:Int×Int):St:={ n:=27,sl:=[(0,.val (.aa an) a1.1),(1,.val i64 U.1),(5,.val i64 U.2)],vr:=[],az:=[] }
noncomputable def b0 (self:(Int×Int)->OO) (e0:Int->OO) (a1:Arg) (U:Int×Int):OO:=bif decide (U.2 < (a1.1.length:Int)) then (if 0<=U.2 then ((a1.1[U.2.toNat]?).bind λa8=>(n7.ab (a8,U.1,())).bind λdg=>bif decide (dg.1 < (0:Int)) then (some ((-1:Int),())) else self (dg.1,af (U.2+(1:Int)))) else none) else e0 U.1
noncomputable def q0 (a1:Arg) (et:Int):OO:=some (et,())
noncomputable def s0 (k:Nat) (a1:Arg):(Int×Int)->OO:=λU=>D.L k [1,1,1,0,1,0,0] [0,1,5] [] (ah 0 (av (D.N k [1,1,1,1]) D.K0)) (T0 a1 U)
noncomputable def r0 (k:Nat) (a1:Arg):(Int×Int)->OO:=al (λw v=>b0 w (q0 a1) a1 v) k
theorem aq (k:Nat) (a1:Arg):s0 k a1=r0 k a1:=
 funext λU=>ap _ _ _ (T0 a1) _ (λrec v=>by kernel_rfl) k U
noncomputable def p (l0:(Int×Int)->OO) (a1:Arg):OO:=bif decide (af (a1.2.1 - (a1.1.length:Int)) < (0:Int)) then (some ((-1:Int),())) else l0 (af (a1.2.1 - (a1.1.length:Int)),(0:Int))
theorem ae (k:Nat) (a1:Arg):@Eq OO (D.W k a1) (p (r0 k a1) a1):=
 aQ (b:=p (s0 k a1) a1) (by kernel_rfl) (by rw[aq])
theorem ok:Ok prog 64 D.sig:=am func64 aw (by kernel_rfl) (fc n7.ok (aj _))
end nE
namespace sa
abbrev Arg:Type:=(List Int)×Int×Unit
abbrev Out:Type:=Int×Unit
noncomputable def D:FD:={ fn:=f145,tl:=bc,ps:=[(.ro,(.aa i64)),(.ro,i64)],rs:=[(i64,(ak i64))] }
noncomputable def ab (a:Arg):Option Out:=@lift Out λk=>D.W k a
noncomputable def p (a1:Arg):Option Out:=bif decide (af (a1.2.1 - (a1.1.length:Int)) < (0:Int)) then (some ((-1:Int),())) else some (af (a1.2.1 - (a1.1.length:Int)),())
theorem ae (k:Nat) (a1:Arg):@Eq (Option Out) (D.W k a1) (p a1):=by kernel_rfl
theorem ok:Ok prog 145 D.sig:=am func145 aw (by kernel_rfl) (aj _)
end sa
namespace ux
abbrev Arg:Type:=(List Key)×Int×Unit
abbrev Out:Type:=Int×Unit
noncomputable def D:FD:={ fn:=f146,tl:=bc,ps:=[(.ro,(.aa be)),(.ro,i64)],rs:=[(i64,(ak i64))] }
noncomputable def ab (a:Arg):Option Out:=@lift Out λk=>D.W k a
noncomputable def p (a1:Arg):Option Out:=bif decide (af (a1.2.1 - (a1.1.length:Int)) < (0:Int)) then (some ((-1:Int),())) else some (af (a1.2.1 - (a1.1.length:Int)),())
theorem ae (k:Nat) (a1:Arg):@Eq (Option Out) (D.W k a1) (p a1):=by kernel_rfl
theorem ok:Ok prog 146 D.sig:=am func146 aw (by kernel_rfl) (aj _)
end ux
namespace st
abbrev Arg:Type:=Tx×Int×Unit
abbrev Out:Type:=Int×Unit
noncomputable def D:FD:={ fn:=f86,tl:=bc,ps:=[(.ro,ca),(.ro,i64)],rs:=[(i64,(ak i64))],gl:=[(64,nE.D.sig),(145,sa.D.sig),(146,ux.D.sig)] }
noncomputable def ab (a:Arg):Option Out:=@lift Out λk=>D.W k a
noncomputable def p (a1:Arg):Option Out:=(nE.ab (a1.1.2.1,a1.2.1,())).bind λr2=>bif decide (r2.1 < (0:Int)) then (some ((-1:Int),())) else (sa.ab (a1.1.2.2.1,r2.1,())).bind λr3=>bif decide (r3.1 < (0:Int)) then (some ((-1:Int),())) else (ux.ab (a1.1.2.2.2.1,r3.1,())).bind λr4=>bif decide (r4.1 < (0:Int)) then (some ((-1:Int),())) else some (r4.1,())
theorem ae (k:Nat) (a1:Arg):@Eq (Option Out) (D.W k a1) (p a1):=by kernel_rfl
theorem ok:Ok prog 86 D.sig:=am func86 aw (by kernel_rfl) (fc nE.ok (fc sa.ok (fc ux.ok (aj _))))
end st
namespace vt
abbrev Arg:Type:=(List Tx)×Int×Unit
abbrev Out:Type:=Int×Unit
abbrev OO:=Option Out
noncomputable def D:FD:={ fn:=f37,tl:=bc,ps:=[(.ro,(.aa ca)),(.ro,i64)],rs:=[(i64,(ak i64))],gl:=[(86,st.D.sig)],lv:=[(5,[0,1,5])],lx:=[(0,[1])] }
noncomputable def ab (a:Arg):OO:=@lift Out λk=>D.W k a
noncomputable def T0 (a1:Arg) (U:Int×Int):St:={ n:=27,sl:=[(0,.val (.aa ca) a1.1),(1,.val i64 U.1),(5,.val i64 U.2)],vr:=[],az:=[] }
noncomputable def b0 (self:(Int×Int)->OO) (e0:Int->OO) (a1:Arg) (U:Int×Int):OO:=bif decide (U.2 < (a1.1.length:Int)) then (if 0<=U.2 then ((a1.1[U.2.toNat]?).bind λa8=>(st.ab (a8,U.1,())).bind λdg=>bif decide (dg.1 < (0:Int)) then (some ((-1:Int),())) else self (dg.1,af (U.2+(1:Int)))) else none) else e0 U.1
noncomputable def q0 (a1:Arg) (et:Int):OO:=some (et,())
noncomputable def s0 (k:Nat) (a1:Arg):(Int×Int)->OO:=λU=>D.L k [1,1,1,0,1,0,0] [0,1,5] [] (ah 0 (av (D.N k [1,1,1,1]) D.K0)) (T0 a1 U)
noncomputable def r0 (k:Nat) (a1:Arg):(Int×Int)->OO:=al (λw v=>b0 w (q0 a1) a1 v) k
theorem aq (k:Nat) (a1:Arg):s0 k a1=r0 k a1:=
 funext λU=>ap _ _ _ (T0 a1) _ (λrec v=>by kernel_rfl) k U
noncomputable def p (l0:(Int×Int)->OO) (a1:Arg):OO:=bif decide (af (a1.2.1 - (a1.1.length:Int)) < (0:Int)) then (some ((-1:Int),())) else l0 (af (a1.2.1 - (a1.1.length:Int)),(0:Int))
theorem ae (k:Nat) (a1:Arg):@Eq OO (D.W k a1) (p (r0 k a1) a1):=
 aQ (b:=p (s0 k a1) a1) (by kernel_rfl) (by rw[aq])
theorem ok:Ok prog 37 D.sig:=am func37 aw (by kernel_rfl) (fc st.ok (aj _))
end vt
namespace qc
abbrev Arg:Type:=bj×Int×Unit
abbrev Out:Type:=Int×Unit
noncomputable def D:FD:={ fn:=f7,tl:=bc,ps:=[(.ro,ci),(.ro,i64)],rs:=[(i64,(ak i64))],gl:=[(35,r_.D.sig),(36,sr.D.sig),(37,vt.D.sig)] }
noncomputable def ab (a:Arg):Option Out:=@lift Out λk=>D.W k a
noncomputable def p (a1:Arg):Option Out:=(r_.ab (a1.1.2.1,a1.2.1,())).bind λr2=>bif decide (r2.1 < (0:Int)) then (some ((-1:Int),())) else (sr.ab (a1.1.2.2.1,r2.1,())).bind λr3=>bif decide (r3.1 < (0:Int)) then (some ((-1:Int),())) else (vt.ab (a1.1.2.2.2.1,r3.1,())).bind λr4=>bif decide (r4.1 < (0:Int)) then (some ((-1:Int),())) else some (r4.1,())
theorem ae (k:Nat) (a1:Arg):@Eq (Option Out) (D.W k a1) (p a1):=by kernel_rfl
theorem ok:Ok prog 7 D.sig:=am func7 aw (by kernel_rfl) (fc r_.ok (fc sr.ok (fc vt.ok (aj _))))
end qc
namespace br
abbrev Arg:Type:=Int×Int×Int×Unit
abbrev Out:Type:=Bool×Unit
noncomputable def D:FD:={ fn:=f65,tl:=bc,ps:=[(.ro,i64),(.ro,i64),(.ro,i64)],rs:=[(.bool,(ak .bool))] }
noncomputable def ab (a:Arg):Option Out:=@lift Out λk=>D.W k a
noncomputable def p (a1:Arg):Option Out:=bif decide (a1.2.1<=a1.1) then (some (decide (a1.1<=a1.2.2.1),())) else some (false,())
theorem ae (k:Nat) (a1:Arg):@Eq (Option Out) (D.W k a1) (p a1):=by kernel_rfl
theorem ok:Ok prog 65 D.sig:=am func65 aw (by kernel_rfl) (aj _)
end br
namespace nv
abbrev Arg:Type:=Int×Unit
abbrev Out:Type:=Bool×Unit
noncomputable def D:FD:={ fn:=f209,tl:=bc,ps:=[(.ro,i64)],rs:=[(.bool,(ak .bool))],gl:=[(65,br.D.sig)] }
noncomputable def ab (a:Arg):Option Out:=@lift Out λk=>D.W k a
noncomputable def p (a1:Arg):Option Out:=(br.ab (a1.1,(2:Int),(4:Int),())).bind λr2=>some (r2.1,())
theorem ae (k:Nat) (a1:Arg):@Eq (Option Out) (D.W k a1) (p a1):=by kernel_rfl
theorem ok:Ok prog 209 D.sig:=am func209 aw (by kernel_rfl) (fc br.ok (aj _))
end nv
namespace jF
abbrev Arg:Type:=(List cd)×Unit
abbrev Out:Type:=Int×Unit
abbrev OO:=Option Out
noncomputable def D:FD:={ fn:=f210,tl:=bc,ps:=[(.ro,(.aa nM))],rs:=[(i64,(ak i64))],gl:=[(65,br.D.sig)],lv:=[(4,[0,3])],lx:=[(0,[])],od:=[(9,[0,1,2,3,4,5,6,7,8,9,10,11,12,13,14,15,16,17,18,19,20,21,22,23])] }
noncomputable def ab (a:Arg):OO:=@lift Out λk=>D.W k a
noncomputable def T0 (a1:Arg) (U:Int):St:={ n:=66,sl:=[(0,.val (.aa nM) a1.1),(3,.val i64 U)],vr:=[],az:=[] }
noncomputable def b0 (self:Int->OO) (e0:(Unit)->OO) (a1:Arg) (U:Int):OO:=bif decide (U < (a1.1.length:Int)) then (if 0<=U then ((a1.1[U.toNat]?).bind λa8=>if 0<=U then ((a1.1[U.toNat]?).bind λgx=>(br.ab (gx.1,(0:Int),(63:Int),())).bind λls=>bif !ls.1 then (some ((3:Int),())) else (br.ab ((a8.2.1.length:Int),(1:Int),(64:Int),())).bind λjy=>bif !jy.1 then (some ((3:Int),())) else if 0<=U then ((a1.1[U.toNat]?).bind λrY=>bif decide ((64:Int) < af (rY.1+(a8.2.1.length:Int))) then (some ((3:Int),())) else bif decide ((0:Int) < U) then (if 0<=U then ((a1.1[U.toNat]?).bind λAy=>if 0<=af (U - (1:Int)) then ((a1.1[(af (U - (1:Int))).toNat]?).bind λxf=>if 0<=af (U - (1:Int)) then ((a1.1[(af (U - (1:Int))).toNat]?).bind λG4=>bif decide (Ay.1<=af (xf.1+(G4.2.1.length:Int))) then (some ((1:Int),())) else self (af (U+(1:Int)))) else none) else none) else none) else self (af (U+(1:Int)))) else none) else none) else none) else e0 ()
noncomputable def q0 (a1:Arg) (Vk:(Unit)):OO:=some ((0:Int),())
noncomputable def s0 (k:Nat) (a1:Arg):(Int)->OO:=λU=>D.L k [1,1,0,1,0,0] [0,3] [] (ah 0 (av (D.N k [1,1,1]) D.K0)) (T0 a1 U)
noncomputable def r0 (k:Nat) (a1:Arg):(Int)->OO:=al (λw v=>b0 w (q0 a1) a1 v) k
theorem aq (k:Nat) (a1:Arg):s0 k a1=r0 k a1:=
 funext λU=>ap _ _ _ (T0 a1) _ (λrec v=>by kernel_rfl) k U
noncomputable def p (l0:(Int)->OO) (a1:Arg):OO:=bif decide ((64:Int) < (a1.1.length:Int)) then (some ((2:Int),())) else l0 (0:Int)
theorem ae (k:Nat) (a1:Arg):@Eq OO (D.W k a1) (p (r0 k a1) a1):=
 aQ (b:=p (s0 k a1) a1) (by kernel_rfl) (by rw[aq])
theorem ok:Ok prog 210 D.sig:=am func210 aw (by kernel_rfl) (fc br.ok (aj _))
end jF
namespace ni
abbrev Arg:Type:=bm×Unit
abbrev Out:Type:=Int×Unit
abbrev OO:=Option Out
noncomputable def D:FD:={ fn:=f136,tl:=bc,ps:=[(.ro,(.ptr ek))],rs:=[(i64,(ak i64))],gl:=[(65,br.D.sig),(209,nv.D.sig),(210,jF.D.sig)] }
noncomputable def ab (a:Arg):OO:=@lift Out λk=>D.W k a
noncomputable def p (a1:Arg):OO:=let W6:OO:=let j20:OO:=(nv.ab (a1.1.1,())).bind λIc=>bif !Ic.1 then (some ((0:Int),())) else (jF.ab (a1.1.2.2.2.1,())).bind λPK=>bif !decide (PK.1=(0:Int)) then (some (PK.1,())) else bif decide ((a1.1.2.2.2.1.length:Int)=(0:Int)) then (some ((1:Int),())) else bif decide (a1.1.1=(4:Int)) then ((a1.1.2.2.2.1[0]?).bind λMD=>bif !decide ((MD.2.1.length:Int)=(64:Int)) then (some ((1:Int),())) else some ((0:Int),())) else some ((0:Int),());bif !decide (a1.1.1=(4:Int)) then ((br.ab (a1.1.2.1,(1:Int),(99:Int),())).bind λxg=>bif !xg.1 then (some ((3:Int),())) else (br.ab (a1.1.2.2.1,(0:Int),(11:Int),())).bind λEz=>bif !Ez.1 then (some ((3:Int),())) else j20) else (br.ab (a1.1.2.2.1,(0:Int),(11:Int),())).bind λAz=>bif !Az.1 then (some ((3:Int),())) else j20;(br.ab (a1.1.1,(1:Int),(6:Int),())).bind λr2=>bif !r2.1 then (some ((1:Int),())) else (nv.ab (a1.1.1,())).bind λr3=>bif !r3.1 then (bif !decide (a1.1.2.2.1=(0:Int)) then (some ((1:Int),())) else bif decide ((0:Int) < (a1.1.2.2.2.1.length:Int)) then (some ((1:Int),())) else bif decide (a1.1.1=(4:Int)) then (bif !decide (a1.1.2.1=(0:Int)) then (some ((1:Int),())) else W6) else W6) else bif decide (a1.1.1=(4:Int)) then (bif !decide (a1.1.2.1=(0:Int)) then (some ((1:Int),())) else W6) else W6
theorem ae (k:Nat) (a1:Arg):@Eq OO (D.W k a1) (p a1):=by kernel_rfl
theorem ok:Ok prog 136 D.sig:=am func136 aw (by kernel_rfl) (fc br.ok (fc nv.ok (fc jF.ok (aj _))))
end ni
namespace mP
abbrev Arg:Type:=(List UInt8)×Unit
abbrev Out:Type:=Int×Unit
abbrev OO:=Option Out
noncomputable def D:FD:={ fn:=f311,tl:=bc,ps:=[(.ro,(.aa u8))],rs:=[(i64,(ak i64))],lv:=[(3,[0,3,4])],lx:=[(0,[3])] }
noncomputable def ab (a:Arg):OO:=@lift Out λk=>D.W k a
noncomputable def T0 (a1:Arg) (U:Int×Int):St:={ n:=21,sl:=[(0,.val (.aa u8) a1.1),(3,.val i64 U.1),(4,.val i64 U.2)],vr:=[],az:=[] }
noncomputable def b0 (self:(Int×Int)->OO) (e0:Int->OO) (a1:Arg) (U:Int×Int):OO:=bif decide (U.2 < (a1.1.length:Int)) then (if 0<=U.2 then ((a1.1[U.2.toNat]?).bind λa8=>self ((af ((af (U.1*(31:Int)))+(af (a8.toNat:Int)))).tmod (65521:Int),af (U.2+(1:Int)))) else none) else e0 U.1
noncomputable def q0 (a1:Arg) (mM:Int):OO:=some (mM,())
noncomputable def s0 (k:Nat) (a1:Arg):(Int×Int)->OO:=λU=>D.L k [1,1,0,1,0,0] [0,3,4] [] (ah 0 (av (D.N k [1,1,1]) D.K0)) (T0 a1 U)
noncomputable def r0 (k:Nat) (a1:Arg):(Int×Int)->OO:=al (λw v=>b0 w (q0 a1) a1 v) k
theorem aq (k:Nat) (a1:Arg):s0 k a1=r0 k a1:=
 funext λU=>ap _ _ _ (T0 a1) _ (λrec v=>by kernel_rfl) k U
noncomputable def p (l0:(Int×Int)->OO) (a1:Arg):OO:=l0 ((1:Int),(0:Int))
theorem ae (k:Nat) (a1:Arg):@Eq OO (D.W k a1) (p (r0 k a1) a1):=
 aQ (b:=p (s0 k a1) a1) (by kernel_rfl) (by rw[aq])
theorem ok:Ok prog 311 D.sig:=am func311 aw (by kernel_rfl) (aj _)
end mP
namespace jR
abbrev Arg:Type:=bm×Unit
abbrev Out:Type:=(List UInt8)×Unit
abbrev OO:=Option Out
noncomputable def D:FD:={ fn:=f272,tl:=bc,ps:=[(.ro,(.ptr ek))],rs:=[((.aa u8),(ai (.aa u8)))],gl:=[(311,mP.D.sig)],lv:=[(3,[0,3,4])],lx:=[(0,[3])],od:=[(1,[0,1,2,3,4,5,6,7,8,9,10,11,12,13,14,15,16,17,18,19,20,21,22]),(5,[0,1,2,3,4,5,6,7,8,9,10,11,12,13,14,15,16,17,18,19,22,23,24,25,26,27,28,29,20,21,30,31])],ar:=[(5,[4,8,9,13,17,19,25,29])] }
noncomputable def ab (a:Arg):OO:=@lift Out λk=>D.W k a
noncomputable def T0 (a1:Arg) (U:(List UInt8)×Int):St:={ n:=85,sl:=[(0,.cp ek a1.1),(3,.own (.aa u8) (ai (.aa u8)) [] U.1),(4,.val i64 U.2)],vr:=[],az:=[] }
noncomputable def b0 (self:((List UInt8)×Int)->OO) (e0:(List UInt8)->OO) (a1:Arg) (U:(List UInt8)×Int):OO:=bif decide (U.2 < (a1.1.2.2.2.1.length:Int)) then (if 0<=U.2 then ((a1.1.2.2.2.1[U.2.toNat]?).bind λa8=>if 0<=U.2 then ((a1.1.2.2.2.1[U.2.toNat]?).bind λgx=>if 0<=U.2 then ((a1.1.2.2.2.1[U.2.toNat]?).bind λdw=>if U.1.length+[UInt8.ofInt a8.1,UInt8.ofInt (gx.2.1.length:Int)].length<=cg then (let xh:=U.1++[UInt8.ofInt a8.1,UInt8.ofInt (gx.2.1.length:Int)];if xh.length+dw.2.1.length<=cg then (self (xh++dw.2.1,af (U.2+(1:Int)))) else none) else none) else none) else none) else none) else e0 U.1
noncomputable def q0 (a1:Arg) (lg:(List UInt8)):OO:=if 0<=(0:Int)/\(0:Int) < (lg.length:Int) then ((lg[0]?).bind λAy=>let G5:=lg.set 0 (UInt8.ofInt (af ((lg.length:Int)+(2:Int))));(mP.ab (G5,())).bind λxi=>if G5.length+[UInt8.ofInt (af (xi.1.tdiv (256:Int))),UInt8.ofInt (xi.1.tmod (256:Int))].length<=cg then (let Vl:=G5++[UInt8.ofInt (af (xi.1.tdiv (256:Int))),UInt8.ofInt (xi.1.tmod (256:Int))];some (Vl,())) else none) else none
noncomputable def s0 (k:Nat) (a1:Arg):((List UInt8)×Int)->OO:=λU=>D.L k [1,1,0,1,0,0] [0,3,4] [] (ah 0 (av (D.N k [1,1,1]) D.K0)) (T0 a1 U)
noncomputable def r0 (k:Nat) (a1:Arg):((List UInt8)×Int)->OO:=al (λw v=>b0 w (q0 a1) a1 v) k
theorem aq (k:Nat) (a1:Arg):s0 k a1=r0 k a1:=
 funext λU=>ap _ _ _ (T0 a1) _ (λrec v=>by kernel_rfl) k U
noncomputable def p (l0:((List UInt8)×Int)->OO) (a1:Arg):OO:=l0 ([(0:UInt8),UInt8.ofInt a1.1.1,UInt8.ofInt a1.1.2.1,UInt8.ofInt a1.1.2.2.1,UInt8.ofInt (a1.1.2.2.2.1.length:Int)],(0:Int))
theorem ae (k:Nat) (a1:Arg):@Eq OO (D.W k a1) (p (r0 k a1) a1):=
 aQ (b:=p (s0 k a1) a1) (by kernel_rfl) (by rw[aq])
theorem ok:Ok prog 272 D.sig:=am func272 aw (by kernel_rfl) (fc mP.ok (aj _))
end jR
namespace cb
abbrev Arg:Type:=(List UInt8)×Unit
abbrev Out:Type:=(List UInt8)×Unit
noncomputable def D:FD:={ fn:=f139,tl:=bc,ps:=[(.ro,(.aa u8))],rs:=[((.aa u8),(ai (.aa u8)))] }
noncomputable def ab (a:Arg):Option Out:=@lift Out λk=>D.W k a
noncomputable def p (a1:Arg):Option Out:=if ([]:List UInt8).length+a1.1.length<=cg then (some (([]:List UInt8)++a1.1,())) else none
theorem ae (k:Nat) (a1:Arg):@Eq (Option Out) (D.W k a1) (p a1):=by kernel_rfl
theorem ok:Ok prog 139 D.sig:=am func139 aw (by kernel_rfl) (aj _)
end cb
namespace lV
abbrev Arg:Type:=(List UInt8)×Unit
abbrev Out:Type:=bm×Unit
abbrev OO:=Option Out
noncomputable def D:FD:={ fn:=f276,tl:=bc,ps:=[(.ro,(.aa u8))],rs:=[(ek,(ai ek))],gl:=[(139,cb.D.sig)],lv:=[(4,[0,2,3,4,5])],lx:=[(0,[2,3])],od:=[(1,[0,1,2,3,4,5,6,7,8,9,10,11,12,13,14]),(8,[0,1,2,3,4,5,6,7,8,9,10,11,12,13,14,15,16,17,18,19,20])] }
noncomputable def ab (a:Arg):OO:=@lift Out λk=>D.W k a
noncomputable def T0 (a1:Arg) (dj:bm×Int×Int):St:={ n:=73,sl:=[(0,.val (.aa u8) a1.1),(2,.box ek (ai ek) [] ((0:Int),(0:Int),(0:Int),([]:List cd),())),(3,.box ek (ai ek) [] dj.1),(4,.val i64 dj.2.1),(5,.val i64 dj.2.2)],vr:=[],az:=[] }
noncomputable def b0 (self:(bm×Int×Int)->OO) (e0:bm->OO) (a1:Arg) (dj:bm×Int×Int):OO:=(a1.1[4]?).bind λrL=>bif decide (dj.2.2 < af (rL.toNat:Int)) then (bif decide (af (dj.2.1+(2:Int))<=(a1.1.length:Int)) then (if 0<=af (dj.2.1+(1:Int)) then ((a1.1[(af (dj.2.1+(1:Int))).toNat]?).bind λrY=>bif decide ((a1.1.length:Int) < af ((af (dj.2.1+(2:Int)))+(af (rY.toNat:Int)))) then (e0 dj.1) else if 0<=dj.2.1 then ((a1.1[dj.2.1.toNat]?).bind λAy=>if 0<=af (dj.2.1+(2:Int))/\af (dj.2.1+(2:Int))<=af ((af (dj.2.1+(2:Int)))+(af (rY.toNat:Int)))/\af ((af (dj.2.1+(2:Int)))+(af (rY.toNat:Int)))<=(a1.1.length:Int) then ((cb.ab ((a1.1.take (af ((af (dj.2.1+(2:Int)))+(af (rY.toNat:Int)))).toNat).drop (af (dj.2.1+(2:Int))).toNat,())).bind λuX=>if dj.1.2.2.2.1.length+[(af (Ay.toNat:Int),uX.1,())].length<=cg then (let yV:=dj.1.2.2.2.1++[(af (Ay.toNat:Int),uX.1,())];self ((dj.1.1,dj.1.2.1,dj.1.2.2.1,yV,dj.1.2.2.2.2),af ((af (dj.2.1+(2:Int)))+(af (rY.toNat:Int))),af (dj.2.2+(1:Int)))) else none) else none) else none) else none) else e0 dj.1) else e0 dj.1
noncomputable abbrev B0 (_:Nat):=b0
noncomputable def q0 (a1:Arg) (Vk:bm):OO:=some (Vk,())
noncomputable abbrev Q0 (_:Nat):=q0
noncomputable def s0 (k:Nat) (a1:Arg):(bm×Int×Int)->OO:=λdj=>D.L k [1,1,1,0,1,0,0] [0,2,3,4,5] [] (ah 0 (av (D.N k [1,1,1,1]) D.K0)) (T0 a1 dj)
noncomputable def r0 (k:Nat) (a1:Arg):(bm×Int×Int)->OO:=al (λw v=>B0 k w (Q0 k a1) a1 v) k
theorem aq (k:Nat) (a1:Arg):s0 k a1=r0 k a1:=
 funext λdj=>ap _ _ _ (T0 a1) _ (λrec v=>by kernel_rfl) k dj
noncomputable def p (l0:(bm×Int×Int)->OO) (a1:Arg):OO:=(a1.1[1]?).bind λx2=>(a1.1[2]?).bind λx3=>(a1.1[3]?).bind λx4=>l0 ((af (x2.toNat:Int),af (x3.toNat:Int),af (x4.toNat:Int),([]:List cd),()),(5:Int),(0:Int))
theorem ae (k:Nat) (a1:Arg):@Eq OO (D.W k a1) (p (r0 k a1) a1):=
 aQ (b:=p (s0 k a1) a1) (by kernel_rfl) (by rw[aq])
theorem ok:Ok prog 276 D.sig:=am func276 aw (by kernel_rfl) (fc cb.ok (aj _))
end lV
namespace nR
abbrev Arg:Type:=(List UInt8)×Unit
abbrev Out:Type:=MC×Unit
noncomputable def D:FD:={ fn:=f216,tl:=bc,ps:=[(.ro,(.aa u8))],rs:=[(yU,(ai yU))],gl:=[(136,ni.D.sig),(272,jR.D.sig),(276,lV.D.sig)],od:=[(5,[0,1,2,5,6,7,8,3,4,9,10])],ar:=[(5,[8])] }
noncomputable def ab (a:Arg):Option Out:=@lift Out λk=>D.W k a
noncomputable def p (a1:Arg):Option Out:=bif decide ((a1.1.length:Int) < (7:Int)) then (some (((5:Int),(0:Int),((0:Int),(0:Int),(0:Int),([]:List cd),()),()),())) else (a1.1[0]?).bind λx2=>bif decide (af (x2.toNat:Int) < (7:Int)) then (some (((5:Int),(0:Int),((0:Int),(0:Int),(0:Int),([]:List cd),()),()),())) else (a1.1[0]?).bind λx3=>bif decide ((a1.1.length:Int) < af (x3.toNat:Int)) then (some (((5:Int),(0:Int),((0:Int),(0:Int),(0:Int),([]:List cd),()),()),())) else (a1.1[0]?).bind λx4=>if 0<=af (x4.toNat:Int)/\af (x4.toNat:Int)<=(a1.1.length:Int) then ((lV.ab ((a1.1.take (af (x4.toNat:Int)).toNat).drop 0,())).bind λr5=>(ni.ab (r5.1,())).bind λr6=>bif !decide (r6.1=(0:Int)) then (some (((5:Int),(0:Int),((0:Int),(0:Int),(0:Int),([]:List cd),()),()),())) else if 0<=af (x4.toNat:Int)/\af (x4.toNat:Int)<=(a1.1.length:Int) then ((jR.ab (r5.1,())).bind λr7=>bif !decide (r7.1=(a1.1.take (af (x4.toNat:Int)).toNat).drop 0) then (some (((5:Int),(0:Int),((0:Int),(0:Int),(0:Int),([]:List cd),()),()),())) else some (((0:Int),af (x4.toNat:Int),r5.1,()),())) else none) else none
theorem ae (k:Nat) (a1:Arg):@Eq (Option Out) (D.W k a1) (p a1):=by kernel_rfl
theorem ok:Ok prog 216 D.sig:=am func216 aw (by kernel_rfl) (fc ni.ok (fc jR.ok (fc lV.ok (aj _))))
end nR
namespace jw
abbrev Arg:Type:=(List UInt8)×Unit
abbrev Out:Type:=(List bm)×Int×Unit
abbrev OO:=Option Out
noncomputable def D:FD:={ fn:=f138,tl:=bc,ps:=[(.ro,(.aa u8))],rs:=[((.aa ek),(ai (.aa ek))),(i64,(ak i64))],gl:=[(216,nR.D.sig)],lv:=[(3,[0,4,5])],lx:=[(0,[4,5])] }
noncomputable def ab (a:Arg):OO:=@lift Out λk=>D.W k a
noncomputable def T0 (a1:Arg) (U:(List bm)×Int):St:={ n:=30,sl:=[(0,.val (.aa u8) a1.1),(4,.own (.aa ek) (ai (.aa ek)) [] U.1),(5,.val i64 U.2)],vr:=[],az:=[] }
noncomputable def b0 (self:((List bm)×Int)->OO) (e0:((List bm)×Int)->OO) (a1:Arg) (U:(List bm)×Int):OO:=bif decide (U.2 < (a1.1.length:Int)) then (if 0<=U.2/\U.2<=(a1.1.length:Int) then ((nR.ab ((a1.1.take a1.1.length).drop U.2.toNat,())).bind λvH=>bif !decide (vH.1.1=(0:Int)) then (e0 (U.1,U.2)) else if U.1.length+[vH.1.2.2.1].length<=cg then (self (U.1++[vH.1.2.2.1],af (U.2+vH.1.2.1))) else none) else none) else e0 (U.1,U.2)
noncomputable abbrev B0 (_:Nat):=b0
noncomputable def q0 (a1:Arg) (mM:((List bm)×Int)):OO:=some (mM.1,mM.2,())
noncomputable abbrev Q0 (_:Nat):=q0
noncomputable def s0 (k:Nat) (a1:Arg):((List bm)×Int)->OO:=λU=>D.L k [1,1,1,0,0,0] [0,4,5] [] (ah 0 (av (D.N k [1,1,1,1]) D.K0)) (T0 a1 U)
noncomputable def r0 (k:Nat) (a1:Arg):((List bm)×Int)->OO:=al (λw v=>B0 k w (Q0 k a1) a1 v) k
theorem aq (k:Nat) (a1:Arg):s0 k a1=r0 k a1:=
 funext λU=>ap _ _ _ (T0 a1) _ (λrec v=>by kernel_rfl) k U
noncomputable def p (l0:((List bm)×Int)->OO) (a1:Arg):OO:=l0 (([]:List bm),(0:Int))
theorem ae (k:Nat) (a1:Arg):@Eq OO (D.W k a1) (p (r0 k a1) a1):=
 aQ (b:=p (s0 k a1) a1) (by kernel_rfl) (by rw[aq])
theorem ok:Ok prog 138 D.sig:=am func138 aw (by kernel_rfl) (fc nR.ok (aj _))
end jw
namespace oX
abbrev Arg:Type:=Log×Unit
abbrev Out:Type:=(List bm)×Unit
noncomputable def D:FD:={ fn:=f76,tl:=bc,ps:=[(.ro,(.ptr ee))],rs:=[((.aa ek),(ai (.aa ek)))],gl:=[(138,jw.D.sig),(139,cb.D.sig)],od:=[(1,[0,1,2,3,5,6,7,8,4,9,10,11,12,13,14,15])] }
noncomputable def ab (a:Arg):Option Out:=@lift Out λk=>D.W k a
noncomputable def p (a1:Arg):Option Out:=(cb.ab (a1.1.1,())).bind λr2=>if r2.1.length+a1.1.2.1.length<=cg then ((jw.ab (r2.1++a1.1.2.1,())).bind λr3=>some (r3.1,())) else none
theorem ae (k:Nat) (a1:Arg):@Eq (Option Out) (D.W k a1) (p a1):=by kernel_rfl
theorem ok:Ok prog 76 D.sig:=am func76 aw (by kernel_rfl) (fc jw.ok (fc cb.ok (aj _)))
end oX
namespace qd
abbrev Arg:Type:=Log×Unit
abbrev Out:Type:=Int×Unit
noncomputable def D:FD:={ fn:=f87,tl:=bc,ps:=[(.ro,(.ptr ee))],rs:=[(i64,(ak i64))],gl:=[(138,jw.D.sig)],od:=[(1,[0,1,2,3,4,5,6,7,8,9,10,11])] }
noncomputable def ab (a:Arg):Option Out:=@lift Out λk=>D.W k a
noncomputable def p (a1:Arg):Option Out:=bif decide ((16000:Int) < af ((a1.1.1.length:Int)+(a1.1.2.1.length:Int))) then (some ((2:Int),())) else (jw.ab (a1.1.1,())).bind λr2=>bif !decide (r2.2.1=(a1.1.1.length:Int)) then (some ((5:Int),())) else (jw.ab (a1.1.2.1,())).bind λr3=>bif !decide (r3.2.1=(a1.1.2.1.length:Int)) then (some ((5:Int),())) else some ((0:Int),())
theorem ae (k:Nat) (a1:Arg):@Eq (Option Out) (D.W k a1) (p a1):=by kernel_rfl
theorem ok:Ok prog 87 D.sig:=am func87 aw (by kernel_rfl) (fc jw.ok (aj _))
end qd
namespace cu
abbrev Arg:Type:=(List UInt8)×Unit
abbrev Out:Type:=Int×Unit
noncomputable def D:FD:={ fn:=f228,tl:=bc,ps:=[(.ro,(.aa u8))],rs:=[(i64,(ak i64))] }
noncomputable def ab (a:Arg):Option Out:=@lift Out λk=>D.W k a
noncomputable def p (a1:Arg):Option Out:=(a1.1[0]?).bind λx2=>some (af (x2.toNat:Int),())
theorem ae (k:Nat) (a1:Arg):@Eq (Option Out) (D.W k a1) (p a1):=by kernel_rfl
theorem ok:Ok prog 228 D.sig:=am func228 aw (by kernel_rfl) (aj _)
end cu
namespace bt
abbrev Arg:Type:=(List UInt8)×Int×Unit
abbrev Out:Type:=Int×Unit
noncomputable def D:FD:={ fn:=f229,tl:=bc,ps:=[(.ro,(.aa u8)),(.ro,i64)],rs:=[(i64,(ak i64))] }
noncomputable def ab (a:Arg):Option Out:=@lift Out λk=>D.W k a
noncomputable def p (a1:Arg):Option Out:=if 0<=af ((3:Int)+(af ((2:Int)*a1.2.1))) then ((a1.1[(af ((3:Int)+(af ((2:Int)*a1.2.1)))).toNat]?).bind λx2=>some (af (x2.toNat:Int),())) else none
theorem ae (k:Nat) (a1:Arg):@Eq (Option Out) (D.W k a1) (p a1):=by kernel_rfl
theorem ok:Ok prog 229 D.sig:=am func229 aw (by kernel_rfl) (aj _)
end bt
namespace kq
abbrev Arg:Type:=(List UInt8)×Unit
abbrev Out:Type:=Int×Unit
noncomputable def D:FD:={ fn:=f284,tl:=bc,ps:=[(.ro,(.aa u8))],rs:=[(i64,(ak i64))] }
noncomputable def ab (a:Arg):Option Out:=@lift Out λk=>D.W k a
noncomputable def p (a1:Arg):Option Out:=(a1.1[1]?).bind λx2=>some (af (x2.toNat:Int),())
theorem ae (k:Nat) (a1:Arg):@Eq (Option Out) (D.W k a1) (p a1):=by kernel_rfl
theorem ok:Ok prog 284 D.sig:=am func284 aw (by kernel_rfl) (aj _)
end kq
namespace g_
abbrev Arg:Type:=(List UInt8)×Int×Unit
abbrev Out:Type:=Int×Unit
noncomputable def D:FD:={ fn:=f288,tl:=bc,ps:=[(.ro,(.aa u8)),(.ro,i64)],rs:=[(i64,(ak i64))] }
noncomputable def ab (a:Arg):Option Out:=@lift Out λk=>D.W k a
noncomputable def p (a1:Arg):Option Out:=if 0<=af ((2:Int)+(af ((2:Int)*a1.2.1))) then ((a1.1[(af ((2:Int)+(af ((2:Int)*a1.2.1)))).toNat]?).bind λx2=>some (af (x2.toNat:Int),())) else none
theorem ae (k:Nat) (a1:Arg):@Eq (Option Out) (D.W k a1) (p a1):=by kernel_rfl
theorem ok:Ok prog 288 D.sig:=am func288 aw (by kernel_rfl) (aj _)
end g_
namespace sP
abbrev Arg:Type:=(List UInt8)×Int×Unit
abbrev Out:Type:=Bool×Unit
noncomputable def D:FD:={ fn:=f285,tl:=bc,ps:=[(.ro,(.aa u8)),(.ro,i64)],rs:=[(.bool,(ak .bool))],gl:=[(229,bt.D.sig),(284,kq.D.sig),(288,g_.D.sig)] }
noncomputable def ab (a:Arg):Option Out:=@lift Out λk=>D.W k a
noncomputable def p (a1:Arg):Option Out:=(g_.ab (a1.1,a1.2.1,())).bind λr2=>(bt.ab (a1.1,a1.2.1,())).bind λr3=>bif decide (r2.1=(0:Int)) then (some (decide (r2.1=r3.1),())) else bif decide (r3.1=(0:Int)) then (some (decide (r2.1=r3.1),())) else (kq.ab (a1.1,())).bind λr4=>bif decide (r4.1<=r2.1) then (some (decide (af (r2.1+r3.1)<=(64:Int)),())) else some (false,())
theorem ae (k:Nat) (a1:Arg):@Eq (Option Out) (D.W k a1) (p a1):=by kernel_rfl
theorem ok:Ok prog 285 D.sig:=am func285 aw (by kernel_rfl) (fc bt.ok (fc kq.ok (fc g_.ok (aj _))))
end sP
namespace qe
abbrev Arg:Type:=(List UInt8)×Int×Int×Unit
abbrev Out:Type:=Bool×Unit
noncomputable def D:FD:={ fn:=f286,tl:=bc,ps:=[(.ro,(.aa u8)),(.ro,i64),(.ro,i64)],rs:=[(.bool,(ak .bool))],gl:=[(229,bt.D.sig),(288,g_.D.sig)] }
noncomputable def ab (a:Arg):Option Out:=@lift Out λk=>D.W k a
noncomputable def p (a1:Arg):Option Out:=(bt.ab (a1.1,a1.2.1,())).bind λr2=>bif decide (r2.1=(0:Int)) then (some (true,())) else (bt.ab (a1.1,a1.2.2.1,())).bind λr3=>bif decide (r3.1=(0:Int)) then (some (true,())) else (g_.ab (a1.1,a1.2.1,())).bind λr4=>(bt.ab (a1.1,a1.2.1,())).bind λr5=>(g_.ab (a1.1,a1.2.2.1,())).bind λr6=>bif decide (af (r4.1+r5.1)<=r6.1) then (some (true,())) else (g_.ab (a1.1,a1.2.2.1,())).bind λr7=>(bt.ab (a1.1,a1.2.2.1,())).bind λr8=>(g_.ab (a1.1,a1.2.1,())).bind λr9=>some (decide (af (r7.1+r8.1)<=r9.1),())
theorem ae (k:Nat) (a1:Arg):@Eq (Option Out) (D.W k a1) (p a1):=by kernel_rfl
theorem ok:Ok prog 286 D.sig:=am func286 aw (by kernel_rfl) (fc bt.ok (fc g_.ok (aj _)))
end qe
namespace cw
abbrev Arg:Type:=(List UInt8)×Unit
abbrev Out:Type:=Int×Unit
abbrev OO:=Option Out
noncomputable def D:FD:={ fn:=f227,tl:=bc,ps:=[(.ro,(.aa u8))],rs:=[(i64,(ak i64))],gl:=[(228,cu.D.sig),(229,bt.D.sig),(284,kq.D.sig),(285,sP.D.sig),(286,qe.D.sig)],lv:=[(7,[0,3,4]),(12,[0,3,5]),(15,[0,3,5,6])],lx:=[(0,[0,3]),(2,[0,3]),(4,[0,3,5])] }
noncomputable def ab (a:Arg):OO:=@lift Out λk=>D.W k a
noncomputable def T0 (a1:Arg) (dm:Int) (dj:Int):St:={ n:=60,sl:=[(0,.val (.aa u8) a1.1),(3,.val i64 dm),(4,.val i64 dj)],vr:=[],az:=[] }
noncomputable def S0 (rec:RT Out) (a1:Arg) (dm:Int):(Int)->OO:=λdj=>rec (T0 a1 dm dj)
noncomputable def cx (K:KT Out) (a1:Arg) (dm:Int):(Unit)->OO:=λz=>K (.exit 0) ({ n:=60,sl:=[(0,.val (.aa u8) a1.1),(3,.val i64 dm)],vr:=[],az:=[] })
noncomputable def b0 (self:Int->OO) (e0:(Unit)->OO) (a1:Arg) (dm:Int) (dj:Int):OO:=bif decide (dj < dm) then ((sP.ab (a1.1,dj,())).bind λjz=>bif !jz.1 then (some ((3:Int),())) else self (af (dj+(1:Int)))) else e0 ()
theorem lB (k:Nat) (rec:RT Out) (K:KT Out) (a1:Arg) (dm:Int) (dj:Int):D.N k [1,1,1,1,0,1,0,0] (T0 a1 dm dj) (iV rec (fw [0,3,4] []) K)=b0 (S0 rec a1 dm) (cx K a1 dm) a1 dm dj:=by kernel_rfl
noncomputable def T1 (a1:Arg) (gd:(List UInt8)×Int×Int):St:={ n:=60,sl:=[(0,.val (.aa u8) gd.1),(3,.val i64 gd.2.1),(5,.val i64 gd.2.2)],vr:=[],az:=[] }
noncomputable def S1 (rec:RT Out) (a1:Arg):((List UInt8)×Int×Int)->OO:=λgd=>rec (T1 a1 gd)
noncomputable def jA (K:KT Out) (a1:Arg):((List UInt8)×Int)->OO:=λz=>K (.exit 2) ({ n:=60,sl:=[(0,.val (.aa u8) z.1),(3,.val i64 z.2)],vr:=[],az:=[] })
noncomputable def T2 (a1:Arg) (jK:List UInt8) (ii:Int) (en:Int) (zp:Int):St:={ n:=60,sl:=[(0,.val (.aa u8) jK),(3,.val i64 ii),(5,.val i64 en),(6,.val i64 zp)],vr:=[],az:=[] }
noncomputable def b2 (self:Int->OO) (e4:(Unit)->OO) (a1:Arg) (jK:List UInt8) (ii:Int) (en:Int) (zp:Int):OO:=bif decide (zp < en) then ((qe.ab (jK,en,zp,())).bind λQY=>bif !QY.1 then (some ((8:Int),())) else self (af (zp+(1:Int)))) else e4 ()
noncomputable def q1 (self:((List UInt8)×Int×Int)->OO) (e2:((List UInt8)×Int)->OO) (a1:Arg) (jK:List UInt8) (ii:Int) (en:Int) (FF:(Unit)):OO:=self (jK,ii,af (en+(1:Int)))
noncomputable def s2 (k:Nat) (rec:RT Out) (K:KT Out) (a1:Arg):(List UInt8)->Int->Int->(Int)->OO:=λjK ii en=>λzp=>D.L k [1,1,1,1,1,0,1,0,0,1,0,0,1,0,0] [0,3,5,6] [] (ah 4 (ah 3 (av (D.N k [1,1,1,1,1,0,1,0,0,1,1]) (iV rec (fw [0,3,5] []) K)))) (T2 a1 jK ii en zp)
noncomputable def r2 (k:Nat) (self:((List UInt8)×Int×Int)->OO) (e2:((List UInt8)×Int)->OO) (a1:Arg):(List UInt8)->Int->Int->(Int)->OO:=λjK ii en=>al (λw v=>b2 w (q1 self e2 a1 jK ii en) a1 jK ii en v) k
theorem su (k:Nat) (rec:RT Out) (K:KT Out) (a1:Arg):s2 k rec K a1=r2 k (S1 rec a1) (jA K a1) a1:=
 funext λjK=>funext λii=>funext λen=>funext λzp=>ap _ _ _ (T2 a1 jK ii en) _ (λrec v=>by kernel_rfl) k zp
noncomputable def b1 (self:((List UInt8)×Int×Int)->OO) (e2:((List UInt8)×Int)->OO) (l2:(List UInt8)->Int->Int->(Int)->OO) (a1:Arg) (gd:(List UInt8)×Int×Int):OO:=bif decide (gd.2.2 < gd.2.1) then (l2 gd.1 gd.2.1 gd.2.2 (0:Int)) else e2 (gd.1,gd.2.1)
noncomputable def B1 (k:Nat) (self:((List UInt8)×Int×Int)->OO) (e2:((List UInt8)×Int)->OO) (a1:Arg) (gd:(List UInt8)×Int×Int):OO:=b1 self e2 (r2 k self e2 a1) a1 gd
theorem tT (k:Nat) (rec:RT Out) (K:KT Out) (a1:Arg) (gd:(List UInt8)×Int×Int):D.N k [1,1,1,1,1,0,1,0,0] (T1 a1 gd) (iV rec (fw [0,3,5] []) K)=B1 k (S1 rec a1) (jA K a1) a1 gd:=
 aQ (b:=b1 (S1 rec a1) (jA K a1) (s2 k rec K a1) a1 gd) (by kernel_rfl) (by rw[su];rfl)
noncomputable def q2 (a1:Arg) (vu:((List UInt8)×Int)):OO:=bif decide ((0:Int) < vu.2) then ((bt.ab (vu.1,af (vu.2 - (1:Int)),())).bind λaaH=>bif decide (aaH.1=(0:Int)) then (some ((8:Int),())) else some ((0:Int),())) else some ((0:Int),())
theorem vv (k:Nat) (a1:Arg) (vu:((List UInt8)×Int)):jA (ah 2 (av (D.N k [1,1,1,1,1,1]) D.K0)) a1 vu=q2 a1 vu:=by kernel_rfl
noncomputable def s1 (k:Nat) (a1:Arg) (dm:Int):((List UInt8)×Int×Int)->OO:=λgd=>D.L k [1,1,1,1,1,0,1,0,0] [0,3,5] [] (ah 2 (av (D.N k [1,1,1,1,1,1]) D.K0)) (T1 a1 gd)
noncomputable def r1 (k:Nat) (a1:Arg) (dm:Int):((List UInt8)×Int×Int)->OO:=al (λw v=>B1 k w (q2 a1) a1 v) k
theorem lC (k:Nat) (a1:Arg) (dm:Int):s1 k a1 dm=r1 k a1 dm:=by
 funext gd;have h2:jA (ah 2 (av (D.N k [1,1,1,1,1,1]) D.K0)) a1=q2 a1:=funext λz=>vv k a1 z;refine (ap _ _ _ (T1 a1) (λself v=>B1 k self (jA (ah 2 (av (D.N k [1,1,1,1,1,1]) D.K0)) a1) a1 v) (λrec v=>tT k rec (ah 2 (av (D.N k [1,1,1,1,1,1]) D.K0)) a1 v) k gd).trans ?_;rw[h2];rfl
noncomputable def q0 (l1:((List UInt8)×Int×Int)->OO) (a1:Arg) (dm:Int) (rM:(Unit)):OO:=l1 (a1.1,dm,(0:Int))
noncomputable def Q0 (k:Nat) (a1:Arg) (dm:Int) (rM:(Unit)):OO:=q0 (r1 k a1 dm) a1 dm rM
theorem sv (k:Nat) (a1:Arg) (dm:Int) (rM:(Unit)):cx (ah 0 (av (D.N k [1,1,1,1,1]) D.K0)) a1 dm rM=Q0 k a1 dm rM:=
 aQ (b:=q0 (s1 k a1 dm) a1 dm rM) (by kernel_rfl) (by rw[lC];rfl)
noncomputable def s0 (k:Nat) (a1:Arg):Int->(Int)->OO:=λdm=>λdj=>D.L k [1,1,1,1,0,1,0,0] [0,3,4] [] (ah 0 (av (D.N k [1,1,1,1,1]) D.K0)) (T0 a1 dm dj)
noncomputable def r0 (k:Nat) (a1:Arg):Int->(Int)->OO:=λdm=>al (λw v=>b0 w (Q0 k a1 dm) a1 dm v) k
theorem aq (k:Nat) (a1:Arg):s0 k a1=r0 k a1:=by
 funext dm;funext dj;have h0:cx (ah 0 (av (D.N k [1,1,1,1,1]) D.K0)) a1 dm=Q0 k a1 dm:=funext λz=>sv k a1 dm z;refine (ap _ _ _ (T0 a1 dm) (λself v=>b0 self (cx (ah 0 (av (D.N k [1,1,1,1,1]) D.K0)) a1 dm) a1 dm v) (λrec v=>lB k rec (ah 0 (av (D.N k [1,1,1,1,1]) D.K0)) a1 dm v) k dj).trans ?_;rw[h0];rfl
noncomputable def p (l0:Int->(Int)->OO) (a1:Arg):OO:=bif !decide ((a1.1.length:Int)=(64:Int)) then (some ((1:Int),())) else (cu.ab (a1.1,())).bind λr2=>bif decide ((16:Int) < r2.1) then (some ((3:Int),())) else (kq.ab (a1.1,())).bind λr3=>bif decide (r3.1 < af ((2:Int)+(af ((2:Int)*r2.1)))) then (some ((3:Int),())) else (kq.ab (a1.1,())).bind λr4=>bif decide ((64:Int) < r4.1) then (some ((3:Int),())) else l0 r2.1 (0:Int)
theorem ae (k:Nat) (a1:Arg):@Eq OO (D.W k a1) (p (r0 k a1) a1):=
 aQ (b:=p (s0 k a1) a1) (by kernel_rfl) (by rw[aq])
theorem ok:Ok prog 227 D.sig:=am func227 aw (by kernel_rfl) (fc cu.ok (fc bt.ok (fc kq.ok (fc sP.ok (fc qe.ok (aj _))))))
end cw
namespace lW
abbrev Arg:Type:=(List UInt8)×Unit
abbrev Out:Type:=Bool×Unit
abbrev OO:=Option Out
noncomputable def D:FD:={ fn:=f290,tl:=bc,ps:=[(.ro,.str)],rs:=[(.bool,(ak .bool))],lv:=[(2,[0,3])],lx:=[(0,[0])] }
noncomputable def ab (a:Arg):OO:=@lift Out λk=>D.W k a
noncomputable def T0 (a1:Arg) (U:Int):St:={ n:=23,sl:=[(0,.val .str a1.1),(3,.val i64 U)],vr:=[],az:=[] }
noncomputable def b0 (self:Int->OO) (e0:(Unit)->OO) (a1:Arg) (U:Int):OO:=bif decide (U < (a1.1.length:Int)) then (if 0<=U then ((a1.1[U.toNat]?).bind λa8=>bif decide ((a8.toNat:Int) < (97:Int)) then (some (false,())) else if 0<=U then ((a1.1[U.toNat]?).bind λgx=>bif decide ((122:Int) < (gx.toNat:Int)) then (some (false,())) else self (af (U+(1:Int)))) else none) else none) else e0 ()
noncomputable def q0 (a1:Arg) (et:(Unit)):OO:=some (decide ((a1.1.length:Int)<=(8:Int)),())
noncomputable def s0 (k:Nat) (a1:Arg):(Int)->OO:=λU=>D.L k [1,0,1,0,0] [0,3] [] (ah 0 (av (D.N k [1,1]) D.K0)) (T0 a1 U)
noncomputable def r0 (k:Nat) (a1:Arg):(Int)->OO:=al (λw v=>b0 w (q0 a1) a1 v) k
theorem aq (k:Nat) (a1:Arg):s0 k a1=r0 k a1:=
 funext λU=>ap _ _ _ (T0 a1) _ (λrec v=>by kernel_rfl) k U
noncomputable def p (l0:(Int)->OO) (a1:Arg):OO:=l0 (0:Int)
theorem ae (k:Nat) (a1:Arg):@Eq OO (D.W k a1) (p (r0 k a1) a1):=
 aQ (b:=p (s0 k a1) a1) (by kernel_rfl) (by rw[aq])
theorem ok:Ok prog 290 D.sig:=am func290 aw (by kernel_rfl) (aj _)
end lW
namespace jl
abbrev Arg:Type:=Row×Unit
abbrev Out:Type:=Int×Unit
noncomputable def D:FD:={ fn:=f234,tl:=bc,ps:=[(.ro,(.ptr bd))],rs:=[(i64,(ak i64))],gl:=[(65,br.D.sig),(290,lW.D.sig)] }
noncomputable def ab (a:Arg):Option Out:=@lift Out λk=>D.W k a
noncomputable def p (a1:Arg):Option Out:=(br.ab (a1.1.1,(0:Int),(3:Int),())).bind λr2=>bif !r2.1 then (some ((3:Int),())) else (br.ab (a1.1.2.1,(1:Int),(99:Int),())).bind λr3=>bif !r3.1 then (some ((3:Int),())) else (br.ab (a1.1.2.2.1,(0:Int),(999:Int),())).bind λr4=>bif !r4.1 then (some ((3:Int),())) else (lW.ab (a1.1.2.2.2.1,())).bind λr5=>bif !r5.1 then (some ((5:Int),())) else some ((0:Int),())
theorem ae (k:Nat) (a1:Arg):@Eq (Option Out) (D.W k a1) (p a1):=by kernel_rfl
theorem ok:Ok prog 234 D.sig:=am func234 aw (by kernel_rfl) (fc br.ok (fc lW.ok (aj _)))
end jl
namespace qf
abbrev Arg:Type:=Int×Int×Unit
abbrev Out:Type:=Bool×Unit
noncomputable def D:FD:={ fn:=f287,tl:=bc,ps:=[(.ro,i64),(.ro,i64)],rs:=[(.bool,(ak .bool))],gl:=[(65,br.D.sig)] }
noncomputable def ab (a:Arg):Option Out:=@lift Out λk=>D.W k a
noncomputable def p (a1:Arg):Option Out:=(br.ab (a1.1,(0:Int),(11:Int),())).bind λr2=>bif r2.1 then ((br.ab (a1.2.1,(0:Int),(15:Int),())).bind λr3=>some (r3.1,())) else some (false,())
theorem ae (k:Nat) (a1:Arg):@Eq (Option Out) (D.W k a1) (p a1):=by kernel_rfl
theorem ok:Ok prog 287 D.sig:=am func287 aw (by kernel_rfl) (fc br.ok (aj _))
end qf
namespace lX
abbrev Arg:Type:=(List UInt8)×Unit
abbrev Out:Type:=sq×Bool×Unit
noncomputable def D:FD:={ fn:=f230,tl:=bc,ps:=[(.ro,(.aa u8))],rs:=[(ru,(ak ru)),(.bool,(ak .bool))],gl:=[(234,jl.D.sig),(287,qf.D.sig)],od:=[(2,[0,1,2,3,4,5,6,7,8,9,10]),(3,[0,1,2,3,4,5,6,7]),(6,[0,1,2,3,4,5,6,7,8,9,10,11,12,13,14,15,16,17,18,19,20,21,22,23]),(7,[0,1,2,3,4,5,6,7,8,9])] }
noncomputable def ab (a:Arg):Option Out:=@lift Out λk=>D.W k a
noncomputable def p (a1:Arg):Option Out:=let j16:Option Out:=bif decide ((a1.1.length:Int) < (6:Int)) then (some (((0:Int),(0:Int),(0:Int),(0:Int),((0:Int),(0:Int),(0:Int),([]:List UInt8),()),()),false,())) else (a1.1[0]?).bind λx17=>bif decide ((x17.toNat:Int)=(1:Int)) then (some (((0:Int),(0:Int),(0:Int),(0:Int),((0:Int),(0:Int),(0:Int),([]:List UInt8),()),()),false,())) else (a1.1[0]?).bind λZH=>bif decide ((2:Int) < (ZH.toNat:Int)) then (some (((0:Int),(0:Int),(0:Int),(0:Int),((0:Int),(0:Int),(0:Int),([]:List UInt8),()),()),false,())) else (a1.1[5]?).bind λZI=>bif !decide ((a1.1.length:Int)=af ((6:Int)+(af (ZI.toNat:Int)))) then (some (((0:Int),(0:Int),(0:Int),(0:Int),((0:Int),(0:Int),(0:Int),([]:List UInt8),()),()),false,())) else (a1.1[1]?).bind λx20=>(a1.1[2]?).bind λx21=>(a1.1[3]?).bind λx22=>(a1.1[4]?).bind λMD=>if 0<=(6:Int)/\(6:Int)<=(a1.1.length:Int) then (let y24:=af ((af ((af (x22.toNat:Int))*(256:Int)))+(af (MD.toNat:Int)));(a1.1[0]?).bind λx25=>(jl.ab ((af (x20.toNat:Int),af (x21.toNat:Int),y24,(a1.1.take a1.1.length).drop 6,()),())).bind λW7=>some (((0:Int),af (x25.toNat:Int),(0:Int),(0:Int),(af (x20.toNat:Int),af (x21.toNat:Int),y24,(a1.1.take a1.1.length).drop 6,()),()),decide (W7.1=(0:Int)),())) else none;bif decide ((a1.1.length:Int)=(3:Int)) then ((a1.1[0]?).bind λx2=>bif decide ((x2.toNat:Int)=(1:Int)) then ((a1.1[1]?).bind λx3=>(a1.1[2]?).bind λx4=>(qf.ab (af (x3.toNat:Int),af (x4.toNat:Int),())).bind λr5=>some (((0:Int),(1:Int),af (x3.toNat:Int),af (x4.toNat:Int),((0:Int),(0:Int),(0:Int),([]:List UInt8),()),()),r5.1,())) else j16) else j16
theorem ae (k:Nat) (a1:Arg):@Eq (Option Out) (D.W k a1) (p a1):=by kernel_rfl
theorem ok:Ok prog 230 D.sig:=am func230 aw (by kernel_rfl) (fc jl.ok (fc qf.ok (aj _)))
end lX
namespace jS
abbrev Arg:Type:=(List UInt8)×Int×Unit
abbrev Out:Type:=(List UInt8)×Unit
noncomputable def D:FD:={ fn:=f231,tl:=bc,ps:=[(.ro,(.aa u8)),(.ro,i64)],rs:=[((.aa u8),(ai (.aa u8)))],gl:=[(229,bt.D.sig),(288,g_.D.sig)] }
noncomputable def ab (a:Arg):Option Out:=@lift Out λk=>D.W k a
noncomputable def p (a1:Arg):Option Out:=(g_.ab (a1.1,a1.2.1,())).bind λr2=>(bt.ab (a1.1,a1.2.1,())).bind λr3=>if 0<=r2.1/\r2.1<=af (r2.1+r3.1)/\af (r2.1+r3.1)<=(a1.1.length:Int) then (if ([]:List UInt8).length+((a1.1.take (af (r2.1+r3.1)).toNat).drop r2.1.toNat).length<=cg then (let y4:=([]:List UInt8)++((a1.1.take (af (r2.1+r3.1)).toNat).drop r2.1.toNat);some (y4,())) else none) else none
theorem ae (k:Nat) (a1:Arg):@Eq (Option Out) (D.W k a1) (p a1):=by kernel_rfl
theorem ok:Ok prog 231 D.sig:=am func231 aw (by kernel_rfl) (fc bt.ok (fc g_.ok (aj _)))
end jS
namespace gm
abbrev Arg:Type:=(List (List UInt8))×Unit
abbrev Out:Type:=Int×Unit
abbrev OO:=Option Out
noncomputable def D:FD:={ fn:=f147,tl:=bc,ps:=[(.ro,(.aa (.aa u8)))],rs:=[(i64,(ak i64))],gl:=[(227,cw.D.sig),(228,cu.D.sig),(229,bt.D.sig),(230,lX.D.sig),(231,jS.D.sig)],lv:=[(2,[0,3]),(8,[0,3,5])],lx:=[(0,[]),(2,[0,3])] }
noncomputable def ab (a:Arg):OO:=@lift Out λk=>D.W k a
noncomputable def T0 (a1:Arg) (U:(List (List UInt8))×Int):St:={ n:=50,sl:=[(0,.val (.aa (.aa u8)) U.1),(3,.val i64 U.2)],vr:=[],az:=[] }
noncomputable def S0 (rec:RT Out) (a1:Arg):((List (List UInt8))×Int)->OO:=λU=>rec (T0 a1 U)
noncomputable def cx (K:KT Out) (a1:Arg):(Unit)->OO:=λz=>K (.exit 0) ({ n:=50,sl:=[],vr:=[],az:=[] })
noncomputable def T1 (a1:Arg) (ez:List (List UInt8)) (dy:Int) (co:Int):St:={ n:=50,sl:=[(0,.val (.aa (.aa u8)) ez),(3,.val i64 dy),(5,.val i64 co)],vr:=[],az:=[] }
noncomputable def b1 (self:Int->OO) (e2:(Unit)->OO) (a1:Arg) (ez:List (List UInt8)) (dy:Int) (co:Int):OO:=if 0<=dy then ((ez[dy.toNat]?).bind λId=>(cu.ab (Id,())).bind λQZ=>bif decide (co < QZ.1) then (if 0<=dy then ((ez[dy.toNat]?).bind λC4=>(bt.ab (C4,co,())).bind λIe=>bif decide ((0:Int) < Ie.1) then (if 0<=dy then ((ez[dy.toNat]?).bind λFG=>(jS.ab (FG,co,())).bind λsw=>(lX.ab (sw.1,())).bind λBo=>bif !Bo.2.1 then (some ((5:Int),())) else self (af (co+(1:Int)))) else none) else self (af (co+(1:Int)))) else none) else e2 ()) else none
noncomputable def q0 (self:((List (List UInt8))×Int)->OO) (e0:(Unit)->OO) (a1:Arg) (ez:List (List UInt8)) (dy:Int) (zq:(Unit)):OO:=self (ez,af (dy+(1:Int)))
noncomputable def s1 (k:Nat) (rec:RT Out) (K:KT Out) (a1:Arg):(List (List UInt8))->Int->(Int)->OO:=λez dy=>λco=>D.L k [1,0,1,0,0,1,0,0,1,1,0,0] [0,3,5] [] (ah 2 (ah 1 (av (D.N k [1,0,1,0,0,1,1]) (iV rec (fw [0,3] []) K)))) (T1 a1 ez dy co)
noncomputable def r1 (k:Nat) (self:((List (List UInt8))×Int)->OO) (e0:(Unit)->OO) (a1:Arg):(List (List UInt8))->Int->(Int)->OO:=λez dy=>al (λw v=>b1 w (q0 self e0 a1 ez dy) a1 ez dy v) k
theorem lC (k:Nat) (rec:RT Out) (K:KT Out) (a1:Arg):s1 k rec K a1=r1 k (S0 rec a1) (cx K a1) a1:=
 funext λez=>funext λdy=>funext λco=>ap _ _ _ (T1 a1 ez dy) _ (λrec v=>by kernel_rfl) k co
noncomputable def b0 (self:((List (List UInt8))×Int)->OO) (e0:(Unit)->OO) (l1:(List (List UInt8))->Int->(Int)->OO) (a1:Arg) (U:(List (List UInt8))×Int):OO:=bif decide (U.2 < (U.1.length:Int)) then (if 0<=U.2 then ((U.1[U.2.toNat]?).bind λa8=>(cw.ab (a8,())).bind λdg=>bif !decide (dg.1=(0:Int)) then (some (dg.1,())) else l1 U.1 U.2 (0:Int)) else none) else e0 ()
noncomputable def B0 (k:Nat) (self:((List (List UInt8))×Int)->OO) (e0:(Unit)->OO) (a1:Arg) (U:(List (List UInt8))×Int):OO:=b0 self e0 (r1 k self e0 a1) a1 U
theorem lB (k:Nat) (rec:RT Out) (K:KT Out) (a1:Arg) (U:(List (List UInt8))×Int):D.N k [1,0,1,0,0] (T0 a1 U) (iV rec (fw [0,3] []) K)=B0 k (S0 rec a1) (cx K a1) a1 U:=
 aQ (b:=b0 (S0 rec a1) (cx K a1) (s1 k rec K a1) a1 U) (by kernel_rfl) (by rw[lC];rfl)
noncomputable def q1 (a1:Arg) (Lb:(Unit)):OO:=some ((0:Int),())
theorem qX (k:Nat) (a1:Arg) (Lb:(Unit)):cx (ah 0 (av (D.N k [1,1]) D.K0)) a1 Lb=q1 a1 Lb:=by kernel_rfl
noncomputable def s0 (k:Nat) (a1:Arg):((List (List UInt8))×Int)->OO:=λU=>D.L k [1,0,1,0,0] [0,3] [] (ah 0 (av (D.N k [1,1]) D.K0)) (T0 a1 U)
noncomputable def r0 (k:Nat) (a1:Arg):((List (List UInt8))×Int)->OO:=al (λw v=>B0 k w (q1 a1) a1 v) k
theorem aq (k:Nat) (a1:Arg):s0 k a1=r0 k a1:=by
 funext U;have h0:cx (ah 0 (av (D.N k [1,1]) D.K0)) a1=q1 a1:=funext λz=>qX k a1 z;refine (ap _ _ _ (T0 a1) (λself v=>B0 k self (cx (ah 0 (av (D.N k [1,1]) D.K0)) a1) a1 v) (λrec v=>lB k rec (ah 0 (av (D.N k [1,1]) D.K0)) a1 v) k U).trans ?_;rw[h0];rfl
noncomputable def p (l0:((List (List UInt8))×Int)->OO) (a1:Arg):OO:=l0 (a1.1,(0:Int))
theorem ae (k:Nat) (a1:Arg):@Eq OO (D.W k a1) (p (r0 k a1) a1):=
 aQ (b:=p (s0 k a1) a1) (by kernel_rfl) (by rw[aq])
theorem ok:Ok prog 147 D.sig:=am func147 aw (by kernel_rfl) (fc cw.ok (fc cu.ok (fc bt.ok (fc lX.ok (fc jS.ok (aj _))))))
end gm
namespace sx
abbrev Arg:Type:=(List UInt8)×Int×Unit
abbrev Out:Type:=Bool×Unit
noncomputable def D:FD:={ fn:=f289,tl:=bc,ps:=[(.ro,(.aa u8)),(.ro,i64)],rs:=[(.bool,(ak .bool))],gl:=[(65,br.D.sig),(228,cu.D.sig),(229,bt.D.sig)] }
noncomputable def ab (a:Arg):Option Out:=@lift Out λk=>D.W k a
noncomputable def p (a1:Arg):Option Out:=(cu.ab (a1.1,())).bind λr2=>(br.ab (a1.2.1,(0:Int),af (r2.1 - (1:Int)),())).bind λr3=>bif r3.1 then ((bt.ab (a1.1,a1.2.1,())).bind λr4=>some (decide ((0:Int) < r4.1),())) else some (false,())
theorem ae (k:Nat) (a1:Arg):@Eq (Option Out) (D.W k a1) (p a1):=by kernel_rfl
theorem ok:Ok prog 289 D.sig:=am func289 aw (by kernel_rfl) (fc br.ok (fc cu.ok (fc bt.ok (aj _))))
end sx
namespace mF
abbrev Arg:Type:=(List (List UInt8))×Int×Int×Unit
abbrev Out:Type:=sq×Bool×Unit
noncomputable def D:FD:={ fn:=f232,tl:=bc,ps:=[(.ro,(.aa (.aa u8))),(.ro,i64),(.ro,i64)],rs:=[(ru,(ak ru)),(.bool,(ak .bool))],gl:=[(65,br.D.sig),(230,lX.D.sig),(231,jS.D.sig),(289,sx.D.sig)] }
noncomputable def ab (a:Arg):Option Out:=@lift Out λk=>D.W k a
noncomputable def p (a1:Arg):Option Out:=(br.ab (a1.2.1,(0:Int),af ((a1.1.length:Int) - (1:Int)),())).bind λr2=>bif !r2.1 then (some (((0:Int),(0:Int),(0:Int),(0:Int),((0:Int),(0:Int),(0:Int),([]:List UInt8),()),()),false,())) else if 0<=a1.2.1 then ((a1.1[a1.2.1.toNat]?).bind λx3=>(sx.ab (x3,a1.2.2.1,())).bind λr4=>bif !r4.1 then (some (((0:Int),(0:Int),(0:Int),(0:Int),((0:Int),(0:Int),(0:Int),([]:List UInt8),()),()),false,())) else if 0<=a1.2.1 then ((a1.1[a1.2.1.toNat]?).bind λx5=>(jS.ab (x5,a1.2.2.1,())).bind λr6=>(lX.ab (r6.1,())).bind λr7=>some (r7.1,r7.2.1,())) else none) else none
theorem ae (k:Nat) (a1:Arg):@Eq (Option Out) (D.W k a1) (p a1):=by kernel_rfl
theorem ok:Ok prog 232 D.sig:=am func232 aw (by kernel_rfl) (fc br.ok (fc lX.ok (fc jS.ok (fc sx.ok (aj _)))))
end mF
namespace dt
abbrev Arg:Type:=(List ay)×(List (List UInt8))×Unit
abbrev Out:Type:=Int×Unit
abbrev OO:=Option Out
noncomputable def D:FD:={ fn:=f148,tl:=bc,ps:=[(.ro,(.aa gv)),(.ro,(.aa (.aa u8)))],rs:=[(i64,(ak i64))],gl:=[(232,mF.D.sig)],lv:=[(2,[0,1,5]),(9,[0,8]),(12,[0,8,9])],lx:=[(0,[0]),(1,[0,1,5]),(2,[]),(4,[0,8])],od:=[(5,[0,1,2,3,4,5,6,7,8,9,10,11,12,13,14,15,16,17,18,19]),(16,[0,1,2,3,4,5,6,7,8,9,10,11,12,13,14,15,16,17,18,19,20,21,22,23,24,25,26,27,28,29,30,31,32,33])],ar:=[(5,[6,12])],pd:=[(5,[17])] }
noncomputable def ab (a:Arg):OO:=@lift Out λk=>D.W k a
noncomputable def T0 (a1:Arg) (U:Int):St:={ n:=102,sl:=[(0,.val (.aa gv) a1.1),(1,.val (.aa (.aa u8)) a1.2.1),(5,.val i64 U)],vr:=[],az:=[] }
noncomputable def S0 (rec:RT Out) (a1:Arg):(Int)->OO:=λU=>rec (T0 a1 U)
noncomputable def cx (K:KT Out) (a1:Arg):(Unit)->OO:=λz=>K (.exit 0) ({ n:=102,sl:=[(0,.val (.aa gv) a1.1)],vr:=[],az:=[] })
noncomputable def b0 (self:Int->OO) (e0:(Unit)->OO) (a1:Arg) (U:Int):OO:=bif decide (U < (a1.1.length:Int)) then (if 0<=U then ((a1.1[U.toNat]?).bind λa8=>bif !decide (a8.2.2.1.2.1=(1:Int)) then (self (af (U+(1:Int)))) else if 0<=U then ((a1.1[U.toNat]?).bind λgx=>if 0<=U then ((a1.1[U.toNat]?).bind λdw=>(mF.ab (a1.2.1,gx.2.2.1.2.2.1,dw.2.2.1.2.2.2.1,())).bind λjy=>bif !jy.2.1 then (some ((4:Int),())) else bif !decide (jy.1.2.1=(2:Int)) then (some ((4:Int),())) else self (af (U+(1:Int)))) else none) else none) else none) else e0 ()
theorem lB (k:Nat) (rec:RT Out) (K:KT Out) (a1:Arg) (U:Int):D.N k [1,0,1,0,0] (T0 a1 U) (iV rec (fw [0,1,5] []) K)=b0 (S0 rec a1) (cx K a1) a1 U:=by kernel_rfl
noncomputable def T1 (a1:Arg) (de:(List ay)×Int):St:={ n:=102,sl:=[(0,.val (.aa gv) de.1),(8,.val i64 de.2)],vr:=[],az:=[] }
noncomputable def S1 (rec:RT Out) (a1:Arg):((List ay)×Int)->OO:=λde=>rec (T1 a1 de)
noncomputable def jA (K:KT Out) (a1:Arg):(Unit)->OO:=λz=>K (.exit 2) ({ n:=102,sl:=[],vr:=[],az:=[] })
noncomputable def T2 (a1:Arg) (n8:List ay) (jK:Int) (vw:Int):St:={ n:=102,sl:=[(0,.val (.aa gv) n8),(8,.val i64 jK),(9,.val i64 vw)],vr:=[],az:=[] }
noncomputable def b2 (self:Int->OO) (e4:(Unit)->OO) (a1:Arg) (n8:List ay) (jK:Int) (vw:Int):OO:=bif decide (vw < jK) then (if 0<=jK then ((n8[jK.toNat]?).bind λQ5=>if 0<=vw then ((n8[vw.toNat]?).bind λC5=>bif decide (Q5.2.2.1.2.1=(1:Int)) then (bif decide (C5.2.2.1.2.1=(1:Int)) then (bif decide (Q5.2.2.1.2.2.1=C5.2.2.1.2.2.1) then (bif decide (Q5.2.2.1.2.2.2.1=C5.2.2.1.2.2.2.1) then (some ((6:Int),())) else self (af (vw+(1:Int)))) else self (af (vw+(1:Int)))) else self (af (vw+(1:Int)))) else self (af (vw+(1:Int)))) else none) else none) else e4 ()
noncomputable def q1 (self:((List ay)×Int)->OO) (e2:(Unit)->OO) (a1:Arg) (n8:List ay) (jK:Int) (acb:(Unit)):OO:=self (n8,af (jK+(1:Int)))
noncomputable def s2 (k:Nat) (rec:RT Out) (K:KT Out) (a1:Arg):(List ay)->Int->(Int)->OO:=λn8 jK=>λvw=>D.L k [1,1,0,1,0,0,1,0,0,1,0,0] [0,8,9] [] (ah 4 (ah 3 (av (D.N k [1,1,0,1,0,0,1,1]) (iV rec (fw [0,8] []) K)))) (T2 a1 n8 jK vw)
noncomputable def r2 (k:Nat) (self:((List ay)×Int)->OO) (e2:(Unit)->OO) (a1:Arg):(List ay)->Int->(Int)->OO:=λn8 jK=>al (λw v=>b2 w (q1 self e2 a1 n8 jK) a1 n8 jK v) k
theorem su (k:Nat) (rec:RT Out) (K:KT Out) (a1:Arg):s2 k rec K a1=r2 k (S1 rec a1) (jA K a1) a1:=
 funext λn8=>funext λjK=>funext λvw=>ap _ _ _ (T2 a1 n8 jK) _ (λrec v=>by kernel_rfl) k vw
noncomputable def b1 (self:((List ay)×Int)->OO) (e2:(Unit)->OO) (l2:(List ay)->Int->(Int)->OO) (a1:Arg) (de:(List ay)×Int):OO:=bif decide (de.2 < (de.1.length:Int)) then (l2 de.1 de.2 (0:Int)) else e2 ()
noncomputable def B1 (k:Nat) (self:((List ay)×Int)->OO) (e2:(Unit)->OO) (a1:Arg) (de:(List ay)×Int):OO:=b1 self e2 (r2 k self e2 a1) a1 de
theorem tT (k:Nat) (rec:RT Out) (K:KT Out) (a1:Arg) (de:(List ay)×Int):D.N k [1,1,0,1,0,0] (T1 a1 de) (iV rec (fw [0,8] []) K)=B1 k (S1 rec a1) (jA K a1) a1 de:=
 aQ (b:=b1 (S1 rec a1) (jA K a1) (s2 k rec K a1) a1 de) (by kernel_rfl) (by rw[su];rfl)
noncomputable def q2 (a1:Arg) (FF:(Unit)):OO:=some ((0:Int),())
theorem vv (k:Nat) (a1:Arg) (FF:(Unit)):jA (ah 2 (av (D.N k [1,1,1]) D.K0)) a1 FF=q2 a1 FF:=by kernel_rfl
noncomputable def s1 (k:Nat) (a1:Arg):((List ay)×Int)->OO:=λde=>D.L k [1,1,0,1,0,0] [0,8] [] (ah 2 (av (D.N k [1,1,1]) D.K0)) (T1 a1 de)
noncomputable def r1 (k:Nat) (a1:Arg):((List ay)×Int)->OO:=al (λw v=>B1 k w (q2 a1) a1 v) k
theorem lC (k:Nat) (a1:Arg):s1 k a1=r1 k a1:=by
 funext de;have h2:jA (ah 2 (av (D.N k [1,1,1]) D.K0)) a1=q2 a1:=funext λz=>vv k a1 z;refine (ap _ _ _ (T1 a1) (λself v=>B1 k self (jA (ah 2 (av (D.N k [1,1,1]) D.K0)) a1) a1 v) (λrec v=>tT k rec (ah 2 (av (D.N k [1,1,1]) D.K0)) a1 v) k de).trans ?_;rw[h2];rfl
noncomputable def q0 (l1:((List ay)×Int)->OO) (a1:Arg) (lg:(Unit)):OO:=l1 (a1.1,(0:Int))
noncomputable def Q0 (k:Nat) (a1:Arg) (lg:(Unit)):OO:=q0 (r1 k a1) a1 lg
theorem sv (k:Nat) (a1:Arg) (lg:(Unit)):cx (ah 0 (av (D.N k [1,1]) D.K0)) a1 lg=Q0 k a1 lg:=
 aQ (b:=q0 (s1 k a1) a1 lg) (by kernel_rfl) (by rw[lC];rfl)
noncomputable def s0 (k:Nat) (a1:Arg):(Int)->OO:=λU=>D.L k [1,0,1,0,0] [0,1,5] [] (ah 0 (av (D.N k [1,1]) D.K0)) (T0 a1 U)
noncomputable def r0 (k:Nat) (a1:Arg):(Int)->OO:=al (λw v=>b0 w (Q0 k a1) a1 v) k
theorem aq (k:Nat) (a1:Arg):s0 k a1=r0 k a1:=by
 funext U;have h0:cx (ah 0 (av (D.N k [1,1]) D.K0)) a1=Q0 k a1:=funext λz=>sv k a1 z;refine (ap _ _ _ (T0 a1) (λself v=>b0 self (cx (ah 0 (av (D.N k [1,1]) D.K0)) a1) a1 v) (λrec v=>lB k rec (ah 0 (av (D.N k [1,1]) D.K0)) a1 v) k U).trans ?_;rw[h0];rfl
noncomputable def p (l0:(Int)->OO) (a1:Arg):OO:=l0 (0:Int)
theorem ae (k:Nat) (a1:Arg):@Eq OO (D.W k a1) (p (r0 k a1) a1):=
 aQ (b:=p (s0 k a1) a1) (by kernel_rfl) (by rw[aq])
theorem ok:Ok prog 148 D.sig:=am func148 aw (by kernel_rfl) (fc mF.ok (aj _))
end dt
namespace fb
abbrev Arg:Type:=(List (List UInt8))×Unit
abbrev Out:Type:=(List ay)×Unit
abbrev OO:=Option Out
noncomputable def D:FD:={ fn:=f149,tl:=bc,ps:=[(.ro,(.aa (.aa u8)))],rs:=[((.aa gv),(ai (.aa gv)))],gl:=[(228,cu.D.sig),(229,bt.D.sig),(230,lX.D.sig),(231,jS.D.sig)],lv:=[(3,[0,3,4]),(6,[0,3,4,5])],lx:=[(0,[3]),(2,[0,3,4])] }
noncomputable def ab (a:Arg):OO:=@lift Out λk=>D.W k a
noncomputable def T0 (a1:Arg) (U:(List (List UInt8))×(List ay)×Int):St:={ n:=49,sl:=[(0,.val (.aa (.aa u8)) U.1),(3,.own (.aa gv) (ai (.aa gv)) [] U.2.1),(4,.val i64 U.2.2)],vr:=[],az:=[] }
noncomputable def S0 (rec:RT Out) (a1:Arg):((List (List UInt8))×(List ay)×Int)->OO:=λU=>rec (T0 a1 U)
noncomputable def cx (K:KT Out) (a1:Arg):(List ay)->OO:=λz=>K (.exit 0) ({ n:=49,sl:=[(3,.own (.aa gv) (ai (.aa gv)) [] z)],vr:=[],az:=[] })
noncomputable def T1 (a1:Arg) (mD:List (List UInt8)) (kt:Int) (mQ:(List ay)×Int):St:={ n:=49,sl:=[(0,.val (.aa (.aa u8)) mD),(3,.own (.aa gv) (ai (.aa gv)) [] mQ.1),(4,.val i64 kt),(5,.val i64 mQ.2)],vr:=[],az:=[] }
noncomputable def b1 (self:((List ay)×Int)->OO) (e2:(List ay)->OO) (a1:Arg) (mD:List (List UInt8)) (kt:Int) (mQ:(List ay)×Int):OO:=if 0<=kt then ((mD[kt.toNat]?).bind λQ6=>(cu.ab (Q6,())).bind λaaI=>bif decide (mQ.2 < aaI.1) then (if 0<=kt then ((mD[kt.toNat]?).bind λId=>(bt.ab (Id,mQ.2,())).bind λQZ=>bif decide ((0:Int) < QZ.1) then (if 0<=kt then ((mD[kt.toNat]?).bind λC4=>(jS.ab (C4,mQ.2,())).bind λIe=>(lX.ab (Ie.1,())).bind λLc=>if mQ.1.length+[(kt,mQ.2,Lc.1,())].length<=cg then (let Q7:=mQ.1++[(kt,mQ.2,Lc.1,())];self (Q7,af (mQ.2+(1:Int)))) else none) else none) else self (mQ.1,af (mQ.2+(1:Int)))) else none) else e2 mQ.1) else none
noncomputable def q0 (self:((List (List UInt8))×(List ay)×Int)->OO) (e0:(List ay)->OO) (a1:Arg) (mD:List (List UInt8)) (kt:Int) (C6:(List ay)):OO:=self (mD,C6,af (kt+(1:Int)))
noncomputable def s1 (k:Nat) (rec:RT Out) (K:KT Out) (a1:Arg):(List (List UInt8))->Int->((List ay)×Int)->OO:=λmD kt=>λmQ=>D.L k [1,1,0,1,0,0,1,0,0,1,0,0] [0,3,4,5] [] (ah 2 (ah 1 (av (D.N k [1,1,0,1,0,0,1,1]) (iV rec (fw [0,3,4] []) K)))) (T1 a1 mD kt mQ)
noncomputable def r1 (k:Nat) (self:((List (List UInt8))×(List ay)×Int)->OO) (e0:(List ay)->OO) (a1:Arg):(List (List UInt8))->Int->((List ay)×Int)->OO:=λmD kt=>al (λw v=>b1 w (q0 self e0 a1 mD kt) a1 mD kt v) k
theorem lC (k:Nat) (rec:RT Out) (K:KT Out) (a1:Arg):s1 k rec K a1=r1 k (S0 rec a1) (cx K a1) a1:=
 funext λmD=>funext λkt=>funext λmQ=>ap _ _ _ (T1 a1 mD kt) _ (λrec v=>by kernel_rfl) k mQ
noncomputable def b0 (self:((List (List UInt8))×(List ay)×Int)->OO) (e0:(List ay)->OO) (l1:(List (List UInt8))->Int->((List ay)×Int)->OO) (a1:Arg) (U:(List (List UInt8))×(List ay)×Int):OO:=bif decide (U.2.2 < (U.1.length:Int)) then (l1 U.1 U.2.2 (U.2.1,(0:Int))) else e0 U.2.1
noncomputable def B0 (k:Nat) (self:((List (List UInt8))×(List ay)×Int)->OO) (e0:(List ay)->OO) (a1:Arg) (U:(List (List UInt8))×(List ay)×Int):OO:=b0 self e0 (r1 k self e0 a1) a1 U
theorem lB (k:Nat) (rec:RT Out) (K:KT Out) (a1:Arg) (U:(List (List UInt8))×(List ay)×Int):D.N k [1,1,0,1,0,0] (T0 a1 U) (iV rec (fw [0,3,4] []) K)=B0 k (S0 rec a1) (cx K a1) a1 U:=
 aQ (b:=b0 (S0 rec a1) (cx K a1) (s1 k rec K a1) a1 U) (by kernel_rfl) (by rw[lC];rfl)
noncomputable def q1 (a1:Arg) (zq:(List ay)):OO:=some (zq,())
theorem qX (k:Nat) (a1:Arg) (zq:(List ay)):cx (ah 0 (av (D.N k [1,1,1]) D.K0)) a1 zq=q1 a1 zq:=by kernel_rfl
noncomputable def s0 (k:Nat) (a1:Arg):((List (List UInt8))×(List ay)×Int)->OO:=λU=>D.L k [1,1,0,1,0,0] [0,3,4] [] (ah 0 (av (D.N k [1,1,1]) D.K0)) (T0 a1 U)
noncomputable def r0 (k:Nat) (a1:Arg):((List (List UInt8))×(List ay)×Int)->OO:=al (λw v=>B0 k w (q1 a1) a1 v) k
theorem aq (k:Nat) (a1:Arg):s0 k a1=r0 k a1:=by
 funext U;have h0:cx (ah 0 (av (D.N k [1,1,1]) D.K0)) a1=q1 a1:=funext λz=>qX k a1 z;refine (ap _ _ _ (T0 a1) (λself v=>B0 k self (cx (ah 0 (av (D.N k [1,1,1]) D.K0)) a1) a1 v) (λrec v=>lB k rec (ah 0 (av (D.N k [1,1,1]) D.K0)) a1 v) k U).trans ?_;rw[h0];rfl
noncomputable def p (l0:((List (List UInt8))×(List ay)×Int)->OO) (a1:Arg):OO:=l0 (a1.1,([]:List ay),(0:Int))
theorem ae (k:Nat) (a1:Arg):@Eq OO (D.W k a1) (p (r0 k a1) a1):=
 aQ (b:=p (s0 k a1) a1) (by kernel_rfl) (by rw[aq])
theorem ok:Ok prog 149 D.sig:=am func149 aw (by kernel_rfl) (fc cu.ok (fc bt.ok (fc lX.ok (fc jS.ok (aj _)))))
end fb
namespace jh
abbrev Arg:Type:=(List (List UInt8))×Unit
abbrev Out:Type:=(List ay)×Unit
abbrev OO:=Option Out
noncomputable def D:FD:={ fn:=f150,tl:=bc,ps:=[(.ro,(.aa (.aa u8)))],rs:=[((.aa gv),(ai (.aa gv)))],gl:=[(149,fb.D.sig),(232,mF.D.sig)],lv:=[(4,[0,3,4,5])],lx:=[(0,[3]),(1,[0,3,4,5])] }
noncomputable def ab (a:Arg):OO:=@lift Out λk=>D.W k a
noncomputable def T0 (a1:Arg) (dx:List ay) (bf:(List ay)×Int):St:={ n:=50,sl:=[(0,.val (.aa (.aa u8)) a1.1),(3,.own (.aa gv) (ai (.aa gv)) [] bf.1),(4,.own (.aa gv) (ai (.aa gv)) [] dx),(5,.val i64 bf.2)],vr:=[],az:=[] }
noncomputable def b0 (self:((List ay)×Int)->OO) (e0:(List ay)->OO) (a1:Arg) (dx:List ay) (bf:(List ay)×Int):OO:=bif decide (bf.2 < (dx.length:Int)) then (if 0<=bf.2/\bf.2 < (dx.length:Int) then ((dx[bf.2.toNat]?).bind λdw=>bif decide (dw.2.2.1.2.1=(2:Int)) then (self (bf.1,af (bf.2+(1:Int)))) else let ME:=λ(ZJ:ay)=>(if bf.1.length+[ZJ].length<=cg then (self (bf.1++[ZJ],af (bf.2+(1:Int)))) else none:OO);bif decide (dw.2.2.1.2.1=(1:Int)) then ((mF.ab (a1.1,dw.2.2.1.2.2.1,dw.2.2.1.2.2.2.1,())).bind λjy=>ME (dw.1,dw.2.1,(dw.2.2.1.1,dw.2.2.1.2.1,dw.2.2.1.2.2.1,dw.2.2.1.2.2.2.1,jy.1.2.2.2.2.1,dw.2.2.1.2.2.2.2.2),dw.2.2.2)) else ME dw) else none) else e0 bf.1
noncomputable def q0 (a1:Arg) (dx:List ay) (Vm:(List ay)):OO:=some (Vm,())
noncomputable def s0 (k:Nat) (a1:Arg):(List ay)->((List ay)×Int)->OO:=λdx=>λbf=>D.L k [1,1,1,0,1,0,0] [0,3,4,5] [] (ah 0 (av (D.N k [1,1,1,1]) D.K0)) (T0 a1 dx bf)
noncomputable def r0 (k:Nat) (a1:Arg):(List ay)->((List ay)×Int)->OO:=λdx=>al (λw v=>b0 w (q0 a1 dx) a1 dx v) k
theorem aq (k:Nat) (a1:Arg):s0 k a1=r0 k a1:=
 funext λdx=>funext λbf=>ap _ _ _ (T0 a1 dx) _ (λrec v=>by kernel_rfl) k bf
noncomputable def p (l0:(List ay)->((List ay)×Int)->OO) (a1:Arg):OO:=(fb.ab (a1.1,())).bind λr2=>l0 r2.1 (([]:List ay),(0:Int))
theorem ae (k:Nat) (a1:Arg):@Eq OO (D.W k a1) (p (r0 k a1) a1):=
 aQ (b:=p (s0 k a1) a1) (by kernel_rfl) (by rw[aq])
theorem ok:Ok prog 150 D.sig:=am func150 aw (by kernel_rfl) (fc fb.ok (fc mF.ok (aj _)))
end jh
namespace gn
abbrev Arg:Type:=(List (List UInt8))×Unit
abbrev Out:Type:=Int×Unit
abbrev OO:=Option Out
noncomputable def D:FD:={ fn:=f88,tl:=bc,ps:=[(.ro,(.aa (.aa u8)))],rs:=[(i64,(ak i64))],gl:=[(147,gm.D.sig),(148,dt.D.sig),(149,fb.D.sig),(150,jh.D.sig)],lv:=[(11,[5,6]),(14,[5,6,7])],lx:=[(0,[]),(2,[5,6])],od:=[(16,[0,1,2,3,4,5,6,7,8,9,10,11,12,13,14,15,16,17,18,19,20,21,22,23,24,25,26,27,28,29,30,31])] }
noncomputable def ab (a:Arg):OO:=@lift Out λk=>D.W k a
noncomputable def T0 (a1:Arg) (tU:(List ay)×Int):St:={ n:=68,sl:=[(5,.own (.aa gv) (ai (.aa gv)) [] tU.1),(6,.val i64 tU.2)],vr:=[],az:=[] }
noncomputable def S0 (rec:RT Out) (a1:Arg):((List ay)×Int)->OO:=λtU=>rec (T0 a1 tU)
noncomputable def cx (K:KT Out) (a1:Arg):(Unit)->OO:=λz=>K (.exit 0) ({ n:=68,sl:=[],vr:=[],az:=[] })
noncomputable def T1 (a1:Arg) (d0:List ay) (cr:Int) (tV:Int):St:={ n:=68,sl:=[(5,.own (.aa gv) (ai (.aa gv)) [] d0),(6,.val i64 cr),(7,.val i64 tV)],vr:=[],az:=[] }
noncomputable def b1 (self:Int->OO) (e2:(Unit)->OO) (a1:Arg) (d0:List ay) (cr:Int) (tV:Int):OO:=bif decide (tV < cr) then (if 0<=cr/\cr < (d0.length:Int) then ((d0[cr.toNat]?).bind λC4=>if 0<=tV/\tV < (d0.length:Int) then ((d0[tV.toNat]?).bind λBp=>bif decide (C4.2.2.1.2.2.2.2.1.1=Bp.2.2.1.2.2.2.2.1.1) then (if 0<=cr/\cr < (d0.length:Int) then ((d0[cr.toNat]?).bind λFG=>if 0<=tV/\tV < (d0.length:Int) then ((d0[tV.toNat]?).bind λuH=>bif decide (FG.2.2.1.2.2.2.2.1.2.1=uH.2.2.1.2.2.2.2.1.2.1) then (some ((8:Int),())) else self (af (tV+(1:Int)))) else none) else none) else self (af (tV+(1:Int)))) else none) else none) else e2 ()
noncomputable def q0 (self:((List ay)×Int)->OO) (e0:(Unit)->OO) (a1:Arg) (d0:List ay) (cr:Int) (C6:(Unit)):OO:=self (d0,af (cr+(1:Int)))
noncomputable def s1 (k:Nat) (rec:RT Out) (K:KT Out) (a1:Arg):(List ay)->Int->(Int)->OO:=λd0 cr=>λtV=>D.L k [1,1,1,1,1,0,1,0,0,1,0,0,1,0,0] [5,6,7] [] (ah 2 (ah 1 (av (D.N k [1,1,1,1,1,0,1,0,0,1,1]) (iV rec (fw [5,6] []) K)))) (T1 a1 d0 cr tV)
noncomputable def r1 (k:Nat) (self:((List ay)×Int)->OO) (e0:(Unit)->OO) (a1:Arg):(List ay)->Int->(Int)->OO:=λd0 cr=>al (λw v=>b1 w (q0 self e0 a1 d0 cr) a1 d0 cr v) k
theorem lC (k:Nat) (rec:RT Out) (K:KT Out) (a1:Arg):s1 k rec K a1=r1 k (S0 rec a1) (cx K a1) a1:=
 funext λd0=>funext λcr=>funext λtV=>ap _ _ _ (T1 a1 d0 cr) _ (λrec v=>by kernel_rfl) k tV
noncomputable def b0 (self:((List ay)×Int)->OO) (e0:(Unit)->OO) (l1:(List ay)->Int->(Int)->OO) (a1:Arg) (tU:(List ay)×Int):OO:=bif decide (tU.2 < (tU.1.length:Int)) then (l1 tU.1 tU.2 (0:Int)) else e0 ()
noncomputable def B0 (k:Nat) (self:((List ay)×Int)->OO) (e0:(Unit)->OO) (a1:Arg) (tU:(List ay)×Int):OO:=b0 self e0 (r1 k self e0 a1) a1 tU
theorem lB (k:Nat) (rec:RT Out) (K:KT Out) (a1:Arg) (tU:(List ay)×Int):D.N k [1,1,1,1,1,0,1,0,0] (T0 a1 tU) (iV rec (fw [5,6] []) K)=B0 k (S0 rec a1) (cx K a1) a1 tU:=
 aQ (b:=b0 (S0 rec a1) (cx K a1) (s1 k rec K a1) a1 tU) (by kernel_rfl) (by rw[lC];rfl)
noncomputable def q1 (a1:Arg) (zq:(Unit)):OO:=some ((0:Int),())
theorem qX (k:Nat) (a1:Arg) (zq:(Unit)):cx (ah 0 (av (D.N k [1,1,1,1,1,1]) D.K0)) a1 zq=q1 a1 zq:=by kernel_rfl
noncomputable def s0 (k:Nat) (a1:Arg):((List ay)×Int)->OO:=λtU=>D.L k [1,1,1,1,1,0,1,0,0] [5,6] [] (ah 0 (av (D.N k [1,1,1,1,1,1]) D.K0)) (T0 a1 tU)
noncomputable def r0 (k:Nat) (a1:Arg):((List ay)×Int)->OO:=al (λw v=>B0 k w (q1 a1) a1 v) k
theorem aq (k:Nat) (a1:Arg):s0 k a1=r0 k a1:=by
 funext tU;have h0:cx (ah 0 (av (D.N k [1,1,1,1,1,1]) D.K0)) a1=q1 a1:=funext λz=>qX k a1 z;refine (ap _ _ _ (T0 a1) (λself v=>B0 k self (cx (ah 0 (av (D.N k [1,1,1,1,1,1]) D.K0)) a1) a1 v) (λrec v=>lB k rec (ah 0 (av (D.N k [1,1,1,1,1,1]) D.K0)) a1 v) k tU).trans ?_;rw[h0];rfl
noncomputable def p (l0:((List ay)×Int)->OO) (a1:Arg):OO:=bif decide ((12:Int) < (a1.1.length:Int)) then (some ((2:Int),())) else (gm.ab (a1.1,())).bind λr2=>bif !decide (r2.1=(0:Int)) then (some (r2.1,())) else (fb.ab (a1.1,())).bind λr3=>(dt.ab (r3.1,a1.1,())).bind λr4=>bif !decide (r4.1=(0:Int)) then (some (r4.1,())) else (jh.ab (a1.1,())).bind λr5=>l0 (r5.1,(0:Int))
theorem ae (k:Nat) (a1:Arg):@Eq OO (D.W k a1) (p (r0 k a1) a1):=
 aQ (b:=p (s0 k a1) a1) (by kernel_rfl) (by rw[aq])
theorem ok:Ok prog 88 D.sig:=am func88 aw (by kernel_rfl) (fc gm.ok (fc dt.ok (fc fb.ok (fc jh.ok (aj _)))))
end gn
namespace nw
abbrev Arg:Type:=Row×Row×Unit
abbrev Out:Type:=Bool×Unit
noncomputable def D:FD:={ fn:=f233,tl:=bc,ps:=[(.ro,(.ptr bd)),(.ro,(.ptr bd))],rs:=[(.bool,(ak .bool))],od:=[(1,[0,1,2,3,4,5,6,7,8,9,10,11,12,13,14,15,16,17,18,19,20,21,22,23,24,25,26,27,28,29,30,31])] }
noncomputable def ab (a:Arg):Option Out:=@lift Out λk=>D.W k a
noncomputable def p (a1:Arg):Option Out:=bif decide (a1.1.1 < a1.2.1.1) then (some (true,())) else bif decide (a1.1.1=a1.2.1.1) then (some (decide (a1.1.2.1 < a1.2.1.2.1),())) else some (false,())
theorem ae (k:Nat) (a1:Arg):@Eq (Option Out) (D.W k a1) (p a1):=by kernel_rfl
theorem ok:Ok prog 233 D.sig:=am func233 aw (by kernel_rfl) (aj _)
end nw
namespace kQ
abbrev Arg:Type:=(List Row)×Row×Unit
abbrev Out:Type:=(List Row)×Unit
abbrev OO:=Option Out
noncomputable def D:FD:={ fn:=f151,tl:=bc,ps:=[(.ro,(.aa bd)),(.ro,bd)],rs:=[((.aa bd),(ai (.aa bd)))],gl:=[(233,nw.D.sig)],lv:=[(2,[0,3,5])],lx:=[(0,[0,3,5])],od:=[(5,[0,1,4,5,6,2,3,7,8])] }
noncomputable def ab (a:Arg):OO:=@lift Out λk=>D.W k a
noncomputable def T0 (a1:Arg) (U:Int):St:={ n:=32,sl:=[(0,.val (.aa bd) a1.1),(3,.box bd (ak bd) [] a1.2.1),(5,.val i64 U)],vr:=[],az:=[] }
noncomputable def b0 (self:Int->OO) (e0:Int->OO) (a1:Arg) (U:Int):OO:=bif decide (U < (a1.1.length:Int)) then (if 0<=U then ((a1.1[U.toNat]?).bind λa8=>(nw.ab (a8,a1.2.1,())).bind λdg=>bif dg.1 then (self (af (U+(1:Int)))) else e0 U) else none) else e0 U
noncomputable def q0 (a1:Arg) (et:Int):OO:=if 0<=et/\et<=(a1.1.length:Int) then (if ([]:List Row).length+((a1.1.take et.toNat).drop 0).length<=cg then (let xh:=([]:List Row)++((a1.1.take et.toNat).drop 0);if 0<=et/\et<=(a1.1.length:Int) then (if xh.length+[a1.2.1].length<=cg then (if (xh++[a1.2.1]).length+((a1.1.take a1.1.length).drop et.toNat).length<=cg then (let BP:=(xh++[a1.2.1])++((a1.1.take a1.1.length).drop et.toNat);some (BP,())) else none) else none) else none) else none) else none
noncomputable def s0 (k:Nat) (a1:Arg):(Int)->OO:=λU=>D.L k [1,1,0,0,0] [0,3,5] [] (ah 0 (av (D.N k [1,1,1]) D.K0)) (T0 a1 U)
noncomputable def r0 (k:Nat) (a1:Arg):(Int)->OO:=al (λw v=>b0 w (q0 a1) a1 v) k
theorem aq (k:Nat) (a1:Arg):s0 k a1=r0 k a1:=
 funext λU=>ap _ _ _ (T0 a1) _ (λrec v=>by kernel_rfl) k U
noncomputable def p (l0:(Int)->OO) (a1:Arg):OO:=l0 (0:Int)
theorem ae (k:Nat) (a1:Arg):@Eq OO (D.W k a1) (p (r0 k a1) a1):=
 aQ (b:=p (s0 k a1) a1) (by kernel_rfl) (by rw[aq])
theorem ok:Ok prog 151 D.sig:=am func151 aw (by kernel_rfl) (fc nw.ok (aj _))
end kQ
namespace kM
abbrev Arg:Type:=(List (List UInt8))×Unit
abbrev Out:Type:=(List Row)×Unit
abbrev OO:=Option Out
noncomputable def D:FD:={ fn:=f89,tl:=bc,ps:=[(.ro,(.aa (.aa u8)))],rs:=[((.aa bd),(ai (.aa bd)))],gl:=[(150,jh.D.sig),(151,kQ.D.sig)],lv:=[(4,[3,4,5])],lx:=[(0,[3])] }
noncomputable def ab (a:Arg):OO:=@lift Out λk=>D.W k a
noncomputable def T0 (a1:Arg) (dx:List ay) (bf:(List Row)×Int):St:={ n:=24,sl:=[(3,.own (.aa bd) (ai (.aa bd)) [] bf.1),(4,.own (.aa gv) (ai (.aa gv)) [] dx),(5,.val i64 bf.2)],vr:=[],az:=[] }
noncomputable def b0 (self:((List Row)×Int)->OO) (e0:(List Row)->OO) (a1:Arg) (dx:List ay) (bf:(List Row)×Int):OO:=bif decide (bf.2 < (dx.length:Int)) then (if 0<=bf.2/\bf.2 < (dx.length:Int) then ((dx[bf.2.toNat]?).bind λdw=>(kQ.ab (bf.1,dw.2.2.1.2.2.2.2.1,())).bind λjy=>self (jy.1,af (bf.2+(1:Int)))) else none) else e0 bf.1
noncomputable def q0 (a1:Arg) (dx:List ay) (lg:(List Row)):OO:=some (lg,())
noncomputable def s0 (k:Nat) (a1:Arg):(List ay)->((List Row)×Int)->OO:=λdx=>λbf=>D.L k [1,1,1,0,1,0,0] [3,4,5] [] (ah 0 (av (D.N k [1,1,1,1]) D.K0)) (T0 a1 dx bf)
noncomputable def r0 (k:Nat) (a1:Arg):(List ay)->((List Row)×Int)->OO:=λdx=>al (λw v=>b0 w (q0 a1 dx) a1 dx v) k
theorem aq (k:Nat) (a1:Arg):s0 k a1=r0 k a1:=
 funext λdx=>funext λbf=>ap _ _ _ (T0 a1 dx) _ (λrec v=>by kernel_rfl) k bf
noncomputable def p (l0:(List ay)->((List Row)×Int)->OO) (a1:Arg):OO:=(jh.ab (a1.1,())).bind λr2=>l0 r2.1 (([]:List Row),(0:Int))
theorem ae (k:Nat) (a1:Arg):@Eq OO (D.W k a1) (p (r0 k a1) a1):=
 aQ (b:=p (s0 k a1) a1) (by kernel_rfl) (by rw[aq])
theorem ok:Ok prog 89 D.sig:=am func89 aw (by kernel_rfl) (fc jh.ok (fc kQ.ok (aj _)))
end kM
namespace kA
abbrev Arg:Type:=(List Row)×Unit
abbrev Out:Type:=Int×Unit
abbrev OO:=Option Out
noncomputable def D:FD:={ fn:=f152,tl:=bc,ps:=[(.ro,(.aa bd))],rs:=[(i64,(ak i64))],gl:=[(233,nw.D.sig),(234,jl.D.sig)],lv:=[(4,[0,3])],lx:=[(0,[])],od:=[(9,[0,1,2,3,4,5,6,7,8,9,10,11,12])] }
noncomputable def ab (a:Arg):OO:=@lift Out λk=>D.W k a
noncomputable def T0 (a1:Arg) (U:Int):St:={ n:=34,sl:=[(0,.val (.aa bd) a1.1),(3,.val i64 U)],vr:=[],az:=[] }
noncomputable def b0 (self:Int->OO) (e0:(Unit)->OO) (a1:Arg) (U:Int):OO:=bif decide (U < (a1.1.length:Int)) then (if 0<=U then ((a1.1[U.toNat]?).bind λa8=>(jl.ab (a8,())).bind λdg=>bif !decide (dg.1=(0:Int)) then (some (dg.1,())) else bif decide ((0:Int) < U) then (if 0<=af (U - (1:Int)) then ((a1.1[(af (U - (1:Int))).toNat]?).bind λdw=>if 0<=U then ((a1.1[U.toNat]?).bind λrL=>(nw.ab (dw,rL,())).bind λjz=>bif !jz.1 then (some ((1:Int),())) else self (af (U+(1:Int)))) else none) else none) else self (af (U+(1:Int)))) else none) else e0 ()
noncomputable def q0 (a1:Arg) (rM:(Unit)):OO:=some ((0:Int),())
noncomputable def s0 (k:Nat) (a1:Arg):(Int)->OO:=λU=>D.L k [1,1,0,1,0,0] [0,3] [] (ah 0 (av (D.N k [1,1,1]) D.K0)) (T0 a1 U)
noncomputable def r0 (k:Nat) (a1:Arg):(Int)->OO:=al (λw v=>b0 w (q0 a1) a1 v) k
theorem aq (k:Nat) (a1:Arg):s0 k a1=r0 k a1:=
 funext λU=>ap _ _ _ (T0 a1) _ (λrec v=>by kernel_rfl) k U
noncomputable def p (l0:(Int)->OO) (a1:Arg):OO:=bif decide ((60:Int) < (a1.1.length:Int)) then (some ((2:Int),())) else l0 (0:Int)
theorem ae (k:Nat) (a1:Arg):@Eq OO (D.W k a1) (p (r0 k a1) a1):=
 aQ (b:=p (s0 k a1) a1) (by kernel_rfl) (by rw[aq])
theorem ok:Ok prog 152 D.sig:=am func152 aw (by kernel_rfl) (fc nw.ok (fc jl.ok (aj _)))
end kA
namespace pq
abbrev Arg:Type:=Change×Unit
abbrev Out:Type:=Int×Unit
noncomputable def D:FD:={ fn:=f203,tl:=bc,ps:=[(.ro,(.ptr an))],rs:=[(i64,(ak i64))],gl:=[(234,jl.D.sig)],od:=[(1,[0,1,2,3,4,5,6,7,8,9,10,11,12,13,14,15,16,17,18,19,20,21,22,23,24,25,26,27,28,29,30,31,32,33,34,35,36,37,38,39,40,41,42,43,44,45,46,47,48,49])] }
noncomputable def ab (a:Arg):Option Out:=@lift Out λk=>D.W k a
noncomputable def p (a1:Arg):Option Out:=let j5:Option Out:=bif a1.1.1 then ((jl.ab (a1.1.2.1,())).bind λr6=>bif !decide (r6.1=(0:Int)) then (some (r6.1,())) else bif a1.1.2.2.1 then ((jl.ab (a1.1.2.2.2.1,())).bind λr8=>some (r8.1,())) else some ((0:Int),())) else bif a1.1.2.2.1 then ((jl.ab (a1.1.2.2.2.1,())).bind λr9=>some (r9.1,())) else some ((0:Int),());bif !a1.1.1 then (bif !a1.1.2.2.1 then (some ((1:Int),())) else bif a1.1.1 then (bif a1.1.2.2.1 then (bif !decide (a1.1.2.1.1=a1.1.2.2.2.1.1) then (some ((1:Int),())) else bif !decide (a1.1.2.1.2.1=a1.1.2.2.2.1.2.1) then (some ((1:Int),())) else j5) else j5) else j5) else bif a1.1.1 then (bif a1.1.2.2.1 then (bif !decide (a1.1.2.1.1=a1.1.2.2.2.1.1) then (some ((1:Int),())) else bif !decide (a1.1.2.1.2.1=a1.1.2.2.2.1.2.1) then (some ((1:Int),())) else j5) else j5) else j5
theorem ae (k:Nat) (a1:Arg):@Eq (Option Out) (D.W k a1) (p a1):=by kernel_rfl
theorem ok:Ok prog 203 D.sig:=am func203 aw (by kernel_rfl) (fc jl.ok (aj _))
end pq
namespace mp
abbrev Arg:Type:=Change×Unit
abbrev Out:Type:=Int×Unit
noncomputable def D:FD:={ fn:=f124,tl:=bc,ps:=[(.ro,(.ptr an))],rs:=[(i64,(ak i64))],gl:=[(203,pq.D.sig)],od:=[(4,[0,1,2,3,4,5,6,7,8,9,10,11,12,13,14,15,16,17,18,19,20])] }
noncomputable def ab (a:Arg):Option Out:=@lift Out λk=>D.W k a
noncomputable def p (a1:Arg):Option Out:=(pq.ab (a1.1,())).bind λr2=>bif !decide (r2.1=(0:Int)) then (some (r2.1,())) else bif a1.1.1 then (bif a1.1.2.2.1 then (bif (Ty.eq bd a1.1.2.1 a1.1.2.2.2.1) then (some ((1:Int),())) else some ((0:Int),())) else some ((0:Int),())) else some ((0:Int),())
theorem ae (k:Nat) (a1:Arg):@Eq (Option Out) (D.W k a1) (p a1):=by kernel_rfl
theorem ok:Ok prog 124 D.sig:=am func124 aw (by kernel_rfl) (fc pq.ok (aj _))
end mp
namespace ku
abbrev Arg:Type:=Change×Unit
abbrev Out:Type:=Int×Int×Unit
noncomputable def D:FD:={ fn:=f204,tl:=bc,ps:=[(.ro,(.ptr an))],rs:=[(i64,(ak i64)),(i64,(ak i64))],od:=[(2,[0,1,2,3,4,5,6,7,8,9,10,11]),(3,[0,1,2,3,4,5,6,7,8,9,10,11])] }
noncomputable def ab (a:Arg):Option Out:=@lift Out λk=>D.W k a
noncomputable def p (a1:Arg):Option Out:=bif a1.1.2.2.1 then (some (a1.1.2.2.2.1.1,a1.1.2.2.2.1.2.1,())) else some (a1.1.2.1.1,a1.1.2.1.2.1,())
theorem ae (k:Nat) (a1:Arg):@Eq (Option Out) (D.W k a1) (p a1):=by kernel_rfl
theorem ok:Ok prog 204 D.sig:=am func204 aw (by kernel_rfl) (aj _)
end ku
namespace pr
abbrev Arg:Type:=Change×Unit
abbrev Out:Type:=Key×Unit
noncomputable def D:FD:={ fn:=f250,tl:=bc,ps:=[(.ro,(.ptr an))],rs:=[(be,(ak be))],gl:=[(204,ku.D.sig)] }
noncomputable def ab (a:Arg):Option Out:=@lift Out λk=>D.W k a
noncomputable def p (a1:Arg):Option Out:=(ku.ab (a1.1,())).bind λr2=>some ((r2.1,r2.2.1,()),())
theorem ae (k:Nat) (a1:Arg):@Eq (Option Out) (D.W k a1) (p a1):=by kernel_rfl
theorem ok:Ok prog 250 D.sig:=am func250 aw (by kernel_rfl) (fc ku.ok (aj _))
end pr
namespace jB
abbrev Arg:Type:=Tx×Key×Unit
abbrev Out:Type:=Bool×Unit
abbrev OO:=Option Out
noncomputable def D:FD:={ fn:=f251,tl:=bc,ps:=[(.ro,(.ptr ca)),(.ro,be)],rs:=[(.bool,(ak .bool))],lv:=[(2,[0,3,5])],lx:=[(0,[])],od:=[(4,[0,1,2,3,4,5,6,7,8])] }
noncomputable def ab (a:Arg):OO:=@lift Out λk=>D.W k a
noncomputable def T0 (a1:Arg) (U:Int):St:={ n:=24,sl:=[(0,.cp ca a1.1),(3,.box be (ak be) [] a1.2.1),(5,.val i64 U)],vr:=[],az:=[] }
noncomputable def b0 (self:Int->OO) (e0:(Unit)->OO) (a1:Arg) (U:Int):OO:=bif decide (U < (a1.1.2.2.2.1.length:Int)) then (if 0<=U then ((a1.1.2.2.2.1[U.toNat]?).bind λa8=>bif (Ty.eq be a8 a1.2.1) then (some (true,())) else self (af (U+(1:Int)))) else none) else e0 ()
noncomputable def q0 (a1:Arg) (mM:(Unit)):OO:=some (false,())
noncomputable def s0 (k:Nat) (a1:Arg):(Int)->OO:=λU=>D.L k [1,0,1,0,0] [0,3,5] [] (ah 0 (av (D.N k [1,1]) D.K0)) (T0 a1 U)
noncomputable def r0 (k:Nat) (a1:Arg):(Int)->OO:=al (λw v=>b0 w (q0 a1) a1 v) k
theorem aq (k:Nat) (a1:Arg):s0 k a1=r0 k a1:=
 funext λU=>ap _ _ _ (T0 a1) _ (λrec v=>by kernel_rfl) k U
noncomputable def p (l0:(Int)->OO) (a1:Arg):OO:=l0 (0:Int)
theorem ae (k:Nat) (a1:Arg):@Eq OO (D.W k a1) (p (r0 k a1) a1):=
 aQ (b:=p (s0 k a1) a1) (by kernel_rfl) (by rw[aq])
theorem ok:Ok prog 251 D.sig:=am func251 aw (by kernel_rfl) (aj _)
end jB
namespace mq
abbrev Arg:Type:=Tx×Unit
abbrev Out:Type:=Int×Unit
abbrev OO:=Option Out
noncomputable def D:FD:={ fn:=f235,tl:=bc,ps:=[(.ro,(.ptr ca))],rs:=[(i64,(ak i64))],gl:=[(124,mp.D.sig),(250,pr.D.sig),(251,jB.D.sig)],lv:=[(2,[0,3])],lx:=[(0,[])] }
noncomputable def ab (a:Arg):OO:=@lift Out λk=>D.W k a
noncomputable def T0 (a1:Arg) (U:Int):St:={ n:=34,sl:=[(0,.cp ca a1.1),(3,.val i64 U)],vr:=[],az:=[] }
noncomputable def b0 (self:Int->OO) (e0:(Unit)->OO) (a1:Arg) (U:Int):OO:=bif decide (U < (a1.1.2.1.length:Int)) then (if 0<=U then ((a1.1.2.1[U.toNat]?).bind λa8=>(mp.ab (a8,())).bind λdg=>bif !decide (dg.1=(0:Int)) then (some (dg.1,())) else if 0<=U then ((a1.1.2.1[U.toNat]?).bind λdw=>(pr.ab (dw,())).bind λjy=>(jB.ab (a1.1,jy.1,())).bind λjz=>bif !jz.1 then (some ((8:Int),())) else self (af (U+(1:Int)))) else none) else none) else e0 ()
noncomputable def q0 (a1:Arg) (rM:(Unit)):OO:=some ((0:Int),())
noncomputable def s0 (k:Nat) (a1:Arg):(Int)->OO:=λU=>D.L k [1,0,1,0,0] [0,3] [] (ah 0 (av (D.N k [1,1]) D.K0)) (T0 a1 U)
noncomputable def r0 (k:Nat) (a1:Arg):(Int)->OO:=al (λw v=>b0 w (q0 a1) a1 v) k
theorem aq (k:Nat) (a1:Arg):s0 k a1=r0 k a1:=
 funext λU=>ap _ _ _ (T0 a1) _ (λrec v=>by kernel_rfl) k U
noncomputable def p (l0:(Int)->OO) (a1:Arg):OO:=l0 (0:Int)
theorem ae (k:Nat) (a1:Arg):@Eq OO (D.W k a1) (p (r0 k a1) a1):=
 aQ (b:=p (s0 k a1) a1) (by kernel_rfl) (by rw[aq])
theorem ok:Ok prog 235 D.sig:=am func235 aw (by kernel_rfl) (fc mp.ok (fc pr.ok (fc jB.ok (aj _))))
end mq
namespace rx
abbrev Arg:Type:=Key×Unit
abbrev Out:Type:=Bool×Unit
noncomputable def D:FD:={ fn:=f291,tl:=bc,ps:=[(.ro,(.ptr be))],rs:=[(.bool,(ak .bool))],gl:=[(65,br.D.sig)] }
noncomputable def ab (a:Arg):Option Out:=@lift Out λk=>D.W k a
noncomputable def p (a1:Arg):Option Out:=(br.ab (a1.1.1,(0:Int),(3:Int),())).bind λr2=>bif r2.1 then ((br.ab (a1.1.2.1,(1:Int),(99:Int),())).bind λr3=>some (r3.1,())) else some (false,())
theorem ae (k:Nat) (a1:Arg):@Eq (Option Out) (D.W k a1) (p a1):=by kernel_rfl
theorem ok:Ok prog 291 D.sig:=am func291 aw (by kernel_rfl) (fc br.ok (aj _))
end rx
namespace c9
abbrev Arg:Type:=Tx×Unit
abbrev Out:Type:=Int×Unit
abbrev OO:=Option Out
noncomputable def D:FD:={ fn:=f236,tl:=bc,ps:=[(.ro,(.ptr ca))],rs:=[(i64,(ak i64))],gl:=[(65,br.D.sig),(291,rx.D.sig)],lv:=[(4,[0,3]),(9,[0,4]),(14,[0,4,5])],lx:=[(0,[0]),(2,[]),(4,[0,4])],od:=[(6,[0,1,2,3,4,5,6,7,8,9,10,11,12,13,14,15,16,17,18,19,20,21,22,23,24,25,26,27,28,29,30,31,32,33,34,35]),(16,[0,1,2,3,4,5,6,7,8,9,10,11,12,13,14])],ar:=[(6,[3,6,10,21,24,28,32])] }
noncomputable def ab (a:Arg):OO:=@lift Out λk=>D.W k a
noncomputable def T0 (a1:Arg) (U:Int):St:={ n:=102,sl:=[(0,.cp ca a1.1),(3,.val i64 U)],vr:=[],az:=[] }
noncomputable def S0 (rec:RT Out) (a1:Arg):(Int)->OO:=λU=>rec (T0 a1 U)
noncomputable def cx (K:KT Out) (a1:Arg):(Unit)->OO:=λz=>K (.exit 0) ({ n:=102,sl:=[(0,.cp ca a1.1)],vr:=[],az:=[] })
noncomputable def b0 (self:Int->OO) (e0:(Unit)->OO) (a1:Arg) (U:Int):OO:=bif decide (U < (a1.1.2.2.1.length:Int)) then (if 0<=U then ((a1.1.2.2.1[U.toNat]?).bind λa8=>(br.ab (a8,(0:Int),(a1.1.2.1.length:Int),())).bind λdg=>bif !dg.1 then (some ((3:Int),())) else bif decide ((0:Int) < U) then (if 0<=U then ((a1.1.2.2.1[U.toNat]?).bind λdw=>if 0<=af (U - (1:Int)) then ((a1.1.2.2.1[(af (U - (1:Int))).toNat]?).bind λrL=>bif decide (dw < rL) then (some ((3:Int),())) else self (af (U+(1:Int)))) else none) else none) else self (af (U+(1:Int)))) else none) else e0 ()
theorem lB (k:Nat) (rec:RT Out) (K:KT Out) (a1:Arg) (U:Int):D.N k [1,1,0,1,0,0] (T0 a1 U) (iV rec (fw [0,3] []) K)=b0 (S0 rec a1) (cx K a1) a1 U:=by kernel_rfl
noncomputable def T1 (a1:Arg) (de:Tx×Int):St:={ n:=102,sl:=[(0,.cp ca de.1),(4,.val i64 de.2)],vr:=[],az:=[] }
noncomputable def S1 (rec:RT Out) (a1:Arg):(Tx×Int)->OO:=λde=>rec (T1 a1 de)
noncomputable def jA (K:KT Out) (a1:Arg):(Unit)->OO:=λz=>K (.exit 2) ({ n:=102,sl:=[],vr:=[],az:=[] })
noncomputable def T2 (a1:Arg) (ii:Tx) (en:Int) (lD:Int):St:={ n:=102,sl:=[(0,.cp ca ii),(4,.val i64 en),(5,.val i64 lD)],vr:=[],az:=[] }
noncomputable def b2 (self:Int->OO) (e4:(Unit)->OO) (a1:Arg) (ii:Tx) (en:Int) (lD:Int):OO:=bif decide (lD < en) then (if 0<=lD then ((ii.2.2.2.1[lD.toNat]?).bind λQ8=>if 0<=en then ((ii.2.2.2.1[en.toNat]?).bind λaaJ=>bif (Ty.eq be Q8 aaJ) then (some ((6:Int),())) else self (af (lD+(1:Int)))) else none) else none) else e4 ()
noncomputable def q1 (self:(Tx×Int)->OO) (e2:(Unit)->OO) (a1:Arg) (ii:Tx) (en:Int) (vu:(Unit)):OO:=self (ii,af (en+(1:Int)))
noncomputable def s2 (k:Nat) (rec:RT Out) (K:KT Out) (a1:Arg):Tx->Int->(Int)->OO:=λii en=>λlD=>D.L k [1,1,1,0,1,0,0,1,0,0,1,1,0,0] [0,4,5] [] (ah 4 (ah 3 (av (D.N k [1,1,1,0,1,0,0,1,1]) (iV rec (fw [0,4] []) K)))) (T2 a1 ii en lD)
noncomputable def r2 (k:Nat) (self:(Tx×Int)->OO) (e2:(Unit)->OO) (a1:Arg):Tx->Int->(Int)->OO:=λii en=>al (λw v=>b2 w (q1 self e2 a1 ii en) a1 ii en v) k
theorem su (k:Nat) (rec:RT Out) (K:KT Out) (a1:Arg):s2 k rec K a1=r2 k (S1 rec a1) (jA K a1) a1:=
 funext λii=>funext λen=>funext λlD=>ap _ _ _ (T2 a1 ii en) _ (λrec v=>by kernel_rfl) k lD
noncomputable def b1 (self:(Tx×Int)->OO) (e2:(Unit)->OO) (l2:Tx->Int->(Int)->OO) (a1:Arg) (de:Tx×Int):OO:=bif decide (de.2 < (de.1.2.2.2.1.length:Int)) then (if 0<=de.2 then ((de.1.2.2.2.1[de.2.toNat]?).bind λFH=>(rx.ab (FH,())).bind λzr=>bif !zr.1 then (some ((3:Int),())) else l2 de.1 de.2 (0:Int)) else none) else e2 ()
noncomputable def B1 (k:Nat) (self:(Tx×Int)->OO) (e2:(Unit)->OO) (a1:Arg) (de:Tx×Int):OO:=b1 self e2 (r2 k self e2 a1) a1 de
theorem tT (k:Nat) (rec:RT Out) (K:KT Out) (a1:Arg) (de:Tx×Int):D.N k [1,1,1,0,1,0,0] (T1 a1 de) (iV rec (fw [0,4] []) K)=B1 k (S1 rec a1) (jA K a1) a1 de:=
 aQ (b:=b1 (S1 rec a1) (jA K a1) (s2 k rec K a1) a1 de) (by kernel_rfl) (by rw[su];rfl)
noncomputable def q2 (a1:Arg) (Q9:(Unit)):OO:=some ((0:Int),())
theorem vv (k:Nat) (a1:Arg) (Q9:(Unit)):jA (ah 2 (av (D.N k [1,1,1,1]) D.K0)) a1 Q9=q2 a1 Q9:=by kernel_rfl
noncomputable def s1 (k:Nat) (a1:Arg):(Tx×Int)->OO:=λde=>D.L k [1,1,1,0,1,0,0] [0,4] [] (ah 2 (av (D.N k [1,1,1,1]) D.K0)) (T1 a1 de)
noncomputable def r1 (k:Nat) (a1:Arg):(Tx×Int)->OO:=al (λw v=>B1 k w (q2 a1) a1 v) k
theorem lC (k:Nat) (a1:Arg):s1 k a1=r1 k a1:=by
 funext de;have h2:jA (ah 2 (av (D.N k [1,1,1,1]) D.K0)) a1=q2 a1:=funext λz=>vv k a1 z;refine (ap _ _ _ (T1 a1) (λself v=>B1 k self (jA (ah 2 (av (D.N k [1,1,1,1]) D.K0)) a1) a1 v) (λrec v=>tT k rec (ah 2 (av (D.N k [1,1,1,1]) D.K0)) a1 v) k de).trans ?_;rw[h2];rfl
noncomputable def q0 (l1:(Tx×Int)->OO) (a1:Arg) (lg:(Unit)):OO:=l1 (a1.1,(0:Int))
noncomputable def Q0 (k:Nat) (a1:Arg) (lg:(Unit)):OO:=q0 (r1 k a1) a1 lg
theorem sv (k:Nat) (a1:Arg) (lg:(Unit)):cx (ah 0 (av (D.N k [1,1,1]) D.K0)) a1 lg=Q0 k a1 lg:=
 aQ (b:=q0 (s1 k a1) a1 lg) (by kernel_rfl) (by rw[lC];rfl)
noncomputable def s0 (k:Nat) (a1:Arg):(Int)->OO:=λU=>D.L k [1,1,0,1,0,0] [0,3] [] (ah 0 (av (D.N k [1,1,1]) D.K0)) (T0 a1 U)
noncomputable def r0 (k:Nat) (a1:Arg):(Int)->OO:=al (λw v=>b0 w (Q0 k a1) a1 v) k
theorem aq (k:Nat) (a1:Arg):s0 k a1=r0 k a1:=by
 funext U;have h0:cx (ah 0 (av (D.N k [1,1,1]) D.K0)) a1=Q0 k a1:=funext λz=>sv k a1 z;refine (ap _ _ _ (T0 a1) (λself v=>b0 self (cx (ah 0 (av (D.N k [1,1,1]) D.K0)) a1) a1 v) (λrec v=>lB k rec (ah 0 (av (D.N k [1,1,1]) D.K0)) a1 v) k U).trans ?_;rw[h0];rfl
noncomputable def p (l0:(Int)->OO) (a1:Arg):OO:=bif decide ((8:Int) < (a1.1.2.2.1.length:Int)) then (some ((2:Int),())) else bif decide ((12:Int) < (a1.1.2.2.2.1.length:Int)) then (some ((2:Int),())) else l0 (0:Int)
theorem ae (k:Nat) (a1:Arg):@Eq OO (D.W k a1) (p (r0 k a1) a1):=
 aQ (b:=p (s0 k a1) a1) (by kernel_rfl) (by rw[aq])
theorem ok:Ok prog 236 D.sig:=am func236 aw (by kernel_rfl) (fc br.ok (fc rx.ok (aj _)))
end c9
namespace mr
abbrev Arg:Type:=(List Tx)×Key×Unit
abbrev Out:Type:=Int×Unit
abbrev OO:=Option Out
noncomputable def D:FD:={ fn:=f292,tl:=bc,ps:=[(.ro,(.aa ca)),(.ro,be)],rs:=[(i64,(ak i64))],gl:=[(251,jB.D.sig)],lv:=[(2,[0,3,5])],lx:=[(0,[])],od:=[(4,[0,1,2,3,4])] }
noncomputable def ab (a:Arg):OO:=@lift Out λk=>D.W k a
noncomputable def T0 (a1:Arg) (U:Int):St:={ n:=22,sl:=[(0,.val (.aa ca) a1.1),(3,.box be (ak be) [] a1.2.1),(5,.val i64 U)],vr:=[],az:=[] }
noncomputable def b0 (self:Int->OO) (e0:(Unit)->OO) (a1:Arg) (U:Int):OO:=bif decide (U < (a1.1.length:Int)) then (if 0<=U then ((a1.1[U.toNat]?).bind λa8=>(jB.ab (a8,a1.2.1,())).bind λdg=>bif dg.1 then (if 0<=U then ((a1.1[U.toNat]?).bind λdw=>some (dw.1,())) else none) else self (af (U+(1:Int)))) else none) else e0 ()
noncomputable def q0 (a1:Arg) (qY:(Unit)):OO:=some ((0:Int),())
noncomputable def s0 (k:Nat) (a1:Arg):(Int)->OO:=λU=>D.L k [1,0,1,0,0] [0,3,5] [] (ah 0 (av (D.N k [1,1]) D.K0)) (T0 a1 U)
noncomputable def r0 (k:Nat) (a1:Arg):(Int)->OO:=al (λw v=>b0 w (q0 a1) a1 v) k
theorem aq (k:Nat) (a1:Arg):s0 k a1=r0 k a1:=
 funext λU=>ap _ _ _ (T0 a1) _ (λrec v=>by kernel_rfl) k U
noncomputable def p (l0:(Int)->OO) (a1:Arg):OO:=l0 (0:Int)
theorem ae (k:Nat) (a1:Arg):@Eq OO (D.W k a1) (p (r0 k a1) a1):=
 aQ (b:=p (s0 k a1) a1) (by kernel_rfl) (by rw[aq])
theorem ok:Ok prog 292 D.sig:=am func292 aw (by kernel_rfl) (fc jB.ok (aj _))
end mr
namespace fu
abbrev Arg:Type:=(List Tx)×Unit
abbrev Out:Type:=Bool×Unit
abbrev OO:=Option Out
noncomputable def D:FD:={ fn:=f237,tl:=bc,ps:=[(.ro,(.aa ca))],rs:=[(.bool,(ak .bool))],gl:=[(292,mr.D.sig)],lv:=[(2,[0,3]),(5,[0,3,4])],lx:=[(0,[]),(2,[0,3])],od:=[(7,[0,1,2,3,4,5,6,7,8,10,11,12,13,14,9,15])] }
noncomputable def ab (a:Arg):OO:=@lift Out λk=>D.W k a
noncomputable def T0 (a1:Arg) (U:(List Tx)×Int):St:={ n:=37,sl:=[(0,.val (.aa ca) U.1),(3,.val i64 U.2)],vr:=[],az:=[] }
noncomputable def S0 (rec:RT Out) (a1:Arg):((List Tx)×Int)->OO:=λU=>rec (T0 a1 U)
noncomputable def cx (K:KT Out) (a1:Arg):(Unit)->OO:=λz=>K (.exit 0) ({ n:=37,sl:=[],vr:=[],az:=[] })
noncomputable def T1 (a1:Arg) (mD:List Tx) (kt:Int) (mQ:Int):St:={ n:=37,sl:=[(0,.val (.aa ca) mD),(3,.val i64 kt),(4,.val i64 mQ)],vr:=[],az:=[] }
noncomputable def b1 (self:Int->OO) (e2:(Unit)->OO) (a1:Arg) (mD:List Tx) (kt:Int) (mQ:Int):OO:=if 0<=kt then ((mD[kt.toNat]?).bind λQ6=>bif decide (mQ < (Q6.2.2.2.1.length:Int)) then (if 0<=kt then ((mD[kt.toNat]?).bind λC7=>if 0<=mQ then ((C7.2.2.2.1[mQ.toNat]?).bind λId=>if 0<=kt then ((mD[kt.toNat]?).bind λFH=>(mr.ab (mD,Id,())).bind λzr=>bif !decide (zr.1=FH.1) then (some (false,())) else self (af (mQ+(1:Int)))) else none) else none) else none) else e2 ()) else none
noncomputable def q0 (self:((List Tx)×Int)->OO) (e0:(Unit)->OO) (a1:Arg) (mD:List Tx) (kt:Int) (C8:(Unit)):OO:=self (mD,af (kt+(1:Int)))
noncomputable def s1 (k:Nat) (rec:RT Out) (K:KT Out) (a1:Arg):(List Tx)->Int->(Int)->OO:=λmD kt=>λmQ=>D.L k [1,0,1,0,0,1,0,0,1,0,0] [0,3,4] [] (ah 2 (ah 1 (av (D.N k [1,0,1,0,0,1,1]) (iV rec (fw [0,3] []) K)))) (T1 a1 mD kt mQ)
noncomputable def r1 (k:Nat) (self:((List Tx)×Int)->OO) (e0:(Unit)->OO) (a1:Arg):(List Tx)->Int->(Int)->OO:=λmD kt=>al (λw v=>b1 w (q0 self e0 a1 mD kt) a1 mD kt v) k
theorem lC (k:Nat) (rec:RT Out) (K:KT Out) (a1:Arg):s1 k rec K a1=r1 k (S0 rec a1) (cx K a1) a1:=
 funext λmD=>funext λkt=>funext λmQ=>ap _ _ _ (T1 a1 mD kt) _ (λrec v=>by kernel_rfl) k mQ
noncomputable def b0 (self:((List Tx)×Int)->OO) (e0:(Unit)->OO) (l1:(List Tx)->Int->(Int)->OO) (a1:Arg) (U:(List Tx)×Int):OO:=bif decide (U.2 < (U.1.length:Int)) then (l1 U.1 U.2 (0:Int)) else e0 ()
noncomputable def B0 (k:Nat) (self:((List Tx)×Int)->OO) (e0:(Unit)->OO) (a1:Arg) (U:(List Tx)×Int):OO:=b0 self e0 (r1 k self e0 a1) a1 U
theorem lB (k:Nat) (rec:RT Out) (K:KT Out) (a1:Arg) (U:(List Tx)×Int):D.N k [1,0,1,0,0] (T0 a1 U) (iV rec (fw [0,3] []) K)=B0 k (S0 rec a1) (cx K a1) a1 U:=
 aQ (b:=b0 (S0 rec a1) (cx K a1) (s1 k rec K a1) a1 U) (by kernel_rfl) (by rw[lC];rfl)
noncomputable def q1 (a1:Arg) (vx:(Unit)):OO:=some (true,())
theorem qX (k:Nat) (a1:Arg) (vx:(Unit)):cx (ah 0 (av (D.N k [1,1]) D.K0)) a1 vx=q1 a1 vx:=by kernel_rfl
noncomputable def s0 (k:Nat) (a1:Arg):((List Tx)×Int)->OO:=λU=>D.L k [1,0,1,0,0] [0,3] [] (ah 0 (av (D.N k [1,1]) D.K0)) (T0 a1 U)
noncomputable def r0 (k:Nat) (a1:Arg):((List Tx)×Int)->OO:=al (λw v=>B0 k w (q1 a1) a1 v) k
theorem aq (k:Nat) (a1:Arg):s0 k a1=r0 k a1:=by
 funext U;have h0:cx (ah 0 (av (D.N k [1,1]) D.K0)) a1=q1 a1:=funext λz=>qX k a1 z;refine (ap _ _ _ (T0 a1) (λself v=>B0 k self (cx (ah 0 (av (D.N k [1,1]) D.K0)) a1) a1 v) (λrec v=>lB k rec (ah 0 (av (D.N k [1,1]) D.K0)) a1 v) k U).trans ?_;rw[h0];rfl
noncomputable def p (l0:((List Tx)×Int)->OO) (a1:Arg):OO:=l0 (a1.1,(0:Int))
theorem ae (k:Nat) (a1:Arg):@Eq OO (D.W k a1) (p (r0 k a1) a1):=
 aQ (b:=p (s0 k a1) a1) (by kernel_rfl) (by rw[aq])
theorem ok:Ok prog 237 D.sig:=am func237 aw (by kernel_rfl) (fc mr.ok (aj _))
end fu
namespace lF
abbrev Arg:Type:=(List Tx)×Unit
abbrev Out:Type:=Int×Unit
abbrev OO:=Option Out
noncomputable def D:FD:={ fn:=f238,tl:=bc,ps:=[(.ro,(.aa ca))],rs:=[(i64,(ak i64))],lv:=[(3,[0,3,4])],lx:=[(0,[3])] }
noncomputable def ab (a:Arg):OO:=@lift Out λk=>D.W k a
noncomputable def T0 (a1:Arg) (U:Int×Int):St:={ n:=20,sl:=[(0,.val (.aa ca) a1.1),(3,.val i64 U.1),(4,.val i64 U.2)],vr:=[],az:=[] }
noncomputable def b0 (self:(Int×Int)->OO) (e0:Int->OO) (a1:Arg) (U:Int×Int):OO:=bif decide (U.2 < (a1.1.length:Int)) then (if 0<=U.2 then ((a1.1[U.2.toNat]?).bind λa8=>self (af (U.1+(a8.2.1.length:Int)),af (U.2+(1:Int)))) else none) else e0 U.1
noncomputable def q0 (a1:Arg) (mM:Int):OO:=some (mM,())
noncomputable def s0 (k:Nat) (a1:Arg):(Int×Int)->OO:=λU=>D.L k [1,1,0,1,0,0] [0,3,4] [] (ah 0 (av (D.N k [1,1,1]) D.K0)) (T0 a1 U)
noncomputable def r0 (k:Nat) (a1:Arg):(Int×Int)->OO:=al (λw v=>b0 w (q0 a1) a1 v) k
theorem aq (k:Nat) (a1:Arg):s0 k a1=r0 k a1:=
 funext λU=>ap _ _ _ (T0 a1) _ (λrec v=>by kernel_rfl) k U
noncomputable def p (l0:(Int×Int)->OO) (a1:Arg):OO:=l0 ((0:Int),(0:Int))
theorem ae (k:Nat) (a1:Arg):@Eq OO (D.W k a1) (p (r0 k a1) a1):=
 aQ (b:=p (s0 k a1) a1) (by kernel_rfl) (by rw[aq])
theorem ok:Ok prog 238 D.sig:=am func238 aw (by kernel_rfl) (aj _)
end lF
namespace jf
abbrev Arg:Type:=(List Tx)×Unit
abbrev Out:Type:=Int×Unit
abbrev OO:=Option Out
noncomputable def D:FD:={ fn:=f153,tl:=bc,ps:=[(.ro,(.aa ca))],rs:=[(i64,(ak i64))],gl:=[(65,br.D.sig),(235,mq.D.sig),(236,c9.D.sig),(237,fu.D.sig),(238,lF.D.sig)],lv:=[(4,[0,3])],lx:=[(0,[0])],od:=[(9,[0,1,2,3,4,5,6,7,8,9,10,11,12,13,14])] }
noncomputable def ab (a:Arg):OO:=@lift Out λk=>D.W k a
noncomputable def T0 (a1:Arg) (U:Int):St:={ n:=56,sl:=[(0,.val (.aa ca) a1.1),(3,.val i64 U)],vr:=[],az:=[] }
noncomputable def b0 (self:Int->OO) (e0:(Unit)->OO) (a1:Arg) (U:Int):OO:=bif decide (U < (a1.1.length:Int)) then (if 0<=U then ((a1.1[U.toNat]?).bind λa8=>(br.ab (a8.1,(1:Int),(99:Int),())).bind λdg=>bif !dg.1 then (some ((3:Int),())) else let ZK:OO:=(mq.ab (a8,())).bind λuX=>bif !decide (uX.1=(0:Int)) then (some (uX.1,())) else (c9.ab (a8,())).bind λxi=>bif !decide (xi.1=(0:Int)) then (some (xi.1,())) else self (af (U+(1:Int)));bif decide ((0:Int) < U) then (if 0<=af (U - (1:Int)) then ((a1.1[(af (U - (1:Int))).toNat]?).bind λdw=>bif decide (a8.1<=dw.1) then (some ((1:Int),())) else ZK) else none) else ZK) else none) else e0 ()
noncomputable def q0 (a1:Arg) (Vk:(Unit)):OO:=(fu.ab (a1.1,())).bind λVn=>bif !Vn.1 then (some ((7:Int),())) else (lF.ab (a1.1,())).bind λQ_=>bif decide ((12:Int) < Q_.1) then (some ((2:Int),())) else some ((0:Int),())
noncomputable def s0 (k:Nat) (a1:Arg):(Int)->OO:=λU=>D.L k [1,1,0,1,0,0] [0,3] [] (ah 0 (av (D.N k [1,1,1]) D.K0)) (T0 a1 U)
noncomputable def r0 (k:Nat) (a1:Arg):(Int)->OO:=al (λw v=>b0 w (q0 a1) a1 v) k
theorem aq (k:Nat) (a1:Arg):s0 k a1=r0 k a1:=
 funext λU=>ap _ _ _ (T0 a1) _ (λrec v=>by kernel_rfl) k U
noncomputable def p (l0:(Int)->OO) (a1:Arg):OO:=bif decide ((4:Int) < (a1.1.length:Int)) then (some ((2:Int),())) else l0 (0:Int)
theorem ae (k:Nat) (a1:Arg):@Eq OO (D.W k a1) (p (r0 k a1) a1):=
 aQ (b:=p (s0 k a1) a1) (by kernel_rfl) (by rw[aq])
theorem ok:Ok prog 153 D.sig:=am func153 aw (by kernel_rfl) (fc br.ok (fc mq.ok (fc c9.ok (fc fu.ok (fc lF.ok (aj _))))))
end jf
namespace cc
abbrev Arg:Type:=(List Row)×(List Tx)×Key×Unit
abbrev Out:Type:=Int×Unit
abbrev OO:=Option Out
noncomputable def D:FD:={ fn:=f154,tl:=bc,ps:=[(.ro,(.aa bd)),(.ro,(.aa ca)),(.ro,be)],rs:=[(i64,(ak i64))],lv:=[(3,[0,1,5,7,8]),(7,[1,5,7,9]),(14,[7,10,11]),(18,[7,10,11,12,13])],lx:=[(0,[1,5,7]),(2,[5,7]),(4,[10]),(6,[7,10,11,12])],od:=[(5,[0,1,2,3,4,5,6,7,8,9,10,11,12,13,14]),(20,[0,1,2,3,4,5,6,7,8,9])] }
noncomputable def ab (a:Arg):OO:=@lift Out λk=>D.W k a
noncomputable def T0 (a1:Arg) (U:(List Key)×Int):St:={ n:=82,sl:=[(0,.val (.aa bd) a1.1),(1,.val (.aa ca) a1.2.1),(5,.box be (ak be) [] a1.2.2.1),(7,.own (.aa be) (ai (.aa be)) [] U.1),(8,.val i64 U.2)],vr:=[],az:=[] }
noncomputable def S0 (rec:RT Out) (a1:Arg):((List Key)×Int)->OO:=λU=>rec (T0 a1 U)
noncomputable def cx (K:KT Out) (a1:Arg):(List Key)->OO:=λz=>K (.exit 0) ({ n:=82,sl:=[(1,.val (.aa ca) a1.2.1),(5,.box be (ak be) [] a1.2.2.1),(7,.own (.aa be) (ai (.aa be)) [] z)],vr:=[],az:=[] })
noncomputable def b0 (self:((List Key)×Int)->OO) (e0:(List Key)->OO) (a1:Arg) (U:(List Key)×Int):OO:=bif decide (U.2 < (a1.1.length:Int)) then (if 0<=U.2 then ((a1.1[U.2.toNat]?).bind λa8=>if 0<=U.2 then ((a1.1[U.2.toNat]?).bind λgx=>if U.1.length+[(a8.1,gx.2.1,())].length<=cg then (self (U.1++[(a8.1,gx.2.1,())],af (U.2+(1:Int)))) else none) else none) else none) else e0 U.1
theorem lB (k:Nat) (rec:RT Out) (K:KT Out) (a1:Arg) (U:(List Key)×Int):D.N k [1,1,0,1,0,0] (T0 a1 U) (iV rec (fw [0,1,5,7,8] []) K)=b0 (S0 rec a1) (cx K a1) a1 U:=by kernel_rfl
noncomputable def T1 (a1:Arg) (fd:(List Key)×Int):St:={ n:=82,sl:=[(1,.val (.aa ca) a1.2.1),(5,.box be (ak be) [] a1.2.2.1),(7,.own (.aa be) (ai (.aa be)) [] fd.1),(9,.val i64 fd.2)],vr:=[],az:=[] }
noncomputable def S1 (rec:RT Out) (a1:Arg):((List Key)×Int)->OO:=λfd=>rec (T1 a1 fd)
noncomputable def jA (K:KT Out) (a1:Arg):(List Key)->OO:=λz=>K (.exit 2) ({ n:=82,sl:=[(5,.box be (ak be) [] a1.2.2.1),(7,.own (.aa be) (ai (.aa be)) [] z)],vr:=[],az:=[] })
noncomputable def b1 (self:((List Key)×Int)->OO) (e2:(List Key)->OO) (a1:Arg) (fd:(List Key)×Int):OO:=bif decide (fd.2 < (a1.2.1.length:Int)) then (if 0<=fd.2 then ((a1.2.1[fd.2.toNat]?).bind λC7=>if fd.1.length+C7.2.2.2.1.length<=cg then (self (fd.1++C7.2.2.2.1,af (fd.2+(1:Int)))) else none) else none) else e2 fd.1
theorem tT (k:Nat) (rec:RT Out) (K:KT Out) (a1:Arg) (fd:(List Key)×Int):D.N k [1,1,1,0,1,0,0] (T1 a1 fd) (iV rec (fw [1,5,7,9] []) K)=b1 (S1 rec a1) (jA K a1) a1 fd:=by kernel_rfl
noncomputable def T2 (a1:Arg) (pH:(List Key)×Int×Int):St:={ n:=82,sl:=[(7,.own (.aa be) (ai (.aa be)) [] pH.1),(10,.val i64 pH.2.1),(11,.val i64 pH.2.2)],vr:=[],az:=[] }
noncomputable def S2 (rec:RT Out) (a1:Arg):((List Key)×Int×Int)->OO:=λpH=>rec (T2 a1 pH)
noncomputable def Jn (K:KT Out) (a1:Arg):Int->OO:=λz=>K (.exit 4) ({ n:=82,sl:=[(10,.val i64 z)],vr:=[],az:=[] })
noncomputable def T3 (a1:Arg) (tc:List Key) (v6:Int) (td:Int) (tW:Bool×Int):St:={ n:=82,sl:=[(7,.own (.aa be) (ai (.aa be)) [] tc),(10,.val i64 v6),(11,.val i64 td),(12,.val .bool tW.1),(13,.val i64 tW.2)],vr:=[],az:=[] }
noncomputable def b3 (self:(Bool×Int)->OO) (e6:Bool->OO) (a1:Arg) (tc:List Key) (v6:Int) (td:Int) (tW:Bool×Int):OO:=bif decide (tW.2 < td) then (bif tW.1 then (if 0<=tW.2/\tW.2 < (tc.length:Int) then ((tc[tW.2.toNat]?).bind λaaK=>if 0<=td/\td < (tc.length:Int) then ((tc[td.toNat]?).bind λaaL=>self (!(Ty.eq be aaK aaL),af (tW.2+(1:Int)))) else none) else none) else e6 tW.1) else e6 tW.1
noncomputable def q2 (self:((List Key)×Int×Int)->OO) (e4:Int->OO) (a1:Arg) (tc:List Key) (v6:Int) (td:Int) (aaM:Bool):OO:=bif aaM then (self (tc,af (v6+(1:Int)),af (td+(1:Int)))) else self (tc,v6,af (td+(1:Int)))
noncomputable def s3 (k:Nat) (rec:RT Out) (K:KT Out) (a1:Arg):(List Key)->Int->Int->(Bool×Int)->OO:=λtc v6 td=>λtW=>D.L k [1,1,1,1,1,1,0,1,0,0,1,0,0,1,0,1,0,0] [7,10,11,12,13] [] (ah 6 (av (D.N k [1,1,1,1,1,1,0,1,0,0,1,0,0,1,1]) (ah 5 (av (D.N k [1,1,1,1,1,1,0,1,0,0,1,1]) (iV rec (fw [7,10,11] []) K))))) (T3 a1 tc v6 td tW)
noncomputable def r3 (k:Nat) (self:((List Key)×Int×Int)->OO) (e4:Int->OO) (a1:Arg):(List Key)->Int->Int->(Bool×Int)->OO:=λtc v6 td=>al (λw v=>b3 w (q2 self e4 a1 tc v6 td) a1 tc v6 td v) k
theorem Ra (k:Nat) (rec:RT Out) (K:KT Out) (a1:Arg):s3 k rec K a1=r3 k (S2 rec a1) (Jn K a1) a1:=
 funext λtc=>funext λv6=>funext λtd=>funext λtW=>ap _ _ _ (T3 a1 tc v6 td) _ (λrec v=>by kernel_rfl) k tW
noncomputable def b2 (self:((List Key)×Int×Int)->OO) (e4:Int->OO) (l3:(List Key)->Int->Int->(Bool×Int)->OO) (a1:Arg) (pH:(List Key)×Int×Int):OO:=bif decide (pH.2.2 < (pH.1.length:Int)) then (l3 pH.1 pH.2.1 pH.2.2 (true,(0:Int))) else e4 pH.2.1
noncomputable def B2 (k:Nat) (self:((List Key)×Int×Int)->OO) (e4:Int->OO) (a1:Arg) (pH:(List Key)×Int×Int):OO:=b2 self e4 (r3 k self e4 a1) a1 pH
theorem Rb (k:Nat) (rec:RT Out) (K:KT Out) (a1:Arg) (pH:(List Key)×Int×Int):D.N k [1,1,1,1,1,1,0,1,0,0] (T2 a1 pH) (iV rec (fw [7,10,11] []) K)=B2 k (S2 rec a1) (Jn K a1) a1 pH:=
 aQ (b:=b2 (S2 rec a1) (Jn K a1) (s3 k rec K a1) a1 pH) (by kernel_rfl) (by rw[Ra];rfl)
noncomputable def q3 (a1:Arg) (Ld:Int):OO:=some (Ld,())
theorem Rc (k:Nat) (a1:Arg) (Ld:Int):Jn (ah 4 (av (D.N k [1,1,1,1,1,1,1]) D.K0)) a1 Ld=q3 a1 Ld:=by kernel_rfl
noncomputable def s2 (k:Nat) (a1:Arg):((List Key)×Int×Int)->OO:=λpH=>D.L k [1,1,1,1,1,1,0,1,0,0] [7,10,11] [] (ah 4 (av (D.N k [1,1,1,1,1,1,1]) D.K0)) (T2 a1 pH)
noncomputable def r2 (k:Nat) (a1:Arg):((List Key)×Int×Int)->OO:=al (λw v=>B2 k w (q3 a1) a1 v) k
theorem su (k:Nat) (a1:Arg):s2 k a1=r2 k a1:=by
 funext pH;have h4:Jn (ah 4 (av (D.N k [1,1,1,1,1,1,1]) D.K0)) a1=q3 a1:=funext λz=>Rc k a1 z;refine (ap _ _ _ (T2 a1) (λself v=>B2 k self (Jn (ah 4 (av (D.N k [1,1,1,1,1,1,1]) D.K0)) a1) a1 v) (λrec v=>Rb k rec (ah 4 (av (D.N k [1,1,1,1,1,1,1]) D.K0)) a1 v) k pH).trans ?_;rw[h4];rfl
noncomputable def q1 (l2:((List Key)×Int×Int)->OO) (a1:Arg) (zs:(List Key)):OO:=let W8:=λ(aaN:List Key)=>(l2 (aaN,(0:Int),(0:Int)):OO);bif !decide (a1.2.2.1.2.1=(0:Int)) then (if zs.length+[a1.2.2.1].length<=cg then (W8 (zs++[a1.2.2.1])) else none) else W8 zs
noncomputable def Q1 (k:Nat) (a1:Arg) (zs:(List Key)):OO:=q1 (r2 k a1) a1 zs
theorem qX (k:Nat) (a1:Arg) (zs:(List Key)):jA (ah 2 (av (D.N k [1,1,1,1]) D.K0)) a1 zs=Q1 k a1 zs:=
 aQ (b:=q1 (s2 k a1) a1 zs) (by kernel_rfl) (by rw[su];rfl)
noncomputable def s1 (k:Nat) (a1:Arg):((List Key)×Int)->OO:=λfd=>D.L k [1,1,1,0,1,0,0] [1,5,7,9] [] (ah 2 (av (D.N k [1,1,1,1]) D.K0)) (T1 a1 fd)
noncomputable def r1 (k:Nat) (a1:Arg):((List Key)×Int)->OO:=al (λw v=>b1 w (Q1 k a1) a1 v) k
theorem lC (k:Nat) (a1:Arg):s1 k a1=r1 k a1:=by
 funext fd;have h2:jA (ah 2 (av (D.N k [1,1,1,1]) D.K0)) a1=Q1 k a1:=funext λz=>qX k a1 z;refine (ap _ _ _ (T1 a1) (λself v=>b1 self (jA (ah 2 (av (D.N k [1,1,1,1]) D.K0)) a1) a1 v) (λrec v=>tT k rec (ah 2 (av (D.N k [1,1,1,1]) D.K0)) a1 v) k fd).trans ?_;rw[h2];rfl
noncomputable def q0 (l1:((List Key)×Int)->OO) (a1:Arg) (et:(List Key)):OO:=l1 (et,(0:Int))
noncomputable def Q0 (k:Nat) (a1:Arg) (et:(List Key)):OO:=q0 (r1 k a1) a1 et
theorem sv (k:Nat) (a1:Arg) (et:(List Key)):cx (ah 0 (av (D.N k [1,1,1]) D.K0)) a1 et=Q0 k a1 et:=
 aQ (b:=q0 (s1 k a1) a1 et) (by kernel_rfl) (by rw[lC];rfl)
noncomputable def s0 (k:Nat) (a1:Arg):((List Key)×Int)->OO:=λU=>D.L k [1,1,0,1,0,0] [0,1,5,7,8] [] (ah 0 (av (D.N k [1,1,1]) D.K0)) (T0 a1 U)
noncomputable def r0 (k:Nat) (a1:Arg):((List Key)×Int)->OO:=al (λw v=>b0 w (Q0 k a1) a1 v) k
theorem aq (k:Nat) (a1:Arg):s0 k a1=r0 k a1:=by
 funext U;have h0:cx (ah 0 (av (D.N k [1,1,1]) D.K0)) a1=Q0 k a1:=funext λz=>sv k a1 z;refine (ap _ _ _ (T0 a1) (λself v=>b0 self (cx (ah 0 (av (D.N k [1,1,1]) D.K0)) a1) a1 v) (λrec v=>lB k rec (ah 0 (av (D.N k [1,1,1]) D.K0)) a1 v) k U).trans ?_;rw[h0];rfl
noncomputable def p (l0:((List Key)×Int)->OO) (a1:Arg):OO:=l0 (([]:List Key),(0:Int))
theorem ae (k:Nat) (a1:Arg):@Eq OO (D.W k a1) (p (r0 k a1) a1):=
 aQ (b:=p (s0 k a1) a1) (by kernel_rfl) (by rw[aq])
theorem ok:Ok prog 154 D.sig:=am func154 aw (by kernel_rfl) (aj _)
end cc
namespace ja
abbrev Arg:Type:=(List Change)×Unit
abbrev Out:Type:=(List Change)×Unit
abbrev OO:=Option Out
noncomputable def D:FD:={ fn:=f206,tl:=bc,ps:=[(.ro,(.aa an))],rs:=[((.aa an),(ai (.aa an)))],lv:=[(3,[0,3,4])],lx:=[(0,[3])] }
noncomputable def ab (a:Arg):OO:=@lift Out λk=>D.W k a
noncomputable def T0 (a1:Arg) (U:(List Change)×Int):St:={ n:=31,sl:=[(0,.val (.aa an) a1.1),(3,.own (.aa an) (ai (.aa an)) [] U.1),(4,.val i64 U.2)],vr:=[],az:=[] }
noncomputable def b0 (self:((List Change)×Int)->OO) (e0:(List Change)->OO) (a1:Arg) (U:(List Change)×Int):OO:=bif decide ((0:Int)<=U.2) then (if 0<=U.2 then ((a1.1[U.2.toNat]?).bind λa8=>if U.1.length+[(a8.2.2.1,a8.2.2.2.1,a8.1,a8.2.1,())].length<=cg then (let qH:=U.1++[(a8.2.2.1,a8.2.2.2.1,a8.1,a8.2.1,())];self (qH,af (U.2 - (1:Int)))) else none) else none) else e0 U.1
noncomputable def q0 (a1:Arg) (et:(List Change)):OO:=some (et,())
noncomputable def s0 (k:Nat) (a1:Arg):((List Change)×Int)->OO:=λU=>D.L k [1,1,0,1,0,0] [0,3,4] [] (ah 0 (av (D.N k [1,1,1]) D.K0)) (T0 a1 U)
noncomputable def r0 (k:Nat) (a1:Arg):((List Change)×Int)->OO:=al (λw v=>b0 w (q0 a1) a1 v) k
theorem aq (k:Nat) (a1:Arg):s0 k a1=r0 k a1:=
 funext λU=>ap _ _ _ (T0 a1) _ (λrec v=>by kernel_rfl) k U
noncomputable def p (l0:((List Change)×Int)->OO) (a1:Arg):OO:=l0 (([]:List Change),af ((a1.1.length:Int) - (1:Int)))
theorem ae (k:Nat) (a1:Arg):@Eq OO (D.W k a1) (p (r0 k a1) a1):=
 aQ (b:=p (s0 k a1) a1) (by kernel_rfl) (by rw[aq])
theorem ok:Ok prog 206 D.sig:=am func206 aw (by kernel_rfl) (aj _)
end ja
namespace oC
abbrev Arg:Type:=(List Row)×Int×Int×Unit
abbrev Out:Type:=Int×Unit
abbrev OO:=Option Out
noncomputable def D:FD:={ fn:=f312,tl:=bc,ps:=[(.ro,(.aa bd)),(.ro,i64),(.ro,i64)],rs:=[(i64,(ak i64))],lv:=[(2,[0,1,2,7])],lx:=[(0,[])] }
noncomputable def ab (a:Arg):OO:=@lift Out λk=>D.W k a
noncomputable def T0 (a1:Arg) (U:Int):St:={ n:=31,sl:=[(0,.val (.aa bd) a1.1),(1,.val i64 a1.2.1),(2,.val i64 a1.2.2.1),(7,.val i64 U)],vr:=[],az:=[] }
noncomputable def b0 (self:Int->OO) (e0:(Unit)->OO) (a1:Arg) (U:Int):OO:=bif decide (U < (a1.1.length:Int)) then (if 0<=U then ((a1.1[U.toNat]?).bind λa8=>bif decide (a8.1=a1.2.1) then (if 0<=U then ((a1.1[U.toNat]?).bind λgx=>bif decide (gx.2.1=a1.2.2.1) then (some (U,())) else self (af (U+(1:Int)))) else none) else self (af (U+(1:Int)))) else none) else e0 ()
noncomputable def q0 (a1:Arg) (et:(Unit)):OO:=some ((-1:Int),())
noncomputable def s0 (k:Nat) (a1:Arg):(Int)->OO:=λU=>D.L k [1,0,1,0,0] [0,1,2,7] [] (ah 0 (av (D.N k [1,1]) D.K0)) (T0 a1 U)
noncomputable def r0 (k:Nat) (a1:Arg):(Int)->OO:=al (λw v=>b0 w (q0 a1) a1 v) k
theorem aq (k:Nat) (a1:Arg):s0 k a1=r0 k a1:=
 funext λU=>ap _ _ _ (T0 a1) _ (λrec v=>by kernel_rfl) k U
noncomputable def p (l0:(Int)->OO) (a1:Arg):OO:=l0 (0:Int)
theorem ae (k:Nat) (a1:Arg):@Eq OO (D.W k a1) (p (r0 k a1) a1):=
 aQ (b:=p (s0 k a1) a1) (by kernel_rfl) (by rw[aq])
theorem ok:Ok prog 312 D.sig:=am func312 aw (by kernel_rfl) (aj _)
end oC
namespace oD
abbrev Arg:Type:=(List Row)×Change×Unit
abbrev Out:Type:=(List Row)×Bool×Unit
abbrev OO:=Option Out
noncomputable def D:FD:={ fn:=f293,tl:=bc,ps:=[(.ro,(.aa bd)),(.ro,(.ptr an))],rs:=[((.aa bd),(ai (.aa bd))),(.bool,(ak .bool))],gl:=[(151,kQ.D.sig),(204,ku.D.sig),(312,oC.D.sig)],lv:=[(7,[0,1,8,9,10])],lx:=[(0,[1,9])],od:=[(3,[0,1,2,3,4,5,6,7,8,9,10,11,12,13,14,15,16,17,18,19,20,21])] }
noncomputable def ab (a:Arg):OO:=@lift Out λk=>D.W k a
noncomputable def T0 (a1:Arg) (kR:Int) (iw:(List Row)×Int):St:={ n:=70,sl:=[(0,.val (.aa bd) a1.1),(1,.cp an a1.2.1),(8,.val i64 kR),(9,.own (.aa bd) (ai (.aa bd)) [] iw.1),(10,.val i64 iw.2)],vr:=[],az:=[] }
noncomputable def b0 (self:((List Row)×Int)->OO) (e0:(List Row)->OO) (a1:Arg) (kR:Int) (iw:(List Row)×Int):OO:=bif decide (iw.2 < (a1.1.length:Int)) then (bif !decide (iw.2=kR) then (if 0<=iw.2 then ((a1.1[iw.2.toNat]?).bind λFG=>if iw.1.length+[FG].length<=cg then (self (iw.1++[FG],af (iw.2+(1:Int)))) else none) else none) else self (iw.1,af (iw.2+(1:Int)))) else e0 iw.1
noncomputable def q0 (a1:Arg) (kR:Int) (W9:(List Row)):OO:=bif a1.2.1.2.2.1 then ((kQ.ab (W9,a1.2.1.2.2.2.1,())).bind λBo=>some (Bo.1,true,())) else some (W9,true,())
noncomputable def s0 (k:Nat) (a1:Arg):Int->((List Row)×Int)->OO:=λkR=>λiw=>D.L k [1,1,1,1,1,0,1,0,0] [0,1,8,9,10] [] (ah 0 (av (D.N k [1,1,1,1,1,1]) D.K0)) (T0 a1 kR iw)
noncomputable def r0 (k:Nat) (a1:Arg):Int->((List Row)×Int)->OO:=λkR=>al (λw v=>b0 w (q0 a1 kR) a1 kR v) k
theorem aq (k:Nat) (a1:Arg):s0 k a1=r0 k a1:=
 funext λkR=>funext λiw=>ap _ _ _ (T0 a1 kR) _ (λrec v=>by kernel_rfl) k iw
noncomputable def p (l0:Int->((List Row)×Int)->OO) (a1:Arg):OO:=(ku.ab (a1.2.1,())).bind λr2=>(oC.ab (a1.1,r2.1,r2.2.1,())).bind λr3=>let ME:OO:=l0 r3.1 (([]:List Row),(0:Int));bif !(a1.2.1.1 == (decide ((0:Int)<=r3.1))) then (some (([]:List Row),false,())) else bif decide ((0:Int)<=r3.1) then (if 0<=r3.1 then ((a1.1[r3.1.toNat]?).bind λx4=>bif !(Ty.eq bd x4 a1.2.1.2.1) then (some (([]:List Row),false,())) else ME) else none) else ME
theorem ae (k:Nat) (a1:Arg):@Eq OO (D.W k a1) (p (r0 k a1) a1):=
 aQ (b:=p (s0 k a1) a1) (by kernel_rfl) (by rw[aq])
theorem ok:Ok prog 293 D.sig:=am func293 aw (by kernel_rfl) (fc kQ.ok (fc ku.ok (fc oC.ok (aj _))))
end oD
namespace lI
abbrev Arg:Type:=(List Row)×(List Change)×Unit
abbrev Out:Type:=(List Row)×Bool×Unit
abbrev OO:=Option Out
noncomputable def D:FD:={ fn:=f239,tl:=bc,ps:=[(.ro,(.aa bd)),(.ro,(.aa an))],rs:=[((.aa bd),(ak (.aa bd))),(.bool,(ak .bool))],gl:=[(206,ja.D.sig),(293,oD.D.sig)],lv:=[(3,[0,6,7])],lx:=[(0,[0])],lf:=[(3,[(0,(.aa false (.pair .leaf (.pair .leaf (.pair .leaf (.pair .leaf .leaf))))))])] }
noncomputable def ab (a:Arg):OO:=@lift Out λk=>D.W k a
noncomputable def T0 (a1:Arg) (dx:List Change) (bf:(List Row)×Int):St:={ n:=30,sl:=[(0,.val (.aa bd) bf.1),(6,.own (.aa an) (ai (.aa an)) [] dx),(7,.val i64 bf.2)],vr:=[],az:=[] }
noncomputable def b0 (self:((List Row)×Int)->OO) (e0:(List Row)->OO) (a1:Arg) (dx:List Change) (bf:(List Row)×Int):OO:=bif decide (bf.2 < (dx.length:Int)) then (if 0<=bf.2/\bf.2 < (dx.length:Int) then ((dx[bf.2.toNat]?).bind λdw=>(oD.ab (bf.1,dw,())).bind λjy=>bif !jy.2.1 then (some (([]:List Row),false,())) else self (jy.1,af (bf.2+(1:Int)))) else none) else e0 bf.1
noncomputable def q0 (a1:Arg) (dx:List Change) (lg:(List Row)):OO:=some (lg,true,())
noncomputable def s0 (k:Nat) (a1:Arg):(List Change)->((List Row)×Int)->OO:=λdx=>λbf=>D.L k [1,1,0,1,0,0] [0,6,7] [(0,(.aa false (.pair .leaf (.pair .leaf (.pair .leaf (.pair .leaf .leaf))))))] (ah 0 (av (D.N k [1,1,1]) D.K0)) (T0 a1 dx bf)
noncomputable def r0 (k:Nat) (a1:Arg):(List Change)->((List Row)×Int)->OO:=λdx=>al (λw v=>b0 w (q0 a1 dx) a1 dx v) k
theorem aq (k:Nat) (a1:Arg):s0 k a1=r0 k a1:=
 funext λdx=>funext λbf=>ap _ _ _ (T0 a1 dx) _ (λrec v=>by kernel_rfl) k bf
noncomputable def p (l0:(List Change)->((List Row)×Int)->OO) (a1:Arg):OO:=(ja.ab (a1.2.1,())).bind λr2=>l0 r2.1 (a1.1,(0:Int))
theorem ae (k:Nat) (a1:Arg):@Eq OO (D.W k a1) (p (r0 k a1) a1):=
 aQ (b:=p (s0 k a1) a1) (by kernel_rfl) (by rw[aq])
theorem ok:Ok prog 239 D.sig:=am func239 aw (by kernel_rfl) (fc ja.ok (fc oD.ok (aj _)))
end lI
namespace lJ
abbrev Arg:Type:=(List Row)×(List Tx)×Unit
abbrev Out:Type:=(List Row)×Bool×Unit
abbrev OO:=Option Out
noncomputable def D:FD:={ fn:=f155,tl:=bc,ps:=[(.ro,(.aa bd)),(.ro,(.aa ca))],rs:=[((.aa bd),(ak (.aa bd))),(.bool,(ak .bool))],gl:=[(239,lI.D.sig)],lv:=[(3,[1,6,7])],lx:=[(0,[6])],lf:=[(3,[(6,(.aa false (.pair .leaf (.pair .leaf (.pair .leaf (.pair .leaf .leaf))))))])] }
noncomputable def ab (a:Arg):OO:=@lift Out λk=>D.W k a
noncomputable def T0 (a1:Arg) (U:(List Row)×Int):St:={ n:=33,sl:=[(1,.val (.aa ca) a1.2.1),(6,.val (.aa bd) U.1),(7,.val i64 U.2)],vr:=[],az:=[] }
noncomputable def b0 (self:((List Row)×Int)->OO) (e0:(List Row)->OO) (a1:Arg) (U:(List Row)×Int):OO:=bif decide (U.2 < (a1.2.1.length:Int)) then (if 0<=U.2 then ((a1.2.1[U.2.toNat]?).bind λa8=>(lI.ab (U.1,a8.2.1,())).bind λdg=>bif !dg.2.1 then (some (([]:List Row),false,())) else self (dg.1,af (U.2+(1:Int)))) else none) else e0 U.1
noncomputable def q0 (a1:Arg) (et:(List Row)):OO:=some (et,true,())
noncomputable def s0 (k:Nat) (a1:Arg):((List Row)×Int)->OO:=λU=>D.L k [1,1,0,1,0,0] [1,6,7] [(6,(.aa false (.pair .leaf (.pair .leaf (.pair .leaf (.pair .leaf .leaf))))))] (ah 0 (av (D.N k [1,1,1]) D.K0)) (T0 a1 U)
noncomputable def r0 (k:Nat) (a1:Arg):((List Row)×Int)->OO:=al (λw v=>b0 w (q0 a1) a1 v) k
theorem aq (k:Nat) (a1:Arg):s0 k a1=r0 k a1:=
 funext λU=>ap _ _ _ (T0 a1) _ (λrec v=>by kernel_rfl) k U
noncomputable def p (l0:((List Row)×Int)->OO) (a1:Arg):OO:=if ([]:List Row).length+a1.1.length<=cg then (l0 (([]:List Row)++a1.1,(0:Int))) else none
theorem ae (k:Nat) (a1:Arg):@Eq OO (D.W k a1) (p (r0 k a1) a1):=
 aQ (b:=p (s0 k a1) a1) (by kernel_rfl) (by rw[aq])
theorem ok:Ok prog 155 D.sig:=am func155 aw (by kernel_rfl) (fc lI.ok (aj _))
end lJ
namespace pt
abbrev Arg:Type:=Plain×Unit
abbrev Out:Type:=Int×Unit
noncomputable def D:FD:={ fn:=f90,tl:=bc,ps:=[(.ro,(.ptr Cg))],rs:=[(i64,(ak i64))],gl:=[(65,br.D.sig),(152,kA.D.sig),(153,jf.D.sig),(154,cc.D.sig),(155,lJ.D.sig)],od:=[(8,[0,1,2,3,4,5,6,7,8,9,10,11,12,13,14,15,16,17,18,19,20,21,22,23,24,25]),(10,[0,1,2,3,4,5,6,7,8,9,10]),(12,[0,1,2,3,4,5,6,7,8,9,10,11,12,13])],ar:=[(8,[3,13,18,22])] }
noncomputable def ab (a:Arg):Option Out:=@lift Out λk=>D.W k a
noncomputable def p (a1:Arg):Option Out:=(kA.ab (a1.1.1,())).bind λr2=>bif !decide (r2.1=(0:Int)) then (some (r2.1,())) else (jf.ab (a1.1.2.1,())).bind λr3=>bif !decide (r3.1=(0:Int)) then (some (r3.1,())) else let j8:Option Out:=(cc.ab (a1.1.1,a1.1.2.1,((0:Int),(0:Int),()),())).bind λr9=>bif decide ((12:Int) < r9.1) then (some ((2:Int),())) else (lJ.ab (a1.1.1,a1.1.2.1,())).bind λuY=>bif !uY.2.1 then (some ((8:Int),())) else some ((0:Int),());(br.ab (a1.1.2.2.1,(1:Int),(100:Int),())).bind λr4=>bif !r4.1 then (some ((3:Int),())) else bif decide ((0:Int) < (a1.1.2.1.length:Int)) then (if 0<=af ((a1.1.2.1.length:Int) - (1:Int)) then ((a1.1.2.1[(af ((a1.1.2.1.length:Int) - (1:Int))).toNat]?).bind λx5=>bif decide (a1.1.2.2.1<=x5.1) then (some ((3:Int),())) else j8) else none) else j8
theorem ae (k:Nat) (a1:Arg):@Eq (Option Out) (D.W k a1) (p a1):=by kernel_rfl
theorem ok:Ok prog 90 D.sig:=am func90 aw (by kernel_rfl) (fc br.ok (fc kA.ok (fc jf.ok (fc cc.ok (fc lJ.ok (aj _))))))
end pt
namespace ir
abbrev Arg:Type:=(List (List UInt8))×Unit
abbrev Out:Type:=(List (List UInt8))×Unit
abbrev OO:=Option Out
noncomputable def D:FD:={ fn:=f126,tl:=bc,ps:=[(.ro,(.aa (.aa u8)))],rs:=[((.aa (.aa u8)),(ai (.aa (.aa u8))))],gl:=[(139,cb.D.sig)],lv:=[(3,[0,3,4])],lx:=[(0,[3])] }
noncomputable def ab (a:Arg):OO:=@lift Out λk=>D.W k a
noncomputable def T0 (a1:Arg) (U:(List (List UInt8))×Int):St:={ n:=21,sl:=[(0,.val (.aa (.aa u8)) a1.1),(3,.own (.aa (.aa u8)) (ai (.aa (.aa u8))) [] U.1),(4,.val i64 U.2)],vr:=[],az:=[] }
noncomputable def b0 (self:((List (List UInt8))×Int)->OO) (e0:(List (List UInt8))->OO) (a1:Arg) (U:(List (List UInt8))×Int):OO:=bif decide (U.2 < (a1.1.length:Int)) then (if 0<=U.2 then ((a1.1[U.2.toNat]?).bind λa8=>(cb.ab (a8,())).bind λdg=>if U.1.length+[dg.1].length<=cg then (self (U.1++[dg.1],af (U.2+(1:Int)))) else none) else none) else e0 U.1
noncomputable def q0 (a1:Arg) (et:(List (List UInt8))):OO:=some (et,())
noncomputable def s0 (k:Nat) (a1:Arg):((List (List UInt8))×Int)->OO:=λU=>D.L k [1,1,0,1,0,0] [0,3,4] [] (ah 0 (av (D.N k [1,1,1]) D.K0)) (T0 a1 U)
noncomputable def r0 (k:Nat) (a1:Arg):((List (List UInt8))×Int)->OO:=al (λw v=>b0 w (q0 a1) a1 v) k
theorem aq (k:Nat) (a1:Arg):s0 k a1=r0 k a1:=
 funext λU=>ap _ _ _ (T0 a1) _ (λrec v=>by kernel_rfl) k U
noncomputable def p (l0:((List (List UInt8))×Int)->OO) (a1:Arg):OO:=l0 (([]:List (List UInt8)),(0:Int))
theorem ae (k:Nat) (a1:Arg):@Eq OO (D.W k a1) (p (r0 k a1) a1):=
 aQ (b:=p (s0 k a1) a1) (by kernel_rfl) (by rw[aq])
theorem ok:Ok prog 126 D.sig:=am func126 aw (by kernel_rfl) (fc cb.ok (aj _))
end ir
namespace fe
abbrev Arg:Type:=Int×Unit
abbrev Out:Type:=dr×Unit
noncomputable def D:FD:={ fn:=f240,tl:=bc,ps:=[(.ro,i64)],rs:=[(db,(ai db))] }
noncomputable def ab (a:Arg):Option Out:=@lift Out λk=>D.W k a
noncomputable def p (a1:Arg):Option Out:=some ((a1.1,([]:List cd),([]:List (List UInt8)),()),())
theorem ae (k:Nat) (a1:Arg):@Eq (Option Out) (D.W k a1) (p a1):=by kernel_rfl
theorem ok:Ok prog 240 D.sig:=am func240 aw (by kernel_rfl) (aj _)
end fe
namespace jL
abbrev Arg:Type:=UInt8×Unit
abbrev Out:Type:=(List UInt8)×Unit
abbrev OO:=Option Out
noncomputable def D:FD:={ fn:=f241,tl:=bc,ps:=[(.ro,u8)],rs:=[((.aa u8),(ai (.aa u8)))],lv:=[(3,[0,3,4])],lx:=[(0,[3])] }
noncomputable def ab (a:Arg):OO:=@lift Out λk=>D.W k a
noncomputable def T0 (a1:Arg) (U:(List UInt8)×Int):St:={ n:=19,sl:=[(0,.val u8 a1.1),(3,.own (.aa u8) (ai (.aa u8)) [] U.1),(4,.val i64 U.2)],vr:=[],az:=[] }
noncomputable def b0 (self:((List UInt8)×Int)->OO) (e0:(List UInt8)->OO) (a1:Arg) (U:(List UInt8)×Int):OO:=bif decide (U.2 < (64:Int)) then (if 0<=U.2/\U.2 < (U.1.length:Int) then ((U.1[U.2.toNat]?).bind λa8=>self (U.1.set U.2.toNat a1.1,af (U.2+(1:Int)))) else none) else e0 U.1
noncomputable def q0 (a1:Arg) (mM:(List UInt8)):OO:=if 0<=(0:Int)/\(0:Int) < (mM.length:Int) then ((mM[0]?).bind λdw=>if 0<=(1:Int)/\(1:Int) < ((mM.set 0 (0:UInt8)).length:Int) then (((mM.set 0 (0:UInt8))[1]?).bind λrL=>let BP:=(mM.set 0 (0:UInt8)).set 1 (64:UInt8);some (BP,())) else none) else none
noncomputable def s0 (k:Nat) (a1:Arg):((List UInt8)×Int)->OO:=λU=>D.L k [1,1,0,1,0,0] [0,3,4] [] (ah 0 (av (D.N k [1,1,1]) D.K0)) (T0 a1 U)
noncomputable def r0 (k:Nat) (a1:Arg):((List UInt8)×Int)->OO:=al (λw v=>b0 w (q0 a1) a1 v) k
theorem aq (k:Nat) (a1:Arg):s0 k a1=r0 k a1:=
 funext λU=>ap _ _ _ (T0 a1) _ (λrec v=>by kernel_rfl) k U
noncomputable def p (l0:((List UInt8)×Int)->OO) (a1:Arg):OO:=if 0<=(64:Int)/\(64:Int)<=(64:Int)/\(64:Int)<=(cg:Int) then (l0 (List.replicate 64 (0:UInt8),(0:Int))) else none
theorem ae (k:Nat) (a1:Arg):@Eq OO (D.W k a1) (p (r0 k a1) a1):=
 aQ (b:=p (s0 k a1) a1) (by kernel_rfl) (by rw[aq])
theorem ok:Ok prog 241 D.sig:=am func241 aw (by kernel_rfl) (aj _)
end jL
namespace kS
abbrev Arg:Type:=(List UInt8)×(List cd)×Unit
abbrev Out:Type:=(List UInt8)×Unit
abbrev OO:=Option Out
noncomputable def D:FD:={ fn:=f242,tl:=bc,ps:=[(.ro,(.aa u8)),(.ro,(.aa nM))],rs:=[((.aa u8),(ai (.aa u8)))],gl:=[(139,cb.D.sig)],lv:=[(3,[1,5,6])],lx:=[(0,[5])],od:=[(5,[0,1,2,3,4,5,6,7,8,9,10,11,12])] }
noncomputable def ab (a:Arg):OO:=@lift Out λk=>D.W k a
noncomputable def T0 (a1:Arg) (bf:(List UInt8)×Int):St:={ n:=29,sl:=[(1,.val (.aa nM) a1.2.1),(5,.own (.aa u8) (ai (.aa u8)) [] bf.1),(6,.val i64 bf.2)],vr:=[],az:=[] }
noncomputable def b0 (self:((List UInt8)×Int)->OO) (e0:(List UInt8)->OO) (a1:Arg) (bf:(List UInt8)×Int):OO:=bif decide (bf.2 < (a1.2.1.length:Int)) then (if 0<=bf.2 then ((a1.2.1[bf.2.toNat]?).bind λgx=>if 0<=gx.1/\gx.1<=(bf.1.length:Int) then (if 0<=bf.2 then ((a1.2.1[bf.2.toNat]?).bind λdw=>let xh:=oo bf.1 gx.1.toNat (min dw.2.1.length (bf.1.length - gx.1.toNat)) dw.2.1;self (xh,af (bf.2+(1:Int)))) else none) else none) else none) else e0 bf.1
noncomputable def q0 (a1:Arg) (lg:(List UInt8)):OO:=some (lg,())
noncomputable def s0 (k:Nat) (a1:Arg):((List UInt8)×Int)->OO:=λbf=>D.L k [1,1,0,1,0,0] [1,5,6] [] (ah 0 (av (D.N k [1,1,1]) D.K0)) (T0 a1 bf)
noncomputable def r0 (k:Nat) (a1:Arg):((List UInt8)×Int)->OO:=al (λw v=>b0 w (q0 a1) a1 v) k
theorem aq (k:Nat) (a1:Arg):s0 k a1=r0 k a1:=
 funext λbf=>ap _ _ _ (T0 a1) _ (λrec v=>by kernel_rfl) k bf
noncomputable def p (l0:((List UInt8)×Int)->OO) (a1:Arg):OO:=(cb.ab (a1.1,())).bind λr2=>l0 (r2.1,(0:Int))
theorem ae (k:Nat) (a1:Arg):@Eq OO (D.W k a1) (p (r0 k a1) a1):=
 aQ (b:=p (s0 k a1) a1) (by kernel_rfl) (by rw[aq])
theorem ok:Ok prog 242 D.sig:=am func242 aw (by kernel_rfl) (fc cb.ok (aj _))
end kS
namespace fm
abbrev Arg:Type:=(List (List UInt8))×bm×Unit
abbrev Out:Type:=dr×Unit
abbrev OO:=Option Out
noncomputable def D:FD:={ fn:=f156,tl:=bc,ps:=[(.ro,(.aa (.aa u8))),(.ro,ek)],rs:=[(db,(ai db))],gl:=[(126,ir.D.sig),(136,ni.D.sig),(209,nv.D.sig),(240,fe.D.sig),(241,jL.D.sig),(242,kS.D.sig)],lv:=[(4,[0,3,4,5])],lx:=[(0,[0,3,4])],od:=[(20,[0,1,2,3,4,5,6]),(21,[0,1,2,3,4,5,6,7,8,9,10,11,12,13,14])] }
noncomputable def ab (a:Arg):OO:=@lift Out λk=>D.W k a
noncomputable def T0 (a1:Arg) (bf:Int):St:={ n:=75,sl:=[(0,.val (.aa (.aa u8)) a1.1),(3,.box ek (ak ek) [] a1.2.1),(4,.box db (ai db) [] ((0:Int),([]:List cd),([]:List (List UInt8)),())),(5,.val i64 bf)],vr:=[],az:=[] }
noncomputable def b0 (self:Int->OO) (e0:(Unit)->OO) (a1:Arg) (bf:Int):OO:=bif decide (bf < (a1.1.length:Int)) then (if 0<=bf then ((a1.1[bf.toNat]?).bind λgx=>bif !decide ((gx.length:Int)=(64:Int)) then ((fe.ab ((1:Int),())).bind λls=>some (ls.1,())) else self (af (bf+(1:Int)))) else none) else e0 ()
noncomputable def q0 (a1:Arg) (qY:(Unit)):OO:=(ni.ab (a1.2.1,())).bind λjz=>bif !decide (jz.1=(0:Int)) then ((fe.ab (jz.1,())).bind λpF=>some (pF.1,())) else (ir.ab (a1.1,())).bind λuX=>(nv.ab (a1.2.1.1,())).bind λxi=>bif !xi.1 then (some (((0:Int),([]:List cd),uX.1,()),())) else bif decide ((a1.1.length:Int) < a1.2.1.2.2.1) then ((fe.ab ((1:Int),())).bind λMF=>some (MF.1,())) else bif decide (a1.2.1.2.2.1=(12:Int)) then ((fe.ab ((2:Int),())).bind λVn=>some (Vn.1,())) else let ZL:=λ(C9:dr)=>(if 0<=a1.2.1.2.2.1/\a1.2.1.2.2.1 < (C9.2.2.1.length:Int) then ((C9.2.2.1[a1.2.1.2.2.1.toNat]?).bind λJo=>(C9.2.2.1[a1.2.1.2.2.1.toNat]?).bind λMG=>(kS.ab (MG,a1.2.1.2.2.2.1,())).bind λVo=>if 0<=a1.2.1.2.2.1/\a1.2.1.2.2.1 < (C9.2.2.1.length:Int) then ((C9.2.2.1[a1.2.1.2.2.1.toNat]?).bind λabK=>some ((C9.1,C9.2.1,C9.2.2.1.set a1.2.1.2.2.1.toNat Vo.1,C9.2.2.2),())) else none) else none:OO);bif decide (a1.2.1.2.2.1=(a1.1.length:Int)) then ((jL.ab ((0:UInt8),())).bind λQ_=>if uX.1.length+[Q_.1].length<=cg then (ZL ((0:Int),([]:List cd),uX.1++[Q_.1],())) else none) else ZL ((0:Int),([]:List cd),uX.1,())
noncomputable def s0 (k:Nat) (a1:Arg):(Int)->OO:=λbf=>D.L k [1,1,0,1,0,0] [0,3,4,5] [] (ah 0 (av (D.N k [1,1,1]) D.K0)) (T0 a1 bf)
noncomputable def r0 (k:Nat) (a1:Arg):(Int)->OO:=al (λw v=>b0 w (q0 a1) a1 v) k
theorem aq (k:Nat) (a1:Arg):s0 k a1=r0 k a1:=
 funext λbf=>ap _ _ _ (T0 a1) _ (λrec v=>by kernel_rfl) k bf
noncomputable def p (l0:(Int)->OO) (a1:Arg):OO:=bif decide ((12:Int) < (a1.1.length:Int)) then ((fe.ab ((2:Int),())).bind λr2=>some (r2.1,())) else l0 (0:Int)
theorem ae (k:Nat) (a1:Arg):@Eq OO (D.W k a1) (p (r0 k a1) a1):=
 aQ (b:=p (s0 k a1) a1) (by kernel_rfl) (by rw[aq])
theorem ok:Ok prog 156 D.sig:=am func156 aw (by kernel_rfl) (fc ir.ok (fc ni.ok (fc nv.ok (fc fe.ok (fc jL.ok (fc kS.ok (aj _)))))))
end fm
namespace mt
abbrev Arg:Type:=(List bm)×Unit
abbrev Out:Type:=(List (List UInt8))×Int×Unit
abbrev OO:=Option Out
noncomputable def D:FD:={ fn:=f91,tl:=bc,ps:=[(.ro,(.aa ek))],rs:=[((.aa (.aa u8)),(ai (.aa (.aa u8)))),(i64,(ak i64))],gl:=[(156,fm.D.sig)],lv:=[(3,[0,4,5])],lx:=[(0,[4])],od:=[(7,[0,1,2,3])] }
noncomputable def ab (a:Arg):OO:=@lift Out λk=>D.W k a
noncomputable def T0 (a1:Arg) (U:(List (List UInt8))×Int):St:={ n:=28,sl:=[(0,.val (.aa ek) a1.1),(4,.own (.aa (.aa u8)) (ai (.aa (.aa u8))) [] U.1),(5,.val i64 U.2)],vr:=[],az:=[] }
noncomputable def b0 (self:((List (List UInt8))×Int)->OO) (e0:(List (List UInt8))->OO) (a1:Arg) (U:(List (List UInt8))×Int):OO:=bif decide (U.2 < (a1.1.length:Int)) then (if 0<=U.2 then ((a1.1[U.2.toNat]?).bind λa8=>(fm.ab (U.1,a8,())).bind λdg=>bif !decide (dg.1.1=(0:Int)) then (some (([]:List (List UInt8)),dg.1.1,())) else self (dg.1.2.2.1,af (U.2+(1:Int)))) else none) else e0 U.1
noncomputable def q0 (a1:Arg) (et:(List (List UInt8))):OO:=some (et,(0:Int),())
noncomputable def s0 (k:Nat) (a1:Arg):((List (List UInt8))×Int)->OO:=λU=>D.L k [1,1,0,1,0,0] [0,4,5] [] (ah 0 (av (D.N k [1,1,1]) D.K0)) (T0 a1 U)
noncomputable def r0 (k:Nat) (a1:Arg):((List (List UInt8))×Int)->OO:=al (λw v=>b0 w (q0 a1) a1 v) k
theorem aq (k:Nat) (a1:Arg):s0 k a1=r0 k a1:=
 funext λU=>ap _ _ _ (T0 a1) _ (λrec v=>by kernel_rfl) k U
noncomputable def p (l0:((List (List UInt8))×Int)->OO) (a1:Arg):OO:=l0 (([]:List (List UInt8)),(0:Int))
theorem ae (k:Nat) (a1:Arg):@Eq OO (D.W k a1) (p (r0 k a1) a1):=
 aQ (b:=p (s0 k a1) a1) (by kernel_rfl) (by rw[aq])
theorem ok:Ok prog 91 D.sig:=am func91 aw (by kernel_rfl) (fc fm.ok (aj _))
end mt
namespace lK
abbrev Arg:Type:=(List (List UInt8))×(List (List UInt8))×Unit
abbrev Out:Type:=Bool×Unit
abbrev OO:=Option Out
noncomputable def D:FD:={ fn:=f92,tl:=bc,ps:=[(.ro,(.aa (.aa u8))),(.ro,(.aa (.aa u8)))],rs:=[(.bool,(ak .bool))],lv:=[(4,[0,1,5])],lx:=[(0,[])],od:=[(6,[0,1,2,3,4,5,6,7,8,9,10])] }
noncomputable def ab (a:Arg):OO:=@lift Out λk=>D.W k a
noncomputable def T0 (a1:Arg) (U:Int):St:={ n:=28,sl:=[(0,.val (.aa (.aa u8)) a1.1),(1,.val (.aa (.aa u8)) a1.2.1),(5,.val i64 U)],vr:=[],az:=[] }
noncomputable def b0 (self:Int->OO) (e0:(Unit)->OO) (a1:Arg) (U:Int):OO:=bif decide (U < (a1.1.length:Int)) then (if 0<=U then ((a1.1[U.toNat]?).bind λa8=>if 0<=U then ((a1.2.1[U.toNat]?).bind λgx=>bif !decide (a8=gx) then (some (false,())) else self (af (U+(1:Int)))) else none) else none) else e0 ()
noncomputable def q0 (a1:Arg) (et:(Unit)):OO:=some (true,())
noncomputable def s0 (k:Nat) (a1:Arg):(Int)->OO:=λU=>D.L k [1,1,0,1,0,0] [0,1,5] [] (ah 0 (av (D.N k [1,1,1]) D.K0)) (T0 a1 U)
noncomputable def r0 (k:Nat) (a1:Arg):(Int)->OO:=al (λw v=>b0 w (q0 a1) a1 v) k
theorem aq (k:Nat) (a1:Arg):s0 k a1=r0 k a1:=
 funext λU=>ap _ _ _ (T0 a1) _ (λrec v=>by kernel_rfl) k U
noncomputable def p (l0:(Int)->OO) (a1:Arg):OO:=bif !decide ((a1.1.length:Int)=(a1.2.1.length:Int)) then (some (false,())) else l0 (0:Int)
theorem ae (k:Nat) (a1:Arg):@Eq OO (D.W k a1) (p (r0 k a1) a1):=
 aQ (b:=p (s0 k a1) a1) (by kernel_rfl) (by rw[aq])
theorem ok:Ok prog 92 D.sig:=am func92 aw (by kernel_rfl) (aj _)
end lK
namespace qI
abbrev Arg:Type:=bj×Unit
abbrev Out:Type:=Int×Unit
noncomputable def D:FD:={ fn:=f39,tl:=bc,ps:=[(.ro,(.ptr ci))],rs:=[(i64,(ak i64))],gl:=[(65,br.D.sig),(76,oX.D.sig),(87,qd.D.sig),(88,gn.D.sig),(89,kM.D.sig),(90,pt.D.sig),(91,mt.D.sig),(92,lK.D.sig)],od:=[(13,[0,1,2,3,5,6,7,8,9,10,11,12,4,13,14,15])],ar:=[(13,[3,8,12])],pd:=[(13,[14])] }
noncomputable def ab (a:Arg):Option Out:=@lift Out λk=>D.W k a
noncomputable def p (a1:Arg):Option Out:=(qd.ab (a1.1.2.2.1,())).bind λr2=>bif !decide (r2.1=(0:Int)) then (some (r2.1,())) else bif !a1.1.1 then (bif decide ((0:Int) < (a1.1.2.1.length:Int)) then (some ((1:Int),())) else bif decide ((0:Int) < (a1.1.2.2.2.1.length:Int)) then (some ((1:Int),())) else bif decide ((0:Int) < (a1.1.2.2.1.2.1.length:Int)) then (some ((1:Int),())) else (br.ab (a1.1.2.2.2.2.1,(1:Int),(100:Int),())).bind λr3=>bif !r3.1 then (some ((3:Int),())) else some ((0:Int),())) else (gn.ab (a1.1.2.1,())).bind λr4=>bif !decide (r4.1=(0:Int)) then (some (r4.1,())) else (kM.ab (a1.1.2.1,())).bind λr5=>(pt.ab ((r5.1,a1.1.2.2.2.1,a1.1.2.2.2.2.1,()),())).bind λr6=>bif !decide (r6.1=(0:Int)) then (some (r6.1,())) else (oX.ab (a1.1.2.2.1,())).bind λr7=>(mt.ab (r7.1,())).bind λr8=>bif !decide (r8.2.1=(0:Int)) then (some ((8:Int),())) else (lK.ab (r8.1,a1.1.2.1,())).bind λr9=>bif !r9.1 then (some ((8:Int),())) else some ((0:Int),())
theorem ae (k:Nat) (a1:Arg):@Eq (Option Out) (D.W k a1) (p a1):=by kernel_rfl
theorem ok:Ok prog 39 D.sig:=am func39 aw (by kernel_rfl) (fc br.ok (fc oX.ok (fc qd.ok (fc gn.ok (fc kM.ok (fc pt.ok (fc mt.ok (fc lK.ok (aj _)))))))))
end qI
namespace oR
abbrev Arg:Type:=Int×Unit
abbrev Out:Type:=mE×Unit
noncomputable def D:FD:={ fn:=f40,tl:=bc,ps:=[(.ro,i64)],rs:=[(gz,(ai gz))] }
noncomputable def ab (a:Arg):Option Out:=@lift Out λk=>D.W k a
noncomputable def p (a1:Arg):Option Out:=some ((a1.1,(0:Int),(false,([]:List (List UInt8)),(([]:List UInt8),([]:List UInt8),()),([]:List Tx),(0:Int),()),()),())
theorem ae (k:Nat) (a1:Arg):@Eq (Option Out) (D.W k a1) (p a1):=by kernel_rfl
theorem ok:Ok prog 40 D.sig:=am func40 aw (by kernel_rfl) (aj _)
end oR
namespace lY
abbrev Arg:Type:=Log×Unit
abbrev Out:Type:=Log×Unit
noncomputable def D:FD:={ fn:=f77,tl:=bc,ps:=[(.ro,ee)],rs:=[(ee,(ai ee))],gl:=[(139,cb.D.sig)],od:=[(1,[0,1,3,4,2,5,6,7])] }
noncomputable def ab (a:Arg):Option Out:=@lift Out λk=>D.W k a
noncomputable def p (a1:Arg):Option Out:=(cb.ab (a1.1.1,())).bind λr2=>(cb.ab (a1.1.2.1,())).bind λr3=>some ((r2.1,r3.1,()),())
theorem ae (k:Nat) (a1:Arg):@Eq (Option Out) (D.W k a1) (p a1):=by kernel_rfl
theorem ok:Ok prog 77 D.sig:=am func77 aw (by kernel_rfl) (fc cb.ok (aj _))
end lY
namespace nS
abbrev Arg:Type:=Tx×Unit
abbrev Out:Type:=Tx×Unit
noncomputable def D:FD:={ fn:=f205,tl:=bc,ps:=[(.ro,ca)],rs:=[(ca,(ai ca))],od:=[(1,[0,1,3,4,7,8,11,12,2,5,6,9,10,13,14,15])],ar:=[(1,[1,4,8,12])],bx:=[(1,[1])],pd:=[(1,[2,6,10])] }
noncomputable def ab (a:Arg):Option Out:=@lift Out λk=>D.W k a
noncomputable def p (a1:Arg):Option Out:=if ([]:List Change).length+a1.1.2.1.length<=cg then (if ([]:List Int).length+a1.1.2.2.1.length<=cg then (if ([]:List Key).length+a1.1.2.2.2.1.length<=cg then (some ((a1.1.1,([]:List Change)++a1.1.2.1,([]:List Int)++a1.1.2.2.1,([]:List Key)++a1.1.2.2.2.1,()),())) else none) else none) else none
theorem ae (k:Nat) (a1:Arg):@Eq (Option Out) (D.W k a1) (p a1):=by kernel_rfl
theorem ok:Ok prog 205 D.sig:=am func205 aw (by kernel_rfl) (aj _)
end nS
namespace mu
abbrev Arg:Type:=(List Tx)×Unit
abbrev Out:Type:=(List Tx)×Unit
abbrev OO:=Option Out
noncomputable def D:FD:={ fn:=f127,tl:=bc,ps:=[(.ro,(.aa ca))],rs:=[((.aa ca),(ai (.aa ca)))],gl:=[(205,nS.D.sig)],lv:=[(3,[0,3,4])],lx:=[(0,[3])] }
noncomputable def ab (a:Arg):OO:=@lift Out λk=>D.W k a
noncomputable def T0 (a1:Arg) (U:(List Tx)×Int):St:={ n:=21,sl:=[(0,.val (.aa ca) a1.1),(3,.own (.aa ca) (ai (.aa ca)) [] U.1),(4,.val i64 U.2)],vr:=[],az:=[] }
noncomputable def b0 (self:((List Tx)×Int)->OO) (e0:(List Tx)->OO) (a1:Arg) (U:(List Tx)×Int):OO:=bif decide (U.2 < (a1.1.length:Int)) then (if 0<=U.2 then ((a1.1[U.2.toNat]?).bind λa8=>(nS.ab (a8,())).bind λdg=>if U.1.length+[dg.1].length<=cg then (self (U.1++[dg.1],af (U.2+(1:Int)))) else none) else none) else e0 U.1
noncomputable def q0 (a1:Arg) (et:(List Tx)):OO:=some (et,())
noncomputable def s0 (k:Nat) (a1:Arg):((List Tx)×Int)->OO:=λU=>D.L k [1,1,0,1,0,0] [0,3,4] [] (ah 0 (av (D.N k [1,1,1]) D.K0)) (T0 a1 U)
noncomputable def r0 (k:Nat) (a1:Arg):((List Tx)×Int)->OO:=al (λw v=>b0 w (q0 a1) a1 v) k
theorem aq (k:Nat) (a1:Arg):s0 k a1=r0 k a1:=
 funext λU=>ap _ _ _ (T0 a1) _ (λrec v=>by kernel_rfl) k U
noncomputable def p (l0:((List Tx)×Int)->OO) (a1:Arg):OO:=l0 (([]:List Tx),(0:Int))
theorem ae (k:Nat) (a1:Arg):@Eq OO (D.W k a1) (p (r0 k a1) a1):=
 aQ (b:=p (s0 k a1) a1) (by kernel_rfl) (by rw[aq])
theorem ok:Ok prog 127 D.sig:=am func127 aw (by kernel_rfl) (fc nS.ok (aj _))
end mu
namespace rN
abbrev Arg:Type:=bj×Unit
abbrev Out:Type:=bj×Unit
noncomputable def D:FD:={ fn:=f67,tl:=bc,ps:=[(.ro,ci)],rs:=[(ci,(ai ci))],gl:=[(77,lY.D.sig),(126,ir.D.sig),(127,mu.D.sig)],od:=[(1,[0,1,2,3,5,6,8,9,11,12,4,7,10,13,14])] }
noncomputable def ab (a:Arg):Option Out:=@lift Out λk=>D.W k a
noncomputable def p (a1:Arg):Option Out:=(ir.ab (a1.1.2.1,())).bind λr2=>(lY.ab (a1.1.2.2.1,())).bind λr3=>(mu.ab (a1.1.2.2.2.1,())).bind λr4=>some ((a1.1.1,r2.1,r3.1,r4.1,a1.1.2.2.2.2.1,()),())
theorem ae (k:Nat) (a1:Arg):@Eq (Option Out) (D.W k a1) (p a1):=by kernel_rfl
theorem ok:Ok prog 67 D.sig:=am func67 aw (by kernel_rfl) (fc lY.ok (fc ir.ok (fc mu.ok (aj _))))
end rN
namespace pu
abbrev Arg:Type:=Log×bm×Unit
abbrev Out:Type:=Log×Bool×Unit
noncomputable def D:FD:={ fn:=f207,tl:=bc,ps:=[(.ro,ee),(.ro,(.ptr ek))],rs:=[(ee,(ak ee)),(.bool,(ak .bool))],gl:=[(77,lY.D.sig),(272,jR.D.sig)] }
noncomputable def ab (a:Arg):Option Out:=@lift Out λk=>D.W k a
noncomputable def p (a1:Arg):Option Out:=(jR.ab (a1.2.1,())).bind λr2=>bif decide ((16000:Int) < af ((af ((a1.1.1.length:Int)+(a1.1.2.1.length:Int)))+(r2.1.length:Int))) then (some (a1.1,false,())) else (lY.ab (a1.1,())).bind λr3=>if r3.1.2.1.length+r2.1.length<=cg then (some ((r3.1.1,r3.1.2.1++r2.1,r3.1.2.2),true,())) else none
theorem ae (k:Nat) (a1:Arg):@Eq (Option Out) (D.W k a1) (p a1):=by kernel_rfl
theorem ok:Ok prog 207 D.sig:=am func207 aw (by kernel_rfl) (fc lY.ok (fc jR.ok (aj _)))
end pu
namespace lh
abbrev Arg:Type:=bj×bm×Unit
abbrev Out:Type:=Int×bj×Unit
noncomputable def D:FD:={ fn:=f129,tl:=bc,ps:=[(.jV (.pair (ak .bool) (.pair (ai (.aa (.aa u8))) (.pair (ak ee) (.pair (.aa true (.pair (ak i64) (.pair (ak (.aa an)) (ai (bq [(.aa i64),(.aa be)]))))) (ak (bq [i64])))))) (.pair (ak .bool) (.pair (ai (.aa (.aa u8))) (.pair (ak ee) (.pair (.aa true (.pair (ak i64) (.pair (ak (.aa an)) (ai (bq [(.aa i64),(.aa be)]))))) (ak (bq [i64])))))),ci),(.ro,(.ptr ek))],rs:=[(i64,(ak i64))],gl:=[(207,pu.D.sig)],es:=[0] }
noncomputable def ab (a:Arg):Option Out:=@lift Out λk=>D.W k a
noncomputable def p (a1:Arg):Option Out:=(pu.ab (a1.1.2.2.1,a1.2.1,())).bind λr2=>bif !r2.2.1 then (some ((9:Int),a1.1,())) else some ((0:Int),(a1.1.1,a1.1.2.1,r2.1,a1.1.2.2.2),())
theorem ae (k:Nat) (a1:Arg):@Eq (Option Out) (D.W k a1) (p a1):=by kernel_rfl
theorem ok:Ok prog 129 D.sig:=am func129 aw (by kernel_rfl) (fc pu.ok (aj _))
end lh
namespace mG
abbrev Arg:Type:=(List (List UInt8))×Int×Int×Unit
abbrev Out:Type:=ay×Bool×Unit
abbrev OO:=Option Out
noncomputable def D:FD:={ fn:=f297,tl:=bc,ps:=[(.ro,(.aa (.aa u8))),(.ro,i64),(.ro,i64)],rs:=[(gv,(ak gv)),(.bool,(ak .bool))],gl:=[(150,jh.D.sig)],lv:=[(3,[1,2,6,8,9])],lx:=[(0,[6])] }
noncomputable def ab (a:Arg):OO:=@lift Out λk=>D.W k a
noncomputable def T0 (a1:Arg) (dx:List ay) (bf:Int):St:={ n:=43,sl:=[(1,.val i64 a1.2.1),(2,.val i64 a1.2.2.1),(6,.box gv (ak gv) [] ((0:Int),(0:Int),((0:Int),(0:Int),(0:Int),(0:Int),((0:Int),(0:Int),(0:Int),([]:List UInt8),()),()),())),(8,.own (.aa gv) (ai (.aa gv)) [] dx),(9,.val i64 bf)],vr:=[],az:=[] }
noncomputable def b0 (self:Int->OO) (e0:(Unit)->OO) (a1:Arg) (dx:List ay) (bf:Int):OO:=bif decide (bf < (dx.length:Int)) then (if 0<=bf/\bf < (dx.length:Int) then ((dx[bf.toNat]?).bind λdw=>bif decide (dw.2.2.1.2.2.2.2.1.1=a1.2.1) then (if 0<=bf/\bf < (dx.length:Int) then ((dx[bf.toNat]?).bind λrL=>bif decide (rL.2.2.1.2.2.2.2.1.2.1=a1.2.2.1) then (if 0<=bf/\bf < (dx.length:Int) then ((dx[bf.toNat]?).bind λrY=>some (rY,true,())) else none) else self (af (bf+(1:Int)))) else none) else self (af (bf+(1:Int)))) else none) else e0 ()
noncomputable def q0 (a1:Arg) (dx:List ay) (rM:(Unit)):OO:=some (((0:Int),(0:Int),((0:Int),(0:Int),(0:Int),(0:Int),((0:Int),(0:Int),(0:Int),([]:List UInt8),()),()),()),false,())
noncomputable def s0 (k:Nat) (a1:Arg):(List ay)->(Int)->OO:=λdx=>λbf=>D.L k [1,1,0,1,0,0] [1,2,6,8,9] [] (ah 0 (av (D.N k [1,1,1]) D.K0)) (T0 a1 dx bf)
noncomputable def r0 (k:Nat) (a1:Arg):(List ay)->(Int)->OO:=λdx=>al (λw v=>b0 w (q0 a1 dx) a1 dx v) k
theorem aq (k:Nat) (a1:Arg):s0 k a1=r0 k a1:=
 funext λdx=>funext λbf=>ap _ _ _ (T0 a1 dx) _ (λrec v=>by kernel_rfl) k bf
noncomputable def p (l0:(List ay)->(Int)->OO) (a1:Arg):OO:=(jh.ab (a1.1,())).bind λr2=>l0 r2.1 (0:Int)
theorem ae (k:Nat) (a1:Arg):@Eq OO (D.W k a1) (p (r0 k a1) a1):=
 aQ (b:=p (s0 k a1) a1) (by kernel_rfl) (by rw[aq])
theorem ok:Ok prog 297 D.sig:=am func297 aw (by kernel_rfl) (fc jh.ok (aj _))
end mG
namespace kT
abbrev Arg:Type:=(List (List UInt8))×Unit
abbrev Out:Type:=aT×Unit
noncomputable def D:FD:={ fn:=f318,tl:=bc,ps:=[(.ro,(.aa (.aa u8)))],rs:=[((.ptr cv),(ai (.ptr cv)))],gl:=[(126,ir.D.sig)] }
noncomputable def ab (a:Arg):Option Out:=@lift Out λk=>D.W k a
noncomputable def p (a1:Arg):Option Out:=(ir.ab (a1.1,())).bind λr2=>some ((r2.1,([]:List cd),()),())
theorem ae (k:Nat) (a1:Arg):@Eq (Option Out) (D.W k a1) (p a1):=by kernel_rfl
theorem ok:Ok prog 318 D.sig:=am func318 aw (by kernel_rfl) (fc ir.ok (aj _))
end kT
namespace kf
abbrev Arg:Type:=(List UInt8)×Unit
abbrev Out:Type:=Int×Unit
abbrev OO:=Option Out
noncomputable def D:FD:={ fn:=f358,tl:=bc,ps:=[(.ro,(.aa u8))],rs:=[(i64,(ak i64))],gl:=[(228,cu.D.sig),(229,bt.D.sig)],lv:=[(2,[0,3])],lx:=[(0,[0])] }
noncomputable def ab (a:Arg):OO:=@lift Out λk=>D.W k a
noncomputable def T0 (a1:Arg) (U:Int):St:={ n:=17,sl:=[(0,.val (.aa u8) a1.1),(3,.val i64 U)],vr:=[],az:=[] }
noncomputable def b0 (self:Int->OO) (e0:(Unit)->OO) (a1:Arg) (U:Int):OO:=(cu.ab (a1.1,())).bind λvH=>bif decide (U < vH.1) then ((bt.ab (a1.1,U,())).bind λdg=>bif decide (dg.1=(0:Int)) then (some (U,())) else self (af (U+(1:Int)))) else e0 ()
noncomputable def q0 (a1:Arg) (et:(Unit)):OO:=(cu.ab (a1.1,())).bind λjy=>some (jy.1,())
noncomputable def s0 (k:Nat) (a1:Arg):(Int)->OO:=λU=>D.L k [1,0,1,0,0] [0,3] [] (ah 0 (av (D.N k [1,1]) D.K0)) (T0 a1 U)
noncomputable def r0 (k:Nat) (a1:Arg):(Int)->OO:=al (λw v=>b0 w (q0 a1) a1 v) k
theorem aq (k:Nat) (a1:Arg):s0 k a1=r0 k a1:=
 funext λU=>ap _ _ _ (T0 a1) _ (λrec v=>by kernel_rfl) k U
noncomputable def p (l0:(Int)->OO) (a1:Arg):OO:=l0 (0:Int)
theorem ae (k:Nat) (a1:Arg):@Eq OO (D.W k a1) (p (r0 k a1) a1):=
 aQ (b:=p (s0 k a1) a1) (by kernel_rfl) (by rw[aq])
theorem ok:Ok prog 358 D.sig:=am func358 aw (by kernel_rfl) (fc cu.ok (fc bt.ok (aj _)))
end kf
end OT
