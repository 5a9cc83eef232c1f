/- The proof's parts, merged: Printed by gen.py, a program of this claim  what each Go function computes.. No conditions but those that each states. -/
import Derived.Test.YtmkdchoeffoafaaGreatXd
import Derived.Test.YtmkdchoeffoafaaGreatProg
import Derived.KernelRfl
set_option maxRecDepth 100000
set_option linter.unusedVariables false
namespace OT
open Go Go.Proofs.Tryz
abbrev Log:Type:=((List UInt8)×(List UInt8)×Unit)
abbrev kg:Ty:=(dn [(.U u8),(.U u8)])
abbrev Row:Type:=(Int×Int×Int×(List UInt8)×Unit)
abbrev ba:Ty:=(dn [i64,i64,i64,.str])
abbrev Change:Type:=(Bool×Row×Bool×Row×Unit)
abbrev ai:Ty:=(dn [.bool,ba,.bool,ba])
abbrev Key:Type:=(Int×Int×Unit)
abbrev bh:Ty:=(dn [i64,i64])
abbrev Tx:Type:=(Int×(List Change)×(List Int)×(List Key)×Unit)
abbrev de:Ty:=(dn [i64,(.U ai),(.U i64),(.U bh)])
abbrev kJ:Type:=(Bool×(List (List UInt8))×Log×(List Tx)×Int×Unit)
abbrev im:Ty:=(dn [.bool,(.U (.U u8)),kg,(.U de),i64])
abbrev gu:Type:=(Int×(List UInt8)×Unit)
abbrev xB:Ty:=(dn [i64,(.U u8)])
abbrev bg:Type:=(Int×Int×Int×(List gu)×Unit)
abbrev d9:Ty:=(dn [i64,i64,i64,(.U xB)])
abbrev LP:Type:=(Int×Int×bg×Unit)
abbrev yC:Ty:=(dn [i64,i64,d9])
abbrev rQ:Type:=(Int×Int×Int×Int×Row×Unit)
abbrev qP:Ty:=(dn [i64,i64,i64,i64,ba])
abbrev a8:Type:=(Int×Int×rQ×Unit)
abbrev kj:Ty:=(dn [i64,i64,qP])
abbrev Plain:Type:=((List Row)×(List Tx)×Int×Unit)
abbrev BC:Ty:=(dn [(.U ba),(.U de),i64])
abbrev Bg:Type:=(Int×(List gu)×(List (List UInt8))×Unit)
abbrev rm:Ty:=(dn [i64,(.U xB),(.U (.U u8))])
abbrev Buffer:Type:=(Int×(List Change)×Unit)
abbrev bj:Ty:=(dn [i64,(.U ai)])
abbrev dg:Type:=((List (List UInt8))×(List Buffer)×Unit)
abbrev ei:Ty:=(dn [(.U (.U u8)),(.U bj)])
abbrev di:Type:=(dg×Int×dg×Int×Unit)
abbrev d6:Ty:=(dn [ei,i64,ei,i64])
abbrev gk:Type:=(Int×Int×(List Change)×Unit)
abbrev gv:Ty:=(dn [i64,i64,(.U ai)])
abbrev ql:Type:=(Int×Bool×gk×di×Unit)
abbrev rn:Ty:=(dn [i64,.bool,gv,d6])
abbrev mI:Type:=(Int×Bool×Bool×Int×(List Change)×dg×Unit)
abbrev lR:Ty:=(dn [i64,.bool,.bool,i64,(.U ai),ei])
abbrev ig:Type:=(Int×(List gk)×di×Unit)
abbrev gq:Ty:=(dn [i64,(.U gv),d6])
abbrev Seen:Type:=(Row×Int×Int×Bool×Int×Int×Unit)
abbrev ii:Ty:=(dn [ba,i64,i64,.bool,i64,i64])
abbrev wQ:Type:=(Int×(List Row)×Unit)
abbrev vA:Ty:=(dn [i64,(.U ba)])
noncomputable def bd:TL:=[(2,i64),(23,(.U u8)),(131,ba),(95,(.U ai)),(22,(.U (.U u8))),(186,ai),(4,.bool),(5,u8),(82,(.U ba)),(103,de),(3,i64),(40,(.U de)),(141,bh),(33,ei),(150,d9),(31,(.U bj)),(39,kg),(211,bj),(35,d6),(101,(.U bh)),(9,.str),(148,(.U xB)),(133,qP),(30,(.U gv)),(74,(.U i64)),(244,xB),(42,im),(97,gv),(37,gq),(159,lR),(90,(.U d9)),(99,rn),(128,(.U kj)),(135,kj),(25,kg),(26,(.U de)),(73,(.U ai)),(75,(.U bh)),(77,de),(85,BC),(146,rm),(190,ba),(192,ai),(265,bj),(28,im),(106,(.U ii)),(156,yC),(171,(.map bh .bool)),(176,ii),(220,bh),(226,(.int .u64)),(238,vA),(225,(.arr 64 .bool)),(228,(.map (.arr 2 i64) ba)),(229,(.arr 2 i64)),(231,(.map (.arr 2 i64) .bool))]
theorem aT:(PP prog bd&&Ka prog bd)=true:=by kernel_rfl
namespace nk
abbrev Arg:Type:=(List UInt8)×Int×Unit
abbrev Out:Type:=Int×Unit
noncomputable def D:FD:={ fn:=f36,tl:=bd,ps:=[(.ro,(.U u8)),(.ro,i64)],rs:=[(i64,(ax i64))] }
noncomputable def aa (a:Arg):Option Out:=@lift Out λk=>D.W k a
noncomputable def p (a1:Arg):Option Out:=bif decide (af (a1.2.1 - (a1.1.length:Int)) < (0:Int)) then (some ((-1:Int),())) else some (af (a1.2.1 - (a1.1.length:Int)),())
theorem ae (k:Nat) (a1:Arg):@Eq (Option Out) (D.W k a1) (p a1):=by kernel_rfl
theorem ok:Ok prog 36 D.sig:=au func36 aT (by kernel_rfl) (aj _)
end nk
namespace rG
abbrev Arg:Type:=(List (List UInt8))×Int×Unit
abbrev Out:Type:=Int×Unit
abbrev Y:=Option Out
noncomputable def D:FD:={ fn:=f13,tl:=bd,ps:=[(.ro,(.U (.U u8))),(.ro,i64)],rs:=[(i64,(ax i64))],gl:=[(36,nk.D.sig)],lv:=[(5,[0,1,5])],lx:=[(0,[1])] }
noncomputable def aa (a:Arg):Y:=@lift Out λk=>D.W k a
noncomputable def T0 (a1:Arg) (J:Int×Int):St:={ n:=27,sl:=[(0,.val (.U (.U u8)) a1.1),(1,.val i64 J.1),(5,.val i64 J.2)],vr:=[],az:=[] }
noncomputable def b0 (self:(Int×Int)->Y) (e0:Int->Y) (a1:Arg) (J:Int×Int):Y:=bif decide (J.2 < (a1.1.length:Int)) then (if 0<=J.2 then ((a1.1[J.2.toNat]?).bind λa7=>(nk.aa (a7,J.1,())).bind λdv=>bif decide (dv.1 < (0:Int)) then (some ((-1:Int),())) else self (dv.1,af (J.2+(1:Int)))) else none) else e0 J.1
noncomputable def q0 (a1:Arg) (dz:Int):Y:=some (dz,())
noncomputable def s0 (k:Nat) (a1:Arg):(Int×Int)->Y:=λJ=>D.L k [1,1,1,0,1,0,0] [0,1,5] [] (ag 0 (ay (D.N k [1,1,1,1]) D.K0)) (T0 a1 J)
noncomputable def r0 (k:Nat) (a1:Arg):(Int×Int)->Y:=ak (λw v=>b0 w (q0 a1) a1 v) k
theorem aw (k:Nat) (a1:Arg):s0 k a1=r0 k a1:=
 funext λJ=>av _ _ _ (T0 a1) _ (λrec v=>by kernel_rfl) k J
noncomputable def p (l0:(Int×Int)->Y) (a1:Arg):Y:=bif decide (af (a1.2.1 - (a1.1.length:Int)) < (0:Int)) then (some ((-1:Int),())) else l0 (af (a1.2.1 - (a1.1.length:Int)),(0:Int))
theorem ae (k:Nat) (a1:Arg):@Eq Y (D.W k a1) (p (r0 k a1) a1):=
 aU (b:=p (s0 k a1) a1) (by kernel_rfl) (by rw[aw])
theorem ok:Ok prog 13 D.sig:=au func13 aT (by kernel_rfl) (fc nk.ok (aj _))
end rG
namespace rR
abbrev Arg:Type:=Log×Int×Unit
abbrev Out:Type:=Int×Unit
noncomputable def D:FD:={ fn:=f14,tl:=bd,ps:=[(.ro,kg),(.ro,i64)],rs:=[(i64,(ax i64))],gl:=[(36,nk.D.sig)] }
noncomputable def aa (a:Arg):Option Out:=@lift Out λk=>D.W k a
noncomputable def p (a1:Arg):Option Out:=(nk.aa (a1.1.1,a1.2.1,())).bind λr2=>bif decide (r2.1 < (0:Int)) then (some ((-1:Int),())) else (nk.aa (a1.1.2.1,r2.1,())).bind λr3=>bif decide (r3.1 < (0:Int)) then (some ((-1:Int),())) else some (r3.1,())
theorem ae (k:Nat) (a1:Arg):@Eq (Option Out) (D.W k a1) (p a1):=by kernel_rfl
theorem ok:Ok prog 14 D.sig:=au func14 aT (by kernel_rfl) (fc nk.ok (aj _))
end rR
namespace qy
abbrev Arg:Type:=Row×Int×Unit
abbrev Out:Type:=Int×Unit
noncomputable def D:FD:={ fn:=f173,tl:=bd,ps:=[(.ro,ba),(.ro,i64)],rs:=[(i64,(ax i64))] }
noncomputable def aa (a:Arg):Option Out:=@lift Out λk=>D.W k a
noncomputable def p (a1:Arg):Option Out:=bif decide (af (a1.2.1 - (a1.1.2.2.2.1.length:Int)) < (0:Int)) then (some ((-1:Int),())) else some (af (a1.2.1 - (a1.1.2.2.2.1.length:Int)),())
theorem ae (k:Nat) (a1:Arg):@Eq (Option Out) (D.W k a1) (p a1):=by kernel_rfl
theorem ok:Ok prog 173 D.sig:=au func173 aT (by kernel_rfl) (aj _)
end qy
namespace nP
abbrev Arg:Type:=Change×Int×Unit
abbrev Out:Type:=Int×Unit
noncomputable def D:FD:={ fn:=f120,tl:=bd,ps:=[(.ro,ai),(.ro,i64)],rs:=[(i64,(ax i64))],gl:=[(173,qy.D.sig)] }
noncomputable def aa (a:Arg):Option Out:=@lift Out λk=>D.W k a
noncomputable def p (a1:Arg):Option Out:=(qy.aa (a1.1.2.1,a1.2.1,())).bind λr2=>bif decide (r2.1 < (0:Int)) then (some ((-1:Int),())) else (qy.aa (a1.1.2.2.2.1,r2.1,())).bind λr3=>bif decide (r3.1 < (0:Int)) then (some ((-1:Int),())) else some (r3.1,())
theorem ae (k:Nat) (a1:Arg):@Eq (Option Out) (D.W k a1) (p a1):=by kernel_rfl
theorem ok:Ok prog 120 D.sig:=au func120 aT (by kernel_rfl) (fc qy.ok (aj _))
end nP
namespace qV
abbrev Arg:Type:=(List Change)×Int×Unit
abbrev Out:Type:=Int×Unit
abbrev Y:=Option Out
noncomputable def D:FD:={ fn:=f72,tl:=bd,ps:=[(.ro,(.U ai)),(.ro,i64)],rs:=[(i64,(ax i64))],gl:=[(120,nP.D.sig)],lv:=[(5,[0,1,5])],lx:=[(0,[1])] }
noncomputable def aa (a:Arg):Y:=@lift Out λk=>D.W k a
noncomputable def T0 (a1:Arg) (J:Int×Int):St:={ n:=27,sl:=[(0,.val (.U ai) a1.1),(1,.val i64 J.1),(5,.val i64 J.2)],vr:=[],az:=[] }
noncomputable def b0 (self:(Int×Int)->Y) (e0:Int->Y) (a1:Arg) (J:Int×Int):Y:=bif decide (J.2 < (a1.1.length:Int)) then (if 0<=J.2 then ((a1.1[J.2.toNat]?).bind λa7=>(nP.aa (a7,J.1,())).bind λdv=>bif decide (dv.1 < (0:Int)) then (some ((-1:Int),())) else self (dv.1,af (J.2+(1:Int)))) else none) else e0 J.1
noncomputable def q0 (a1:Arg) (dz:Int):Y:=some (dz,())
noncomputable def s0 (k:Nat) (a1:Arg):(Int×Int)->Y:=λJ=>D.L k [1,1,1,0,1,0,0] [0,1,5] [] (ag 0 (ay (D.N k [1,1,1,1]) D.K0)) (T0 a1 J)
noncomputable def r0 (k:Nat) (a1:Arg):(Int×Int)->Y:=ak (λw v=>b0 w (q0 a1) a1 v) k
theorem aw (k:Nat) (a1:Arg):s0 k a1=r0 k a1:=
 funext λJ=>av _ _ _ (T0 a1) _ (λrec v=>by kernel_rfl) k J
noncomputable def p (l0:(Int×Int)->Y) (a1:Arg):Y:=bif decide (af (a1.2.1 - (a1.1.length:Int)) < (0:Int)) then (some ((-1:Int),())) else l0 (af (a1.2.1 - (a1.1.length:Int)),(0:Int))
theorem ae (k:Nat) (a1:Arg):@Eq Y (D.W k a1) (p (r0 k a1) a1):=
 aU (b:=p (s0 k a1) a1) (by kernel_rfl) (by rw[aw])
theorem ok:Ok prog 72 D.sig:=au func72 aT (by kernel_rfl) (fc nP.ok (aj _))
end qV
namespace rH
abbrev Arg:Type:=(List Int)×Int×Unit
abbrev Out:Type:=Int×Unit
noncomputable def D:FD:={ fn:=f73,tl:=bd,ps:=[(.ro,(.U i64)),(.ro,i64)],rs:=[(i64,(ax i64))] }
noncomputable def aa (a:Arg):Option Out:=@lift Out λk=>D.W k a
noncomputable def p (a1:Arg):Option Out:=bif decide (af (a1.2.1 - (a1.1.length:Int)) < (0:Int)) then (some ((-1:Int),())) else some (af (a1.2.1 - (a1.1.length:Int)),())
theorem ae (k:Nat) (a1:Arg):@Eq (Option Out) (D.W k a1) (p a1):=by kernel_rfl
theorem ok:Ok prog 73 D.sig:=au func73 aT (by kernel_rfl) (aj _)
end rH
namespace tV
abbrev Arg:Type:=(List Key)×Int×Unit
abbrev Out:Type:=Int×Unit
noncomputable def D:FD:={ fn:=f74,tl:=bd,ps:=[(.ro,(.U bh)),(.ro,i64)],rs:=[(i64,(ax i64))] }
noncomputable def aa (a:Arg):Option Out:=@lift Out λk=>D.W k a
noncomputable def p (a1:Arg):Option Out:=bif decide (af (a1.2.1 - (a1.1.length:Int)) < (0:Int)) then (some ((-1:Int),())) else some (af (a1.2.1 - (a1.1.length:Int)),())
theorem ae (k:Nat) (a1:Arg):@Eq (Option Out) (D.W k a1) (p a1):=by kernel_rfl
theorem ok:Ok prog 74 D.sig:=au func74 aT (by kernel_rfl) (aj _)
end tV
namespace rS
abbrev Arg:Type:=Tx×Int×Unit
abbrev Out:Type:=Int×Unit
noncomputable def D:FD:={ fn:=f37,tl:=bd,ps:=[(.ro,de),(.ro,i64)],rs:=[(i64,(ax i64))],gl:=[(72,qV.D.sig),(73,rH.D.sig),(74,tV.D.sig)] }
noncomputable def aa (a:Arg):Option Out:=@lift Out λk=>D.W k a
noncomputable def p (a1:Arg):Option Out:=(qV.aa (a1.1.2.1,a1.2.1,())).bind λr2=>bif decide (r2.1 < (0:Int)) then (some ((-1:Int),())) else (rH.aa (a1.1.2.2.1,r2.1,())).bind λr3=>bif decide (r3.1 < (0:Int)) then (some ((-1:Int),())) else (tV.aa (a1.1.2.2.2.1,r3.1,())).bind λr4=>bif decide (r4.1 < (0:Int)) then (some ((-1:Int),())) else some (r4.1,())
theorem ae (k:Nat) (a1:Arg):@Eq (Option Out) (D.W k a1) (p a1):=by kernel_rfl
theorem ok:Ok prog 37 D.sig:=au func37 aT (by kernel_rfl) (fc qV.ok (fc rH.ok (fc tV.ok (aj _))))
end rS
namespace uV
abbrev Arg:Type:=(List Tx)×Int×Unit
abbrev Out:Type:=Int×Unit
abbrev Y:=Option Out
noncomputable def D:FD:={ fn:=f15,tl:=bd,ps:=[(.ro,(.U de)),(.ro,i64)],rs:=[(i64,(ax i64))],gl:=[(37,rS.D.sig)],lv:=[(5,[0,1,5])],lx:=[(0,[1])] }
noncomputable def aa (a:Arg):Y:=@lift Out λk=>D.W k a
noncomputable def T0 (a1:Arg) (J:Int×Int):St:={ n:=27,sl:=[(0,.val (.U de) a1.1),(1,.val i64 J.1),(5,.val i64 J.2)],vr:=[],az:=[] }
noncomputable def b0 (self:(Int×Int)->Y) (e0:Int->Y) (a1:Arg) (J:Int×Int):Y:=bif decide (J.2 < (a1.1.length:Int)) then (if 0<=J.2 then ((a1.1[J.2.toNat]?).bind λa7=>(rS.aa (a7,J.1,())).bind λdv=>bif decide (dv.1 < (0:Int)) then (some ((-1:Int),())) else self (dv.1,af (J.2+(1:Int)))) else none) else e0 J.1
noncomputable def q0 (a1:Arg) (dz:Int):Y:=some (dz,())
noncomputable def s0 (k:Nat) (a1:Arg):(Int×Int)->Y:=λJ=>D.L k [1,1,1,0,1,0,0] [0,1,5] [] (ag 0 (ay (D.N k [1,1,1,1]) D.K0)) (T0 a1 J)
noncomputable def r0 (k:Nat) (a1:Arg):(Int×Int)->Y:=ak (λw v=>b0 w (q0 a1) a1 v) k
theorem aw (k:Nat) (a1:Arg):s0 k a1=r0 k a1:=
 funext λJ=>av _ _ _ (T0 a1) _ (λrec v=>by kernel_rfl) k J
noncomputable def p (l0:(Int×Int)->Y) (a1:Arg):Y:=bif decide (af (a1.2.1 - (a1.1.length:Int)) < (0:Int)) then (some ((-1:Int),())) else l0 (af (a1.2.1 - (a1.1.length:Int)),(0:Int))
theorem ae (k:Nat) (a1:Arg):@Eq Y (D.W k a1) (p (r0 k a1) a1):=
 aU (b:=p (s0 k a1) a1) (by kernel_rfl) (by rw[aw])
theorem ok:Ok prog 15 D.sig:=au func15 aT (by kernel_rfl) (fc rS.ok (aj _))
end uV
namespace pX
abbrev Arg:Type:=kJ×Int×Unit
abbrev Out:Type:=Int×Unit
noncomputable def D:FD:={ fn:=f4,tl:=bd,ps:=[(.ro,im),(.ro,i64)],rs:=[(i64,(ax i64))],gl:=[(13,rG.D.sig),(14,rR.D.sig),(15,uV.D.sig)] }
noncomputable def aa (a:Arg):Option Out:=@lift Out λk=>D.W k a
noncomputable def p (a1:Arg):Option Out:=(rG.aa (a1.1.2.1,a1.2.1,())).bind λr2=>bif decide (r2.1 < (0:Int)) then (some ((-1:Int),())) else (rR.aa (a1.1.2.2.1,r2.1,())).bind λr3=>bif decide (r3.1 < (0:Int)) then (some ((-1:Int),())) else (uV.aa (a1.1.2.2.2.1,r3.1,())).bind λr4=>bif decide (r4.1 < (0:Int)) then (some ((-1:Int),())) else some (r4.1,())
theorem ae (k:Nat) (a1:Arg):@Eq (Option Out) (D.W k a1) (p a1):=by kernel_rfl
theorem ok:Ok prog 4 D.sig:=au func4 aT (by kernel_rfl) (fc rG.ok (fc rR.ok (fc uV.ok (aj _))))
end pX
namespace bu
abbrev Arg:Type:=Int×Int×Int×Unit
abbrev Out:Type:=Bool×Unit
noncomputable def D:FD:={ fn:=f39,tl:=bd,ps:=[(.ro,i64),(.ro,i64),(.ro,i64)],rs:=[(.bool,(ax .bool))] }
noncomputable def aa (a:Arg):Option Out:=@lift Out λk=>D.W k a
noncomputable def p (a1:Arg):Option Out:=bif decide (a1.2.1<=a1.1) then (some (decide (a1.1<=a1.2.2.1),())) else some (false,())
theorem ae (k:Nat) (a1:Arg):@Eq (Option Out) (D.W k a1) (p a1):=by kernel_rfl
theorem ok:Ok prog 39 D.sig:=au func39 aT (by kernel_rfl) (aj _)
end bu
namespace nw
abbrev Arg:Type:=Int×Unit
abbrev Out:Type:=Bool×Unit
noncomputable def D:FD:={ fn:=f137,tl:=bd,ps:=[(.ro,i64)],rs:=[(.bool,(ax .bool))],gl:=[(39,bu.D.sig)] }
noncomputable def aa (a:Arg):Option Out:=@lift Out λk=>D.W k a
noncomputable def p (a1:Arg):Option Out:=(bu.aa (a1.1,(2:Int),(4:Int),())).bind λr2=>some (r2.1,())
theorem ae (k:Nat) (a1:Arg):@Eq (Option Out) (D.W k a1) (p a1):=by kernel_rfl
theorem ok:Ok prog 137 D.sig:=au func137 aT (by kernel_rfl) (fc bu.ok (aj _))
end nw
namespace jY
abbrev Arg:Type:=(List gu)×Unit
abbrev Out:Type:=Int×Unit
abbrev Y:=Option Out
noncomputable def D:FD:={ fn:=f188,tl:=bd,ps:=[(.ro,(.U xB))],rs:=[(i64,(ax i64))],gl:=[(39,bu.D.sig)],lv:=[(4,[0,3])],lx:=[(0,[])],od:=[(9,[0,1,2,3,4,5,6,7,8,9,10,11,12,13,14,15,16,17,18,19,20,21,22,23])] }
noncomputable def aa (a:Arg):Y:=@lift Out λk=>D.W k a
noncomputable def T0 (a1:Arg) (J:Int):St:={ n:=66,sl:=[(0,.val (.U xB) a1.1),(3,.val i64 J)],vr:=[],az:=[] }
noncomputable def b0 (self:Int->Y) (e0:(Unit)->Y) (a1:Arg) (J:Int):Y:=bif decide (J < (a1.1.length:Int)) then (if 0<=J then ((a1.1[J.toNat]?).bind λa7=>if 0<=J then ((a1.1[J.toNat]?).bind λen=>(bu.aa (en.1,(0:Int),(63:Int),())).bind λjZ=>bif !jZ.1 then (some ((3:Int),())) else (bu.aa ((a7.2.1.length:Int),(1:Int),(64:Int),())).bind λph=>bif !ph.1 then (some ((3:Int),())) else if 0<=J then ((a1.1[J.toNat]?).bind λrE=>bif decide ((64:Int) < af (rE.1+(a7.2.1.length:Int))) then (some ((3:Int),())) else bif decide ((0:Int) < J) then (if 0<=J then ((a1.1[J.toNat]?).bind λDV=>if 0<=af (J - (1:Int)) then ((a1.1[(af (J - (1:Int))).toNat]?).bind λuE=>if 0<=af (J - (1:Int)) then ((a1.1[(af (J - (1:Int))).toNat]?).bind λUB=>bif decide (DV.1<=af (uE.1+(UB.2.1.length:Int))) then (some ((1:Int),())) else self (af (J+(1:Int)))) else none) else none) else none) else self (af (J+(1:Int)))) else none) else none) else none) else e0 ()
noncomputable def q0 (a1:Arg) (IA:(Unit)):Y:=some ((0:Int),())
noncomputable def s0 (k:Nat) (a1:Arg):(Int)->Y:=λJ=>D.L k [1,1,0,1,0,0] [0,3] [] (ag 0 (ay (D.N k [1,1,1]) D.K0)) (T0 a1 J)
noncomputable def r0 (k:Nat) (a1:Arg):(Int)->Y:=ak (λw v=>b0 w (q0 a1) a1 v) k
theorem aw (k:Nat) (a1:Arg):s0 k a1=r0 k a1:=
 funext λJ=>av _ _ _ (T0 a1) _ (λrec v=>by kernel_rfl) k J
noncomputable def p (l0:(Int)->Y) (a1:Arg):Y:=bif decide ((64:Int) < (a1.1.length:Int)) then (some ((2:Int),())) else l0 (0:Int)
theorem ae (k:Nat) (a1:Arg):@Eq Y (D.W k a1) (p (r0 k a1) a1):=
 aU (b:=p (s0 k a1) a1) (by kernel_rfl) (by rw[aw])
theorem ok:Ok prog 188 D.sig:=au func188 aT (by kernel_rfl) (fc bu.ok (aj _))
end jY
namespace nm
abbrev Arg:Type:=bg×Unit
abbrev Out:Type:=Int×Unit
abbrev Y:=Option Out
noncomputable def D:FD:={ fn:=f135,tl:=bd,ps:=[(.ro,(.ptr d9))],rs:=[(i64,(ax i64))],gl:=[(39,bu.D.sig),(137,nw.D.sig),(188,jY.D.sig)] }
noncomputable def aa (a:Arg):Y:=@lift Out λk=>D.W k a
noncomputable def p (a1:Arg):Y:=let Wr:Y:=let j20:Y:=(nw.aa (a1.1.1,())).bind λr21=>bif !r21.1 then (some ((0:Int),())) else (jY.aa (a1.1.2.2.2.1,())).bind λr22=>bif !decide (r22.1=(0:Int)) then (some (r22.1,())) else bif decide ((a1.1.2.2.2.1.length:Int)=(0:Int)) then (some ((1:Int),())) else bif decide (a1.1.1=(4:Int)) then ((a1.1.2.2.2.1[0]?).bind λLQ=>bif !decide ((LQ.2.1.length:Int)=(64:Int)) then (some ((1:Int),())) else some ((0:Int),())) else some ((0:Int),());bif !decide (a1.1.1=(4:Int)) then ((bu.aa (a1.1.2.1,(1:Int),(99:Int),())).bind λY_=>bif !Y_.1 then (some ((3:Int),())) else (bu.aa (a1.1.2.2.1,(0:Int),(11:Int),())).bind λSH=>bif !SH.1 then (some ((3:Int),())) else j20) else (bu.aa (a1.1.2.2.1,(0:Int),(11:Int),())).bind λLR=>bif !LR.1 then (some ((3:Int),())) else j20;(bu.aa (a1.1.1,(1:Int),(6:Int),())).bind λr2=>bif !r2.1 then (some ((1:Int),())) else (nw.aa (a1.1.1,())).bind λr3=>bif !r3.1 then (bif !decide (a1.1.2.2.1=(0:Int)) then (some ((1:Int),())) else bif decide ((0:Int) < (a1.1.2.2.2.1.length:Int)) then (some ((1:Int),())) else bif decide (a1.1.1=(4:Int)) then (bif !decide (a1.1.2.1=(0:Int)) then (some ((1:Int),())) else Wr) else Wr) else bif decide (a1.1.1=(4:Int)) then (bif !decide (a1.1.2.1=(0:Int)) then (some ((1:Int),())) else Wr) else Wr
theorem ae (k:Nat) (a1:Arg):@Eq Y (D.W k a1) (p a1):=by kernel_rfl
theorem ok:Ok prog 135 D.sig:=au func135 aT (by kernel_rfl) (fc bu.ok (fc nw.ok (fc jY.ok (aj _))))
end nm
namespace gr
abbrev Arg:Type:=(List UInt8)×Unit
abbrev Out:Type:=(List UInt8)×Unit
noncomputable def D:FD:={ fn:=f18,tl:=bd,ps:=[(.ro,(.U u8))],rs:=[((.U u8),(an (.U u8)))] }
noncomputable def aa (a:Arg):Option Out:=@lift Out λk=>D.W k a
noncomputable def p (a1:Arg):Option Out:=if ([]:List UInt8).length+a1.1.length<=cc then (some (([]:List UInt8)++a1.1,())) else none
theorem ae (k:Nat) (a1:Arg):@Eq (Option Out) (D.W k a1) (p a1):=by kernel_rfl
theorem ok:Ok prog 18 D.sig:=au func18 aT (by kernel_rfl) (aj _)
end gr
namespace lZ
abbrev Arg:Type:=(List UInt8)×Unit
abbrev Out:Type:=bg×Unit
abbrev Y:=Option Out
noncomputable def D:FD:={ fn:=f143,tl:=bd,ps:=[(.ro,(.U u8))],rs:=[(d9,(an d9))],gl:=[(18,gr.D.sig)],lv:=[(4,[0,2,3,4,5])],lx:=[(0,[2,3])],od:=[(1,[0,1,2,3,4,5,6,7,8,9,10,11,12,13,14]),(8,[0,1,2,3,4,5,6,7,8,9,10,11,12,13,14,15,16,17,18,19,20])] }
noncomputable def aa (a:Arg):Y:=@lift Out λk=>D.W k a
noncomputable def T0 (a1:Arg) (gm:bg×Int×Int):St:={ n:=73,sl:=[(0,.val (.U u8) a1.1),(2,.box d9 (an d9) [] ((0:Int),(0:Int),(0:Int),([]:List gu),())),(3,.box d9 (an d9) [] gm.1),(4,.val i64 gm.2.1),(5,.val i64 gm.2.2)],vr:=[],az:=[] }
noncomputable def b0 (self:(bg×Int×Int)->Y) (e0:bg->Y) (a1:Arg) (gm:bg×Int×Int):Y:=(a1.1[4]?).bind λqz=>bif decide (gm.2.2 < af (qz.toNat:Int)) then (bif decide (af (gm.2.1+(2:Int))<=(a1.1.length:Int)) then (if 0<=af (gm.2.1+(1:Int)) then ((a1.1[(af (gm.2.1+(1:Int))).toNat]?).bind λrE=>bif decide ((a1.1.length:Int) < af ((af (gm.2.1+(2:Int)))+(af (rE.toNat:Int)))) then (e0 gm.1) else if 0<=gm.2.1 then ((a1.1[gm.2.1.toNat]?).bind λDV=>if 0<=af (gm.2.1+(2:Int))/\af (gm.2.1+(2:Int))<=af ((af (gm.2.1+(2:Int)))+(af (rE.toNat:Int)))/\af ((af (gm.2.1+(2:Int)))+(af (rE.toNat:Int)))<=(a1.1.length:Int) then ((gr.aa ((a1.1.take (af ((af (gm.2.1+(2:Int)))+(af (rE.toNat:Int)))).toNat).drop (af (gm.2.1+(2:Int))).toNat,())).bind λyD=>if gm.1.2.2.2.1.length+[(af (DV.toNat:Int),yD.1,())].length<=cc then (let wR:=gm.1.2.2.2.1++[(af (DV.toNat:Int),yD.1,())];self ((gm.1.1,gm.1.2.1,gm.1.2.2.1,wR,gm.1.2.2.2.2),af ((af (gm.2.1+(2:Int)))+(af (rE.toNat:Int))),af (gm.2.2+(1:Int)))) else none) else none) else none) else none) else e0 gm.1) else e0 gm.1
noncomputable abbrev B0 (_:Nat):=b0
noncomputable def q0 (a1:Arg) (IA:bg):Y:=some (IA,())
noncomputable abbrev Q0 (_:Nat):=q0
noncomputable def s0 (k:Nat) (a1:Arg):(bg×Int×Int)->Y:=λgm=>D.L k [1,1,1,0,1,0,0] [0,2,3,4,5] [] (ag 0 (ay (D.N k [1,1,1,1]) D.K0)) (T0 a1 gm)
noncomputable def r0 (k:Nat) (a1:Arg):(bg×Int×Int)->Y:=ak (λw v=>B0 k w (Q0 k a1) a1 v) k
theorem aw (k:Nat) (a1:Arg):s0 k a1=r0 k a1:=
 funext λgm=>av _ _ _ (T0 a1) _ (λrec v=>by kernel_rfl) k gm
noncomputable def p (l0:(bg×Int×Int)->Y) (a1:Arg):Y:=(a1.1[1]?).bind λx2=>(a1.1[2]?).bind λx3=>(a1.1[3]?).bind λx4=>l0 ((af (x2.toNat:Int),af (x3.toNat:Int),af (x4.toNat:Int),([]:List gu),()),(5:Int),(0:Int))
theorem ae (k:Nat) (a1:Arg):@Eq Y (D.W k a1) (p (r0 k a1) a1):=
 aU (b:=p (s0 k a1) a1) (by kernel_rfl) (by rw[aw])
theorem ok:Ok prog 143 D.sig:=au func143 aT (by kernel_rfl) (fc gr.ok (aj _))
end lZ
namespace mT
abbrev Arg:Type:=(List UInt8)×Unit
abbrev Out:Type:=Int×Unit
abbrev Y:=Option Out
noncomputable def D:FD:={ fn:=f190,tl:=bd,ps:=[(.ro,(.U u8))],rs:=[(i64,(ax i64))],lv:=[(3,[0,3,4])],lx:=[(0,[3])] }
noncomputable def aa (a:Arg):Y:=@lift Out λk=>D.W k a
noncomputable def T0 (a1:Arg) (J:Int×Int):St:={ n:=21,sl:=[(0,.val (.U u8) a1.1),(3,.val i64 J.1),(4,.val i64 J.2)],vr:=[],az:=[] }
noncomputable def b0 (self:(Int×Int)->Y) (e0:Int->Y) (a1:Arg) (J:Int×Int):Y:=bif decide (J.2 < (a1.1.length:Int)) then (if 0<=J.2 then ((a1.1[J.2.toNat]?).bind λa7=>self ((af ((af (J.1*(31:Int)))+(af (a7.toNat:Int)))).tmod (65521:Int),af (J.2+(1:Int)))) else none) else e0 J.1
noncomputable def q0 (a1:Arg) (oC:Int):Y:=some (oC,())
noncomputable def s0 (k:Nat) (a1:Arg):(Int×Int)->Y:=λJ=>D.L k [1,1,0,1,0,0] [0,3,4] [] (ag 0 (ay (D.N k [1,1,1]) D.K0)) (T0 a1 J)
noncomputable def r0 (k:Nat) (a1:Arg):(Int×Int)->Y:=ak (λw v=>b0 w (q0 a1) a1 v) k
theorem aw (k:Nat) (a1:Arg):s0 k a1=r0 k a1:=
 funext λJ=>av _ _ _ (T0 a1) _ (λrec v=>by kernel_rfl) k J
noncomputable def p (l0:(Int×Int)->Y) (a1:Arg):Y:=l0 ((1:Int),(0:Int))
theorem ae (k:Nat) (a1:Arg):@Eq Y (D.W k a1) (p (r0 k a1) a1):=
 aU (b:=p (s0 k a1) a1) (by kernel_rfl) (by rw[aw])
theorem ok:Ok prog 190 D.sig:=au func190 aT (by kernel_rfl) (aj _)
end mT
namespace l5
abbrev Arg:Type:=bg×Unit
abbrev Out:Type:=(List UInt8)×Unit
abbrev Y:=Option Out
noncomputable def D:FD:={ fn:=f144,tl:=bd,ps:=[(.ro,(.ptr d9))],rs:=[((.U u8),(an (.U u8)))],gl:=[(190,mT.D.sig)],lv:=[(3,[0,3,4])],lx:=[(0,[3])],od:=[(1,[0,1,2,3,4,5,6,7,8,9,10,11,12,13,14,15,16,17,18,19,20,21,22]),(5,[0,1,2,3,4,5,6,7,8,9,10,11,12,13,14,15,16,17,18,19,22,23,24,25,26,27,28,29,20,21,30,31])],ar:=[(5,[4,8,9,13,17,19,25,29])] }
noncomputable def aa (a:Arg):Y:=@lift Out λk=>D.W k a
noncomputable def T0 (a1:Arg) (J:(List UInt8)×Int):St:={ n:=85,sl:=[(0,.cp d9 a1.1),(3,.own (.U u8) (an (.U u8)) [] J.1),(4,.val i64 J.2)],vr:=[],az:=[] }
noncomputable def b0 (self:((List UInt8)×Int)->Y) (e0:(List UInt8)->Y) (a1:Arg) (J:(List UInt8)×Int):Y:=bif decide (J.2 < (a1.1.2.2.2.1.length:Int)) then (if 0<=J.2 then ((a1.1.2.2.2.1[J.2.toNat]?).bind λa7=>if 0<=J.2 then ((a1.1.2.2.2.1[J.2.toNat]?).bind λen=>if 0<=J.2 then ((a1.1.2.2.2.1[J.2.toNat]?).bind λeo=>if J.1.length+[UInt8.ofInt a7.1,UInt8.ofInt (en.2.1.length:Int)].length<=cc then (let sj:=J.1++[UInt8.ofInt a7.1,UInt8.ofInt (en.2.1.length:Int)];if sj.length+eo.2.1.length<=cc then (self (sj++eo.2.1,af (J.2+(1:Int)))) else none) else none) else none) else none) else none) else e0 J.1
noncomputable def q0 (a1:Arg) (mO:(List UInt8)):Y:=if 0<=(0:Int)/\(0:Int) < (mO.length:Int) then ((mO[0]?).bind λDV=>let UC:=mO.set 0 (UInt8.ofInt (af ((mO.length:Int)+(2:Int))));(mT.aa (UC,())).bind λyE=>if UC.length+[UInt8.ofInt (af (yE.1.tdiv (256:Int))),UInt8.ofInt (yE.1.tmod (256:Int))].length<=cc then (let abz:=UC++[UInt8.ofInt (af (yE.1.tdiv (256:Int))),UInt8.ofInt (yE.1.tmod (256:Int))];some (abz,())) else none) else none
noncomputable def s0 (k:Nat) (a1:Arg):((List UInt8)×Int)->Y:=λJ=>D.L k [1,1,0,1,0,0] [0,3,4] [] (ag 0 (ay (D.N k [1,1,1]) D.K0)) (T0 a1 J)
noncomputable def r0 (k:Nat) (a1:Arg):((List UInt8)×Int)->Y:=ak (λw v=>b0 w (q0 a1) a1 v) k
theorem aw (k:Nat) (a1:Arg):s0 k a1=r0 k a1:=
 funext λJ=>av _ _ _ (T0 a1) _ (λrec v=>by kernel_rfl) k J
noncomputable def p (l0:((List UInt8)×Int)->Y) (a1:Arg):Y:=l0 ([(0:UInt8),UInt8.ofInt a1.1.1,UInt8.ofInt a1.1.2.1,UInt8.ofInt a1.1.2.2.1,UInt8.ofInt (a1.1.2.2.2.1.length:Int)],(0:Int))
theorem ae (k:Nat) (a1:Arg):@Eq Y (D.W k a1) (p (r0 k a1) a1):=
 aU (b:=p (s0 k a1) a1) (by kernel_rfl) (by rw[aw])
theorem ok:Ok prog 144 D.sig:=au func144 aT (by kernel_rfl) (fc mT.ok (aj _))
end l5
namespace lk
abbrev Arg:Type:=(List UInt8)×Unit
abbrev Out:Type:=LP×Unit
noncomputable def D:FD:={ fn:=f89,tl:=bd,ps:=[(.ro,(.U u8))],rs:=[(yC,(an yC))],gl:=[(135,nm.D.sig),(143,lZ.D.sig),(144,l5.D.sig)],od:=[(5,[0,1,2,5,6,7,8,3,4,9,10])],ar:=[(5,[8])] }
noncomputable def aa (a:Arg):Option Out:=@lift Out λk=>D.W k a
noncomputable def p (a1:Arg):Option Out:=bif decide ((a1.1.length:Int) < (7:Int)) then (some (((5:Int),(0:Int),((0:Int),(0:Int),(0:Int),([]:List gu),()),()),())) else (a1.1[0]?).bind λx2=>bif decide (af (x2.toNat:Int) < (7:Int)) then (some (((5:Int),(0:Int),((0:Int),(0:Int),(0:Int),([]:List gu),()),()),())) else (a1.1[0]?).bind λx3=>bif decide ((a1.1.length:Int) < af (x3.toNat:Int)) then (some (((5:Int),(0:Int),((0:Int),(0:Int),(0:Int),([]:List gu),()),()),())) else (a1.1[0]?).bind λx4=>if 0<=af (x4.toNat:Int)/\af (x4.toNat:Int)<=(a1.1.length:Int) then ((lZ.aa ((a1.1.take (af (x4.toNat:Int)).toNat).drop 0,())).bind λr5=>(nm.aa (r5.1,())).bind λr6=>bif !decide (r6.1=(0:Int)) then (some (((5:Int),(0:Int),((0:Int),(0:Int),(0:Int),([]:List gu),()),()),())) else if 0<=af (x4.toNat:Int)/\af (x4.toNat:Int)<=(a1.1.length:Int) then ((l5.aa (r5.1,())).bind λr7=>bif !decide (r7.1=(a1.1.take (af (x4.toNat:Int)).toNat).drop 0) then (some (((5:Int),(0:Int),((0:Int),(0:Int),(0:Int),([]:List gu),()),()),())) else some (((0:Int),af (x4.toNat:Int),r5.1,()),())) else none) else none
theorem ae (k:Nat) (a1:Arg):@Eq (Option Out) (D.W k a1) (p a1):=by kernel_rfl
theorem ok:Ok prog 89 D.sig:=au func89 aT (by kernel_rfl) (fc nm.ok (fc lZ.ok (fc l5.ok (aj _))))
end lk
namespace jo
abbrev Arg:Type:=(List UInt8)×Unit
abbrev Out:Type:=(List bg)×Int×Unit
abbrev Y:=Option Out
noncomputable def D:FD:={ fn:=f75,tl:=bd,ps:=[(.ro,(.U u8))],rs:=[((.U d9),(an (.U d9))),(i64,(ax i64))],gl:=[(89,lk.D.sig)],lv:=[(3,[0,4,5])],lx:=[(0,[4,5])] }
noncomputable def aa (a:Arg):Y:=@lift Out λk=>D.W k a
noncomputable def T0 (a1:Arg) (J:(List bg)×Int):St:={ n:=30,sl:=[(0,.val (.U u8) a1.1),(4,.own (.U d9) (an (.U d9)) [] J.1),(5,.val i64 J.2)],vr:=[],az:=[] }
noncomputable def b0 (self:((List bg)×Int)->Y) (e0:((List bg)×Int)->Y) (a1:Arg) (J:(List bg)×Int):Y:=bif decide (J.2 < (a1.1.length:Int)) then (if 0<=J.2/\J.2<=(a1.1.length:Int) then ((lk.aa ((a1.1.take a1.1.length).drop J.2.toNat,())).bind λvm=>bif !decide (vm.1.1=(0:Int)) then (e0 (J.1,J.2)) else if J.1.length+[vm.1.2.2.1].length<=cc then (self (J.1++[vm.1.2.2.1],af (J.2+vm.1.2.1))) else none) else none) else e0 (J.1,J.2)
noncomputable abbrev B0 (_:Nat):=b0
noncomputable def q0 (a1:Arg) (oC:((List bg)×Int)):Y:=some (oC.1,oC.2,())
noncomputable abbrev Q0 (_:Nat):=q0
noncomputable def s0 (k:Nat) (a1:Arg):((List bg)×Int)->Y:=λJ=>D.L k [1,1,1,0,0,0] [0,4,5] [] (ag 0 (ay (D.N k [1,1,1,1]) D.K0)) (T0 a1 J)
noncomputable def r0 (k:Nat) (a1:Arg):((List bg)×Int)->Y:=ak (λw v=>B0 k w (Q0 k a1) a1 v) k
theorem aw (k:Nat) (a1:Arg):s0 k a1=r0 k a1:=
 funext λJ=>av _ _ _ (T0 a1) _ (λrec v=>by kernel_rfl) k J
noncomputable def p (l0:((List bg)×Int)->Y) (a1:Arg):Y:=l0 (([]:List bg),(0:Int))
theorem ae (k:Nat) (a1:Arg):@Eq Y (D.W k a1) (p (r0 k a1) a1):=
 aU (b:=p (s0 k a1) a1) (by kernel_rfl) (by rw[aw])
theorem ok:Ok prog 75 D.sig:=au func75 aT (by kernel_rfl) (fc lk.ok (aj _))
end jo
namespace pY
abbrev Arg:Type:=Log×Unit
abbrev Out:Type:=Int×Unit
noncomputable def D:FD:={ fn:=f38,tl:=bd,ps:=[(.ro,(.ptr kg))],rs:=[(i64,(ax i64))],gl:=[(75,jo.D.sig)],od:=[(1,[0,1,2,3,4,5,6,7,8,9,10,11])] }
noncomputable def aa (a:Arg):Option Out:=@lift Out λk=>D.W k a
noncomputable def p (a1:Arg):Option Out:=bif decide ((16000:Int) < af ((a1.1.1.length:Int)+(a1.1.2.1.length:Int))) then (some ((2:Int),())) else (jo.aa (a1.1.1,())).bind λr2=>bif !decide (r2.2.1=(a1.1.1.length:Int)) then (some ((5:Int),())) else (jo.aa (a1.1.2.1,())).bind λr3=>bif !decide (r3.2.1=(a1.1.2.1.length:Int)) then (some ((5:Int),())) else some ((0:Int),())
theorem ae (k:Nat) (a1:Arg):@Eq (Option Out) (D.W k a1) (p a1):=by kernel_rfl
theorem ok:Ok prog 38 D.sig:=au func38 aT (by kernel_rfl) (fc jo.ok (aj _))
end pY
namespace je
abbrev Arg:Type:=(List UInt8)×Unit
abbrev Out:Type:=Int×Unit
noncomputable def D:FD:={ fn:=f122,tl:=bd,ps:=[(.ro,(.U u8))],rs:=[(i64,(ax i64))] }
noncomputable def aa (a:Arg):Option Out:=@lift Out λk=>D.W k a
noncomputable def p (a1:Arg):Option Out:=(a1.1[0]?).bind λx2=>some (af (x2.toNat:Int),())
theorem ae (k:Nat) (a1:Arg):@Eq (Option Out) (D.W k a1) (p a1):=by kernel_rfl
theorem ok:Ok prog 122 D.sig:=au func122 aT (by kernel_rfl) (aj _)
end je
namespace dy
abbrev Arg:Type:=(List UInt8)×Int×Unit
abbrev Out:Type:=Int×Unit
noncomputable def D:FD:={ fn:=f123,tl:=bd,ps:=[(.ro,(.U u8)),(.ro,i64)],rs:=[(i64,(ax i64))] }
noncomputable def aa (a:Arg):Option Out:=@lift Out λk=>D.W k a
noncomputable def p (a1:Arg):Option Out:=if 0<=af ((3:Int)+(af ((2:Int)*a1.2.1))) then ((a1.1[(af ((3:Int)+(af ((2:Int)*a1.2.1)))).toNat]?).bind λx2=>some (af (x2.toNat:Int),())) else none
theorem ae (k:Nat) (a1:Arg):@Eq (Option Out) (D.W k a1) (p a1):=by kernel_rfl
theorem ok:Ok prog 123 D.sig:=au func123 aT (by kernel_rfl) (aj _)
end dy
namespace nQ
abbrev Arg:Type:=(List UInt8)×Unit
abbrev Out:Type:=Int×Unit
noncomputable def D:FD:={ fn:=f174,tl:=bd,ps:=[(.ro,(.U u8))],rs:=[(i64,(ax i64))] }
noncomputable def aa (a:Arg):Option Out:=@lift Out λk=>D.W k a
noncomputable def p (a1:Arg):Option Out:=(a1.1[1]?).bind λx2=>some (af (x2.toNat:Int),())
theorem ae (k:Nat) (a1:Arg):@Eq (Option Out) (D.W k a1) (p a1):=by kernel_rfl
theorem ok:Ok prog 174 D.sig:=au func174 aT (by kernel_rfl) (aj _)
end nQ
namespace jf
abbrev Arg:Type:=(List UInt8)×Int×Unit
abbrev Out:Type:=Int×Unit
noncomputable def D:FD:={ fn:=f178,tl:=bd,ps:=[(.ro,(.U u8)),(.ro,i64)],rs:=[(i64,(ax i64))] }
noncomputable def aa (a:Arg):Option Out:=@lift Out λk=>D.W k a
noncomputable def p (a1:Arg):Option Out:=if 0<=af ((2:Int)+(af ((2:Int)*a1.2.1))) then ((a1.1[(af ((2:Int)+(af ((2:Int)*a1.2.1)))).toNat]?).bind λx2=>some (af (x2.toNat:Int),())) else none
theorem ae (k:Nat) (a1:Arg):@Eq (Option Out) (D.W k a1) (p a1):=by kernel_rfl
theorem ok:Ok prog 178 D.sig:=au func178 aT (by kernel_rfl) (aj _)
end jf
namespace qQ
abbrev Arg:Type:=(List UInt8)×Int×Unit
abbrev Out:Type:=Bool×Unit
noncomputable def D:FD:={ fn:=f175,tl:=bd,ps:=[(.ro,(.U u8)),(.ro,i64)],rs:=[(.bool,(ax .bool))],gl:=[(123,dy.D.sig),(174,nQ.D.sig),(178,jf.D.sig)] }
noncomputable def aa (a:Arg):Option Out:=@lift Out λk=>D.W k a
noncomputable def p (a1:Arg):Option Out:=(jf.aa (a1.1,a1.2.1,())).bind λr2=>(dy.aa (a1.1,a1.2.1,())).bind λr3=>bif decide (r2.1=(0:Int)) then (some (decide (r2.1=r3.1),())) else bif decide (r3.1=(0:Int)) then (some (decide (r2.1=r3.1),())) else (nQ.aa (a1.1,())).bind λr4=>bif decide (r4.1<=r2.1) then (some (decide (af (r2.1+r3.1)<=(64:Int)),())) else some (false,())
theorem ae (k:Nat) (a1:Arg):@Eq (Option Out) (D.W k a1) (p a1):=by kernel_rfl
theorem ok:Ok prog 175 D.sig:=au func175 aT (by kernel_rfl) (fc dy.ok (fc nQ.ok (fc jf.ok (aj _))))
end qQ
namespace pZ
abbrev Arg:Type:=(List UInt8)×Int×Int×Unit
abbrev Out:Type:=Bool×Unit
noncomputable def D:FD:={ fn:=f176,tl:=bd,ps:=[(.ro,(.U u8)),(.ro,i64),(.ro,i64)],rs:=[(.bool,(ax .bool))],gl:=[(123,dy.D.sig),(178,jf.D.sig)] }
noncomputable def aa (a:Arg):Option Out:=@lift Out λk=>D.W k a
noncomputable def p (a1:Arg):Option Out:=(dy.aa (a1.1,a1.2.1,())).bind λr2=>bif decide (r2.1=(0:Int)) then (some (true,())) else (dy.aa (a1.1,a1.2.2.1,())).bind λr3=>bif decide (r3.1=(0:Int)) then (some (true,())) else (jf.aa (a1.1,a1.2.1,())).bind λr4=>(dy.aa (a1.1,a1.2.1,())).bind λr5=>(jf.aa (a1.1,a1.2.2.1,())).bind λr6=>bif decide (af (r4.1+r5.1)<=r6.1) then (some (true,())) else (jf.aa (a1.1,a1.2.2.1,())).bind λr7=>(dy.aa (a1.1,a1.2.2.1,())).bind λr8=>(jf.aa (a1.1,a1.2.1,())).bind λr9=>some (decide (af (r7.1+r8.1)<=r9.1),())
theorem ae (k:Nat) (a1:Arg):@Eq (Option Out) (D.W k a1) (p a1):=by kernel_rfl
theorem ok:Ok prog 176 D.sig:=au func176 aT (by kernel_rfl) (fc dy.ok (fc jf.ok (aj _)))
end pZ
namespace cm
abbrev Arg:Type:=(List UInt8)×Unit
abbrev Out:Type:=Int×Unit
abbrev Y:=Option Out
noncomputable def D:FD:={ fn:=f121,tl:=bd,ps:=[(.ro,(.U u8))],rs:=[(i64,(ax i64))],gl:=[(122,je.D.sig),(123,dy.D.sig),(174,nQ.D.sig),(175,qQ.D.sig),(176,pZ.D.sig)],lv:=[(7,[0,3,4]),(12,[0,3,5]),(15,[0,3,5,6])],lx:=[(0,[0,3]),(2,[0,3]),(4,[0,3,5])] }
noncomputable def aa (a:Arg):Y:=@lift Out λk=>D.W k a
noncomputable def T0 (a1:Arg) (d7:Int) (gm:Int):St:={ n:=60,sl:=[(0,.val (.U u8) a1.1),(3,.val i64 d7),(4,.val i64 gm)],vr:=[],az:=[] }
noncomputable def S0 (rec:RT Out) (a1:Arg) (d7:Int):(Int)->Y:=λgm=>rec (T0 a1 d7 gm)
noncomputable def df (K:KT Out) (a1:Arg) (d7:Int):(Unit)->Y:=λz=>K (.exit 0) ({ n:=60,sl:=[(0,.val (.U u8) a1.1),(3,.val i64 d7)],vr:=[],az:=[] })
noncomputable def b0 (self:Int->Y) (e0:(Unit)->Y) (a1:Arg) (d7:Int) (gm:Int):Y:=bif decide (gm < d7) then ((qQ.aa (a1.1,gm,())).bind λmP=>bif !mP.1 then (some ((3:Int),())) else self (af (gm+(1:Int)))) else e0 ()
theorem ml (k:Nat) (rec:RT Out) (K:KT Out) (a1:Arg) (d7:Int) (gm:Int):D.N k [1,1,1,1,0,1,0,0] (T0 a1 d7 gm) (i7 rec (ff [0,3,4] []) K)=b0 (S0 rec a1 d7) (df K a1 d7) a1 d7 gm:=by kernel_rfl
noncomputable def T1 (a1:Arg) (cq:(List UInt8)×Int×Int):St:={ n:=60,sl:=[(0,.val (.U u8) cq.1),(3,.val i64 cq.2.1),(5,.val i64 cq.2.2)],vr:=[],az:=[] }
noncomputable def S1 (rec:RT Out) (a1:Arg):((List UInt8)×Int×Int)->Y:=λcq=>rec (T1 a1 cq)
noncomputable def jq (K:KT Out) (a1:Arg):((List UInt8)×Int)->Y:=λz=>K (.exit 2) ({ n:=60,sl:=[(0,.val (.U u8) z.1),(3,.val i64 z.2)],vr:=[],az:=[] })
noncomputable def T2 (a1:Arg) (j6:List UInt8) (gb:Int) (dO:Int) (yX:Int):St:={ n:=60,sl:=[(0,.val (.U u8) j6),(3,.val i64 gb),(5,.val i64 dO),(6,.val i64 yX)],vr:=[],az:=[] }
noncomputable def b2 (self:Int->Y) (e4:(Unit)->Y) (a1:Arg) (j6:List UInt8) (gb:Int) (dO:Int) (yX:Int):Y:=bif decide (yX < dO) then ((pZ.aa (j6,dO,yX,())).bind λPZ=>bif !PZ.1 then (some ((8:Int),())) else self (af (yX+(1:Int)))) else e4 ()
noncomputable def q1 (self:((List UInt8)×Int×Int)->Y) (e2:((List UInt8)×Int)->Y) (a1:Arg) (j6:List UInt8) (gb:Int) (dO:Int) (EH:(Unit)):Y:=self (j6,gb,af (dO+(1:Int)))
noncomputable def s2 (k:Nat) (rec:RT Out) (K:KT Out) (a1:Arg):(List UInt8)->Int->Int->(Int)->Y:=λj6 gb dO=>λyX=>D.L k [1,1,1,1,1,0,1,0,0,1,0,0,1,0,0] [0,3,5,6] [] (ag 4 (ag 3 (ay (D.N k [1,1,1,1,1,0,1,0,0,1,1]) (i7 rec (ff [0,3,5] []) K)))) (T2 a1 j6 gb dO yX)
noncomputable def r2 (k:Nat) (self:((List UInt8)×Int×Int)->Y) (e2:((List UInt8)×Int)->Y) (a1:Arg):(List UInt8)->Int->Int->(Int)->Y:=λj6 gb dO=>ak (λw v=>b2 w (q1 self e2 a1 j6 gb dO) a1 j6 gb dO v) k
theorem rT (k:Nat) (rec:RT Out) (K:KT Out) (a1:Arg):s2 k rec K a1=r2 k (S1 rec a1) (jq K a1) a1:=
 funext λj6=>funext λgb=>funext λdO=>funext λyX=>av _ _ _ (T2 a1 j6 gb dO) _ (λrec v=>by kernel_rfl) k yX
noncomputable def b1 (self:((List UInt8)×Int×Int)->Y) (e2:((List UInt8)×Int)->Y) (l2:(List UInt8)->Int->Int->(Int)->Y) (a1:Arg) (cq:(List UInt8)×Int×Int):Y:=bif decide (cq.2.2 < cq.2.1) then (l2 cq.1 cq.2.1 cq.2.2 (0:Int)) else e2 (cq.1,cq.2.1)
noncomputable def B1 (k:Nat) (self:((List UInt8)×Int×Int)->Y) (e2:((List UInt8)×Int)->Y) (a1:Arg) (cq:(List UInt8)×Int×Int):Y:=b1 self e2 (r2 k self e2 a1) a1 cq
theorem tc (k:Nat) (rec:RT Out) (K:KT Out) (a1:Arg) (cq:(List UInt8)×Int×Int):D.N k [1,1,1,1,1,0,1,0,0] (T1 a1 cq) (i7 rec (ff [0,3,5] []) K)=B1 k (S1 rec a1) (jq K a1) a1 cq:=
 aU (b:=b1 (S1 rec a1) (jq K a1) (s2 k rec K a1) a1 cq) (by kernel_rfl) (by rw[rT];rfl)
noncomputable def q2 (a1:Arg) (uW:((List UInt8)×Int)):Y:=bif decide ((0:Int) < uW.2) then ((dy.aa (uW.1,af (uW.2 - (1:Int)),())).bind λaah=>bif decide (aah.1=(0:Int)) then (some ((8:Int),())) else some ((0:Int),())) else some ((0:Int),())
theorem uX (k:Nat) (a1:Arg) (uW:((List UInt8)×Int)):jq (ag 2 (ay (D.N k [1,1,1,1,1,1]) D.K0)) a1 uW=q2 a1 uW:=by kernel_rfl
noncomputable def s1 (k:Nat) (a1:Arg) (d7:Int):((List UInt8)×Int×Int)->Y:=λcq=>D.L k [1,1,1,1,1,0,1,0,0] [0,3,5] [] (ag 2 (ay (D.N k [1,1,1,1,1,1]) D.K0)) (T1 a1 cq)
noncomputable def r1 (k:Nat) (a1:Arg) (d7:Int):((List UInt8)×Int×Int)->Y:=ak (λw v=>B1 k w (q2 a1) a1 v) k
theorem mm (k:Nat) (a1:Arg) (d7:Int):s1 k a1 d7=r1 k a1 d7:=by
 funext cq;have h2:jq (ag 2 (ay (D.N k [1,1,1,1,1,1]) D.K0)) a1=q2 a1:=funext λz=>uX k a1 z;refine (av _ _ _ (T1 a1) (λself v=>B1 k self (jq (ag 2 (ay (D.N k [1,1,1,1,1,1]) D.K0)) a1) a1 v) (λrec v=>tc k rec (ag 2 (ay (D.N k [1,1,1,1,1,1]) D.K0)) a1 v) k cq).trans ?_;rw[h2];rfl
noncomputable def q0 (l1:((List UInt8)×Int×Int)->Y) (a1:Arg) (d7:Int) (pi:(Unit)):Y:=l1 (a1.1,d7,(0:Int))
noncomputable def Q0 (k:Nat) (a1:Arg) (d7:Int) (pi:(Unit)):Y:=q0 (r1 k a1 d7) a1 d7 pi
theorem qA (k:Nat) (a1:Arg) (d7:Int) (pi:(Unit)):df (ag 0 (ay (D.N k [1,1,1,1,1]) D.K0)) a1 d7 pi=Q0 k a1 d7 pi:=
 aU (b:=q0 (s1 k a1 d7) a1 d7 pi) (by kernel_rfl) (by rw[mm];rfl)
noncomputable def s0 (k:Nat) (a1:Arg):Int->(Int)->Y:=λd7=>λgm=>D.L k [1,1,1,1,0,1,0,0] [0,3,4] [] (ag 0 (ay (D.N k [1,1,1,1,1]) D.K0)) (T0 a1 d7 gm)
noncomputable def r0 (k:Nat) (a1:Arg):Int->(Int)->Y:=λd7=>ak (λw v=>b0 w (Q0 k a1 d7) a1 d7 v) k
theorem aw (k:Nat) (a1:Arg):s0 k a1=r0 k a1:=by
 funext d7;funext gm;have h0:df (ag 0 (ay (D.N k [1,1,1,1,1]) D.K0)) a1 d7=Q0 k a1 d7:=funext λz=>qA k a1 d7 z;refine (av _ _ _ (T0 a1 d7) (λself v=>b0 self (df (ag 0 (ay (D.N k [1,1,1,1,1]) D.K0)) a1 d7) a1 d7 v) (λrec v=>ml k rec (ag 0 (ay (D.N k [1,1,1,1,1]) D.K0)) a1 d7 v) k gm).trans ?_;rw[h0];rfl
noncomputable def p (l0:Int->(Int)->Y) (a1:Arg):Y:=bif !decide ((a1.1.length:Int)=(64:Int)) then (some ((1:Int),())) else (je.aa (a1.1,())).bind λr2=>bif decide ((16:Int) < r2.1) then (some ((3:Int),())) else (nQ.aa (a1.1,())).bind λr3=>bif decide (r3.1 < af ((2:Int)+(af ((2:Int)*r2.1)))) then (some ((3:Int),())) else (nQ.aa (a1.1,())).bind λr4=>bif decide ((64:Int) < r4.1) then (some ((3:Int),())) else l0 r2.1 (0:Int)
theorem ae (k:Nat) (a1:Arg):@Eq Y (D.W k a1) (p (r0 k a1) a1):=
 aU (b:=p (s0 k a1) a1) (by kernel_rfl) (by rw[aw])
theorem ok:Ok prog 121 D.sig:=au func121 aT (by kernel_rfl) (fc je.ok (fc dy.ok (fc nQ.ok (fc qQ.ok (fc pZ.ok (aj _))))))
end cm
namespace l6
abbrev Arg:Type:=(List UInt8)×Unit
abbrev Out:Type:=Bool×Unit
abbrev Y:=Option Out
noncomputable def D:FD:={ fn:=f180,tl:=bd,ps:=[(.ro,.str)],rs:=[(.bool,(ax .bool))],lv:=[(2,[0,3])],lx:=[(0,[0])] }
noncomputable def aa (a:Arg):Y:=@lift Out λk=>D.W k a
noncomputable def T0 (a1:Arg) (J:Int):St:={ n:=23,sl:=[(0,.val .str a1.1),(3,.val i64 J)],vr:=[],az:=[] }
noncomputable def b0 (self:Int->Y) (e0:(Unit)->Y) (a1:Arg) (J:Int):Y:=bif decide (J < (a1.1.length:Int)) then (if 0<=J then ((a1.1[J.toNat]?).bind λa7=>bif decide ((a7.toNat:Int) < (97:Int)) then (some (false,())) else if 0<=J then ((a1.1[J.toNat]?).bind λen=>bif decide ((122:Int) < (en.toNat:Int)) then (some (false,())) else self (af (J+(1:Int)))) else none) else none) else e0 ()
noncomputable def q0 (a1:Arg) (dz:(Unit)):Y:=some (decide ((a1.1.length:Int)<=(8:Int)),())
noncomputable def s0 (k:Nat) (a1:Arg):(Int)->Y:=λJ=>D.L k [1,0,1,0,0] [0,3] [] (ag 0 (ay (D.N k [1,1]) D.K0)) (T0 a1 J)
noncomputable def r0 (k:Nat) (a1:Arg):(Int)->Y:=ak (λw v=>b0 w (q0 a1) a1 v) k
theorem aw (k:Nat) (a1:Arg):s0 k a1=r0 k a1:=
 funext λJ=>av _ _ _ (T0 a1) _ (λrec v=>by kernel_rfl) k J
noncomputable def p (l0:(Int)->Y) (a1:Arg):Y:=l0 (0:Int)
theorem ae (k:Nat) (a1:Arg):@Eq Y (D.W k a1) (p (r0 k a1) a1):=
 aU (b:=p (s0 k a1) a1) (by kernel_rfl) (by rw[aw])
theorem ok:Ok prog 180 D.sig:=au func180 aT (by kernel_rfl) (aj _)
end l6
namespace jg
abbrev Arg:Type:=Row×Unit
abbrev Out:Type:=Int×Unit
noncomputable def D:FD:={ fn:=f128,tl:=bd,ps:=[(.ro,(.ptr ba))],rs:=[(i64,(ax i64))],gl:=[(39,bu.D.sig),(180,l6.D.sig)] }
noncomputable def aa (a:Arg):Option Out:=@lift Out λk=>D.W k a
noncomputable def p (a1:Arg):Option Out:=(bu.aa (a1.1.1,(0:Int),(3:Int),())).bind λr2=>bif !r2.1 then (some ((3:Int),())) else (bu.aa (a1.1.2.1,(1:Int),(99:Int),())).bind λr3=>bif !r3.1 then (some ((3:Int),())) else (bu.aa (a1.1.2.2.1,(0:Int),(999:Int),())).bind λr4=>bif !r4.1 then (some ((3:Int),())) else (l6.aa (a1.1.2.2.2.1,())).bind λr5=>bif !r5.1 then (some ((5:Int),())) else some ((0:Int),())
theorem ae (k:Nat) (a1:Arg):@Eq (Option Out) (D.W k a1) (p a1):=by kernel_rfl
theorem ok:Ok prog 128 D.sig:=au func128 aT (by kernel_rfl) (fc bu.ok (fc l6.ok (aj _)))
end jg
namespace p6
abbrev Arg:Type:=Int×Int×Unit
abbrev Out:Type:=Bool×Unit
noncomputable def D:FD:={ fn:=f177,tl:=bd,ps:=[(.ro,i64),(.ro,i64)],rs:=[(.bool,(ax .bool))],gl:=[(39,bu.D.sig)] }
noncomputable def aa (a:Arg):Option Out:=@lift Out λk=>D.W k a
noncomputable def p (a1:Arg):Option Out:=(bu.aa (a1.1,(0:Int),(11:Int),())).bind λr2=>bif r2.1 then ((bu.aa (a1.2.1,(0:Int),(15:Int),())).bind λr3=>some (r3.1,())) else some (false,())
theorem ae (k:Nat) (a1:Arg):@Eq (Option Out) (D.W k a1) (p a1):=by kernel_rfl
theorem ok:Ok prog 177 D.sig:=au func177 aT (by kernel_rfl) (fc bu.ok (aj _))
end p6
namespace l7
abbrev Arg:Type:=(List UInt8)×Unit
abbrev Out:Type:=rQ×Bool×Unit
noncomputable def D:FD:={ fn:=f124,tl:=bd,ps:=[(.ro,(.U u8))],rs:=[(qP,(ax qP)),(.bool,(ax .bool))],gl:=[(128,jg.D.sig),(177,p6.D.sig)],od:=[(2,[0,1,2,3,4,5,6,7,8,9,10]),(3,[0,1,2,3,4,5,6,7]),(6,[0,1,2,3,4,5,6,7,8,9,10,11,12,13,14,15,16,17,18,19,20,21,22,23]),(7,[0,1,2,3,4,5,6,7,8,9])] }
noncomputable def aa (a:Arg):Option Out:=@lift Out λk=>D.W k a
noncomputable def p (a1:Arg):Option Out:=let j16:Option Out:=bif decide ((a1.1.length:Int) < (6:Int)) then (some (((0:Int),(0:Int),(0:Int),(0:Int),((0:Int),(0:Int),(0:Int),([]:List UInt8),()),()),false,())) else (a1.1[0]?).bind λx17=>bif decide ((x17.toNat:Int)=(1:Int)) then (some (((0:Int),(0:Int),(0:Int),(0:Int),((0:Int),(0:Int),(0:Int),([]:List UInt8),()),()),false,())) else (a1.1[0]?).bind λx18=>bif decide ((2:Int) < (x18.toNat:Int)) then (some (((0:Int),(0:Int),(0:Int),(0:Int),((0:Int),(0:Int),(0:Int),([]:List UInt8),()),()),false,())) else (a1.1[5]?).bind λx19=>bif !decide ((a1.1.length:Int)=af ((6:Int)+(af (x19.toNat:Int)))) then (some (((0:Int),(0:Int),(0:Int),(0:Int),((0:Int),(0:Int),(0:Int),([]:List UInt8),()),()),false,())) else (a1.1[1]?).bind λx20=>(a1.1[2]?).bind λx21=>(a1.1[3]?).bind λx22=>(a1.1[4]?).bind λLQ=>if 0<=(6:Int)/\(6:Int)<=(a1.1.length:Int) then (let y24:=af ((af ((af (x22.toNat:Int))*(256:Int)))+(af (LQ.toNat:Int)));(a1.1[0]?).bind λx25=>(jg.aa ((af (x20.toNat:Int),af (x21.toNat:Int),y24,(a1.1.take a1.1.length).drop 6,()),())).bind λZa=>some (((0:Int),af (x25.toNat:Int),(0:Int),(0:Int),(af (x20.toNat:Int),af (x21.toNat:Int),y24,(a1.1.take a1.1.length).drop 6,()),()),decide (Za.1=(0:Int)),())) else none;bif decide ((a1.1.length:Int)=(3:Int)) then ((a1.1[0]?).bind λx2=>bif decide ((x2.toNat:Int)=(1:Int)) then ((a1.1[1]?).bind λx3=>(a1.1[2]?).bind λx4=>(p6.aa (af (x3.toNat:Int),af (x4.toNat:Int),())).bind λr5=>some (((0:Int),(1:Int),af (x3.toNat:Int),af (x4.toNat:Int),((0:Int),(0:Int),(0:Int),([]:List UInt8),()),()),r5.1,())) else j16) else j16
theorem ae (k:Nat) (a1:Arg):@Eq (Option Out) (D.W k a1) (p a1):=by kernel_rfl
theorem ok:Ok prog 124 D.sig:=au func124 aT (by kernel_rfl) (fc jg.ok (fc p6.ok (aj _)))
end l7
namespace l8
abbrev Arg:Type:=(List UInt8)×Int×Unit
abbrev Out:Type:=(List UInt8)×Unit
noncomputable def D:FD:={ fn:=f125,tl:=bd,ps:=[(.ro,(.U u8)),(.ro,i64)],rs:=[((.U u8),(an (.U u8)))],gl:=[(123,dy.D.sig),(178,jf.D.sig)] }
noncomputable def aa (a:Arg):Option Out:=@lift Out λk=>D.W k a
noncomputable def p (a1:Arg):Option Out:=(jf.aa (a1.1,a1.2.1,())).bind λr2=>(dy.aa (a1.1,a1.2.1,())).bind λr3=>if 0<=r2.1/\r2.1<=af (r2.1+r3.1)/\af (r2.1+r3.1)<=(a1.1.length:Int) then (if ([]:List UInt8).length+((a1.1.take (af (r2.1+r3.1)).toNat).drop r2.1.toNat).length<=cc then (let y4:=([]:List UInt8)++((a1.1.take (af (r2.1+r3.1)).toNat).drop r2.1.toNat);some (y4,())) else none) else none
theorem ae (k:Nat) (a1:Arg):@Eq (Option Out) (D.W k a1) (p a1):=by kernel_rfl
theorem ok:Ok prog 125 D.sig:=au func125 aT (by kernel_rfl) (fc dy.ok (fc jf.ok (aj _)))
end l8
namespace fl
abbrev Arg:Type:=(List (List UInt8))×Unit
abbrev Out:Type:=Int×Unit
abbrev Y:=Option Out
noncomputable def D:FD:={ fn:=f76,tl:=bd,ps:=[(.ro,(.U (.U u8)))],rs:=[(i64,(ax i64))],gl:=[(121,cm.D.sig),(122,je.D.sig),(123,dy.D.sig),(124,l7.D.sig),(125,l8.D.sig)],lv:=[(2,[0,3]),(8,[0,3,5])],lx:=[(0,[]),(2,[0,3])] }
noncomputable def aa (a:Arg):Y:=@lift Out λk=>D.W k a
noncomputable def T0 (a1:Arg) (J:(List (List UInt8))×Int):St:={ n:=50,sl:=[(0,.val (.U (.U u8)) J.1),(3,.val i64 J.2)],vr:=[],az:=[] }
noncomputable def S0 (rec:RT Out) (a1:Arg):((List (List UInt8))×Int)->Y:=λJ=>rec (T0 a1 J)
noncomputable def df (K:KT Out) (a1:Arg):(Unit)->Y:=λz=>K (.exit 0) ({ n:=50,sl:=[],vr:=[],az:=[] })
noncomputable def T1 (a1:Arg) (ll:List (List UInt8)) (ji:Int) (fi:Int):St:={ n:=50,sl:=[(0,.val (.U (.U u8)) ll),(3,.val i64 ji),(5,.val i64 fi)],vr:=[],az:=[] }
noncomputable def b1 (self:Int->Y) (e2:(Unit)->Y) (a1:Arg) (ll:List (List UInt8)) (ji:Int) (fi:Int):Y:=if 0<=ji then ((ll[ji.toNat]?).bind λHh=>(je.aa (Hh,())).bind λP0=>bif decide (fi < P0.1) then (if 0<=ji then ((ll[ji.toNat]?).bind λHj=>(dy.aa (Hj,fi,())).bind λHk=>bif decide ((0:Int) < Hk.1) then (if 0<=ji then ((ll[ji.toNat]?).bind λAK=>(l8.aa (AK,fi,())).bind λoJ=>(l7.aa (oJ.1,())).bind λHl=>bif !Hl.2.1 then (some ((5:Int),())) else self (af (fi+(1:Int)))) else none) else self (af (fi+(1:Int)))) else none) else e2 ()) else none
noncomputable def q0 (self:((List (List UInt8))×Int)->Y) (e0:(Unit)->Y) (a1:Arg) (ll:List (List UInt8)) (ji:Int) (yY:(Unit)):Y:=self (ll,af (ji+(1:Int)))
noncomputable def s1 (k:Nat) (rec:RT Out) (K:KT Out) (a1:Arg):(List (List UInt8))->Int->(Int)->Y:=λll ji=>λfi=>D.L k [1,0,1,0,0,1,0,0,1,1,0,0] [0,3,5] [] (ag 2 (ag 1 (ay (D.N k [1,0,1,0,0,1,1]) (i7 rec (ff [0,3] []) K)))) (T1 a1 ll ji fi)
noncomputable def r1 (k:Nat) (self:((List (List UInt8))×Int)->Y) (e0:(Unit)->Y) (a1:Arg):(List (List UInt8))->Int->(Int)->Y:=λll ji=>ak (λw v=>b1 w (q0 self e0 a1 ll ji) a1 ll ji v) k
theorem mm (k:Nat) (rec:RT Out) (K:KT Out) (a1:Arg):s1 k rec K a1=r1 k (S0 rec a1) (df K a1) a1:=
 funext λll=>funext λji=>funext λfi=>av _ _ _ (T1 a1 ll ji) _ (λrec v=>by kernel_rfl) k fi
noncomputable def b0 (self:((List (List UInt8))×Int)->Y) (e0:(Unit)->Y) (l1:(List (List UInt8))->Int->(Int)->Y) (a1:Arg) (J:(List (List UInt8))×Int):Y:=bif decide (J.2 < (J.1.length:Int)) then (if 0<=J.2 then ((J.1[J.2.toNat]?).bind λa7=>(cm.aa (a7,())).bind λdv=>bif !decide (dv.1=(0:Int)) then (some (dv.1,())) else l1 J.1 J.2 (0:Int)) else none) else e0 ()
noncomputable def B0 (k:Nat) (self:((List (List UInt8))×Int)->Y) (e0:(Unit)->Y) (a1:Arg) (J:(List (List UInt8))×Int):Y:=b0 self e0 (r1 k self e0 a1) a1 J
theorem ml (k:Nat) (rec:RT Out) (K:KT Out) (a1:Arg) (J:(List (List UInt8))×Int):D.N k [1,0,1,0,0] (T0 a1 J) (i7 rec (ff [0,3] []) K)=B0 k (S0 rec a1) (df K a1) a1 J:=
 aU (b:=b0 (S0 rec a1) (df K a1) (s1 k rec K a1) a1 J) (by kernel_rfl) (by rw[mm];rfl)
noncomputable def q1 (a1:Arg) (Kb:(Unit)):Y:=some ((0:Int),())
theorem td (k:Nat) (a1:Arg) (Kb:(Unit)):df (ag 0 (ay (D.N k [1,1]) D.K0)) a1 Kb=q1 a1 Kb:=by kernel_rfl
noncomputable def s0 (k:Nat) (a1:Arg):((List (List UInt8))×Int)->Y:=λJ=>D.L k [1,0,1,0,0] [0,3] [] (ag 0 (ay (D.N k [1,1]) D.K0)) (T0 a1 J)
noncomputable def r0 (k:Nat) (a1:Arg):((List (List UInt8))×Int)->Y:=ak (λw v=>B0 k w (q1 a1) a1 v) k
theorem aw (k:Nat) (a1:Arg):s0 k a1=r0 k a1:=by
 funext J;have h0:df (ag 0 (ay (D.N k [1,1]) D.K0)) a1=q1 a1:=funext λz=>td k a1 z;refine (av _ _ _ (T0 a1) (λself v=>B0 k self (df (ag 0 (ay (D.N k [1,1]) D.K0)) a1) a1 v) (λrec v=>ml k rec (ag 0 (ay (D.N k [1,1]) D.K0)) a1 v) k J).trans ?_;rw[h0];rfl
noncomputable def p (l0:((List (List UInt8))×Int)->Y) (a1:Arg):Y:=l0 (a1.1,(0:Int))
theorem ae (k:Nat) (a1:Arg):@Eq Y (D.W k a1) (p (r0 k a1) a1):=
 aU (b:=p (s0 k a1) a1) (by kernel_rfl) (by rw[aw])
theorem ok:Ok prog 76 D.sig:=au func76 aT (by kernel_rfl) (fc cm.ok (fc je.ok (fc dy.ok (fc l7.ok (fc l8.ok (aj _))))))
end fl
namespace rU
abbrev Arg:Type:=(List UInt8)×Int×Unit
abbrev Out:Type:=Bool×Unit
noncomputable def D:FD:={ fn:=f179,tl:=bd,ps:=[(.ro,(.U u8)),(.ro,i64)],rs:=[(.bool,(ax .bool))],gl:=[(39,bu.D.sig),(122,je.D.sig),(123,dy.D.sig)] }
noncomputable def aa (a:Arg):Option Out:=@lift Out λk=>D.W k a
noncomputable def p (a1:Arg):Option Out:=(je.aa (a1.1,())).bind λr2=>(bu.aa (a1.2.1,(0:Int),af (r2.1 - (1:Int)),())).bind λr3=>bif r3.1 then ((dy.aa (a1.1,a1.2.1,())).bind λr4=>some (decide ((0:Int) < r4.1),())) else some (false,())
theorem ae (k:Nat) (a1:Arg):@Eq (Option Out) (D.W k a1) (p a1):=by kernel_rfl
theorem ok:Ok prog 179 D.sig:=au func179 aT (by kernel_rfl) (fc bu.ok (fc je.ok (fc dy.ok (aj _))))
end rU
namespace mJ
abbrev Arg:Type:=(List (List UInt8))×Int×Int×Unit
abbrev Out:Type:=rQ×Bool×Unit
noncomputable def D:FD:={ fn:=f126,tl:=bd,ps:=[(.ro,(.U (.U u8))),(.ro,i64),(.ro,i64)],rs:=[(qP,(ax qP)),(.bool,(ax .bool))],gl:=[(39,bu.D.sig),(124,l7.D.sig),(125,l8.D.sig),(179,rU.D.sig)] }
noncomputable def aa (a:Arg):Option Out:=@lift Out λk=>D.W k a
noncomputable def p (a1:Arg):Option Out:=(bu.aa (a1.2.1,(0:Int),af ((a1.1.length:Int) - (1:Int)),())).bind λr2=>bif !r2.1 then (some (((0:Int),(0:Int),(0:Int),(0:Int),((0:Int),(0:Int),(0:Int),([]:List UInt8),()),()),false,())) else if 0<=a1.2.1 then ((a1.1[a1.2.1.toNat]?).bind λx3=>(rU.aa (x3,a1.2.2.1,())).bind λr4=>bif !r4.1 then (some (((0:Int),(0:Int),(0:Int),(0:Int),((0:Int),(0:Int),(0:Int),([]:List UInt8),()),()),false,())) else if 0<=a1.2.1 then ((a1.1[a1.2.1.toNat]?).bind λx5=>(l8.aa (x5,a1.2.2.1,())).bind λr6=>(l7.aa (r6.1,())).bind λr7=>some (r7.1,r7.2.1,())) else none) else none
theorem ae (k:Nat) (a1:Arg):@Eq (Option Out) (D.W k a1) (p a1):=by kernel_rfl
theorem ok:Ok prog 126 D.sig:=au func126 aT (by kernel_rfl) (fc bu.ok (fc l7.ok (fc l8.ok (fc rU.ok (aj _)))))
end mJ
namespace c_
abbrev Arg:Type:=(List a8)×(List (List UInt8))×Unit
abbrev Out:Type:=Int×Unit
abbrev Y:=Option Out
noncomputable def D:FD:={ fn:=f77,tl:=bd,ps:=[(.ro,(.U kj)),(.ro,(.U (.U u8)))],rs:=[(i64,(ax i64))],gl:=[(126,mJ.D.sig)],lv:=[(2,[0,1,5]),(9,[0,8]),(12,[0,8,9])],lx:=[(0,[0]),(1,[0,1,5]),(2,[]),(4,[0,8])],od:=[(5,[0,1,2,3,4,5,6,7,8,9,10,11,12,13,14,15,16,17,18,19]),(16,[0,1,2,3,4,5,6,7,8,9,10,11,12,13,14,15,16,17,18,19,20,21,22,23,24,25,26,27,28,29,30,31,32,33])],ar:=[(5,[6,12])],pd:=[(5,[17])] }
noncomputable def aa (a:Arg):Y:=@lift Out λk=>D.W k a
noncomputable def T0 (a1:Arg) (J:Int):St:={ n:=102,sl:=[(0,.val (.U kj) a1.1),(1,.val (.U (.U u8)) a1.2.1),(5,.val i64 J)],vr:=[],az:=[] }
noncomputable def S0 (rec:RT Out) (a1:Arg):(Int)->Y:=λJ=>rec (T0 a1 J)
noncomputable def df (K:KT Out) (a1:Arg):(Unit)->Y:=λz=>K (.exit 0) ({ n:=102,sl:=[(0,.val (.U kj) a1.1)],vr:=[],az:=[] })
noncomputable def b0 (self:Int->Y) (e0:(Unit)->Y) (a1:Arg) (J:Int):Y:=bif decide (J < (a1.1.length:Int)) then (if 0<=J then ((a1.1[J.toNat]?).bind λa7=>bif !decide (a7.2.2.1.2.1=(1:Int)) then (self (af (J+(1:Int)))) else if 0<=J then ((a1.1[J.toNat]?).bind λen=>if 0<=J then ((a1.1[J.toNat]?).bind λeo=>(mJ.aa (a1.2.1,en.2.2.1.2.2.1,eo.2.2.1.2.2.2.1,())).bind λph=>bif !ph.2.1 then (some ((4:Int),())) else bif !decide (ph.1.2.1=(2:Int)) then (some ((4:Int),())) else self (af (J+(1:Int)))) else none) else none) else none) else e0 ()
theorem ml (k:Nat) (rec:RT Out) (K:KT Out) (a1:Arg) (J:Int):D.N k [1,0,1,0,0] (T0 a1 J) (i7 rec (ff [0,1,5] []) K)=b0 (S0 rec a1) (df K a1) a1 J:=by kernel_rfl
noncomputable def T1 (a1:Arg) (c7:(List a8)×Int):St:={ n:=102,sl:=[(0,.val (.U kj) c7.1),(8,.val i64 c7.2)],vr:=[],az:=[] }
noncomputable def S1 (rec:RT Out) (a1:Arg):((List a8)×Int)->Y:=λc7=>rec (T1 a1 c7)
noncomputable def jq (K:KT Out) (a1:Arg):(Unit)->Y:=λz=>K (.exit 2) ({ n:=102,sl:=[],vr:=[],az:=[] })
noncomputable def T2 (a1:Arg) (nR:List a8) (j6:Int) (uY:Int):St:={ n:=102,sl:=[(0,.val (.U kj) nR),(8,.val i64 j6),(9,.val i64 uY)],vr:=[],az:=[] }
noncomputable def b2 (self:Int->Y) (e4:(Unit)->Y) (a1:Arg) (nR:List a8) (j6:Int) (uY:Int):Y:=bif decide (uY < j6) then (if 0<=j6 then ((nR[j6.toNat]?).bind λP1=>if 0<=uY then ((nR[uY.toNat]?).bind λCn=>bif decide (P1.2.2.1.2.1=(1:Int)) then (bif decide (Cn.2.2.1.2.1=(1:Int)) then (bif decide (P1.2.2.1.2.2.1=Cn.2.2.1.2.2.1) then (bif decide (P1.2.2.1.2.2.2.1=Cn.2.2.1.2.2.2.1) then (some ((6:Int),())) else self (af (uY+(1:Int)))) else self (af (uY+(1:Int)))) else self (af (uY+(1:Int)))) else self (af (uY+(1:Int)))) else none) else none) else e4 ()
noncomputable def q1 (self:((List a8)×Int)->Y) (e2:(Unit)->Y) (a1:Arg) (nR:List a8) (j6:Int) (abZ:(Unit)):Y:=self (nR,af (j6+(1:Int)))
noncomputable def s2 (k:Nat) (rec:RT Out) (K:KT Out) (a1:Arg):(List a8)->Int->(Int)->Y:=λnR j6=>λuY=>D.L k [1,1,0,1,0,0,1,0,0,1,0,0] [0,8,9] [] (ag 4 (ag 3 (ay (D.N k [1,1,0,1,0,0,1,1]) (i7 rec (ff [0,8] []) K)))) (T2 a1 nR j6 uY)
noncomputable def r2 (k:Nat) (self:((List a8)×Int)->Y) (e2:(Unit)->Y) (a1:Arg):(List a8)->Int->(Int)->Y:=λnR j6=>ak (λw v=>b2 w (q1 self e2 a1 nR j6) a1 nR j6 v) k
theorem rT (k:Nat) (rec:RT Out) (K:KT Out) (a1:Arg):s2 k rec K a1=r2 k (S1 rec a1) (jq K a1) a1:=
 funext λnR=>funext λj6=>funext λuY=>av _ _ _ (T2 a1 nR j6) _ (λrec v=>by kernel_rfl) k uY
noncomputable def b1 (self:((List a8)×Int)->Y) (e2:(Unit)->Y) (l2:(List a8)->Int->(Int)->Y) (a1:Arg) (c7:(List a8)×Int):Y:=bif decide (c7.2 < (c7.1.length:Int)) then (l2 c7.1 c7.2 (0:Int)) else e2 ()
noncomputable def B1 (k:Nat) (self:((List a8)×Int)->Y) (e2:(Unit)->Y) (a1:Arg) (c7:(List a8)×Int):Y:=b1 self e2 (r2 k self e2 a1) a1 c7
theorem tc (k:Nat) (rec:RT Out) (K:KT Out) (a1:Arg) (c7:(List a8)×Int):D.N k [1,1,0,1,0,0] (T1 a1 c7) (i7 rec (ff [0,8] []) K)=B1 k (S1 rec a1) (jq K a1) a1 c7:=
 aU (b:=b1 (S1 rec a1) (jq K a1) (s2 k rec K a1) a1 c7) (by kernel_rfl) (by rw[rT];rfl)
noncomputable def q2 (a1:Arg) (EH:(Unit)):Y:=some ((0:Int),())
theorem uX (k:Nat) (a1:Arg) (EH:(Unit)):jq (ag 2 (ay (D.N k [1,1,1]) D.K0)) a1 EH=q2 a1 EH:=by kernel_rfl
noncomputable def s1 (k:Nat) (a1:Arg):((List a8)×Int)->Y:=λc7=>D.L k [1,1,0,1,0,0] [0,8] [] (ag 2 (ay (D.N k [1,1,1]) D.K0)) (T1 a1 c7)
noncomputable def r1 (k:Nat) (a1:Arg):((List a8)×Int)->Y:=ak (λw v=>B1 k w (q2 a1) a1 v) k
theorem mm (k:Nat) (a1:Arg):s1 k a1=r1 k a1:=by
 funext c7;have h2:jq (ag 2 (ay (D.N k [1,1,1]) D.K0)) a1=q2 a1:=funext λz=>uX k a1 z;refine (av _ _ _ (T1 a1) (λself v=>B1 k self (jq (ag 2 (ay (D.N k [1,1,1]) D.K0)) a1) a1 v) (λrec v=>tc k rec (ag 2 (ay (D.N k [1,1,1]) D.K0)) a1 v) k c7).trans ?_;rw[h2];rfl
noncomputable def q0 (l1:((List a8)×Int)->Y) (a1:Arg) (mO:(Unit)):Y:=l1 (a1.1,(0:Int))
noncomputable def Q0 (k:Nat) (a1:Arg) (mO:(Unit)):Y:=q0 (r1 k a1) a1 mO
theorem qA (k:Nat) (a1:Arg) (mO:(Unit)):df (ag 0 (ay (D.N k [1,1]) D.K0)) a1 mO=Q0 k a1 mO:=
 aU (b:=q0 (s1 k a1) a1 mO) (by kernel_rfl) (by rw[mm];rfl)
noncomputable def s0 (k:Nat) (a1:Arg):(Int)->Y:=λJ=>D.L k [1,0,1,0,0] [0,1,5] [] (ag 0 (ay (D.N k [1,1]) D.K0)) (T0 a1 J)
noncomputable def r0 (k:Nat) (a1:Arg):(Int)->Y:=ak (λw v=>b0 w (Q0 k a1) a1 v) k
theorem aw (k:Nat) (a1:Arg):s0 k a1=r0 k a1:=by
 funext J;have h0:df (ag 0 (ay (D.N k [1,1]) D.K0)) a1=Q0 k a1:=funext λz=>qA k a1 z;refine (av _ _ _ (T0 a1) (λself v=>b0 self (df (ag 0 (ay (D.N k [1,1]) D.K0)) a1) a1 v) (λrec v=>ml k rec (ag 0 (ay (D.N k [1,1]) D.K0)) a1 v) k J).trans ?_;rw[h0];rfl
noncomputable def p (l0:(Int)->Y) (a1:Arg):Y:=l0 (0:Int)
theorem ae (k:Nat) (a1:Arg):@Eq Y (D.W k a1) (p (r0 k a1) a1):=
 aU (b:=p (s0 k a1) a1) (by kernel_rfl) (by rw[aw])
theorem ok:Ok prog 77 D.sig:=au func77 aT (by kernel_rfl) (fc mJ.ok (aj _))
end c_
namespace ee
abbrev Arg:Type:=(List (List UInt8))×Unit
abbrev Out:Type:=(List a8)×Unit
abbrev Y:=Option Out
noncomputable def D:FD:={ fn:=f78,tl:=bd,ps:=[(.ro,(.U (.U u8)))],rs:=[((.U kj),(an (.U kj)))],gl:=[(122,je.D.sig),(123,dy.D.sig),(124,l7.D.sig),(125,l8.D.sig)],lv:=[(3,[0,3,4]),(6,[0,3,4,5])],lx:=[(0,[3]),(2,[0,3,4])] }
noncomputable def aa (a:Arg):Y:=@lift Out λk=>D.W k a
noncomputable def T0 (a1:Arg) (J:(List (List UInt8))×(List a8)×Int):St:={ n:=49,sl:=[(0,.val (.U (.U u8)) J.1),(3,.own (.U kj) (an (.U kj)) [] J.2.1),(4,.val i64 J.2.2)],vr:=[],az:=[] }
noncomputable def S0 (rec:RT Out) (a1:Arg):((List (List UInt8))×(List a8)×Int)->Y:=λJ=>rec (T0 a1 J)
noncomputable def df (K:KT Out) (a1:Arg):(List a8)->Y:=λz=>K (.exit 0) ({ n:=49,sl:=[(3,.own (.U kj) (an (.U kj)) [] z)],vr:=[],az:=[] })
noncomputable def T1 (a1:Arg) (mG:List (List UInt8)) (kK:Int) (mU:(List a8)×Int):St:={ n:=49,sl:=[(0,.val (.U (.U u8)) mG),(3,.own (.U kj) (an (.U kj)) [] mU.1),(4,.val i64 kK),(5,.val i64 mU.2)],vr:=[],az:=[] }
noncomputable def b1 (self:((List a8)×Int)->Y) (e2:(List a8)->Y) (a1:Arg) (mG:List (List UInt8)) (kK:Int) (mU:(List a8)×Int):Y:=if 0<=kK then ((mG[kK.toNat]?).bind λP2=>(je.aa (P2,())).bind λaai=>bif decide (mU.2 < aai.1) then (if 0<=kK then ((mG[kK.toNat]?).bind λHh=>(dy.aa (Hh,mU.2,())).bind λP0=>bif decide ((0:Int) < P0.1) then (if 0<=kK then ((mG[kK.toNat]?).bind λHj=>(l8.aa (Hj,mU.2,())).bind λHk=>(l7.aa (Hk.1,())).bind λKc=>if mU.1.length+[(kK,mU.2,Kc.1,())].length<=cc then (let P3:=mU.1++[(kK,mU.2,Kc.1,())];self (P3,af (mU.2+(1:Int)))) else none) else none) else self (mU.1,af (mU.2+(1:Int)))) else none) else e2 mU.1) else none
noncomputable def q0 (self:((List (List UInt8))×(List a8)×Int)->Y) (e0:(List a8)->Y) (a1:Arg) (mG:List (List UInt8)) (kK:Int) (Ws:(List a8)):Y:=self (mG,Ws,af (kK+(1:Int)))
noncomputable def s1 (k:Nat) (rec:RT Out) (K:KT Out) (a1:Arg):(List (List UInt8))->Int->((List a8)×Int)->Y:=λmG kK=>λmU=>D.L k [1,1,0,1,0,0,1,0,0,1,0,0] [0,3,4,5] [] (ag 2 (ag 1 (ay (D.N k [1,1,0,1,0,0,1,1]) (i7 rec (ff [0,3,4] []) K)))) (T1 a1 mG kK mU)
noncomputable def r1 (k:Nat) (self:((List (List UInt8))×(List a8)×Int)->Y) (e0:(List a8)->Y) (a1:Arg):(List (List UInt8))->Int->((List a8)×Int)->Y:=λmG kK=>ak (λw v=>b1 w (q0 self e0 a1 mG kK) a1 mG kK v) k
theorem mm (k:Nat) (rec:RT Out) (K:KT Out) (a1:Arg):s1 k rec K a1=r1 k (S0 rec a1) (df K a1) a1:=
 funext λmG=>funext λkK=>funext λmU=>av _ _ _ (T1 a1 mG kK) _ (λrec v=>by kernel_rfl) k mU
noncomputable def b0 (self:((List (List UInt8))×(List a8)×Int)->Y) (e0:(List a8)->Y) (l1:(List (List UInt8))->Int->((List a8)×Int)->Y) (a1:Arg) (J:(List (List UInt8))×(List a8)×Int):Y:=bif decide (J.2.2 < (J.1.length:Int)) then (l1 J.1 J.2.2 (J.2.1,(0:Int))) else e0 J.2.1
noncomputable def B0 (k:Nat) (self:((List (List UInt8))×(List a8)×Int)->Y) (e0:(List a8)->Y) (a1:Arg) (J:(List (List UInt8))×(List a8)×Int):Y:=b0 self e0 (r1 k self e0 a1) a1 J
theorem ml (k:Nat) (rec:RT Out) (K:KT Out) (a1:Arg) (J:(List (List UInt8))×(List a8)×Int):D.N k [1,1,0,1,0,0] (T0 a1 J) (i7 rec (ff [0,3,4] []) K)=B0 k (S0 rec a1) (df K a1) a1 J:=
 aU (b:=b0 (S0 rec a1) (df K a1) (s1 k rec K a1) a1 J) (by kernel_rfl) (by rw[mm];rfl)
noncomputable def q1 (a1:Arg) (yY:(List a8)):Y:=some (yY,())
theorem td (k:Nat) (a1:Arg) (yY:(List a8)):df (ag 0 (ay (D.N k [1,1,1]) D.K0)) a1 yY=q1 a1 yY:=by kernel_rfl
noncomputable def s0 (k:Nat) (a1:Arg):((List (List UInt8))×(List a8)×Int)->Y:=λJ=>D.L k [1,1,0,1,0,0] [0,3,4] [] (ag 0 (ay (D.N k [1,1,1]) D.K0)) (T0 a1 J)
noncomputable def r0 (k:Nat) (a1:Arg):((List (List UInt8))×(List a8)×Int)->Y:=ak (λw v=>B0 k w (q1 a1) a1 v) k
theorem aw (k:Nat) (a1:Arg):s0 k a1=r0 k a1:=by
 funext J;have h0:df (ag 0 (ay (D.N k [1,1,1]) D.K0)) a1=q1 a1:=funext λz=>td k a1 z;refine (av _ _ _ (T0 a1) (λself v=>B0 k self (df (ag 0 (ay (D.N k [1,1,1]) D.K0)) a1) a1 v) (λrec v=>ml k rec (ag 0 (ay (D.N k [1,1,1]) D.K0)) a1 v) k J).trans ?_;rw[h0];rfl
noncomputable def p (l0:((List (List UInt8))×(List a8)×Int)->Y) (a1:Arg):Y:=l0 (a1.1,([]:List a8),(0:Int))
theorem ae (k:Nat) (a1:Arg):@Eq Y (D.W k a1) (p (r0 k a1) a1):=
 aU (b:=p (s0 k a1) a1) (by kernel_rfl) (by rw[aw])
theorem ok:Ok prog 78 D.sig:=au func78 aT (by kernel_rfl) (fc je.ok (fc dy.ok (fc l7.ok (fc l8.ok (aj _)))))
end ee
namespace kS
abbrev Arg:Type:=(List (List UInt8))×Unit
abbrev Out:Type:=(List a8)×Unit
abbrev Y:=Option Out
noncomputable def D:FD:={ fn:=f79,tl:=bd,ps:=[(.ro,(.U (.U u8)))],rs:=[((.U kj),(an (.U kj)))],gl:=[(78,ee.D.sig),(126,mJ.D.sig)],lv:=[(4,[0,3,4,5])],lx:=[(0,[3]),(1,[0,3,4,5])] }
noncomputable def aa (a:Arg):Y:=@lift Out λk=>D.W k a
noncomputable def T0 (a1:Arg) (lS:List a8) (bn:(List a8)×Int):St:={ n:=50,sl:=[(0,.val (.U (.U u8)) a1.1),(3,.own (.U kj) (an (.U kj)) [] bn.1),(4,.own (.U kj) (an (.U kj)) [] lS),(5,.val i64 bn.2)],vr:=[],az:=[] }
noncomputable def b0 (self:((List a8)×Int)->Y) (e0:(List a8)->Y) (a1:Arg) (lS:List a8) (bn:(List a8)×Int):Y:=bif decide (bn.2 < (lS.length:Int)) then (if 0<=bn.2/\bn.2 < (lS.length:Int) then ((lS[bn.2.toNat]?).bind λeo=>bif decide (eo.2.2.1.2.1=(2:Int)) then (self (bn.1,af (bn.2+(1:Int)))) else let LS:=λ(Zb:a8)=>(if bn.1.length+[Zb].length<=cc then (self (bn.1++[Zb],af (bn.2+(1:Int)))) else none:Y);bif decide (eo.2.2.1.2.1=(1:Int)) then ((mJ.aa (a1.1,eo.2.2.1.2.2.1,eo.2.2.1.2.2.2.1,())).bind λph=>LS (eo.1,eo.2.1,(eo.2.2.1.1,eo.2.2.1.2.1,eo.2.2.1.2.2.1,eo.2.2.1.2.2.2.1,ph.1.2.2.2.2.1,eo.2.2.1.2.2.2.2.2),eo.2.2.2)) else LS eo) else none) else e0 bn.1
noncomputable def q0 (a1:Arg) (lS:List a8) (Zc:(List a8)):Y:=some (Zc,())
noncomputable def s0 (k:Nat) (a1:Arg):(List a8)->((List a8)×Int)->Y:=λlS=>λbn=>D.L k [1,1,1,0,1,0,0] [0,3,4,5] [] (ag 0 (ay (D.N k [1,1,1,1]) D.K0)) (T0 a1 lS bn)
noncomputable def r0 (k:Nat) (a1:Arg):(List a8)->((List a8)×Int)->Y:=λlS=>ak (λw v=>b0 w (q0 a1 lS) a1 lS v) k
theorem aw (k:Nat) (a1:Arg):s0 k a1=r0 k a1:=
 funext λlS=>funext λbn=>av _ _ _ (T0 a1 lS) _ (λrec v=>by kernel_rfl) k bn
noncomputable def p (l0:(List a8)->((List a8)×Int)->Y) (a1:Arg):Y:=(ee.aa (a1.1,())).bind λr2=>l0 r2.1 (([]:List a8),(0:Int))
theorem ae (k:Nat) (a1:Arg):@Eq Y (D.W k a1) (p (r0 k a1) a1):=
 aU (b:=p (s0 k a1) a1) (by kernel_rfl) (by rw[aw])
theorem ok:Ok prog 79 D.sig:=au func79 aT (by kernel_rfl) (fc ee.ok (fc mJ.ok (aj _)))
end kS
namespace dp
abbrev Arg:Type:=(List (List UInt8))×Unit
abbrev Out:Type:=Int×Unit
abbrev Y:=Option Out
noncomputable def D:FD:={ fn:=f40,tl:=bd,ps:=[(.ro,(.U (.U u8)))],rs:=[(i64,(ax i64))],gl:=[(76,fl.D.sig),(77,c_.D.sig),(78,ee.D.sig),(79,kS.D.sig)],lv:=[(11,[5,6]),(14,[5,6,7])],lx:=[(0,[]),(2,[5,6])],od:=[(16,[0,1,2,3,4,5,6,7,8,9,10,11,12,13,14,15,16,17,18,19,20,21,22,23,24,25,26,27,28,29,30,31])] }
noncomputable def aa (a:Arg):Y:=@lift Out λk=>D.W k a
noncomputable def T0 (a1:Arg) (tg:(List a8)×Int):St:={ n:=68,sl:=[(5,.own (.U kj) (an (.U kj)) [] tg.1),(6,.val i64 tg.2)],vr:=[],az:=[] }
noncomputable def S0 (rec:RT Out) (a1:Arg):((List a8)×Int)->Y:=λtg=>rec (T0 a1 tg)
noncomputable def df (K:KT Out) (a1:Arg):(Unit)->Y:=λz=>K (.exit 0) ({ n:=68,sl:=[],vr:=[],az:=[] })
noncomputable def T1 (a1:Arg) (it:List a8) (ek:Int) (th:Int):St:={ n:=68,sl:=[(5,.own (.U kj) (an (.U kj)) [] it),(6,.val i64 ek),(7,.val i64 th)],vr:=[],az:=[] }
noncomputable def b1 (self:Int->Y) (e2:(Unit)->Y) (a1:Arg) (it:List a8) (ek:Int) (th:Int):Y:=bif decide (th < ek) then (if 0<=ek/\ek < (it.length:Int) then ((it[ek.toNat]?).bind λHj=>if 0<=th/\th < (it.length:Int) then ((it[th.toNat]?).bind λAL=>bif decide (Hj.2.2.1.2.2.2.2.1.1=AL.2.2.1.2.2.2.2.1.1) then (if 0<=ek/\ek < (it.length:Int) then ((it[ek.toNat]?).bind λAK=>if 0<=th/\th < (it.length:Int) then ((it[th.toNat]?).bind λaaj=>bif decide (AK.2.2.1.2.2.2.2.1.2.1=aaj.2.2.1.2.2.2.2.1.2.1) then (some ((8:Int),())) else self (af (th+(1:Int)))) else none) else none) else self (af (th+(1:Int)))) else none) else none) else e2 ()
noncomputable def q0 (self:((List a8)×Int)->Y) (e0:(Unit)->Y) (a1:Arg) (it:List a8) (ek:Int) (Ws:(Unit)):Y:=self (it,af (ek+(1:Int)))
noncomputable def s1 (k:Nat) (rec:RT Out) (K:KT Out) (a1:Arg):(List a8)->Int->(Int)->Y:=λit ek=>λth=>D.L k [1,1,1,1,1,0,1,0,0,1,0,0,1,0,0] [5,6,7] [] (ag 2 (ag 1 (ay (D.N k [1,1,1,1,1,0,1,0,0,1,1]) (i7 rec (ff [5,6] []) K)))) (T1 a1 it ek th)
noncomputable def r1 (k:Nat) (self:((List a8)×Int)->Y) (e0:(Unit)->Y) (a1:Arg):(List a8)->Int->(Int)->Y:=λit ek=>ak (λw v=>b1 w (q0 self e0 a1 it ek) a1 it ek v) k
theorem mm (k:Nat) (rec:RT Out) (K:KT Out) (a1:Arg):s1 k rec K a1=r1 k (S0 rec a1) (df K a1) a1:=
 funext λit=>funext λek=>funext λth=>av _ _ _ (T1 a1 it ek) _ (λrec v=>by kernel_rfl) k th
noncomputable def b0 (self:((List a8)×Int)->Y) (e0:(Unit)->Y) (l1:(List a8)->Int->(Int)->Y) (a1:Arg) (tg:(List a8)×Int):Y:=bif decide (tg.2 < (tg.1.length:Int)) then (l1 tg.1 tg.2 (0:Int)) else e0 ()
noncomputable def B0 (k:Nat) (self:((List a8)×Int)->Y) (e0:(Unit)->Y) (a1:Arg) (tg:(List a8)×Int):Y:=b0 self e0 (r1 k self e0 a1) a1 tg
theorem ml (k:Nat) (rec:RT Out) (K:KT Out) (a1:Arg) (tg:(List a8)×Int):D.N k [1,1,1,1,1,0,1,0,0] (T0 a1 tg) (i7 rec (ff [5,6] []) K)=B0 k (S0 rec a1) (df K a1) a1 tg:=
 aU (b:=b0 (S0 rec a1) (df K a1) (s1 k rec K a1) a1 tg) (by kernel_rfl) (by rw[mm];rfl)
noncomputable def q1 (a1:Arg) (yY:(Unit)):Y:=some ((0:Int),())
theorem td (k:Nat) (a1:Arg) (yY:(Unit)):df (ag 0 (ay (D.N k [1,1,1,1,1,1]) D.K0)) a1 yY=q1 a1 yY:=by kernel_rfl
noncomputable def s0 (k:Nat) (a1:Arg):((List a8)×Int)->Y:=λtg=>D.L k [1,1,1,1,1,0,1,0,0] [5,6] [] (ag 0 (ay (D.N k [1,1,1,1,1,1]) D.K0)) (T0 a1 tg)
noncomputable def r0 (k:Nat) (a1:Arg):((List a8)×Int)->Y:=ak (λw v=>B0 k w (q1 a1) a1 v) k
theorem aw (k:Nat) (a1:Arg):s0 k a1=r0 k a1:=by
 funext tg;have h0:df (ag 0 (ay (D.N k [1,1,1,1,1,1]) D.K0)) a1=q1 a1:=funext λz=>td k a1 z;refine (av _ _ _ (T0 a1) (λself v=>B0 k self (df (ag 0 (ay (D.N k [1,1,1,1,1,1]) D.K0)) a1) a1 v) (λrec v=>ml k rec (ag 0 (ay (D.N k [1,1,1,1,1,1]) D.K0)) a1 v) k tg).trans ?_;rw[h0];rfl
noncomputable def p (l0:((List a8)×Int)->Y) (a1:Arg):Y:=bif decide ((12:Int) < (a1.1.length:Int)) then (some ((2:Int),())) else (fl.aa (a1.1,())).bind λr2=>bif !decide (r2.1=(0:Int)) then (some (r2.1,())) else (ee.aa (a1.1,())).bind λr3=>(c_.aa (r3.1,a1.1,())).bind λr4=>bif !decide (r4.1=(0:Int)) then (some (r4.1,())) else (kS.aa (a1.1,())).bind λr5=>l0 (r5.1,(0:Int))
theorem ae (k:Nat) (a1:Arg):@Eq Y (D.W k a1) (p (r0 k a1) a1):=
 aU (b:=p (s0 k a1) a1) (by kernel_rfl) (by rw[aw])
theorem ok:Ok prog 40 D.sig:=au func40 aT (by kernel_rfl) (fc fl.ok (fc c_.ok (fc ee.ok (fc kS.ok (aj _)))))
end dp
namespace mA
abbrev Arg:Type:=Row×Row×Unit
abbrev Out:Type:=Bool×Unit
noncomputable def D:FD:={ fn:=f127,tl:=bd,ps:=[(.ro,(.ptr ba)),(.ro,(.ptr ba))],rs:=[(.bool,(ax .bool))],od:=[(1,[0,1,2,3,4,5,6,7,8,9,10,11,12,13,14,15,16,17,18,19,20,21,22,23,24,25,26,27,28,29,30,31])] }
noncomputable def aa (a:Arg):Option Out:=@lift Out λk=>D.W k a
noncomputable def p (a1:Arg):Option Out:=bif decide (a1.1.1 < a1.2.1.1) then (some (true,())) else bif decide (a1.1.1=a1.2.1.1) then (some (decide (a1.1.2.1 < a1.2.1.2.1),())) else some (false,())
theorem ae (k:Nat) (a1:Arg):@Eq (Option Out) (D.W k a1) (p a1):=by kernel_rfl
theorem ok:Ok prog 127 D.sig:=au func127 aT (by kernel_rfl) (aj _)
end mA
namespace i_
abbrev Arg:Type:=(List Row)×Row×Unit
abbrev Out:Type:=(List Row)×Unit
abbrev Y:=Option Out
noncomputable def D:FD:={ fn:=f80,tl:=bd,ps:=[(.ro,(.U ba)),(.ro,ba)],rs:=[((.U ba),(an (.U ba)))],gl:=[(127,mA.D.sig)],lv:=[(2,[0,3,5])],lx:=[(0,[0,3,5])],od:=[(5,[0,1,4,5,6,2,3,7,8])] }
noncomputable def aa (a:Arg):Y:=@lift Out λk=>D.W k a
noncomputable def T0 (a1:Arg) (J:Int):St:={ n:=32,sl:=[(0,.val (.U ba) a1.1),(3,.box ba (ax ba) [] a1.2.1),(5,.val i64 J)],vr:=[],az:=[] }
noncomputable def b0 (self:Int->Y) (e0:Int->Y) (a1:Arg) (J:Int):Y:=bif decide (J < (a1.1.length:Int)) then (if 0<=J then ((a1.1[J.toNat]?).bind λa7=>(mA.aa (a7,a1.2.1,())).bind λdv=>bif dv.1 then (self (af (J+(1:Int)))) else e0 J) else none) else e0 J
noncomputable def q0 (a1:Arg) (dz:Int):Y:=if 0<=dz/\dz<=(a1.1.length:Int) then (if ([]:List Row).length+((a1.1.take dz.toNat).drop 0).length<=cc then (let sj:=([]:List Row)++((a1.1.take dz.toNat).drop 0);if 0<=dz/\dz<=(a1.1.length:Int) then (if sj.length+[a1.2.1].length<=cc then (if (sj++[a1.2.1]).length+((a1.1.take a1.1.length).drop dz.toNat).length<=cc then (let DW:=(sj++[a1.2.1])++((a1.1.take a1.1.length).drop dz.toNat);some (DW,())) else none) else none) else none) else none) else none
noncomputable def s0 (k:Nat) (a1:Arg):(Int)->Y:=λJ=>D.L k [1,1,0,0,0] [0,3,5] [] (ag 0 (ay (D.N k [1,1,1]) D.K0)) (T0 a1 J)
noncomputable def r0 (k:Nat) (a1:Arg):(Int)->Y:=ak (λw v=>b0 w (q0 a1) a1 v) k
theorem aw (k:Nat) (a1:Arg):s0 k a1=r0 k a1:=
 funext λJ=>av _ _ _ (T0 a1) _ (λrec v=>by kernel_rfl) k J
noncomputable def p (l0:(Int)->Y) (a1:Arg):Y:=l0 (0:Int)
theorem ae (k:Nat) (a1:Arg):@Eq Y (D.W k a1) (p (r0 k a1) a1):=
 aU (b:=p (s0 k a1) a1) (by kernel_rfl) (by rw[aw])
theorem ok:Ok prog 80 D.sig:=au func80 aT (by kernel_rfl) (fc mA.ok (aj _))
end i_
namespace h_
abbrev Arg:Type:=(List (List UInt8))×Unit
abbrev Out:Type:=(List Row)×Unit
abbrev Y:=Option Out
noncomputable def D:FD:={ fn:=f41,tl:=bd,ps:=[(.ro,(.U (.U u8)))],rs:=[((.U ba),(an (.U ba)))],gl:=[(79,kS.D.sig),(80,i_.D.sig)],lv:=[(4,[3,4,5])],lx:=[(0,[3])] }
noncomputable def aa (a:Arg):Y:=@lift Out λk=>D.W k a
noncomputable def T0 (a1:Arg) (lS:List a8) (bn:(List Row)×Int):St:={ n:=24,sl:=[(3,.own (.U ba) (an (.U ba)) [] bn.1),(4,.own (.U kj) (an (.U kj)) [] lS),(5,.val i64 bn.2)],vr:=[],az:=[] }
noncomputable def b0 (self:((List Row)×Int)->Y) (e0:(List Row)->Y) (a1:Arg) (lS:List a8) (bn:(List Row)×Int):Y:=bif decide (bn.2 < (lS.length:Int)) then (if 0<=bn.2/\bn.2 < (lS.length:Int) then ((lS[bn.2.toNat]?).bind λeo=>(i_.aa (bn.1,eo.2.2.1.2.2.2.2.1,())).bind λph=>self (ph.1,af (bn.2+(1:Int)))) else none) else e0 bn.1
noncomputable def q0 (a1:Arg) (lS:List a8) (mO:(List Row)):Y:=some (mO,())
noncomputable def s0 (k:Nat) (a1:Arg):(List a8)->((List Row)×Int)->Y:=λlS=>λbn=>D.L k [1,1,1,0,1,0,0] [3,4,5] [] (ag 0 (ay (D.N k [1,1,1,1]) D.K0)) (T0 a1 lS bn)
noncomputable def r0 (k:Nat) (a1:Arg):(List a8)->((List Row)×Int)->Y:=λlS=>ak (λw v=>b0 w (q0 a1 lS) a1 lS v) k
theorem aw (k:Nat) (a1:Arg):s0 k a1=r0 k a1:=
 funext λlS=>funext λbn=>av _ _ _ (T0 a1 lS) _ (λrec v=>by kernel_rfl) k bn
noncomputable def p (l0:(List a8)->((List Row)×Int)->Y) (a1:Arg):Y:=(kS.aa (a1.1,())).bind λr2=>l0 r2.1 (([]:List Row),(0:Int))
theorem ae (k:Nat) (a1:Arg):@Eq Y (D.W k a1) (p (r0 k a1) a1):=
 aU (b:=p (s0 k a1) a1) (by kernel_rfl) (by rw[aw])
theorem ok:Ok prog 41 D.sig:=au func41 aT (by kernel_rfl) (fc kS.ok (fc i_.ok (aj _)))
end h_
namespace kT
abbrev Arg:Type:=(List Row)×Unit
abbrev Out:Type:=Int×Unit
abbrev Y:=Option Out
noncomputable def D:FD:={ fn:=f81,tl:=bd,ps:=[(.ro,(.U ba))],rs:=[(i64,(ax i64))],gl:=[(127,mA.D.sig),(128,jg.D.sig)],lv:=[(4,[0,3])],lx:=[(0,[])],od:=[(9,[0,1,2,3,4,5,6,7,8,9,10,11,12])] }
noncomputable def aa (a:Arg):Y:=@lift Out λk=>D.W k a
noncomputable def T0 (a1:Arg) (J:Int):St:={ n:=34,sl:=[(0,.val (.U ba) a1.1),(3,.val i64 J)],vr:=[],az:=[] }
noncomputable def b0 (self:Int->Y) (e0:(Unit)->Y) (a1:Arg) (J:Int):Y:=bif decide (J < (a1.1.length:Int)) then (if 0<=J then ((a1.1[J.toNat]?).bind λa7=>(jg.aa (a7,())).bind λdv=>bif !decide (dv.1=(0:Int)) then (some (dv.1,())) else bif decide ((0:Int) < J) then (if 0<=af (J - (1:Int)) then ((a1.1[(af (J - (1:Int))).toNat]?).bind λeo=>if 0<=J then ((a1.1[J.toNat]?).bind λqz=>(mA.aa (eo,qz,())).bind λmP=>bif !mP.1 then (some ((1:Int),())) else self (af (J+(1:Int)))) else none) else none) else self (af (J+(1:Int)))) else none) else e0 ()
noncomputable def q0 (a1:Arg) (pi:(Unit)):Y:=some ((0:Int),())
noncomputable def s0 (k:Nat) (a1:Arg):(Int)->Y:=λJ=>D.L k [1,1,0,1,0,0] [0,3] [] (ag 0 (ay (D.N k [1,1,1]) D.K0)) (T0 a1 J)
noncomputable def r0 (k:Nat) (a1:Arg):(Int)->Y:=ak (λw v=>b0 w (q0 a1) a1 v) k
theorem aw (k:Nat) (a1:Arg):s0 k a1=r0 k a1:=
 funext λJ=>av _ _ _ (T0 a1) _ (λrec v=>by kernel_rfl) k J
noncomputable def p (l0:(Int)->Y) (a1:Arg):Y:=bif decide ((60:Int) < (a1.1.length:Int)) then (some ((2:Int),())) else l0 (0:Int)
theorem ae (k:Nat) (a1:Arg):@Eq Y (D.W k a1) (p (r0 k a1) a1):=
 aU (b:=p (s0 k a1) a1) (by kernel_rfl) (by rw[aw])
theorem ok:Ok prog 81 D.sig:=au func81 aT (by kernel_rfl) (fc mA.ok (fc jg.ok (aj _)))
end kT
namespace o7
abbrev Arg:Type:=Change×Unit
abbrev Out:Type:=Int×Unit
noncomputable def D:FD:={ fn:=f211,tl:=bd,ps:=[(.ro,(.ptr ai))],rs:=[(i64,(ax i64))],gl:=[(128,jg.D.sig)],od:=[(1,[0,1,2,3,4,5,6,7,8,9,10,11,12,13,14,15,16,17,18,19,20,21,22,23,24,25,26,27,28,29,30,31,32,33,34,35,36,37,38,39,40,41,42,43,44,45,46,47,48,49])] }
noncomputable def aa (a:Arg):Option Out:=@lift Out λk=>D.W k a
noncomputable def p (a1:Arg):Option Out:=let j5:Option Out:=bif a1.1.1 then ((jg.aa (a1.1.2.1,())).bind λr6=>bif !decide (r6.1=(0:Int)) then (some (r6.1,())) else bif a1.1.2.2.1 then ((jg.aa (a1.1.2.2.2.1,())).bind λr8=>some (r8.1,())) else some ((0:Int),())) else bif a1.1.2.2.1 then ((jg.aa (a1.1.2.2.2.1,())).bind λr9=>some (r9.1,())) else some ((0:Int),());bif !a1.1.1 then (bif !a1.1.2.2.1 then (some ((1:Int),())) else bif a1.1.1 then (bif a1.1.2.2.1 then (bif !decide (a1.1.2.1.1=a1.1.2.2.2.1.1) then (some ((1:Int),())) else bif !decide (a1.1.2.1.2.1=a1.1.2.2.2.1.2.1) then (some ((1:Int),())) else j5) else j5) else j5) else bif a1.1.1 then (bif a1.1.2.2.1 then (bif !decide (a1.1.2.1.1=a1.1.2.2.2.1.1) then (some ((1:Int),())) else bif !decide (a1.1.2.1.2.1=a1.1.2.2.2.1.2.1) then (some ((1:Int),())) else j5) else j5) else j5
theorem ae (k:Nat) (a1:Arg):@Eq (Option Out) (D.W k a1) (p a1):=by kernel_rfl
theorem ok:Ok prog 211 D.sig:=au func211 aT (by kernel_rfl) (fc jg.ok (aj _))
end o7
namespace kt
abbrev Arg:Type:=Change×Unit
abbrev Out:Type:=Int×Unit
noncomputable def D:FD:={ fn:=f181,tl:=bd,ps:=[(.ro,(.ptr ai))],rs:=[(i64,(ax i64))],gl:=[(211,o7.D.sig)],od:=[(4,[0,1,2,3,4,5,6,7,8,9,10,11,12,13,14,15,16,17,18,19,20])] }
noncomputable def aa (a:Arg):Option Out:=@lift Out λk=>D.W k a
noncomputable def p (a1:Arg):Option Out:=(o7.aa (a1.1,())).bind λr2=>bif !decide (r2.1=(0:Int)) then (some (r2.1,())) else bif a1.1.1 then (bif a1.1.2.2.1 then (bif (Ty.eq ba a1.1.2.1 a1.1.2.2.2.1) then (some ((1:Int),())) else some ((0:Int),())) else some ((0:Int),())) else some ((0:Int),())
theorem ae (k:Nat) (a1:Arg):@Eq (Option Out) (D.W k a1) (p a1):=by kernel_rfl
theorem ok:Ok prog 181 D.sig:=au func181 aT (by kernel_rfl) (fc o7.ok (aj _))
end kt
namespace jr
abbrev Arg:Type:=Tx×Key×Unit
abbrev Out:Type:=Bool×Unit
abbrev Y:=Option Out
noncomputable def D:FD:={ fn:=f182,tl:=bd,ps:=[(.ro,(.ptr de)),(.ro,bh)],rs:=[(.bool,(ax .bool))],lv:=[(2,[0,3,5])],lx:=[(0,[])],od:=[(4,[0,1,2,3,4,5,6,7,8])] }
noncomputable def aa (a:Arg):Y:=@lift Out λk=>D.W k a
noncomputable def T0 (a1:Arg) (J:Int):St:={ n:=24,sl:=[(0,.cp de a1.1),(3,.box bh (ax bh) [] a1.2.1),(5,.val i64 J)],vr:=[],az:=[] }
noncomputable def b0 (self:Int->Y) (e0:(Unit)->Y) (a1:Arg) (J:Int):Y:=bif decide (J < (a1.1.2.2.2.1.length:Int)) then (if 0<=J then ((a1.1.2.2.2.1[J.toNat]?).bind λa7=>bif (Ty.eq bh a7 a1.2.1) then (some (true,())) else self (af (J+(1:Int)))) else none) else e0 ()
noncomputable def q0 (a1:Arg) (oC:(Unit)):Y:=some (false,())
noncomputable def s0 (k:Nat) (a1:Arg):(Int)->Y:=λJ=>D.L k [1,0,1,0,0] [0,3,5] [] (ag 0 (ay (D.N k [1,1]) D.K0)) (T0 a1 J)
noncomputable def r0 (k:Nat) (a1:Arg):(Int)->Y:=ak (λw v=>b0 w (q0 a1) a1 v) k
theorem aw (k:Nat) (a1:Arg):s0 k a1=r0 k a1:=
 funext λJ=>av _ _ _ (T0 a1) _ (λrec v=>by kernel_rfl) k J
noncomputable def p (l0:(Int)->Y) (a1:Arg):Y:=l0 (0:Int)
theorem ae (k:Nat) (a1:Arg):@Eq Y (D.W k a1) (p (r0 k a1) a1):=
 aU (b:=p (s0 k a1) a1) (by kernel_rfl) (by rw[aw])
theorem ok:Ok prog 182 D.sig:=au func182 aT (by kernel_rfl) (aj _)
end jr
namespace mn
abbrev Arg:Type:=Change×Unit
abbrev Out:Type:=Int×Int×Unit
noncomputable def D:FD:={ fn:=f212,tl:=bd,ps:=[(.ro,(.ptr ai))],rs:=[(i64,(ax i64)),(i64,(ax i64))],od:=[(2,[0,1,2,3,4,5,6,7,8,9,10,11]),(3,[0,1,2,3,4,5,6,7,8,9,10,11])] }
noncomputable def aa (a:Arg):Option Out:=@lift Out λk=>D.W k a
noncomputable def p (a1:Arg):Option Out:=bif a1.1.2.2.1 then (some (a1.1.2.2.2.1.1,a1.1.2.2.2.1.2.1,())) else some (a1.1.2.1.1,a1.1.2.1.2.1,())
theorem ae (k:Nat) (a1:Arg):@Eq (Option Out) (D.W k a1) (p a1):=by kernel_rfl
theorem ok:Ok prog 212 D.sig:=au func212 aT (by kernel_rfl) (aj _)
end mn
namespace o8
abbrev Arg:Type:=Change×Unit
abbrev Out:Type:=Key×Unit
noncomputable def D:FD:={ fn:=f183,tl:=bd,ps:=[(.ro,(.ptr ai))],rs:=[(bh,(ax bh))],gl:=[(212,mn.D.sig)] }
noncomputable def aa (a:Arg):Option Out:=@lift Out λk=>D.W k a
noncomputable def p (a1:Arg):Option Out:=(mn.aa (a1.1,())).bind λr2=>some ((r2.1,r2.2.1,()),())
theorem ae (k:Nat) (a1:Arg):@Eq (Option Out) (D.W k a1) (p a1):=by kernel_rfl
theorem ok:Ok prog 183 D.sig:=au func183 aT (by kernel_rfl) (fc mn.ok (aj _))
end o8
namespace mB
abbrev Arg:Type:=Tx×Unit
abbrev Out:Type:=Int×Unit
abbrev Y:=Option Out
noncomputable def D:FD:={ fn:=f129,tl:=bd,ps:=[(.ro,(.ptr de))],rs:=[(i64,(ax i64))],gl:=[(181,kt.D.sig),(182,jr.D.sig),(183,o8.D.sig)],lv:=[(2,[0,3])],lx:=[(0,[])] }
noncomputable def aa (a:Arg):Y:=@lift Out λk=>D.W k a
noncomputable def T0 (a1:Arg) (J:Int):St:={ n:=34,sl:=[(0,.cp de a1.1),(3,.val i64 J)],vr:=[],az:=[] }
noncomputable def b0 (self:Int->Y) (e0:(Unit)->Y) (a1:Arg) (J:Int):Y:=bif decide (J < (a1.1.2.1.length:Int)) then (if 0<=J then ((a1.1.2.1[J.toNat]?).bind λa7=>(kt.aa (a7,())).bind λdv=>bif !decide (dv.1=(0:Int)) then (some (dv.1,())) else if 0<=J then ((a1.1.2.1[J.toNat]?).bind λeo=>(o8.aa (eo,())).bind λph=>(jr.aa (a1.1,ph.1,())).bind λmP=>bif !mP.1 then (some ((8:Int),())) else self (af (J+(1:Int)))) else none) else none) else e0 ()
noncomputable def q0 (a1:Arg) (pi:(Unit)):Y:=some ((0:Int),())
noncomputable def s0 (k:Nat) (a1:Arg):(Int)->Y:=λJ=>D.L k [1,0,1,0,0] [0,3] [] (ag 0 (ay (D.N k [1,1]) D.K0)) (T0 a1 J)
noncomputable def r0 (k:Nat) (a1:Arg):(Int)->Y:=ak (λw v=>b0 w (q0 a1) a1 v) k
theorem aw (k:Nat) (a1:Arg):s0 k a1=r0 k a1:=
 funext λJ=>av _ _ _ (T0 a1) _ (λrec v=>by kernel_rfl) k J
noncomputable def p (l0:(Int)->Y) (a1:Arg):Y:=l0 (0:Int)
theorem ae (k:Nat) (a1:Arg):@Eq Y (D.W k a1) (p (r0 k a1) a1):=
 aU (b:=p (s0 k a1) a1) (by kernel_rfl) (by rw[aw])
theorem ok:Ok prog 129 D.sig:=au func129 aT (by kernel_rfl) (fc kt.ok (fc jr.ok (fc o8.ok (aj _))))
end mB
namespace qR
abbrev Arg:Type:=Key×Unit
abbrev Out:Type:=Bool×Unit
noncomputable def D:FD:={ fn:=f184,tl:=bd,ps:=[(.ro,(.ptr bh))],rs:=[(.bool,(ax .bool))],gl:=[(39,bu.D.sig)] }
noncomputable def aa (a:Arg):Option Out:=@lift Out λk=>D.W k a
noncomputable def p (a1:Arg):Option Out:=(bu.aa (a1.1.1,(0:Int),(3:Int),())).bind λr2=>bif r2.1 then ((bu.aa (a1.1.2.1,(1:Int),(99:Int),())).bind λr3=>some (r3.1,())) else some (false,())
theorem ae (k:Nat) (a1:Arg):@Eq (Option Out) (D.W k a1) (p a1):=by kernel_rfl
theorem ok:Ok prog 184 D.sig:=au func184 aT (by kernel_rfl) (fc bu.ok (aj _))
end qR
namespace cw
abbrev Arg:Type:=Tx×Unit
abbrev Out:Type:=Int×Unit
abbrev Y:=Option Out
noncomputable def D:FD:={ fn:=f130,tl:=bd,ps:=[(.ro,(.ptr de))],rs:=[(i64,(ax i64))],gl:=[(39,bu.D.sig),(184,qR.D.sig)],lv:=[(4,[0,3]),(9,[0,4]),(14,[0,4,5])],lx:=[(0,[0]),(2,[]),(4,[0,4])],od:=[(6,[0,1,2,3,4,5,6,7,8,9,10,11,12,13,14,15,16,17,18,19,20,21,22,23,24,25,26,27,28,29,30,31,32,33,34,35]),(16,[0,1,2,3,4,5,6,7,8,9,10,11,12,13,14])],ar:=[(6,[3,6,10,21,24,28,32])] }
noncomputable def aa (a:Arg):Y:=@lift Out λk=>D.W k a
noncomputable def T0 (a1:Arg) (J:Int):St:={ n:=102,sl:=[(0,.cp de a1.1),(3,.val i64 J)],vr:=[],az:=[] }
noncomputable def S0 (rec:RT Out) (a1:Arg):(Int)->Y:=λJ=>rec (T0 a1 J)
noncomputable def df (K:KT Out) (a1:Arg):(Unit)->Y:=λz=>K (.exit 0) ({ n:=102,sl:=[(0,.cp de a1.1)],vr:=[],az:=[] })
noncomputable def b0 (self:Int->Y) (e0:(Unit)->Y) (a1:Arg) (J:Int):Y:=bif decide (J < (a1.1.2.2.1.length:Int)) then (if 0<=J then ((a1.1.2.2.1[J.toNat]?).bind λa7=>(bu.aa (a7,(0:Int),(a1.1.2.1.length:Int),())).bind λdv=>bif !dv.1 then (some ((3:Int),())) else bif decide ((0:Int) < J) then (if 0<=J then ((a1.1.2.2.1[J.toNat]?).bind λeo=>if 0<=af (J - (1:Int)) then ((a1.1.2.2.1[(af (J - (1:Int))).toNat]?).bind λqz=>bif decide (eo < qz) then (some ((3:Int),())) else self (af (J+(1:Int)))) else none) else none) else self (af (J+(1:Int)))) else none) else e0 ()
theorem ml (k:Nat) (rec:RT Out) (K:KT Out) (a1:Arg) (J:Int):D.N k [1,1,0,1,0,0] (T0 a1 J) (i7 rec (ff [0,3] []) K)=b0 (S0 rec a1) (df K a1) a1 J:=by kernel_rfl
noncomputable def T1 (a1:Arg) (c7:Tx×Int):St:={ n:=102,sl:=[(0,.cp de c7.1),(4,.val i64 c7.2)],vr:=[],az:=[] }
noncomputable def S1 (rec:RT Out) (a1:Arg):(Tx×Int)->Y:=λc7=>rec (T1 a1 c7)
noncomputable def jq (K:KT Out) (a1:Arg):(Unit)->Y:=λz=>K (.exit 2) ({ n:=102,sl:=[],vr:=[],az:=[] })
noncomputable def T2 (a1:Arg) (gb:Tx) (dO:Int) (lL:Int):St:={ n:=102,sl:=[(0,.cp de gb),(4,.val i64 dO),(5,.val i64 lL)],vr:=[],az:=[] }
noncomputable def b2 (self:Int->Y) (e4:(Unit)->Y) (a1:Arg) (gb:Tx) (dO:Int) (lL:Int):Y:=bif decide (lL < dO) then (if 0<=lL then ((gb.2.2.2.1[lL.toNat]?).bind λP4=>if 0<=dO then ((gb.2.2.2.1[dO.toNat]?).bind λaak=>bif (Ty.eq bh P4 aak) then (some ((6:Int),())) else self (af (lL+(1:Int)))) else none) else none) else e4 ()
noncomputable def q1 (self:(Tx×Int)->Y) (e2:(Unit)->Y) (a1:Arg) (gb:Tx) (dO:Int) (uW:(Unit)):Y:=self (gb,af (dO+(1:Int)))
noncomputable def s2 (k:Nat) (rec:RT Out) (K:KT Out) (a1:Arg):Tx->Int->(Int)->Y:=λgb dO=>λlL=>D.L k [1,1,1,0,1,0,0,1,0,0,1,1,0,0] [0,4,5] [] (ag 4 (ag 3 (ay (D.N k [1,1,1,0,1,0,0,1,1]) (i7 rec (ff [0,4] []) K)))) (T2 a1 gb dO lL)
noncomputable def r2 (k:Nat) (self:(Tx×Int)->Y) (e2:(Unit)->Y) (a1:Arg):Tx->Int->(Int)->Y:=λgb dO=>ak (λw v=>b2 w (q1 self e2 a1 gb dO) a1 gb dO v) k
theorem rT (k:Nat) (rec:RT Out) (K:KT Out) (a1:Arg):s2 k rec K a1=r2 k (S1 rec a1) (jq K a1) a1:=
 funext λgb=>funext λdO=>funext λlL=>av _ _ _ (T2 a1 gb dO) _ (λrec v=>by kernel_rfl) k lL
noncomputable def b1 (self:(Tx×Int)->Y) (e2:(Unit)->Y) (l2:Tx->Int->(Int)->Y) (a1:Arg) (c7:Tx×Int):Y:=bif decide (c7.2 < (c7.1.2.2.2.1.length:Int)) then (if 0<=c7.2 then ((c7.1.2.2.2.1[c7.2.toNat]?).bind λEI=>(qR.aa (EI,())).bind λyZ=>bif !yZ.1 then (some ((3:Int),())) else l2 c7.1 c7.2 (0:Int)) else none) else e2 ()
noncomputable def B1 (k:Nat) (self:(Tx×Int)->Y) (e2:(Unit)->Y) (a1:Arg) (c7:Tx×Int):Y:=b1 self e2 (r2 k self e2 a1) a1 c7
theorem tc (k:Nat) (rec:RT Out) (K:KT Out) (a1:Arg) (c7:Tx×Int):D.N k [1,1,1,0,1,0,0] (T1 a1 c7) (i7 rec (ff [0,4] []) K)=B1 k (S1 rec a1) (jq K a1) a1 c7:=
 aU (b:=b1 (S1 rec a1) (jq K a1) (s2 k rec K a1) a1 c7) (by kernel_rfl) (by rw[rT];rfl)
noncomputable def q2 (a1:Arg) (P5:(Unit)):Y:=some ((0:Int),())
theorem uX (k:Nat) (a1:Arg) (P5:(Unit)):jq (ag 2 (ay (D.N k [1,1,1,1]) D.K0)) a1 P5=q2 a1 P5:=by kernel_rfl
noncomputable def s1 (k:Nat) (a1:Arg):(Tx×Int)->Y:=λc7=>D.L k [1,1,1,0,1,0,0] [0,4] [] (ag 2 (ay (D.N k [1,1,1,1]) D.K0)) (T1 a1 c7)
noncomputable def r1 (k:Nat) (a1:Arg):(Tx×Int)->Y:=ak (λw v=>B1 k w (q2 a1) a1 v) k
theorem mm (k:Nat) (a1:Arg):s1 k a1=r1 k a1:=by
 funext c7;have h2:jq (ag 2 (ay (D.N k [1,1,1,1]) D.K0)) a1=q2 a1:=funext λz=>uX k a1 z;refine (av _ _ _ (T1 a1) (λself v=>B1 k self (jq (ag 2 (ay (D.N k [1,1,1,1]) D.K0)) a1) a1 v) (λrec v=>tc k rec (ag 2 (ay (D.N k [1,1,1,1]) D.K0)) a1 v) k c7).trans ?_;rw[h2];rfl
noncomputable def q0 (l1:(Tx×Int)->Y) (a1:Arg) (mO:(Unit)):Y:=l1 (a1.1,(0:Int))
noncomputable def Q0 (k:Nat) (a1:Arg) (mO:(Unit)):Y:=q0 (r1 k a1) a1 mO
theorem qA (k:Nat) (a1:Arg) (mO:(Unit)):df (ag 0 (ay (D.N k [1,1,1]) D.K0)) a1 mO=Q0 k a1 mO:=
 aU (b:=q0 (s1 k a1) a1 mO) (by kernel_rfl) (by rw[mm];rfl)
noncomputable def s0 (k:Nat) (a1:Arg):(Int)->Y:=λJ=>D.L k [1,1,0,1,0,0] [0,3] [] (ag 0 (ay (D.N k [1,1,1]) D.K0)) (T0 a1 J)
noncomputable def r0 (k:Nat) (a1:Arg):(Int)->Y:=ak (λw v=>b0 w (Q0 k a1) a1 v) k
theorem aw (k:Nat) (a1:Arg):s0 k a1=r0 k a1:=by
 funext J;have h0:df (ag 0 (ay (D.N k [1,1,1]) D.K0)) a1=Q0 k a1:=funext λz=>qA k a1 z;refine (av _ _ _ (T0 a1) (λself v=>b0 self (df (ag 0 (ay (D.N k [1,1,1]) D.K0)) a1) a1 v) (λrec v=>ml k rec (ag 0 (ay (D.N k [1,1,1]) D.K0)) a1 v) k J).trans ?_;rw[h0];rfl
noncomputable def p (l0:(Int)->Y) (a1:Arg):Y:=bif decide ((8:Int) < (a1.1.2.2.1.length:Int)) then (some ((2:Int),())) else bif decide ((12:Int) < (a1.1.2.2.2.1.length:Int)) then (some ((2:Int),())) else l0 (0:Int)
theorem ae (k:Nat) (a1:Arg):@Eq Y (D.W k a1) (p (r0 k a1) a1):=
 aU (b:=p (s0 k a1) a1) (by kernel_rfl) (by rw[aw])
theorem ok:Ok prog 130 D.sig:=au func130 aT (by kernel_rfl) (fc bu.ok (fc qR.ok (aj _)))
end cw
namespace mC
abbrev Arg:Type:=(List Tx)×Key×Unit
abbrev Out:Type:=Int×Unit
abbrev Y:=Option Out
noncomputable def D:FD:={ fn:=f185,tl:=bd,ps:=[(.ro,(.U de)),(.ro,bh)],rs:=[(i64,(ax i64))],gl:=[(182,jr.D.sig)],lv:=[(2,[0,3,5])],lx:=[(0,[])],od:=[(4,[0,1,2,3,4])] }
noncomputable def aa (a:Arg):Y:=@lift Out λk=>D.W k a
noncomputable def T0 (a1:Arg) (J:Int):St:={ n:=22,sl:=[(0,.val (.U de) a1.1),(3,.box bh (ax bh) [] a1.2.1),(5,.val i64 J)],vr:=[],az:=[] }
noncomputable def b0 (self:Int->Y) (e0:(Unit)->Y) (a1:Arg) (J:Int):Y:=bif decide (J < (a1.1.length:Int)) then (if 0<=J then ((a1.1[J.toNat]?).bind λa7=>(jr.aa (a7,a1.2.1,())).bind λdv=>bif dv.1 then (if 0<=J then ((a1.1[J.toNat]?).bind λeo=>some (eo.1,())) else none) else self (af (J+(1:Int)))) else none) else e0 ()
noncomputable def q0 (a1:Arg) (oD:(Unit)):Y:=some ((0:Int),())
noncomputable def s0 (k:Nat) (a1:Arg):(Int)->Y:=λJ=>D.L k [1,0,1,0,0] [0,3,5] [] (ag 0 (ay (D.N k [1,1]) D.K0)) (T0 a1 J)
noncomputable def r0 (k:Nat) (a1:Arg):(Int)->Y:=ak (λw v=>b0 w (q0 a1) a1 v) k
theorem aw (k:Nat) (a1:Arg):s0 k a1=r0 k a1:=
 funext λJ=>av _ _ _ (T0 a1) _ (λrec v=>by kernel_rfl) k J
noncomputable def p (l0:(Int)->Y) (a1:Arg):Y:=l0 (0:Int)
theorem ae (k:Nat) (a1:Arg):@Eq Y (D.W k a1) (p (r0 k a1) a1):=
 aU (b:=p (s0 k a1) a1) (by kernel_rfl) (by rw[aw])
theorem ok:Ok prog 185 D.sig:=au func185 aT (by kernel_rfl) (fc jr.ok (aj _))
end mC
namespace et
abbrev Arg:Type:=(List Tx)×Unit
abbrev Out:Type:=Bool×Unit
abbrev Y:=Option Out
noncomputable def D:FD:={ fn:=f131,tl:=bd,ps:=[(.ro,(.U de))],rs:=[(.bool,(ax .bool))],gl:=[(185,mC.D.sig)],lv:=[(2,[0,3]),(5,[0,3,4])],lx:=[(0,[]),(2,[0,3])],od:=[(7,[0,1,2,3,4,5,6,7,8,10,11,12,13,14,9,15])] }
noncomputable def aa (a:Arg):Y:=@lift Out λk=>D.W k a
noncomputable def T0 (a1:Arg) (J:(List Tx)×Int):St:={ n:=37,sl:=[(0,.val (.U de) J.1),(3,.val i64 J.2)],vr:=[],az:=[] }
noncomputable def S0 (rec:RT Out) (a1:Arg):((List Tx)×Int)->Y:=λJ=>rec (T0 a1 J)
noncomputable def df (K:KT Out) (a1:Arg):(Unit)->Y:=λz=>K (.exit 0) ({ n:=37,sl:=[],vr:=[],az:=[] })
noncomputable def T1 (a1:Arg) (mG:List Tx) (kK:Int) (mU:Int):St:={ n:=37,sl:=[(0,.val (.U de) mG),(3,.val i64 kK),(4,.val i64 mU)],vr:=[],az:=[] }
noncomputable def b1 (self:Int->Y) (e2:(Unit)->Y) (a1:Arg) (mG:List Tx) (kK:Int) (mU:Int):Y:=if 0<=kK then ((mG[kK.toNat]?).bind λP2=>bif decide (mU < (P2.2.2.2.1.length:Int)) then (if 0<=kK then ((mG[kK.toNat]?).bind λCo=>if 0<=mU then ((Co.2.2.2.1[mU.toNat]?).bind λHh=>if 0<=kK then ((mG[kK.toNat]?).bind λEI=>(mC.aa (mG,Hh,())).bind λyZ=>bif !decide (yZ.1=EI.1) then (some (false,())) else self (af (mU+(1:Int)))) else none) else none) else none) else e2 ()) else none
noncomputable def q0 (self:((List Tx)×Int)->Y) (e0:(Unit)->Y) (a1:Arg) (mG:List Tx) (kK:Int) (Cp:(Unit)):Y:=self (mG,af (kK+(1:Int)))
noncomputable def s1 (k:Nat) (rec:RT Out) (K:KT Out) (a1:Arg):(List Tx)->Int->(Int)->Y:=λmG kK=>λmU=>D.L k [1,0,1,0,0,1,0,0,1,0,0] [0,3,4] [] (ag 2 (ag 1 (ay (D.N k [1,0,1,0,0,1,1]) (i7 rec (ff [0,3] []) K)))) (T1 a1 mG kK mU)
noncomputable def r1 (k:Nat) (self:((List Tx)×Int)->Y) (e0:(Unit)->Y) (a1:Arg):(List Tx)->Int->(Int)->Y:=λmG kK=>ak (λw v=>b1 w (q0 self e0 a1 mG kK) a1 mG kK v) k
theorem mm (k:Nat) (rec:RT Out) (K:KT Out) (a1:Arg):s1 k rec K a1=r1 k (S0 rec a1) (df K a1) a1:=
 funext λmG=>funext λkK=>funext λmU=>av _ _ _ (T1 a1 mG kK) _ (λrec v=>by kernel_rfl) k mU
noncomputable def b0 (self:((List Tx)×Int)->Y) (e0:(Unit)->Y) (l1:(List Tx)->Int->(Int)->Y) (a1:Arg) (J:(List Tx)×Int):Y:=bif decide (J.2 < (J.1.length:Int)) then (l1 J.1 J.2 (0:Int)) else e0 ()
noncomputable def B0 (k:Nat) (self:((List Tx)×Int)->Y) (e0:(Unit)->Y) (a1:Arg) (J:(List Tx)×Int):Y:=b0 self e0 (r1 k self e0 a1) a1 J
theorem ml (k:Nat) (rec:RT Out) (K:KT Out) (a1:Arg) (J:(List Tx)×Int):D.N k [1,0,1,0,0] (T0 a1 J) (i7 rec (ff [0,3] []) K)=B0 k (S0 rec a1) (df K a1) a1 J:=
 aU (b:=b0 (S0 rec a1) (df K a1) (s1 k rec K a1) a1 J) (by kernel_rfl) (by rw[mm];rfl)
noncomputable def q1 (a1:Arg) (AM:(Unit)):Y:=some (true,())
theorem td (k:Nat) (a1:Arg) (AM:(Unit)):df (ag 0 (ay (D.N k [1,1]) D.K0)) a1 AM=q1 a1 AM:=by kernel_rfl
noncomputable def s0 (k:Nat) (a1:Arg):((List Tx)×Int)->Y:=λJ=>D.L k [1,0,1,0,0] [0,3] [] (ag 0 (ay (D.N k [1,1]) D.K0)) (T0 a1 J)
noncomputable def r0 (k:Nat) (a1:Arg):((List Tx)×Int)->Y:=ak (λw v=>B0 k w (q1 a1) a1 v) k
theorem aw (k:Nat) (a1:Arg):s0 k a1=r0 k a1:=by
 funext J;have h0:df (ag 0 (ay (D.N k [1,1]) D.K0)) a1=q1 a1:=funext λz=>td k a1 z;refine (av _ _ _ (T0 a1) (λself v=>B0 k self (df (ag 0 (ay (D.N k [1,1]) D.K0)) a1) a1 v) (λrec v=>ml k rec (ag 0 (ay (D.N k [1,1]) D.K0)) a1 v) k J).trans ?_;rw[h0];rfl
noncomputable def p (l0:((List Tx)×Int)->Y) (a1:Arg):Y:=l0 (a1.1,(0:Int))
theorem ae (k:Nat) (a1:Arg):@Eq Y (D.W k a1) (p (r0 k a1) a1):=
 aU (b:=p (s0 k a1) a1) (by kernel_rfl) (by rw[aw])
theorem ok:Ok prog 131 D.sig:=au func131 aT (by kernel_rfl) (fc mC.ok (aj _))
end et
namespace lN
abbrev Arg:Type:=(List Tx)×Unit
abbrev Out:Type:=Int×Unit
abbrev Y:=Option Out
noncomputable def D:FD:={ fn:=f132,tl:=bd,ps:=[(.ro,(.U de))],rs:=[(i64,(ax i64))],lv:=[(3,[0,3,4])],lx:=[(0,[3])] }
noncomputable def aa (a:Arg):Y:=@lift Out λk=>D.W k a
noncomputable def T0 (a1:Arg) (J:Int×Int):St:={ n:=20,sl:=[(0,.val (.U de) a1.1),(3,.val i64 J.1),(4,.val i64 J.2)],vr:=[],az:=[] }
noncomputable def b0 (self:(Int×Int)->Y) (e0:Int->Y) (a1:Arg) (J:Int×Int):Y:=bif decide (J.2 < (a1.1.length:Int)) then (if 0<=J.2 then ((a1.1[J.2.toNat]?).bind λa7=>self (af (J.1+(a7.2.1.length:Int)),af (J.2+(1:Int)))) else none) else e0 J.1
noncomputable def q0 (a1:Arg) (oC:Int):Y:=some (oC,())
noncomputable def s0 (k:Nat) (a1:Arg):(Int×Int)->Y:=λJ=>D.L k [1,1,0,1,0,0] [0,3,4] [] (ag 0 (ay (D.N k [1,1,1]) D.K0)) (T0 a1 J)
noncomputable def r0 (k:Nat) (a1:Arg):(Int×Int)->Y:=ak (λw v=>b0 w (q0 a1) a1 v) k
theorem aw (k:Nat) (a1:Arg):s0 k a1=r0 k a1:=
 funext λJ=>av _ _ _ (T0 a1) _ (λrec v=>by kernel_rfl) k J
noncomputable def p (l0:(Int×Int)->Y) (a1:Arg):Y:=l0 ((0:Int),(0:Int))
theorem ae (k:Nat) (a1:Arg):@Eq Y (D.W k a1) (p (r0 k a1) a1):=
 aU (b:=p (s0 k a1) a1) (by kernel_rfl) (by rw[aw])
theorem ok:Ok prog 132 D.sig:=au func132 aT (by kernel_rfl) (aj _)
end lN
namespace iF
abbrev Arg:Type:=(List Tx)×Unit
abbrev Out:Type:=Int×Unit
abbrev Y:=Option Out
noncomputable def D:FD:={ fn:=f82,tl:=bd,ps:=[(.ro,(.U de))],rs:=[(i64,(ax i64))],gl:=[(39,bu.D.sig),(129,mB.D.sig),(130,cw.D.sig),(131,et.D.sig),(132,lN.D.sig)],lv:=[(4,[0,3])],lx:=[(0,[0])],od:=[(9,[0,1,2,3,4,5,6,7,8,9,10,11,12,13,14])] }
noncomputable def aa (a:Arg):Y:=@lift Out λk=>D.W k a
noncomputable def T0 (a1:Arg) (J:Int):St:={ n:=56,sl:=[(0,.val (.U de) a1.1),(3,.val i64 J)],vr:=[],az:=[] }
noncomputable def b0 (self:Int->Y) (e0:(Unit)->Y) (a1:Arg) (J:Int):Y:=bif decide (J < (a1.1.length:Int)) then (if 0<=J then ((a1.1[J.toNat]?).bind λa7=>(bu.aa (a7.1,(1:Int),(99:Int),())).bind λdv=>bif !dv.1 then (some ((3:Int),())) else let Zd:Y:=(mB.aa (a7,())).bind λyD=>bif !decide (yD.1=(0:Int)) then (some (yD.1,())) else (cw.aa (a7,())).bind λyE=>bif !decide (yE.1=(0:Int)) then (some (yE.1,())) else self (af (J+(1:Int)));bif decide ((0:Int) < J) then (if 0<=af (J - (1:Int)) then ((a1.1[(af (J - (1:Int))).toNat]?).bind λeo=>bif decide (a7.1<=eo.1) then (some ((1:Int),())) else Zd) else none) else Zd) else none) else e0 ()
noncomputable def q0 (a1:Arg) (IA:(Unit)):Y:=(et.aa (a1.1,())).bind λUD=>bif !UD.1 then (some ((7:Int),())) else (lN.aa (a1.1,())).bind λP6=>bif decide ((12:Int) < P6.1) then (some ((2:Int),())) else some ((0:Int),())
noncomputable def s0 (k:Nat) (a1:Arg):(Int)->Y:=λJ=>D.L k [1,1,0,1,0,0] [0,3] [] (ag 0 (ay (D.N k [1,1,1]) D.K0)) (T0 a1 J)
noncomputable def r0 (k:Nat) (a1:Arg):(Int)->Y:=ak (λw v=>b0 w (q0 a1) a1 v) k
theorem aw (k:Nat) (a1:Arg):s0 k a1=r0 k a1:=
 funext λJ=>av _ _ _ (T0 a1) _ (λrec v=>by kernel_rfl) k J
noncomputable def p (l0:(Int)->Y) (a1:Arg):Y:=bif decide ((4:Int) < (a1.1.length:Int)) then (some ((2:Int),())) else l0 (0:Int)
theorem ae (k:Nat) (a1:Arg):@Eq Y (D.W k a1) (p (r0 k a1) a1):=
 aU (b:=p (s0 k a1) a1) (by kernel_rfl) (by rw[aw])
theorem ok:Ok prog 82 D.sig:=au func82 aT (by kernel_rfl) (fc bu.ok (fc mB.ok (fc cw.ok (fc et.ok (fc lN.ok (aj _))))))
end iF
namespace bY
abbrev Arg:Type:=(List Row)×(List Tx)×Key×Unit
abbrev Out:Type:=Int×Unit
abbrev Y:=Option Out
noncomputable def D:FD:={ fn:=f83,tl:=bd,ps:=[(.ro,(.U ba)),(.ro,(.U de)),(.ro,bh)],rs:=[(i64,(ax i64))],lv:=[(3,[0,1,5,7,8]),(7,[1,5,7,9]),(14,[7,10,11]),(18,[7,10,11,12,13])],lx:=[(0,[1,5,7]),(2,[5,7]),(4,[10]),(6,[7,10,11,12])],od:=[(5,[0,1,2,3,4,5,6,7,8,9,10,11,12,13,14]),(20,[0,1,2,3,4,5,6,7,8,9])] }
noncomputable def aa (a:Arg):Y:=@lift Out λk=>D.W k a
noncomputable def T0 (a1:Arg) (J:(List Key)×Int):St:={ n:=82,sl:=[(0,.val (.U ba) a1.1),(1,.val (.U de) a1.2.1),(5,.box bh (ax bh) [] a1.2.2.1),(7,.own (.U bh) (an (.U bh)) [] J.1),(8,.val i64 J.2)],vr:=[],az:=[] }
noncomputable def S0 (rec:RT Out) (a1:Arg):((List Key)×Int)->Y:=λJ=>rec (T0 a1 J)
noncomputable def df (K:KT Out) (a1:Arg):(List Key)->Y:=λz=>K (.exit 0) ({ n:=82,sl:=[(1,.val (.U de) a1.2.1),(5,.box bh (ax bh) [] a1.2.2.1),(7,.own (.U bh) (an (.U bh)) [] z)],vr:=[],az:=[] })
noncomputable def b0 (self:((List Key)×Int)->Y) (e0:(List Key)->Y) (a1:Arg) (J:(List Key)×Int):Y:=bif decide (J.2 < (a1.1.length:Int)) then (if 0<=J.2 then ((a1.1[J.2.toNat]?).bind λa7=>if 0<=J.2 then ((a1.1[J.2.toNat]?).bind λen=>if J.1.length+[(a7.1,en.2.1,())].length<=cc then (self (J.1++[(a7.1,en.2.1,())],af (J.2+(1:Int)))) else none) else none) else none) else e0 J.1
theorem ml (k:Nat) (rec:RT Out) (K:KT Out) (a1:Arg) (J:(List Key)×Int):D.N k [1,1,0,1,0,0] (T0 a1 J) (i7 rec (ff [0,1,5,7,8] []) K)=b0 (S0 rec a1) (df K a1) a1 J:=by kernel_rfl
noncomputable def T1 (a1:Arg) (ef:(List Key)×Int):St:={ n:=82,sl:=[(1,.val (.U de) a1.2.1),(5,.box bh (ax bh) [] a1.2.2.1),(7,.own (.U bh) (an (.U bh)) [] ef.1),(9,.val i64 ef.2)],vr:=[],az:=[] }
noncomputable def S1 (rec:RT Out) (a1:Arg):((List Key)×Int)->Y:=λef=>rec (T1 a1 ef)
noncomputable def jq (K:KT Out) (a1:Arg):(List Key)->Y:=λz=>K (.exit 2) ({ n:=82,sl:=[(5,.box bh (ax bh) [] a1.2.2.1),(7,.own (.U bh) (an (.U bh)) [] z)],vr:=[],az:=[] })
noncomputable def b1 (self:((List Key)×Int)->Y) (e2:(List Key)->Y) (a1:Arg) (ef:(List Key)×Int):Y:=bif decide (ef.2 < (a1.2.1.length:Int)) then (if 0<=ef.2 then ((a1.2.1[ef.2.toNat]?).bind λCo=>if ef.1.length+Co.2.2.2.1.length<=cc then (self (ef.1++Co.2.2.2.1,af (ef.2+(1:Int)))) else none) else none) else e2 ef.1
theorem tc (k:Nat) (rec:RT Out) (K:KT Out) (a1:Arg) (ef:(List Key)×Int):D.N k [1,1,1,0,1,0,0] (T1 a1 ef) (i7 rec (ff [1,5,7,9] []) K)=b1 (S1 rec a1) (jq K a1) a1 ef:=by kernel_rfl
noncomputable def T2 (a1:Arg) (pk:(List Key)×Int×Int):St:={ n:=82,sl:=[(7,.own (.U bh) (an (.U bh)) [] pk.1),(10,.val i64 pk.2.1),(11,.val i64 pk.2.2)],vr:=[],az:=[] }
noncomputable def S2 (rec:RT Out) (a1:Arg):((List Key)×Int×Int)->Y:=λpk=>rec (T2 a1 pk)
noncomputable def IB (K:KT Out) (a1:Arg):Int->Y:=λz=>K (.exit 4) ({ n:=82,sl:=[(10,.val i64 z)],vr:=[],az:=[] })
noncomputable def T3 (a1:Arg) (sr:List Key) (vH:Int) (st:Int) (tj:Bool×Int):St:={ n:=82,sl:=[(7,.own (.U bh) (an (.U bh)) [] sr),(10,.val i64 vH),(11,.val i64 st),(12,.val .bool tj.1),(13,.val i64 tj.2)],vr:=[],az:=[] }
noncomputable def b3 (self:(Bool×Int)->Y) (e6:Bool->Y) (a1:Arg) (sr:List Key) (vH:Int) (st:Int) (tj:Bool×Int):Y:=bif decide (tj.2 < st) then (bif tj.1 then (if 0<=tj.2/\tj.2 < (sr.length:Int) then ((sr[tj.2.toNat]?).bind λaal=>if 0<=st/\st < (sr.length:Int) then ((sr[st.toNat]?).bind λaam=>self (!(Ty.eq bh aal aam),af (tj.2+(1:Int)))) else none) else none) else e6 tj.1) else e6 tj.1
noncomputable def q2 (self:((List Key)×Int×Int)->Y) (e4:Int->Y) (a1:Arg) (sr:List Key) (vH:Int) (st:Int) (aan:Bool):Y:=bif aan then (self (sr,af (vH+(1:Int)),af (st+(1:Int)))) else self (sr,vH,af (st+(1:Int)))
noncomputable def s3 (k:Nat) (rec:RT Out) (K:KT Out) (a1:Arg):(List Key)->Int->Int->(Bool×Int)->Y:=λsr vH st=>λtj=>D.L k [1,1,1,1,1,1,0,1,0,0,1,0,0,1,0,1,0,0] [7,10,11,12,13] [] (ag 6 (ay (D.N k [1,1,1,1,1,1,0,1,0,0,1,0,0,1,1]) (ag 5 (ay (D.N k [1,1,1,1,1,1,0,1,0,0,1,1]) (i7 rec (ff [7,10,11] []) K))))) (T3 a1 sr vH st tj)
noncomputable def r3 (k:Nat) (self:((List Key)×Int×Int)->Y) (e4:Int->Y) (a1:Arg):(List Key)->Int->Int->(Bool×Int)->Y:=λsr vH st=>ak (λw v=>b3 w (q2 self e4 a1 sr vH st) a1 sr vH st v) k
theorem P7 (k:Nat) (rec:RT Out) (K:KT Out) (a1:Arg):s3 k rec K a1=r3 k (S2 rec a1) (IB K a1) a1:=
 funext λsr=>funext λvH=>funext λst=>funext λtj=>av _ _ _ (T3 a1 sr vH st) _ (λrec v=>by kernel_rfl) k tj
noncomputable def b2 (self:((List Key)×Int×Int)->Y) (e4:Int->Y) (l3:(List Key)->Int->Int->(Bool×Int)->Y) (a1:Arg) (pk:(List Key)×Int×Int):Y:=bif decide (pk.2.2 < (pk.1.length:Int)) then (l3 pk.1 pk.2.1 pk.2.2 (true,(0:Int))) else e4 pk.2.1
noncomputable def B2 (k:Nat) (self:((List Key)×Int×Int)->Y) (e4:Int->Y) (a1:Arg) (pk:(List Key)×Int×Int):Y:=b2 self e4 (r3 k self e4 a1) a1 pk
theorem P8 (k:Nat) (rec:RT Out) (K:KT Out) (a1:Arg) (pk:(List Key)×Int×Int):D.N k [1,1,1,1,1,1,0,1,0,0] (T2 a1 pk) (i7 rec (ff [7,10,11] []) K)=B2 k (S2 rec a1) (IB K a1) a1 pk:=
 aU (b:=b2 (S2 rec a1) (IB K a1) (s3 k rec K a1) a1 pk) (by kernel_rfl) (by rw[P7];rfl)
noncomputable def q3 (a1:Arg) (Kd:Int):Y:=some (Kd,())
theorem P9 (k:Nat) (a1:Arg) (Kd:Int):IB (ag 4 (ay (D.N k [1,1,1,1,1,1,1]) D.K0)) a1 Kd=q3 a1 Kd:=by kernel_rfl
noncomputable def s2 (k:Nat) (a1:Arg):((List Key)×Int×Int)->Y:=λpk=>D.L k [1,1,1,1,1,1,0,1,0,0] [7,10,11] [] (ag 4 (ay (D.N k [1,1,1,1,1,1,1]) D.K0)) (T2 a1 pk)
noncomputable def r2 (k:Nat) (a1:Arg):((List Key)×Int×Int)->Y:=ak (λw v=>B2 k w (q3 a1) a1 v) k
theorem rT (k:Nat) (a1:Arg):s2 k a1=r2 k a1:=by
 funext pk;have h4:IB (ag 4 (ay (D.N k [1,1,1,1,1,1,1]) D.K0)) a1=q3 a1:=funext λz=>P9 k a1 z;refine (av _ _ _ (T2 a1) (λself v=>B2 k self (IB (ag 4 (ay (D.N k [1,1,1,1,1,1,1]) D.K0)) a1) a1 v) (λrec v=>P8 k rec (ag 4 (ay (D.N k [1,1,1,1,1,1,1]) D.K0)) a1 v) k pk).trans ?_;rw[h4];rfl
noncomputable def q1 (l2:((List Key)×Int×Int)->Y) (a1:Arg) (y6:(List Key)):Y:=let Wt:=λ(aao:List Key)=>(l2 (aao,(0:Int),(0:Int)):Y);bif !decide (a1.2.2.1.2.1=(0:Int)) then (if y6.length+[a1.2.2.1].length<=cc then (Wt (y6++[a1.2.2.1])) else none) else Wt y6
noncomputable def Q1 (k:Nat) (a1:Arg) (y6:(List Key)):Y:=q1 (r2 k a1) a1 y6
theorem td (k:Nat) (a1:Arg) (y6:(List Key)):jq (ag 2 (ay (D.N k [1,1,1,1]) D.K0)) a1 y6=Q1 k a1 y6:=
 aU (b:=q1 (s2 k a1) a1 y6) (by kernel_rfl) (by rw[rT];rfl)
noncomputable def s1 (k:Nat) (a1:Arg):((List Key)×Int)->Y:=λef=>D.L k [1,1,1,0,1,0,0] [1,5,7,9] [] (ag 2 (ay (D.N k [1,1,1,1]) D.K0)) (T1 a1 ef)
noncomputable def r1 (k:Nat) (a1:Arg):((List Key)×Int)->Y:=ak (λw v=>b1 w (Q1 k a1) a1 v) k
theorem mm (k:Nat) (a1:Arg):s1 k a1=r1 k a1:=by
 funext ef;have h2:jq (ag 2 (ay (D.N k [1,1,1,1]) D.K0)) a1=Q1 k a1:=funext λz=>td k a1 z;refine (av _ _ _ (T1 a1) (λself v=>b1 self (jq (ag 2 (ay (D.N k [1,1,1,1]) D.K0)) a1) a1 v) (λrec v=>tc k rec (ag 2 (ay (D.N k [1,1,1,1]) D.K0)) a1 v) k ef).trans ?_;rw[h2];rfl
noncomputable def q0 (l1:((List Key)×Int)->Y) (a1:Arg) (dz:(List Key)):Y:=l1 (dz,(0:Int))
noncomputable def Q0 (k:Nat) (a1:Arg) (dz:(List Key)):Y:=q0 (r1 k a1) a1 dz
theorem qA (k:Nat) (a1:Arg) (dz:(List Key)):df (ag 0 (ay (D.N k [1,1,1]) D.K0)) a1 dz=Q0 k a1 dz:=
 aU (b:=q0 (s1 k a1) a1 dz) (by kernel_rfl) (by rw[mm];rfl)
noncomputable def s0 (k:Nat) (a1:Arg):((List Key)×Int)->Y:=λJ=>D.L k [1,1,0,1,0,0] [0,1,5,7,8] [] (ag 0 (ay (D.N k [1,1,1]) D.K0)) (T0 a1 J)
noncomputable def r0 (k:Nat) (a1:Arg):((List Key)×Int)->Y:=ak (λw v=>b0 w (Q0 k a1) a1 v) k
theorem aw (k:Nat) (a1:Arg):s0 k a1=r0 k a1:=by
 funext J;have h0:df (ag 0 (ay (D.N k [1,1,1]) D.K0)) a1=Q0 k a1:=funext λz=>qA k a1 z;refine (av _ _ _ (T0 a1) (λself v=>b0 self (df (ag 0 (ay (D.N k [1,1,1]) D.K0)) a1) a1 v) (λrec v=>ml k rec (ag 0 (ay (D.N k [1,1,1]) D.K0)) a1 v) k J).trans ?_;rw[h0];rfl
noncomputable def p (l0:((List Key)×Int)->Y) (a1:Arg):Y:=l0 (([]:List Key),(0:Int))
theorem ae (k:Nat) (a1:Arg):@Eq Y (D.W k a1) (p (r0 k a1) a1):=
 aU (b:=p (s0 k a1) a1) (by kernel_rfl) (by rw[aw])
theorem ok:Ok prog 83 D.sig:=au func83 aT (by kernel_rfl) (aj _)
end bY
namespace ku
abbrev Arg:Type:=(List Change)×Unit
abbrev Out:Type:=(List Change)×Unit
abbrev Y:=Option Out
noncomputable def D:FD:={ fn:=f186,tl:=bd,ps:=[(.ro,(.U ai))],rs:=[((.U ai),(an (.U ai)))],lv:=[(3,[0,3,4])],lx:=[(0,[3])] }
noncomputable def aa (a:Arg):Y:=@lift Out λk=>D.W k a
noncomputable def T0 (a1:Arg) (J:(List Change)×Int):St:={ n:=31,sl:=[(0,.val (.U ai) a1.1),(3,.own (.U ai) (an (.U ai)) [] J.1),(4,.val i64 J.2)],vr:=[],az:=[] }
noncomputable def b0 (self:((List Change)×Int)->Y) (e0:(List Change)->Y) (a1:Arg) (J:(List Change)×Int):Y:=bif decide ((0:Int)<=J.2) then (if 0<=J.2 then ((a1.1[J.2.toNat]?).bind λa7=>if J.1.length+[(a7.2.2.1,a7.2.2.2.1,a7.1,a7.2.1,())].length<=cc then (let mY:=J.1++[(a7.2.2.1,a7.2.2.2.1,a7.1,a7.2.1,())];self (mY,af (J.2 - (1:Int)))) else none) else none) else e0 J.1
noncomputable def q0 (a1:Arg) (dz:(List Change)):Y:=some (dz,())
noncomputable def s0 (k:Nat) (a1:Arg):((List Change)×Int)->Y:=λJ=>D.L k [1,1,0,1,0,0] [0,3,4] [] (ag 0 (ay (D.N k [1,1,1]) D.K0)) (T0 a1 J)
noncomputable def r0 (k:Nat) (a1:Arg):((List Change)×Int)->Y:=ak (λw v=>b0 w (q0 a1) a1 v) k
theorem aw (k:Nat) (a1:Arg):s0 k a1=r0 k a1:=
 funext λJ=>av _ _ _ (T0 a1) _ (λrec v=>by kernel_rfl) k J
noncomputable def p (l0:((List Change)×Int)->Y) (a1:Arg):Y:=l0 (([]:List Change),af ((a1.1.length:Int) - (1:Int)))
theorem ae (k:Nat) (a1:Arg):@Eq Y (D.W k a1) (p (r0 k a1) a1):=
 aU (b:=p (s0 k a1) a1) (by kernel_rfl) (by rw[aw])
theorem ok:Ok prog 186 D.sig:=au func186 aT (by kernel_rfl) (aj _)
end ku
namespace jw
abbrev Arg:Type:=(List Row)×Int×Int×Unit
abbrev Out:Type:=Int×Unit
abbrev Y:=Option Out
noncomputable def D:FD:={ fn:=f213,tl:=bd,ps:=[(.ro,(.U ba)),(.ro,i64),(.ro,i64)],rs:=[(i64,(ax i64))],lv:=[(2,[0,1,2,7])],lx:=[(0,[])] }
noncomputable def aa (a:Arg):Y:=@lift Out λk=>D.W k a
noncomputable def T0 (a1:Arg) (J:Int):St:={ n:=31,sl:=[(0,.val (.U ba) a1.1),(1,.val i64 a1.2.1),(2,.val i64 a1.2.2.1),(7,.val i64 J)],vr:=[],az:=[] }
noncomputable def b0 (self:Int->Y) (e0:(Unit)->Y) (a1:Arg) (J:Int):Y:=bif decide (J < (a1.1.length:Int)) then (if 0<=J then ((a1.1[J.toNat]?).bind λa7=>bif decide (a7.1=a1.2.1) then (if 0<=J then ((a1.1[J.toNat]?).bind λen=>bif decide (en.2.1=a1.2.2.1) then (some (J,())) else self (af (J+(1:Int)))) else none) else self (af (J+(1:Int)))) else none) else e0 ()
noncomputable def q0 (a1:Arg) (dz:(Unit)):Y:=some ((-1:Int),())
noncomputable def s0 (k:Nat) (a1:Arg):(Int)->Y:=λJ=>D.L k [1,0,1,0,0] [0,1,2,7] [] (ag 0 (ay (D.N k [1,1]) D.K0)) (T0 a1 J)
noncomputable def r0 (k:Nat) (a1:Arg):(Int)->Y:=ak (λw v=>b0 w (q0 a1) a1 v) k
theorem aw (k:Nat) (a1:Arg):s0 k a1=r0 k a1:=
 funext λJ=>av _ _ _ (T0 a1) _ (λrec v=>by kernel_rfl) k J
noncomputable def p (l0:(Int)->Y) (a1:Arg):Y:=l0 (0:Int)
theorem ae (k:Nat) (a1:Arg):@Eq Y (D.W k a1) (p (r0 k a1) a1):=
 aU (b:=p (s0 k a1) a1) (by kernel_rfl) (by rw[aw])
theorem ok:Ok prog 213 D.sig:=au func213 aT (by kernel_rfl) (aj _)
end jw
namespace mM
abbrev Arg:Type:=(List Row)×Change×Unit
abbrev Out:Type:=(List Row)×Bool×Unit
abbrev Y:=Option Out
noncomputable def D:FD:={ fn:=f187,tl:=bd,ps:=[(.ro,(.U ba)),(.ro,(.ptr ai))],rs:=[((.U ba),(an (.U ba))),(.bool,(ax .bool))],gl:=[(80,i_.D.sig),(212,mn.D.sig),(213,jw.D.sig)],lv:=[(7,[0,1,8,9,10])],lx:=[(0,[1,9])],od:=[(3,[0,1,2,3,4,5,6,7,8,9,10,11,12,13,14,15,16,17,18,19,20,21])] }
noncomputable def aa (a:Arg):Y:=@lift Out λk=>D.W k a
noncomputable def T0 (a1:Arg) (oK:Int) (gw:(List Row)×Int):St:={ n:=70,sl:=[(0,.val (.U ba) a1.1),(1,.cp ai a1.2.1),(8,.val i64 oK),(9,.own (.U ba) (an (.U ba)) [] gw.1),(10,.val i64 gw.2)],vr:=[],az:=[] }
noncomputable def b0 (self:((List Row)×Int)->Y) (e0:(List Row)->Y) (a1:Arg) (oK:Int) (gw:(List Row)×Int):Y:=bif decide (gw.2 < (a1.1.length:Int)) then (bif !decide (gw.2=oK) then (if 0<=gw.2 then ((a1.1[gw.2.toNat]?).bind λAK=>if gw.1.length+[AK].length<=cc then (self (gw.1++[AK],af (gw.2+(1:Int)))) else none) else none) else self (gw.1,af (gw.2+(1:Int)))) else e0 gw.1
noncomputable def q0 (a1:Arg) (oK:Int) (Wu:(List Row)):Y:=bif a1.2.1.2.2.1 then ((i_.aa (Wu,a1.2.1.2.2.2.1,())).bind λHl=>some (Hl.1,true,())) else some (Wu,true,())
noncomputable def s0 (k:Nat) (a1:Arg):Int->((List Row)×Int)->Y:=λoK=>λgw=>D.L k [1,1,1,1,1,0,1,0,0] [0,1,8,9,10] [] (ag 0 (ay (D.N k [1,1,1,1,1,1]) D.K0)) (T0 a1 oK gw)
noncomputable def r0 (k:Nat) (a1:Arg):Int->((List Row)×Int)->Y:=λoK=>ak (λw v=>b0 w (q0 a1 oK) a1 oK v) k
theorem aw (k:Nat) (a1:Arg):s0 k a1=r0 k a1:=
 funext λoK=>funext λgw=>av _ _ _ (T0 a1 oK) _ (λrec v=>by kernel_rfl) k gw
noncomputable def p (l0:Int->((List Row)×Int)->Y) (a1:Arg):Y:=(mn.aa (a1.2.1,())).bind λr2=>(jw.aa (a1.1,r2.1,r2.2.1,())).bind λr3=>let LS:Y:=l0 r3.1 (([]:List Row),(0:Int));bif !(a1.2.1.1 == (decide ((0:Int)<=r3.1))) then (some (([]:List Row),false,())) else bif decide ((0:Int)<=r3.1) then (if 0<=r3.1 then ((a1.1[r3.1.toNat]?).bind λx4=>bif !(Ty.eq ba x4 a1.2.1.2.1) then (some (([]:List Row),false,())) else LS) else none) else LS
theorem ae (k:Nat) (a1:Arg):@Eq Y (D.W k a1) (p (r0 k a1) a1):=
 aU (b:=p (s0 k a1) a1) (by kernel_rfl) (by rw[aw])
theorem ok:Ok prog 187 D.sig:=au func187 aT (by kernel_rfl) (fc i_.ok (fc mn.ok (fc jw.ok (aj _))))
end mM
namespace lT
abbrev Arg:Type:=(List Row)×(List Change)×Unit
abbrev Out:Type:=(List Row)×Bool×Unit
abbrev Y:=Option Out
noncomputable def D:FD:={ fn:=f133,tl:=bd,ps:=[(.ro,(.U ba)),(.ro,(.U ai))],rs:=[((.U ba),(ax (.U ba))),(.bool,(ax .bool))],gl:=[(186,ku.D.sig),(187,mM.D.sig)],lv:=[(3,[0,6,7])],lx:=[(0,[0])],lf:=[(3,[(0,(.U false (.pair .leaf (.pair .leaf (.pair .leaf (.pair .leaf .leaf))))))])] }
noncomputable def aa (a:Arg):Y:=@lift Out λk=>D.W k a
noncomputable def T0 (a1:Arg) (lS:List Change) (bn:(List Row)×Int):St:={ n:=30,sl:=[(0,.val (.U ba) bn.1),(6,.own (.U ai) (an (.U ai)) [] lS),(7,.val i64 bn.2)],vr:=[],az:=[] }
noncomputable def b0 (self:((List Row)×Int)->Y) (e0:(List Row)->Y) (a1:Arg) (lS:List Change) (bn:(List Row)×Int):Y:=bif decide (bn.2 < (lS.length:Int)) then (if 0<=bn.2/\bn.2 < (lS.length:Int) then ((lS[bn.2.toNat]?).bind λeo=>(mM.aa (bn.1,eo,())).bind λph=>bif !ph.2.1 then (some (([]:List Row),false,())) else self (ph.1,af (bn.2+(1:Int)))) else none) else e0 bn.1
noncomputable def q0 (a1:Arg) (lS:List Change) (mO:(List Row)):Y:=some (mO,true,())
noncomputable def s0 (k:Nat) (a1:Arg):(List Change)->((List Row)×Int)->Y:=λlS=>λbn=>D.L k [1,1,0,1,0,0] [0,6,7] [(0,(.U false (.pair .leaf (.pair .leaf (.pair .leaf (.pair .leaf .leaf))))))] (ag 0 (ay (D.N k [1,1,1]) D.K0)) (T0 a1 lS bn)
noncomputable def r0 (k:Nat) (a1:Arg):(List Change)->((List Row)×Int)->Y:=λlS=>ak (λw v=>b0 w (q0 a1 lS) a1 lS v) k
theorem aw (k:Nat) (a1:Arg):s0 k a1=r0 k a1:=
 funext λlS=>funext λbn=>av _ _ _ (T0 a1 lS) _ (λrec v=>by kernel_rfl) k bn
noncomputable def p (l0:(List Change)->((List Row)×Int)->Y) (a1:Arg):Y:=(ku.aa (a1.2.1,())).bind λr2=>l0 r2.1 (a1.1,(0:Int))
theorem ae (k:Nat) (a1:Arg):@Eq Y (D.W k a1) (p (r0 k a1) a1):=
 aU (b:=p (s0 k a1) a1) (by kernel_rfl) (by rw[aw])
theorem ok:Ok prog 133 D.sig:=au func133 aT (by kernel_rfl) (fc ku.ok (fc mM.ok (aj _)))
end lT
namespace lU
abbrev Arg:Type:=(List Row)×(List Tx)×Unit
abbrev Out:Type:=(List Row)×Bool×Unit
abbrev Y:=Option Out
noncomputable def D:FD:={ fn:=f84,tl:=bd,ps:=[(.ro,(.U ba)),(.ro,(.U de))],rs:=[((.U ba),(ax (.U ba))),(.bool,(ax .bool))],gl:=[(133,lT.D.sig)],lv:=[(3,[1,6,7])],lx:=[(0,[6])],lf:=[(3,[(6,(.U false (.pair .leaf (.pair .leaf (.pair .leaf (.pair .leaf .leaf))))))])] }
noncomputable def aa (a:Arg):Y:=@lift Out λk=>D.W k a
noncomputable def T0 (a1:Arg) (J:(List Row)×Int):St:={ n:=33,sl:=[(1,.val (.U de) a1.2.1),(6,.val (.U ba) J.1),(7,.val i64 J.2)],vr:=[],az:=[] }
noncomputable def b0 (self:((List Row)×Int)->Y) (e0:(List Row)->Y) (a1:Arg) (J:(List Row)×Int):Y:=bif decide (J.2 < (a1.2.1.length:Int)) then (if 0<=J.2 then ((a1.2.1[J.2.toNat]?).bind λa7=>(lT.aa (J.1,a7.2.1,())).bind λdv=>bif !dv.2.1 then (some (([]:List Row),false,())) else self (dv.1,af (J.2+(1:Int)))) else none) else e0 J.1
noncomputable def q0 (a1:Arg) (dz:(List Row)):Y:=some (dz,true,())
noncomputable def s0 (k:Nat) (a1:Arg):((List Row)×Int)->Y:=λJ=>D.L k [1,1,0,1,0,0] [1,6,7] [(6,(.U false (.pair .leaf (.pair .leaf (.pair .leaf (.pair .leaf .leaf))))))] (ag 0 (ay (D.N k [1,1,1]) D.K0)) (T0 a1 J)
noncomputable def r0 (k:Nat) (a1:Arg):((List Row)×Int)->Y:=ak (λw v=>b0 w (q0 a1) a1 v) k
theorem aw (k:Nat) (a1:Arg):s0 k a1=r0 k a1:=
 funext λJ=>av _ _ _ (T0 a1) _ (λrec v=>by kernel_rfl) k J
noncomputable def p (l0:((List Row)×Int)->Y) (a1:Arg):Y:=if ([]:List Row).length+a1.1.length<=cc then (l0 (([]:List Row)++a1.1,(0:Int))) else none
theorem ae (k:Nat) (a1:Arg):@Eq Y (D.W k a1) (p (r0 k a1) a1):=
 aU (b:=p (s0 k a1) a1) (by kernel_rfl) (by rw[aw])
theorem ok:Ok prog 84 D.sig:=au func84 aT (by kernel_rfl) (fc lT.ok (aj _))
end lU
namespace o9
abbrev Arg:Type:=Plain×Unit
abbrev Out:Type:=Int×Unit
noncomputable def D:FD:={ fn:=f42,tl:=bd,ps:=[(.ro,(.ptr BC))],rs:=[(i64,(ax i64))],gl:=[(39,bu.D.sig),(81,kT.D.sig),(82,iF.D.sig),(83,bY.D.sig),(84,lU.D.sig)],od:=[(8,[0,1,2,3,4,5,6,7,8,9,10,11,12,13,14,15,16,17,18,19,20,21,22,23,24,25]),(10,[0,1,2,3,4,5,6,7,8,9,10]),(12,[0,1,2,3,4,5,6,7,8,9,10,11,12,13])],ar:=[(8,[3,13,18,22])] }
noncomputable def aa (a:Arg):Option Out:=@lift Out λk=>D.W k a
noncomputable def p (a1:Arg):Option Out:=(kT.aa (a1.1.1,())).bind λr2=>bif !decide (r2.1=(0:Int)) then (some (r2.1,())) else (iF.aa (a1.1.2.1,())).bind λr3=>bif !decide (r3.1=(0:Int)) then (some (r3.1,())) else let j8:Option Out:=(bY.aa (a1.1.1,a1.1.2.1,((0:Int),(0:Int),()),())).bind λr9=>bif decide ((12:Int) < r9.1) then (some ((2:Int),())) else (lU.aa (a1.1.1,a1.1.2.1,())).bind λDX=>bif !DX.2.1 then (some ((8:Int),())) else some ((0:Int),());(bu.aa (a1.1.2.2.1,(1:Int),(100:Int),())).bind λr4=>bif !r4.1 then (some ((3:Int),())) else bif decide ((0:Int) < (a1.1.2.1.length:Int)) then (if 0<=af ((a1.1.2.1.length:Int) - (1:Int)) then ((a1.1.2.1[(af ((a1.1.2.1.length:Int) - (1:Int))).toNat]?).bind λx5=>bif decide (a1.1.2.2.1<=x5.1) then (some ((3:Int),())) else j8) else none) else j8
theorem ae (k:Nat) (a1:Arg):@Eq (Option Out) (D.W k a1) (p a1):=by kernel_rfl
theorem ok:Ok prog 42 D.sig:=au func42 aT (by kernel_rfl) (fc bu.ok (fc kT.ok (fc iF.ok (fc bY.ok (fc lU.ok (aj _))))))
end o9
namespace pM
abbrev Arg:Type:=Int×Unit
abbrev Out:Type:=Bg×Unit
noncomputable def D:FD:={ fn:=f134,tl:=bd,ps:=[(.ro,i64)],rs:=[(rm,(an rm))] }
noncomputable def aa (a:Arg):Option Out:=@lift Out λk=>D.W k a
noncomputable def p (a1:Arg):Option Out:=some ((a1.1,([]:List gu),([]:List (List UInt8)),()),())
theorem ae (k:Nat) (a1:Arg):@Eq (Option Out) (D.W k a1) (p a1):=by kernel_rfl
theorem ok:Ok prog 134 D.sig:=au func134 aT (by kernel_rfl) (aj _)
end pM
namespace lz
abbrev Arg:Type:=(List (List UInt8))×Unit
abbrev Out:Type:=(List (List UInt8))×Unit
abbrev Y:=Option Out
noncomputable def D:FD:={ fn:=f136,tl:=bd,ps:=[(.ro,(.U (.U u8)))],rs:=[((.U (.U u8)),(an (.U (.U u8))))],gl:=[(18,gr.D.sig)],lv:=[(3,[0,3,4])],lx:=[(0,[3])] }
noncomputable def aa (a:Arg):Y:=@lift Out λk=>D.W k a
noncomputable def T0 (a1:Arg) (J:(List (List UInt8))×Int):St:={ n:=21,sl:=[(0,.val (.U (.U u8)) a1.1),(3,.own (.U (.U u8)) (an (.U (.U u8))) [] J.1),(4,.val i64 J.2)],vr:=[],az:=[] }
noncomputable def b0 (self:((List (List UInt8))×Int)->Y) (e0:(List (List UInt8))->Y) (a1:Arg) (J:(List (List UInt8))×Int):Y:=bif decide (J.2 < (a1.1.length:Int)) then (if 0<=J.2 then ((a1.1[J.2.toNat]?).bind λa7=>(gr.aa (a7,())).bind λdv=>if J.1.length+[dv.1].length<=cc then (self (J.1++[dv.1],af (J.2+(1:Int)))) else none) else none) else e0 J.1
noncomputable def q0 (a1:Arg) (dz:(List (List UInt8))):Y:=some (dz,())
noncomputable def s0 (k:Nat) (a1:Arg):((List (List UInt8))×Int)->Y:=λJ=>D.L k [1,1,0,1,0,0] [0,3,4] [] (ag 0 (ay (D.N k [1,1,1]) D.K0)) (T0 a1 J)
noncomputable def r0 (k:Nat) (a1:Arg):((List (List UInt8))×Int)->Y:=ak (λw v=>b0 w (q0 a1) a1 v) k
theorem aw (k:Nat) (a1:Arg):s0 k a1=r0 k a1:=
 funext λJ=>av _ _ _ (T0 a1) _ (λrec v=>by kernel_rfl) k J
noncomputable def p (l0:((List (List UInt8))×Int)->Y) (a1:Arg):Y:=l0 (([]:List (List UInt8)),(0:Int))
theorem ae (k:Nat) (a1:Arg):@Eq Y (D.W k a1) (p (r0 k a1) a1):=
 aU (b:=p (s0 k a1) a1) (by kernel_rfl) (by rw[aw])
theorem ok:Ok prog 136 D.sig:=au func136 aT (by kernel_rfl) (fc gr.ok (aj _))
end lz
namespace nz
abbrev Arg:Type:=UInt8×Unit
abbrev Out:Type:=(List UInt8)×Unit
abbrev Y:=Option Out
noncomputable def D:FD:={ fn:=f138,tl:=bd,ps:=[(.ro,u8)],rs:=[((.U u8),(an (.U u8)))],lv:=[(3,[0,3,4])],lx:=[(0,[3])] }
noncomputable def aa (a:Arg):Y:=@lift Out λk=>D.W k a
noncomputable def T0 (a1:Arg) (J:(List UInt8)×Int):St:={ n:=19,sl:=[(0,.val u8 a1.1),(3,.own (.U u8) (an (.U u8)) [] J.1),(4,.val i64 J.2)],vr:=[],az:=[] }
noncomputable def b0 (self:((List UInt8)×Int)->Y) (e0:(List UInt8)->Y) (a1:Arg) (J:(List UInt8)×Int):Y:=bif decide (J.2 < (64:Int)) then (if 0<=J.2/\J.2 < (J.1.length:Int) then ((J.1[J.2.toNat]?).bind λa7=>self (J.1.set J.2.toNat a1.1,af (J.2+(1:Int)))) else none) else e0 J.1
noncomputable def q0 (a1:Arg) (oC:(List UInt8)):Y:=if 0<=(0:Int)/\(0:Int) < (oC.length:Int) then ((oC[0]?).bind λeo=>if 0<=(1:Int)/\(1:Int) < ((oC.set 0 (0:UInt8)).length:Int) then (((oC.set 0 (0:UInt8))[1]?).bind λqz=>let DW:=(oC.set 0 (0:UInt8)).set 1 (64:UInt8);some (DW,())) else none) else none
noncomputable def s0 (k:Nat) (a1:Arg):((List UInt8)×Int)->Y:=λJ=>D.L k [1,1,0,1,0,0] [0,3,4] [] (ag 0 (ay (D.N k [1,1,1]) D.K0)) (T0 a1 J)
noncomputable def r0 (k:Nat) (a1:Arg):((List UInt8)×Int)->Y:=ak (λw v=>b0 w (q0 a1) a1 v) k
theorem aw (k:Nat) (a1:Arg):s0 k a1=r0 k a1:=
 funext λJ=>av _ _ _ (T0 a1) _ (λrec v=>by kernel_rfl) k J
noncomputable def p (l0:((List UInt8)×Int)->Y) (a1:Arg):Y:=if 0<=(64:Int)/\(64:Int)<=(64:Int)/\(64:Int)<=(cc:Int) then (l0 (List.replicate 64 (0:UInt8),(0:Int))) else none
theorem ae (k:Nat) (a1:Arg):@Eq Y (D.W k a1) (p (r0 k a1) a1):=
 aU (b:=p (s0 k a1) a1) (by kernel_rfl) (by rw[aw])
theorem ok:Ok prog 138 D.sig:=au func138 aT (by kernel_rfl) (aj _)
end nz
namespace lm
abbrev Arg:Type:=(List UInt8)×(List gu)×Unit
abbrev Out:Type:=(List UInt8)×Unit
abbrev Y:=Option Out
noncomputable def D:FD:={ fn:=f139,tl:=bd,ps:=[(.ro,(.U u8)),(.ro,(.U xB))],rs:=[((.U u8),(an (.U u8)))],gl:=[(18,gr.D.sig)],lv:=[(3,[1,5,6])],lx:=[(0,[5])],od:=[(5,[0,1,2,3,4,5,6,7,8,9,10,11,12])] }
noncomputable def aa (a:Arg):Y:=@lift Out λk=>D.W k a
noncomputable def T0 (a1:Arg) (bn:(List UInt8)×Int):St:={ n:=29,sl:=[(1,.val (.U xB) a1.2.1),(5,.own (.U u8) (an (.U u8)) [] bn.1),(6,.val i64 bn.2)],vr:=[],az:=[] }
noncomputable def b0 (self:((List UInt8)×Int)->Y) (e0:(List UInt8)->Y) (a1:Arg) (bn:(List UInt8)×Int):Y:=bif decide (bn.2 < (a1.2.1.length:Int)) then (if 0<=bn.2 then ((a1.2.1[bn.2.toNat]?).bind λen=>if 0<=en.1/\en.1<=(bn.1.length:Int) then (if 0<=bn.2 then ((a1.2.1[bn.2.toNat]?).bind λeo=>let sj:=sg bn.1 en.1.toNat (min eo.2.1.length (bn.1.length - en.1.toNat)) eo.2.1;self (sj,af (bn.2+(1:Int)))) else none) else none) else none) else e0 bn.1
noncomputable def q0 (a1:Arg) (mO:(List UInt8)):Y:=some (mO,())
noncomputable def s0 (k:Nat) (a1:Arg):((List UInt8)×Int)->Y:=λbn=>D.L k [1,1,0,1,0,0] [1,5,6] [] (ag 0 (ay (D.N k [1,1,1]) D.K0)) (T0 a1 bn)
noncomputable def r0 (k:Nat) (a1:Arg):((List UInt8)×Int)->Y:=ak (λw v=>b0 w (q0 a1) a1 v) k
theorem aw (k:Nat) (a1:Arg):s0 k a1=r0 k a1:=
 funext λbn=>av _ _ _ (T0 a1) _ (λrec v=>by kernel_rfl) k bn
noncomputable def p (l0:((List UInt8)×Int)->Y) (a1:Arg):Y:=(gr.aa (a1.1,())).bind λr2=>l0 (r2.1,(0:Int))
theorem ae (k:Nat) (a1:Arg):@Eq Y (D.W k a1) (p (r0 k a1) a1):=
 aU (b:=p (s0 k a1) a1) (by kernel_rfl) (by rw[aw])
theorem ok:Ok prog 139 D.sig:=au func139 aT (by kernel_rfl) (fc gr.ok (aj _))
end lm
namespace dw
abbrev Arg:Type:=(List (List UInt8))×bg×Unit
abbrev Out:Type:=Bg×Unit
abbrev Y:=Option Out
noncomputable def D:FD:={ fn:=f85,tl:=bd,ps:=[(.ro,(.U (.U u8))),(.ro,d9)],rs:=[(rm,(an rm))],gl:=[(134,pM.D.sig),(135,nm.D.sig),(136,lz.D.sig),(137,nw.D.sig),(138,nz.D.sig),(139,lm.D.sig)],lv:=[(4,[0,3,4,5])],lx:=[(0,[0,3,4])],od:=[(20,[0,1,2,3,4,5,6]),(21,[0,1,2,3,4,5,6,7,8,9,10,11,12,13,14])] }
noncomputable def aa (a:Arg):Y:=@lift Out λk=>D.W k a
noncomputable def T0 (a1:Arg) (bn:Int):St:={ n:=75,sl:=[(0,.val (.U (.U u8)) a1.1),(3,.box d9 (ax d9) [] a1.2.1),(4,.box rm (an rm) [] ((0:Int),([]:List gu),([]:List (List UInt8)),())),(5,.val i64 bn)],vr:=[],az:=[] }
noncomputable def b0 (self:Int->Y) (e0:(Unit)->Y) (a1:Arg) (bn:Int):Y:=bif decide (bn < (a1.1.length:Int)) then (if 0<=bn then ((a1.1[bn.toNat]?).bind λen=>bif !decide ((en.length:Int)=(64:Int)) then ((pM.aa ((1:Int),())).bind λjZ=>some (jZ.1,())) else self (af (bn+(1:Int)))) else none) else e0 ()
noncomputable def q0 (a1:Arg) (oD:(Unit)):Y:=(nm.aa (a1.2.1,())).bind λmP=>bif !decide (mP.1=(0:Int)) then ((pM.aa (mP.1,())).bind λvn=>some (vn.1,())) else (lz.aa (a1.1,())).bind λyD=>(nw.aa (a1.2.1.1,())).bind λyE=>bif !yE.1 then (some (((0:Int),([]:List gu),yD.1,()),())) else bif decide ((a1.1.length:Int) < a1.2.1.2.2.1) then ((pM.aa ((1:Int),())).bind λUE=>some (UE.1,())) else bif decide (a1.2.1.2.2.1=(12:Int)) then ((pM.aa ((2:Int),())).bind λUD=>some (UD.1,())) else let LT:=λ(Cq:Bg)=>(if 0<=a1.2.1.2.2.1/\a1.2.1.2.2.1 < (Cq.2.2.1.length:Int) then ((Cq.2.2.1[a1.2.1.2.2.1.toNat]?).bind λCr=>(Cq.2.2.1[a1.2.1.2.2.1.toNat]?).bind λUF=>(lm.aa (UF,a1.2.1.2.2.2.1,())).bind λUG=>if 0<=a1.2.1.2.2.1/\a1.2.1.2.2.1 < (Cq.2.2.1.length:Int) then ((Cq.2.2.1[a1.2.1.2.2.1.toNat]?).bind λabA=>some ((Cq.1,Cq.2.1,Cq.2.2.1.set a1.2.1.2.2.1.toNat UG.1,Cq.2.2.2),())) else none) else none:Y);bif decide (a1.2.1.2.2.1=(a1.1.length:Int)) then ((nz.aa ((0:UInt8),())).bind λP6=>if yD.1.length+[P6.1].length<=cc then (LT ((0:Int),([]:List gu),yD.1++[P6.1],())) else none) else LT ((0:Int),([]:List gu),yD.1,())
noncomputable def s0 (k:Nat) (a1:Arg):(Int)->Y:=λbn=>D.L k [1,1,0,1,0,0] [0,3,4,5] [] (ag 0 (ay (D.N k [1,1,1]) D.K0)) (T0 a1 bn)
noncomputable def r0 (k:Nat) (a1:Arg):(Int)->Y:=ak (λw v=>b0 w (q0 a1) a1 v) k
theorem aw (k:Nat) (a1:Arg):s0 k a1=r0 k a1:=
 funext λbn=>av _ _ _ (T0 a1) _ (λrec v=>by kernel_rfl) k bn
noncomputable def p (l0:(Int)->Y) (a1:Arg):Y:=bif decide ((12:Int) < (a1.1.length:Int)) then ((pM.aa ((2:Int),())).bind λr2=>some (r2.1,())) else l0 (0:Int)
theorem ae (k:Nat) (a1:Arg):@Eq Y (D.W k a1) (p (r0 k a1) a1):=
 aU (b:=p (s0 k a1) a1) (by kernel_rfl) (by rw[aw])
theorem ok:Ok prog 85 D.sig:=au func85 aT (by kernel_rfl) (fc pM.ok (fc nm.ok (fc lz.ok (fc nw.ok (fc nz.ok (fc lm.ok (aj _)))))))
end dw
namespace mD
abbrev Arg:Type:=(List bg)×Unit
abbrev Out:Type:=(List (List UInt8))×Int×Unit
abbrev Y:=Option Out
noncomputable def D:FD:={ fn:=f43,tl:=bd,ps:=[(.ro,(.U d9))],rs:=[((.U (.U u8)),(an (.U (.U u8)))),(i64,(ax i64))],gl:=[(85,dw.D.sig)],lv:=[(3,[0,4,5])],lx:=[(0,[4])],od:=[(7,[0,1,2,3])] }
noncomputable def aa (a:Arg):Y:=@lift Out λk=>D.W k a
noncomputable def T0 (a1:Arg) (J:(List (List UInt8))×Int):St:={ n:=28,sl:=[(0,.val (.U d9) a1.1),(4,.own (.U (.U u8)) (an (.U (.U u8))) [] J.1),(5,.val i64 J.2)],vr:=[],az:=[] }
noncomputable def b0 (self:((List (List UInt8))×Int)->Y) (e0:(List (List UInt8))->Y) (a1:Arg) (J:(List (List UInt8))×Int):Y:=bif decide (J.2 < (a1.1.length:Int)) then (if 0<=J.2 then ((a1.1[J.2.toNat]?).bind λa7=>(dw.aa (J.1,a7,())).bind λdv=>bif !decide (dv.1.1=(0:Int)) then (some (([]:List (List UInt8)),dv.1.1,())) else self (dv.1.2.2.1,af (J.2+(1:Int)))) else none) else e0 J.1
noncomputable def q0 (a1:Arg) (dz:(List (List UInt8))):Y:=some (dz,(0:Int),())
noncomputable def s0 (k:Nat) (a1:Arg):((List (List UInt8))×Int)->Y:=λJ=>D.L k [1,1,0,1,0,0] [0,4,5] [] (ag 0 (ay (D.N k [1,1,1]) D.K0)) (T0 a1 J)
noncomputable def r0 (k:Nat) (a1:Arg):((List (List UInt8))×Int)->Y:=ak (λw v=>b0 w (q0 a1) a1 v) k
theorem aw (k:Nat) (a1:Arg):s0 k a1=r0 k a1:=
 funext λJ=>av _ _ _ (T0 a1) _ (λrec v=>by kernel_rfl) k J
noncomputable def p (l0:((List (List UInt8))×Int)->Y) (a1:Arg):Y:=l0 (([]:List (List UInt8)),(0:Int))
theorem ae (k:Nat) (a1:Arg):@Eq Y (D.W k a1) (p (r0 k a1) a1):=
 aU (b:=p (s0 k a1) a1) (by kernel_rfl) (by rw[aw])
theorem ok:Ok prog 43 D.sig:=au func43 aT (by kernel_rfl) (fc dw.ok (aj _))
end mD
namespace oL
abbrev Arg:Type:=Log×Unit
abbrev Out:Type:=(List bg)×Unit
noncomputable def D:FD:={ fn:=f44,tl:=bd,ps:=[(.ro,(.ptr kg))],rs:=[((.U d9),(an (.U d9)))],gl:=[(18,gr.D.sig),(75,jo.D.sig)],od:=[(1,[0,1,2,3,5,6,7,8,4,9,10,11,12,13,14,15])] }
noncomputable def aa (a:Arg):Option Out:=@lift Out λk=>D.W k a
noncomputable def p (a1:Arg):Option Out:=(gr.aa (a1.1.1,())).bind λr2=>if r2.1.length+a1.1.2.1.length<=cc then ((jo.aa (r2.1++a1.1.2.1,())).bind λr3=>some (r3.1,())) else none
theorem ae (k:Nat) (a1:Arg):@Eq (Option Out) (D.W k a1) (p a1):=by kernel_rfl
theorem ok:Ok prog 44 D.sig:=au func44 aT (by kernel_rfl) (fc gr.ok (fc jo.ok (aj _)))
end oL
namespace lV
abbrev Arg:Type:=(List (List UInt8))×(List (List UInt8))×Unit
abbrev Out:Type:=Bool×Unit
abbrev Y:=Option Out
noncomputable def D:FD:={ fn:=f45,tl:=bd,ps:=[(.ro,(.U (.U u8))),(.ro,(.U (.U u8)))],rs:=[(.bool,(ax .bool))],lv:=[(4,[0,1,5])],lx:=[(0,[])],od:=[(6,[0,1,2,3,4,5,6,7,8,9,10])] }
noncomputable def aa (a:Arg):Y:=@lift Out λk=>D.W k a
noncomputable def T0 (a1:Arg) (J:Int):St:={ n:=28,sl:=[(0,.val (.U (.U u8)) a1.1),(1,.val (.U (.U u8)) a1.2.1),(5,.val i64 J)],vr:=[],az:=[] }
noncomputable def b0 (self:Int->Y) (e0:(Unit)->Y) (a1:Arg) (J:Int):Y:=bif decide (J < (a1.1.length:Int)) then (if 0<=J then ((a1.1[J.toNat]?).bind λa7=>if 0<=J then ((a1.2.1[J.toNat]?).bind λen=>bif !decide (a7=en) then (some (false,())) else self (af (J+(1:Int)))) else none) else none) else e0 ()
noncomputable def q0 (a1:Arg) (dz:(Unit)):Y:=some (true,())
noncomputable def s0 (k:Nat) (a1:Arg):(Int)->Y:=λJ=>D.L k [1,1,0,1,0,0] [0,1,5] [] (ag 0 (ay (D.N k [1,1,1]) D.K0)) (T0 a1 J)
noncomputable def r0 (k:Nat) (a1:Arg):(Int)->Y:=ak (λw v=>b0 w (q0 a1) a1 v) k
theorem aw (k:Nat) (a1:Arg):s0 k a1=r0 k a1:=
 funext λJ=>av _ _ _ (T0 a1) _ (λrec v=>by kernel_rfl) k J
noncomputable def p (l0:(Int)->Y) (a1:Arg):Y:=bif !decide ((a1.1.length:Int)=(a1.2.1.length:Int)) then (some (false,())) else l0 (0:Int)
theorem ae (k:Nat) (a1:Arg):@Eq Y (D.W k a1) (p (r0 k a1) a1):=
 aU (b:=p (s0 k a1) a1) (by kernel_rfl) (by rw[aw])
theorem ok:Ok prog 45 D.sig:=au func45 aT (by kernel_rfl) (aj _)
end lV
namespace qp
abbrev Arg:Type:=kJ×Unit
abbrev Out:Type:=Int×Unit
noncomputable def D:FD:={ fn:=f16,tl:=bd,ps:=[(.ro,(.ptr im))],rs:=[(i64,(ax i64))],gl:=[(38,pY.D.sig),(39,bu.D.sig),(40,dp.D.sig),(41,h_.D.sig),(42,o9.D.sig),(43,mD.D.sig),(44,oL.D.sig),(45,lV.D.sig)],od:=[(13,[0,1,2,3,5,6,7,8,9,10,11,12,4,13,14,15])],ar:=[(13,[3,8,12])],pd:=[(13,[14])] }
noncomputable def aa (a:Arg):Option Out:=@lift Out λk=>D.W k a
noncomputable def p (a1:Arg):Option Out:=(pY.aa (a1.1.2.2.1,())).bind λr2=>bif !decide (r2.1=(0:Int)) then (some (r2.1,())) else bif !a1.1.1 then (bif decide ((0:Int) < (a1.1.2.1.length:Int)) then (some ((1:Int),())) else bif decide ((0:Int) < (a1.1.2.2.2.1.length:Int)) then (some ((1:Int),())) else bif decide ((0:Int) < (a1.1.2.2.1.2.1.length:Int)) then (some ((1:Int),())) else (bu.aa (a1.1.2.2.2.2.1,(1:Int),(100:Int),())).bind λr3=>bif !r3.1 then (some ((3:Int),())) else some ((0:Int),())) else (dp.aa (a1.1.2.1,())).bind λr4=>bif !decide (r4.1=(0:Int)) then (some (r4.1,())) else (h_.aa (a1.1.2.1,())).bind λr5=>(o9.aa ((r5.1,a1.1.2.2.2.1,a1.1.2.2.2.2.1,()),())).bind λr6=>bif !decide (r6.1=(0:Int)) then (some (r6.1,())) else (oL.aa (a1.1.2.2.1,())).bind λr7=>(mD.aa (r7.1,())).bind λr8=>bif !decide (r8.2.1=(0:Int)) then (some ((8:Int),())) else (lV.aa (r8.1,a1.1.2.1,())).bind λr9=>bif !r9.1 then (some ((8:Int),())) else some ((0:Int),())
theorem ae (k:Nat) (a1:Arg):@Eq (Option Out) (D.W k a1) (p a1):=by kernel_rfl
theorem ok:Ok prog 16 D.sig:=au func16 aT (by kernel_rfl) (fc pY.ok (fc bu.ok (fc dp.ok (fc h_.ok (fc o9.ok (fc mD.ok (fc oL.ok (fc lV.ok (aj _)))))))))
end qp
namespace lW
abbrev Arg:Type:=Change×Change×Unit
abbrev Out:Type:=Bool×Unit
noncomputable def D:FD:={ fn:=f189,tl:=bd,ps:=[(.ro,(.ptr ai)),(.ro,(.ptr ai))],rs:=[(.bool,(ax .bool))],gl:=[(212,mn.D.sig)] }
noncomputable def aa (a:Arg):Option Out:=@lift Out λk=>D.W k a
noncomputable def p (a1:Arg):Option Out:=(mn.aa (a1.1,())).bind λr2=>(mn.aa (a1.2.1,())).bind λr3=>bif decide (r2.1 < r3.1) then (some (true,())) else bif decide (r2.1=r3.1) then (some (decide (r2.2.1 < r3.2.1),())) else some (false,())
theorem ae (k:Nat) (a1:Arg):@Eq (Option Out) (D.W k a1) (p a1):=by kernel_rfl
theorem ok:Ok prog 189 D.sig:=au func189 aT (by kernel_rfl) (fc mn.ok (aj _))
end lW
namespace ja
abbrev Arg:Type:=(List Change)×Unit
abbrev Out:Type:=Int×Unit
abbrev Y:=Option Out
noncomputable def D:FD:={ fn:=f140,tl:=bd,ps:=[(.ro,(.U ai))],rs:=[(i64,(ax i64))],gl:=[(181,kt.D.sig),(189,lW.D.sig)],lv:=[(4,[0,3])],lx:=[(0,[])],od:=[(9,[0,1,2,3,4,5,6,7,8,9,10,11,12])] }
noncomputable def aa (a:Arg):Y:=@lift Out λk=>D.W k a
noncomputable def T0 (a1:Arg) (J:Int):St:={ n:=34,sl:=[(0,.val (.U ai) a1.1),(3,.val i64 J)],vr:=[],az:=[] }
noncomputable def b0 (self:Int->Y) (e0:(Unit)->Y) (a1:Arg) (J:Int):Y:=bif decide (J < (a1.1.length:Int)) then (if 0<=J then ((a1.1[J.toNat]?).bind λa7=>(kt.aa (a7,())).bind λdv=>bif !decide (dv.1=(0:Int)) then (some (dv.1,())) else bif decide ((0:Int) < J) then (if 0<=af (J - (1:Int)) then ((a1.1[(af (J - (1:Int))).toNat]?).bind λeo=>if 0<=J then ((a1.1[J.toNat]?).bind λqz=>(lW.aa (eo,qz,())).bind λmP=>bif !mP.1 then (some ((1:Int),())) else self (af (J+(1:Int)))) else none) else none) else self (af (J+(1:Int)))) else none) else e0 ()
noncomputable def q0 (a1:Arg) (pi:(Unit)):Y:=some ((0:Int),())
noncomputable def s0 (k:Nat) (a1:Arg):(Int)->Y:=λJ=>D.L k [1,1,0,1,0,0] [0,3] [] (ag 0 (ay (D.N k [1,1,1]) D.K0)) (T0 a1 J)
noncomputable def r0 (k:Nat) (a1:Arg):(Int)->Y:=ak (λw v=>b0 w (q0 a1) a1 v) k
theorem aw (k:Nat) (a1:Arg):s0 k a1=r0 k a1:=
 funext λJ=>av _ _ _ (T0 a1) _ (λrec v=>by kernel_rfl) k J
noncomputable def p (l0:(Int)->Y) (a1:Arg):Y:=bif decide ((60:Int) < (a1.1.length:Int)) then (some ((2:Int),())) else l0 (0:Int)
theorem ae (k:Nat) (a1:Arg):@Eq Y (D.W k a1) (p (r0 k a1) a1):=
 aU (b:=p (s0 k a1) a1) (by kernel_rfl) (by rw[aw])
theorem ok:Ok prog 140 D.sig:=au func140 aT (by kernel_rfl) (fc kt.ok (fc lW.ok (aj _)))
end ja
namespace jx
abbrev Arg:Type:=dg×Int×Unit
abbrev Out:Type:=Int×Unit
abbrev Y:=Option Out
noncomputable def D:FD:={ fn:=f141,tl:=bd,ps:=[(.ro,(.ptr ei)),(.ro,i64)],rs:=[(i64,(ax i64))],lv:=[(2,[0,1,5])],lx:=[(0,[])] }
noncomputable def aa (a:Arg):Y:=@lift Out λk=>D.W k a
noncomputable def T0 (a1:Arg) (J:Int):St:={ n:=26,sl:=[(0,.cp ei a1.1),(1,.val i64 a1.2.1),(5,.val i64 J)],vr:=[],az:=[] }
noncomputable def b0 (self:Int->Y) (e0:(Unit)->Y) (a1:Arg) (J:Int):Y:=bif decide (J < (a1.1.2.1.length:Int)) then (if 0<=J then ((a1.1.2.1[J.toNat]?).bind λa7=>bif decide (a7.1=a1.2.1) then (some (J,())) else self (af (J+(1:Int)))) else none) else e0 ()
noncomputable def q0 (a1:Arg) (oC:(Unit)):Y:=some ((-1:Int),())
noncomputable def s0 (k:Nat) (a1:Arg):(Int)->Y:=λJ=>D.L k [1,0,1,0,0] [0,1,5] [] (ag 0 (ay (D.N k [1,1]) D.K0)) (T0 a1 J)
noncomputable def r0 (k:Nat) (a1:Arg):(Int)->Y:=ak (λw v=>b0 w (q0 a1) a1 v) k
theorem aw (k:Nat) (a1:Arg):s0 k a1=r0 k a1:=
 funext λJ=>av _ _ _ (T0 a1) _ (λrec v=>by kernel_rfl) k J
noncomputable def p (l0:(Int)->Y) (a1:Arg):Y:=l0 (0:Int)
theorem ae (k:Nat) (a1:Arg):@Eq Y (D.W k a1) (p (r0 k a1) a1):=
 aU (b:=p (s0 k a1) a1) (by kernel_rfl) (by rw[aw])
theorem ok:Ok prog 141 D.sig:=au func141 aT (by kernel_rfl) (aj _)
end jx
namespace ln
abbrev Arg:Type:=dg×Unit
abbrev Out:Type:=Int×Unit
abbrev Y:=Option Out
noncomputable def D:FD:={ fn:=f86,tl:=bd,ps:=[(.ro,(.ptr ei))],rs:=[(i64,(ax i64))],gl:=[(39,bu.D.sig),(40,dp.D.sig),(140,ja.D.sig),(141,jx.D.sig)],lv:=[(7,[0,4])],lx:=[(0,[])] }
noncomputable def aa (a:Arg):Y:=@lift Out λk=>D.W k a
noncomputable def T0 (a1:Arg) (bn:Int):St:={ n:=63,sl:=[(0,.cp ei a1.1),(4,.val i64 bn)],vr:=[],az:=[] }
noncomputable def b0 (self:Int->Y) (e0:(Unit)->Y) (a1:Arg) (bn:Int):Y:=bif decide (bn < (a1.1.2.1.length:Int)) then (if 0<=bn then ((a1.1.2.1[bn.toNat]?).bind λen=>(bu.aa (en.1,(1:Int),(99:Int),())).bind λjZ=>bif !jZ.1 then (some ((3:Int),())) else if 0<=bn then ((a1.1.2.1[bn.toNat]?).bind λqz=>(ja.aa (qz.2.1,())).bind λmP=>bif !decide (mP.1=(0:Int)) then (some (mP.1,())) else if 0<=bn then ((a1.1.2.1[bn.toNat]?).bind λDV=>(jx.aa (a1.1,DV.1,())).bind λyD=>bif !decide (yD.1=bn) then (some ((6:Int),())) else self (af (bn+(1:Int)))) else none) else none) else none) else e0 ()
noncomputable def q0 (a1:Arg) (Zc:(Unit)):Y:=some ((0:Int),())
noncomputable def s0 (k:Nat) (a1:Arg):(Int)->Y:=λbn=>D.L k [1,1,1,0,1,0,0] [0,4] [] (ag 0 (ay (D.N k [1,1,1,1]) D.K0)) (T0 a1 bn)
noncomputable def r0 (k:Nat) (a1:Arg):(Int)->Y:=ak (λw v=>b0 w (q0 a1) a1 v) k
theorem aw (k:Nat) (a1:Arg):s0 k a1=r0 k a1:=
 funext λbn=>av _ _ _ (T0 a1) _ (λrec v=>by kernel_rfl) k bn
noncomputable def p (l0:(Int)->Y) (a1:Arg):Y:=(dp.aa (a1.1.1,())).bind λr2=>bif !decide (r2.1=(0:Int)) then (some (r2.1,())) else bif decide ((8:Int) < (a1.1.2.1.length:Int)) then (some ((2:Int),())) else l0 (0:Int)
theorem ae (k:Nat) (a1:Arg):@Eq Y (D.W k a1) (p (r0 k a1) a1):=
 aU (b:=p (s0 k a1) a1) (by kernel_rfl) (by rw[aw])
theorem ok:Ok prog 86 D.sig:=au func86 aT (by kernel_rfl) (fc bu.ok (fc dp.ok (fc ja.ok (fc jx.ok (aj _)))))
end ln
namespace nS
abbrev Arg:Type:=di×Unit
abbrev Out:Type:=Int×Unit
noncomputable def D:FD:={ fn:=f46,tl:=bd,ps:=[(.ro,(.ptr d6))],rs:=[(i64,(ax i64))],gl:=[(39,bu.D.sig),(86,ln.D.sig)],od:=[(7,[0,1,2,3,4,5,6,7,8,9,10,11,12,13,14,15,16,17])],ar:=[(7,[3,10,14])] }
noncomputable def aa (a:Arg):Option Out:=@lift Out λk=>D.W k a
noncomputable def p (a1:Arg):Option Out:=(ln.aa (a1.1.1,())).bind λr2=>bif !decide (r2.1=(0:Int)) then (some (r2.1,())) else (ln.aa (a1.1.2.2.1,())).bind λr3=>bif !decide (r3.1=(0:Int)) then (some (r3.1,())) else (bu.aa (a1.1.2.1,(0:Int),(16000:Int),())).bind λr4=>bif !r4.1 then (some ((3:Int),())) else (bu.aa (a1.1.2.2.2.1,(0:Int),a1.1.2.1,())).bind λr5=>bif !r5.1 then (some ((3:Int),())) else some ((0:Int),())
theorem ae (k:Nat) (a1:Arg):@Eq (Option Out) (D.W k a1) (p a1):=by kernel_rfl
theorem ok:Ok prog 46 D.sig:=au func46 aT (by kernel_rfl) (fc bu.ok (fc ln.ok (aj _)))
end nS
namespace k_
abbrev Arg:Type:=(List Buffer)×Unit
abbrev Out:Type:=(List Buffer)×Unit
abbrev Y:=Option Out
noncomputable def D:FD:={ fn:=f142,tl:=bd,ps:=[(.ro,(.U bj))],rs:=[((.U bj),(an (.U bj)))],lv:=[(3,[0,3,4])],lx:=[(0,[3])],od:=[(5,[0,1,2,3,4,5,7,8,9,10,11,6,12,13,14,15,16])],ar:=[(5,[5,11])] }
noncomputable def aa (a:Arg):Y:=@lift Out λk=>D.W k a
noncomputable def T0 (a1:Arg) (J:(List Buffer)×Int):St:={ n:=29,sl:=[(0,.val (.U bj) a1.1),(3,.own (.U bj) (an (.U bj)) [] J.1),(4,.val i64 J.2)],vr:=[],az:=[] }
noncomputable def b0 (self:((List Buffer)×Int)->Y) (e0:(List Buffer)->Y) (a1:Arg) (J:(List Buffer)×Int):Y:=bif decide (J.2 < (a1.1.length:Int)) then (if 0<=J.2 then ((a1.1[J.2.toNat]?).bind λa7=>if 0<=J.2 then ((a1.1[J.2.toNat]?).bind λen=>if ([]:List Change).length+en.2.1.length<=cc then (if J.1.length+[(a7.1,([]:List Change)++en.2.1,())].length<=cc then (let UH:=J.1++[(a7.1,([]:List Change)++en.2.1,())];self (UH,af (J.2+(1:Int)))) else none) else none) else none) else none) else e0 J.1
noncomputable def q0 (a1:Arg) (oD:(List Buffer)):Y:=some (oD,())
noncomputable def s0 (k:Nat) (a1:Arg):((List Buffer)×Int)->Y:=λJ=>D.L k [1,1,0,1,0,0] [0,3,4] [] (ag 0 (ay (D.N k [1,1,1]) D.K0)) (T0 a1 J)
noncomputable def r0 (k:Nat) (a1:Arg):((List Buffer)×Int)->Y:=ak (λw v=>b0 w (q0 a1) a1 v) k
theorem aw (k:Nat) (a1:Arg):s0 k a1=r0 k a1:=
 funext λJ=>av _ _ _ (T0 a1) _ (λrec v=>by kernel_rfl) k J
noncomputable def p (l0:((List Buffer)×Int)->Y) (a1:Arg):Y:=l0 (([]:List Buffer),(0:Int))
theorem ae (k:Nat) (a1:Arg):@Eq Y (D.W k a1) (p (r0 k a1) a1):=
 aU (b:=p (s0 k a1) a1) (by kernel_rfl) (by rw[aw])
theorem ok:Ok prog 142 D.sig:=au func142 aT (by kernel_rfl) (aj _)
end k_
namespace fw
abbrev Arg:Type:=dg×Unit
abbrev Out:Type:=dg×Unit
noncomputable def D:FD:={ fn:=f87,tl:=bd,ps:=[(.ro,ei)],rs:=[(ei,(an ei))],gl:=[(136,lz.D.sig),(142,k_.D.sig)],od:=[(1,[0,1,3,4,2,5,6,7])] }
noncomputable def aa (a:Arg):Option Out:=@lift Out λk=>D.W k a
noncomputable def p (a1:Arg):Option Out:=(lz.aa (a1.1.1,())).bind λr2=>(k_.aa (a1.1.2.1,())).bind λr3=>some ((r2.1,r3.1,()),())
theorem ae (k:Nat) (a1:Arg):@Eq (Option Out) (D.W k a1) (p a1):=by kernel_rfl
theorem ok:Ok prog 87 D.sig:=au func87 aT (by kernel_rfl) (fc lz.ok (fc k_.ok (aj _)))
end fw
namespace p8
abbrev Arg:Type:=di×Unit
abbrev Out:Type:=di×Unit
noncomputable def D:FD:={ fn:=f47,tl:=bd,ps:=[(.ro,d6)],rs:=[(d6,(an d6))],gl:=[(87,fw.D.sig)],od:=[(1,[0,1,3,4,5,6,8,9,2,7,10,11])] }
noncomputable def aa (a:Arg):Option Out:=@lift Out λk=>D.W k a
noncomputable def p (a1:Arg):Option Out:=(fw.aa (a1.1.1,())).bind λr2=>(fw.aa (a1.1.2.2.1,())).bind λr3=>some ((r2.1,a1.1.2.1,r3.1,a1.1.2.2.2.1,()),())
theorem ae (k:Nat) (a1:Arg):@Eq (Option Out) (D.W k a1) (p a1):=by kernel_rfl
theorem ok:Ok prog 47 D.sig:=au func47 aT (by kernel_rfl) (fc fw.ok (aj _))
end p8
namespace pN
abbrev Arg:Type:=Int×Unit
abbrev Out:Type:=ql×Unit
noncomputable def D:FD:={ fn:=f88,tl:=bd,ps:=[(.ro,i64)],rs:=[(rn,(an rn))] }
noncomputable def aa (a:Arg):Option Out:=@lift Out λk=>D.W k a
noncomputable def p (a1:Arg):Option Out:=some ((a1.1,false,((0:Int),(0:Int),([]:List Change),()),((([]:List (List UInt8)),([]:List Buffer),()),(0:Int),(([]:List (List UInt8)),([]:List Buffer),()),(0:Int),()),()),())
theorem ae (k:Nat) (a1:Arg):@Eq (Option Out) (D.W k a1) (p a1):=by kernel_rfl
theorem ok:Ok prog 88 D.sig:=au func88 aT (by kernel_rfl) (aj _)
end pN
namespace j9
abbrev Arg:Type:=Int×Unit
abbrev Out:Type:=mI×Unit
noncomputable def D:FD:={ fn:=f146,tl:=bd,ps:=[(.ro,i64)],rs:=[(lR,(an lR))] }
noncomputable def aa (a:Arg):Option Out:=@lift Out λk=>D.W k a
noncomputable def p (a1:Arg):Option Out:=some ((a1.1,false,false,(0:Int),([]:List Change),(([]:List (List UInt8)),([]:List Buffer),()),()),())
theorem ae (k:Nat) (a1:Arg):@Eq (Option Out) (D.W k a1) (p a1):=by kernel_rfl
theorem ok:Ok prog 146 D.sig:=au func146 aT (by kernel_rfl) (aj _)
end j9
namespace qB
abbrev Arg:Type:=dg×bg×Unit
abbrev Out:Type:=mI×Unit
noncomputable def D:FD:={ fn:=f145,tl:=bd,ps:=[(.ro,ei),(.ro,(.ptr d9))],rs:=[(lR,(.pair (ax i64) (.pair (ax .bool) (.pair (ax .bool) (.pair (ax i64) (.pair (ax (.U ai)) (.pair (.pair (an (.U (.U u8))) (.pair (.U true (ax bj)) (ax .unit))) (ax .unit))))))))],gl:=[(87,fw.D.sig),(141,jx.D.sig),(146,j9.D.sig)],fz:=[(5,5,1)],od:=[(8,[0,1,2,3,4,5,6,7,8,9,10,11,12])] }
noncomputable def aa (a:Arg):Option Out:=@lift Out λk=>D.W k a
noncomputable def p (a1:Arg):Option Out:=(jx.aa (a1.1,a1.2.1.2.1,())).bind λr2=>bif decide (r2.1 < (0:Int)) then ((j9.aa ((4:Int),())).bind λr3=>some (r3.1,())) else (fw.aa (a1.1,())).bind λr4=>if 0<=r2.1/\r2.1<=(r4.1.2.1.length:Int) then (if ([]:List Buffer).length+((r4.1.2.1.take r2.1.toNat).drop 0).length<=cc then (let y5:=([]:List Buffer)++((r4.1.2.1.take r2.1.toNat).drop 0);if 0<=r2.1 then ((r4.1.2.1[r2.1.toNat]?).bind λx6=>if 0<=af (r2.1+(1:Int))/\af (r2.1+(1:Int))<=(r4.1.2.1.length:Int) then (if y5.length+((r4.1.2.1.take r4.1.2.1.length).drop (af (r2.1+(1:Int))).toNat).length<=cc then (let y7:=y5++((r4.1.2.1.take r4.1.2.1.length).drop (af (r2.1+(1:Int))).toNat);some (((0:Int),true,decide (a1.2.1.1=(5:Int)),a1.2.1.2.1,x6.2.1,(r4.1.1,y7,r4.1.2.2),()),())) else none) else none) else none) else none) else none
theorem ae (k:Nat) (a1:Arg):@Eq (Option Out) (D.W k a1) (p a1):=by kernel_rfl
theorem ok:Ok prog 145 D.sig:=au func145 aT (by kernel_rfl) (fc fw.ok (fc jx.ok (fc j9.ok (aj _))))
end qB
namespace ec
abbrev Arg:Type:=(List Row)×(List Row)×Unit
abbrev Out:Type:=(List Change)×Unit
abbrev Y:=Option Out
noncomputable def D:FD:={ fn:=f191,tl:=bd,ps:=[(.ro,(.U ba)),(.ro,(.U ba))],rs:=[((.U ai),(an (.U ai)))],gl:=[(80,i_.D.sig),(213,jw.D.sig)],lv:=[(3,[0,1,5,6]),(9,[0,1,5,7,8])],lx:=[(0,[0,1,5]),(2,[7]),(3,[0,1,5,7,8])],od:=[(5,[0,1,2,3,4,5,6,7,8,9,10,11,12]),(11,[0,1,2,3,4,5,6,7,8,9,10,11,12]),(12,[0,1,2,3,4,5,6,7,8,9,10,11,12]),(13,[0,1,2,3,4,5,6,7,8,9,10,11,12,13,14,15,16])] }
noncomputable def aa (a:Arg):Y:=@lift Out λk=>D.W k a
noncomputable def T0 (a1:Arg) (J:(List Row)×Int):St:={ n:=112,sl:=[(0,.val (.U ba) a1.1),(1,.val (.U ba) a1.2.1),(5,.own (.U ba) (an (.U ba)) [] J.1),(6,.val i64 J.2)],vr:=[],az:=[] }
noncomputable def S0 (rec:RT Out) (a1:Arg):((List Row)×Int)->Y:=λJ=>rec (T0 a1 J)
noncomputable def df (K:KT Out) (a1:Arg):(List Row)->Y:=λz=>K (.exit 0) ({ n:=112,sl:=[(0,.val (.U ba) a1.1),(1,.val (.U ba) a1.2.1),(5,.own (.U ba) (an (.U ba)) [] z)],vr:=[],az:=[] })
noncomputable def b0 (self:((List Row)×Int)->Y) (e0:(List Row)->Y) (a1:Arg) (J:(List Row)×Int):Y:=bif decide (J.2 < (a1.2.1.length:Int)) then (if 0<=J.2 then ((a1.2.1[J.2.toNat]?).bind λa7=>if 0<=J.2 then ((a1.2.1[J.2.toNat]?).bind λen=>(jw.aa (a1.1,a7.1,en.2.1,())).bind λjZ=>bif decide (jZ.1 < (0:Int)) then (if 0<=J.2 then ((a1.2.1[J.2.toNat]?).bind λqz=>(i_.aa (J.1,qz,())).bind λmP=>self (mP.1,af (J.2+(1:Int)))) else none) else self (J.1,af (J.2+(1:Int)))) else none) else none) else e0 J.1
theorem ml (k:Nat) (rec:RT Out) (K:KT Out) (a1:Arg) (J:(List Row)×Int):D.N k [1,1,0,1,0,0] (T0 a1 J) (i7 rec (ff [0,1,5,6] []) K)=b0 (S0 rec a1) (df K a1) a1 J:=by kernel_rfl
noncomputable def T1 (a1:Arg) (ez:List Row) (cq:(List Change)×Int):St:={ n:=112,sl:=[(0,.val (.U ba) a1.1),(1,.val (.U ba) a1.2.1),(5,.own (.U ba) (an (.U ba)) [] ez),(7,.own (.U ai) (an (.U ai)) [] cq.1),(8,.val i64 cq.2)],vr:=[],az:=[] }
noncomputable def b1 (self:((List Change)×Int)->Y) (e2:(List Change)->Y) (a1:Arg) (ez:List Row) (cq:(List Change)×Int):Y:=bif decide (cq.2 < (ez.length:Int)) then (if 0<=cq.2/\cq.2 < (ez.length:Int) then ((ez[cq.2.toNat]?).bind λAL=>if 0<=cq.2/\cq.2 < (ez.length:Int) then ((ez[cq.2.toNat]?).bind λAK=>(jw.aa (a1.1,AL.1,AK.2.1,())).bind λoJ=>if 0<=cq.2/\cq.2 < (ez.length:Int) then ((ez[cq.2.toNat]?).bind λaap=>if 0<=cq.2/\cq.2 < (ez.length:Int) then ((ez[cq.2.toNat]?).bind λaaq=>(jw.aa (a1.2.1,aap.1,aaq.2.1,())).bind λAN=>let P_:Y:=let Wv:=λ(Hm:Change)=>(let Hn:=λ(Ww:Change)=>(if cq.1.length+[Ww].length<=cc then (self (cq.1++[Ww],af (cq.2+(1:Int)))) else none:Y);bif decide ((0:Int)<=AN.1) then (if 0<=AN.1 then ((a1.2.1[AN.1.toNat]?).bind λaar=>Hn (Hm.1,Hm.2.1,Hm.2.2.1,aar,Hm.2.2.2.2)) else none) else Hn Hm:Y);bif decide ((0:Int)<=oJ.1) then (if 0<=oJ.1 then ((a1.1[oJ.1.toNat]?).bind λaas=>Wv (decide ((0:Int)<=oJ.1),aas,decide ((0:Int)<=AN.1),((0:Int),(0:Int),(0:Int),([]:List UInt8),()),())) else none) else Wv (decide ((0:Int)<=oJ.1),((0:Int),(0:Int),(0:Int),([]:List UInt8),()),decide ((0:Int)<=AN.1),((0:Int),(0:Int),(0:Int),([]:List UInt8),()),());bif decide ((0:Int)<=oJ.1) then (bif decide ((0:Int)<=AN.1) then (if 0<=oJ.1 then ((a1.1[oJ.1.toNat]?).bind λaat=>if 0<=AN.1 then ((a1.2.1[AN.1.toNat]?).bind λaau=>bif (Ty.eq ba aat aau) then (self (cq.1,af (cq.2+(1:Int)))) else P_) else none) else none) else P_) else P_) else none) else none) else none) else none) else e2 cq.1
noncomputable def q1 (a1:Arg) (ez:List Row) (aav:(List Change)):Y:=some (aav,())
noncomputable def s1 (k:Nat) (a1:Arg):(List Row)->((List Change)×Int)->Y:=λez=>λcq=>D.L k [1,1,1,1,0,1,0,0] [0,1,5,7,8] [] (ag 2 (ay (D.N k [1,1,1,1,1]) D.K0)) (T1 a1 ez cq)
noncomputable def r1 (k:Nat) (a1:Arg):(List Row)->((List Change)×Int)->Y:=λez=>ak (λw v=>b1 w (q1 a1 ez) a1 ez v) k
theorem mm (k:Nat) (a1:Arg):s1 k a1=r1 k a1:=
 funext λez=>funext λcq=>av _ _ _ (T1 a1 ez) _ (λrec v=>by kernel_rfl) k cq
noncomputable def q0 (l1:(List Row)->((List Change)×Int)->Y) (a1:Arg) (pi:(List Row)):Y:=l1 pi (([]:List Change),(0:Int))
noncomputable def Q0 (k:Nat) (a1:Arg) (pi:(List Row)):Y:=q0 (r1 k a1) a1 pi
theorem qA (k:Nat) (a1:Arg) (pi:(List Row)):df (ag 0 (ay (D.N k [1,1,1]) D.K0)) a1 pi=Q0 k a1 pi:=
 aU (b:=q0 (s1 k a1) a1 pi) (by kernel_rfl) (by rw[mm];rfl)
noncomputable def s0 (k:Nat) (a1:Arg):((List Row)×Int)->Y:=λJ=>D.L k [1,1,0,1,0,0] [0,1,5,6] [] (ag 0 (ay (D.N k [1,1,1]) D.K0)) (T0 a1 J)
noncomputable def r0 (k:Nat) (a1:Arg):((List Row)×Int)->Y:=ak (λw v=>b0 w (Q0 k a1) a1 v) k
theorem aw (k:Nat) (a1:Arg):s0 k a1=r0 k a1:=by
 funext J;have h0:df (ag 0 (ay (D.N k [1,1,1]) D.K0)) a1=Q0 k a1:=funext λz=>qA k a1 z;refine (av _ _ _ (T0 a1) (λself v=>b0 self (df (ag 0 (ay (D.N k [1,1,1]) D.K0)) a1) a1 v) (λrec v=>ml k rec (ag 0 (ay (D.N k [1,1,1]) D.K0)) a1 v) k J).trans ?_;rw[h0];rfl
noncomputable def p (l0:((List Row)×Int)->Y) (a1:Arg):Y:=if ([]:List Row).length+a1.1.length<=cc then (l0 (([]:List Row)++a1.1,(0:Int))) else none
theorem ae (k:Nat) (a1:Arg):@Eq Y (D.W k a1) (p (r0 k a1) a1):=
 aU (b:=p (s0 k a1) a1) (by kernel_rfl) (by rw[aw])
theorem ok:Ok prog 191 D.sig:=au func191 aT (by kernel_rfl) (fc i_.ok (fc jw.ok (aj _)))
end ec
namespace lA
abbrev Arg:Type:=(List Change)×Change×Unit
abbrev Out:Type:=(List Change)×Bool×Unit
abbrev Y:=Option Out
noncomputable def D:FD:={ fn:=f214,tl:=bd,ps:=[(.ro,(.U ai)),(.ro,ai)],rs:=[((.U ai),(an (.U ai))),(.bool,(ax .bool))],gl:=[(189,lW.D.sig)],lv:=[(4,[0,3,6,7,8])],lx:=[(0,[3,6,7]),(1,[0,3,6,7,8])] }
noncomputable def aa (a:Arg):Y:=@lift Out λk=>D.W k a
noncomputable def T0 (a1:Arg) (J:(List Change)×Bool×Int):St:={ n:=88,sl:=[(0,.val (.U ai) a1.1),(3,.box ai (ax ai) [] a1.2.1),(6,.own (.U ai) (an (.U ai)) [] J.1),(7,.val .bool J.2.1),(8,.val i64 J.2.2)],vr:=[],az:=[] }
noncomputable def b0 (self:((List Change)×Bool×Int)->Y) (e0:((List Change)×Bool)->Y) (a1:Arg) (J:(List Change)×Bool×Int):Y:=bif decide (J.2.2 < (a1.1.length:Int)) then (if 0<=J.2.2 then ((a1.1[J.2.2.toNat]?).bind λa7=>let UI:=λ(DY:List Change) (Ze:Bool)=>((lW.aa (a7,a1.2.1,())).bind λIC=>bif IC.1 then (if DY.length+[a7].length<=cc then (self (DY++[a7],Ze,af (J.2.2+(1:Int)))) else none) else (lW.aa (a1.2.1,a7,())).bind λabB=>bif abB.1 then (if DY.length+[a7].length<=cc then (self (DY++[a7],Ze,af (J.2.2+(1:Int)))) else none) else let Zf:Y:=let LT:Y:=if DY.length+[(a7.1,a7.2.1,a1.2.1.2.2.1,a1.2.1.2.2.2.1,a7.2.2.2.2)].length<=cc then (let LU:=DY++[(a7.1,a7.2.1,a1.2.1.2.2.1,a1.2.1.2.2.2.1,a7.2.2.2.2)];self (LU,true,af (J.2.2+(1:Int)))) else none;bif (a7.1 == a1.2.1.2.2.1) then (bif !a7.1 then (self (DY,true,af (J.2.2+(1:Int)))) else bif (Ty.eq ba a7.2.1 a1.2.1.2.2.2.1) then (self (DY,true,af (J.2.2+(1:Int)))) else LT) else LT;bif !(a7.2.2.1 == a1.2.1.1) then (some (([]:List Change),false,())) else bif a7.2.2.1 then (bif !(Ty.eq ba a7.2.2.2.1 a1.2.1.2.1) then (some (([]:List Change),false,())) else Zf) else Zf:Y);bif !J.2.1 then ((lW.aa (a1.2.1,a7,())).bind λdv=>bif dv.1 then (if J.1.length+[a1.2.1].length<=cc then (UI (J.1++[a1.2.1]) true) else none) else UI J.1 J.2.1) else UI J.1 J.2.1) else none) else e0 (J.1,J.2.1)
noncomputable def q0 (a1:Arg) (Qa:((List Change)×Bool)):Y:=bif !Qa.2 then (if Qa.1.length+[a1.2.1].length<=cc then (some (Qa.1++[a1.2.1],true,())) else none) else some (Qa.1,true,())
noncomputable def s0 (k:Nat) (a1:Arg):((List Change)×Bool×Int)->Y:=λJ=>D.L k [1,1,1,0,1,0,0] [0,3,6,7,8] [] (ag 0 (ay (D.N k [1,1,1,1]) D.K0)) (T0 a1 J)
noncomputable def r0 (k:Nat) (a1:Arg):((List Change)×Bool×Int)->Y:=ak (λw v=>b0 w (q0 a1) a1 v) k
theorem aw (k:Nat) (a1:Arg):s0 k a1=r0 k a1:=
 funext λJ=>av _ _ _ (T0 a1) _ (λrec v=>by kernel_rfl) k J
noncomputable def p (l0:((List Change)×Bool×Int)->Y) (a1:Arg):Y:=l0 (([]:List Change),false,(0:Int))
theorem ae (k:Nat) (a1:Arg):@Eq Y (D.W k a1) (p (r0 k a1) a1):=
 aU (b:=p (s0 k a1) a1) (by kernel_rfl) (by rw[aw])
theorem ok:Ok prog 214 D.sig:=au func214 aT (by kernel_rfl) (fc lW.ok (aj _))
end lA
namespace nH
abbrev Arg:Type:=(List Change)×Change×Unit
abbrev Out:Type:=Buffer×Unit
noncomputable def D:FD:={ fn:=f192,tl:=bd,ps:=[(.ro,(.U ai)),(.ro,ai)],rs:=[(bj,(an bj))],gl:=[(140,ja.D.sig),(181,kt.D.sig),(214,lA.D.sig)] }
noncomputable def aa (a:Arg):Option Out:=@lift Out λk=>D.W k a
noncomputable def p (a1:Arg):Option Out:=(ja.aa (a1.1,())).bind λr2=>bif !decide (r2.1=(0:Int)) then (some ((r2.1,([]:List Change),()),())) else (kt.aa (a1.2.1,())).bind λr3=>bif !decide (r3.1=(0:Int)) then (some ((r3.1,([]:List Change),()),())) else (lA.aa (a1.1,a1.2.1,())).bind λr4=>bif !r4.2.1 then (some (((8:Int),([]:List Change),()),())) else some (((0:Int),r4.1,()),())
theorem ae (k:Nat) (a1:Arg):@Eq (Option Out) (D.W k a1) (p a1):=by kernel_rfl
theorem ok:Ok prog 192 D.sig:=au func192 aT (by kernel_rfl) (fc ja.ok (fc kt.ok (fc lA.ok (aj _))))
end nH
namespace l_
abbrev Arg:Type:=dg×bg×Unit
abbrev Out:Type:=mI×Unit
abbrev Y:=Option Out
noncomputable def D:FD:={ fn:=f147,tl:=bd,ps:=[(.ro,ei),(.ro,(.ptr d9))],rs:=[(lR,(an lR))],gl:=[(40,dp.D.sig),(41,h_.D.sig),(85,dw.D.sig),(87,fw.D.sig),(141,jx.D.sig),(146,j9.D.sig),(191,ec.D.sig),(192,nH.D.sig)],fz:=[(1,1,7),(7,7,0)],lv:=[(18,[4,7,8,9,10])],lx:=[(0,[4,8])],od:=[(1,[0,1,2,3,4,5,6,7]),(7,[0,1,3,4,2,5,6,7]),(20,[0,1,2,3,4,5,6,7,8,9,10,11,12])],ar:=[(1,[4]),(20,[9])],pd:=[(1,[6]),(20,[11])],er:=[(1,[(1,8)]),(20,[(1,13),(5,13)])] }
noncomputable def aa (a:Arg):Y:=@lift Out λk=>D.W k a
noncomputable def T0 (a1:Arg) (yF:List Change) (qC:Int) (sJ:dg×Int):St:={ n:=94,sl:=[(4,.box lR (an lR) [] ((0:Int),false,false,(0:Int),([]:List Change),(([]:List (List UInt8)),([]:List Buffer),()),())),(7,.val (.U ai) yF),(8,.box ei (an ei) [] sJ.1),(9,.val i64 qC),(10,.val i64 sJ.2)],vr:=[],az:=[] }
noncomputable def b0 (self:(dg×Int)->Y) (e0:dg->Y) (a1:Arg) (yF:List Change) (qC:Int) (sJ:dg×Int):Y:=bif decide (sJ.2 < (yF.length:Int)) then (if 0<=qC/\qC < (sJ.1.2.1.length:Int) then ((sJ.1.2.1[qC.toNat]?).bind λID=>bif (qg [.snd,.fst,.idx qC.toNat,.snd,.fst] [.snd,.fst,.idx qC.toNat,.snd,.fst]&&true) then (if 0<=sJ.2 then ((yF[sJ.2.toNat]?).bind λZg=>(sJ.1.2.1[qC.toNat]?).bind λAb=>(nH.aa (Ab.2.1,Zg,())).bind λLV=>bif (qg [.snd,.fst,.idx qC.toNat,.snd,.fst] [.snd,.fst,.idx qC.toNat,.snd,.fst]&&true) then (bif (qg [.snd,.fst,.idx qC.toNat,.snd,.fst] [.snd,.fst,.idx qC.toNat,.snd,.fst]&&true) then (bif !decide (LV.1.1=(0:Int)) then ((j9.aa (LV.1.1,())).bind λDZ=>some (DZ.1,())) else if 0<=qC/\qC < (sJ.1.2.1.length:Int) then ((sJ.1.2.1[qC.toNat]?).bind λCr=>let UJ:=sJ.1.2.1.set qC.toNat (Cr.1,LV.1.2.1,Cr.2.2);self ((sJ.1.1,UJ,sJ.1.2.2),af (sJ.2+(1:Int)))) else none) else none) else none) else none) else none) else none) else e0 sJ.1
noncomputable def q0 (a1:Arg) (yF:List Change) (qC:Int) (Qb:dg):Y:=some (((0:Int),false,false,(0:Int),([]:List Change),Qb,()),())
noncomputable def s0 (k:Nat) (a1:Arg):(List Change)->Int->(dg×Int)->Y:=λyF qC=>λsJ=>D.L k [1,1,1,1,1,1,1,1,1,1,0,1,0,0] [4,7,8,9,10] [] (ag 0 (ay (D.N k [1,1,1,1,1,1,1,1,1,1,1]) D.K0)) (T0 a1 yF qC sJ)
noncomputable def r0 (k:Nat) (a1:Arg):(List Change)->Int->(dg×Int)->Y:=λyF qC=>ak (λw v=>b0 w (q0 a1 yF qC) a1 yF qC v) k
theorem aw (k:Nat) (a1:Arg):s0 k a1=r0 k a1:=
 funext λyF=>funext λqC=>funext λsJ=>av _ _ _ (T0 a1 yF qC) _ (λrec v=>by kernel_rfl) k sJ
noncomputable def p (l0:(List Change)->Int->(dg×Int)->Y) (a1:Arg):Y:=(dw.aa (a1.1.1,a1.2.1,())).bind λr2=>bif !decide (r2.1.1=(0:Int)) then ((j9.aa (r2.1.1,())).bind λr3=>some (r3.1,())) else (dp.aa (r2.1.2.2.1,())).bind λr4=>bif !decide (r4.1=(0:Int)) then ((j9.aa (r4.1,())).bind λr5=>some (r5.1,())) else (h_.aa (a1.1.1,())).bind λr6=>(h_.aa (r2.1.2.2.1,())).bind λr7=>(ec.aa (r6.1,r7.1,())).bind λr8=>(fw.aa (a1.1,())).bind λr9=>bif decide (a1.2.1.1=(4:Int)) then (bif decide ((0:Int) < (r8.1.length:Int)) then ((j9.aa ((8:Int),())).bind λDX=>some (DX.1,())) else some (((0:Int),false,false,(0:Int),([]:List Change),(r2.1.2.2.1,r9.1.2),()),())) else (jx.aa (a1.1,a1.2.1.2.1,())).bind λJs=>bif decide (Js.1 < (0:Int)) then ((j9.aa ((4:Int),())).bind λAc=>some (Ac.1,())) else l0 r8.1 Js.1 ((r2.1.2.2.1,r9.1.2),(0:Int))
theorem ae (k:Nat) (a1:Arg):@Eq Y (D.W k a1) (p (r0 k a1) a1):=
 aU (b:=p (s0 k a1) a1) (by kernel_rfl) (by rw[aw])
theorem ok:Ok prog 147 D.sig:=au func147 aT (by kernel_rfl) (fc dp.ok (fc h_.ok (fc dw.ok (fc fw.ok (fc jx.ok (fc j9.ok (fc ec.ok (fc nH.ok (aj _)))))))))
end l_
namespace qS
abbrev Arg:Type:=dg×bg×Unit
abbrev Out:Type:=mI×Unit
noncomputable def D:FD:={ fn:=f90,tl:=bd,ps:=[(.ro,ei),(.ro,(.ptr d9))],rs:=[(lR,(.pair (ax i64) (.pair (ax .bool) (.pair (ax .bool) (.pair (ax i64) (.pair (ax (.U ai)) (.pair (.pair (an (.U (.U u8))) (.pair (.U true (ax bj)) (ax .unit))) (ax .unit))))))))],gl:=[(87,fw.D.sig),(141,jx.D.sig),(145,qB.D.sig),(146,j9.D.sig),(147,l_.D.sig)],od:=[(11,[0,1,2,3,4,5,6,7,8,9,10])] }
noncomputable def aa (a:Arg):Option Out:=@lift Out λk=>D.W k a
noncomputable def p (a1:Arg):Option Out:=bif decide (a1.2.1.1=(5:Int)) then (bif decide (a1.2.1.1=(5:Int)) then ((qB.aa (a1.1,a1.2.1,())).bind λr2=>some (r2.1,())) else bif decide (a1.2.1.1=(1:Int)) then ((jx.aa (a1.1,a1.2.1.2.1,())).bind λr3=>bif decide ((0:Int)<=r3.1) then ((j9.aa ((6:Int),())).bind λr4=>some (r4.1,())) else bif decide ((8:Int)<=(a1.1.2.1.length:Int)) then ((j9.aa ((2:Int),())).bind λr5=>some (r5.1,())) else (fw.aa (a1.1,())).bind λr6=>if r6.1.2.1.length+[(a1.2.1.2.1,([]:List Change),())].length<=cc then (let y7:=r6.1.2.1++[(a1.2.1.2.1,([]:List Change),())];some (((0:Int),false,false,(0:Int),([]:List Change),(r6.1.1,y7,r6.1.2.2),()),())) else none) else (l_.aa (a1.1,a1.2.1,())).bind λSH=>some (SH.1,())) else bif decide (a1.2.1.1=(6:Int)) then ((qB.aa (a1.1,a1.2.1,())).bind λr8=>some (r8.1,())) else bif decide (a1.2.1.1=(1:Int)) then ((jx.aa (a1.1,a1.2.1.2.1,())).bind λr9=>bif decide ((0:Int)<=r9.1) then ((j9.aa ((6:Int),())).bind λDX=>some (DX.1,())) else bif decide ((8:Int)<=(a1.1.2.1.length:Int)) then ((j9.aa ((2:Int),())).bind λJs=>some (Js.1,())) else (fw.aa (a1.1,())).bind λAc=>if Ac.1.2.1.length+[(a1.2.1.2.1,([]:List Change),())].length<=cc then (let y13:=Ac.1.2.1++[(a1.2.1.2.1,([]:List Change),())];some (((0:Int),false,false,(0:Int),([]:List Change),(Ac.1.1,y13,Ac.1.2.2),()),())) else none) else (l_.aa (a1.1,a1.2.1,())).bind λLR=>some (LR.1,())
theorem ae (k:Nat) (a1:Arg):@Eq (Option Out) (D.W k a1) (p a1):=by kernel_rfl
theorem ok:Ok prog 90 D.sig:=au func90 aT (by kernel_rfl) (fc fw.ok (fc jx.ok (fc qB.ok (fc j9.ok (fc l_.ok (aj _))))))
end qS
namespace p_
abbrev Arg:Type:=di×(List UInt8)×Unit
abbrev Out:Type:=ql×Unit
noncomputable def D:FD:={ fn:=f48,tl:=bd,ps:=[(.ro,d6),(.ro,(.U u8))],rs:=[(rn,(.pair (ax i64) (.pair (ax .bool) (.pair (ax gv) (.pair (.pair (.pair (an (.U (.U u8))) (.pair (.U true (ax bj)) (ax .unit))) (an (dn [i64,ei,i64]))) (ax .unit))))))],gl:=[(87,fw.D.sig),(88,pN.D.sig),(89,lk.D.sig),(90,qS.D.sig)],od:=[(11,[0,1,2,3,4,5,6,7,8,10,11,9,12,13,14,15])],ar:=[(11,[3,5,8,11])],bx:=[(6,[5]),(11,[2])],pd:=[(11,[14])],er:=[(11,[(1,15)])] }
noncomputable def aa (a:Arg):Option Out:=@lift Out λk=>D.W k a
noncomputable def p (a1:Arg):Option Out:=bif decide ((16000:Int) < (a1.2.1.length:Int)) then ((pN.aa ((2:Int),())).bind λr2=>some (r2.1,())) else bif decide ((a1.2.1.length:Int)<=a1.1.2.1) then ((pN.aa ((4:Int),())).bind λr3=>some (r3.1,())) else if 0<=a1.1.2.1/\a1.1.2.1<=(a1.2.1.length:Int) then ((lk.aa ((a1.2.1.take a1.2.1.length).drop a1.1.2.1.toNat,())).bind λr4=>bif !decide (r4.1.1=(0:Int)) then ((pN.aa (r4.1.1,())).bind λr5=>some (r5.1,())) else (qS.aa (a1.1.1,r4.1.2.2.1,())).bind λr6=>bif !decide (r6.1.1=(0:Int)) then ((pN.aa (r6.1.1,())).bind λr7=>some (r7.1,())) else (fw.aa (a1.1.2.2.1,())).bind λr8=>bif r6.1.2.2.1 then (some (((0:Int),true,(af (a1.1.2.1+r4.1.2.1),r6.1.2.2.2.1,r6.1.2.2.2.2.1,()),(r6.1.2.2.2.2.2.1,af (a1.1.2.1+r4.1.2.1),r8.1,a1.1.2.2.2.1,()),()),())) else some (((0:Int),false,((0:Int),(0:Int),([]:List Change),()),(r6.1.2.2.2.2.2.1,af (a1.1.2.1+r4.1.2.1),r8.1,a1.1.2.2.2.1,()),()),())) else none
theorem ae (k:Nat) (a1:Arg):@Eq (Option Out) (D.W k a1) (p a1):=by kernel_rfl
theorem ok:Ok prog 48 D.sig:=au func48 aT (by kernel_rfl) (fc fw.ok (fc pN.ok (fc lk.ok (fc qS.ok (aj _)))))
end p_
namespace mE
abbrev Arg:Type:=di×(List UInt8)×Unit
abbrev Out:Type:=ig×Unit
abbrev Y:=Option Out
noncomputable def D:FD:={ fn:=f17,tl:=bd,ps:=[(.ro,d6),(.ro,(.U u8))],rs:=[(gq,(.pair (ax i64) (.pair (.U true (ax gv)) (ax (dn [d6])))))],gl:=[(46,nS.D.sig),(47,p8.D.sig),(48,p_.D.sig)],lv:=[(7,[1,4,6])],lf:=[(7,[(6,(.pair .leaf (.pair (.U true (.pair .leaf (.pair .leaf (.pair (.U false (.pair .leaf (.pair (.pair .leaf (.pair .leaf (.pair .leaf (.pair .leaf .leaf)))) (.pair .leaf (.pair (.pair .leaf (.pair .leaf (.pair .leaf (.pair .leaf .leaf)))) .leaf))))) .leaf)))) (.pair (.pair (.pair (.U true (.U true .leaf)) (.pair (.U true (.pair .leaf (.pair (.U false (.pair .leaf (.pair (.pair .leaf (.pair .leaf (.pair .leaf (.pair .leaf .leaf)))) (.pair .leaf (.pair (.pair .leaf (.pair .leaf (.pair .leaf (.pair .leaf .leaf)))) .leaf))))) .leaf))) .leaf)) (.pair .leaf (.pair (.pair (.U true (.U true .leaf)) (.pair (.U true (.pair .leaf (.pair (.U true (.pair .leaf (.pair (.pair .leaf (.pair .leaf (.pair .leaf (.pair .leaf .leaf)))) (.pair .leaf (.pair (.pair .leaf (.pair .leaf (.pair .leaf (.pair .leaf .leaf)))) .leaf))))) .leaf))) .leaf)) (.pair .leaf .leaf)))) .leaf))))])] }
noncomputable def aa (a:Arg):Y:=@lift Out λk=>D.W k a
noncomputable def T0 (a1:Arg) (kR:ig):St:={ n:=45,sl:=[(1,.val (.U u8) a1.2.1),(4,.box gq (an gq) [] ((0:Int),([]:List gk),((([]:List (List UInt8)),([]:List Buffer),()),(0:Int),(([]:List (List UInt8)),([]:List Buffer),()),(0:Int),()),())),(6,.box gq (.pair (ax i64) (.pair (.U true (ax gv)) (.pair (.pair (.pair (an (.U (.U u8))) (.pair (.U true (ax bj)) (ax .unit))) (an (dn [i64,ei,i64]))) (ax .unit)))) [] kR)],vr:=[],az:=[] }
noncomputable def b0 (self:ig->Y) (a1:Arg) (kR:ig):Y:=(p_.aa (kR.2.2.1,a1.2.1,())).bind λjZ=>bif !decide (jZ.1.1=(0:Int)) then (some (kR,())) else let Zh:=λ(Zi:ig)=>(bif decide ((40:Int) < (Zi.2.1.length:Int)) then (some (((2:Int),([]:List gk),((([]:List (List UInt8)),([]:List Buffer),()),(0:Int),(([]:List (List UInt8)),([]:List Buffer),()),(0:Int),()),()),())) else self Zi:Y);bif jZ.1.2.1 then (if kR.2.1.length+[jZ.1.2.2.1].length<=cc then (Zh (kR.1,kR.2.1++[jZ.1.2.2.1],jZ.1.2.2.2.1,kR.2.2.2)) else none) else Zh (kR.1,kR.2.1,jZ.1.2.2.2.1,kR.2.2.2)
noncomputable abbrev B0 (_:Nat):=b0
noncomputable def s0 (k:Nat) (a1:Arg):(ig)->Y:=λkR=>D.L k [1,1,1,1,0,0] [1,4,6] [(6,(.pair .leaf (.pair (.U true (.pair .leaf (.pair .leaf (.pair (.U false (.pair .leaf (.pair (.pair .leaf (.pair .leaf (.pair .leaf (.pair .leaf .leaf)))) (.pair .leaf (.pair (.pair .leaf (.pair .leaf (.pair .leaf (.pair .leaf .leaf)))) .leaf))))) .leaf)))) (.pair (.pair (.pair (.U true (.U true .leaf)) (.pair (.U true (.pair .leaf (.pair (.U false (.pair .leaf (.pair (.pair .leaf (.pair .leaf (.pair .leaf (.pair .leaf .leaf)))) (.pair .leaf (.pair (.pair .leaf (.pair .leaf (.pair .leaf (.pair .leaf .leaf)))) .leaf))))) .leaf))) .leaf)) (.pair .leaf (.pair (.pair (.U true (.U true .leaf)) (.pair (.U true (.pair .leaf (.pair (.U true (.pair .leaf (.pair (.pair .leaf (.pair .leaf (.pair .leaf (.pair .leaf .leaf)))) (.pair .leaf (.pair (.pair .leaf (.pair .leaf (.pair .leaf (.pair .leaf .leaf)))) .leaf))))) .leaf))) .leaf)) (.pair .leaf .leaf)))) .leaf))))] (ag 0 D.K0) (T0 a1 kR)
noncomputable def r0 (k:Nat) (a1:Arg):(ig)->Y:=ak (λw v=>B0 k w a1 v) k
theorem aw (k:Nat) (a1:Arg):s0 k a1=r0 k a1:=
 funext λkR=>av _ _ _ (T0 a1) _ (λrec v=>by kernel_rfl) k kR
noncomputable def p (l0:(ig)->Y) (a1:Arg):Y:=(nS.aa (a1.1,())).bind λr2=>bif !decide (r2.1=(0:Int)) then (some ((r2.1,([]:List gk),((([]:List (List UInt8)),([]:List Buffer),()),(0:Int),(([]:List (List UInt8)),([]:List Buffer),()),(0:Int),()),()),())) else bif decide ((16000:Int) < (a1.2.1.length:Int)) then (some (((2:Int),([]:List gk),((([]:List (List UInt8)),([]:List Buffer),()),(0:Int),(([]:List (List UInt8)),([]:List Buffer),()),(0:Int),()),()),())) else (p8.aa (a1.1,())).bind λr3=>l0 ((0:Int),([]:List gk),r3.1,())
theorem ae (k:Nat) (a1:Arg):@Eq Y (D.W k a1) (p (r0 k a1) a1):=
 aU (b:=p (s0 k a1) a1) (by kernel_rfl) (by rw[aw])
theorem ok:Ok prog 17 D.sig:=au func17 aT (by kernel_rfl) (fc nS.ok (fc p8.ok (fc p_.ok (aj _))))
end mE
namespace qT
abbrev Arg:Type:=kJ×Unit
abbrev Out:Type:=ig×Unit
noncomputable def D:FD:={ fn:=f5,tl:=bd,ps:=[(.ro,im)],rs:=[(gq,(.pair (ax i64) (.pair (.U true (ax gv)) (an (dn [d6])))))],gl:=[(16,qp.D.sig),(17,mE.D.sig),(18,gr.D.sig)],fz:=[(4,3,7),(4,7,7)],od:=[(4,[0,1,2,3,5,6,7,4,8,9,10,11])],ar:=[(4,[])],pd:=[(4,[10])],er:=[(4,[(3,12),(7,12)])] }
noncomputable def aa (a:Arg):Option Out:=@lift Out λk=>D.W k a
noncomputable def p (a1:Arg):Option Out:=(qp.aa (a1.1,())).bind λr2=>bif !decide (r2.1=(0:Int)) then (some ((r2.1,([]:List gk),((([]:List (List UInt8)),([]:List Buffer),()),(0:Int),(([]:List (List UInt8)),([]:List Buffer),()),(0:Int),()),()),())) else (gr.aa (a1.1.2.2.1.1,())).bind λr3=>if r3.1.length+a1.1.2.2.1.2.1.length<=cc then ((mE.aa (((([]:List (List UInt8)),([]:List Buffer),()),(0:Int),(([]:List (List UInt8)),([]:List Buffer),()),(0:Int),()),r3.1++a1.1.2.2.1.2.1,())).bind λr4=>bif !decide (r4.1.1=(0:Int)) then (some ((r4.1.1,([]:List gk),((([]:List (List UInt8)),([]:List Buffer),()),(0:Int),(([]:List (List UInt8)),([]:List Buffer),()),(0:Int),()),()),())) else some (((0:Int),r4.1.2.1,((([]:List (List UInt8)),([]:List Buffer),()),(0:Int),(([]:List (List UInt8)),([]:List Buffer),()),(0:Int),()),()),())) else none
theorem ae (k:Nat) (a1:Arg):@Eq (Option Out) (D.W k a1) (p a1):=by kernel_rfl
theorem ok:Ok prog 5 D.sig:=au func5 aT (by kernel_rfl) (fc qp.ok (fc mE.ok (fc gr.ok (aj _))))
end qT
namespace no
abbrev Arg:Type:=(List UInt8)×Unit
abbrev Out:Type:=(List UInt8)×Unit
abbrev Y:=Option Out
noncomputable def D:FD:={ fn:=f49,tl:=bd,ps:=[(.ro,(.U u8))],rs:=[((.U u8),(an (.U u8)))],lv:=[(3,[0,3,4])],lx:=[(0,[3])] }
noncomputable def aa (a:Arg):Y:=@lift Out λk=>D.W k a
noncomputable def T0 (a1:Arg) (J:(List UInt8)×Int):St:={ n:=22,sl:=[(0,.val (.U u8) a1.1),(3,.own (.U u8) (an (.U u8)) [] J.1),(4,.val i64 J.2)],vr:=[],az:=[] }
noncomputable def b0 (self:((List UInt8)×Int)->Y) (e0:(List UInt8)->Y) (a1:Arg) (J:(List UInt8)×Int):Y:=bif decide (J.2 < (a1.1.length:Int)) then (if 0<=J.2 then ((a1.1[J.2.toNat]?).bind λa7=>if 0<=J.2/\J.2 < (J.1.length:Int) then ((J.1[J.2.toNat]?).bind λen=>self (J.1.set J.2.toNat a7,af (J.2+(1:Int)))) else none) else none) else e0 J.1
noncomputable def q0 (a1:Arg) (dz:(List UInt8)):Y:=some (dz,())
noncomputable def s0 (k:Nat) (a1:Arg):((List UInt8)×Int)->Y:=λJ=>D.L k [1,1,0,1,0,0] [0,3,4] [] (ag 0 (ay (D.N k [1,1,1]) D.K0)) (T0 a1 J)
noncomputable def r0 (k:Nat) (a1:Arg):((List UInt8)×Int)->Y:=ak (λw v=>b0 w (q0 a1) a1 v) k
theorem aw (k:Nat) (a1:Arg):s0 k a1=r0 k a1:=
 funext λJ=>av _ _ _ (T0 a1) _ (λrec v=>by kernel_rfl) k J
noncomputable def p (l0:((List UInt8)×Int)->Y) (a1:Arg):Y:=if 0<=(a1.1.length:Int)/\(a1.1.length:Int)<=(a1.1.length:Int)/\(a1.1.length:Int)<=(cc:Int) then (l0 (List.replicate (a1.1.length:Int).toNat (0:UInt8),(0:Int))) else none
theorem ae (k:Nat) (a1:Arg):@Eq Y (D.W k a1) (p (r0 k a1) a1):=
 aU (b:=p (s0 k a1) a1) (by kernel_rfl) (by rw[aw])
theorem ok:Ok prog 49 D.sig:=au func49 aT (by kernel_rfl) (aj _)
end no
namespace rI
abbrev Arg:Type:=(List (List UInt8))×Unit
abbrev Out:Type:=(List (List UInt8))×Unit
abbrev Y:=Option Out
noncomputable def D:FD:={ fn:=f19,tl:=bd,ps:=[(.ro,(.U (.U u8)))],rs:=[((.U (.U u8)),(an (.U (.U u8))))],gl:=[(49,no.D.sig)],lv:=[(3,[0,3,4])],lx:=[(0,[3])] }
noncomputable def aa (a:Arg):Y:=@lift Out λk=>D.W k a
noncomputable def T0 (a1:Arg) (J:(List (List UInt8))×Int):St:={ n:=23,sl:=[(0,.val (.U (.U u8)) a1.1),(3,.own (.U (.U u8)) (an (.U (.U u8))) [] J.1),(4,.val i64 J.2)],vr:=[],az:=[] }
noncomputable def b0 (self:((List (List UInt8))×Int)->Y) (e0:(List (List UInt8))->Y) (a1:Arg) (J:(List (List UInt8))×Int):Y:=bif decide (J.2 < (a1.1.length:Int)) then (if 0<=J.2 then ((a1.1[J.2.toNat]?).bind λa7=>(no.aa (a7,())).bind λdv=>if 0<=J.2/\J.2 < (J.1.length:Int) then ((J.1[J.2.toNat]?).bind λeo=>self (J.1.set J.2.toNat dv.1,af (J.2+(1:Int)))) else none) else none) else e0 J.1
noncomputable def q0 (a1:Arg) (oD:(List (List UInt8))):Y:=some (oD,())
noncomputable def s0 (k:Nat) (a1:Arg):((List (List UInt8))×Int)->Y:=λJ=>D.L k [1,1,0,1,0,0] [0,3,4] [] (ag 0 (ay (D.N k [1,1,1]) D.K0)) (T0 a1 J)
noncomputable def r0 (k:Nat) (a1:Arg):((List (List UInt8))×Int)->Y:=ak (λw v=>b0 w (q0 a1) a1 v) k
theorem aw (k:Nat) (a1:Arg):s0 k a1=r0 k a1:=
 funext λJ=>av _ _ _ (T0 a1) _ (λrec v=>by kernel_rfl) k J
noncomputable def p (l0:((List (List UInt8))×Int)->Y) (a1:Arg):Y:=if 0<=(a1.1.length:Int)/\(a1.1.length:Int)<=(a1.1.length:Int)/\(a1.1.length:Int)<=(cc:Int) then (l0 (List.replicate (a1.1.length:Int).toNat ([]:List UInt8),(0:Int))) else none
theorem ae (k:Nat) (a1:Arg):@Eq Y (D.W k a1) (p (r0 k a1) a1):=
 aU (b:=p (s0 k a1) a1) (by kernel_rfl) (by rw[aw])
theorem ok:Ok prog 19 D.sig:=au func19 aT (by kernel_rfl) (fc no.ok (aj _))
end rI
namespace rV
abbrev Arg:Type:=Log×Unit
abbrev Out:Type:=Log×Unit
noncomputable def D:FD:={ fn:=f20,tl:=bd,ps:=[(.ro,kg)],rs:=[(kg,(an kg))],gl:=[(49,no.D.sig)] }
noncomputable def aa (a:Arg):Option Out:=@lift Out λk=>D.W k a
noncomputable def p (a1:Arg):Option Out:=(no.aa (a1.1.1,())).bind λr2=>(no.aa (a1.1.2.1,())).bind λr3=>some ((r2.1,r3.1,()),())
theorem ae (k:Nat) (a1:Arg):@Eq (Option Out) (D.W k a1) (p a1):=by kernel_rfl
theorem ok:Ok prog 20 D.sig:=au func20 aT (by kernel_rfl) (fc no.ok (aj _))
end rV
namespace qD
abbrev Arg:Type:=Row×Unit
abbrev Out:Type:=Row×Unit
noncomputable def D:FD:={ fn:=f193,tl:=bd,ps:=[(.ro,ba)],rs:=[(ba,(ax ba))] }
noncomputable def aa (a:Arg):Option Out:=@lift Out λk=>D.W k a
noncomputable def p (a1:Arg):Option Out:=some ((a1.1.1,a1.1.2.1,a1.1.2.2.1,a1.1.2.2.2.1,()),())
theorem ae (k:Nat) (a1:Arg):@Eq (Option Out) (D.W k a1) (p a1):=by kernel_rfl
theorem ok:Ok prog 193 D.sig:=au func193 aT (by kernel_rfl) (aj _)
end qD
namespace nT
abbrev Arg:Type:=Change×Unit
abbrev Out:Type:=Change×Unit
noncomputable def D:FD:={ fn:=f148,tl:=bd,ps:=[(.ro,ai)],rs:=[(ai,(ax ai))],gl:=[(193,qD.D.sig)] }
noncomputable def aa (a:Arg):Option Out:=@lift Out λk=>D.W k a
noncomputable def p (a1:Arg):Option Out:=(qD.aa (a1.1.2.1,())).bind λr2=>(qD.aa (a1.1.2.2.2.1,())).bind λr3=>some ((a1.1.1,r2.1,a1.1.2.2.1,r3.1,()),())
theorem ae (k:Nat) (a1:Arg):@Eq (Option Out) (D.W k a1) (p a1):=by kernel_rfl
theorem ok:Ok prog 148 D.sig:=au func148 aT (by kernel_rfl) (fc qD.ok (aj _))
end nT
namespace qW
abbrev Arg:Type:=(List Change)×Unit
abbrev Out:Type:=(List Change)×Unit
abbrev Y:=Option Out
noncomputable def D:FD:={ fn:=f91,tl:=bd,ps:=[(.ro,(.U ai))],rs:=[((.U ai),(an (.U ai)))],gl:=[(148,nT.D.sig)],lv:=[(3,[0,3,4])],lx:=[(0,[3])] }
noncomputable def aa (a:Arg):Y:=@lift Out λk=>D.W k a
noncomputable def T0 (a1:Arg) (J:(List Change)×Int):St:={ n:=23,sl:=[(0,.val (.U ai) a1.1),(3,.own (.U ai) (an (.U ai)) [] J.1),(4,.val i64 J.2)],vr:=[],az:=[] }
noncomputable def b0 (self:((List Change)×Int)->Y) (e0:(List Change)->Y) (a1:Arg) (J:(List Change)×Int):Y:=bif decide (J.2 < (a1.1.length:Int)) then (if 0<=J.2 then ((a1.1[J.2.toNat]?).bind λa7=>(nT.aa (a7,())).bind λdv=>if 0<=J.2/\J.2 < (J.1.length:Int) then ((J.1[J.2.toNat]?).bind λeo=>self (J.1.set J.2.toNat dv.1,af (J.2+(1:Int)))) else none) else none) else e0 J.1
noncomputable def q0 (a1:Arg) (oD:(List Change)):Y:=some (oD,())
noncomputable def s0 (k:Nat) (a1:Arg):((List Change)×Int)->Y:=λJ=>D.L k [1,1,0,1,0,0] [0,3,4] [] (ag 0 (ay (D.N k [1,1,1]) D.K0)) (T0 a1 J)
noncomputable def r0 (k:Nat) (a1:Arg):((List Change)×Int)->Y:=ak (λw v=>b0 w (q0 a1) a1 v) k
theorem aw (k:Nat) (a1:Arg):s0 k a1=r0 k a1:=
 funext λJ=>av _ _ _ (T0 a1) _ (λrec v=>by kernel_rfl) k J
noncomputable def p (l0:((List Change)×Int)->Y) (a1:Arg):Y:=if 0<=(a1.1.length:Int)/\(a1.1.length:Int)<=(a1.1.length:Int)/\(a1.1.length:Int)<=(cc:Int) then (l0 (List.replicate (a1.1.length:Int).toNat (false,((0:Int),(0:Int),(0:Int),([]:List UInt8),()),false,((0:Int),(0:Int),(0:Int),([]:List UInt8),()),()),(0:Int))) else none
theorem ae (k:Nat) (a1:Arg):@Eq Y (D.W k a1) (p (r0 k a1) a1):=
 aU (b:=p (s0 k a1) a1) (by kernel_rfl) (by rw[aw])
theorem ok:Ok prog 91 D.sig:=au func91 aT (by kernel_rfl) (fc nT.ok (aj _))
end qW
namespace rJ
abbrev Arg:Type:=(List Int)×Unit
abbrev Out:Type:=(List Int)×Unit
abbrev Y:=Option Out
noncomputable def D:FD:={ fn:=f92,tl:=bd,ps:=[(.ro,(.U i64))],rs:=[((.U i64),(an (.U i64)))],lv:=[(3,[0,3,4])],lx:=[(0,[3])] }
noncomputable def aa (a:Arg):Y:=@lift Out λk=>D.W k a
noncomputable def T0 (a1:Arg) (J:(List Int)×Int):St:={ n:=22,sl:=[(0,.val (.U i64) a1.1),(3,.own (.U i64) (an (.U i64)) [] J.1),(4,.val i64 J.2)],vr:=[],az:=[] }
noncomputable def b0 (self:((List Int)×Int)->Y) (e0:(List Int)->Y) (a1:Arg) (J:(List Int)×Int):Y:=bif decide (J.2 < (a1.1.length:Int)) then (if 0<=J.2 then ((a1.1[J.2.toNat]?).bind λa7=>if 0<=J.2/\J.2 < (J.1.length:Int) then ((J.1[J.2.toNat]?).bind λen=>self (J.1.set J.2.toNat a7,af (J.2+(1:Int)))) else none) else none) else e0 J.1
noncomputable def q0 (a1:Arg) (dz:(List Int)):Y:=some (dz,())
noncomputable def s0 (k:Nat) (a1:Arg):((List Int)×Int)->Y:=λJ=>D.L k [1,1,0,1,0,0] [0,3,4] [] (ag 0 (ay (D.N k [1,1,1]) D.K0)) (T0 a1 J)
noncomputable def r0 (k:Nat) (a1:Arg):((List Int)×Int)->Y:=ak (λw v=>b0 w (q0 a1) a1 v) k
theorem aw (k:Nat) (a1:Arg):s0 k a1=r0 k a1:=
 funext λJ=>av _ _ _ (T0 a1) _ (λrec v=>by kernel_rfl) k J
noncomputable def p (l0:((List Int)×Int)->Y) (a1:Arg):Y:=if 0<=(a1.1.length:Int)/\(a1.1.length:Int)<=(a1.1.length:Int)/\(a1.1.length:Int)<=(cc:Int) then (l0 (List.replicate (a1.1.length:Int).toNat (0:Int),(0:Int))) else none
theorem ae (k:Nat) (a1:Arg):@Eq Y (D.W k a1) (p (r0 k a1) a1):=
 aU (b:=p (s0 k a1) a1) (by kernel_rfl) (by rw[aw])
theorem ok:Ok prog 92 D.sig:=au func92 aT (by kernel_rfl) (aj _)
end rJ
namespace qE
abbrev Arg:Type:=Key×Unit
abbrev Out:Type:=Key×Unit
noncomputable def D:FD:={ fn:=f149,tl:=bd,ps:=[(.ro,bh)],rs:=[(bh,(ax bh))] }
noncomputable def aa (a:Arg):Option Out:=@lift Out λk=>D.W k a
noncomputable def p (a1:Arg):Option Out:=some ((a1.1.1,a1.1.2.1,()),())
theorem ae (k:Nat) (a1:Arg):@Eq (Option Out) (D.W k a1) (p a1):=by kernel_rfl
theorem ok:Ok prog 149 D.sig:=au func149 aT (by kernel_rfl) (aj _)
end qE
namespace tW
abbrev Arg:Type:=(List Key)×Unit
abbrev Out:Type:=(List Key)×Unit
abbrev Y:=Option Out
noncomputable def D:FD:={ fn:=f93,tl:=bd,ps:=[(.ro,(.U bh))],rs:=[((.U bh),(an (.U bh)))],gl:=[(149,qE.D.sig)],lv:=[(3,[0,3,4])],lx:=[(0,[3])] }
noncomputable def aa (a:Arg):Y:=@lift Out λk=>D.W k a
noncomputable def T0 (a1:Arg) (J:(List Key)×Int):St:={ n:=23,sl:=[(0,.val (.U bh) a1.1),(3,.own (.U bh) (an (.U bh)) [] J.1),(4,.val i64 J.2)],vr:=[],az:=[] }
noncomputable def b0 (self:((List Key)×Int)->Y) (e0:(List Key)->Y) (a1:Arg) (J:(List Key)×Int):Y:=bif decide (J.2 < (a1.1.length:Int)) then (if 0<=J.2 then ((a1.1[J.2.toNat]?).bind λa7=>(qE.aa (a7,())).bind λdv=>if 0<=J.2/\J.2 < (J.1.length:Int) then ((J.1[J.2.toNat]?).bind λeo=>self (J.1.set J.2.toNat dv.1,af (J.2+(1:Int)))) else none) else none) else e0 J.1
noncomputable def q0 (a1:Arg) (oD:(List Key)):Y:=some (oD,())
noncomputable def s0 (k:Nat) (a1:Arg):((List Key)×Int)->Y:=λJ=>D.L k [1,1,0,1,0,0] [0,3,4] [] (ag 0 (ay (D.N k [1,1,1]) D.K0)) (T0 a1 J)
noncomputable def r0 (k:Nat) (a1:Arg):((List Key)×Int)->Y:=ak (λw v=>b0 w (q0 a1) a1 v) k
theorem aw (k:Nat) (a1:Arg):s0 k a1=r0 k a1:=
 funext λJ=>av _ _ _ (T0 a1) _ (λrec v=>by kernel_rfl) k J
noncomputable def p (l0:((List Key)×Int)->Y) (a1:Arg):Y:=if 0<=(a1.1.length:Int)/\(a1.1.length:Int)<=(a1.1.length:Int)/\(a1.1.length:Int)<=(cc:Int) then (l0 (List.replicate (a1.1.length:Int).toNat ((0:Int),(0:Int),()),(0:Int))) else none
theorem ae (k:Nat) (a1:Arg):@Eq Y (D.W k a1) (p (r0 k a1) a1):=
 aU (b:=p (s0 k a1) a1) (by kernel_rfl) (by rw[aw])
theorem ok:Ok prog 93 D.sig:=au func93 aT (by kernel_rfl) (fc qE.ok (aj _))
end tW
namespace rW
abbrev Arg:Type:=Tx×Unit
abbrev Out:Type:=Tx×Unit
noncomputable def D:FD:={ fn:=f50,tl:=bd,ps:=[(.ro,de)],rs:=[(de,(an de))],gl:=[(91,qW.D.sig),(92,rJ.D.sig),(93,tW.D.sig)] }
noncomputable def aa (a:Arg):Option Out:=@lift Out λk=>D.W k a
noncomputable def p (a1:Arg):Option Out:=(qW.aa (a1.1.2.1,())).bind λr2=>(rJ.aa (a1.1.2.2.1,())).bind λr3=>(tW.aa (a1.1.2.2.2.1,())).bind λr4=>some ((a1.1.1,r2.1,r3.1,r4.1,()),())
theorem ae (k:Nat) (a1:Arg):@Eq (Option Out) (D.W k a1) (p a1):=by kernel_rfl
theorem ok:Ok prog 50 D.sig:=au func50 aT (by kernel_rfl) (fc qW.ok (fc rJ.ok (fc tW.ok (aj _))))
end rW
namespace uZ
abbrev Arg:Type:=(List Tx)×Unit
abbrev Out:Type:=(List Tx)×Unit
abbrev Y:=Option Out
noncomputable def D:FD:={ fn:=f21,tl:=bd,ps:=[(.ro,(.U de))],rs:=[((.U de),(an (.U de)))],gl:=[(50,rW.D.sig)],lv:=[(3,[0,3,4])],lx:=[(0,[3])] }
noncomputable def aa (a:Arg):Y:=@lift Out λk=>D.W k a
noncomputable def T0 (a1:Arg) (J:(List Tx)×Int):St:={ n:=23,sl:=[(0,.val (.U de) a1.1),(3,.own (.U de) (an (.U de)) [] J.1),(4,.val i64 J.2)],vr:=[],az:=[] }
noncomputable def b0 (self:((List Tx)×Int)->Y) (e0:(List Tx)->Y) (a1:Arg) (J:(List Tx)×Int):Y:=bif decide (J.2 < (a1.1.length:Int)) then (if 0<=J.2 then ((a1.1[J.2.toNat]?).bind λa7=>(rW.aa (a7,())).bind λdv=>if 0<=J.2/\J.2 < (J.1.length:Int) then ((J.1[J.2.toNat]?).bind λeo=>self (J.1.set J.2.toNat dv.1,af (J.2+(1:Int)))) else none) else none) else e0 J.1
noncomputable def q0 (a1:Arg) (oD:(List Tx)):Y:=some (oD,())
noncomputable def s0 (k:Nat) (a1:Arg):((List Tx)×Int)->Y:=λJ=>D.L k [1,1,0,1,0,0] [0,3,4] [] (ag 0 (ay (D.N k [1,1,1]) D.K0)) (T0 a1 J)
noncomputable def r0 (k:Nat) (a1:Arg):((List Tx)×Int)->Y:=ak (λw v=>b0 w (q0 a1) a1 v) k
theorem aw (k:Nat) (a1:Arg):s0 k a1=r0 k a1:=
 funext λJ=>av _ _ _ (T0 a1) _ (λrec v=>by kernel_rfl) k J
noncomputable def p (l0:((List Tx)×Int)->Y) (a1:Arg):Y:=if 0<=(a1.1.length:Int)/\(a1.1.length:Int)<=(a1.1.length:Int)/\(a1.1.length:Int)<=(cc:Int) then (l0 (List.replicate (a1.1.length:Int).toNat ((0:Int),([]:List Change),([]:List Int),([]:List Key),()),(0:Int))) else none
theorem ae (k:Nat) (a1:Arg):@Eq Y (D.W k a1) (p (r0 k a1) a1):=
 aU (b:=p (s0 k a1) a1) (by kernel_rfl) (by rw[aw])
theorem ok:Ok prog 21 D.sig:=au func21 aT (by kernel_rfl) (fc rW.ok (aj _))
end uZ
namespace np
abbrev Arg:Type:=kJ×Unit
abbrev Out:Type:=kJ×Unit
noncomputable def D:FD:={ fn:=f6,tl:=bd,ps:=[(.ro,im)],rs:=[(im,(an im))],gl:=[(19,rI.D.sig),(20,rV.D.sig),(21,uZ.D.sig)] }
noncomputable def aa (a:Arg):Option Out:=@lift Out λk=>D.W k a
noncomputable def p (a1:Arg):Option Out:=(rI.aa (a1.1.2.1,())).bind λr2=>(rV.aa (a1.1.2.2.1,())).bind λr3=>(uZ.aa (a1.1.2.2.2.1,())).bind λr4=>some ((a1.1.1,r2.1,r3.1,r4.1,a1.1.2.2.2.2.1,()),())
theorem ae (k:Nat) (a1:Arg):@Eq (Option Out) (D.W k a1) (p a1):=by kernel_rfl
theorem ok:Ok prog 6 D.sig:=au func6 aT (by kernel_rfl) (fc rI.ok (fc rV.ok (fc uZ.ok (aj _))))
end np
namespace o_
abbrev Arg:Type:=Log×Unit
abbrev Out:Type:=Int×Unit
noncomputable def D:FD:={ fn:=f94,tl:=bd,ps:=[(.ro,kg)],rs:=[(i64,(ax i64))] }
noncomputable def aa (a:Arg):Option Out:=@lift Out λk=>D.W k a
noncomputable def p (a1:Arg):Option Out:=some (af ((a1.1.1.length:Int)+(a1.1.2.1.length:Int)),())
theorem ae (k:Nat) (a1:Arg):@Eq (Option Out) (D.W k a1) (p a1):=by kernel_rfl
theorem ok:Ok prog 94 D.sig:=au func94 aT (by kernel_rfl) (aj _)
end o_
namespace fy
abbrev Arg:Type:=Int×Int×Int×Unit
abbrev Out:Type:=Bool×Unit
noncomputable def D:FD:={ fn:=f52,tl:=bd,ps:=[(.ro,i64),(.ro,i64),(.ro,i64)],rs:=[(.bool,(ax .bool))] }
noncomputable def aa (a:Arg):Option Out:=@lift Out λk=>D.W k a
noncomputable def p (a1:Arg):Option Out:=bif decide (a1.2.1<=a1.1) then (some (decide (a1.1<=a1.2.2.1),())) else some (false,())
theorem ae (k:Nat) (a1:Arg):@Eq (Option Out) (D.W k a1) (p a1):=by kernel_rfl
theorem ok:Ok prog 52 D.sig:=au func52 aT (by kernel_rfl) (aj _)
end fy
namespace qa
abbrev Arg:Type:=Int×Unit
abbrev Out:Type:=Bool×Unit
noncomputable def D:FD:={ fn:=f157,tl:=bd,ps:=[(.ro,i64)],rs:=[(.bool,(ax .bool))],gl:=[(52,fy.D.sig)] }
noncomputable def aa (a:Arg):Option Out:=@lift Out λk=>D.W k a
noncomputable def p (a1:Arg):Option Out:=(fy.aa (a1.1,(1:Int),(99:Int),())).bind λr2=>some (r2.1,())
theorem ae (k:Nat) (a1:Arg):@Eq (Option Out) (D.W k a1) (p a1):=by kernel_rfl
theorem ok:Ok prog 157 D.sig:=au func157 aT (by kernel_rfl) (fc fy.ok (aj _))
end qa
namespace nU
abbrev Arg:Type:=Int×Unit
abbrev Out:Type:=Bool×Unit
noncomputable def D:FD:={ fn:=f163,tl:=bd,ps:=[(.ro,i64)],rs:=[(.bool,(ax .bool))] }
noncomputable def aa (a:Arg):Option Out:=@lift Out λk=>D.W k a
noncomputable def p (a1:Arg):Option Out:=bif decide (a1.1=(2:Int)) then (some (true,())) else bif decide (a1.1=(3:Int)) then (some (true,())) else some (decide (a1.1=(4:Int)),())
theorem ae (k:Nat) (a1:Arg):@Eq (Option Out) (D.W k a1) (p a1):=by kernel_rfl
theorem ok:Ok prog 163 D.sig:=au func163 aT (by kernel_rfl) (aj _)
end nU
namespace iw
abbrev Arg:Type:=(List gu)×Unit
abbrev Out:Type:=Int×Unit
abbrev Y:=Option Out
noncomputable def D:FD:={ fn:=f164,tl:=bd,ps:=[(.ro,(.U xB))],rs:=[(i64,(ax i64))],gl:=[(52,fy.D.sig)],lv:=[(5,[3,10,11,12])],lx:=[(0,[])] }
noncomputable def aa (a:Arg):Y:=@lift Out λk=>D.W k a
noncomputable def T0 (a1:Arg) (J:Int×Int):St:={ n:=45,sl:=[(3,.val i64 J.1),(10,.val (.U xB) a1.1),(11,.val i64 (a1.1.length:Int)),(12,.val i64 J.2)],vr:=[],az:=[] }
noncomputable def b0 (self:(Int×Int)->Y) (e0:(Unit)->Y) (a1:Arg) (J:Int×Int):Y:=bif decide (J.2 < (a1.1.length:Int)) then (if 0<=J.2 then ((a1.1[J.2.toNat]?).bind λa7=>(fy.aa (a7.1,(0:Int),(63:Int),())).bind λdv=>bif !dv.1 then (some ((3:Int),())) else (fy.aa ((a7.2.1.length:Int),(1:Int),(64:Int),())).bind λjZ=>bif !jZ.1 then (some ((3:Int),())) else bif decide ((64:Int) < af (a7.1+(a7.2.1.length:Int))) then (some ((3:Int),())) else bif decide (a7.1 < J.1) then (some ((1:Int),())) else self (af ((af (a7.1+(a7.2.1.length:Int)))+(1:Int)),af (J.2+(1:Int)))) else none) else e0 ()
noncomputable def q0 (a1:Arg) (oD:(Unit)):Y:=some ((0:Int),())
noncomputable def s0 (k:Nat) (a1:Arg):(Int×Int)->Y:=λJ=>D.L k [1,1,1,0,1,0,0] [3,10,11,12] [] (ag 0 (ay (D.N k [1,1,1,1]) D.K0)) (T0 a1 J)
noncomputable def r0 (k:Nat) (a1:Arg):(Int×Int)->Y:=ak (λw v=>b0 w (q0 a1) a1 v) k
theorem aw (k:Nat) (a1:Arg):s0 k a1=r0 k a1:=
 funext λJ=>av _ _ _ (T0 a1) _ (λrec v=>by kernel_rfl) k J
noncomputable def p (l0:(Int×Int)->Y) (a1:Arg):Y:=bif decide ((64:Int) < (a1.1.length:Int)) then (some ((2:Int),())) else l0 ((0:Int),(0:Int))
theorem ae (k:Nat) (a1:Arg):@Eq Y (D.W k a1) (p (r0 k a1) a1):=
 aU (b:=p (s0 k a1) a1) (by kernel_rfl) (by rw[aw])
theorem ok:Ok prog 164 D.sig:=au func164 aT (by kernel_rfl) (fc fy.ok (aj _))
end iw
namespace gx
abbrev Arg:Type:=bg×Unit
abbrev Out:Type:=Int×Unit
abbrev Y:=Option Out
noncomputable def D:FD:={ fn:=f106,tl:=bd,ps:=[(.ro,d9)],rs:=[(i64,(ax i64))],gl:=[(52,fy.D.sig),(157,qa.D.sig),(163,nU.D.sig),(164,iw.D.sig)] }
noncomputable def aa (a:Arg):Y:=@lift Out λk=>D.W k a
noncomputable def p (a1:Arg):Y:=let Wx:Y:=let j23:Y:=(iw.aa (a1.1.2.2.2.1,())).bind λr24=>bif !decide (r24.1=(0:Int)) then (some (r24.1,())) else (nU.aa (a1.1.1,())).bind λZj=>bif Zj.1 then (bif decide ((a1.1.2.2.2.1.length:Int)=(0:Int)) then (some ((1:Int),())) else bif decide (a1.1.1=(4:Int)) then (bif !decide ((a1.1.2.2.2.1.length:Int)=(1:Int)) then (some ((1:Int),())) else (a1.1.2.2.2.1[0]?).bind λZk=>bif !decide ((Zk.2.1.length:Int)=(64:Int)) then (some ((1:Int),())) else some ((0:Int),())) else some ((0:Int),())) else bif decide (a1.1.1=(4:Int)) then (bif !decide ((a1.1.2.2.2.1.length:Int)=(1:Int)) then (some ((1:Int),())) else (a1.1.2.2.2.1[0]?).bind λZl=>bif !decide ((Zl.2.1.length:Int)=(64:Int)) then (some ((1:Int),())) else some ((0:Int),())) else some ((0:Int),());bif !decide (a1.1.1=(4:Int)) then ((qa.aa (a1.1.2.1,())).bind λLR=>bif !LR.1 then (some ((3:Int),())) else (fy.aa (a1.1.2.2.1,(0:Int),(11:Int),())).bind λWy=>bif !Wy.1 then (some ((3:Int),())) else j23) else (fy.aa (a1.1.2.2.1,(0:Int),(11:Int),())).bind λr18=>bif !r18.1 then (some ((3:Int),())) else j23;(fy.aa (a1.1.1,(1:Int),(6:Int),())).bind λr2=>bif !r2.1 then (some ((1:Int),())) else (nU.aa (a1.1.1,())).bind λr3=>bif !r3.1 then (bif !decide (a1.1.2.2.1=(0:Int)) then (some ((1:Int),())) else bif decide ((0:Int) < (a1.1.2.2.2.1.length:Int)) then (some ((1:Int),())) else bif decide (a1.1.1=(4:Int)) then (bif !decide (a1.1.2.1=(0:Int)) then (some ((1:Int),())) else Wx) else Wx) else bif decide (a1.1.1=(4:Int)) then (bif !decide (a1.1.2.1=(0:Int)) then (some ((1:Int),())) else Wx) else Wx
theorem ae (k:Nat) (a1:Arg):@Eq Y (D.W k a1) (p a1):=by kernel_rfl
theorem ok:Ok prog 106 D.sig:=au func106 aT (by kernel_rfl) (fc fy.ok (fc qa.ok (fc nU.ok (fc iw.ok (aj _)))))
end gx
namespace d0
abbrev Arg:Type:=(List UInt8)×(List UInt8)×Unit
abbrev Out:Type:=Bool×Unit
abbrev Y:=Option Out
noncomputable def D:FD:={ fn:=f109,tl:=bd,ps:=[(.ro,(.U u8)),(.ro,(.U u8))],rs:=[(.bool,(ax .bool))],lv:=[(4,[0,1,12,13])],lx:=[(0,[])],od:=[(6,[0,1,2,3,4,5,6,7,8])] }
noncomputable def aa (a:Arg):Y:=@lift Out λk=>D.W k a
noncomputable def T0 (a1:Arg) (J:Int):St:={ n:=26,sl:=[(0,.val (.U u8) a1.1),(1,.val (.U u8) a1.2.1),(12,.val i64 (a1.1.length:Int)),(13,.val i64 J)],vr:=[],az:=[] }
noncomputable def b0 (self:Int->Y) (e0:(Unit)->Y) (a1:Arg) (J:Int):Y:=bif decide (J < (a1.1.length:Int)) then (if 0<=J then ((a1.1[J.toNat]?).bind λa7=>if 0<=J then ((a1.2.1[J.toNat]?).bind λen=>bif !decide ((a7.toNat:Int)=(en.toNat:Int)) then (some (false,())) else self (af (J+(1:Int)))) else none) else none) else e0 ()
noncomputable abbrev B0 (_:Nat):=b0
noncomputable def q0 (a1:Arg) (dz:(Unit)):Y:=some (true,())
noncomputable abbrev Q0 (_:Nat):=q0
noncomputable def s0 (k:Nat) (a1:Arg):(Int)->Y:=λJ=>D.L k [1,1,0,1,0,0] [0,1,12,13] [] (ag 0 (ay (D.N k [1,1,1]) D.K0)) (T0 a1 J)
noncomputable def r0 (k:Nat) (a1:Arg):(Int)->Y:=ak (λw v=>B0 k w (Q0 k a1) a1 v) k
theorem aw (k:Nat) (a1:Arg):s0 k a1=r0 k a1:=
 funext λJ=>av _ _ _ (T0 a1) _ (λrec v=>by kernel_rfl) k J
noncomputable def p (l0:(Int)->Y) (a1:Arg):Y:=bif !decide ((a1.1.length:Int)=(a1.2.1.length:Int)) then (some (false,())) else l0 (0:Int)
theorem ae (k:Nat) (a1:Arg):@Eq Y (D.W k a1) (p (r0 k a1) a1):=
 aU (b:=p (s0 k a1) a1) (by kernel_rfl) (by rw[aw])
theorem ok:Ok prog 109 D.sig:=au func109 aT (by kernel_rfl) (aj _)
end d0
namespace kb
abbrev Arg:Type:=(List UInt8)×Unit
abbrev Out:Type:=(List UInt8)×Unit
noncomputable def D:FD:={ fn:=f111,tl:=bd,ps:=[(.ro,(.U u8))],rs:=[((.U u8),(an (.U u8)))] }
noncomputable def aa (a:Arg):Option Out:=@lift Out λk=>D.W k a
noncomputable def p (a1:Arg):Option Out:=if ([]:List UInt8).length+a1.1.length<=cc then (some (([]:List UInt8)++a1.1,())) else none
theorem ae (k:Nat) (a1:Arg):@Eq (Option Out) (D.W k a1) (p a1):=by kernel_rfl
theorem ok:Ok prog 111 D.sig:=au func111 aT (by kernel_rfl) (aj _)
end kb
namespace fm
abbrev Arg:Type:=bg×Unit
abbrev Out:Type:=(List UInt8)×Unit
abbrev Y:=Option Out
noncomputable def D:FD:={ fn:=f194,tl:=bd,ps:=[(.ro,d9)],rs:=[((.U u8),(an (.U u8)))],lv:=[(3,[3,24,25,26]),(11,[3,6,51,52,53])],lx:=[(0,[3]),(2,[3,6])] }
noncomputable def aa (a:Arg):Y:=@lift Out λk=>D.W k a
noncomputable def T0 (a1:Arg) (J:(List UInt8)×Int):St:={ n:=72,sl:=[(3,.own (.U u8) (an (.U u8)) [] J.1),(24,.val (.U xB) a1.1.2.2.2.1),(25,.val i64 (a1.1.2.2.2.1.length:Int)),(26,.val i64 J.2)],vr:=[],az:=[] }
noncomputable def S0 (rec:RT Out) (a1:Arg):((List UInt8)×Int)->Y:=λJ=>rec (T0 a1 J)
noncomputable def df (K:KT Out) (a1:Arg):(List UInt8)->Y:=λz=>K (.exit 0) ({ n:=72,sl:=[(3,.own (.U u8) (an (.U u8)) [] z)],vr:=[],az:=[] })
noncomputable def b0 (self:((List UInt8)×Int)->Y) (e0:(List UInt8)->Y) (a1:Arg) (J:(List UInt8)×Int):Y:=bif decide (J.2 < (a1.1.2.2.2.1.length:Int)) then (if 0<=J.2 then ((a1.1.2.2.2.1[J.2.toNat]?).bind λa7=>if J.1.length+[UInt8.ofInt a7.1,UInt8.ofInt (a7.2.1.length:Int)].length<=cc then (let mY:=J.1++[UInt8.ofInt a7.1,UInt8.ofInt (a7.2.1.length:Int)];if mY.length+a7.2.1.length<=cc then (self (mY++a7.2.1,af (J.2+(1:Int)))) else none) else none) else none) else e0 J.1
theorem ml (k:Nat) (rec:RT Out) (K:KT Out) (a1:Arg) (J:(List UInt8)×Int):D.N k [1,1,0,1,0,0] (T0 a1 J) (i7 rec (ff [3,24,25,26] []) K)=b0 (S0 rec a1) (df K a1) a1 J:=by kernel_rfl
noncomputable def T1 (a1:Arg) (ek:List UInt8) (ez:Int) (c7:Int×Int):St:={ n:=72,sl:=[(3,.own (.U u8) (an (.U u8)) [] ek),(6,.val i64 c7.1),(51,.ref 3 [] [0,0]),(52,.val i64 ez),(53,.val i64 c7.2)],vr:=[],az:=[] }
noncomputable def b1 (self:(Int×Int)->Y) (e2:Int->Y) (a1:Arg) (ek:List UInt8) (ez:Int) (c7:Int×Int):Y:=bif decide (c7.2 < ez) then (if 0<=c7.2/\c7.2 < (ek.length:Int) then ((ek[c7.2.toNat]?).bind λAL=>self ((af ((af (c7.1*(31:Int)))+(af (AL.toNat:Int)))).tmod (65521:Int),af (c7.2+(1:Int)))) else none) else e2 c7.1
noncomputable def q1 (a1:Arg) (ek:List UInt8) (ez:Int) (AM:Int):Y:=if ek.length+[UInt8.ofInt (AM.fdiv (2 ^ 8)),UInt8.ofInt AM].length<=cc then (let P3:=ek++[UInt8.ofInt (AM.fdiv (2 ^ 8)),UInt8.ofInt AM];some (P3,())) else none
noncomputable def s1 (k:Nat) (a1:Arg):(List UInt8)->Int->(Int×Int)->Y:=λek ez=>λc7=>D.L k [1,1,1,1,1,0,1,0,0] [3,6,51,52,53] [] (ag 2 (ay (D.N k [1,1,1,1,1,1]) D.K0)) (T1 a1 ek ez c7)
noncomputable def r1 (k:Nat) (a1:Arg):(List UInt8)->Int->(Int×Int)->Y:=λek ez=>ak (λw v=>b1 w (q1 a1 ek ez) a1 ek ez v) k
theorem mm (k:Nat) (a1:Arg):s1 k a1=r1 k a1:=
 funext λek=>funext λez=>funext λc7=>av _ _ _ (T1 a1 ek ez) _ (λrec v=>by kernel_rfl) k c7
noncomputable def q0 (l1:(List UInt8)->Int->(Int×Int)->Y) (a1:Arg) (dz:(List UInt8)):Y:=if 0<=(0:Int)/\(0:Int) < (dz.length:Int) then ((dz[0]?).bind λqz=>let DW:=dz.set 0 (UInt8.ofInt (af ((dz.length:Int)+(2:Int))));l1 DW (DW.length:Int) ((1:Int),(0:Int))) else none
noncomputable def Q0 (k:Nat) (a1:Arg) (dz:(List UInt8)):Y:=q0 (r1 k a1) a1 dz
theorem qA (k:Nat) (a1:Arg) (dz:(List UInt8)):df (ag 0 (ay (D.N k [1,1,1]) D.K0)) a1 dz=Q0 k a1 dz:=
 aU (b:=q0 (s1 k a1) a1 dz) (by kernel_rfl) (by rw[mm];rfl)
noncomputable def s0 (k:Nat) (a1:Arg):((List UInt8)×Int)->Y:=λJ=>D.L k [1,1,0,1,0,0] [3,24,25,26] [] (ag 0 (ay (D.N k [1,1,1]) D.K0)) (T0 a1 J)
noncomputable def r0 (k:Nat) (a1:Arg):((List UInt8)×Int)->Y:=ak (λw v=>b0 w (Q0 k a1) a1 v) k
theorem aw (k:Nat) (a1:Arg):s0 k a1=r0 k a1:=by
 funext J;have h0:df (ag 0 (ay (D.N k [1,1,1]) D.K0)) a1=Q0 k a1:=funext λz=>qA k a1 z;refine (av _ _ _ (T0 a1) (λself v=>b0 self (df (ag 0 (ay (D.N k [1,1,1]) D.K0)) a1) a1 v) (λrec v=>ml k rec (ag 0 (ay (D.N k [1,1,1]) D.K0)) a1 v) k J).trans ?_;rw[h0];rfl
noncomputable def p (l0:((List UInt8)×Int)->Y) (a1:Arg):Y:=l0 ([(0:UInt8),UInt8.ofInt a1.1.1,UInt8.ofInt a1.1.2.1,UInt8.ofInt a1.1.2.2.1,UInt8.ofInt (a1.1.2.2.2.1.length:Int)],(0:Int))
theorem ae (k:Nat) (a1:Arg):@Eq Y (D.W k a1) (p (r0 k a1) a1):=
 aU (b:=p (s0 k a1) a1) (by kernel_rfl) (by rw[aw])
theorem ok:Ok prog 194 D.sig:=au func194 aT (by kernel_rfl) (aj _)
end fm
end OT
