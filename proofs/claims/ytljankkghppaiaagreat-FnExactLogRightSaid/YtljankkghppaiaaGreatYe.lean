/- The proof's parts, merged: Printed by gen.py, a program of this claim  what each Go function computes.. No conditions but those that each states. -/
import Derived.Test.YtljankkghppaiaaGreatYd
import Derived.Test.YtljankkghppaiaaGreatProg
import Derived.KernelRfl
set_option maxRecDepth 100000
set_option linter.unusedVariables false
namespace OT
open Go Go.Proofs.Tryz
abbrev Row:Type:=(Int×Int×Int×(List UInt8)×Unit)
abbrev au:Ty:=(c8 [i64,i64,i64,.str])
abbrev Change:Type:=(Bool×Row×Bool×Row×Unit)
abbrev ap:Ty:=(c8 [.bool,au,.bool,au])
abbrev Key:Type:=(Int×Int×Unit)
abbrev bq:Ty:=(c8 [i64,i64])
abbrev Tx:Type:=(Int×(List Change)×(List Int)×(List Key)×Unit)
abbrev ct:Ty:=(c8 [i64,(.U ap),(.U i64),(.U bq)])
abbrev Plain:Type:=((List Row)×(List Tx)×Int×Unit)
abbrev jZ:Ty:=(c8 [(.U au),(.U ct),i64])
abbrev Op:Type:=(Int×Int×Row×Int×Unit)
abbrev tOp:Ty:=(c8 [i64,i64,au,i64])
abbrev YM:Type:=(Int×Int×Plain×Unit)
abbrev XV:Ty:=(c8 [i64,i64,jZ])
abbrev XW:Type:=(Int×Bool×Change×Unit)
abbrev WF:Ty:=(c8 [i64,.bool,ap])
abbrev dv:Type:=(Int×(List Row)×Unit)
abbrev dg:Ty:=(c8 [i64,(.U au)])
abbrev aaa:Type:=(Int×(List Tx)×Unit)
abbrev Y5:Ty:=(c8 [i64,(.U ct)])
abbrev aab:Type:=(Int×(List Int)×(List Int)×Plain×Unit)
abbrev Y6:Ty:=(c8 [i64,(.U i64),(.U i64),jZ])
abbrev Buffer:Type:=(Int×(List Change)×Unit)
abbrev et:Ty:=(c8 [i64,(.U ap)])
abbrev dw:Type:=((List (List UInt8))×(List Buffer)×Unit)
abbrev jf:Ty:=(c8 [(.U (.U u8)),(.U et)])
abbrev gi:Type:=(Int×(List UInt8)×Unit)
abbrev ww:Ty:=(c8 [i64,(.U u8)])
abbrev bf:Type:=(Int×Int×Int×(List gi)×Unit)
abbrev d_:Ty:=(c8 [i64,i64,i64,(.U ww)])
abbrev rF:Type:=(Int×Int×Int×Int×Row×Unit)
abbrev qL:Ty:=(c8 [i64,i64,i64,i64,au])
abbrev a8:Type:=(Int×Int×rF×Unit)
abbrev ko:Ty:=(c8 [i64,i64,qL])
abbrev mO:Type:=(Int×Bool×Bool×Int×(List Change)×dw×Unit)
abbrev lZ:Ty:=(c8 [i64,.bool,.bool,i64,(.U ap),jf])
abbrev AB:Type:=(Int×(List gi)×(List (List UInt8))×Unit)
abbrev qZ:Ty:=(c8 [i64,(.U ww),(.U (.U u8))])
abbrev Seen:Type:=(Row×Int×Int×Bool×Int×Int×Unit)
abbrev ig:Ty:=(c8 [au,i64,i64,.bool,i64,i64])
abbrev YN:Type:=(Int×(List Buffer)×dw×Unit)
abbrev XX:Ty:=(c8 [i64,(.U et),jf])
abbrev ep:Type:=(dw×Int×dw×Int×Unit)
abbrev ka:Ty:=(c8 [jf,i64,jf,i64])
abbrev lg:Type:=(Int×Int×(List Change)×Unit)
abbrev nI:Ty:=(c8 [i64,i64,(.U ap)])
abbrev qn:Type:=(Int×Bool×lg×ep×Unit)
abbrev q9:Ty:=(c8 [i64,.bool,nI,ka])
abbrev Ld:Type:=(Int×Int×bf×Unit)
abbrev xW:Ty:=(c8 [i64,i64,d_])
abbrev nx:Type:=(Int×(List lg)×ep×Unit)
abbrev tI:Ty:=(c8 [i64,(.U nI),ka])
abbrev Log:Type:=((List UInt8)×(List UInt8)×Unit)
abbrev lN:Ty:=(c8 [(.U u8),(.U u8)])
abbrev kT:Type:=(Bool×(List (List UInt8))×Log×(List Tx)×Int×Unit)
abbrev gq:Ty:=(c8 [.bool,(.U (.U u8)),lN,(.U ct),i64])
abbrev abh:Type:=((List UInt8)×Int×Unit)
abbrev abd:Ty:=(c8 [(.U u8),i64])
abbrev abe:Type:=((List (List UInt8))×(List gi)×Unit)
abbrev aba:Ty:=(c8 [(.U (.U u8)),(.U ww)])
abbrev Y7:Type:=(Int×Int×(List UInt8)×Unit)
abbrev YO:Ty:=(c8 [i64,i64,(.U u8)])
noncomputable def be:TL:=[(2,i64),(104,(.U u8)),(40,au),(71,(.U ap)),(32,(.U au)),(62,(.U (.U u8))),(145,ap),(4,.bool),(33,(.U ct)),(5,u8),(188,ct),(81,d_),(310,bq),(3,i64),(134,lN),(74,jf),(79,(.U ww)),(186,(.U bq)),(72,(.U et)),(342,et),(382,qL),(9,.str),(346,ww),(35,jZ),(136,gq),(51,(.U i64)),(107,nI),(109,ka),(76,lZ),(153,dg),(23,(.U ct)),(27,au),(95,(.U d_)),(122,(.U nI)),(111,q9),(379,(.U ko)),(384,ko),(22,(.U au)),(129,lN),(150,qZ),(156,et),(304,(.U ap)),(305,(.U bq)),(307,ct),(490,ap),(25,jZ),(124,tI),(131,gq),(264,(.U ig)),(273,ig),(301,(.map bq .bool)),(361,xW),(464,(.int .u64)),(500,bq),(463,(.arr 64 .bool)),(465,(.map (.arr 2 i64) au)),(466,(.arr 2 i64)),(468,(.map (.arr 2 i64) .bool))]
theorem a7:(O6 prog be&&JD prog be)=true:=by kernel_rfl
namespace nU
abbrev Arg:Type:=Row×Int×Unit
abbrev Out:Type:=Int×Unit
noncomputable def D:FD:={ fn:=f103,tl:=be,ps:=[(.ro,au),(.ro,i64)],rs:=[(i64,(az i64))] }
noncomputable def aa (a:Arg):Option Out:=@lift Out fun k=>D.W k a
noncomputable def p (a1:Arg):Option Out:=bif decide (af (a1.2.1 - (a1.1.2.2.2.1.length:Int)) < (0:Int)) then (some ((-1:Int),())) else some (af (a1.2.1 - (a1.1.2.2.2.1.length:Int)),())
theorem ae (k:Nat) (a1:Arg):@Eq (Option Out) (D.W k a1) (p a1):=by kernel_rfl
theorem ok:Ok prog 103 D.sig:=aw func103 a7 (by kernel_rfl) (ak _)
end nU
namespace kg
abbrev Arg:Type:=(List Row)×Int×Unit
abbrev Out:Type:=Int×Unit
abbrev Y:=Option Out
noncomputable def D:FD:={ fn:=f101,tl:=be,ps:=[(.ro,(.U au)),(.ro,i64)],rs:=[(i64,(az i64))],gl:=[(103,nU.D.sig)],lv:=[(5,[0,1,5])],lx:=[(0,[1])] }
noncomputable def aa (a:Arg):Y:=@lift Out fun k=>D.W k a
noncomputable def T0 (a1:Arg) (J:Int×Int):St:={ n:=27,sl:=[(0,.val (.U au) a1.1),(1,.val i64 J.1),(5,.val i64 J.2)],vr:=[],aT:=[] }
noncomputable def b0 (self:(Int×Int)->Y) (e0:Int->Y) (a1:Arg) (J:Int×Int):Y:=bif decide (J.2 < (a1.1.length:Int)) then (if 0<=J.2 then ((a1.1[J.2.toNat]?).bind fun a_=>(nU.aa (a_,J.1,())).bind fun dn=>bif decide (dn.1 < (0:Int)) then (some ((-1:Int),())) else self (dn.1,af (J.2+(1:Int)))) else none) else e0 J.1
noncomputable def q0 (a1:Arg) (dz:Int):Y:=some (dz,())
noncomputable def s0 (k:Nat) (a1:Arg):(Int×Int)->Y:=fun J=>D.L k [1,1,1,0,1,0,0] [0,1,5] [] (ag 0 (ay (D.N k [1,1,1,1]) D.K0)) (T0 a1 J)
noncomputable def r0 (k:Nat) (a1:Arg):(Int×Int)->Y:=aq (fun w v=>b0 w (q0 a1) a1 v) k
theorem ax (k:Nat) (a1:Arg):s0 k a1=r0 k a1:=
 funext fun J=>av _ _ _ (T0 a1) _ (fun rec v=>by kernel_rfl) k J
noncomputable def p (l0:(Int×Int)->Y) (a1:Arg):Y:=bif decide (af (a1.2.1 - (a1.1.length:Int)) < (0:Int)) then (some ((-1:Int),())) else l0 (af (a1.2.1 - (a1.1.length:Int)),(0:Int))
theorem ae (k:Nat) (a1:Arg):@Eq Y (D.W k a1) (p (r0 k a1) a1):=
 aX (b:=p (s0 k a1) a1) (by kernel_rfl) (by rw[ax])
theorem ok:Ok prog 101 D.sig:=aw func101 a7 (by kernel_rfl) (fc nU.ok (ak _))
end kg
namespace o8
abbrev Arg:Type:=Change×Int×Unit
abbrev Out:Type:=Int×Unit
noncomputable def D:FD:={ fn:=f412,tl:=be,ps:=[(.ro,ap),(.ro,i64)],rs:=[(i64,(az i64))],gl:=[(103,nU.D.sig)] }
noncomputable def aa (a:Arg):Option Out:=@lift Out fun k=>D.W k a
noncomputable def p (a1:Arg):Option Out:=(nU.aa (a1.1.2.1,a1.2.1,())).bind fun r2=>bif decide (r2.1 < (0:Int)) then (some ((-1:Int),())) else (nU.aa (a1.1.2.2.2.1,r2.1,())).bind fun r3=>bif decide (r3.1 < (0:Int)) then (some ((-1:Int),())) else some (r3.1,())
theorem ae (k:Nat) (a1:Arg):@Eq (Option Out) (D.W k a1) (p a1):=by kernel_rfl
theorem ok:Ok prog 412 D.sig:=aw func412 a7 (by kernel_rfl) (fc nU.ok (ak _))
end o8
namespace f8
abbrev Arg:Type:=(List Change)×Int×Unit
abbrev Out:Type:=Int×Unit
abbrev Y:=Option Out
noncomputable def D:FD:={ fn:=f331,tl:=be,ps:=[(.ro,(.U ap)),(.ro,i64)],rs:=[(i64,(az i64))],gl:=[(412,o8.D.sig)],lv:=[(5,[0,1,5])],lx:=[(0,[1])] }
noncomputable def aa (a:Arg):Y:=@lift Out fun k=>D.W k a
noncomputable def T0 (a1:Arg) (J:Int×Int):St:={ n:=27,sl:=[(0,.val (.U ap) a1.1),(1,.val i64 J.1),(5,.val i64 J.2)],vr:=[],aT:=[] }
noncomputable def b0 (self:(Int×Int)->Y) (e0:Int->Y) (a1:Arg) (J:Int×Int):Y:=bif decide (J.2 < (a1.1.length:Int)) then (if 0<=J.2 then ((a1.1[J.2.toNat]?).bind fun a_=>(o8.aa (a_,J.1,())).bind fun dn=>bif decide (dn.1 < (0:Int)) then (some ((-1:Int),())) else self (dn.1,af (J.2+(1:Int)))) else none) else e0 J.1
noncomputable def q0 (a1:Arg) (dz:Int):Y:=some (dz,())
noncomputable def s0 (k:Nat) (a1:Arg):(Int×Int)->Y:=fun J=>D.L k [1,1,1,0,1,0,0] [0,1,5] [] (ag 0 (ay (D.N k [1,1,1,1]) D.K0)) (T0 a1 J)
noncomputable def r0 (k:Nat) (a1:Arg):(Int×Int)->Y:=aq (fun w v=>b0 w (q0 a1) a1 v) k
theorem ax (k:Nat) (a1:Arg):s0 k a1=r0 k a1:=
 funext fun J=>av _ _ _ (T0 a1) _ (fun rec v=>by kernel_rfl) k J
noncomputable def p (l0:(Int×Int)->Y) (a1:Arg):Y:=bif decide (af (a1.2.1 - (a1.1.length:Int)) < (0:Int)) then (some ((-1:Int),())) else l0 (af (a1.2.1 - (a1.1.length:Int)),(0:Int))
theorem ae (k:Nat) (a1:Arg):@Eq Y (D.W k a1) (p (r0 k a1) a1):=
 aX (b:=p (s0 k a1) a1) (by kernel_rfl) (by rw[ax])
theorem ok:Ok prog 331 D.sig:=aw func331 a7 (by kernel_rfl) (fc o8.ok (ak _))
end f8
namespace o9
abbrev Arg:Type:=(List Int)×Int×Unit
abbrev Out:Type:=Int×Unit
noncomputable def D:FD:={ fn:=f332,tl:=be,ps:=[(.ro,(.U i64)),(.ro,i64)],rs:=[(i64,(az i64))] }
noncomputable def aa (a:Arg):Option Out:=@lift Out fun k=>D.W k a
noncomputable def p (a1:Arg):Option Out:=bif decide (af (a1.2.1 - (a1.1.length:Int)) < (0:Int)) then (some ((-1:Int),())) else some (af (a1.2.1 - (a1.1.length:Int)),())
theorem ae (k:Nat) (a1:Arg):@Eq (Option Out) (D.W k a1) (p a1):=by kernel_rfl
theorem ok:Ok prog 332 D.sig:=aw func332 a7 (by kernel_rfl) (ak _)
end o9
namespace qM
abbrev Arg:Type:=(List Key)×Int×Unit
abbrev Out:Type:=Int×Unit
noncomputable def D:FD:={ fn:=f333,tl:=be,ps:=[(.ro,(.U bq)),(.ro,i64)],rs:=[(i64,(az i64))] }
noncomputable def aa (a:Arg):Option Out:=@lift Out fun k=>D.W k a
noncomputable def p (a1:Arg):Option Out:=bif decide (af (a1.2.1 - (a1.1.length:Int)) < (0:Int)) then (some ((-1:Int),())) else some (af (a1.2.1 - (a1.1.length:Int)),())
theorem ae (k:Nat) (a1:Arg):@Eq (Option Out) (D.W k a1) (p a1):=by kernel_rfl
theorem ok:Ok prog 333 D.sig:=aw func333 a7 (by kernel_rfl) (ak _)
end qM
namespace sH
abbrev Arg:Type:=Tx×Int×Unit
abbrev Out:Type:=Int×Unit
noncomputable def D:FD:={ fn:=f225,tl:=be,ps:=[(.ro,ct),(.ro,i64)],rs:=[(i64,(az i64))],gl:=[(331,f8.D.sig),(332,o9.D.sig),(333,qM.D.sig)] }
noncomputable def aa (a:Arg):Option Out:=@lift Out fun k=>D.W k a
noncomputable def p (a1:Arg):Option Out:=(f8.aa (a1.1.2.1,a1.2.1,())).bind fun r2=>bif decide (r2.1 < (0:Int)) then (some ((-1:Int),())) else (o9.aa (a1.1.2.2.1,r2.1,())).bind fun r3=>bif decide (r3.1 < (0:Int)) then (some ((-1:Int),())) else (qM.aa (a1.1.2.2.2.1,r3.1,())).bind fun r4=>bif decide (r4.1 < (0:Int)) then (some ((-1:Int),())) else some (r4.1,())
theorem ae (k:Nat) (a1:Arg):@Eq (Option Out) (D.W k a1) (p a1):=by kernel_rfl
theorem ok:Ok prog 225 D.sig:=aw func225 a7 (by kernel_rfl) (fc f8.ok (fc o9.ok (fc qM.ok (ak _))))
end sH
namespace jn
abbrev Arg:Type:=(List Tx)×Int×Unit
abbrev Out:Type:=Int×Unit
abbrev Y:=Option Out
noncomputable def D:FD:={ fn:=f102,tl:=be,ps:=[(.ro,(.U ct)),(.ro,i64)],rs:=[(i64,(az i64))],gl:=[(225,sH.D.sig)],lv:=[(5,[0,1,5])],lx:=[(0,[1])] }
noncomputable def aa (a:Arg):Y:=@lift Out fun k=>D.W k a
noncomputable def T0 (a1:Arg) (J:Int×Int):St:={ n:=27,sl:=[(0,.val (.U ct) a1.1),(1,.val i64 J.1),(5,.val i64 J.2)],vr:=[],aT:=[] }
noncomputable def b0 (self:(Int×Int)->Y) (e0:Int->Y) (a1:Arg) (J:Int×Int):Y:=bif decide (J.2 < (a1.1.length:Int)) then (if 0<=J.2 then ((a1.1[J.2.toNat]?).bind fun a_=>(sH.aa (a_,J.1,())).bind fun dn=>bif decide (dn.1 < (0:Int)) then (some ((-1:Int),())) else self (dn.1,af (J.2+(1:Int)))) else none) else e0 J.1
noncomputable def q0 (a1:Arg) (dz:Int):Y:=some (dz,())
noncomputable def s0 (k:Nat) (a1:Arg):(Int×Int)->Y:=fun J=>D.L k [1,1,1,0,1,0,0] [0,1,5] [] (ag 0 (ay (D.N k [1,1,1,1]) D.K0)) (T0 a1 J)
noncomputable def r0 (k:Nat) (a1:Arg):(Int×Int)->Y:=aq (fun w v=>b0 w (q0 a1) a1 v) k
theorem ax (k:Nat) (a1:Arg):s0 k a1=r0 k a1:=
 funext fun J=>av _ _ _ (T0 a1) _ (fun rec v=>by kernel_rfl) k J
noncomputable def p (l0:(Int×Int)->Y) (a1:Arg):Y:=bif decide (af (a1.2.1 - (a1.1.length:Int)) < (0:Int)) then (some ((-1:Int),())) else l0 (af (a1.2.1 - (a1.1.length:Int)),(0:Int))
theorem ae (k:Nat) (a1:Arg):@Eq Y (D.W k a1) (p (r0 k a1) a1):=
 aX (b:=p (s0 k a1) a1) (by kernel_rfl) (by rw[ax])
theorem ok:Ok prog 102 D.sig:=aw func102 a7 (by kernel_rfl) (fc sH.ok (ak _))
end jn
namespace pX
abbrev Arg:Type:=Plain×Int×Unit
abbrev Out:Type:=Int×Unit
noncomputable def D:FD:={ fn:=f15,tl:=be,ps:=[(.ro,jZ),(.ro,i64)],rs:=[(i64,(az i64))],gl:=[(101,kg.D.sig),(102,jn.D.sig)] }
noncomputable def aa (a:Arg):Option Out:=@lift Out fun k=>D.W k a
noncomputable def p (a1:Arg):Option Out:=(kg.aa (a1.1.1,a1.2.1,())).bind fun r2=>bif decide (r2.1 < (0:Int)) then (some ((-1:Int),())) else (jn.aa (a1.1.2.1,r2.1,())).bind fun r3=>bif decide (r3.1 < (0:Int)) then (some ((-1:Int),())) else some (r3.1,())
theorem ae (k:Nat) (a1:Arg):@Eq (Option Out) (D.W k a1) (p a1):=by kernel_rfl
theorem ok:Ok prog 15 D.sig:=aw func15 a7 (by kernel_rfl) (fc kg.ok (fc jn.ok (ak _)))
end pX
namespace jW
abbrev Arg:Type:=(List Row)×Int×Int×Unit
abbrev Out:Type:=Int×Unit
abbrev Y:=Option Out
noncomputable def D:FD:={ fn:=f304,tl:=be,ps:=[(.ro,(.U au)),(.ro,i64),(.ro,i64)],rs:=[(i64,(az i64))],lv:=[(2,[0,1,2,7])],lx:=[(0,[])] }
noncomputable def aa (a:Arg):Y:=@lift Out fun k=>D.W k a
noncomputable def T0 (a1:Arg) (J:Int):St:={ n:=31,sl:=[(0,.val (.U au) a1.1),(1,.val i64 a1.2.1),(2,.val i64 a1.2.2.1),(7,.val i64 J)],vr:=[],aT:=[] }
noncomputable def b0 (self:Int->Y) (e0:(Unit)->Y) (a1:Arg) (J:Int):Y:=bif decide (J < (a1.1.length:Int)) then (if 0<=J then ((a1.1[J.toNat]?).bind fun a_=>bif decide (a_.1=a1.2.1) then (if 0<=J then ((a1.1[J.toNat]?).bind fun en=>bif decide (en.2.1=a1.2.2.1) then (some (J,())) else self (af (J+(1:Int)))) else none) else self (af (J+(1:Int)))) else none) else e0 ()
noncomputable def q0 (a1:Arg) (dz:(Unit)):Y:=some ((-1:Int),())
noncomputable def s0 (k:Nat) (a1:Arg):(Int)->Y:=fun J=>D.L k [1,0,1,0,0] [0,1,2,7] [] (ag 0 (ay (D.N k [1,1]) D.K0)) (T0 a1 J)
noncomputable def r0 (k:Nat) (a1:Arg):(Int)->Y:=aq (fun w v=>b0 w (q0 a1) a1 v) k
theorem ax (k:Nat) (a1:Arg):s0 k a1=r0 k a1:=
 funext fun J=>av _ _ _ (T0 a1) _ (fun rec v=>by kernel_rfl) k J
noncomputable def p (l0:(Int)->Y) (a1:Arg):Y:=l0 (0:Int)
theorem ae (k:Nat) (a1:Arg):@Eq Y (D.W k a1) (p (r0 k a1) a1):=
 aX (b:=p (s0 k a1) a1) (by kernel_rfl) (by rw[ax])
theorem ok:Ok prog 304 D.sig:=aw func304 a7 (by kernel_rfl) (ak _)
end jW
namespace mD
abbrev Arg:Type:=Row×Row×Unit
abbrev Out:Type:=Bool×Unit
noncomputable def D:FD:={ fn:=f334,tl:=be,ps:=[(.ro,(.ptr au)),(.ro,(.ptr au))],rs:=[(.bool,(az .bool))],od:=[(1,[0,1,2,3,4,5,6,7,8,9,10,11,12,13,14,15,16,17,18,19,20,21,22,23,24,25,26,27,28,29,30,31])] }
noncomputable def aa (a:Arg):Option Out:=@lift Out fun k=>D.W k a
noncomputable def p (a1:Arg):Option Out:=bif decide (a1.1.1 < a1.2.1.1) then (some (true,())) else bif decide (a1.1.1=a1.2.1.1) then (some (decide (a1.1.2.1 < a1.2.1.2.1),())) else some (false,())
theorem ae (k:Nat) (a1:Arg):@Eq (Option Out) (D.W k a1) (p a1):=by kernel_rfl
theorem ok:Ok prog 334 D.sig:=aw func334 a7 (by kernel_rfl) (ak _)
end mD
namespace i7
abbrev Arg:Type:=(List Row)×Row×Unit
abbrev Out:Type:=(List Row)×Unit
abbrev Y:=Option Out
noncomputable def D:FD:={ fn:=f305,tl:=be,ps:=[(.ro,(.U au)),(.ro,au)],rs:=[((.U au),(am (.U au)))],gl:=[(334,mD.D.sig)],lv:=[(2,[0,3,5])],lx:=[(0,[0,3,5])],od:=[(5,[0,1,4,5,6,2,3,7,8])] }
noncomputable def aa (a:Arg):Y:=@lift Out fun k=>D.W k a
noncomputable def T0 (a1:Arg) (J:Int):St:={ n:=32,sl:=[(0,.val (.U au) a1.1),(3,.box au (az au) [] a1.2.1),(5,.val i64 J)],vr:=[],aT:=[] }
noncomputable def b0 (self:Int->Y) (e0:Int->Y) (a1:Arg) (J:Int):Y:=bif decide (J < (a1.1.length:Int)) then (if 0<=J then ((a1.1[J.toNat]?).bind fun a_=>(mD.aa (a_,a1.2.1,())).bind fun dn=>bif dn.1 then (self (af (J+(1:Int)))) else e0 J) else none) else e0 J
noncomputable def q0 (a1:Arg) (dz:Int):Y:=if 0<=dz/\dz<=(a1.1.length:Int) then (if ([]:List Row).length+((a1.1.take dz.toNat).drop 0).length<=bz then (let Dt:=([]:List Row)++((a1.1.take dz.toNat).drop 0);if 0<=dz/\dz<=(a1.1.length:Int) then (if Dt.length+[a1.2.1].length<=bz then (if (Dt++[a1.2.1]).length+((a1.1.take a1.1.length).drop dz.toNat).length<=bz then (let Du:=(Dt++[a1.2.1])++((a1.1.take a1.1.length).drop dz.toNat);some (Du,())) else none) else none) else none) else none) else none
noncomputable def s0 (k:Nat) (a1:Arg):(Int)->Y:=fun J=>D.L k [1,1,0,0,0] [0,3,5] [] (ag 0 (ay (D.N k [1,1,1]) D.K0)) (T0 a1 J)
noncomputable def r0 (k:Nat) (a1:Arg):(Int)->Y:=aq (fun w v=>b0 w (q0 a1) a1 v) k
theorem ax (k:Nat) (a1:Arg):s0 k a1=r0 k a1:=
 funext fun J=>av _ _ _ (T0 a1) _ (fun rec v=>by kernel_rfl) k J
noncomputable def p (l0:(Int)->Y) (a1:Arg):Y:=l0 (0:Int)
theorem ae (k:Nat) (a1:Arg):@Eq Y (D.W k a1) (p (r0 k a1) a1):=
 aX (b:=p (s0 k a1) a1) (by kernel_rfl) (by rw[ax])
theorem ok:Ok prog 305 D.sig:=aw func305 a7 (by kernel_rfl) (fc mD.ok (ak _))
end i7
namespace mt
abbrev Arg:Type:=Change×Unit
abbrev Out:Type:=Int×Int×Unit
noncomputable def D:FD:={ fn:=f321,tl:=be,ps:=[(.ro,(.ptr ap))],rs:=[(i64,(az i64)),(i64,(az i64))],od:=[(2,[0,1,2,3,4,5,6,7,8,9,10,11]),(3,[0,1,2,3,4,5,6,7,8,9,10,11])] }
noncomputable def aa (a:Arg):Option Out:=@lift Out fun k=>D.W k a
noncomputable def p (a1:Arg):Option Out:=bif a1.1.2.2.1 then (some (a1.1.2.2.2.1.1,a1.1.2.2.2.1.2.1,())) else some (a1.1.2.1.1,a1.1.2.1.2.1,())
theorem ae (k:Nat) (a1:Arg):@Eq (Option Out) (D.W k a1) (p a1):=by kernel_rfl
theorem ok:Ok prog 321 D.sig:=aw func321 a7 (by kernel_rfl) (ak _)
end mt
namespace lh
abbrev Arg:Type:=(List Row)×Change×Unit
abbrev Out:Type:=(List Row)×Bool×Unit
abbrev Y:=Option Out
noncomputable def D:FD:={ fn:=f237,tl:=be,ps:=[(.ro,(.U au)),(.ro,(.ptr ap))],rs:=[((.U au),(am (.U au))),(.bool,(az .bool))],gl:=[(304,jW.D.sig),(305,i7.D.sig),(321,mt.D.sig)],lv:=[(7,[0,1,8,9,10])],lx:=[(0,[1,9])],od:=[(3,[0,1,2,3,4,5,6,7,8,9,10,11,12,13,14,15,16,17,18,19,20,21])] }
noncomputable def aa (a:Arg):Y:=@lift Out fun k=>D.W k a
noncomputable def T0 (a1:Arg) (oJ:Int) (gr:(List Row)×Int):St:={ n:=70,sl:=[(0,.val (.U au) a1.1),(1,.cp ap a1.2.1),(8,.val i64 oJ),(9,.own (.U au) (am (.U au)) [] gr.1),(10,.val i64 gr.2)],vr:=[],aT:=[] }
noncomputable def b0 (self:((List Row)×Int)->Y) (e0:(List Row)->Y) (a1:Arg) (oJ:Int) (gr:(List Row)×Int):Y:=bif decide (gr.2 < (a1.1.length:Int)) then (bif !decide (gr.2=oJ) then (if 0<=gr.2 then ((a1.1[gr.2.toNat]?).bind fun Aa=>if gr.1.length+[Aa].length<=bz then (self (gr.1++[Aa],af (gr.2+(1:Int)))) else none) else none) else self (gr.1,af (gr.2+(1:Int)))) else e0 gr.1
noncomputable def q0 (a1:Arg) (oJ:Int) (Vs:(List Row)):Y:=bif a1.2.1.2.2.1 then ((i7.aa (Vs,a1.2.1.2.2.2.1,())).bind fun GS=>some (GS.1,true,())) else some (Vs,true,())
noncomputable def s0 (k:Nat) (a1:Arg):Int->((List Row)×Int)->Y:=fun oJ=>fun gr=>D.L k [1,1,1,1,1,0,1,0,0] [0,1,8,9,10] [] (ag 0 (ay (D.N k [1,1,1,1,1,1]) D.K0)) (T0 a1 oJ gr)
noncomputable def r0 (k:Nat) (a1:Arg):Int->((List Row)×Int)->Y:=fun oJ=>aq (fun w v=>b0 w (q0 a1 oJ) a1 oJ v) k
theorem ax (k:Nat) (a1:Arg):s0 k a1=r0 k a1:=
 funext fun oJ=>funext fun gr=>av _ _ _ (T0 a1 oJ) _ (fun rec v=>by kernel_rfl) k gr
noncomputable def p (l0:Int->((List Row)×Int)->Y) (a1:Arg):Y:=(mt.aa (a1.2.1,())).bind fun r2=>(jW.aa (a1.1,r2.1,r2.2.1,())).bind fun r3=>let Le:Y:=l0 r3.1 (([]:List Row),(0:Int));bif !(a1.2.1.1 == (decide ((0:Int)<=r3.1))) then (some (([]:List Row),false,())) else bif decide ((0:Int)<=r3.1) then (if 0<=r3.1 then ((a1.1[r3.1.toNat]?).bind fun x4=>bif !(Ty.eq au x4 a1.2.1.2.1) then (some (([]:List Row),false,())) else Le) else none) else Le
theorem ae (k:Nat) (a1:Arg):@Eq Y (D.W k a1) (p (r0 k a1) a1):=
 aX (b:=p (s0 k a1) a1) (by kernel_rfl) (by rw[ax])
theorem ok:Ok prog 237 D.sig:=aw func237 a7 (by kernel_rfl) (fc jW.ok (fc i7.ok (fc mt.ok (ak _))))
end lh
namespace ku
abbrev Arg:Type:=(List Change)×Unit
abbrev Out:Type:=(List Change)×Unit
abbrev Y:=Option Out
noncomputable def D:FD:={ fn:=f343,tl:=be,ps:=[(.ro,(.U ap))],rs:=[((.U ap),(am (.U ap)))],lv:=[(3,[0,3,4])],lx:=[(0,[3])] }
noncomputable def aa (a:Arg):Y:=@lift Out fun k=>D.W k a
noncomputable def T0 (a1:Arg) (J:(List Change)×Int):St:={ n:=31,sl:=[(0,.val (.U ap) a1.1),(3,.own (.U ap) (am (.U ap)) [] J.1),(4,.val i64 J.2)],vr:=[],aT:=[] }
noncomputable def b0 (self:((List Change)×Int)->Y) (e0:(List Change)->Y) (a1:Arg) (J:(List Change)×Int):Y:=bif decide ((0:Int)<=J.2) then (if 0<=J.2 then ((a1.1[J.2.toNat]?).bind fun a_=>if J.1.length+[(a_.2.2.1,a_.2.2.2.1,a_.1,a_.2.1,())].length<=bz then (let Dv:=J.1++[(a_.2.2.1,a_.2.2.2.1,a_.1,a_.2.1,())];self (Dv,af (J.2 - (1:Int)))) else none) else none) else e0 J.1
noncomputable def q0 (a1:Arg) (dz:(List Change)):Y:=some (dz,())
noncomputable def s0 (k:Nat) (a1:Arg):((List Change)×Int)->Y:=fun J=>D.L k [1,1,0,1,0,0] [0,3,4] [] (ag 0 (ay (D.N k [1,1,1]) D.K0)) (T0 a1 J)
noncomputable def r0 (k:Nat) (a1:Arg):((List Change)×Int)->Y:=aq (fun w v=>b0 w (q0 a1) a1 v) k
theorem ax (k:Nat) (a1:Arg):s0 k a1=r0 k a1:=
 funext fun J=>av _ _ _ (T0 a1) _ (fun rec v=>by kernel_rfl) k J
noncomputable def p (l0:((List Change)×Int)->Y) (a1:Arg):Y:=l0 (([]:List Change),af ((a1.1.length:Int) - (1:Int)))
theorem ae (k:Nat) (a1:Arg):@Eq Y (D.W k a1) (p (r0 k a1) a1):=
 aX (b:=p (s0 k a1) a1) (by kernel_rfl) (by rw[ax])
theorem ok:Ok prog 343 D.sig:=aw func343 a7 (by kernel_rfl) (ak _)
end ku
namespace l5
abbrev Arg:Type:=(List Row)×(List Change)×Unit
abbrev Out:Type:=(List Row)×Bool×Unit
abbrev Y:=Option Out
noncomputable def D:FD:={ fn:=f234,tl:=be,ps:=[(.ro,(.U au)),(.ro,(.U ap))],rs:=[((.U au),(az (.U au))),(.bool,(az .bool))],gl:=[(237,lh.D.sig),(343,ku.D.sig)],lv:=[(3,[0,6,7])],lx:=[(0,[0])],lf:=[(3,[(0,(.U false (.pair .leaf (.pair .leaf (.pair .leaf (.pair .leaf .leaf))))))])] }
noncomputable def aa (a:Arg):Y:=@lift Out fun k=>D.W k a
noncomputable def T0 (a1:Arg) (l6:List Change) (bb:(List Row)×Int):St:={ n:=30,sl:=[(0,.val (.U au) bb.1),(6,.own (.U ap) (am (.U ap)) [] l6),(7,.val i64 bb.2)],vr:=[],aT:=[] }
noncomputable def b0 (self:((List Row)×Int)->Y) (e0:(List Row)->Y) (a1:Arg) (l6:List Change) (bb:(List Row)×Int):Y:=bif decide (bb.2 < (l6.length:Int)) then (if 0<=bb.2/\bb.2 < (l6.length:Int) then ((l6[bb.2.toNat]?).bind fun i_=>(lh.aa (bb.1,i_,())).bind fun rx=>bif !rx.2.1 then (some (([]:List Row),false,())) else self (rx.1,af (bb.2+(1:Int)))) else none) else e0 bb.1
noncomputable def q0 (a1:Arg) (l6:List Change) (nQ:(List Row)):Y:=some (nQ,true,())
noncomputable def s0 (k:Nat) (a1:Arg):(List Change)->((List Row)×Int)->Y:=fun l6=>fun bb=>D.L k [1,1,0,1,0,0] [0,6,7] [(0,(.U false (.pair .leaf (.pair .leaf (.pair .leaf (.pair .leaf .leaf))))))] (ag 0 (ay (D.N k [1,1,1]) D.K0)) (T0 a1 l6 bb)
noncomputable def r0 (k:Nat) (a1:Arg):(List Change)->((List Row)×Int)->Y:=fun l6=>aq (fun w v=>b0 w (q0 a1 l6) a1 l6 v) k
theorem ax (k:Nat) (a1:Arg):s0 k a1=r0 k a1:=
 funext fun l6=>funext fun bb=>av _ _ _ (T0 a1 l6) _ (fun rec v=>by kernel_rfl) k bb
noncomputable def p (l0:(List Change)->((List Row)×Int)->Y) (a1:Arg):Y:=(ku.aa (a1.2.1,())).bind fun r2=>l0 r2.1 (a1.1,(0:Int))
theorem ae (k:Nat) (a1:Arg):@Eq Y (D.W k a1) (p (r0 k a1) a1):=
 aX (b:=p (s0 k a1) a1) (by kernel_rfl) (by rw[ax])
theorem ok:Ok prog 234 D.sig:=aw func234 a7 (by kernel_rfl) (fc lh.ok (fc ku.ok (ak _)))
end l5
namespace j0
abbrev Arg:Type:=(List Row)×(List Tx)×Unit
abbrev Out:Type:=(List Row)×Bool×Unit
abbrev Y:=Option Out
noncomputable def D:FD:={ fn:=f178,tl:=be,ps:=[(.ro,(.U au)),(.ro,(.U ct))],rs:=[((.U au),(az (.U au))),(.bool,(az .bool))],gl:=[(234,l5.D.sig)],lv:=[(3,[1,6,7])],lx:=[(0,[6])],lf:=[(3,[(6,(.U false (.pair .leaf (.pair .leaf (.pair .leaf (.pair .leaf .leaf))))))])] }
noncomputable def aa (a:Arg):Y:=@lift Out fun k=>D.W k a
noncomputable def T0 (a1:Arg) (J:(List Row)×Int):St:={ n:=33,sl:=[(1,.val (.U ct) a1.2.1),(6,.val (.U au) J.1),(7,.val i64 J.2)],vr:=[],aT:=[] }
noncomputable def b0 (self:((List Row)×Int)->Y) (e0:(List Row)->Y) (a1:Arg) (J:(List Row)×Int):Y:=bif decide (J.2 < (a1.2.1.length:Int)) then (if 0<=J.2 then ((a1.2.1[J.2.toNat]?).bind fun a_=>(l5.aa (J.1,a_.2.1,())).bind fun dn=>bif !dn.2.1 then (some (([]:List Row),false,())) else self (dn.1,af (J.2+(1:Int)))) else none) else e0 J.1
noncomputable def q0 (a1:Arg) (dz:(List Row)):Y:=some (dz,true,())
noncomputable def s0 (k:Nat) (a1:Arg):((List Row)×Int)->Y:=fun J=>D.L k [1,1,0,1,0,0] [1,6,7] [(6,(.U false (.pair .leaf (.pair .leaf (.pair .leaf (.pair .leaf .leaf))))))] (ag 0 (ay (D.N k [1,1,1]) D.K0)) (T0 a1 J)
noncomputable def r0 (k:Nat) (a1:Arg):((List Row)×Int)->Y:=aq (fun w v=>b0 w (q0 a1) a1 v) k
theorem ax (k:Nat) (a1:Arg):s0 k a1=r0 k a1:=
 funext fun J=>av _ _ _ (T0 a1) _ (fun rec v=>by kernel_rfl) k J
noncomputable def p (l0:((List Row)×Int)->Y) (a1:Arg):Y:=if ([]:List Row).length+a1.1.length<=bz then (l0 (([]:List Row)++a1.1,(0:Int))) else none
theorem ae (k:Nat) (a1:Arg):@Eq Y (D.W k a1) (p (r0 k a1) a1):=
 aX (b:=p (s0 k a1) a1) (by kernel_rfl) (by rw[ax])
theorem ok:Ok prog 178 D.sig:=aw func178 a7 (by kernel_rfl) (fc l5.ok (ak _))
end j0
namespace bj
abbrev Arg:Type:=Int×Int×Int×Unit
abbrev Out:Type:=Bool×Unit
noncomputable def D:FD:={ fn:=f218,tl:=be,ps:=[(.ro,i64),(.ro,i64),(.ro,i64)],rs:=[(.bool,(az .bool))] }
noncomputable def aa (a:Arg):Option Out:=@lift Out fun k=>D.W k a
noncomputable def p (a1:Arg):Option Out:=bif decide (a1.2.1<=a1.1) then (some (decide (a1.1<=a1.2.2.1),())) else some (false,())
theorem ae (k:Nat) (a1:Arg):@Eq (Option Out) (D.W k a1) (p a1):=by kernel_rfl
theorem ok:Ok prog 218 D.sig:=aw func218 a7 (by kernel_rfl) (ak _)
end bj
namespace mg
abbrev Arg:Type:=(List UInt8)×Unit
abbrev Out:Type:=Bool×Unit
abbrev Y:=Option Out
noncomputable def D:FD:={ fn:=f403,tl:=be,ps:=[(.ro,.str)],rs:=[(.bool,(az .bool))],lv:=[(2,[0,3])],lx:=[(0,[0])] }
noncomputable def aa (a:Arg):Y:=@lift Out fun k=>D.W k a
noncomputable def T0 (a1:Arg) (J:Int):St:={ n:=23,sl:=[(0,.val .str a1.1),(3,.val i64 J)],vr:=[],aT:=[] }
noncomputable def b0 (self:Int->Y) (e0:(Unit)->Y) (a1:Arg) (J:Int):Y:=bif decide (J < (a1.1.length:Int)) then (if 0<=J then ((a1.1[J.toNat]?).bind fun a_=>bif decide ((a_.toNat:Int) < (97:Int)) then (some (false,())) else if 0<=J then ((a1.1[J.toNat]?).bind fun en=>bif decide ((122:Int) < (en.toNat:Int)) then (some (false,())) else self (af (J+(1:Int)))) else none) else none) else e0 ()
noncomputable def q0 (a1:Arg) (dz:(Unit)):Y:=some (decide ((a1.1.length:Int)<=(8:Int)),())
noncomputable def s0 (k:Nat) (a1:Arg):(Int)->Y:=fun J=>D.L k [1,0,1,0,0] [0,3] [] (ag 0 (ay (D.N k [1,1]) D.K0)) (T0 a1 J)
noncomputable def r0 (k:Nat) (a1:Arg):(Int)->Y:=aq (fun w v=>b0 w (q0 a1) a1 v) k
theorem ax (k:Nat) (a1:Arg):s0 k a1=r0 k a1:=
 funext fun J=>av _ _ _ (T0 a1) _ (fun rec v=>by kernel_rfl) k J
noncomputable def p (l0:(Int)->Y) (a1:Arg):Y:=l0 (0:Int)
theorem ae (k:Nat) (a1:Arg):@Eq Y (D.W k a1) (p (r0 k a1) a1):=
 aX (b:=p (s0 k a1) a1) (by kernel_rfl) (by rw[ax])
theorem ok:Ok prog 403 D.sig:=aw func403 a7 (by kernel_rfl) (ak _)
end mg
namespace jg
abbrev Arg:Type:=Row×Unit
abbrev Out:Type:=Int×Unit
noncomputable def D:FD:={ fn:=f320,tl:=be,ps:=[(.ro,(.ptr au))],rs:=[(i64,(az i64))],gl:=[(218,bj.D.sig),(403,mg.D.sig)] }
noncomputable def aa (a:Arg):Option Out:=@lift Out fun k=>D.W k a
noncomputable def p (a1:Arg):Option Out:=(bj.aa (a1.1.1,(0:Int),(3:Int),())).bind fun r2=>bif !r2.1 then (some ((3:Int),())) else (bj.aa (a1.1.2.1,(1:Int),(99:Int),())).bind fun r3=>bif !r3.1 then (some ((3:Int),())) else (bj.aa (a1.1.2.2.1,(0:Int),(999:Int),())).bind fun r4=>bif !r4.1 then (some ((3:Int),())) else (mg.aa (a1.1.2.2.2.1,())).bind fun r5=>bif !r5.1 then (some ((5:Int),())) else some ((0:Int),())
theorem ae (k:Nat) (a1:Arg):@Eq (Option Out) (D.W k a1) (p a1):=by kernel_rfl
theorem ok:Ok prog 320 D.sig:=aw func320 a7 (by kernel_rfl) (fc bj.ok (fc mg.ok (ak _)))
end jg
namespace fy
abbrev Arg:Type:=(List Row)×Unit
abbrev Out:Type:=Int×Unit
abbrev Y:=Option Out
noncomputable def D:FD:={ fn:=f226,tl:=be,ps:=[(.ro,(.U au))],rs:=[(i64,(az i64))],gl:=[(320,jg.D.sig),(334,mD.D.sig)],lv:=[(4,[0,3])],lx:=[(0,[])],od:=[(9,[0,1,2,3,4,5,6,7,8,9,10,11,12])] }
noncomputable def aa (a:Arg):Y:=@lift Out fun k=>D.W k a
noncomputable def T0 (a1:Arg) (J:Int):St:={ n:=34,sl:=[(0,.val (.U au) a1.1),(3,.val i64 J)],vr:=[],aT:=[] }
noncomputable def b0 (self:Int->Y) (e0:(Unit)->Y) (a1:Arg) (J:Int):Y:=bif decide (J < (a1.1.length:Int)) then (if 0<=J then ((a1.1[J.toNat]?).bind fun a_=>(jg.aa (a_,())).bind fun dn=>bif !decide (dn.1=(0:Int)) then (some (dn.1,())) else bif decide ((0:Int) < J) then (if 0<=af (J - (1:Int)) then ((a1.1[(af (J - (1:Int))).toNat]?).bind fun i_=>if 0<=J then ((a1.1[J.toNat]?).bind fun ry=>(mD.aa (i_,ry,())).bind fun lO=>bif !lO.1 then (some ((1:Int),())) else self (af (J+(1:Int)))) else none) else none) else self (af (J+(1:Int)))) else none) else e0 ()
noncomputable def q0 (a1:Arg) (pr:(Unit)):Y:=some ((0:Int),())
noncomputable def s0 (k:Nat) (a1:Arg):(Int)->Y:=fun J=>D.L k [1,1,0,1,0,0] [0,3] [] (ag 0 (ay (D.N k [1,1,1]) D.K0)) (T0 a1 J)
noncomputable def r0 (k:Nat) (a1:Arg):(Int)->Y:=aq (fun w v=>b0 w (q0 a1) a1 v) k
theorem ax (k:Nat) (a1:Arg):s0 k a1=r0 k a1:=
 funext fun J=>av _ _ _ (T0 a1) _ (fun rec v=>by kernel_rfl) k J
noncomputable def p (l0:(Int)->Y) (a1:Arg):Y:=bif decide ((60:Int) < (a1.1.length:Int)) then (some ((2:Int),())) else l0 (0:Int)
theorem ae (k:Nat) (a1:Arg):@Eq Y (D.W k a1) (p (r0 k a1) a1):=
 aX (b:=p (s0 k a1) a1) (by kernel_rfl) (by rw[ax])
theorem ok:Ok prog 226 D.sig:=aw func226 a7 (by kernel_rfl) (fc jg.ok (fc mD.ok (ak _)))
end fy
namespace o_
abbrev Arg:Type:=Change×Unit
abbrev Out:Type:=Key×Unit
noncomputable def D:FD:={ fn:=f344,tl:=be,ps:=[(.ro,(.ptr ap))],rs:=[(bq,(az bq))],gl:=[(321,mt.D.sig)] }
noncomputable def aa (a:Arg):Option Out:=@lift Out fun k=>D.W k a
noncomputable def p (a1:Arg):Option Out:=(mt.aa (a1.1,())).bind fun r2=>some ((r2.1,r2.2.1,()),())
theorem ae (k:Nat) (a1:Arg):@Eq (Option Out) (D.W k a1) (p a1):=by kernel_rfl
theorem ok:Ok prog 344 D.sig:=aw func344 a7 (by kernel_rfl) (fc mt.ok (ak _))
end o_
namespace jt
abbrev Arg:Type:=Tx×Key×Unit
abbrev Out:Type:=Bool×Unit
abbrev Y:=Option Out
noncomputable def D:FD:={ fn:=f345,tl:=be,ps:=[(.ro,(.ptr ct)),(.ro,bq)],rs:=[(.bool,(az .bool))],lv:=[(2,[0,3,5])],lx:=[(0,[])],od:=[(4,[0,1,2,3,4,5,6,7,8])] }
noncomputable def aa (a:Arg):Y:=@lift Out fun k=>D.W k a
noncomputable def T0 (a1:Arg) (J:Int):St:={ n:=24,sl:=[(0,.cp ct a1.1),(3,.box bq (az bq) [] a1.2.1),(5,.val i64 J)],vr:=[],aT:=[] }
noncomputable def b0 (self:Int->Y) (e0:(Unit)->Y) (a1:Arg) (J:Int):Y:=bif decide (J < (a1.1.2.2.2.1.length:Int)) then (if 0<=J then ((a1.1.2.2.2.1[J.toNat]?).bind fun a_=>bif (Ty.eq bq a_ a1.2.1) then (some (true,())) else self (af (J+(1:Int)))) else none) else e0 ()
noncomputable def q0 (a1:Arg) (qq:(Unit)):Y:=some (false,())
noncomputable def s0 (k:Nat) (a1:Arg):(Int)->Y:=fun J=>D.L k [1,0,1,0,0] [0,3,5] [] (ag 0 (ay (D.N k [1,1]) D.K0)) (T0 a1 J)
noncomputable def r0 (k:Nat) (a1:Arg):(Int)->Y:=aq (fun w v=>b0 w (q0 a1) a1 v) k
theorem ax (k:Nat) (a1:Arg):s0 k a1=r0 k a1:=
 funext fun J=>av _ _ _ (T0 a1) _ (fun rec v=>by kernel_rfl) k J
noncomputable def p (l0:(Int)->Y) (a1:Arg):Y:=l0 (0:Int)
theorem ae (k:Nat) (a1:Arg):@Eq Y (D.W k a1) (p (r0 k a1) a1):=
 aX (b:=p (s0 k a1) a1) (by kernel_rfl) (by rw[ax])
theorem ok:Ok prog 345 D.sig:=aw func345 a7 (by kernel_rfl) (ak _)
end jt
namespace mE
abbrev Arg:Type:=Change×Unit
abbrev Out:Type:=Int×Unit
noncomputable def D:FD:={ fn:=f205,tl:=be,ps:=[(.ro,(.ptr ap))],rs:=[(i64,(az i64))],gl:=[(320,jg.D.sig)],od:=[(1,[0,1,2,3,4,5,6,7,8,9,10,11,12,13,14,15,16,17,18,19,20,21,22,23,24,25,26,27,28,29,30,31,32,33,34,35,36,37,38,39,40,41,42,43,44,45,46,47,48,49])] }
noncomputable def aa (a:Arg):Option Out:=@lift Out fun k=>D.W k a
noncomputable def p (a1:Arg):Option Out:=let j5:Option Out:=bif a1.1.1 then ((jg.aa (a1.1.2.1,())).bind fun r6=>bif !decide (r6.1=(0:Int)) then (some (r6.1,())) else bif a1.1.2.2.1 then ((jg.aa (a1.1.2.2.2.1,())).bind fun r8=>some (r8.1,())) else some ((0:Int),())) else bif a1.1.2.2.1 then ((jg.aa (a1.1.2.2.2.1,())).bind fun r9=>some (r9.1,())) else some ((0:Int),());bif !a1.1.1 then (bif !a1.1.2.2.1 then (some ((1:Int),())) else bif a1.1.1 then (bif a1.1.2.2.1 then (bif !decide (a1.1.2.1.1=a1.1.2.2.2.1.1) then (some ((1:Int),())) else bif !decide (a1.1.2.1.2.1=a1.1.2.2.2.1.2.1) then (some ((1:Int),())) else j5) else j5) else j5) else bif a1.1.1 then (bif a1.1.2.2.1 then (bif !decide (a1.1.2.1.1=a1.1.2.2.2.1.1) then (some ((1:Int),())) else bif !decide (a1.1.2.1.2.1=a1.1.2.2.2.1.2.1) then (some ((1:Int),())) else j5) else j5) else j5
theorem ae (k:Nat) (a1:Arg):@Eq (Option Out) (D.W k a1) (p a1):=by kernel_rfl
theorem ok:Ok prog 205 D.sig:=aw func205 a7 (by kernel_rfl) (fc jg.ok (ak _))
end mE
namespace kw
abbrev Arg:Type:=Change×Unit
abbrev Out:Type:=Int×Unit
noncomputable def D:FD:={ fn:=f360,tl:=be,ps:=[(.ro,(.ptr ap))],rs:=[(i64,(az i64))],gl:=[(205,mE.D.sig)],od:=[(4,[0,1,2,3,4,5,6,7,8,9,10,11,12,13,14,15,16,17,18,19,20])] }
noncomputable def aa (a:Arg):Option Out:=@lift Out fun k=>D.W k a
noncomputable def p (a1:Arg):Option Out:=(mE.aa (a1.1,())).bind fun r2=>bif !decide (r2.1=(0:Int)) then (some (r2.1,())) else bif a1.1.1 then (bif a1.1.2.2.1 then (bif (Ty.eq au a1.1.2.1 a1.1.2.2.2.1) then (some ((1:Int),())) else some ((0:Int),())) else some ((0:Int),())) else some ((0:Int),())
theorem ae (k:Nat) (a1:Arg):@Eq (Option Out) (D.W k a1) (p a1):=by kernel_rfl
theorem ok:Ok prog 360 D.sig:=aw func360 a7 (by kernel_rfl) (fc mE.ok (ak _))
end kw
namespace mF
abbrev Arg:Type:=Tx×Unit
abbrev Out:Type:=Int×Unit
abbrev Y:=Option Out
noncomputable def D:FD:={ fn:=f335,tl:=be,ps:=[(.ro,(.ptr ct))],rs:=[(i64,(az i64))],gl:=[(344,o_.D.sig),(345,jt.D.sig),(360,kw.D.sig)],lv:=[(2,[0,3])],lx:=[(0,[])] }
noncomputable def aa (a:Arg):Y:=@lift Out fun k=>D.W k a
noncomputable def T0 (a1:Arg) (J:Int):St:={ n:=34,sl:=[(0,.cp ct a1.1),(3,.val i64 J)],vr:=[],aT:=[] }
noncomputable def b0 (self:Int->Y) (e0:(Unit)->Y) (a1:Arg) (J:Int):Y:=bif decide (J < (a1.1.2.1.length:Int)) then (if 0<=J then ((a1.1.2.1[J.toNat]?).bind fun a_=>(kw.aa (a_,())).bind fun dn=>bif !decide (dn.1=(0:Int)) then (some (dn.1,())) else if 0<=J then ((a1.1.2.1[J.toNat]?).bind fun i_=>(o_.aa (i_,())).bind fun rx=>(jt.aa (a1.1,rx.1,())).bind fun lO=>bif !lO.1 then (some ((8:Int),())) else self (af (J+(1:Int)))) else none) else none) else e0 ()
noncomputable def q0 (a1:Arg) (pr:(Unit)):Y:=some ((0:Int),())
noncomputable def s0 (k:Nat) (a1:Arg):(Int)->Y:=fun J=>D.L k [1,0,1,0,0] [0,3] [] (ag 0 (ay (D.N k [1,1]) D.K0)) (T0 a1 J)
noncomputable def r0 (k:Nat) (a1:Arg):(Int)->Y:=aq (fun w v=>b0 w (q0 a1) a1 v) k
theorem ax (k:Nat) (a1:Arg):s0 k a1=r0 k a1:=
 funext fun J=>av _ _ _ (T0 a1) _ (fun rec v=>by kernel_rfl) k J
noncomputable def p (l0:(Int)->Y) (a1:Arg):Y:=l0 (0:Int)
theorem ae (k:Nat) (a1:Arg):@Eq Y (D.W k a1) (p (r0 k a1) a1):=
 aX (b:=p (s0 k a1) a1) (by kernel_rfl) (by rw[ax])
theorem ok:Ok prog 335 D.sig:=aw func335 a7 (by kernel_rfl) (fc o_.ok (fc jt.ok (fc kw.ok (ak _))))
end mF
namespace qN
abbrev Arg:Type:=Key×Unit
abbrev Out:Type:=Bool×Unit
noncomputable def D:FD:={ fn:=f413,tl:=be,ps:=[(.ro,(.ptr bq))],rs:=[(.bool,(az .bool))],gl:=[(218,bj.D.sig)] }
noncomputable def aa (a:Arg):Option Out:=@lift Out fun k=>D.W k a
noncomputable def p (a1:Arg):Option Out:=(bj.aa (a1.1.1,(0:Int),(3:Int),())).bind fun r2=>bif r2.1 then ((bj.aa (a1.1.2.1,(1:Int),(99:Int),())).bind fun r3=>some (r3.1,())) else some (false,())
theorem ae (k:Nat) (a1:Arg):@Eq (Option Out) (D.W k a1) (p a1):=by kernel_rfl
theorem ok:Ok prog 413 D.sig:=aw func413 a7 (by kernel_rfl) (fc bj.ok (ak _))
end qN
namespace cw
abbrev Arg:Type:=Tx×Unit
abbrev Out:Type:=Int×Unit
abbrev Y:=Option Out
noncomputable def D:FD:={ fn:=f336,tl:=be,ps:=[(.ro,(.ptr ct))],rs:=[(i64,(az i64))],gl:=[(218,bj.D.sig),(413,qN.D.sig)],lv:=[(4,[0,3]),(9,[0,4]),(14,[0,4,5])],lx:=[(0,[0]),(2,[]),(4,[0,4])],od:=[(6,[0,1,2,3,4,5,6,7,8,9,10,11,12,13,14,15,16,17,18,19,20,21,22,23,24,25,26,27,28,29,30,31,32,33,34,35]),(16,[0,1,2,3,4,5,6,7,8,9,10,11,12,13,14])],ar:=[(6,[3,6,10,21,24,28,32])] }
noncomputable def aa (a:Arg):Y:=@lift Out fun k=>D.W k a
noncomputable def T0 (a1:Arg) (J:Int):St:={ n:=102,sl:=[(0,.cp ct a1.1),(3,.val i64 J)],vr:=[],aT:=[] }
noncomputable def S0 (rec:RT Out) (a1:Arg):(Int)->Y:=fun J=>rec (T0 a1 J)
noncomputable def co (K:KT Out) (a1:Arg):(Unit)->Y:=fun z=>K (.exit 0) ({ n:=102,sl:=[(0,.cp ct a1.1)],vr:=[],aT:=[] })
noncomputable def b0 (self:Int->Y) (e0:(Unit)->Y) (a1:Arg) (J:Int):Y:=bif decide (J < (a1.1.2.2.1.length:Int)) then (if 0<=J then ((a1.1.2.2.1[J.toNat]?).bind fun a_=>(bj.aa (a_,(0:Int),(a1.1.2.1.length:Int),())).bind fun dn=>bif !dn.1 then (some ((3:Int),())) else bif decide ((0:Int) < J) then (if 0<=J then ((a1.1.2.2.1[J.toNat]?).bind fun i_=>if 0<=af (J - (1:Int)) then ((a1.1.2.2.1[(af (J - (1:Int))).toNat]?).bind fun ry=>bif decide (i_ < ry) then (some ((3:Int),())) else self (af (J+(1:Int)))) else none) else none) else self (af (J+(1:Int)))) else none) else e0 ()
theorem li (k:Nat) (rec:RT Out) (K:KT Out) (a1:Arg) (J:Int):D.N k [1,1,0,1,0,0] (T0 a1 J) (ic rec (ey [0,3] []) K)=b0 (S0 rec a1) (co K a1) a1 J:=by kernel_rfl
noncomputable def T1 (a1:Arg) (ci:Tx×Int):St:={ n:=102,sl:=[(0,.cp ct ci.1),(4,.val i64 ci.2)],vr:=[],aT:=[] }
noncomputable def S1 (rec:RT Out) (a1:Arg):(Tx×Int)->Y:=fun ci=>rec (T1 a1 ci)
noncomputable def ju (K:KT Out) (a1:Arg):(Unit)->Y:=fun z=>K (.exit 2) ({ n:=102,sl:=[],vr:=[],aT:=[] })
noncomputable def T2 (a1:Arg) (f9:Tx) (dy:Int) (lT:Int):St:={ n:=102,sl:=[(0,.cp ct f9),(4,.val i64 dy),(5,.val i64 lT)],vr:=[],aT:=[] }
noncomputable def b2 (self:Int->Y) (e4:(Unit)->Y) (a1:Arg) (f9:Tx) (dy:Int) (lT:Int):Y:=bif decide (lT < dy) then (if 0<=lT then ((f9.2.2.2.1[lT.toNat]?).bind fun Pd=>if 0<=dy then ((f9.2.2.2.1[dy.toNat]?).bind fun Y8=>bif (Ty.eq bq Pd Y8) then (some ((6:Int),())) else self (af (lT+(1:Int)))) else none) else none) else e4 ()
noncomputable def q1 (self:(Tx×Int)->Y) (e2:(Unit)->Y) (a1:Arg) (f9:Tx) (dy:Int) (uI:(Unit)):Y:=self (f9,af (dy+(1:Int)))
noncomputable def s2 (k:Nat) (rec:RT Out) (K:KT Out) (a1:Arg):Tx->Int->(Int)->Y:=fun f9 dy=>fun lT=>D.L k [1,1,1,0,1,0,0,1,0,0,1,1,0,0] [0,4,5] [] (ag 4 (ag 3 (ay (D.N k [1,1,1,0,1,0,0,1,1]) (ic rec (ey [0,4] []) K)))) (T2 a1 f9 dy lT)
noncomputable def r2 (k:Nat) (self:(Tx×Int)->Y) (e2:(Unit)->Y) (a1:Arg):Tx->Int->(Int)->Y:=fun f9 dy=>aq (fun w v=>b2 w (q1 self e2 a1 f9 dy) a1 f9 dy v) k
theorem rG (k:Nat) (rec:RT Out) (K:KT Out) (a1:Arg):s2 k rec K a1=r2 k (S1 rec a1) (ju K a1) a1:=
 funext fun f9=>funext fun dy=>funext fun lT=>av _ _ _ (T2 a1 f9 dy) _ (fun rec v=>by kernel_rfl) k lT
noncomputable def b1 (self:(Tx×Int)->Y) (e2:(Unit)->Y) (l2:Tx->Int->(Int)->Y) (a1:Arg) (ci:Tx×Int):Y:=bif decide (ci.2 < (ci.1.2.2.2.1.length:Int)) then (if 0<=ci.2 then ((ci.1.2.2.2.1[ci.2.toNat]?).bind fun Ab=>(qN.aa (Ab,())).bind fun uJ=>bif !uJ.1 then (some ((3:Int),())) else l2 ci.1 ci.2 (0:Int)) else none) else e2 ()
noncomputable def B1 (k:Nat) (self:(Tx×Int)->Y) (e2:(Unit)->Y) (a1:Arg) (ci:Tx×Int):Y:=b1 self e2 (r2 k self e2 a1) a1 ci
theorem sU (k:Nat) (rec:RT Out) (K:KT Out) (a1:Arg) (ci:Tx×Int):D.N k [1,1,1,0,1,0,0] (T1 a1 ci) (ic rec (ey [0,4] []) K)=B1 k (S1 rec a1) (ju K a1) a1 ci:=
 aX (b:=b1 (S1 rec a1) (ju K a1) (s2 k rec K a1) a1 ci) (by kernel_rfl) (by rw[rG];rfl)
noncomputable def q2 (a1:Arg) (Pe:(Unit)):Y:=some ((0:Int),())
theorem uK (k:Nat) (a1:Arg) (Pe:(Unit)):ju (ag 2 (ay (D.N k [1,1,1,1]) D.K0)) a1 Pe=q2 a1 Pe:=by kernel_rfl
noncomputable def s1 (k:Nat) (a1:Arg):(Tx×Int)->Y:=fun ci=>D.L k [1,1,1,0,1,0,0] [0,4] [] (ag 2 (ay (D.N k [1,1,1,1]) D.K0)) (T1 a1 ci)
noncomputable def r1 (k:Nat) (a1:Arg):(Tx×Int)->Y:=aq (fun w v=>B1 k w (q2 a1) a1 v) k
theorem lj (k:Nat) (a1:Arg):s1 k a1=r1 k a1:=by
 funext ci;have h2:ju (ag 2 (ay (D.N k [1,1,1,1]) D.K0)) a1=q2 a1:=funext fun z=>uK k a1 z;refine (av _ _ _ (T1 a1) (fun self v=>B1 k self (ju (ag 2 (ay (D.N k [1,1,1,1]) D.K0)) a1) a1 v) (fun rec v=>sU k rec (ag 2 (ay (D.N k [1,1,1,1]) D.K0)) a1 v) k ci).trans ?_;rw[h2];rfl
noncomputable def q0 (l1:(Tx×Int)->Y) (a1:Arg) (nQ:(Unit)):Y:=l1 (a1.1,(0:Int))
noncomputable def Q0 (k:Nat) (a1:Arg) (nQ:(Unit)):Y:=q0 (r1 k a1) a1 nQ
theorem oK (k:Nat) (a1:Arg) (nQ:(Unit)):co (ag 0 (ay (D.N k [1,1,1]) D.K0)) a1 nQ=Q0 k a1 nQ:=
 aX (b:=q0 (s1 k a1) a1 nQ) (by kernel_rfl) (by rw[lj];rfl)
noncomputable def s0 (k:Nat) (a1:Arg):(Int)->Y:=fun J=>D.L k [1,1,0,1,0,0] [0,3] [] (ag 0 (ay (D.N k [1,1,1]) D.K0)) (T0 a1 J)
noncomputable def r0 (k:Nat) (a1:Arg):(Int)->Y:=aq (fun w v=>b0 w (Q0 k a1) a1 v) k
theorem ax (k:Nat) (a1:Arg):s0 k a1=r0 k a1:=by
 funext J;have h0:co (ag 0 (ay (D.N k [1,1,1]) D.K0)) a1=Q0 k a1:=funext fun z=>oK k a1 z;refine (av _ _ _ (T0 a1) (fun self v=>b0 self (co (ag 0 (ay (D.N k [1,1,1]) D.K0)) a1) a1 v) (fun rec v=>li k rec (ag 0 (ay (D.N k [1,1,1]) D.K0)) a1 v) k J).trans ?_;rw[h0];rfl
noncomputable def p (l0:(Int)->Y) (a1:Arg):Y:=bif decide ((8:Int) < (a1.1.2.2.1.length:Int)) then (some ((2:Int),())) else bif decide ((12:Int) < (a1.1.2.2.2.1.length:Int)) then (some ((2:Int),())) else l0 (0:Int)
theorem ae (k:Nat) (a1:Arg):@Eq Y (D.W k a1) (p (r0 k a1) a1):=
 aX (b:=p (s0 k a1) a1) (by kernel_rfl) (by rw[ax])
theorem ok:Ok prog 336 D.sig:=aw func336 a7 (by kernel_rfl) (fc bj.ok (fc qN.ok (ak _)))
end cw
namespace mG
abbrev Arg:Type:=(List Tx)×Key×Unit
abbrev Out:Type:=Int×Unit
abbrev Y:=Option Out
noncomputable def D:FD:={ fn:=f414,tl:=be,ps:=[(.ro,(.U ct)),(.ro,bq)],rs:=[(i64,(az i64))],gl:=[(345,jt.D.sig)],lv:=[(2,[0,3,5])],lx:=[(0,[])],od:=[(4,[0,1,2,3,4])] }
noncomputable def aa (a:Arg):Y:=@lift Out fun k=>D.W k a
noncomputable def T0 (a1:Arg) (J:Int):St:={ n:=22,sl:=[(0,.val (.U ct) a1.1),(3,.box bq (az bq) [] a1.2.1),(5,.val i64 J)],vr:=[],aT:=[] }
noncomputable def b0 (self:Int->Y) (e0:(Unit)->Y) (a1:Arg) (J:Int):Y:=bif decide (J < (a1.1.length:Int)) then (if 0<=J then ((a1.1[J.toNat]?).bind fun a_=>(jt.aa (a_,a1.2.1,())).bind fun dn=>bif dn.1 then (if 0<=J then ((a1.1[J.toNat]?).bind fun i_=>some (i_.1,())) else none) else self (af (J+(1:Int)))) else none) else e0 ()
noncomputable def q0 (a1:Arg) (lA:(Unit)):Y:=some ((0:Int),())
noncomputable def s0 (k:Nat) (a1:Arg):(Int)->Y:=fun J=>D.L k [1,0,1,0,0] [0,3,5] [] (ag 0 (ay (D.N k [1,1]) D.K0)) (T0 a1 J)
noncomputable def r0 (k:Nat) (a1:Arg):(Int)->Y:=aq (fun w v=>b0 w (q0 a1) a1 v) k
theorem ax (k:Nat) (a1:Arg):s0 k a1=r0 k a1:=
 funext fun J=>av _ _ _ (T0 a1) _ (fun rec v=>by kernel_rfl) k J
noncomputable def p (l0:(Int)->Y) (a1:Arg):Y:=l0 (0:Int)
theorem ae (k:Nat) (a1:Arg):@Eq Y (D.W k a1) (p (r0 k a1) a1):=
 aX (b:=p (s0 k a1) a1) (by kernel_rfl) (by rw[ax])
theorem ok:Ok prog 414 D.sig:=aw func414 a7 (by kernel_rfl) (fc jt.ok (ak _))
end mG
namespace eu
abbrev Arg:Type:=(List Tx)×Unit
abbrev Out:Type:=Bool×Unit
abbrev Y:=Option Out
noncomputable def D:FD:={ fn:=f337,tl:=be,ps:=[(.ro,(.U ct))],rs:=[(.bool,(az .bool))],gl:=[(414,mG.D.sig)],lv:=[(2,[0,3]),(5,[0,3,4])],lx:=[(0,[]),(2,[0,3])],od:=[(7,[0,1,2,3,4,5,6,7,8,10,11,12,13,14,9,15])] }
noncomputable def aa (a:Arg):Y:=@lift Out fun k=>D.W k a
noncomputable def T0 (a1:Arg) (J:(List Tx)×Int):St:={ n:=37,sl:=[(0,.val (.U ct) J.1),(3,.val i64 J.2)],vr:=[],aT:=[] }
noncomputable def S0 (rec:RT Out) (a1:Arg):((List Tx)×Int)->Y:=fun J=>rec (T0 a1 J)
noncomputable def co (K:KT Out) (a1:Arg):(Unit)->Y:=fun z=>K (.exit 0) ({ n:=37,sl:=[],vr:=[],aT:=[] })
noncomputable def T1 (a1:Arg) (mM:List Tx) (kI:Int) (mV:Int):St:={ n:=37,sl:=[(0,.val (.U ct) mM),(3,.val i64 kI),(4,.val i64 mV)],vr:=[],aT:=[] }
noncomputable def b1 (self:Int->Y) (e2:(Unit)->Y) (a1:Arg) (mM:List Tx) (kI:Int) (mV:Int):Y:=if 0<=kI then ((mM[kI.toNat]?).bind fun Pf=>bif decide (mV < (Pf.2.2.2.1.length:Int)) then (if 0<=kI then ((mM[kI.toNat]?).bind fun BN=>if 0<=mV then ((BN.2.2.2.1[mV.toNat]?).bind fun BO=>if 0<=kI then ((mM[kI.toNat]?).bind fun Ab=>(mG.aa (mM,BO,())).bind fun uJ=>bif !decide (uJ.1=Ab.1) then (some (false,())) else self (af (mV+(1:Int)))) else none) else none) else none) else e2 ()) else none
noncomputable def q0 (self:((List Tx)×Int)->Y) (e0:(Unit)->Y) (a1:Arg) (mM:List Tx) (kI:Int) (yu:(Unit)):Y:=self (mM,af (kI+(1:Int)))
noncomputable def s1 (k:Nat) (rec:RT Out) (K:KT Out) (a1:Arg):(List Tx)->Int->(Int)->Y:=fun mM kI=>fun mV=>D.L k [1,0,1,0,0,1,0,0,1,0,0] [0,3,4] [] (ag 2 (ag 1 (ay (D.N k [1,0,1,0,0,1,1]) (ic rec (ey [0,3] []) K)))) (T1 a1 mM kI mV)
noncomputable def r1 (k:Nat) (self:((List Tx)×Int)->Y) (e0:(Unit)->Y) (a1:Arg):(List Tx)->Int->(Int)->Y:=fun mM kI=>aq (fun w v=>b1 w (q0 self e0 a1 mM kI) a1 mM kI v) k
theorem lj (k:Nat) (rec:RT Out) (K:KT Out) (a1:Arg):s1 k rec K a1=r1 k (S0 rec a1) (co K a1) a1:=
 funext fun mM=>funext fun kI=>funext fun mV=>av _ _ _ (T1 a1 mM kI) _ (fun rec v=>by kernel_rfl) k mV
noncomputable def b0 (self:((List Tx)×Int)->Y) (e0:(Unit)->Y) (l1:(List Tx)->Int->(Int)->Y) (a1:Arg) (J:(List Tx)×Int):Y:=bif decide (J.2 < (J.1.length:Int)) then (l1 J.1 J.2 (0:Int)) else e0 ()
noncomputable def B0 (k:Nat) (self:((List Tx)×Int)->Y) (e0:(Unit)->Y) (a1:Arg) (J:(List Tx)×Int):Y:=b0 self e0 (r1 k self e0 a1) a1 J
theorem li (k:Nat) (rec:RT Out) (K:KT Out) (a1:Arg) (J:(List Tx)×Int):D.N k [1,0,1,0,0] (T0 a1 J) (ic rec (ey [0,3] []) K)=B0 k (S0 rec a1) (co K a1) a1 J:=
 aX (b:=b0 (S0 rec a1) (co K a1) (s1 k rec K a1) a1 J) (by kernel_rfl) (by rw[lj];rfl)
noncomputable def q1 (a1:Arg) (Ac:(Unit)):Y:=some (true,())
theorem sV (k:Nat) (a1:Arg) (Ac:(Unit)):co (ag 0 (ay (D.N k [1,1]) D.K0)) a1 Ac=q1 a1 Ac:=by kernel_rfl
noncomputable def s0 (k:Nat) (a1:Arg):((List Tx)×Int)->Y:=fun J=>D.L k [1,0,1,0,0] [0,3] [] (ag 0 (ay (D.N k [1,1]) D.K0)) (T0 a1 J)
noncomputable def r0 (k:Nat) (a1:Arg):((List Tx)×Int)->Y:=aq (fun w v=>B0 k w (q1 a1) a1 v) k
theorem ax (k:Nat) (a1:Arg):s0 k a1=r0 k a1:=by
 funext J;have h0:co (ag 0 (ay (D.N k [1,1]) D.K0)) a1=q1 a1:=funext fun z=>sV k a1 z;refine (av _ _ _ (T0 a1) (fun self v=>B0 k self (co (ag 0 (ay (D.N k [1,1]) D.K0)) a1) a1 v) (fun rec v=>li k rec (ag 0 (ay (D.N k [1,1]) D.K0)) a1 v) k J).trans ?_;rw[h0];rfl
noncomputable def p (l0:((List Tx)×Int)->Y) (a1:Arg):Y:=l0 (a1.1,(0:Int))
theorem ae (k:Nat) (a1:Arg):@Eq Y (D.W k a1) (p (r0 k a1) a1):=
 aX (b:=p (s0 k a1) a1) (by kernel_rfl) (by rw[ax])
theorem ok:Ok prog 337 D.sig:=aw func337 a7 (by kernel_rfl) (fc mG.ok (ak _))
end eu
namespace lV
abbrev Arg:Type:=(List Tx)×Unit
abbrev Out:Type:=Int×Unit
abbrev Y:=Option Out
noncomputable def D:FD:={ fn:=f338,tl:=be,ps:=[(.ro,(.U ct))],rs:=[(i64,(az i64))],lv:=[(3,[0,3,4])],lx:=[(0,[3])] }
noncomputable def aa (a:Arg):Y:=@lift Out fun k=>D.W k a
noncomputable def T0 (a1:Arg) (J:Int×Int):St:={ n:=20,sl:=[(0,.val (.U ct) a1.1),(3,.val i64 J.1),(4,.val i64 J.2)],vr:=[],aT:=[] }
noncomputable def b0 (self:(Int×Int)->Y) (e0:Int->Y) (a1:Arg) (J:Int×Int):Y:=bif decide (J.2 < (a1.1.length:Int)) then (if 0<=J.2 then ((a1.1[J.2.toNat]?).bind fun a_=>self (af (J.1+(a_.2.1.length:Int)),af (J.2+(1:Int)))) else none) else e0 J.1
noncomputable def q0 (a1:Arg) (qq:Int):Y:=some (qq,())
noncomputable def s0 (k:Nat) (a1:Arg):(Int×Int)->Y:=fun J=>D.L k [1,1,0,1,0,0] [0,3,4] [] (ag 0 (ay (D.N k [1,1,1]) D.K0)) (T0 a1 J)
noncomputable def r0 (k:Nat) (a1:Arg):(Int×Int)->Y:=aq (fun w v=>b0 w (q0 a1) a1 v) k
theorem ax (k:Nat) (a1:Arg):s0 k a1=r0 k a1:=
 funext fun J=>av _ _ _ (T0 a1) _ (fun rec v=>by kernel_rfl) k J
noncomputable def p (l0:(Int×Int)->Y) (a1:Arg):Y:=l0 ((0:Int),(0:Int))
theorem ae (k:Nat) (a1:Arg):@Eq Y (D.W k a1) (p (r0 k a1) a1):=
 aX (b:=p (s0 k a1) a1) (by kernel_rfl) (by rw[ax])
theorem ok:Ok prog 338 D.sig:=aw func338 a7 (by kernel_rfl) (ak _)
end lV
namespace iF
abbrev Arg:Type:=(List Tx)×Unit
abbrev Out:Type:=Int×Unit
abbrev Y:=Option Out
noncomputable def D:FD:={ fn:=f227,tl:=be,ps:=[(.ro,(.U ct))],rs:=[(i64,(az i64))],gl:=[(218,bj.D.sig),(335,mF.D.sig),(336,cw.D.sig),(337,eu.D.sig),(338,lV.D.sig)],lv:=[(4,[0,3])],lx:=[(0,[0])],od:=[(9,[0,1,2,3,4,5,6,7,8,9,10,11,12,13,14])] }
noncomputable def aa (a:Arg):Y:=@lift Out fun k=>D.W k a
noncomputable def T0 (a1:Arg) (J:Int):St:={ n:=56,sl:=[(0,.val (.U ct) a1.1),(3,.val i64 J)],vr:=[],aT:=[] }
noncomputable def b0 (self:Int->Y) (e0:(Unit)->Y) (a1:Arg) (J:Int):Y:=bif decide (J < (a1.1.length:Int)) then (if 0<=J then ((a1.1[J.toNat]?).bind fun a_=>(bj.aa (a_.1,(1:Int),(99:Int),())).bind fun dn=>bif !dn.1 then (some ((3:Int),())) else let XY:Y:=(mF.aa (a_,())).bind fun xX=>bif !decide (xX.1=(0:Int)) then (some (xX.1,())) else (cw.aa (a_,())).bind fun BP=>bif !decide (BP.1=(0:Int)) then (some (BP.1,())) else self (af (J+(1:Int)));bif decide ((0:Int) < J) then (if 0<=af (J - (1:Int)) then ((a1.1[(af (J - (1:Int))).toNat]?).bind fun i_=>bif decide (a_.1<=i_.1) then (some ((1:Int),())) else XY) else none) else XY) else none) else e0 ()
noncomputable def q0 (a1:Arg) (TN:(Unit)):Y:=(eu.aa (a1.1,())).bind fun TO=>bif !TO.1 then (some ((7:Int),())) else (lV.aa (a1.1,())).bind fun Pg=>bif decide ((12:Int) < Pg.1) then (some ((2:Int),())) else some ((0:Int),())
noncomputable def s0 (k:Nat) (a1:Arg):(Int)->Y:=fun J=>D.L k [1,1,0,1,0,0] [0,3] [] (ag 0 (ay (D.N k [1,1,1]) D.K0)) (T0 a1 J)
noncomputable def r0 (k:Nat) (a1:Arg):(Int)->Y:=aq (fun w v=>b0 w (q0 a1) a1 v) k
theorem ax (k:Nat) (a1:Arg):s0 k a1=r0 k a1:=
 funext fun J=>av _ _ _ (T0 a1) _ (fun rec v=>by kernel_rfl) k J
noncomputable def p (l0:(Int)->Y) (a1:Arg):Y:=bif decide ((4:Int) < (a1.1.length:Int)) then (some ((2:Int),())) else l0 (0:Int)
theorem ae (k:Nat) (a1:Arg):@Eq Y (D.W k a1) (p (r0 k a1) a1):=
 aX (b:=p (s0 k a1) a1) (by kernel_rfl) (by rw[ax])
theorem ok:Ok prog 227 D.sig:=aw func227 a7 (by kernel_rfl) (fc bj.ok (fc mF.ok (fc cw.ok (fc eu.ok (fc lV.ok (ak _))))))
end iF
namespace bv
abbrev Arg:Type:=(List Row)×(List Tx)×Key×Unit
abbrev Out:Type:=Int×Unit
abbrev Y:=Option Out
noncomputable def D:FD:={ fn:=f228,tl:=be,ps:=[(.ro,(.U au)),(.ro,(.U ct)),(.ro,bq)],rs:=[(i64,(az i64))],lv:=[(3,[0,1,5,7,8]),(7,[1,5,7,9]),(14,[7,10,11]),(18,[7,10,11,12,13])],lx:=[(0,[1,5,7]),(2,[5,7]),(4,[10]),(6,[7,10,11,12])],od:=[(5,[0,1,2,3,4,5,6,7,8,9,10,11,12,13,14]),(20,[0,1,2,3,4,5,6,7,8,9])] }
noncomputable def aa (a:Arg):Y:=@lift Out fun k=>D.W k a
noncomputable def T0 (a1:Arg) (J:(List Key)×Int):St:={ n:=82,sl:=[(0,.val (.U au) a1.1),(1,.val (.U ct) a1.2.1),(5,.box bq (az bq) [] a1.2.2.1),(7,.own (.U bq) (am (.U bq)) [] J.1),(8,.val i64 J.2)],vr:=[],aT:=[] }
noncomputable def S0 (rec:RT Out) (a1:Arg):((List Key)×Int)->Y:=fun J=>rec (T0 a1 J)
noncomputable def co (K:KT Out) (a1:Arg):(List Key)->Y:=fun z=>K (.exit 0) ({ n:=82,sl:=[(1,.val (.U ct) a1.2.1),(5,.box bq (az bq) [] a1.2.2.1),(7,.own (.U bq) (am (.U bq)) [] z)],vr:=[],aT:=[] })
noncomputable def b0 (self:((List Key)×Int)->Y) (e0:(List Key)->Y) (a1:Arg) (J:(List Key)×Int):Y:=bif decide (J.2 < (a1.1.length:Int)) then (if 0<=J.2 then ((a1.1[J.2.toNat]?).bind fun a_=>if 0<=J.2 then ((a1.1[J.2.toNat]?).bind fun en=>if J.1.length+[(a_.1,en.2.1,())].length<=bz then (self (J.1++[(a_.1,en.2.1,())],af (J.2+(1:Int)))) else none) else none) else none) else e0 J.1
theorem li (k:Nat) (rec:RT Out) (K:KT Out) (a1:Arg) (J:(List Key)×Int):D.N k [1,1,0,1,0,0] (T0 a1 J) (ic rec (ey [0,1,5,7,8] []) K)=b0 (S0 rec a1) (co K a1) a1 J:=by kernel_rfl
noncomputable def T1 (a1:Arg) (eg:(List Key)×Int):St:={ n:=82,sl:=[(1,.val (.U ct) a1.2.1),(5,.box bq (az bq) [] a1.2.2.1),(7,.own (.U bq) (am (.U bq)) [] eg.1),(9,.val i64 eg.2)],vr:=[],aT:=[] }
noncomputable def S1 (rec:RT Out) (a1:Arg):((List Key)×Int)->Y:=fun eg=>rec (T1 a1 eg)
noncomputable def ju (K:KT Out) (a1:Arg):(List Key)->Y:=fun z=>K (.exit 2) ({ n:=82,sl:=[(5,.box bq (az bq) [] a1.2.2.1),(7,.own (.U bq) (am (.U bq)) [] z)],vr:=[],aT:=[] })
noncomputable def b1 (self:((List Key)×Int)->Y) (e2:(List Key)->Y) (a1:Arg) (eg:(List Key)×Int):Y:=bif decide (eg.2 < (a1.2.1.length:Int)) then (if 0<=eg.2 then ((a1.2.1[eg.2.toNat]?).bind fun BN=>if eg.1.length+BN.2.2.2.1.length<=bz then (self (eg.1++BN.2.2.2.1,af (eg.2+(1:Int)))) else none) else none) else e2 eg.1
theorem sU (k:Nat) (rec:RT Out) (K:KT Out) (a1:Arg) (eg:(List Key)×Int):D.N k [1,1,1,0,1,0,0] (T1 a1 eg) (ic rec (ey [1,5,7,9] []) K)=b1 (S1 rec a1) (ju K a1) a1 eg:=by kernel_rfl
noncomputable def T2 (a1:Arg) (pu:(List Key)×Int×Int):St:={ n:=82,sl:=[(7,.own (.U bq) (am (.U bq)) [] pu.1),(10,.val i64 pu.2.1),(11,.val i64 pu.2.2)],vr:=[],aT:=[] }
noncomputable def S2 (rec:RT Out) (a1:Arg):((List Key)×Int×Int)->Y:=fun pu=>rec (T2 a1 pu)
noncomputable def H_ (K:KT Out) (a1:Arg):Int->Y:=fun z=>K (.exit 4) ({ n:=82,sl:=[(10,.val i64 z)],vr:=[],aT:=[] })
noncomputable def T3 (a1:Arg) (sf:List Key) (vq:Int) (sg:Int) (sW:Bool×Int):St:={ n:=82,sl:=[(7,.own (.U bq) (am (.U bq)) [] sf),(10,.val i64 vq),(11,.val i64 sg),(12,.val .bool sW.1),(13,.val i64 sW.2)],vr:=[],aT:=[] }
noncomputable def b3 (self:(Bool×Int)->Y) (e6:Bool->Y) (a1:Arg) (sf:List Key) (vq:Int) (sg:Int) (sW:Bool×Int):Y:=bif decide (sW.2 < sg) then (bif sW.1 then (if 0<=sW.2/\sW.2 < (sf.length:Int) then ((sf[sW.2.toNat]?).bind fun Y9=>if 0<=sg/\sg < (sf.length:Int) then ((sf[sg.toNat]?).bind fun Y_=>self (!(Ty.eq bq Y9 Y_),af (sW.2+(1:Int)))) else none) else none) else e6 sW.1) else e6 sW.1
noncomputable def q2 (self:((List Key)×Int×Int)->Y) (e4:Int->Y) (a1:Arg) (sf:List Key) (vq:Int) (sg:Int) (Za:Bool):Y:=bif Za then (self (sf,af (vq+(1:Int)),af (sg+(1:Int)))) else self (sf,vq,af (sg+(1:Int)))
noncomputable def s3 (k:Nat) (rec:RT Out) (K:KT Out) (a1:Arg):(List Key)->Int->Int->(Bool×Int)->Y:=fun sf vq sg=>fun sW=>D.L k [1,1,1,1,1,1,0,1,0,0,1,0,0,1,0,1,0,0] [7,10,11,12,13] [] (ag 6 (ay (D.N k [1,1,1,1,1,1,0,1,0,0,1,0,0,1,1]) (ag 5 (ay (D.N k [1,1,1,1,1,1,0,1,0,0,1,1]) (ic rec (ey [7,10,11] []) K))))) (T3 a1 sf vq sg sW)
noncomputable def r3 (k:Nat) (self:((List Key)×Int×Int)->Y) (e4:Int->Y) (a1:Arg):(List Key)->Int->Int->(Bool×Int)->Y:=fun sf vq sg=>aq (fun w v=>b3 w (q2 self e4 a1 sf vq sg) a1 sf vq sg v) k
theorem Ph (k:Nat) (rec:RT Out) (K:KT Out) (a1:Arg):s3 k rec K a1=r3 k (S2 rec a1) (H_ K a1) a1:=
 funext fun sf=>funext fun vq=>funext fun sg=>funext fun sW=>av _ _ _ (T3 a1 sf vq sg) _ (fun rec v=>by kernel_rfl) k sW
noncomputable def b2 (self:((List Key)×Int×Int)->Y) (e4:Int->Y) (l3:(List Key)->Int->Int->(Bool×Int)->Y) (a1:Arg) (pu:(List Key)×Int×Int):Y:=bif decide (pu.2.2 < (pu.1.length:Int)) then (l3 pu.1 pu.2.1 pu.2.2 (true,(0:Int))) else e4 pu.2.1
noncomputable def B2 (k:Nat) (self:((List Key)×Int×Int)->Y) (e4:Int->Y) (a1:Arg) (pu:(List Key)×Int×Int):Y:=b2 self e4 (r3 k self e4 a1) a1 pu
theorem Pi (k:Nat) (rec:RT Out) (K:KT Out) (a1:Arg) (pu:(List Key)×Int×Int):D.N k [1,1,1,1,1,1,0,1,0,0] (T2 a1 pu) (ic rec (ey [7,10,11] []) K)=B2 k (S2 rec a1) (H_ K a1) a1 pu:=
 aX (b:=b2 (S2 rec a1) (H_ K a1) (s3 k rec K a1) a1 pu) (by kernel_rfl) (by rw[Ph];rfl)
noncomputable def q3 (a1:Arg) (JE:Int):Y:=some (JE,())
theorem Pj (k:Nat) (a1:Arg) (JE:Int):H_ (ag 4 (ay (D.N k [1,1,1,1,1,1,1]) D.K0)) a1 JE=q3 a1 JE:=by kernel_rfl
noncomputable def s2 (k:Nat) (a1:Arg):((List Key)×Int×Int)->Y:=fun pu=>D.L k [1,1,1,1,1,1,0,1,0,0] [7,10,11] [] (ag 4 (ay (D.N k [1,1,1,1,1,1,1]) D.K0)) (T2 a1 pu)
noncomputable def r2 (k:Nat) (a1:Arg):((List Key)×Int×Int)->Y:=aq (fun w v=>B2 k w (q3 a1) a1 v) k
theorem rG (k:Nat) (a1:Arg):s2 k a1=r2 k a1:=by
 funext pu;have h4:H_ (ag 4 (ay (D.N k [1,1,1,1,1,1,1]) D.K0)) a1=q3 a1:=funext fun z=>Pj k a1 z;refine (av _ _ _ (T2 a1) (fun self v=>B2 k self (H_ (ag 4 (ay (D.N k [1,1,1,1,1,1,1]) D.K0)) a1) a1 v) (fun rec v=>Pi k rec (ag 4 (ay (D.N k [1,1,1,1,1,1,1]) D.K0)) a1 v) k pu).trans ?_;rw[h4];rfl
noncomputable def q1 (l2:((List Key)×Int×Int)->Y) (a1:Arg) (yw:(List Key)):Y:=let Vt:=fun (Zb:List Key)=>(l2 (Zb,(0:Int),(0:Int)):Y);bif !decide (a1.2.2.1.2.1=(0:Int)) then (if yw.length+[a1.2.2.1].length<=bz then (Vt (yw++[a1.2.2.1])) else none) else Vt yw
noncomputable def Q1 (k:Nat) (a1:Arg) (yw:(List Key)):Y:=q1 (r2 k a1) a1 yw
theorem sV (k:Nat) (a1:Arg) (yw:(List Key)):ju (ag 2 (ay (D.N k [1,1,1,1]) D.K0)) a1 yw=Q1 k a1 yw:=
 aX (b:=q1 (s2 k a1) a1 yw) (by kernel_rfl) (by rw[rG];rfl)
noncomputable def s1 (k:Nat) (a1:Arg):((List Key)×Int)->Y:=fun eg=>D.L k [1,1,1,0,1,0,0] [1,5,7,9] [] (ag 2 (ay (D.N k [1,1,1,1]) D.K0)) (T1 a1 eg)
noncomputable def r1 (k:Nat) (a1:Arg):((List Key)×Int)->Y:=aq (fun w v=>b1 w (Q1 k a1) a1 v) k
theorem lj (k:Nat) (a1:Arg):s1 k a1=r1 k a1:=by
 funext eg;have h2:ju (ag 2 (ay (D.N k [1,1,1,1]) D.K0)) a1=Q1 k a1:=funext fun z=>sV k a1 z;refine (av _ _ _ (T1 a1) (fun self v=>b1 self (ju (ag 2 (ay (D.N k [1,1,1,1]) D.K0)) a1) a1 v) (fun rec v=>sU k rec (ag 2 (ay (D.N k [1,1,1,1]) D.K0)) a1 v) k eg).trans ?_;rw[h2];rfl
noncomputable def q0 (l1:((List Key)×Int)->Y) (a1:Arg) (dz:(List Key)):Y:=l1 (dz,(0:Int))
noncomputable def Q0 (k:Nat) (a1:Arg) (dz:(List Key)):Y:=q0 (r1 k a1) a1 dz
theorem oK (k:Nat) (a1:Arg) (dz:(List Key)):co (ag 0 (ay (D.N k [1,1,1]) D.K0)) a1 dz=Q0 k a1 dz:=
 aX (b:=q0 (s1 k a1) a1 dz) (by kernel_rfl) (by rw[lj];rfl)
noncomputable def s0 (k:Nat) (a1:Arg):((List Key)×Int)->Y:=fun J=>D.L k [1,1,0,1,0,0] [0,1,5,7,8] [] (ag 0 (ay (D.N k [1,1,1]) D.K0)) (T0 a1 J)
noncomputable def r0 (k:Nat) (a1:Arg):((List Key)×Int)->Y:=aq (fun w v=>b0 w (Q0 k a1) a1 v) k
theorem ax (k:Nat) (a1:Arg):s0 k a1=r0 k a1:=by
 funext J;have h0:co (ag 0 (ay (D.N k [1,1,1]) D.K0)) a1=Q0 k a1:=funext fun z=>oK k a1 z;refine (av _ _ _ (T0 a1) (fun self v=>b0 self (co (ag 0 (ay (D.N k [1,1,1]) D.K0)) a1) a1 v) (fun rec v=>li k rec (ag 0 (ay (D.N k [1,1,1]) D.K0)) a1 v) k J).trans ?_;rw[h0];rfl
noncomputable def p (l0:((List Key)×Int)->Y) (a1:Arg):Y:=l0 (([]:List Key),(0:Int))
theorem ae (k:Nat) (a1:Arg):@Eq Y (D.W k a1) (p (r0 k a1) a1):=
 aX (b:=p (s0 k a1) a1) (by kernel_rfl) (by rw[ax])
theorem ok:Ok prog 228 D.sig:=aw func228 a7 (by kernel_rfl) (ak _)
end bv
namespace mH
abbrev Arg:Type:=Plain×Unit
abbrev Out:Type:=Int×Unit
noncomputable def D:FD:={ fn:=f104,tl:=be,ps:=[(.ro,(.ptr jZ))],rs:=[(i64,(az i64))],gl:=[(178,j0.D.sig),(218,bj.D.sig),(226,fy.D.sig),(227,iF.D.sig),(228,bv.D.sig)],od:=[(8,[0,1,2,3,4,5,6,7,8,9,10,11,12,13,14,15,16,17,18,19,20,21,22,23,24,25]),(10,[0,1,2,3,4,5,6,7,8,9,10]),(12,[0,1,2,3,4,5,6,7,8,9,10,11,12,13])],ar:=[(8,[3,13,18,22])] }
noncomputable def aa (a:Arg):Option Out:=@lift Out fun k=>D.W k a
noncomputable def p (a1:Arg):Option Out:=(fy.aa (a1.1.1,())).bind fun r2=>bif !decide (r2.1=(0:Int)) then (some (r2.1,())) else (iF.aa (a1.1.2.1,())).bind fun r3=>bif !decide (r3.1=(0:Int)) then (some (r3.1,())) else let j8:Option Out:=(bv.aa (a1.1.1,a1.1.2.1,((0:Int),(0:Int),()),())).bind fun r9=>bif decide ((12:Int) < r9.1) then (some ((2:Int),())) else (j0.aa (a1.1.1,a1.1.2.1,())).bind fun Dw=>bif !Dw.2.1 then (some ((8:Int),())) else some ((0:Int),());(bj.aa (a1.1.2.2.1,(1:Int),(100:Int),())).bind fun r4=>bif !r4.1 then (some ((3:Int),())) else bif decide ((0:Int) < (a1.1.2.1.length:Int)) then (if 0<=af ((a1.1.2.1.length:Int) - (1:Int)) then ((a1.1.2.1[(af ((a1.1.2.1.length:Int) - (1:Int))).toNat]?).bind fun x5=>bif decide (a1.1.2.2.1<=x5.1) then (some ((3:Int),())) else j8) else none) else j8
theorem ae (k:Nat) (a1:Arg):@Eq (Option Out) (D.W k a1) (p a1):=by kernel_rfl
theorem ok:Ok prog 104 D.sig:=aw func104 a7 (by kernel_rfl) (fc j0.ok (fc bj.ok (fc fy.ok (fc iF.ok (fc bv.ok (ak _))))))
end mH
namespace nV
abbrev Arg:Type:=Row×Unit
abbrev Out:Type:=Row×Unit
noncomputable def D:FD:={ fn:=f110,tl:=be,ps:=[(.ro,au)],rs:=[(au,(az au))] }
noncomputable def aa (a:Arg):Option Out:=@lift Out fun k=>D.W k a
noncomputable def p (a1:Arg):Option Out:=some ((a1.1.1,a1.1.2.1,a1.1.2.2.1,a1.1.2.2.2.1,()),())
theorem ae (k:Nat) (a1:Arg):@Eq (Option Out) (D.W k a1) (p a1):=by kernel_rfl
theorem ok:Ok prog 110 D.sig:=aw func110 a7 (by kernel_rfl) (ak _)
end nV
namespace lB
abbrev Arg:Type:=(List Row)×Unit
abbrev Out:Type:=(List Row)×Unit
abbrev Y:=Option Out
noncomputable def D:FD:={ fn:=f108,tl:=be,ps:=[(.ro,(.U au))],rs:=[((.U au),(am (.U au)))],gl:=[(110,nV.D.sig)],lv:=[(3,[0,3,4])],lx:=[(0,[3])] }
noncomputable def aa (a:Arg):Y:=@lift Out fun k=>D.W k a
noncomputable def T0 (a1:Arg) (J:(List Row)×Int):St:={ n:=23,sl:=[(0,.val (.U au) a1.1),(3,.own (.U au) (am (.U au)) [] J.1),(4,.val i64 J.2)],vr:=[],aT:=[] }
noncomputable def b0 (self:((List Row)×Int)->Y) (e0:(List Row)->Y) (a1:Arg) (J:(List Row)×Int):Y:=bif decide (J.2 < (a1.1.length:Int)) then (if 0<=J.2 then ((a1.1[J.2.toNat]?).bind fun a_=>(nV.aa (a_,())).bind fun dn=>if 0<=J.2/\J.2 < (J.1.length:Int) then ((J.1[J.2.toNat]?).bind fun i_=>self (J.1.set J.2.toNat dn.1,af (J.2+(1:Int)))) else none) else none) else e0 J.1
noncomputable def q0 (a1:Arg) (lA:(List Row)):Y:=some (lA,())
noncomputable def s0 (k:Nat) (a1:Arg):((List Row)×Int)->Y:=fun J=>D.L k [1,1,0,1,0,0] [0,3,4] [] (ag 0 (ay (D.N k [1,1,1]) D.K0)) (T0 a1 J)
noncomputable def r0 (k:Nat) (a1:Arg):((List Row)×Int)->Y:=aq (fun w v=>b0 w (q0 a1) a1 v) k
theorem ax (k:Nat) (a1:Arg):s0 k a1=r0 k a1:=
 funext fun J=>av _ _ _ (T0 a1) _ (fun rec v=>by kernel_rfl) k J
noncomputable def p (l0:((List Row)×Int)->Y) (a1:Arg):Y:=if 0<=(a1.1.length:Int)/\(a1.1.length:Int)<=(a1.1.length:Int)/\(a1.1.length:Int)<=(bz:Int) then (l0 (List.replicate (a1.1.length:Int).toNat ((0:Int),(0:Int),(0:Int),([]:List UInt8),()),(0:Int))) else none
theorem ae (k:Nat) (a1:Arg):@Eq Y (D.W k a1) (p (r0 k a1) a1):=
 aX (b:=p (s0 k a1) a1) (by kernel_rfl) (by rw[ax])
theorem ok:Ok prog 108 D.sig:=aw func108 a7 (by kernel_rfl) (fc nV.ok (ak _))
end lB
namespace pa
abbrev Arg:Type:=Change×Unit
abbrev Out:Type:=Change×Unit
noncomputable def D:FD:={ fn:=f419,tl:=be,ps:=[(.ro,ap)],rs:=[(ap,(az ap))],gl:=[(110,nV.D.sig)] }
noncomputable def aa (a:Arg):Option Out:=@lift Out fun k=>D.W k a
noncomputable def p (a1:Arg):Option Out:=(nV.aa (a1.1.2.1,())).bind fun r2=>(nV.aa (a1.1.2.2.2.1,())).bind fun r3=>some ((a1.1.1,r2.1,a1.1.2.2.1,r3.1,()),())
theorem ae (k:Nat) (a1:Arg):@Eq (Option Out) (D.W k a1) (p a1):=by kernel_rfl
theorem ok:Ok prog 419 D.sig:=aw func419 a7 (by kernel_rfl) (fc nV.ok (ak _))
end pa
namespace iu
abbrev Arg:Type:=(List Change)×Unit
abbrev Out:Type:=(List Change)×Unit
abbrev Y:=Option Out
noncomputable def D:FD:={ fn:=f346,tl:=be,ps:=[(.ro,(.U ap))],rs:=[((.U ap),(am (.U ap)))],gl:=[(419,pa.D.sig)],lv:=[(3,[0,3,4])],lx:=[(0,[3])] }
noncomputable def aa (a:Arg):Y:=@lift Out fun k=>D.W k a
noncomputable def T0 (a1:Arg) (J:(List Change)×Int):St:={ n:=23,sl:=[(0,.val (.U ap) a1.1),(3,.own (.U ap) (am (.U ap)) [] J.1),(4,.val i64 J.2)],vr:=[],aT:=[] }
noncomputable def b0 (self:((List Change)×Int)->Y) (e0:(List Change)->Y) (a1:Arg) (J:(List Change)×Int):Y:=bif decide (J.2 < (a1.1.length:Int)) then (if 0<=J.2 then ((a1.1[J.2.toNat]?).bind fun a_=>(pa.aa (a_,())).bind fun dn=>if 0<=J.2/\J.2 < (J.1.length:Int) then ((J.1[J.2.toNat]?).bind fun i_=>self (J.1.set J.2.toNat dn.1,af (J.2+(1:Int)))) else none) else none) else e0 J.1
noncomputable def q0 (a1:Arg) (lA:(List Change)):Y:=some (lA,())
noncomputable def s0 (k:Nat) (a1:Arg):((List Change)×Int)->Y:=fun J=>D.L k [1,1,0,1,0,0] [0,3,4] [] (ag 0 (ay (D.N k [1,1,1]) D.K0)) (T0 a1 J)
noncomputable def r0 (k:Nat) (a1:Arg):((List Change)×Int)->Y:=aq (fun w v=>b0 w (q0 a1) a1 v) k
theorem ax (k:Nat) (a1:Arg):s0 k a1=r0 k a1:=
 funext fun J=>av _ _ _ (T0 a1) _ (fun rec v=>by kernel_rfl) k J
noncomputable def p (l0:((List Change)×Int)->Y) (a1:Arg):Y:=if 0<=(a1.1.length:Int)/\(a1.1.length:Int)<=(a1.1.length:Int)/\(a1.1.length:Int)<=(bz:Int) then (l0 (List.replicate (a1.1.length:Int).toNat (false,((0:Int),(0:Int),(0:Int),([]:List UInt8),()),false,((0:Int),(0:Int),(0:Int),([]:List UInt8),()),()),(0:Int))) else none
theorem ae (k:Nat) (a1:Arg):@Eq Y (D.W k a1) (p (r0 k a1) a1):=
 aX (b:=p (s0 k a1) a1) (by kernel_rfl) (by rw[ax])
theorem ok:Ok prog 346 D.sig:=aw func346 a7 (by kernel_rfl) (fc pa.ok (ak _))
end iu
namespace jv
abbrev Arg:Type:=(List Int)×Unit
abbrev Out:Type:=(List Int)×Unit
abbrev Y:=Option Out
noncomputable def D:FD:={ fn:=f347,tl:=be,ps:=[(.ro,(.U i64))],rs:=[((.U i64),(am (.U i64)))],lv:=[(3,[0,3,4])],lx:=[(0,[3])] }
noncomputable def aa (a:Arg):Y:=@lift Out fun k=>D.W k a
noncomputable def T0 (a1:Arg) (J:(List Int)×Int):St:={ n:=22,sl:=[(0,.val (.U i64) a1.1),(3,.own (.U i64) (am (.U i64)) [] J.1),(4,.val i64 J.2)],vr:=[],aT:=[] }
noncomputable def b0 (self:((List Int)×Int)->Y) (e0:(List Int)->Y) (a1:Arg) (J:(List Int)×Int):Y:=bif decide (J.2 < (a1.1.length:Int)) then (if 0<=J.2 then ((a1.1[J.2.toNat]?).bind fun a_=>if 0<=J.2/\J.2 < (J.1.length:Int) then ((J.1[J.2.toNat]?).bind fun en=>self (J.1.set J.2.toNat a_,af (J.2+(1:Int)))) else none) else none) else e0 J.1
noncomputable def q0 (a1:Arg) (dz:(List Int)):Y:=some (dz,())
noncomputable def s0 (k:Nat) (a1:Arg):((List Int)×Int)->Y:=fun J=>D.L k [1,1,0,1,0,0] [0,3,4] [] (ag 0 (ay (D.N k [1,1,1]) D.K0)) (T0 a1 J)
noncomputable def r0 (k:Nat) (a1:Arg):((List Int)×Int)->Y:=aq (fun w v=>b0 w (q0 a1) a1 v) k
theorem ax (k:Nat) (a1:Arg):s0 k a1=r0 k a1:=
 funext fun J=>av _ _ _ (T0 a1) _ (fun rec v=>by kernel_rfl) k J
noncomputable def p (l0:((List Int)×Int)->Y) (a1:Arg):Y:=if 0<=(a1.1.length:Int)/\(a1.1.length:Int)<=(a1.1.length:Int)/\(a1.1.length:Int)<=(bz:Int) then (l0 (List.replicate (a1.1.length:Int).toNat (0:Int),(0:Int))) else none
theorem ae (k:Nat) (a1:Arg):@Eq Y (D.W k a1) (p (r0 k a1) a1):=
 aX (b:=p (s0 k a1) a1) (by kernel_rfl) (by rw[ax])
theorem ok:Ok prog 347 D.sig:=aw func347 a7 (by kernel_rfl) (ak _)
end jv
namespace rH
abbrev Arg:Type:=Key×Unit
abbrev Out:Type:=Key×Unit
noncomputable def D:FD:={ fn:=f420,tl:=be,ps:=[(.ro,bq)],rs:=[(bq,(az bq))] }
noncomputable def aa (a:Arg):Option Out:=@lift Out fun k=>D.W k a
noncomputable def p (a1:Arg):Option Out:=some ((a1.1.1,a1.1.2.1,()),())
theorem ae (k:Nat) (a1:Arg):@Eq (Option Out) (D.W k a1) (p a1):=by kernel_rfl
theorem ok:Ok prog 420 D.sig:=aw func420 a7 (by kernel_rfl) (ak _)
end rH
namespace lC
abbrev Arg:Type:=(List Key)×Unit
abbrev Out:Type:=(List Key)×Unit
abbrev Y:=Option Out
noncomputable def D:FD:={ fn:=f348,tl:=be,ps:=[(.ro,(.U bq))],rs:=[((.U bq),(am (.U bq)))],gl:=[(420,rH.D.sig)],lv:=[(3,[0,3,4])],lx:=[(0,[3])] }
noncomputable def aa (a:Arg):Y:=@lift Out fun k=>D.W k a
noncomputable def T0 (a1:Arg) (J:(List Key)×Int):St:={ n:=23,sl:=[(0,.val (.U bq) a1.1),(3,.own (.U bq) (am (.U bq)) [] J.1),(4,.val i64 J.2)],vr:=[],aT:=[] }
noncomputable def b0 (self:((List Key)×Int)->Y) (e0:(List Key)->Y) (a1:Arg) (J:(List Key)×Int):Y:=bif decide (J.2 < (a1.1.length:Int)) then (if 0<=J.2 then ((a1.1[J.2.toNat]?).bind fun a_=>(rH.aa (a_,())).bind fun dn=>if 0<=J.2/\J.2 < (J.1.length:Int) then ((J.1[J.2.toNat]?).bind fun i_=>self (J.1.set J.2.toNat dn.1,af (J.2+(1:Int)))) else none) else none) else e0 J.1
noncomputable def q0 (a1:Arg) (lA:(List Key)):Y:=some (lA,())
noncomputable def s0 (k:Nat) (a1:Arg):((List Key)×Int)->Y:=fun J=>D.L k [1,1,0,1,0,0] [0,3,4] [] (ag 0 (ay (D.N k [1,1,1]) D.K0)) (T0 a1 J)
noncomputable def r0 (k:Nat) (a1:Arg):((List Key)×Int)->Y:=aq (fun w v=>b0 w (q0 a1) a1 v) k
theorem ax (k:Nat) (a1:Arg):s0 k a1=r0 k a1:=
 funext fun J=>av _ _ _ (T0 a1) _ (fun rec v=>by kernel_rfl) k J
noncomputable def p (l0:((List Key)×Int)->Y) (a1:Arg):Y:=if 0<=(a1.1.length:Int)/\(a1.1.length:Int)<=(a1.1.length:Int)/\(a1.1.length:Int)<=(bz:Int) then (l0 (List.replicate (a1.1.length:Int).toNat ((0:Int),(0:Int),()),(0:Int))) else none
theorem ae (k:Nat) (a1:Arg):@Eq Y (D.W k a1) (p (r0 k a1) a1):=
 aX (b:=p (s0 k a1) a1) (by kernel_rfl) (by rw[ax])
theorem ok:Ok prog 348 D.sig:=aw func348 a7 (by kernel_rfl) (fc rH.ok (ak _))
end lC
namespace sI
abbrev Arg:Type:=Tx×Unit
abbrev Out:Type:=Tx×Unit
noncomputable def D:FD:={ fn:=f239,tl:=be,ps:=[(.ro,ct)],rs:=[(ct,(am ct))],gl:=[(346,iu.D.sig),(347,jv.D.sig),(348,lC.D.sig)] }
noncomputable def aa (a:Arg):Option Out:=@lift Out fun k=>D.W k a
noncomputable def p (a1:Arg):Option Out:=(iu.aa (a1.1.2.1,())).bind fun r2=>(jv.aa (a1.1.2.2.1,())).bind fun r3=>(lC.aa (a1.1.2.2.2.1,())).bind fun r4=>some ((a1.1.1,r2.1,r3.1,r4.1,()),())
theorem ae (k:Nat) (a1:Arg):@Eq (Option Out) (D.W k a1) (p a1):=by kernel_rfl
theorem ok:Ok prog 239 D.sig:=aw func239 a7 (by kernel_rfl) (fc iu.ok (fc jv.ok (fc lC.ok (ak _))))
end sI
namespace kJ
abbrev Arg:Type:=(List Tx)×Unit
abbrev Out:Type:=(List Tx)×Unit
abbrev Y:=Option Out
noncomputable def D:FD:={ fn:=f109,tl:=be,ps:=[(.ro,(.U ct))],rs:=[((.U ct),(am (.U ct)))],gl:=[(239,sI.D.sig)],lv:=[(3,[0,3,4])],lx:=[(0,[3])] }
noncomputable def aa (a:Arg):Y:=@lift Out fun k=>D.W k a
noncomputable def T0 (a1:Arg) (J:(List Tx)×Int):St:={ n:=23,sl:=[(0,.val (.U ct) a1.1),(3,.own (.U ct) (am (.U ct)) [] J.1),(4,.val i64 J.2)],vr:=[],aT:=[] }
noncomputable def b0 (self:((List Tx)×Int)->Y) (e0:(List Tx)->Y) (a1:Arg) (J:(List Tx)×Int):Y:=bif decide (J.2 < (a1.1.length:Int)) then (if 0<=J.2 then ((a1.1[J.2.toNat]?).bind fun a_=>(sI.aa (a_,())).bind fun dn=>if 0<=J.2/\J.2 < (J.1.length:Int) then ((J.1[J.2.toNat]?).bind fun i_=>self (J.1.set J.2.toNat dn.1,af (J.2+(1:Int)))) else none) else none) else e0 J.1
noncomputable def q0 (a1:Arg) (lA:(List Tx)):Y:=some (lA,())
noncomputable def s0 (k:Nat) (a1:Arg):((List Tx)×Int)->Y:=fun J=>D.L k [1,1,0,1,0,0] [0,3,4] [] (ag 0 (ay (D.N k [1,1,1]) D.K0)) (T0 a1 J)
noncomputable def r0 (k:Nat) (a1:Arg):((List Tx)×Int)->Y:=aq (fun w v=>b0 w (q0 a1) a1 v) k
theorem ax (k:Nat) (a1:Arg):s0 k a1=r0 k a1:=
 funext fun J=>av _ _ _ (T0 a1) _ (fun rec v=>by kernel_rfl) k J
noncomputable def p (l0:((List Tx)×Int)->Y) (a1:Arg):Y:=if 0<=(a1.1.length:Int)/\(a1.1.length:Int)<=(a1.1.length:Int)/\(a1.1.length:Int)<=(bz:Int) then (l0 (List.replicate (a1.1.length:Int).toNat ((0:Int),([]:List Change),([]:List Int),([]:List Key),()),(0:Int))) else none
theorem ae (k:Nat) (a1:Arg):@Eq Y (D.W k a1) (p (r0 k a1) a1):=
 aX (b:=p (s0 k a1) a1) (by kernel_rfl) (by rw[ax])
theorem ok:Ok prog 109 D.sig:=aw func109 a7 (by kernel_rfl) (fc sI.ok (ak _))
end kJ
namespace nR
abbrev Arg:Type:=Plain×Unit
abbrev Out:Type:=Plain×Unit
noncomputable def D:FD:={ fn:=f18,tl:=be,ps:=[(.ro,jZ)],rs:=[(jZ,(am jZ))],gl:=[(108,lB.D.sig),(109,kJ.D.sig)] }
noncomputable def aa (a:Arg):Option Out:=@lift Out fun k=>D.W k a
noncomputable def p (a1:Arg):Option Out:=(lB.aa (a1.1.1,())).bind fun r2=>(kJ.aa (a1.1.2.1,())).bind fun r3=>some ((r2.1,r3.1,a1.1.2.2.1,()),())
theorem ae (k:Nat) (a1:Arg):@Eq (Option Out) (D.W k a1) (p a1):=by kernel_rfl
theorem ok:Ok prog 18 D.sig:=aw func18 a7 (by kernel_rfl) (fc lB.ok (fc kJ.ok (ak _)))
end nR
namespace gt
abbrev Arg:Type:=(List Row)×Unit
abbrev Out:Type:=(List Row)×Unit
noncomputable def D:FD:={ fn:=f243,tl:=be,ps:=[(.ro,(.U au))],rs:=[((.U au),(am (.U au)))] }
noncomputable def aa (a:Arg):Option Out:=@lift Out fun k=>D.W k a
noncomputable def p (a1:Arg):Option Out:=Bi a1.1 (some (([]:List Row),())) (if ([]:List Row).length+a1.1.length<=bz then (some (([]:List Row)++a1.1,())) else none)
theorem ae (k:Nat) (a1:Arg):@Eq (Option Out) (D.W k a1) (p a1):=by kernel_rfl
theorem ok:Ok prog 243 D.sig:=aw func243 a7 (by kernel_rfl) (ak _)
end gt
namespace gb
abbrev Arg:Type:=Row×Row×Unit
abbrev Out:Type:=Bool×Unit
noncomputable def D:FD:={ fn:=f326,tl:=be,ps:=[(.ro,au),(.ro,au)],rs:=[(.bool,(az .bool))] }
noncomputable def aa (a:Arg):Option Out:=@lift Out fun k=>D.W k a
noncomputable def p (a1:Arg):Option Out:=bif decide (a1.1.1 < a1.2.1.1) then (some (true,())) else bif decide (a1.1.1=a1.2.1.1) then (some (decide (a1.1.2.1 < a1.2.1.2.1),())) else some (false,())
theorem ae (k:Nat) (a1:Arg):@Eq (Option Out) (D.W k a1) (p a1):=by kernel_rfl
theorem ok:Ok prog 326 D.sig:=aw func326 a7 (by kernel_rfl) (ak _)
end gb
namespace ii
abbrev Arg:Type:=Row×Row×Unit
abbrev Out:Type:=Int×Unit
noncomputable def D:FD:={ fn:=f312,tl:=be,ps:=[(.ro,au),(.ro,au)],rs:=[(i64,(az i64))],gl:=[(326,gb.D.sig)] }
noncomputable def aa (a:Arg):Option Out:=@lift Out fun k=>D.W k a
noncomputable def p (a1:Arg):Option Out:=(gb.aa (a1.1,a1.2.1,())).bind fun r2=>bif r2.1 then (some ((-1:Int),())) else (gb.aa (a1.2.1,a1.1,())).bind fun r3=>bif r3.1 then (some ((1:Int),())) else some ((0:Int),())
theorem ae (k:Nat) (a1:Arg):@Eq (Option Out) (D.W k a1) (p a1):=by kernel_rfl
theorem ok:Ok prog 312 D.sig:=aw func312 a7 (by kernel_rfl) (fc gb.ok (ak _))
end ii
namespace fb
abbrev Arg:Type:=Int×Int×Int×Unit
abbrev Out:Type:=Bool×Unit
noncomputable def D:FD:={ fn:=f214,tl:=be,ps:=[(.ro,i64),(.ro,i64),(.ro,i64)],rs:=[(.bool,(az .bool))] }
noncomputable def aa (a:Arg):Option Out:=@lift Out fun k=>D.W k a
noncomputable def p (a1:Arg):Option Out:=bif decide (a1.2.1<=a1.1) then (some (decide (a1.1<=a1.2.2.1),())) else some (false,())
theorem ae (k:Nat) (a1:Arg):@Eq (Option Out) (D.W k a1) (p a1):=by kernel_rfl
theorem ok:Ok prog 214 D.sig:=aw func214 a7 (by kernel_rfl) (ak _)
end fb
namespace dp
abbrev Arg:Type:=Row×Unit
abbrev Out:Type:=Int×Unit
abbrev Y:=Option Out
noncomputable def D:FD:={ fn:=f313,tl:=be,ps:=[(.ro,au)],rs:=[(i64,(az i64))],gl:=[(214,fb.D.sig)],lv:=[(6,[1,26,27])],lx:=[(0,[])] }
noncomputable def aa (a:Arg):Y:=@lift Out fun k=>D.W k a
noncomputable def T0 (a1:Arg) (gg:Int):St:={ n:=43,sl:=[(1,.box au (az au) [] a1.1),(26,.val i64 (a1.1.2.2.2.1.length:Int)),(27,.val i64 gg)],vr:=[],aT:=[] }
noncomputable def b0 (self:Int->Y) (e0:(Unit)->Y) (a1:Arg) (gg:Int):Y:=bif decide (gg < (a1.1.2.2.2.1.length:Int)) then (if 0<=gg then ((a1.1.2.2.2.1[gg.toNat]?).bind fun ry=>bif decide ((ry.toNat:Int) < (97:Int)) then (some ((5:Int),())) else if 0<=gg then ((a1.1.2.2.2.1[gg.toNat]?).bind fun BQ=>bif decide ((122:Int) < (BQ.toNat:Int)) then (some ((5:Int),())) else self (af (gg+(1:Int)))) else none) else none) else e0 ()
noncomputable def q0 (a1:Arg) (pr:(Unit)):Y:=some ((0:Int),())
noncomputable def s0 (k:Nat) (a1:Arg):(Int)->Y:=fun gg=>D.L k [1,1,1,0,1,0,0] [1,26,27] [] (ag 0 (ay (D.N k [1,1,1,1]) D.K0)) (T0 a1 gg)
noncomputable def r0 (k:Nat) (a1:Arg):(Int)->Y:=aq (fun w v=>b0 w (q0 a1) a1 v) k
theorem ax (k:Nat) (a1:Arg):s0 k a1=r0 k a1:=
 funext fun gg=>av _ _ _ (T0 a1) _ (fun rec v=>by kernel_rfl) k gg
noncomputable def p (l0:(Int)->Y) (a1:Arg):Y:=(fb.aa (a1.1.1,(0:Int),(3:Int),())).bind fun r2=>bif !r2.1 then (some ((3:Int),())) else (fb.aa (a1.1.2.1,(1:Int),(99:Int),())).bind fun r3=>bif !r3.1 then (some ((3:Int),())) else (fb.aa (a1.1.2.2.1,(0:Int),(999:Int),())).bind fun r4=>bif !r4.1 then (some ((3:Int),())) else bif decide ((8:Int) < (a1.1.2.2.2.1.length:Int)) then (some ((5:Int),())) else l0 (0:Int)
theorem ae (k:Nat) (a1:Arg):@Eq Y (D.W k a1) (p (r0 k a1) a1):=
 aX (b:=p (s0 k a1) a1) (by kernel_rfl) (by rw[ax])
theorem ok:Ok prog 313 D.sig:=aw func313 a7 (by kernel_rfl) (fc fb.ok (ak _))
end dp
namespace kF
abbrev Arg:Type:=Change×Unit
abbrev Out:Type:=Int×Unit
noncomputable def D:FD:={ fn:=f193,tl:=be,ps:=[(.ro,ap)],rs:=[(i64,(az i64))],gl:=[(312,ii.D.sig),(313,dp.D.sig)] }
noncomputable def aa (a:Arg):Option Out:=@lift Out fun k=>D.W k a
noncomputable def p (a1:Arg):Option Out:=let j7:Option Out:=bif a1.1.1 then ((dp.aa (a1.1.2.1,())).bind fun r8=>bif !decide (r8.1=(0:Int)) then (some (r8.1,())) else bif a1.1.2.2.1 then ((dp.aa (a1.1.2.2.2.1,())).bind fun Dw=>some (Dw.1,())) else some ((0:Int),())) else bif a1.1.2.2.1 then ((dp.aa (a1.1.2.2.2.1,())).bind fun IT=>some (IT.1,())) else some ((0:Int),());bif !a1.1.1 then (bif !a1.1.2.2.1 then (some ((1:Int),())) else bif a1.1.1 then (bif a1.1.2.2.1 then ((ii.aa (a1.1.2.1,a1.1.2.2.2.1,())).bind fun r2=>bif !decide (r2.1=(0:Int)) then (some ((1:Int),())) else j7) else j7) else j7) else bif a1.1.1 then (bif a1.1.2.2.1 then ((ii.aa (a1.1.2.1,a1.1.2.2.2.1,())).bind fun r3=>bif !decide (r3.1=(0:Int)) then (some ((1:Int),())) else j7) else j7) else j7
theorem ae (k:Nat) (a1:Arg):@Eq (Option Out) (D.W k a1) (p a1):=by kernel_rfl
theorem ok:Ok prog 193 D.sig:=aw func193 a7 (by kernel_rfl) (fc ii.ok (fc dp.ok (ak _)))
end kF
namespace cx
abbrev Arg:Type:=Change×Unit
abbrev Out:Type:=Row×Unit
noncomputable def D:FD:={ fn:=f198,tl:=be,ps:=[(.ro,ap)],rs:=[(au,(az au))] }
noncomputable def aa (a:Arg):Option Out:=@lift Out fun k=>D.W k a
noncomputable def p (a1:Arg):Option Out:=bif a1.1.2.2.1 then (some (a1.1.2.2.2.1,())) else some (a1.1.2.1,())
theorem ae (k:Nat) (a1:Arg):@Eq (Option Out) (D.W k a1) (p a1):=by kernel_rfl
theorem ok:Ok prog 198 D.sig:=aw func198 a7 (by kernel_rfl) (ak _)
end cx
namespace bg
abbrev Arg:Type:=(List Row)×Row×(Nat×Int)×Unit
abbrev Out:Type:=Int×Bool×Unit
abbrev Y:=Option Out
noncomputable def D:FD:={ fn:=f314,tl:=be,ps:=[(.ro,(.U au)),(.ro,au),(.fix 312,.fn)],rs:=[(i64,(az i64)),(.bool,(az .bool))],gl:=[(312,ii.D.sig)],lv:=[(3,[0,2,4,8,9,10])],lx:=[(0,[0,2,4,8,9])],od:=[(5,[0,1,2,3,4,5,6,7]),(8,[0,1,2,3,4,5,6,7,8,9,10,11,12,13,14,15])] }
noncomputable def aa (a:Arg):Y:=@lift Out fun k=>D.W k a
noncomputable def T0 (a1:Arg) (J:Int×Int):St:={ n:=49,sl:=[(0,.val (.U au) a1.1),(2,.val .fn ((312,a1.2.2.1.2):Nat×Int)),(4,.box au (az au) [] a1.2.1),(8,.val i64 (a1.1.length:Int)),(9,.val i64 J.1),(10,.val i64 J.2)],vr:=[],aT:=[] }
noncomputable def b0 (self:(Int×Int)->Y) (e0:Int->Y) (a1:Arg) (J:Int×Int):Y:=bif decide (J.1 < J.2) then (if 0<=af ((IntKind.wrap .u64 (af (J.1+J.2))).fdiv (2 ^ 1)) then ((a1.1[(af ((IntKind.wrap .u64 (af (J.1+J.2))).fdiv (2 ^ 1))).toNat]?).bind fun a_=>(ii.aa (a_,a1.2.1,())).bind fun dn=>bif decide (dn.1 < (0:Int)) then (self (af ((af ((IntKind.wrap .u64 (af (J.1+J.2))).fdiv (2 ^ 1)))+(1:Int)),J.2)) else self (J.1,af ((IntKind.wrap .u64 (af (J.1+J.2))).fdiv (2 ^ 1)))) else none) else e0 J.1
noncomputable def q0 (a1:Arg) (dz:Int):Y:=bif decide (dz < (a1.1.length:Int)) then (if 0<=dz then ((a1.1[dz.toNat]?).bind fun ry=>(ii.aa (ry,a1.2.1,())).bind fun lO=>some (dz,decide (lO.1=(0:Int)),())) else none) else some (dz,false,())
noncomputable def s0 (k:Nat) (a1:Arg):(Int×Int)->Y:=fun J=>D.L k [1,1,1,0,0,0] [0,2,4,8,9,10] [] (ag 0 (ay (D.N k [1,1,1,1]) D.K0)) (T0 a1 J)
noncomputable def r0 (k:Nat) (a1:Arg):(Int×Int)->Y:=aq (fun w v=>b0 w (q0 a1) a1 v) k
theorem ax (k:Nat) (a1:Arg):s0 k a1=r0 k a1:=
 funext fun J=>av _ _ _ (T0 a1) _ (fun rec v=>by kernel_rfl) k J
noncomputable def p (l0:(Int×Int)->Y) (a1:Arg):Y:=l0 ((0:Int),(a1.1.length:Int))
theorem ae (k:Nat) (a1:Arg):@Eq Y (D.W k a1) (p (r0 k a1) a1):=
 aX (b:=p (s0 k a1) a1) (by kernel_rfl) (by rw[ax])
theorem ok:Ok prog 314 D.sig:=aw func314 a7 (by kernel_rfl) (fc ii.ok (ak _))
end bg
namespace mq
abbrev Arg:Type:=Change×(List Row)×Unit
abbrev Out:Type:=Bool×Unit
noncomputable def D:FD:={ fn:=f194,tl:=be,ps:=[(.ro,ap),(.ro,(.U au))],rs:=[(.bool,(az .bool))],gl:=[(198,cx.D.sig),(314,bg.D.sig)],od:=[(2,[0,1,2,3,4,5,6,7,8,9,10,11,12,13,14,15,16,17])] }
noncomputable def aa (a:Arg):Option Out:=@lift Out fun k=>D.W k a
noncomputable def p (a1:Arg):Option Out:=(cx.aa (a1.1,())).bind fun r2=>(bg.aa (a1.2.1,r2.1,((312,0):Nat×Int),())).bind fun r3=>bif (r3.2.1 == a1.1.1) then (bif !r3.2.1 then (some (true,())) else if 0<=r3.1 then ((a1.2.1[r3.1.toNat]?).bind fun x4=>some ((Ty.eq au x4 a1.1.2.1),())) else none) else some (false,())
theorem ae (k:Nat) (a1:Arg):@Eq (Option Out) (D.W k a1) (p a1):=by kernel_rfl
theorem ok:Ok prog 194 D.sig:=aw func194 a7 (by kernel_rfl) (fc cx.ok (fc bg.ok (ak _)))
end mq
namespace d6
abbrev Arg:Type:=(List Row)×Unit
abbrev Out:Type:=Int×Unit
abbrev Y:=Option Out
noncomputable def D:FD:={ fn:=f207,tl:=be,ps:=[(.ro,(.U au))],rs:=[(i64,(az i64))],gl:=[(313,dp.D.sig),(326,gb.D.sig)],lv:=[(4,[0,9,10,11])],lx:=[(0,[])],od:=[(9,[0,1,2,3,4,5,6,7,8,9,10,11])] }
noncomputable def aa (a:Arg):Y:=@lift Out fun k=>D.W k a
noncomputable def T0 (a1:Arg) (J:Int):St:={ n:=34,sl:=[(0,.val (.U au) a1.1),(9,.val (.U au) a1.1),(10,.val i64 (a1.1.length:Int)),(11,.val i64 J)],vr:=[],aT:=[] }
noncomputable def b0 (self:Int->Y) (e0:(Unit)->Y) (a1:Arg) (J:Int):Y:=bif decide (J < (a1.1.length:Int)) then (if 0<=J then ((a1.1[J.toNat]?).bind fun a_=>(dp.aa (a_,())).bind fun dn=>bif !decide (dn.1=(0:Int)) then (some (dn.1,())) else bif decide ((0:Int) < J) then (if 0<=af (J - (1:Int)) then ((a1.1[(af (J - (1:Int))).toNat]?).bind fun i_=>(gb.aa (i_,a_,())).bind fun rx=>bif !rx.1 then (some ((1:Int),())) else self (af (J+(1:Int)))) else none) else self (af (J+(1:Int)))) else none) else e0 ()
noncomputable def q0 (a1:Arg) (nQ:(Unit)):Y:=some ((0:Int),())
noncomputable def s0 (k:Nat) (a1:Arg):(Int)->Y:=fun J=>D.L k [1,1,0,1,0,0] [0,9,10,11] [] (ag 0 (ay (D.N k [1,1,1]) D.K0)) (T0 a1 J)
noncomputable def r0 (k:Nat) (a1:Arg):(Int)->Y:=aq (fun w v=>b0 w (q0 a1) a1 v) k
theorem ax (k:Nat) (a1:Arg):s0 k a1=r0 k a1:=
 funext fun J=>av _ _ _ (T0 a1) _ (fun rec v=>by kernel_rfl) k J
noncomputable def p (l0:(Int)->Y) (a1:Arg):Y:=bif decide ((60:Int) < (a1.1.length:Int)) then (some ((2:Int),())) else l0 (0:Int)
theorem ae (k:Nat) (a1:Arg):@Eq Y (D.W k a1) (p (r0 k a1) a1):=
 aX (b:=p (s0 k a1) a1) (by kernel_rfl) (by rw[ax])
theorem ok:Ok prog 207 D.sig:=aw func207 a7 (by kernel_rfl) (fc dp.ok (fc gb.ok (ak _)))
end d6
namespace pY
abbrev Arg:Type:=(List Row)×Change×Unit
abbrev Out:Type:=(List Row)×Unit
abbrev Y:=Option Out
noncomputable def D:FD:={ fn:=f356,tl:=be,ps:=[(.ro,(.U au)),(.ro,ap)],rs:=[((.U au),(am (.U au)))],gl:=[(198,cx.D.sig),(314,bg.D.sig)] }
noncomputable def aa (a:Arg):Y:=@lift Out fun k=>D.W k a
noncomputable def p (a1:Arg):Y:=(cx.aa (a1.2.1,())).bind fun r2=>(bg.aa (a1.1,r2.1,((312,0):Nat×Int),())).bind fun r3=>if 0<=r3.1/\r3.1<=(a1.1.length:Int) then (if ([]:List Row).length+((a1.1.take r3.1.toNat).drop 0).length<=bz then (let y4:=([]:List Row)++((a1.1.take r3.1.toNat).drop 0);let j8:=fun (p7:List Row)=>(let j11:=fun (Vu:Int)=>(if 0<=Vu/\Vu<=(a1.1.length:Int) then (if p7.length+((a1.1.take a1.1.length).drop Vu.toNat).length<=bz then (let y12:=p7++((a1.1.take a1.1.length).drop Vu.toNat);some (y12,())) else none) else none:Y);bif r3.2.1 then (j11 (af (r3.1+(1:Int)))) else j11 r3.1:Y);bif a1.2.1.2.2.1 then (if y4.length+[a1.2.1.2.2.2.1].length<=bz then (j8 (y4++[a1.2.1.2.2.2.1])) else none) else j8 y4) else none) else none
theorem ae (k:Nat) (a1:Arg):@Eq Y (D.W k a1) (p a1):=by kernel_rfl
theorem ok:Ok prog 356 D.sig:=aw func356 a7 (by kernel_rfl) (fc cx.ok (fc bg.ok (ak _)))
end pY
namespace dO
abbrev Arg:Type:=(List Row)×(List Change)×Unit
abbrev Out:Type:=dv×Unit
abbrev Y:=Option Out
noncomputable def D:FD:={ fn:=f245,tl:=be,ps:=[(.ro,(.U au)),(.ro,(.U ap))],rs:=[(dg,(am dg))],gl:=[(193,kF.D.sig),(194,mq.D.sig),(207,d6.D.sig),(243,gt.D.sig),(356,pY.D.sig)],lv:=[(6,[4,6,18,19,20])],lx:=[(0,[4,6])] }
noncomputable def aa (a:Arg):Y:=@lift Out fun k=>D.W k a
noncomputable def T0 (a1:Arg) (kQ:(List Row)×Int):St:={ n:=45,sl:=[(4,.box dg (am dg) [] ((0:Int),([]:List Row),())),(6,.own (.U au) (am (.U au)) [] kQ.1),(18,.val (.U ap) a1.2.1),(19,.val i64 (a1.2.1.length:Int)),(20,.val i64 kQ.2)],vr:=[],aT:=[] }
noncomputable def b0 (self:((List Row)×Int)->Y) (e0:(List Row)->Y) (a1:Arg) (kQ:(List Row)×Int):Y:=bif decide (kQ.2 < (a1.2.1.length:Int)) then (if 0<=kQ.2 then ((a1.2.1[kQ.2.toNat]?).bind fun i_=>(kF.aa (i_,())).bind fun rx=>bif !decide (rx.1=(0:Int)) then (some ((rx.1,([]:List Row),()),())) else (mq.aa (i_,kQ.1,())).bind fun lO=>bif !lO.1 then (some (((8:Int),([]:List Row),()),())) else (pY.aa (kQ.1,i_,())).bind fun Dx=>self (Dx.1,af (kQ.2+(1:Int)))) else none) else e0 kQ.1
noncomputable def q0 (a1:Arg) (AC:(List Row)):Y:=bif decide ((60:Int) < (AC.length:Int)) then (some (((2:Int),([]:List Row),()),())) else some (((0:Int),AC,()),())
noncomputable def s0 (k:Nat) (a1:Arg):((List Row)×Int)->Y:=fun kQ=>D.L k [1,1,1,0,1,0,0] [4,6,18,19,20] [] (ag 0 (ay (D.N k [1,1,1,1]) D.K0)) (T0 a1 kQ)
noncomputable def r0 (k:Nat) (a1:Arg):((List Row)×Int)->Y:=aq (fun w v=>b0 w (q0 a1) a1 v) k
theorem ax (k:Nat) (a1:Arg):s0 k a1=r0 k a1:=
 funext fun kQ=>av _ _ _ (T0 a1) _ (fun rec v=>by kernel_rfl) k kQ
noncomputable def p (l0:((List Row)×Int)->Y) (a1:Arg):Y:=(d6.aa (a1.1,())).bind fun r2=>bif !decide (r2.1=(0:Int)) then (some ((r2.1,([]:List Row),()),())) else (gt.aa (a1.1,())).bind fun r3=>l0 (r3.1,(0:Int))
theorem ae (k:Nat) (a1:Arg):@Eq Y (D.W k a1) (p (r0 k a1) a1):=
 aX (b:=p (s0 k a1) a1) (by kernel_rfl) (by rw[ax])
theorem ok:Ok prog 245 D.sig:=aw func245 a7 (by kernel_rfl) (fc kF.ok (fc mq.ok (fc d6.ok (fc gt.ok (fc pY.ok (ak _))))))
end dO
namespace mI
abbrev Arg:Type:=(List Change)×Unit
abbrev Out:Type:=(List Change)×Unit
abbrev Y:=Option Out
noncomputable def D:FD:={ fn:=f251,tl:=be,ps:=[(.ro,(.U ap))],rs:=[((.U ap),(am (.U ap)))],lv:=[(3,[0,3,4])],lx:=[(0,[3])] }
noncomputable def aa (a:Arg):Y:=@lift Out fun k=>D.W k a
noncomputable def T0 (a1:Arg) (J:(List Change)×Int):St:={ n:=30,sl:=[(0,.val (.U ap) a1.1),(3,.own (.U ap) (am (.U ap)) [] J.1),(4,.val i64 J.2)],vr:=[],aT:=[] }
noncomputable def b0 (self:((List Change)×Int)->Y) (e0:(List Change)->Y) (a1:Arg) (J:(List Change)×Int):Y:=bif decide ((0:Int)<=J.2) then (if 0<=J.2 then ((a1.1[J.2.toNat]?).bind fun a_=>if J.1.length+[(a_.2.2.1,a_.2.2.2.1,a_.1,a_.2.1,())].length<=bz then (let Dv:=J.1++[(a_.2.2.1,a_.2.2.2.1,a_.1,a_.2.1,())];self (Dv,af (J.2 - (1:Int)))) else none) else none) else e0 J.1
noncomputable def q0 (a1:Arg) (dz:(List Change)):Y:=some (dz,())
noncomputable def s0 (k:Nat) (a1:Arg):((List Change)×Int)->Y:=fun J=>D.L k [1,1,0,1,0,0] [0,3,4] [] (ag 0 (ay (D.N k [1,1,1]) D.K0)) (T0 a1 J)
noncomputable def r0 (k:Nat) (a1:Arg):((List Change)×Int)->Y:=aq (fun w v=>b0 w (q0 a1) a1 v) k
theorem ax (k:Nat) (a1:Arg):s0 k a1=r0 k a1:=
 funext fun J=>av _ _ _ (T0 a1) _ (fun rec v=>by kernel_rfl) k J
noncomputable def p (l0:((List Change)×Int)->Y) (a1:Arg):Y:=l0 (([]:List Change),af ((a1.1.length:Int) - (1:Int)))
theorem ae (k:Nat) (a1:Arg):@Eq Y (D.W k a1) (p (r0 k a1) a1):=
 aX (b:=p (s0 k a1) a1) (by kernel_rfl) (by rw[ax])
theorem ok:Ok prog 251 D.sig:=aw func251 a7 (by kernel_rfl) (ak _)
end mI
namespace fj
abbrev Arg:Type:=(List Row)×(List Tx)×Unit
abbrev Out:Type:=(List Row)×Int×Unit
abbrev Y:=Option Out
noncomputable def D:FD:={ fn:=f181,tl:=be,ps:=[(.ro,(.U au)),(.ro,(.U ct))],rs:=[((.U au),(am (.U au))),(i64,(az i64))],gl:=[(243,gt.D.sig),(245,dO.D.sig),(251,mI.D.sig)],lv:=[(2,[0,9,10,11])],lx:=[(0,[0])],lf:=[(2,[(0,(.U false (.pair .leaf (.pair .leaf (.pair .leaf (.pair .leaf .leaf))))))])],od:=[(6,[0,1,2,3])] }
noncomputable def aa (a:Arg):Y:=@lift Out fun k=>D.W k a
noncomputable def T0 (a1:Arg) (J:(List Row)×Int):St:={ n:=30,sl:=[(0,.val (.U au) J.1),(9,.val (.U ct) a1.2.1),(10,.val i64 (a1.2.1.length:Int)),(11,.val i64 J.2)],vr:=[],aT:=[] }
noncomputable def b0 (self:((List Row)×Int)->Y) (e0:(List Row)->Y) (a1:Arg) (J:(List Row)×Int):Y:=bif decide (J.2 < (a1.2.1.length:Int)) then (if 0<=J.2 then ((a1.2.1[J.2.toNat]?).bind fun a_=>(mI.aa (a_.2.1,())).bind fun dn=>(dO.aa (J.1,dn.1,())).bind fun ja=>bif !decide (ja.1.1=(0:Int)) then (some (([]:List Row),ja.1.1,())) else self (ja.1.2.1,af (J.2+(1:Int)))) else none) else e0 J.1
noncomputable def q0 (a1:Arg) (lA:(List Row)):Y:=(gt.aa (lA,())).bind fun lO=>some (lO.1,(0:Int),())
noncomputable def s0 (k:Nat) (a1:Arg):((List Row)×Int)->Y:=fun J=>D.L k [1,0,1,0,0] [0,9,10,11] [(0,(.U false (.pair .leaf (.pair .leaf (.pair .leaf (.pair .leaf .leaf))))))] (ag 0 (ay (D.N k [1,1]) D.K0)) (T0 a1 J)
noncomputable def r0 (k:Nat) (a1:Arg):((List Row)×Int)->Y:=aq (fun w v=>b0 w (q0 a1) a1 v) k
theorem ax (k:Nat) (a1:Arg):s0 k a1=r0 k a1:=
 funext fun J=>av _ _ _ (T0 a1) _ (fun rec v=>by kernel_rfl) k J
noncomputable def p (l0:((List Row)×Int)->Y) (a1:Arg):Y:=l0 (a1.1,(0:Int))
theorem ae (k:Nat) (a1:Arg):@Eq Y (D.W k a1) (p (r0 k a1) a1):=
 aX (b:=p (s0 k a1) a1) (by kernel_rfl) (by rw[ax])
theorem ok:Ok prog 181 D.sig:=aw func181 a7 (by kernel_rfl) (fc gt.ok (fc dO.ok (fc mI.ok (ak _))))
end fj
namespace nt
abbrev Arg:Type:=(List Tx)×Unit
abbrev Out:Type:=Int×Unit
abbrev Y:=Option Out
noncomputable def D:FD:={ fn:=f249,tl:=be,ps:=[(.ro,(.U ct))],rs:=[(i64,(az i64))],lv:=[(3,[3,6,7,8])],lx:=[(0,[3])] }
noncomputable def aa (a:Arg):Y:=@lift Out fun k=>D.W k a
noncomputable def T0 (a1:Arg) (J:Int×Int):St:={ n:=19,sl:=[(3,.val i64 J.1),(6,.val (.U ct) a1.1),(7,.val i64 (a1.1.length:Int)),(8,.val i64 J.2)],vr:=[],aT:=[] }
noncomputable def b0 (self:(Int×Int)->Y) (e0:Int->Y) (a1:Arg) (J:Int×Int):Y:=bif decide (J.2 < (a1.1.length:Int)) then (if 0<=J.2 then ((a1.1[J.2.toNat]?).bind fun a_=>self (af (J.1+(a_.2.1.length:Int)),af (J.2+(1:Int)))) else none) else e0 J.1
noncomputable def q0 (a1:Arg) (qq:Int):Y:=some (qq,())
noncomputable def s0 (k:Nat) (a1:Arg):(Int×Int)->Y:=fun J=>D.L k [1,1,0,1,0,0] [3,6,7,8] [] (ag 0 (ay (D.N k [1,1,1]) D.K0)) (T0 a1 J)
noncomputable def r0 (k:Nat) (a1:Arg):(Int×Int)->Y:=aq (fun w v=>b0 w (q0 a1) a1 v) k
theorem ax (k:Nat) (a1:Arg):s0 k a1=r0 k a1:=
 funext fun J=>av _ _ _ (T0 a1) _ (fun rec v=>by kernel_rfl) k J
noncomputable def p (l0:(Int×Int)->Y) (a1:Arg):Y:=l0 ((0:Int),(0:Int))
theorem ae (k:Nat) (a1:Arg):@Eq Y (D.W k a1) (p (r0 k a1) a1):=
 aX (b:=p (s0 k a1) a1) (by kernel_rfl) (by rw[ax])
theorem ok:Ok prog 249 D.sig:=aw func249 a7 (by kernel_rfl) (ak _)
end nt
namespace nJ
abbrev Arg:Type:=Int×Unit
abbrev Out:Type:=Bool×Unit
noncomputable def D:FD:={ fn:=f271,tl:=be,ps:=[(.ro,i64)],rs:=[(.bool,(az .bool))],gl:=[(214,fb.D.sig)] }
noncomputable def aa (a:Arg):Option Out:=@lift Out fun k=>D.W k a
noncomputable def p (a1:Arg):Option Out:=(fb.aa (a1.1,(1:Int),(99:Int),())).bind fun r2=>some (r2.1,())
theorem ae (k:Nat) (a1:Arg):@Eq (Option Out) (D.W k a1) (p a1):=by kernel_rfl
theorem ok:Ok prog 271 D.sig:=aw func271 a7 (by kernel_rfl) (fc fb.ok (ak _))
end nJ
namespace gu
abbrev Arg:Type:=Change×Unit
abbrev Out:Type:=Int×Unit
noncomputable def D:FD:={ fn:=f246,tl:=be,ps:=[(.ro,ap)],rs:=[(i64,(az i64))],gl:=[(193,kF.D.sig)] }
noncomputable def aa (a:Arg):Option Out:=@lift Out fun k=>D.W k a
noncomputable def p (a1:Arg):Option Out:=(kF.aa (a1.1,())).bind fun r2=>bif !decide (r2.1=(0:Int)) then (some (r2.1,())) else bif a1.1.1 then (bif a1.1.2.2.1 then (bif (Ty.eq au a1.1.2.1 a1.1.2.2.2.1) then (some ((1:Int),())) else some ((0:Int),())) else some ((0:Int),())) else some ((0:Int),())
theorem ae (k:Nat) (a1:Arg):@Eq (Option Out) (D.W k a1) (p a1):=by kernel_rfl
theorem ok:Ok prog 246 D.sig:=aw func246 a7 (by kernel_rfl) (fc kF.ok (ak _))
end gu
namespace nm
abbrev Arg:Type:=Change×Unit
abbrev Out:Type:=Key×Unit
noncomputable def D:FD:={ fn:=f248,tl:=be,ps:=[(.ro,ap)],rs:=[(bq,(az bq))],gl:=[(198,cx.D.sig)],od:=[(1,[0,3,1,2,4,5,6,7])] }
noncomputable def aa (a:Arg):Option Out:=@lift Out fun k=>D.W k a
noncomputable def p (a1:Arg):Option Out:=(cx.aa (a1.1,())).bind fun r2=>(cx.aa (a1.1,())).bind fun r3=>some ((r2.1.1,r3.1.2.1,()),())
theorem ae (k:Nat) (a1:Arg):@Eq (Option Out) (D.W k a1) (p a1):=by kernel_rfl
theorem ok:Ok prog 248 D.sig:=aw func248 a7 (by kernel_rfl) (fc cx.ok (ak _))
end nm
namespace jw
abbrev Arg:Type:=(List Key)×Key×Unit
abbrev Out:Type:=Int×Unit
abbrev Y:=Option Out
noncomputable def D:FD:={ fn:=f423,tl:=be,ps:=[(.ro,(.U bq)),(.ro,bq)],rs:=[(i64,(az i64))],lv:=[(2,[0,3,7,8])],lx:=[(0,[])],od:=[(4,[0,1,2,3,4,5])] }
noncomputable def aa (a:Arg):Y:=@lift Out fun k=>D.W k a
noncomputable def T0 (a1:Arg) (J:Int):St:={ n:=19,sl:=[(0,.val (.U bq) a1.1),(3,.box bq (az bq) [] a1.2.1),(7,.val i64 (a1.1.length:Int)),(8,.val i64 J)],vr:=[],aT:=[] }
noncomputable def b0 (self:Int->Y) (e0:(Unit)->Y) (a1:Arg) (J:Int):Y:=bif decide (J < (a1.1.length:Int)) then (if 0<=J then ((a1.1[J.toNat]?).bind fun a_=>bif (Ty.eq bq a1.2.1 a_) then (some (J,())) else self (af (J+(1:Int)))) else none) else e0 ()
noncomputable def q0 (a1:Arg) (qq:(Unit)):Y:=some ((-1:Int),())
noncomputable def s0 (k:Nat) (a1:Arg):(Int)->Y:=fun J=>D.L k [1,0,1,0,0] [0,3,7,8] [] (ag 0 (ay (D.N k [1,1]) D.K0)) (T0 a1 J)
noncomputable def r0 (k:Nat) (a1:Arg):(Int)->Y:=aq (fun w v=>b0 w (q0 a1) a1 v) k
theorem ax (k:Nat) (a1:Arg):s0 k a1=r0 k a1:=
 funext fun J=>av _ _ _ (T0 a1) _ (fun rec v=>by kernel_rfl) k J
noncomputable def p (l0:(Int)->Y) (a1:Arg):Y:=l0 (0:Int)
theorem ae (k:Nat) (a1:Arg):@Eq Y (D.W k a1) (p (r0 k a1) a1):=
 aX (b:=p (s0 k a1) a1) (by kernel_rfl) (by rw[ax])
theorem ok:Ok prog 423 D.sig:=aw func423 a7 (by kernel_rfl) (ak _)
end jw
namespace kK
abbrev Arg:Type:=(List Key)×Key×Unit
abbrev Out:Type:=Bool×Unit
noncomputable def D:FD:={ fn:=f357,tl:=be,ps:=[(.ro,(.U bq)),(.ro,bq)],rs:=[(.bool,(az .bool))],gl:=[(423,jw.D.sig)] }
noncomputable def aa (a:Arg):Option Out:=@lift Out fun k=>D.W k a
noncomputable def p (a1:Arg):Option Out:=(jw.aa (a1.1,a1.2.1,())).bind fun r2=>some (decide ((0:Int)<=r2.1),())
theorem ae (k:Nat) (a1:Arg):@Eq (Option Out) (D.W k a1) (p a1):=by kernel_rfl
theorem ok:Ok prog 357 D.sig:=aw func357 a7 (by kernel_rfl) (fc jw.ok (ak _))
end kK
namespace rI
abbrev Arg:Type:=Int×Int×Unit
abbrev Out:Type:=Bool×Unit
noncomputable def D:FD:={ fn:=f411,tl:=be,ps:=[(.ro,i64),(.ro,i64)],rs:=[(.bool,(az .bool))],gl:=[(214,fb.D.sig)] }
noncomputable def aa (a:Arg):Option Out:=@lift Out fun k=>D.W k a
noncomputable def p (a1:Arg):Option Out:=(fb.aa (a1.1,(0:Int),(3:Int),())).bind fun r2=>bif r2.1 then ((fb.aa (a1.2.1,(1:Int),(99:Int),())).bind fun r3=>some (r3.1,())) else some (false,())
theorem ae (k:Nat) (a1:Arg):@Eq (Option Out) (D.W k a1) (p a1):=by kernel_rfl
theorem ok:Ok prog 411 D.sig:=aw func411 a7 (by kernel_rfl) (fc fb.ok (ak _))
end rI
namespace db
abbrev Arg:Type:=Tx×Unit
abbrev Out:Type:=Int×Unit
abbrev Y:=Option Out
noncomputable def D:FD:={ fn:=f330,tl:=be,ps:=[(.ro,ct)],rs:=[(i64,(az i64))],gl:=[(214,fb.D.sig),(246,gu.D.sig),(248,nm.D.sig),(357,kK.D.sig),(411,rI.D.sig)],lv:=[(2,[1,12,13,14]),(14,[1,6,41,42,43]),(21,[1,57,58,59])],lx:=[(0,[1]),(2,[1]),(4,[])],od:=[(7,[0,1,2,3,4,5]),(25,[0,1,2,3,4,5])] }
noncomputable def aa (a:Arg):Y:=@lift Out fun k=>D.W k a
noncomputable def T0 (a1:Arg) (J:Int):St:={ n:=77,sl:=[(1,.box ct (az ct) [] a1.1),(12,.val (.U ap) a1.1.2.1),(13,.val i64 (a1.1.2.1.length:Int)),(14,.val i64 J)],vr:=[],aT:=[] }
noncomputable def S0 (rec:RT Out) (a1:Arg):(Int)->Y:=fun J=>rec (T0 a1 J)
noncomputable def co (K:KT Out) (a1:Arg):(Unit)->Y:=fun z=>K (.exit 0) ({ n:=77,sl:=[(1,.box ct (az ct) [] a1.1)],vr:=[],aT:=[] })
noncomputable def b0 (self:Int->Y) (e0:(Unit)->Y) (a1:Arg) (J:Int):Y:=bif decide (J < (a1.1.2.1.length:Int)) then (if 0<=J then ((a1.1.2.1[J.toNat]?).bind fun a_=>(gu.aa (a_,())).bind fun dn=>bif !decide (dn.1=(0:Int)) then (some (dn.1,())) else (nm.aa (a_,())).bind fun ja=>(kK.aa (a1.1.2.2.2.1,ja.1,())).bind fun rx=>bif !rx.1 then (some ((8:Int),())) else self (af (J+(1:Int)))) else none) else e0 ()
theorem li (k:Nat) (rec:RT Out) (K:KT Out) (a1:Arg) (J:Int):D.N k [1,0,1,0,0] (T0 a1 J) (ic rec (ey [1,12,13,14] []) K)=b0 (S0 rec a1) (co K a1) a1 J:=by kernel_rfl
noncomputable def T1 (a1:Arg) (ci:Int×Int):St:={ n:=77,sl:=[(1,.box ct (az ct) [] a1.1),(6,.val i64 ci.1),(41,.val (.U i64) a1.1.2.2.1),(42,.val i64 (a1.1.2.2.1.length:Int)),(43,.val i64 ci.2)],vr:=[],aT:=[] }
noncomputable def S1 (rec:RT Out) (a1:Arg):(Int×Int)->Y:=fun ci=>rec (T1 a1 ci)
noncomputable def ju (K:KT Out) (a1:Arg):(Unit)->Y:=fun z=>K (.exit 2) ({ n:=77,sl:=[(1,.box ct (az ct) [] a1.1)],vr:=[],aT:=[] })
noncomputable def b1 (self:(Int×Int)->Y) (e2:(Unit)->Y) (a1:Arg) (ci:Int×Int):Y:=bif decide (ci.2 < (a1.1.2.2.1.length:Int)) then (if 0<=ci.2 then ((a1.1.2.2.1[ci.2.toNat]?).bind fun Ab=>(fb.aa (Ab,ci.1,(a1.1.2.1.length:Int),())).bind fun uJ=>bif !uJ.1 then (some ((3:Int),())) else self (Ab,af (ci.2+(1:Int)))) else none) else e2 ()
theorem sU (k:Nat) (rec:RT Out) (K:KT Out) (a1:Arg) (ci:Int×Int):D.N k [1,1,1,1,0,1,0,0] (T1 a1 ci) (ic rec (ey [1,6,41,42,43] []) K)=b1 (S1 rec a1) (ju K a1) a1 ci:=by kernel_rfl
noncomputable def T2 (a1:Arg) (m_:Int):St:={ n:=77,sl:=[(1,.box ct (az ct) [] a1.1),(57,.val (.U bq) a1.1.2.2.2.1),(58,.val i64 (a1.1.2.2.2.1.length:Int)),(59,.val i64 m_)],vr:=[],aT:=[] }
noncomputable def b2 (self:Int->Y) (e4:(Unit)->Y) (a1:Arg) (m_:Int):Y:=bif decide (m_ < (a1.1.2.2.2.1.length:Int)) then (if 0<=m_ then ((a1.1.2.2.2.1[m_.toNat]?).bind fun BR=>(rI.aa (BR.1,BR.2.1,())).bind fun Pk=>bif !Pk.1 then (some ((3:Int),())) else if 0<=m_/\m_<=(a1.1.2.2.2.1.length:Int) then ((kK.aa ((a1.1.2.2.2.1.take m_.toNat).drop 0,BR,())).bind fun Zc=>bif Zc.1 then (some ((6:Int),())) else self (af (m_+(1:Int)))) else none) else none) else e4 ()
noncomputable def q2 (a1:Arg) (uI:(Unit)):Y:=some ((0:Int),())
noncomputable def s2 (k:Nat) (a1:Arg):(Int)->Y:=fun m_=>D.L k [1,1,1,1,1,0,1,0,0] [1,57,58,59] [] (ag 4 (ay (D.N k [1,1,1,1,1,1]) D.K0)) (T2 a1 m_)
noncomputable def r2 (k:Nat) (a1:Arg):(Int)->Y:=aq (fun w v=>b2 w (q2 a1) a1 v) k
theorem rG (k:Nat) (a1:Arg):s2 k a1=r2 k a1:=
 funext fun m_=>av _ _ _ (T2 a1) _ (fun rec v=>by kernel_rfl) k m_
noncomputable def q1 (l2:(Int)->Y) (a1:Arg) (yu:(Unit)):Y:=l2 (0:Int)
noncomputable def Q1 (k:Nat) (a1:Arg) (yu:(Unit)):Y:=q1 (r2 k a1) a1 yu
theorem sV (k:Nat) (a1:Arg) (yu:(Unit)):ju (ag 2 (ay (D.N k [1,1,1,1,1]) D.K0)) a1 yu=Q1 k a1 yu:=
 aX (b:=q1 (s2 k a1) a1 yu) (by kernel_rfl) (by rw[rG];rfl)
noncomputable def s1 (k:Nat) (a1:Arg):(Int×Int)->Y:=fun ci=>D.L k [1,1,1,1,0,1,0,0] [1,6,41,42,43] [] (ag 2 (ay (D.N k [1,1,1,1,1]) D.K0)) (T1 a1 ci)
noncomputable def r1 (k:Nat) (a1:Arg):(Int×Int)->Y:=aq (fun w v=>b1 w (Q1 k a1) a1 v) k
theorem lj (k:Nat) (a1:Arg):s1 k a1=r1 k a1:=by
 funext ci;have h2:ju (ag 2 (ay (D.N k [1,1,1,1,1]) D.K0)) a1=Q1 k a1:=funext fun z=>sV k a1 z;refine (av _ _ _ (T1 a1) (fun self v=>b1 self (ju (ag 2 (ay (D.N k [1,1,1,1,1]) D.K0)) a1) a1 v) (fun rec v=>sU k rec (ag 2 (ay (D.N k [1,1,1,1,1]) D.K0)) a1 v) k ci).trans ?_;rw[h2];rfl
noncomputable def q0 (l1:(Int×Int)->Y) (a1:Arg) (nQ:(Unit)):Y:=bif decide ((8:Int) < (a1.1.2.2.1.length:Int)) then (some ((2:Int),())) else bif decide ((12:Int) < (a1.1.2.2.2.1.length:Int)) then (some ((2:Int),())) else l1 ((0:Int),(0:Int))
noncomputable def Q0 (k:Nat) (a1:Arg) (nQ:(Unit)):Y:=q0 (r1 k a1) a1 nQ
theorem oK (k:Nat) (a1:Arg) (nQ:(Unit)):co (ag 0 (ay (D.N k [1,1]) D.K0)) a1 nQ=Q0 k a1 nQ:=
 aX (b:=q0 (s1 k a1) a1 nQ) (by kernel_rfl) (by rw[lj];rfl)
noncomputable def s0 (k:Nat) (a1:Arg):(Int)->Y:=fun J=>D.L k [1,0,1,0,0] [1,12,13,14] [] (ag 0 (ay (D.N k [1,1]) D.K0)) (T0 a1 J)
noncomputable def r0 (k:Nat) (a1:Arg):(Int)->Y:=aq (fun w v=>b0 w (Q0 k a1) a1 v) k
theorem ax (k:Nat) (a1:Arg):s0 k a1=r0 k a1:=by
 funext J;have h0:co (ag 0 (ay (D.N k [1,1]) D.K0)) a1=Q0 k a1:=funext fun z=>oK k a1 z;refine (av _ _ _ (T0 a1) (fun self v=>b0 self (co (ag 0 (ay (D.N k [1,1]) D.K0)) a1) a1 v) (fun rec v=>li k rec (ag 0 (ay (D.N k [1,1]) D.K0)) a1 v) k J).trans ?_;rw[h0];rfl
noncomputable def p (l0:(Int)->Y) (a1:Arg):Y:=l0 (0:Int)
theorem ae (k:Nat) (a1:Arg):@Eq Y (D.W k a1) (p (r0 k a1) a1):=
 aX (b:=p (s0 k a1) a1) (by kernel_rfl) (by rw[ax])
theorem ok:Ok prog 330 D.sig:=aw func330 a7 (by kernel_rfl) (fc fb.ok (fc gu.ok (fc nm.ok (fc kK.ok (fc rI.ok (ak _))))))
end db
namespace cn
abbrev Arg:Type:=(List Tx)×Unit
abbrev Out:Type:=Int×Unit
abbrev Y:=Option Out
noncomputable def D:FD:={ fn:=f223,tl:=be,ps:=[(.ro,(.U ct))],rs:=[(i64,(az i64))],gl:=[(249,nt.D.sig),(271,nJ.D.sig),(330,db.D.sig)],lv:=[(4,[0,14,15,16]),(16,[0,6,45,46,47]),(19,[0,6,45,46,47,52,53,54])],lx:=[(0,[0]),(2,[0]),(4,[0,6,45,46,47])],od:=[(8,[0,1,2,3,4,5,6,7,8,9,10,11,12])] }
noncomputable def aa (a:Arg):Y:=@lift Out fun k=>D.W k a
noncomputable def T0 (a1:Arg) (J:Int):St:={ n:=68,sl:=[(0,.val (.U ct) a1.1),(14,.val (.U ct) a1.1),(15,.val i64 (a1.1.length:Int)),(16,.val i64 J)],vr:=[],aT:=[] }
noncomputable def S0 (rec:RT Out) (a1:Arg):(Int)->Y:=fun J=>rec (T0 a1 J)
noncomputable def co (K:KT Out) (a1:Arg):(Unit)->Y:=fun z=>K (.exit 0) ({ n:=68,sl:=[(0,.val (.U ct) a1.1)],vr:=[],aT:=[] })
noncomputable def b0 (self:Int->Y) (e0:(Unit)->Y) (a1:Arg) (J:Int):Y:=bif decide (J < (a1.1.length:Int)) then (if 0<=J then ((a1.1[J.toNat]?).bind fun a_=>(nJ.aa (a_.1,())).bind fun dn=>bif !dn.1 then (some ((3:Int),())) else bif decide ((0:Int) < J) then (if 0<=af (J - (1:Int)) then ((a1.1[(af (J - (1:Int))).toNat]?).bind fun i_=>bif decide (a_.1<=i_.1) then (some ((1:Int),())) else (db.aa (a_,())).bind fun lO=>bif !decide (lO.1=(0:Int)) then (some (lO.1,())) else self (af (J+(1:Int)))) else none) else (db.aa (a_,())).bind fun Dx=>bif !decide (Dx.1=(0:Int)) then (some (Dx.1,())) else self (af (J+(1:Int)))) else none) else e0 ()
theorem li (k:Nat) (rec:RT Out) (K:KT Out) (a1:Arg) (J:Int):D.N k [1,1,0,1,0,0] (T0 a1 J) (ic rec (ey [0,14,15,16] []) K)=b0 (S0 rec a1) (co K a1) a1 J:=by kernel_rfl
noncomputable def T1 (a1:Arg) (gr:(List Tx)×(List (Key×Bool))×(List Tx)×Int×Int):St:={ n:=68,sl:=[(0,.val (.U ct) gr.1),(6,.own (.map bq .bool) (am (.map bq .bool)) [] gr.2.1),(45,.val (.U ct) gr.2.2.1),(46,.val i64 gr.2.2.2.1),(47,.val i64 gr.2.2.2.2)],vr:=[],aT:=[] }
noncomputable def S1 (rec:RT Out) (a1:Arg):((List Tx)×(List (Key×Bool))×(List Tx)×Int×Int)->Y:=fun gr=>rec (T1 a1 gr)
noncomputable def ju (K:KT Out) (a1:Arg):(List Tx)->Y:=fun z=>K (.exit 2) ({ n:=68,sl:=[(0,.val (.U ct) z)],vr:=[],aT:=[] })
noncomputable def T2 (a1:Arg) (dy:List Tx) (oL:List Tx) (oM:Int) (oN:Int) (oO:List Key) (wx:Int) (m_:(List (Key×Bool))×Int):St:={ n:=68,sl:=[(0,.val (.U ct) dy),(6,.own (.map bq .bool) (am (.map bq .bool)) [] m_.1),(45,.val (.U ct) oL),(46,.val i64 oM),(47,.val i64 oN),(52,.val (.U bq) oO),(53,.val i64 wx),(54,.val i64 m_.2)],vr:=[],aT:=[] }
noncomputable def b2 (self:((List (Key×Bool))×Int)->Y) (e4:(List (Key×Bool))->Y) (a1:Arg) (dy:List Tx) (oL:List Tx) (oM:Int) (oN:Int) (oO:List Key) (wx:Int) (m_:(List (Key×Bool))×Int):Y:=bif decide (m_.2 < wx) then (if 0<=m_.2 then ((oO[m_.2.toNat]?).bind fun Pm=>bif yY (jm bq m_.1 Pm) false then (some ((7:Int),())) else self (nP bq m_.1 Pm true,af (m_.2+(1:Int)))) else none) else e4 m_.1
noncomputable def q1 (self:((List Tx)×(List (Key×Bool))×(List Tx)×Int×Int)->Y) (e2:(List Tx)->Y) (a1:Arg) (dy:List Tx) (oL:List Tx) (oM:Int) (oN:Int) (oO:List Key) (wx:Int) (Pn:(List (Key×Bool))):Y:=self (dy,Pn,oL,oM,af (oN+(1:Int)))
noncomputable def s2 (k:Nat) (rec:RT Out) (K:KT Out) (a1:Arg):(List Tx)->(List Tx)->Int->Int->(List Key)->Int->((List (Key×Bool))×Int)->Y:=fun dy oL oM oN oO wx=>fun m_=>D.L k [1,1,1,1,0,1,0,0,1,1,0,0,1,1,0,0] [0,6,45,46,47,52,53,54] [] (ag 4 (ag 3 (ay (D.N k [1,1,1,1,0,1,0,0,1,1,1]) (ic rec (ey [0,6,45,46,47] []) K)))) (T2 a1 dy oL oM oN oO wx m_)
noncomputable def r2 (k:Nat) (self:((List Tx)×(List (Key×Bool))×(List Tx)×Int×Int)->Y) (e2:(List Tx)->Y) (a1:Arg):(List Tx)->(List Tx)->Int->Int->(List Key)->Int->((List (Key×Bool))×Int)->Y:=fun dy oL oM oN oO wx=>aq (fun w v=>b2 w (q1 self e2 a1 dy oL oM oN oO wx) a1 dy oL oM oN oO wx v) k
theorem rG (k:Nat) (rec:RT Out) (K:KT Out) (a1:Arg):s2 k rec K a1=r2 k (S1 rec a1) (ju K a1) a1:=
 funext fun dy=>funext fun oL=>funext fun oM=>funext fun oN=>funext fun oO=>funext fun wx=>funext fun m_=>av _ _ _ (T2 a1 dy oL oM oN oO wx) _ (fun rec v=>by kernel_rfl) k m_
noncomputable def b1 (self:((List Tx)×(List (Key×Bool))×(List Tx)×Int×Int)->Y) (e2:(List Tx)->Y) (l2:(List Tx)->(List Tx)->Int->Int->(List Key)->Int->((List (Key×Bool))×Int)->Y) (a1:Arg) (gr:(List Tx)×(List (Key×Bool))×(List Tx)×Int×Int):Y:=bif decide (gr.2.2.2.2 < gr.2.2.2.1) then (if 0<=gr.2.2.2.2 then ((gr.2.2.1[gr.2.2.2.2.toNat]?).bind fun Ad=>l2 gr.1 gr.2.2.1 gr.2.2.2.1 gr.2.2.2.2 Ad.2.2.2.1 (Ad.2.2.2.1.length:Int) (gr.2.1,(0:Int))) else none) else e2 gr.1
noncomputable def B1 (k:Nat) (self:((List Tx)×(List (Key×Bool))×(List Tx)×Int×Int)->Y) (e2:(List Tx)->Y) (a1:Arg) (gr:(List Tx)×(List (Key×Bool))×(List Tx)×Int×Int):Y:=b1 self e2 (r2 k self e2 a1) a1 gr
theorem sU (k:Nat) (rec:RT Out) (K:KT Out) (a1:Arg) (gr:(List Tx)×(List (Key×Bool))×(List Tx)×Int×Int):D.N k [1,1,1,1,0,1,0,0] (T1 a1 gr) (ic rec (ey [0,6,45,46,47] []) K)=B1 k (S1 rec a1) (ju K a1) a1 gr:=
 aX (b:=b1 (S1 rec a1) (ju K a1) (s2 k rec K a1) a1 gr) (by kernel_rfl) (by rw[rG];rfl)
noncomputable def q2 (a1:Arg) (vt:(List Tx)):Y:=(nt.aa (vt,())).bind fun Zd=>bif decide ((12:Int) < Zd.1) then (some ((2:Int),())) else some ((0:Int),())
theorem uK (k:Nat) (a1:Arg) (vt:(List Tx)):ju (ag 2 (ay (D.N k [1,1,1,1,1]) D.K0)) a1 vt=q2 a1 vt:=by kernel_rfl
noncomputable def s1 (k:Nat) (a1:Arg):((List Tx)×(List (Key×Bool))×(List Tx)×Int×Int)->Y:=fun gr=>D.L k [1,1,1,1,0,1,0,0] [0,6,45,46,47] [] (ag 2 (ay (D.N k [1,1,1,1,1]) D.K0)) (T1 a1 gr)
noncomputable def r1 (k:Nat) (a1:Arg):((List Tx)×(List (Key×Bool))×(List Tx)×Int×Int)->Y:=aq (fun w v=>B1 k w (q2 a1) a1 v) k
theorem lj (k:Nat) (a1:Arg):s1 k a1=r1 k a1:=by
 funext gr;have h2:ju (ag 2 (ay (D.N k [1,1,1,1,1]) D.K0)) a1=q2 a1:=funext fun z=>uK k a1 z;refine (av _ _ _ (T1 a1) (fun self v=>B1 k self (ju (ag 2 (ay (D.N k [1,1,1,1,1]) D.K0)) a1) a1 v) (fun rec v=>sU k rec (ag 2 (ay (D.N k [1,1,1,1,1]) D.K0)) a1 v) k gr).trans ?_;rw[h2];rfl
noncomputable def q0 (l1:((List Tx)×(List (Key×Bool))×(List Tx)×Int×Int)->Y) (a1:Arg) (AC:(Unit)):Y:=l1 (a1.1,([]:List (Key×Bool)),a1.1,(a1.1.length:Int),(0:Int))
noncomputable def Q0 (k:Nat) (a1:Arg) (AC:(Unit)):Y:=q0 (r1 k a1) a1 AC
theorem oK (k:Nat) (a1:Arg) (AC:(Unit)):co (ag 0 (ay (D.N k [1,1,1]) D.K0)) a1 AC=Q0 k a1 AC:=
 aX (b:=q0 (s1 k a1) a1 AC) (by kernel_rfl) (by rw[lj];rfl)
noncomputable def s0 (k:Nat) (a1:Arg):(Int)->Y:=fun J=>D.L k [1,1,0,1,0,0] [0,14,15,16] [] (ag 0 (ay (D.N k [1,1,1]) D.K0)) (T0 a1 J)
noncomputable def r0 (k:Nat) (a1:Arg):(Int)->Y:=aq (fun w v=>b0 w (Q0 k a1) a1 v) k
theorem ax (k:Nat) (a1:Arg):s0 k a1=r0 k a1:=by
 funext J;have h0:co (ag 0 (ay (D.N k [1,1,1]) D.K0)) a1=Q0 k a1:=funext fun z=>oK k a1 z;refine (av _ _ _ (T0 a1) (fun self v=>b0 self (co (ag 0 (ay (D.N k [1,1,1]) D.K0)) a1) a1 v) (fun rec v=>li k rec (ag 0 (ay (D.N k [1,1,1]) D.K0)) a1 v) k J).trans ?_;rw[h0];rfl
noncomputable def p (l0:(Int)->Y) (a1:Arg):Y:=bif decide ((4:Int) < (a1.1.length:Int)) then (some ((2:Int),())) else l0 (0:Int)
theorem ae (k:Nat) (a1:Arg):@Eq Y (D.W k a1) (p (r0 k a1) a1):=
 aX (b:=p (s0 k a1) a1) (by kernel_rfl) (by rw[ax])
theorem ok:Ok prog 223 D.sig:=aw func223 a7 (by kernel_rfl) (fc nt.ok (fc nJ.ok (fc db.ok (ak _))))
end cn
namespace d9
abbrev Arg:Type:=(List Row)×(List Tx)×Unit
abbrev Out:Type:=(List (Key×Bool))×Unit
abbrev Y:=Option Out
noncomputable def D:FD:={ fn:=f224,tl:=be,ps:=[(.ro,(.U au)),(.ro,(.U ct))],rs:=[((.map bq .bool),(am (.map bq .bool)))],lv:=[(3,[1,5,13,14,15]),(8,[5,26,27,28]),(11,[5,26,27,28,33,34,35])],lx:=[(0,[1,5]),(2,[5]),(4,[5,26,27,28])] }
noncomputable def aa (a:Arg):Y:=@lift Out fun k=>D.W k a
noncomputable def T0 (a1:Arg) (J:(List (Key×Bool))×Int):St:={ n:=44,sl:=[(1,.val (.U ct) a1.2.1),(5,.own (.map bq .bool) (am (.map bq .bool)) [] J.1),(13,.val (.U au) a1.1),(14,.val i64 (a1.1.length:Int)),(15,.val i64 J.2)],vr:=[],aT:=[] }
noncomputable def S0 (rec:RT Out) (a1:Arg):((List (Key×Bool))×Int)->Y:=fun J=>rec (T0 a1 J)
noncomputable def co (K:KT Out) (a1:Arg):(List (Key×Bool))->Y:=fun z=>K (.exit 0) ({ n:=44,sl:=[(1,.val (.U ct) a1.2.1),(5,.own (.map bq .bool) (am (.map bq .bool)) [] z)],vr:=[],aT:=[] })
noncomputable def b0 (self:((List (Key×Bool))×Int)->Y) (e0:(List (Key×Bool))->Y) (a1:Arg) (J:(List (Key×Bool))×Int):Y:=bif decide (J.2 < (a1.1.length:Int)) then (if 0<=J.2 then ((a1.1[J.2.toNat]?).bind fun a_=>let Dv:=nP bq J.1 (a_.1,a_.2.1,()) true;self (Dv,af (J.2+(1:Int)))) else none) else e0 J.1
theorem li (k:Nat) (rec:RT Out) (K:KT Out) (a1:Arg) (J:(List (Key×Bool))×Int):D.N k [1,1,0,1,0,0] (T0 a1 J) (ic rec (ey [1,5,13,14,15] []) K)=b0 (S0 rec a1) (co K a1) a1 J:=by kernel_rfl
noncomputable def T1 (a1:Arg) (eg:(List (Key×Bool))×(List Tx)×Int×Int):St:={ n:=44,sl:=[(5,.own (.map bq .bool) (am (.map bq .bool)) [] eg.1),(26,.val (.U ct) eg.2.1),(27,.val i64 eg.2.2.1),(28,.val i64 eg.2.2.2)],vr:=[],aT:=[] }
noncomputable def S1 (rec:RT Out) (a1:Arg):((List (Key×Bool))×(List Tx)×Int×Int)->Y:=fun eg=>rec (T1 a1 eg)
noncomputable def ju (K:KT Out) (a1:Arg):(List (Key×Bool))->Y:=fun z=>K (.exit 2) ({ n:=44,sl:=[(5,.own (.map bq .bool) (am (.map bq .bool)) [] z)],vr:=[],aT:=[] })
noncomputable def T2 (a1:Arg) (wy:List Tx) (nW:Int) (kb:Int) (f9:List Key) (dy:Int) (uL:(List (Key×Bool))×Int):St:={ n:=44,sl:=[(5,.own (.map bq .bool) (am (.map bq .bool)) [] uL.1),(26,.val (.U ct) wy),(27,.val i64 nW),(28,.val i64 kb),(33,.val (.U bq) f9),(34,.val i64 dy),(35,.val i64 uL.2)],vr:=[],aT:=[] }
noncomputable def b2 (self:((List (Key×Bool))×Int)->Y) (e4:(List (Key×Bool))->Y) (a1:Arg) (wy:List Tx) (nW:Int) (kb:Int) (f9:List Key) (dy:Int) (uL:(List (Key×Bool))×Int):Y:=bif decide (uL.2 < dy) then (if 0<=uL.2 then ((f9[uL.2.toNat]?).bind fun Pd=>self (nP bq uL.1 Pd true,af (uL.2+(1:Int)))) else none) else e4 uL.1
noncomputable def q1 (self:((List (Key×Bool))×(List Tx)×Int×Int)->Y) (e2:(List (Key×Bool))->Y) (a1:Arg) (wy:List Tx) (nW:Int) (kb:Int) (f9:List Key) (dy:Int) (El:(List (Key×Bool))):Y:=self (El,wy,nW,af (kb+(1:Int)))
noncomputable def s2 (k:Nat) (rec:RT Out) (K:KT Out) (a1:Arg):(List Tx)->Int->Int->(List Key)->Int->((List (Key×Bool))×Int)->Y:=fun wy nW kb f9 dy=>fun uL=>D.L k [1,1,1,0,1,0,0,1,1,0,0,1,1,0,0] [5,26,27,28,33,34,35] [] (ag 4 (ag 3 (ay (D.N k [1,1,1,0,1,0,0,1,1,1]) (ic rec (ey [5,26,27,28] []) K)))) (T2 a1 wy nW kb f9 dy uL)
noncomputable def r2 (k:Nat) (self:((List (Key×Bool))×(List Tx)×Int×Int)->Y) (e2:(List (Key×Bool))->Y) (a1:Arg):(List Tx)->Int->Int->(List Key)->Int->((List (Key×Bool))×Int)->Y:=fun wy nW kb f9 dy=>aq (fun w v=>b2 w (q1 self e2 a1 wy nW kb f9 dy) a1 wy nW kb f9 dy v) k
theorem rG (k:Nat) (rec:RT Out) (K:KT Out) (a1:Arg):s2 k rec K a1=r2 k (S1 rec a1) (ju K a1) a1:=
 funext fun wy=>funext fun nW=>funext fun kb=>funext fun f9=>funext fun dy=>funext fun uL=>av _ _ _ (T2 a1 wy nW kb f9 dy) _ (fun rec v=>by kernel_rfl) k uL
noncomputable def b1 (self:((List (Key×Bool))×(List Tx)×Int×Int)->Y) (e2:(List (Key×Bool))->Y) (l2:(List Tx)->Int->Int->(List Key)->Int->((List (Key×Bool))×Int)->Y) (a1:Arg) (eg:(List (Key×Bool))×(List Tx)×Int×Int):Y:=bif decide (eg.2.2.2 < eg.2.2.1) then (if 0<=eg.2.2.2 then ((eg.2.1[eg.2.2.2.toNat]?).bind fun BN=>l2 eg.2.1 eg.2.2.1 eg.2.2.2 BN.2.2.2.1 (BN.2.2.2.1.length:Int) (eg.1,(0:Int))) else none) else e2 eg.1
noncomputable def B1 (k:Nat) (self:((List (Key×Bool))×(List Tx)×Int×Int)->Y) (e2:(List (Key×Bool))->Y) (a1:Arg) (eg:(List (Key×Bool))×(List Tx)×Int×Int):Y:=b1 self e2 (r2 k self e2 a1) a1 eg
theorem sU (k:Nat) (rec:RT Out) (K:KT Out) (a1:Arg) (eg:(List (Key×Bool))×(List Tx)×Int×Int):D.N k [1,1,1,0,1,0,0] (T1 a1 eg) (ic rec (ey [5,26,27,28] []) K)=B1 k (S1 rec a1) (ju K a1) a1 eg:=
 aX (b:=b1 (S1 rec a1) (ju K a1) (s2 k rec K a1) a1 eg) (by kernel_rfl) (by rw[rG];rfl)
noncomputable def q2 (a1:Arg) (uI:(List (Key×Bool))):Y:=some (uI,())
theorem uK (k:Nat) (a1:Arg) (uI:(List (Key×Bool))):ju (ag 2 (ay (D.N k [1,1,1,1]) D.K0)) a1 uI=q2 a1 uI:=by kernel_rfl
noncomputable def s1 (k:Nat) (a1:Arg):((List (Key×Bool))×(List Tx)×Int×Int)->Y:=fun eg=>D.L k [1,1,1,0,1,0,0] [5,26,27,28] [] (ag 2 (ay (D.N k [1,1,1,1]) D.K0)) (T1 a1 eg)
noncomputable def r1 (k:Nat) (a1:Arg):((List (Key×Bool))×(List Tx)×Int×Int)->Y:=aq (fun w v=>B1 k w (q2 a1) a1 v) k
theorem lj (k:Nat) (a1:Arg):s1 k a1=r1 k a1:=by
 funext eg;have h2:ju (ag 2 (ay (D.N k [1,1,1,1]) D.K0)) a1=q2 a1:=funext fun z=>uK k a1 z;refine (av _ _ _ (T1 a1) (fun self v=>B1 k self (ju (ag 2 (ay (D.N k [1,1,1,1]) D.K0)) a1) a1 v) (fun rec v=>sU k rec (ag 2 (ay (D.N k [1,1,1,1]) D.K0)) a1 v) k eg).trans ?_;rw[h2];rfl
noncomputable def q0 (l1:((List (Key×Bool))×(List Tx)×Int×Int)->Y) (a1:Arg) (dz:(List (Key×Bool))):Y:=l1 (dz,a1.2.1,(a1.2.1.length:Int),(0:Int))
noncomputable def Q0 (k:Nat) (a1:Arg) (dz:(List (Key×Bool))):Y:=q0 (r1 k a1) a1 dz
theorem oK (k:Nat) (a1:Arg) (dz:(List (Key×Bool))):co (ag 0 (ay (D.N k [1,1,1]) D.K0)) a1 dz=Q0 k a1 dz:=
 aX (b:=q0 (s1 k a1) a1 dz) (by kernel_rfl) (by rw[lj];rfl)
noncomputable def s0 (k:Nat) (a1:Arg):((List (Key×Bool))×Int)->Y:=fun J=>D.L k [1,1,0,1,0,0] [1,5,13,14,15] [] (ag 0 (ay (D.N k [1,1,1]) D.K0)) (T0 a1 J)
noncomputable def r0 (k:Nat) (a1:Arg):((List (Key×Bool))×Int)->Y:=aq (fun w v=>b0 w (Q0 k a1) a1 v) k
theorem ax (k:Nat) (a1:Arg):s0 k a1=r0 k a1:=by
 funext J;have h0:co (ag 0 (ay (D.N k [1,1,1]) D.K0)) a1=Q0 k a1:=funext fun z=>oK k a1 z;refine (av _ _ _ (T0 a1) (fun self v=>b0 self (co (ag 0 (ay (D.N k [1,1,1]) D.K0)) a1) a1 v) (fun rec v=>li k rec (ag 0 (ay (D.N k [1,1,1]) D.K0)) a1 v) k J).trans ?_;rw[h0];rfl
noncomputable def p (l0:((List (Key×Bool))×Int)->Y) (a1:Arg):Y:=l0 (([]:List (Key×Bool)),(0:Int))
theorem ae (k:Nat) (a1:Arg):@Eq Y (D.W k a1) (p (r0 k a1) a1):=
 aX (b:=p (s0 k a1) a1) (by kernel_rfl) (by rw[ax])
theorem ok:Ok prog 224 D.sig:=aw func224 a7 (by kernel_rfl) (ak _)
end d9
namespace lk
abbrev Arg:Type:=Plain×Unit
abbrev Out:Type:=Int×Unit
noncomputable def D:FD:={ fn:=f98,tl:=be,ps:=[(.ro,jZ)],rs:=[(i64,(az i64))],gl:=[(181,fj.D.sig),(207,d6.D.sig),(214,fb.D.sig),(223,cn.D.sig),(224,d9.D.sig)],od:=[(7,[0,1,2,3,4,5,6,7,8,9,10,11,12,13,14,15,16,17,18,19,20,21,22,23])],ar:=[(7,[1,6,11,13,18,20])],bx:=[(7,[1])] }
noncomputable def aa (a:Arg):Option Out:=@lift Out fun k=>D.W k a
noncomputable def p (a1:Arg):Option Out:=(d6.aa (a1.1.1,())).bind fun r2=>bif !decide (r2.1=(0:Int)) then (some (r2.1,())) else (cn.aa (a1.1.2.1,())).bind fun r3=>bif !decide (r3.1=(0:Int)) then (some (r3.1,())) else let j8:Option Out:=(d9.aa (a1.1.1,a1.1.2.1,())).bind fun r9=>bif decide ((12:Int) < (r9.1.length:Int)) then (some ((2:Int),())) else (fj.aa (a1.1.1,a1.1.2.1,())).bind fun Dw=>bif !decide (Dw.2.1=(0:Int)) then (some ((8:Int),())) else some ((0:Int),());(fb.aa (a1.1.2.2.1,(1:Int),(100:Int),())).bind fun r4=>bif !r4.1 then (some ((3:Int),())) else bif decide ((0:Int) < (a1.1.2.1.length:Int)) then (if 0<=af ((a1.1.2.1.length:Int) - (1:Int)) then ((a1.1.2.1[(af ((a1.1.2.1.length:Int) - (1:Int))).toNat]?).bind fun x5=>bif decide (a1.1.2.2.1<=x5.1) then (some ((3:Int),())) else j8) else none) else j8
theorem ae (k:Nat) (a1:Arg):@Eq (Option Out) (D.W k a1) (p a1):=by kernel_rfl
theorem ok:Ok prog 98 D.sig:=aw func98 a7 (by kernel_rfl) (fc fj.ok (fc d6.ok (fc fb.ok (fc cn.ok (fc d9.ok (ak _))))))
end lk
namespace ij
abbrev Arg:Type:=(List Change)×Unit
abbrev Out:Type:=(List Change)×Unit
noncomputable def D:FD:={ fn:=f353,tl:=be,ps:=[(.ro,(.U ap))],rs:=[((.U ap),(am (.U ap)))] }
noncomputable def aa (a:Arg):Option Out:=@lift Out fun k=>D.W k a
noncomputable def p (a1:Arg):Option Out:=Bi a1.1 (some (([]:List Change),())) (if ([]:List Change).length+a1.1.length<=bz then (some (([]:List Change)++a1.1,())) else none)
theorem ae (k:Nat) (a1:Arg):@Eq (Option Out) (D.W k a1) (p a1):=by kernel_rfl
theorem ok:Ok prog 353 D.sig:=aw func353 a7 (by kernel_rfl) (ak _)
end ij
namespace nX
abbrev Arg:Type:=Row×Row×Unit
abbrev Out:Type:=Bool×Unit
noncomputable def D:FD:={ fn:=f253,tl:=be,ps:=[(.ro,au),(.ro,au)],rs:=[(.bool,(az .bool))] }
noncomputable def aa (a:Arg):Option Out:=@lift Out fun k=>D.W k a
noncomputable def p (a1:Arg):Option Out:=bif !decide (a1.1.1=a1.2.1.1) then (some (false,())) else bif !decide (a1.1.2.1=a1.2.1.2.1) then (some (false,())) else bif !decide (a1.1.2.2.1=a1.2.1.2.2.1) then (some (false,())) else bif !decide (a1.1.2.2.2.1=a1.2.1.2.2.2.1) then (some (false,())) else some (true,())
theorem ae (k:Nat) (a1:Arg):@Eq (Option Out) (D.W k a1) (p a1):=by kernel_rfl
theorem ok:Ok prog 253 D.sig:=aw func253 a7 (by kernel_rfl) (ak _)
end nX
namespace lD
abbrev Arg:Type:=(List Row)×(List Row)×Unit
abbrev Out:Type:=Bool×Unit
abbrev Y:=Option Out
noncomputable def D:FD:={ fn:=f117,tl:=be,ps:=[(.ro,(.U au)),(.ro,(.U au))],rs:=[(.bool,(az .bool))],gl:=[(253,nX.D.sig)],lv:=[(4,[0,1,5])],lx:=[(0,[])],od:=[(6,[0,1,2,3,4,5,6,7,8,9])] }
noncomputable def aa (a:Arg):Y:=@lift Out fun k=>D.W k a
noncomputable def T0 (a1:Arg) (J:Int):St:={ n:=27,sl:=[(0,.val (.U au) a1.1),(1,.val (.U au) a1.2.1),(5,.val i64 J)],vr:=[],aT:=[] }
noncomputable def b0 (self:Int->Y) (e0:(Unit)->Y) (a1:Arg) (J:Int):Y:=bif decide (J < (a1.1.length:Int)) then (if 0<=J then ((a1.1[J.toNat]?).bind fun a_=>if 0<=J then ((a1.2.1[J.toNat]?).bind fun en=>(nX.aa (a_,en,())).bind fun ja=>bif !ja.1 then (some (false,())) else self (af (J+(1:Int)))) else none) else none) else e0 ()
noncomputable def q0 (a1:Arg) (lA:(Unit)):Y:=some (true,())
noncomputable def s0 (k:Nat) (a1:Arg):(Int)->Y:=fun J=>D.L k [1,1,0,1,0,0] [0,1,5] [] (ag 0 (ay (D.N k [1,1,1]) D.K0)) (T0 a1 J)
noncomputable def r0 (k:Nat) (a1:Arg):(Int)->Y:=aq (fun w v=>b0 w (q0 a1) a1 v) k
theorem ax (k:Nat) (a1:Arg):s0 k a1=r0 k a1:=
 funext fun J=>av _ _ _ (T0 a1) _ (fun rec v=>by kernel_rfl) k J
noncomputable def p (l0:(Int)->Y) (a1:Arg):Y:=bif !decide ((a1.1.length:Int)=(a1.2.1.length:Int)) then (some (false,())) else l0 (0:Int)
theorem ae (k:Nat) (a1:Arg):@Eq Y (D.W k a1) (p (r0 k a1) a1):=
 aX (b:=p (s0 k a1) a1) (by kernel_rfl) (by rw[ax])
theorem ok:Ok prog 117 D.sig:=aw func117 a7 (by kernel_rfl) (fc nX.ok (ak _))
end lD
namespace jx
abbrev Arg:Type:=(List Int)×(List Int)×Unit
abbrev Out:Type:=Bool×Unit
abbrev Y:=Option Out
noncomputable def D:FD:={ fn:=f122,tl:=be,ps:=[(.ro,(.U i64)),(.ro,(.U i64))],rs:=[(.bool,(az .bool))],lv:=[(4,[0,1,5])],lx:=[(0,[])],od:=[(6,[0,1,2,3,4,5,6,7,8])] }
noncomputable def aa (a:Arg):Y:=@lift Out fun k=>D.W k a
noncomputable def T0 (a1:Arg) (J:Int):St:={ n:=26,sl:=[(0,.val (.U i64) a1.1),(1,.val (.U i64) a1.2.1),(5,.val i64 J)],vr:=[],aT:=[] }
noncomputable def b0 (self:Int->Y) (e0:(Unit)->Y) (a1:Arg) (J:Int):Y:=bif decide (J < (a1.1.length:Int)) then (if 0<=J then ((a1.1[J.toNat]?).bind fun a_=>if 0<=J then ((a1.2.1[J.toNat]?).bind fun en=>bif !decide (a_=en) then (some (false,())) else self (af (J+(1:Int)))) else none) else none) else e0 ()
noncomputable def q0 (a1:Arg) (dz:(Unit)):Y:=some (true,())
noncomputable def s0 (k:Nat) (a1:Arg):(Int)->Y:=fun J=>D.L k [1,1,0,1,0,0] [0,1,5] [] (ag 0 (ay (D.N k [1,1,1]) D.K0)) (T0 a1 J)
noncomputable def r0 (k:Nat) (a1:Arg):(Int)->Y:=aq (fun w v=>b0 w (q0 a1) a1 v) k
theorem ax (k:Nat) (a1:Arg):s0 k a1=r0 k a1:=
 funext fun J=>av _ _ _ (T0 a1) _ (fun rec v=>by kernel_rfl) k J
noncomputable def p (l0:(Int)->Y) (a1:Arg):Y:=bif !decide ((a1.1.length:Int)=(a1.2.1.length:Int)) then (some (false,())) else l0 (0:Int)
theorem ae (k:Nat) (a1:Arg):@Eq Y (D.W k a1) (p (r0 k a1) a1):=
 aX (b:=p (s0 k a1) a1) (by kernel_rfl) (by rw[ax])
theorem ok:Ok prog 122 D.sig:=aw func122 a7 (by kernel_rfl) (ak _)
end jx
namespace pc
abbrev Arg:Type:=Change×Change×Unit
abbrev Out:Type:=Bool×Unit
noncomputable def D:FD:={ fn:=f278,tl:=be,ps:=[(.ro,ap),(.ro,ap)],rs:=[(.bool,(az .bool))],gl:=[(253,nX.D.sig)] }
noncomputable def aa (a:Arg):Option Out:=@lift Out fun k=>D.W k a
noncomputable def p (a1:Arg):Option Out:=bif !(a1.1.1 == a1.2.1.1) then (some (false,())) else (nX.aa (a1.1.2.1,a1.2.1.2.1,())).bind fun r2=>bif !r2.1 then (some (false,())) else bif !(a1.1.2.2.1 == a1.2.1.2.2.1) then (some (false,())) else (nX.aa (a1.1.2.2.2.1,a1.2.1.2.2.2.1,())).bind fun r3=>bif !r3.1 then (some (false,())) else some (true,())
theorem ae (k:Nat) (a1:Arg):@Eq (Option Out) (D.W k a1) (p a1):=by kernel_rfl
theorem ok:Ok prog 278 D.sig:=aw func278 a7 (by kernel_rfl) (fc nX.ok (ak _))
end pc
namespace iv
abbrev Arg:Type:=(List Change)×(List Change)×Unit
abbrev Out:Type:=Bool×Unit
abbrev Y:=Option Out
noncomputable def D:FD:={ fn:=f139,tl:=be,ps:=[(.ro,(.U ap)),(.ro,(.U ap))],rs:=[(.bool,(az .bool))],gl:=[(278,pc.D.sig)],lv:=[(4,[0,1,5])],lx:=[(0,[])],od:=[(6,[0,1,2,3,4,5,6,7,8,9])] }
noncomputable def aa (a:Arg):Y:=@lift Out fun k=>D.W k a
noncomputable def T0 (a1:Arg) (J:Int):St:={ n:=27,sl:=[(0,.val (.U ap) a1.1),(1,.val (.U ap) a1.2.1),(5,.val i64 J)],vr:=[],aT:=[] }
noncomputable def b0 (self:Int->Y) (e0:(Unit)->Y) (a1:Arg) (J:Int):Y:=bif decide (J < (a1.1.length:Int)) then (if 0<=J then ((a1.1[J.toNat]?).bind fun a_=>if 0<=J then ((a1.2.1[J.toNat]?).bind fun en=>(pc.aa (a_,en,())).bind fun ja=>bif !ja.1 then (some (false,())) else self (af (J+(1:Int)))) else none) else none) else e0 ()
noncomputable def q0 (a1:Arg) (lA:(Unit)):Y:=some (true,())
noncomputable def s0 (k:Nat) (a1:Arg):(Int)->Y:=fun J=>D.L k [1,1,0,1,0,0] [0,1,5] [] (ag 0 (ay (D.N k [1,1,1]) D.K0)) (T0 a1 J)
noncomputable def r0 (k:Nat) (a1:Arg):(Int)->Y:=aq (fun w v=>b0 w (q0 a1) a1 v) k
theorem ax (k:Nat) (a1:Arg):s0 k a1=r0 k a1:=
 funext fun J=>av _ _ _ (T0 a1) _ (fun rec v=>by kernel_rfl) k J
noncomputable def p (l0:(Int)->Y) (a1:Arg):Y:=bif !decide ((a1.1.length:Int)=(a1.2.1.length:Int)) then (some (false,())) else l0 (0:Int)
theorem ae (k:Nat) (a1:Arg):@Eq Y (D.W k a1) (p (r0 k a1) a1):=
 aX (b:=p (s0 k a1) a1) (by kernel_rfl) (by rw[ax])
theorem ok:Ok prog 139 D.sig:=aw func139 a7 (by kernel_rfl) (fc pc.ok (ak _))
end iv
namespace rJ
abbrev Arg:Type:=Key×Key×Unit
abbrev Out:Type:=Bool×Unit
noncomputable def D:FD:={ fn:=f424,tl:=be,ps:=[(.ro,bq),(.ro,bq)],rs:=[(.bool,(az .bool))] }
noncomputable def aa (a:Arg):Option Out:=@lift Out fun k=>D.W k a
noncomputable def p (a1:Arg):Option Out:=bif !decide (a1.1.1=a1.2.1.1) then (some (false,())) else bif !decide (a1.1.2.1=a1.2.1.2.1) then (some (false,())) else some (true,())
theorem ae (k:Nat) (a1:Arg):@Eq (Option Out) (D.W k a1) (p a1):=by kernel_rfl
theorem ok:Ok prog 424 D.sig:=aw func424 a7 (by kernel_rfl) (ak _)
end rJ
namespace lE
abbrev Arg:Type:=(List Key)×(List Key)×Unit
abbrev Out:Type:=Bool×Unit
abbrev Y:=Option Out
noncomputable def D:FD:={ fn:=f358,tl:=be,ps:=[(.ro,(.U bq)),(.ro,(.U bq))],rs:=[(.bool,(az .bool))],gl:=[(424,rJ.D.sig)],lv:=[(4,[0,1,5])],lx:=[(0,[])],od:=[(6,[0,1,2,3,4,5,6,7,8,9])] }
noncomputable def aa (a:Arg):Y:=@lift Out fun k=>D.W k a
noncomputable def T0 (a1:Arg) (J:Int):St:={ n:=27,sl:=[(0,.val (.U bq) a1.1),(1,.val (.U bq) a1.2.1),(5,.val i64 J)],vr:=[],aT:=[] }
noncomputable def b0 (self:Int->Y) (e0:(Unit)->Y) (a1:Arg) (J:Int):Y:=bif decide (J < (a1.1.length:Int)) then (if 0<=J then ((a1.1[J.toNat]?).bind fun a_=>if 0<=J then ((a1.2.1[J.toNat]?).bind fun en=>(rJ.aa (a_,en,())).bind fun ja=>bif !ja.1 then (some (false,())) else self (af (J+(1:Int)))) else none) else none) else e0 ()
noncomputable def q0 (a1:Arg) (lA:(Unit)):Y:=some (true,())
noncomputable def s0 (k:Nat) (a1:Arg):(Int)->Y:=fun J=>D.L k [1,1,0,1,0,0] [0,1,5] [] (ag 0 (ay (D.N k [1,1,1]) D.K0)) (T0 a1 J)
noncomputable def r0 (k:Nat) (a1:Arg):(Int)->Y:=aq (fun w v=>b0 w (q0 a1) a1 v) k
theorem ax (k:Nat) (a1:Arg):s0 k a1=r0 k a1:=
 funext fun J=>av _ _ _ (T0 a1) _ (fun rec v=>by kernel_rfl) k J
noncomputable def p (l0:(Int)->Y) (a1:Arg):Y:=bif !decide ((a1.1.length:Int)=(a1.2.1.length:Int)) then (some (false,())) else l0 (0:Int)
theorem ae (k:Nat) (a1:Arg):@Eq Y (D.W k a1) (p (r0 k a1) a1):=
 aX (b:=p (s0 k a1) a1) (by kernel_rfl) (by rw[ax])
theorem ok:Ok prog 358 D.sig:=aw func358 a7 (by kernel_rfl) (fc rJ.ok (ak _))
end lE
namespace sJ
abbrev Arg:Type:=Tx×Tx×Unit
abbrev Out:Type:=Bool×Unit
noncomputable def D:FD:={ fn:=f254,tl:=be,ps:=[(.ro,ct),(.ro,ct)],rs:=[(.bool,(az .bool))],gl:=[(122,jx.D.sig),(139,iv.D.sig),(358,lE.D.sig)] }
noncomputable def aa (a:Arg):Option Out:=@lift Out fun k=>D.W k a
noncomputable def p (a1:Arg):Option Out:=bif !decide (a1.1.1=a1.2.1.1) then (some (false,())) else (iv.aa (a1.1.2.1,a1.2.1.2.1,())).bind fun r2=>bif !r2.1 then (some (false,())) else (jx.aa (a1.1.2.2.1,a1.2.1.2.2.1,())).bind fun r3=>bif !r3.1 then (some (false,())) else (lE.aa (a1.1.2.2.2.1,a1.2.1.2.2.2.1,())).bind fun r4=>bif !r4.1 then (some (false,())) else some (true,())
theorem ae (k:Nat) (a1:Arg):@Eq (Option Out) (D.W k a1) (p a1):=by kernel_rfl
theorem ok:Ok prog 254 D.sig:=aw func254 a7 (by kernel_rfl) (fc jx.ok (fc iv.ok (fc lE.ok (ak _))))
end sJ
namespace kL
abbrev Arg:Type:=(List Tx)×(List Tx)×Unit
abbrev Out:Type:=Bool×Unit
abbrev Y:=Option Out
noncomputable def D:FD:={ fn:=f118,tl:=be,ps:=[(.ro,(.U ct)),(.ro,(.U ct))],rs:=[(.bool,(az .bool))],gl:=[(254,sJ.D.sig)],lv:=[(4,[0,1,5])],lx:=[(0,[])],od:=[(6,[0,1,2,3,4,5,6,7,8,9])] }
noncomputable def aa (a:Arg):Y:=@lift Out fun k=>D.W k a
noncomputable def T0 (a1:Arg) (J:Int):St:={ n:=27,sl:=[(0,.val (.U ct) a1.1),(1,.val (.U ct) a1.2.1),(5,.val i64 J)],vr:=[],aT:=[] }
noncomputable def b0 (self:Int->Y) (e0:(Unit)->Y) (a1:Arg) (J:Int):Y:=bif decide (J < (a1.1.length:Int)) then (if 0<=J then ((a1.1[J.toNat]?).bind fun a_=>if 0<=J then ((a1.2.1[J.toNat]?).bind fun en=>(sJ.aa (a_,en,())).bind fun ja=>bif !ja.1 then (some (false,())) else self (af (J+(1:Int)))) else none) else none) else e0 ()
noncomputable def q0 (a1:Arg) (lA:(Unit)):Y:=some (true,())
noncomputable def s0 (k:Nat) (a1:Arg):(Int)->Y:=fun J=>D.L k [1,1,0,1,0,0] [0,1,5] [] (ag 0 (ay (D.N k [1,1,1]) D.K0)) (T0 a1 J)
noncomputable def r0 (k:Nat) (a1:Arg):(Int)->Y:=aq (fun w v=>b0 w (q0 a1) a1 v) k
theorem ax (k:Nat) (a1:Arg):s0 k a1=r0 k a1:=
 funext fun J=>av _ _ _ (T0 a1) _ (fun rec v=>by kernel_rfl) k J
noncomputable def p (l0:(Int)->Y) (a1:Arg):Y:=bif !decide ((a1.1.length:Int)=(a1.2.1.length:Int)) then (some (false,())) else l0 (0:Int)
theorem ae (k:Nat) (a1:Arg):@Eq Y (D.W k a1) (p (r0 k a1) a1):=
 aX (b:=p (s0 k a1) a1) (by kernel_rfl) (by rw[ax])
theorem ok:Ok prog 118 D.sig:=aw func118 a7 (by kernel_rfl) (fc sJ.ok (ak _))
end kL
namespace pZ
abbrev Arg:Type:=Plain×Plain×Unit
abbrev Out:Type:=Bool×Unit
noncomputable def D:FD:={ fn:=f22,tl:=be,ps:=[(.ro,jZ),(.ro,jZ)],rs:=[(.bool,(az .bool))],gl:=[(117,lD.D.sig),(118,kL.D.sig)] }
noncomputable def aa (a:Arg):Option Out:=@lift Out fun k=>D.W k a
noncomputable def p (a1:Arg):Option Out:=(lD.aa (a1.1.1,a1.2.1.1,())).bind fun r2=>bif !r2.1 then (some (false,())) else (kL.aa (a1.1.2.1,a1.2.1.2.1,())).bind fun r3=>bif !r3.1 then (some (false,())) else bif !decide (a1.1.2.2.1=a1.2.1.2.2.1) then (some (false,())) else some (true,())
theorem ae (k:Nat) (a1:Arg):@Eq (Option Out) (D.W k a1) (p a1):=by kernel_rfl
theorem ok:Ok prog 22 D.sig:=aw func22 a7 (by kernel_rfl) (fc lD.ok (fc kL.ok (ak _)))
end pZ
namespace mJ
abbrev Arg:Type:=(List UInt8)×Int×Unit
abbrev Out:Type:=Int×Unit
noncomputable def D:FD:={ fn:=f258,tl:=be,ps:=[(.ro,(.U u8)),(.ro,i64)],rs:=[(i64,(az i64))] }
noncomputable def aa (a:Arg):Option Out:=@lift Out fun k=>D.W k a
noncomputable def p (a1:Arg):Option Out:=bif decide (af (a1.2.1 - (a1.1.length:Int)) < (0:Int)) then (some ((-1:Int),())) else some (af (a1.2.1 - (a1.1.length:Int)),())
theorem ae (k:Nat) (a1:Arg):@Eq (Option Out) (D.W k a1) (p a1):=by kernel_rfl
theorem ok:Ok prog 258 D.sig:=aw func258 a7 (by kernel_rfl) (ak _)
end mJ
namespace gz
abbrev Arg:Type:=(List (List UInt8))×Int×Unit
abbrev Out:Type:=Int×Unit
abbrev Y:=Option Out
noncomputable def D:FD:={ fn:=f127,tl:=be,ps:=[(.ro,(.U (.U u8))),(.ro,i64)],rs:=[(i64,(az i64))],gl:=[(258,mJ.D.sig)],lv:=[(5,[0,1,5])],lx:=[(0,[1])] }
noncomputable def aa (a:Arg):Y:=@lift Out fun k=>D.W k a
noncomputable def T0 (a1:Arg) (J:Int×Int):St:={ n:=27,sl:=[(0,.val (.U (.U u8)) a1.1),(1,.val i64 J.1),(5,.val i64 J.2)],vr:=[],aT:=[] }
noncomputable def b0 (self:(Int×Int)->Y) (e0:Int->Y) (a1:Arg) (J:Int×Int):Y:=bif decide (J.2 < (a1.1.length:Int)) then (if 0<=J.2 then ((a1.1[J.2.toNat]?).bind fun a_=>(mJ.aa (a_,J.1,())).bind fun dn=>bif decide (dn.1 < (0:Int)) then (some ((-1:Int),())) else self (dn.1,af (J.2+(1:Int)))) else none) else e0 J.1
noncomputable def q0 (a1:Arg) (dz:Int):Y:=some (dz,())
noncomputable def s0 (k:Nat) (a1:Arg):(Int×Int)->Y:=fun J=>D.L k [1,1,1,0,1,0,0] [0,1,5] [] (ag 0 (ay (D.N k [1,1,1,1]) D.K0)) (T0 a1 J)
noncomputable def r0 (k:Nat) (a1:Arg):(Int×Int)->Y:=aq (fun w v=>b0 w (q0 a1) a1 v) k
theorem ax (k:Nat) (a1:Arg):s0 k a1=r0 k a1:=
 funext fun J=>av _ _ _ (T0 a1) _ (fun rec v=>by kernel_rfl) k J
noncomputable def p (l0:(Int×Int)->Y) (a1:Arg):Y:=bif decide (af (a1.2.1 - (a1.1.length:Int)) < (0:Int)) then (some ((-1:Int),())) else l0 (af (a1.2.1 - (a1.1.length:Int)),(0:Int))
theorem ae (k:Nat) (a1:Arg):@Eq Y (D.W k a1) (p (r0 k a1) a1):=
 aX (b:=p (s0 k a1) a1) (by kernel_rfl) (by rw[ax])
theorem ok:Ok prog 127 D.sig:=aw func127 a7 (by kernel_rfl) (fc mJ.ok (ak _))
end gz
namespace jh
abbrev Arg:Type:=(List UInt8)×Unit
abbrev Out:Type:=Int×Unit
noncomputable def D:FD:={ fn:=f390,tl:=be,ps:=[(.ro,(.U u8))],rs:=[(i64,(az i64))] }
noncomputable def aa (a:Arg):Option Out:=@lift Out fun k=>D.W k a
noncomputable def p (a1:Arg):Option Out:=(a1.1[0]?).bind fun x2=>some (af (x2.toNat:Int),())
theorem ae (k:Nat) (a1:Arg):@Eq (Option Out) (D.W k a1) (p a1):=by kernel_rfl
theorem ok:Ok prog 390 D.sig:=aw func390 a7 (by kernel_rfl) (ak _)
end jh
namespace dx
abbrev Arg:Type:=(List UInt8)×Int×Unit
abbrev Out:Type:=Int×Unit
noncomputable def D:FD:={ fn:=f391,tl:=be,ps:=[(.ro,(.U u8)),(.ro,i64)],rs:=[(i64,(az i64))] }
noncomputable def aa (a:Arg):Option Out:=@lift Out fun k=>D.W k a
noncomputable def p (a1:Arg):Option Out:=if 0<=af ((3:Int)+(af ((2:Int)*a1.2.1))) then ((a1.1[(af ((3:Int)+(af ((2:Int)*a1.2.1)))).toNat]?).bind fun x2=>some (af (x2.toNat:Int),())) else none
theorem ae (k:Nat) (a1:Arg):@Eq (Option Out) (D.W k a1) (p a1):=by kernel_rfl
theorem ok:Ok prog 391 D.sig:=aw func391 a7 (by kernel_rfl) (ak _)
end dx
namespace nY
abbrev Arg:Type:=(List UInt8)×Unit
abbrev Out:Type:=Int×Unit
noncomputable def D:FD:={ fn:=f434,tl:=be,ps:=[(.ro,(.U u8))],rs:=[(i64,(az i64))] }
noncomputable def aa (a:Arg):Option Out:=@lift Out fun k=>D.W k a
noncomputable def p (a1:Arg):Option Out:=(a1.1[1]?).bind fun x2=>some (af (x2.toNat:Int),())
theorem ae (k:Nat) (a1:Arg):@Eq (Option Out) (D.W k a1) (p a1):=by kernel_rfl
theorem ok:Ok prog 434 D.sig:=aw func434 a7 (by kernel_rfl) (ak _)
end nY
namespace ji
abbrev Arg:Type:=(List UInt8)×Int×Unit
abbrev Out:Type:=Int×Unit
noncomputable def D:FD:={ fn:=f439,tl:=be,ps:=[(.ro,(.U u8)),(.ro,i64)],rs:=[(i64,(az i64))] }
noncomputable def aa (a:Arg):Option Out:=@lift Out fun k=>D.W k a
noncomputable def p (a1:Arg):Option Out:=if 0<=af ((2:Int)+(af ((2:Int)*a1.2.1))) then ((a1.1[(af ((2:Int)+(af ((2:Int)*a1.2.1)))).toNat]?).bind fun x2=>some (af (x2.toNat:Int),())) else none
theorem ae (k:Nat) (a1:Arg):@Eq (Option Out) (D.W k a1) (p a1):=by kernel_rfl
theorem ok:Ok prog 439 D.sig:=aw func439 a7 (by kernel_rfl) (ak _)
end ji
namespace qO
abbrev Arg:Type:=(List UInt8)×Int×Unit
abbrev Out:Type:=Bool×Unit
noncomputable def D:FD:={ fn:=f436,tl:=be,ps:=[(.ro,(.U u8)),(.ro,i64)],rs:=[(.bool,(az .bool))],gl:=[(391,dx.D.sig),(434,nY.D.sig),(439,ji.D.sig)] }
noncomputable def aa (a:Arg):Option Out:=@lift Out fun k=>D.W k a
noncomputable def p (a1:Arg):Option Out:=(ji.aa (a1.1,a1.2.1,())).bind fun r2=>(dx.aa (a1.1,a1.2.1,())).bind fun r3=>bif decide (r2.1=(0:Int)) then (some (decide (r2.1=r3.1),())) else bif decide (r3.1=(0:Int)) then (some (decide (r2.1=r3.1),())) else (nY.aa (a1.1,())).bind fun r4=>bif decide (r4.1<=r2.1) then (some (decide (af (r2.1+r3.1)<=(64:Int)),())) else some (false,())
theorem ae (k:Nat) (a1:Arg):@Eq (Option Out) (D.W k a1) (p a1):=by kernel_rfl
theorem ok:Ok prog 436 D.sig:=aw func436 a7 (by kernel_rfl) (fc dx.ok (fc nY.ok (fc ji.ok (ak _))))
end qO
namespace p6
abbrev Arg:Type:=(List UInt8)×Int×Int×Unit
abbrev Out:Type:=Bool×Unit
noncomputable def D:FD:={ fn:=f437,tl:=be,ps:=[(.ro,(.U u8)),(.ro,i64),(.ro,i64)],rs:=[(.bool,(az .bool))],gl:=[(391,dx.D.sig),(439,ji.D.sig)] }
noncomputable def aa (a:Arg):Option Out:=@lift Out fun k=>D.W k a
noncomputable def p (a1:Arg):Option Out:=(dx.aa (a1.1,a1.2.1,())).bind fun r2=>bif decide (r2.1=(0:Int)) then (some (true,())) else (dx.aa (a1.1,a1.2.2.1,())).bind fun r3=>bif decide (r3.1=(0:Int)) then (some (true,())) else (ji.aa (a1.1,a1.2.1,())).bind fun r4=>(dx.aa (a1.1,a1.2.1,())).bind fun r5=>(ji.aa (a1.1,a1.2.2.1,())).bind fun r6=>bif decide (af (r4.1+r5.1)<=r6.1) then (some (true,())) else (ji.aa (a1.1,a1.2.2.1,())).bind fun r7=>(dx.aa (a1.1,a1.2.2.1,())).bind fun r8=>(ji.aa (a1.1,a1.2.1,())).bind fun r9=>some (decide (af (r7.1+r8.1)<=r9.1),())
theorem ae (k:Nat) (a1:Arg):@Eq (Option Out) (D.W k a1) (p a1):=by kernel_rfl
theorem ok:Ok prog 437 D.sig:=aw func437 a7 (by kernel_rfl) (fc dx.ok (fc ji.ok (ak _)))
end p6
namespace cm
abbrev Arg:Type:=(List UInt8)×Unit
abbrev Out:Type:=Int×Unit
abbrev Y:=Option Out
noncomputable def D:FD:={ fn:=f389,tl:=be,ps:=[(.ro,(.U u8))],rs:=[(i64,(az i64))],gl:=[(390,jh.D.sig),(391,dx.D.sig),(434,nY.D.sig),(436,qO.D.sig),(437,p6.D.sig)],lv:=[(7,[0,3,4]),(12,[0,3,5]),(15,[0,3,5,6])],lx:=[(0,[0,3]),(2,[0,3]),(4,[0,3,5])] }
noncomputable def aa (a:Arg):Y:=@lift Out fun k=>D.W k a
noncomputable def T0 (a1:Arg) (d7:Int) (gg:Int):St:={ n:=60,sl:=[(0,.val (.U u8) a1.1),(3,.val i64 d7),(4,.val i64 gg)],vr:=[],aT:=[] }
noncomputable def S0 (rec:RT Out) (a1:Arg) (d7:Int):(Int)->Y:=fun gg=>rec (T0 a1 d7 gg)
noncomputable def co (K:KT Out) (a1:Arg) (d7:Int):(Unit)->Y:=fun z=>K (.exit 0) ({ n:=60,sl:=[(0,.val (.U u8) a1.1),(3,.val i64 d7)],vr:=[],aT:=[] })
noncomputable def b0 (self:Int->Y) (e0:(Unit)->Y) (a1:Arg) (d7:Int) (gg:Int):Y:=bif decide (gg < d7) then ((qO.aa (a1.1,gg,())).bind fun lO=>bif !lO.1 then (some ((3:Int),())) else self (af (gg+(1:Int)))) else e0 ()
theorem li (k:Nat) (rec:RT Out) (K:KT Out) (a1:Arg) (d7:Int) (gg:Int):D.N k [1,1,1,1,0,1,0,0] (T0 a1 d7 gg) (ic rec (ey [0,3,4] []) K)=b0 (S0 rec a1 d7) (co K a1 d7) a1 d7 gg:=by kernel_rfl
noncomputable def T1 (a1:Arg) (cq:(List UInt8)×Int×Int):St:={ n:=60,sl:=[(0,.val (.U u8) cq.1),(3,.val i64 cq.2.1),(5,.val i64 cq.2.2)],vr:=[],aT:=[] }
noncomputable def S1 (rec:RT Out) (a1:Arg):((List UInt8)×Int×Int)->Y:=fun cq=>rec (T1 a1 cq)
noncomputable def ju (K:KT Out) (a1:Arg):((List UInt8)×Int)->Y:=fun z=>K (.exit 2) ({ n:=60,sl:=[(0,.val (.U u8) z.1),(3,.val i64 z.2)],vr:=[],aT:=[] })
noncomputable def T2 (a1:Arg) (kb:List UInt8) (f9:Int) (dy:Int) (yx:Int):St:={ n:=60,sl:=[(0,.val (.U u8) kb),(3,.val i64 f9),(5,.val i64 dy),(6,.val i64 yx)],vr:=[],aT:=[] }
noncomputable def b2 (self:Int->Y) (e4:(Unit)->Y) (a1:Arg) (kb:List UInt8) (f9:Int) (dy:Int) (yx:Int):Y:=bif decide (yx < dy) then ((p6.aa (kb,dy,yx,())).bind fun Pk=>bif !Pk.1 then (some ((8:Int),())) else self (af (yx+(1:Int)))) else e4 ()
noncomputable def q1 (self:((List UInt8)×Int×Int)->Y) (e2:((List UInt8)×Int)->Y) (a1:Arg) (kb:List UInt8) (f9:Int) (dy:Int) (El:(Unit)):Y:=self (kb,f9,af (dy+(1:Int)))
noncomputable def s2 (k:Nat) (rec:RT Out) (K:KT Out) (a1:Arg):(List UInt8)->Int->Int->(Int)->Y:=fun kb f9 dy=>fun yx=>D.L k [1,1,1,1,1,0,1,0,0,1,0,0,1,0,0] [0,3,5,6] [] (ag 4 (ag 3 (ay (D.N k [1,1,1,1,1,0,1,0,0,1,1]) (ic rec (ey [0,3,5] []) K)))) (T2 a1 kb f9 dy yx)
noncomputable def r2 (k:Nat) (self:((List UInt8)×Int×Int)->Y) (e2:((List UInt8)×Int)->Y) (a1:Arg):(List UInt8)->Int->Int->(Int)->Y:=fun kb f9 dy=>aq (fun w v=>b2 w (q1 self e2 a1 kb f9 dy) a1 kb f9 dy v) k
theorem rG (k:Nat) (rec:RT Out) (K:KT Out) (a1:Arg):s2 k rec K a1=r2 k (S1 rec a1) (ju K a1) a1:=
 funext fun kb=>funext fun f9=>funext fun dy=>funext fun yx=>av _ _ _ (T2 a1 kb f9 dy) _ (fun rec v=>by kernel_rfl) k yx
noncomputable def b1 (self:((List UInt8)×Int×Int)->Y) (e2:((List UInt8)×Int)->Y) (l2:(List UInt8)->Int->Int->(Int)->Y) (a1:Arg) (cq:(List UInt8)×Int×Int):Y:=bif decide (cq.2.2 < cq.2.1) then (l2 cq.1 cq.2.1 cq.2.2 (0:Int)) else e2 (cq.1,cq.2.1)
noncomputable def B1 (k:Nat) (self:((List UInt8)×Int×Int)->Y) (e2:((List UInt8)×Int)->Y) (a1:Arg) (cq:(List UInt8)×Int×Int):Y:=b1 self e2 (r2 k self e2 a1) a1 cq
theorem sU (k:Nat) (rec:RT Out) (K:KT Out) (a1:Arg) (cq:(List UInt8)×Int×Int):D.N k [1,1,1,1,1,0,1,0,0] (T1 a1 cq) (ic rec (ey [0,3,5] []) K)=B1 k (S1 rec a1) (ju K a1) a1 cq:=
 aX (b:=b1 (S1 rec a1) (ju K a1) (s2 k rec K a1) a1 cq) (by kernel_rfl) (by rw[rG];rfl)
noncomputable def q2 (a1:Arg) (uI:((List UInt8)×Int)):Y:=bif decide ((0:Int) < uI.2) then ((dx.aa (uI.1,af (uI.2 - (1:Int)),())).bind fun Ze=>bif decide (Ze.1=(0:Int)) then (some ((8:Int),())) else some ((0:Int),())) else some ((0:Int),())
theorem uK (k:Nat) (a1:Arg) (uI:((List UInt8)×Int)):ju (ag 2 (ay (D.N k [1,1,1,1,1,1]) D.K0)) a1 uI=q2 a1 uI:=by kernel_rfl
noncomputable def s1 (k:Nat) (a1:Arg) (d7:Int):((List UInt8)×Int×Int)->Y:=fun cq=>D.L k [1,1,1,1,1,0,1,0,0] [0,3,5] [] (ag 2 (ay (D.N k [1,1,1,1,1,1]) D.K0)) (T1 a1 cq)
noncomputable def r1 (k:Nat) (a1:Arg) (d7:Int):((List UInt8)×Int×Int)->Y:=aq (fun w v=>B1 k w (q2 a1) a1 v) k
theorem lj (k:Nat) (a1:Arg) (d7:Int):s1 k a1 d7=r1 k a1 d7:=by
 funext cq;have h2:ju (ag 2 (ay (D.N k [1,1,1,1,1,1]) D.K0)) a1=q2 a1:=funext fun z=>uK k a1 z;refine (av _ _ _ (T1 a1) (fun self v=>B1 k self (ju (ag 2 (ay (D.N k [1,1,1,1,1,1]) D.K0)) a1) a1 v) (fun rec v=>sU k rec (ag 2 (ay (D.N k [1,1,1,1,1,1]) D.K0)) a1 v) k cq).trans ?_;rw[h2];rfl
noncomputable def q0 (l1:((List UInt8)×Int×Int)->Y) (a1:Arg) (d7:Int) (pr:(Unit)):Y:=l1 (a1.1,d7,(0:Int))
noncomputable def Q0 (k:Nat) (a1:Arg) (d7:Int) (pr:(Unit)):Y:=q0 (r1 k a1 d7) a1 d7 pr
theorem oK (k:Nat) (a1:Arg) (d7:Int) (pr:(Unit)):co (ag 0 (ay (D.N k [1,1,1,1,1]) D.K0)) a1 d7 pr=Q0 k a1 d7 pr:=
 aX (b:=q0 (s1 k a1 d7) a1 d7 pr) (by kernel_rfl) (by rw[lj];rfl)
noncomputable def s0 (k:Nat) (a1:Arg):Int->(Int)->Y:=fun d7=>fun gg=>D.L k [1,1,1,1,0,1,0,0] [0,3,4] [] (ag 0 (ay (D.N k [1,1,1,1,1]) D.K0)) (T0 a1 d7 gg)
noncomputable def r0 (k:Nat) (a1:Arg):Int->(Int)->Y:=fun d7=>aq (fun w v=>b0 w (Q0 k a1 d7) a1 d7 v) k
theorem ax (k:Nat) (a1:Arg):s0 k a1=r0 k a1:=by
 funext d7;funext gg;have h0:co (ag 0 (ay (D.N k [1,1,1,1,1]) D.K0)) a1 d7=Q0 k a1 d7:=funext fun z=>oK k a1 d7 z;refine (av _ _ _ (T0 a1 d7) (fun self v=>b0 self (co (ag 0 (ay (D.N k [1,1,1,1,1]) D.K0)) a1 d7) a1 d7 v) (fun rec v=>li k rec (ag 0 (ay (D.N k [1,1,1,1,1]) D.K0)) a1 d7 v) k gg).trans ?_;rw[h0];rfl
noncomputable def p (l0:Int->(Int)->Y) (a1:Arg):Y:=bif !decide ((a1.1.length:Int)=(64:Int)) then (some ((1:Int),())) else (jh.aa (a1.1,())).bind fun r2=>bif decide ((16:Int) < r2.1) then (some ((3:Int),())) else (nY.aa (a1.1,())).bind fun r3=>bif decide (r3.1 < af ((2:Int)+(af ((2:Int)*r2.1)))) then (some ((3:Int),())) else (nY.aa (a1.1,())).bind fun r4=>bif decide ((64:Int) < r4.1) then (some ((3:Int),())) else l0 r2.1 (0:Int)
theorem ae (k:Nat) (a1:Arg):@Eq Y (D.W k a1) (p (r0 k a1) a1):=
 aX (b:=p (s0 k a1) a1) (by kernel_rfl) (by rw[ax])
theorem ok:Ok prog 389 D.sig:=aw func389 a7 (by kernel_rfl) (fc jh.ok (fc dx.ok (fc nY.ok (fc qO.ok (fc p6.ok (ak _))))))
end cm
namespace p8
abbrev Arg:Type:=Int×Int×Unit
abbrev Out:Type:=Bool×Unit
noncomputable def D:FD:={ fn:=f438,tl:=be,ps:=[(.ro,i64),(.ro,i64)],rs:=[(.bool,(az .bool))],gl:=[(218,bj.D.sig)] }
noncomputable def aa (a:Arg):Option Out:=@lift Out fun k=>D.W k a
noncomputable def p (a1:Arg):Option Out:=(bj.aa (a1.1,(0:Int),(11:Int),())).bind fun r2=>bif r2.1 then ((bj.aa (a1.2.1,(0:Int),(15:Int),())).bind fun r3=>some (r3.1,())) else some (false,())
theorem ae (k:Nat) (a1:Arg):@Eq (Option Out) (D.W k a1) (p a1):=by kernel_rfl
theorem ok:Ok prog 438 D.sig:=aw func438 a7 (by kernel_rfl) (fc bj.ok (ak _))
end p8
namespace mh
abbrev Arg:Type:=(List UInt8)×Unit
abbrev Out:Type:=rF×Bool×Unit
noncomputable def D:FD:={ fn:=f392,tl:=be,ps:=[(.ro,(.U u8))],rs:=[(qL,(az qL)),(.bool,(az .bool))],gl:=[(320,jg.D.sig),(438,p8.D.sig)],od:=[(2,[0,1,2,3,4,5,6,7,8,9,10]),(3,[0,1,2,3,4,5,6,7]),(6,[0,1,2,3,4,5,6,7,8,9,10,11,12,13,14,15,16,17,18,19,20,21,22,23]),(7,[0,1,2,3,4,5,6,7,8,9])] }
noncomputable def aa (a:Arg):Option Out:=@lift Out fun k=>D.W k a
noncomputable def p (a1:Arg):Option Out:=let j16:Option Out:=bif decide ((a1.1.length:Int) < (6:Int)) then (some (((0:Int),(0:Int),(0:Int),(0:Int),((0:Int),(0:Int),(0:Int),([]:List UInt8),()),()),false,())) else (a1.1[0]?).bind fun x17=>bif decide ((x17.toNat:Int)=(1:Int)) then (some (((0:Int),(0:Int),(0:Int),(0:Int),((0:Int),(0:Int),(0:Int),([]:List UInt8),()),()),false,())) else (a1.1[0]?).bind fun x18=>bif decide ((2:Int) < (x18.toNat:Int)) then (some (((0:Int),(0:Int),(0:Int),(0:Int),((0:Int),(0:Int),(0:Int),([]:List UInt8),()),()),false,())) else (a1.1[5]?).bind fun x19=>bif !decide ((a1.1.length:Int)=af ((6:Int)+(af (x19.toNat:Int)))) then (some (((0:Int),(0:Int),(0:Int),(0:Int),((0:Int),(0:Int),(0:Int),([]:List UInt8),()),()),false,())) else (a1.1[1]?).bind fun x20=>(a1.1[2]?).bind fun x21=>(a1.1[3]?).bind fun x22=>(a1.1[4]?).bind fun Lf=>if 0<=(6:Int)/\(6:Int)<=(a1.1.length:Int) then (let y24:=af ((af ((af (x22.toNat:Int))*(256:Int)))+(af (Lf.toNat:Int)));(a1.1[0]?).bind fun x25=>(jg.aa ((af (x20.toNat:Int),af (x21.toNat:Int),y24,(a1.1.take a1.1.length).drop 6,()),())).bind fun XZ=>some (((0:Int),af (x25.toNat:Int),(0:Int),(0:Int),(af (x20.toNat:Int),af (x21.toNat:Int),y24,(a1.1.take a1.1.length).drop 6,()),()),decide (XZ.1=(0:Int)),())) else none;bif decide ((a1.1.length:Int)=(3:Int)) then ((a1.1[0]?).bind fun x2=>bif decide ((x2.toNat:Int)=(1:Int)) then ((a1.1[1]?).bind fun x3=>(a1.1[2]?).bind fun x4=>(p8.aa (af (x3.toNat:Int),af (x4.toNat:Int),())).bind fun r5=>some (((0:Int),(1:Int),af (x3.toNat:Int),af (x4.toNat:Int),((0:Int),(0:Int),(0:Int),([]:List UInt8),()),()),r5.1,())) else j16) else j16
theorem ae (k:Nat) (a1:Arg):@Eq (Option Out) (D.W k a1) (p a1):=by kernel_rfl
theorem ok:Ok prog 392 D.sig:=aw func392 a7 (by kernel_rfl) (fc jg.ok (fc p8.ok (ak _)))
end mh
namespace mi
abbrev Arg:Type:=(List UInt8)×Int×Unit
abbrev Out:Type:=(List UInt8)×Unit
noncomputable def D:FD:={ fn:=f393,tl:=be,ps:=[(.ro,(.U u8)),(.ro,i64)],rs:=[((.U u8),(am (.U u8)))],gl:=[(391,dx.D.sig),(439,ji.D.sig)] }
noncomputable def aa (a:Arg):Option Out:=@lift Out fun k=>D.W k a
noncomputable def p (a1:Arg):Option Out:=(ji.aa (a1.1,a1.2.1,())).bind fun r2=>(dx.aa (a1.1,a1.2.1,())).bind fun r3=>if 0<=r2.1/\r2.1<=af (r2.1+r3.1)/\af (r2.1+r3.1)<=(a1.1.length:Int) then (if ([]:List UInt8).length+((a1.1.take (af (r2.1+r3.1)).toNat).drop r2.1.toNat).length<=bz then (let y4:=([]:List UInt8)++((a1.1.take (af (r2.1+r3.1)).toNat).drop r2.1.toNat);some (y4,())) else none) else none
theorem ae (k:Nat) (a1:Arg):@Eq (Option Out) (D.W k a1) (p a1):=by kernel_rfl
theorem ok:Ok prog 393 D.sig:=aw func393 a7 (by kernel_rfl) (fc dx.ok (fc ji.ok (ak _)))
end mi
namespace fq
abbrev Arg:Type:=(List (List UInt8))×Unit
abbrev Out:Type:=Int×Unit
abbrev Y:=Option Out
noncomputable def D:FD:={ fn:=f300,tl:=be,ps:=[(.ro,(.U (.U u8)))],rs:=[(i64,(az i64))],gl:=[(389,cm.D.sig),(390,jh.D.sig),(391,dx.D.sig),(392,mh.D.sig),(393,mi.D.sig)],lv:=[(2,[0,3]),(8,[0,3,5])],lx:=[(0,[]),(2,[0,3])] }
noncomputable def aa (a:Arg):Y:=@lift Out fun k=>D.W k a
noncomputable def T0 (a1:Arg) (J:(List (List UInt8))×Int):St:={ n:=50,sl:=[(0,.val (.U (.U u8)) J.1),(3,.val i64 J.2)],vr:=[],aT:=[] }
noncomputable def S0 (rec:RT Out) (a1:Arg):((List (List UInt8))×Int)->Y:=fun J=>rec (T0 a1 J)
noncomputable def co (K:KT Out) (a1:Arg):(Unit)->Y:=fun z=>K (.exit 0) ({ n:=50,sl:=[],vr:=[],aT:=[] })
noncomputable def T1 (a1:Arg) (ll:List (List UInt8)) (jk:Int) (fk:Int):St:={ n:=50,sl:=[(0,.val (.U (.U u8)) ll),(3,.val i64 jk),(5,.val i64 fk)],vr:=[],aT:=[] }
noncomputable def b1 (self:Int->Y) (e2:(Unit)->Y) (a1:Arg) (ll:List (List UInt8)) (jk:Int) (fk:Int):Y:=if 0<=jk then ((ll[jk.toNat]?).bind fun BO=>(jh.aa (BO,())).bind fun BS=>bif decide (fk < BS.1) then (if 0<=jk then ((ll[jk.toNat]?).bind fun GT=>(dx.aa (GT,fk,())).bind fun GU=>bif decide ((0:Int) < GU.1) then (if 0<=jk then ((ll[jk.toNat]?).bind fun Aa=>(mi.aa (Aa,fk,())).bind fun oP=>(mh.aa (oP.1,())).bind fun GS=>bif !GS.2.1 then (some ((5:Int),())) else self (af (fk+(1:Int)))) else none) else self (af (fk+(1:Int)))) else none) else e2 ()) else none
noncomputable def q0 (self:((List (List UInt8))×Int)->Y) (e0:(Unit)->Y) (a1:Arg) (ll:List (List UInt8)) (jk:Int) (yy:(Unit)):Y:=self (ll,af (jk+(1:Int)))
noncomputable def s1 (k:Nat) (rec:RT Out) (K:KT Out) (a1:Arg):(List (List UInt8))->Int->(Int)->Y:=fun ll jk=>fun fk=>D.L k [1,0,1,0,0,1,0,0,1,1,0,0] [0,3,5] [] (ag 2 (ag 1 (ay (D.N k [1,0,1,0,0,1,1]) (ic rec (ey [0,3] []) K)))) (T1 a1 ll jk fk)
noncomputable def r1 (k:Nat) (self:((List (List UInt8))×Int)->Y) (e0:(Unit)->Y) (a1:Arg):(List (List UInt8))->Int->(Int)->Y:=fun ll jk=>aq (fun w v=>b1 w (q0 self e0 a1 ll jk) a1 ll jk v) k
theorem lj (k:Nat) (rec:RT Out) (K:KT Out) (a1:Arg):s1 k rec K a1=r1 k (S0 rec a1) (co K a1) a1:=
 funext fun ll=>funext fun jk=>funext fun fk=>av _ _ _ (T1 a1 ll jk) _ (fun rec v=>by kernel_rfl) k fk
noncomputable def b0 (self:((List (List UInt8))×Int)->Y) (e0:(Unit)->Y) (l1:(List (List UInt8))->Int->(Int)->Y) (a1:Arg) (J:(List (List UInt8))×Int):Y:=bif decide (J.2 < (J.1.length:Int)) then (if 0<=J.2 then ((J.1[J.2.toNat]?).bind fun a_=>(cm.aa (a_,())).bind fun dn=>bif !decide (dn.1=(0:Int)) then (some (dn.1,())) else l1 J.1 J.2 (0:Int)) else none) else e0 ()
noncomputable def B0 (k:Nat) (self:((List (List UInt8))×Int)->Y) (e0:(Unit)->Y) (a1:Arg) (J:(List (List UInt8))×Int):Y:=b0 self e0 (r1 k self e0 a1) a1 J
theorem li (k:Nat) (rec:RT Out) (K:KT Out) (a1:Arg) (J:(List (List UInt8))×Int):D.N k [1,0,1,0,0] (T0 a1 J) (ic rec (ey [0,3] []) K)=B0 k (S0 rec a1) (co K a1) a1 J:=
 aX (b:=b0 (S0 rec a1) (co K a1) (s1 k rec K a1) a1 J) (by kernel_rfl) (by rw[lj];rfl)
noncomputable def q1 (a1:Arg) (JF:(Unit)):Y:=some ((0:Int),())
theorem sV (k:Nat) (a1:Arg) (JF:(Unit)):co (ag 0 (ay (D.N k [1,1]) D.K0)) a1 JF=q1 a1 JF:=by kernel_rfl
noncomputable def s0 (k:Nat) (a1:Arg):((List (List UInt8))×Int)->Y:=fun J=>D.L k [1,0,1,0,0] [0,3] [] (ag 0 (ay (D.N k [1,1]) D.K0)) (T0 a1 J)
noncomputable def r0 (k:Nat) (a1:Arg):((List (List UInt8))×Int)->Y:=aq (fun w v=>B0 k w (q1 a1) a1 v) k
theorem ax (k:Nat) (a1:Arg):s0 k a1=r0 k a1:=by
 funext J;have h0:co (ag 0 (ay (D.N k [1,1]) D.K0)) a1=q1 a1:=funext fun z=>sV k a1 z;refine (av _ _ _ (T0 a1) (fun self v=>B0 k self (co (ag 0 (ay (D.N k [1,1]) D.K0)) a1) a1 v) (fun rec v=>li k rec (ag 0 (ay (D.N k [1,1]) D.K0)) a1 v) k J).trans ?_;rw[h0];rfl
noncomputable def p (l0:((List (List UInt8))×Int)->Y) (a1:Arg):Y:=l0 (a1.1,(0:Int))
theorem ae (k:Nat) (a1:Arg):@Eq Y (D.W k a1) (p (r0 k a1) a1):=
 aX (b:=p (s0 k a1) a1) (by kernel_rfl) (by rw[ax])
theorem ok:Ok prog 300 D.sig:=aw func300 a7 (by kernel_rfl) (fc cm.ok (fc jh.ok (fc dx.ok (fc mh.ok (fc mi.ok (ak _))))))
end fq
namespace rK
abbrev Arg:Type:=(List UInt8)×Int×Unit
abbrev Out:Type:=Bool×Unit
noncomputable def D:FD:={ fn:=f440,tl:=be,ps:=[(.ro,(.U u8)),(.ro,i64)],rs:=[(.bool,(az .bool))],gl:=[(218,bj.D.sig),(390,jh.D.sig),(391,dx.D.sig)] }
noncomputable def aa (a:Arg):Option Out:=@lift Out fun k=>D.W k a
noncomputable def p (a1:Arg):Option Out:=(jh.aa (a1.1,())).bind fun r2=>(bj.aa (a1.2.1,(0:Int),af (r2.1 - (1:Int)),())).bind fun r3=>bif r3.1 then ((dx.aa (a1.1,a1.2.1,())).bind fun r4=>some (decide ((0:Int) < r4.1),())) else some (false,())
theorem ae (k:Nat) (a1:Arg):@Eq (Option Out) (D.W k a1) (p a1):=by kernel_rfl
theorem ok:Ok prog 440 D.sig:=aw func440 a7 (by kernel_rfl) (fc bj.ok (fc jh.ok (fc dx.ok (ak _))))
end rK
namespace mP
abbrev Arg:Type:=(List (List UInt8))×Int×Int×Unit
abbrev Out:Type:=rF×Bool×Unit
noncomputable def D:FD:={ fn:=f394,tl:=be,ps:=[(.ro,(.U (.U u8))),(.ro,i64),(.ro,i64)],rs:=[(qL,(az qL)),(.bool,(az .bool))],gl:=[(218,bj.D.sig),(392,mh.D.sig),(393,mi.D.sig),(440,rK.D.sig)] }
noncomputable def aa (a:Arg):Option Out:=@lift Out fun k=>D.W k a
noncomputable def p (a1:Arg):Option Out:=(bj.aa (a1.2.1,(0:Int),af ((a1.1.length:Int) - (1:Int)),())).bind fun r2=>bif !r2.1 then (some (((0:Int),(0:Int),(0:Int),(0:Int),((0:Int),(0:Int),(0:Int),([]:List UInt8),()),()),false,())) else if 0<=a1.2.1 then ((a1.1[a1.2.1.toNat]?).bind fun x3=>(rK.aa (x3,a1.2.2.1,())).bind fun r4=>bif !r4.1 then (some (((0:Int),(0:Int),(0:Int),(0:Int),((0:Int),(0:Int),(0:Int),([]:List UInt8),()),()),false,())) else if 0<=a1.2.1 then ((a1.1[a1.2.1.toNat]?).bind fun x5=>(mi.aa (x5,a1.2.2.1,())).bind fun r6=>(mh.aa (r6.1,())).bind fun r7=>some (r7.1,r7.2.1,())) else none) else none
theorem ae (k:Nat) (a1:Arg):@Eq (Option Out) (D.W k a1) (p a1):=by kernel_rfl
theorem ok:Ok prog 394 D.sig:=aw func394 a7 (by kernel_rfl) (fc bj.ok (fc mh.ok (fc mi.ok (fc rK.ok (ak _)))))
end mP
namespace de
abbrev Arg:Type:=(List a8)×(List (List UInt8))×Unit
abbrev Out:Type:=Int×Unit
abbrev Y:=Option Out
noncomputable def D:FD:={ fn:=f301,tl:=be,ps:=[(.ro,(.U ko)),(.ro,(.U (.U u8)))],rs:=[(i64,(az i64))],gl:=[(394,mP.D.sig)],lv:=[(2,[0,1,5]),(9,[0,8]),(12,[0,8,9])],lx:=[(0,[0]),(1,[0,1,5]),(2,[]),(4,[0,8])],od:=[(5,[0,1,2,3,4,5,6,7,8,9,10,11,12,13,14,15,16,17,18,19]),(16,[0,1,2,3,4,5,6,7,8,9,10,11,12,13,14,15,16,17,18,19,20,21,22,23,24,25,26,27,28,29,30,31,32,33])],ar:=[(5,[6,12])],pd:=[(5,[17])] }
noncomputable def aa (a:Arg):Y:=@lift Out fun k=>D.W k a
noncomputable def T0 (a1:Arg) (J:Int):St:={ n:=102,sl:=[(0,.val (.U ko) a1.1),(1,.val (.U (.U u8)) a1.2.1),(5,.val i64 J)],vr:=[],aT:=[] }
noncomputable def S0 (rec:RT Out) (a1:Arg):(Int)->Y:=fun J=>rec (T0 a1 J)
noncomputable def co (K:KT Out) (a1:Arg):(Unit)->Y:=fun z=>K (.exit 0) ({ n:=102,sl:=[(0,.val (.U ko) a1.1)],vr:=[],aT:=[] })
noncomputable def b0 (self:Int->Y) (e0:(Unit)->Y) (a1:Arg) (J:Int):Y:=bif decide (J < (a1.1.length:Int)) then (if 0<=J then ((a1.1[J.toNat]?).bind fun a_=>bif !decide (a_.2.2.1.2.1=(1:Int)) then (self (af (J+(1:Int)))) else if 0<=J then ((a1.1[J.toNat]?).bind fun en=>if 0<=J then ((a1.1[J.toNat]?).bind fun i_=>(mP.aa (a1.2.1,en.2.2.1.2.2.1,i_.2.2.1.2.2.2.1,())).bind fun rx=>bif !rx.2.1 then (some ((4:Int),())) else bif !decide (rx.1.2.1=(2:Int)) then (some ((4:Int),())) else self (af (J+(1:Int)))) else none) else none) else none) else e0 ()
theorem li (k:Nat) (rec:RT Out) (K:KT Out) (a1:Arg) (J:Int):D.N k [1,0,1,0,0] (T0 a1 J) (ic rec (ey [0,1,5] []) K)=b0 (S0 rec a1) (co K a1) a1 J:=by kernel_rfl
noncomputable def T1 (a1:Arg) (ci:(List a8)×Int):St:={ n:=102,sl:=[(0,.val (.U ko) ci.1),(8,.val i64 ci.2)],vr:=[],aT:=[] }
noncomputable def S1 (rec:RT Out) (a1:Arg):((List a8)×Int)->Y:=fun ci=>rec (T1 a1 ci)
noncomputable def ju (K:KT Out) (a1:Arg):(Unit)->Y:=fun z=>K (.exit 2) ({ n:=102,sl:=[],vr:=[],aT:=[] })
noncomputable def T2 (a1:Arg) (nW:List a8) (kb:Int) (uM:Int):St:={ n:=102,sl:=[(0,.val (.U ko) nW),(8,.val i64 kb),(9,.val i64 uM)],vr:=[],aT:=[] }
noncomputable def b2 (self:Int->Y) (e4:(Unit)->Y) (a1:Arg) (nW:List a8) (kb:Int) (uM:Int):Y:=bif decide (uM < kb) then (if 0<=kb then ((nW[kb.toNat]?).bind fun Po=>if 0<=uM then ((nW[uM.toNat]?).bind fun BR=>bif decide (Po.2.2.1.2.1=(1:Int)) then (bif decide (BR.2.2.1.2.1=(1:Int)) then (bif decide (Po.2.2.1.2.2.1=BR.2.2.1.2.2.1) then (bif decide (Po.2.2.1.2.2.2.1=BR.2.2.1.2.2.2.1) then (some ((6:Int),())) else self (af (uM+(1:Int)))) else self (af (uM+(1:Int)))) else self (af (uM+(1:Int)))) else self (af (uM+(1:Int)))) else none) else none) else e4 ()
noncomputable def q1 (self:((List a8)×Int)->Y) (e2:(Unit)->Y) (a1:Arg) (nW:List a8) (kb:Int) (abi:(Unit)):Y:=self (nW,af (kb+(1:Int)))
noncomputable def s2 (k:Nat) (rec:RT Out) (K:KT Out) (a1:Arg):(List a8)->Int->(Int)->Y:=fun nW kb=>fun uM=>D.L k [1,1,0,1,0,0,1,0,0,1,0,0] [0,8,9] [] (ag 4 (ag 3 (ay (D.N k [1,1,0,1,0,0,1,1]) (ic rec (ey [0,8] []) K)))) (T2 a1 nW kb uM)
noncomputable def r2 (k:Nat) (self:((List a8)×Int)->Y) (e2:(Unit)->Y) (a1:Arg):(List a8)->Int->(Int)->Y:=fun nW kb=>aq (fun w v=>b2 w (q1 self e2 a1 nW kb) a1 nW kb v) k
theorem rG (k:Nat) (rec:RT Out) (K:KT Out) (a1:Arg):s2 k rec K a1=r2 k (S1 rec a1) (ju K a1) a1:=
 funext fun nW=>funext fun kb=>funext fun uM=>av _ _ _ (T2 a1 nW kb) _ (fun rec v=>by kernel_rfl) k uM
noncomputable def b1 (self:((List a8)×Int)->Y) (e2:(Unit)->Y) (l2:(List a8)->Int->(Int)->Y) (a1:Arg) (ci:(List a8)×Int):Y:=bif decide (ci.2 < (ci.1.length:Int)) then (l2 ci.1 ci.2 (0:Int)) else e2 ()
noncomputable def B1 (k:Nat) (self:((List a8)×Int)->Y) (e2:(Unit)->Y) (a1:Arg) (ci:(List a8)×Int):Y:=b1 self e2 (r2 k self e2 a1) a1 ci
theorem sU (k:Nat) (rec:RT Out) (K:KT Out) (a1:Arg) (ci:(List a8)×Int):D.N k [1,1,0,1,0,0] (T1 a1 ci) (ic rec (ey [0,8] []) K)=B1 k (S1 rec a1) (ju K a1) a1 ci:=
 aX (b:=b1 (S1 rec a1) (ju K a1) (s2 k rec K a1) a1 ci) (by kernel_rfl) (by rw[rG];rfl)
noncomputable def q2 (a1:Arg) (El:(Unit)):Y:=some ((0:Int),())
theorem uK (k:Nat) (a1:Arg) (El:(Unit)):ju (ag 2 (ay (D.N k [1,1,1]) D.K0)) a1 El=q2 a1 El:=by kernel_rfl
noncomputable def s1 (k:Nat) (a1:Arg):((List a8)×Int)->Y:=fun ci=>D.L k [1,1,0,1,0,0] [0,8] [] (ag 2 (ay (D.N k [1,1,1]) D.K0)) (T1 a1 ci)
noncomputable def r1 (k:Nat) (a1:Arg):((List a8)×Int)->Y:=aq (fun w v=>B1 k w (q2 a1) a1 v) k
theorem lj (k:Nat) (a1:Arg):s1 k a1=r1 k a1:=by
 funext ci;have h2:ju (ag 2 (ay (D.N k [1,1,1]) D.K0)) a1=q2 a1:=funext fun z=>uK k a1 z;refine (av _ _ _ (T1 a1) (fun self v=>B1 k self (ju (ag 2 (ay (D.N k [1,1,1]) D.K0)) a1) a1 v) (fun rec v=>sU k rec (ag 2 (ay (D.N k [1,1,1]) D.K0)) a1 v) k ci).trans ?_;rw[h2];rfl
noncomputable def q0 (l1:((List a8)×Int)->Y) (a1:Arg) (nQ:(Unit)):Y:=l1 (a1.1,(0:Int))
noncomputable def Q0 (k:Nat) (a1:Arg) (nQ:(Unit)):Y:=q0 (r1 k a1) a1 nQ
theorem oK (k:Nat) (a1:Arg) (nQ:(Unit)):co (ag 0 (ay (D.N k [1,1]) D.K0)) a1 nQ=Q0 k a1 nQ:=
 aX (b:=q0 (s1 k a1) a1 nQ) (by kernel_rfl) (by rw[lj];rfl)
noncomputable def s0 (k:Nat) (a1:Arg):(Int)->Y:=fun J=>D.L k [1,0,1,0,0] [0,1,5] [] (ag 0 (ay (D.N k [1,1]) D.K0)) (T0 a1 J)
noncomputable def r0 (k:Nat) (a1:Arg):(Int)->Y:=aq (fun w v=>b0 w (Q0 k a1) a1 v) k
theorem ax (k:Nat) (a1:Arg):s0 k a1=r0 k a1:=by
 funext J;have h0:co (ag 0 (ay (D.N k [1,1]) D.K0)) a1=Q0 k a1:=funext fun z=>oK k a1 z;refine (av _ _ _ (T0 a1) (fun self v=>b0 self (co (ag 0 (ay (D.N k [1,1]) D.K0)) a1) a1 v) (fun rec v=>li k rec (ag 0 (ay (D.N k [1,1]) D.K0)) a1 v) k J).trans ?_;rw[h0];rfl
noncomputable def p (l0:(Int)->Y) (a1:Arg):Y:=l0 (0:Int)
theorem ae (k:Nat) (a1:Arg):@Eq Y (D.W k a1) (p (r0 k a1) a1):=
 aX (b:=p (s0 k a1) a1) (by kernel_rfl) (by rw[ax])
theorem ok:Ok prog 301 D.sig:=aw func301 a7 (by kernel_rfl) (fc mP.ok (ak _))
end de
namespace eh
abbrev Arg:Type:=(List (List UInt8))×Unit
abbrev Out:Type:=(List a8)×Unit
abbrev Y:=Option Out
noncomputable def D:FD:={ fn:=f302,tl:=be,ps:=[(.ro,(.U (.U u8)))],rs:=[((.U ko),(am (.U ko)))],gl:=[(390,jh.D.sig),(391,dx.D.sig),(392,mh.D.sig),(393,mi.D.sig)],lv:=[(3,[0,3,4]),(6,[0,3,4,5])],lx:=[(0,[3]),(2,[0,3,4])] }
noncomputable def aa (a:Arg):Y:=@lift Out fun k=>D.W k a
noncomputable def T0 (a1:Arg) (J:(List (List UInt8))×(List a8)×Int):St:={ n:=49,sl:=[(0,.val (.U (.U u8)) J.1),(3,.own (.U ko) (am (.U ko)) [] J.2.1),(4,.val i64 J.2.2)],vr:=[],aT:=[] }
noncomputable def S0 (rec:RT Out) (a1:Arg):((List (List UInt8))×(List a8)×Int)->Y:=fun J=>rec (T0 a1 J)
noncomputable def co (K:KT Out) (a1:Arg):(List a8)->Y:=fun z=>K (.exit 0) ({ n:=49,sl:=[(3,.own (.U ko) (am (.U ko)) [] z)],vr:=[],aT:=[] })
noncomputable def T1 (a1:Arg) (mM:List (List UInt8)) (kI:Int) (mV:(List a8)×Int):St:={ n:=49,sl:=[(0,.val (.U (.U u8)) mM),(3,.own (.U ko) (am (.U ko)) [] mV.1),(4,.val i64 kI),(5,.val i64 mV.2)],vr:=[],aT:=[] }
noncomputable def b1 (self:((List a8)×Int)->Y) (e2:(List a8)->Y) (a1:Arg) (mM:List (List UInt8)) (kI:Int) (mV:(List a8)×Int):Y:=if 0<=kI then ((mM[kI.toNat]?).bind fun Pf=>(jh.aa (Pf,())).bind fun Zf=>bif decide (mV.2 < Zf.1) then (if 0<=kI then ((mM[kI.toNat]?).bind fun BO=>(dx.aa (BO,mV.2,())).bind fun BS=>bif decide ((0:Int) < BS.1) then (if 0<=kI then ((mM[kI.toNat]?).bind fun GT=>(mi.aa (GT,mV.2,())).bind fun GU=>(mh.aa (GU.1,())).bind fun JG=>if mV.1.length+[(kI,mV.2,JG.1,())].length<=bz then (let Pp:=mV.1++[(kI,mV.2,JG.1,())];self (Pp,af (mV.2+(1:Int)))) else none) else none) else self (mV.1,af (mV.2+(1:Int)))) else none) else e2 mV.1) else none
noncomputable def q0 (self:((List (List UInt8))×(List a8)×Int)->Y) (e0:(List a8)->Y) (a1:Arg) (mM:List (List UInt8)) (kI:Int) (Vv:(List a8)):Y:=self (mM,Vv,af (kI+(1:Int)))
noncomputable def s1 (k:Nat) (rec:RT Out) (K:KT Out) (a1:Arg):(List (List UInt8))->Int->((List a8)×Int)->Y:=fun mM kI=>fun mV=>D.L k [1,1,0,1,0,0,1,0,0,1,0,0] [0,3,4,5] [] (ag 2 (ag 1 (ay (D.N k [1,1,0,1,0,0,1,1]) (ic rec (ey [0,3,4] []) K)))) (T1 a1 mM kI mV)
noncomputable def r1 (k:Nat) (self:((List (List UInt8))×(List a8)×Int)->Y) (e0:(List a8)->Y) (a1:Arg):(List (List UInt8))->Int->((List a8)×Int)->Y:=fun mM kI=>aq (fun w v=>b1 w (q0 self e0 a1 mM kI) a1 mM kI v) k
theorem lj (k:Nat) (rec:RT Out) (K:KT Out) (a1:Arg):s1 k rec K a1=r1 k (S0 rec a1) (co K a1) a1:=
 funext fun mM=>funext fun kI=>funext fun mV=>av _ _ _ (T1 a1 mM kI) _ (fun rec v=>by kernel_rfl) k mV
noncomputable def b0 (self:((List (List UInt8))×(List a8)×Int)->Y) (e0:(List a8)->Y) (l1:(List (List UInt8))->Int->((List a8)×Int)->Y) (a1:Arg) (J:(List (List UInt8))×(List a8)×Int):Y:=bif decide (J.2.2 < (J.1.length:Int)) then (l1 J.1 J.2.2 (J.2.1,(0:Int))) else e0 J.2.1
noncomputable def B0 (k:Nat) (self:((List (List UInt8))×(List a8)×Int)->Y) (e0:(List a8)->Y) (a1:Arg) (J:(List (List UInt8))×(List a8)×Int):Y:=b0 self e0 (r1 k self e0 a1) a1 J
theorem li (k:Nat) (rec:RT Out) (K:KT Out) (a1:Arg) (J:(List (List UInt8))×(List a8)×Int):D.N k [1,1,0,1,0,0] (T0 a1 J) (ic rec (ey [0,3,4] []) K)=B0 k (S0 rec a1) (co K a1) a1 J:=
 aX (b:=b0 (S0 rec a1) (co K a1) (s1 k rec K a1) a1 J) (by kernel_rfl) (by rw[lj];rfl)
noncomputable def q1 (a1:Arg) (yy:(List a8)):Y:=some (yy,())
theorem sV (k:Nat) (a1:Arg) (yy:(List a8)):co (ag 0 (ay (D.N k [1,1,1]) D.K0)) a1 yy=q1 a1 yy:=by kernel_rfl
noncomputable def s0 (k:Nat) (a1:Arg):((List (List UInt8))×(List a8)×Int)->Y:=fun J=>D.L k [1,1,0,1,0,0] [0,3,4] [] (ag 0 (ay (D.N k [1,1,1]) D.K0)) (T0 a1 J)
noncomputable def r0 (k:Nat) (a1:Arg):((List (List UInt8))×(List a8)×Int)->Y:=aq (fun w v=>B0 k w (q1 a1) a1 v) k
theorem ax (k:Nat) (a1:Arg):s0 k a1=r0 k a1:=by
 funext J;have h0:co (ag 0 (ay (D.N k [1,1,1]) D.K0)) a1=q1 a1:=funext fun z=>sV k a1 z;refine (av _ _ _ (T0 a1) (fun self v=>B0 k self (co (ag 0 (ay (D.N k [1,1,1]) D.K0)) a1) a1 v) (fun rec v=>li k rec (ag 0 (ay (D.N k [1,1,1]) D.K0)) a1 v) k J).trans ?_;rw[h0];rfl
noncomputable def p (l0:((List (List UInt8))×(List a8)×Int)->Y) (a1:Arg):Y:=l0 (a1.1,([]:List a8),(0:Int))
theorem ae (k:Nat) (a1:Arg):@Eq Y (D.W k a1) (p (r0 k a1) a1):=
 aX (b:=p (s0 k a1) a1) (by kernel_rfl) (by rw[ax])
theorem ok:Ok prog 302 D.sig:=aw func302 a7 (by kernel_rfl) (fc jh.ok (fc dx.ok (fc mh.ok (fc mi.ok (ak _)))))
end eh
namespace kR
abbrev Arg:Type:=(List (List UInt8))×Unit
abbrev Out:Type:=(List a8)×Unit
abbrev Y:=Option Out
noncomputable def D:FD:={ fn:=f303,tl:=be,ps:=[(.ro,(.U (.U u8)))],rs:=[((.U ko),(am (.U ko)))],gl:=[(302,eh.D.sig),(394,mP.D.sig)],lv:=[(4,[0,3,4,5])],lx:=[(0,[3]),(1,[0,3,4,5])] }
noncomputable def aa (a:Arg):Y:=@lift Out fun k=>D.W k a
noncomputable def T0 (a1:Arg) (l6:List a8) (bb:(List a8)×Int):St:={ n:=50,sl:=[(0,.val (.U (.U u8)) a1.1),(3,.own (.U ko) (am (.U ko)) [] bb.1),(4,.own (.U ko) (am (.U ko)) [] l6),(5,.val i64 bb.2)],vr:=[],aT:=[] }
noncomputable def b0 (self:((List a8)×Int)->Y) (e0:(List a8)->Y) (a1:Arg) (l6:List a8) (bb:(List a8)×Int):Y:=bif decide (bb.2 < (l6.length:Int)) then (if 0<=bb.2/\bb.2 < (l6.length:Int) then ((l6[bb.2.toNat]?).bind fun i_=>bif decide (i_.2.2.1.2.1=(2:Int)) then (self (bb.1,af (bb.2+(1:Int)))) else let Le:=fun (X0:a8)=>(if bb.1.length+[X0].length<=bz then (self (bb.1++[X0],af (bb.2+(1:Int)))) else none:Y);bif decide (i_.2.2.1.2.1=(1:Int)) then ((mP.aa (a1.1,i_.2.2.1.2.2.1,i_.2.2.1.2.2.2.1,())).bind fun rx=>Le (i_.1,i_.2.1,(i_.2.2.1.1,i_.2.2.1.2.1,i_.2.2.1.2.2.1,i_.2.2.1.2.2.2.1,rx.1.2.2.2.2.1,i_.2.2.1.2.2.2.2.2),i_.2.2.2)) else Le i_) else none) else e0 bb.1
noncomputable def q0 (a1:Arg) (l6:List a8) (X4:(List a8)):Y:=some (X4,())
noncomputable def s0 (k:Nat) (a1:Arg):(List a8)->((List a8)×Int)->Y:=fun l6=>fun bb=>D.L k [1,1,1,0,1,0,0] [0,3,4,5] [] (ag 0 (ay (D.N k [1,1,1,1]) D.K0)) (T0 a1 l6 bb)
noncomputable def r0 (k:Nat) (a1:Arg):(List a8)->((List a8)×Int)->Y:=fun l6=>aq (fun w v=>b0 w (q0 a1 l6) a1 l6 v) k
theorem ax (k:Nat) (a1:Arg):s0 k a1=r0 k a1:=
 funext fun l6=>funext fun bb=>av _ _ _ (T0 a1 l6) _ (fun rec v=>by kernel_rfl) k bb
noncomputable def p (l0:(List a8)->((List a8)×Int)->Y) (a1:Arg):Y:=(eh.aa (a1.1,())).bind fun r2=>l0 r2.1 (([]:List a8),(0:Int))
theorem ae (k:Nat) (a1:Arg):@Eq Y (D.W k a1) (p (r0 k a1) a1):=
 aX (b:=p (s0 k a1) a1) (by kernel_rfl) (by rw[ax])
theorem ok:Ok prog 303 D.sig:=aw func303 a7 (by kernel_rfl) (fc eh.ok (fc mP.ok (ak _)))
end kR
namespace di
abbrev Arg:Type:=(List (List UInt8))×Unit
abbrev Out:Type:=Int×Unit
abbrev Y:=Option Out
noncomputable def D:FD:={ fn:=f187,tl:=be,ps:=[(.ro,(.U (.U u8)))],rs:=[(i64,(az i64))],gl:=[(300,fq.D.sig),(301,de.D.sig),(302,eh.D.sig),(303,kR.D.sig)],lv:=[(11,[5,6]),(14,[5,6,7])],lx:=[(0,[]),(2,[5,6])],od:=[(16,[0,1,2,3,4,5,6,7,8,9,10,11,12,13,14,15,16,17,18,19,20,21,22,23,24,25,26,27,28,29,30,31])] }
noncomputable def aa (a:Arg):Y:=@lift Out fun k=>D.W k a
noncomputable def T0 (a1:Arg) (sX:(List a8)×Int):St:={ n:=68,sl:=[(5,.own (.U ko) (am (.U ko)) [] sX.1),(6,.val i64 sX.2)],vr:=[],aT:=[] }
noncomputable def S0 (rec:RT Out) (a1:Arg):((List a8)×Int)->Y:=fun sX=>rec (T0 a1 sX)
noncomputable def co (K:KT Out) (a1:Arg):(Unit)->Y:=fun z=>K (.exit 0) ({ n:=68,sl:=[],vr:=[],aT:=[] })
noncomputable def T1 (a1:Arg) (iq:List a8) (eo:Int) (mW:Int):St:={ n:=68,sl:=[(5,.own (.U ko) (am (.U ko)) [] iq),(6,.val i64 eo),(7,.val i64 mW)],vr:=[],aT:=[] }
noncomputable def b1 (self:Int->Y) (e2:(Unit)->Y) (a1:Arg) (iq:List a8) (eo:Int) (mW:Int):Y:=bif decide (mW < eo) then (if 0<=eo/\eo < (iq.length:Int) then ((iq[eo.toNat]?).bind fun GT=>if 0<=mW/\mW < (iq.length:Int) then ((iq[mW.toNat]?).bind fun Ad=>bif decide (GT.2.2.1.2.2.2.2.1.1=Ad.2.2.1.2.2.2.2.1.1) then (if 0<=eo/\eo < (iq.length:Int) then ((iq[eo.toNat]?).bind fun Aa=>if 0<=mW/\mW < (iq.length:Int) then ((iq[mW.toNat]?).bind fun Zg=>bif decide (Aa.2.2.1.2.2.2.2.1.2.1=Zg.2.2.1.2.2.2.2.1.2.1) then (some ((8:Int),())) else self (af (mW+(1:Int)))) else none) else none) else self (af (mW+(1:Int)))) else none) else none) else e2 ()
noncomputable def q0 (self:((List a8)×Int)->Y) (e0:(Unit)->Y) (a1:Arg) (iq:List a8) (eo:Int) (Vv:(Unit)):Y:=self (iq,af (eo+(1:Int)))
noncomputable def s1 (k:Nat) (rec:RT Out) (K:KT Out) (a1:Arg):(List a8)->Int->(Int)->Y:=fun iq eo=>fun mW=>D.L k [1,1,1,1,1,0,1,0,0,1,0,0,1,0,0] [5,6,7] [] (ag 2 (ag 1 (ay (D.N k [1,1,1,1,1,0,1,0,0,1,1]) (ic rec (ey [5,6] []) K)))) (T1 a1 iq eo mW)
noncomputable def r1 (k:Nat) (self:((List a8)×Int)->Y) (e0:(Unit)->Y) (a1:Arg):(List a8)->Int->(Int)->Y:=fun iq eo=>aq (fun w v=>b1 w (q0 self e0 a1 iq eo) a1 iq eo v) k
theorem lj (k:Nat) (rec:RT Out) (K:KT Out) (a1:Arg):s1 k rec K a1=r1 k (S0 rec a1) (co K a1) a1:=
 funext fun iq=>funext fun eo=>funext fun mW=>av _ _ _ (T1 a1 iq eo) _ (fun rec v=>by kernel_rfl) k mW
noncomputable def b0 (self:((List a8)×Int)->Y) (e0:(Unit)->Y) (l1:(List a8)->Int->(Int)->Y) (a1:Arg) (sX:(List a8)×Int):Y:=bif decide (sX.2 < (sX.1.length:Int)) then (l1 sX.1 sX.2 (0:Int)) else e0 ()
noncomputable def B0 (k:Nat) (self:((List a8)×Int)->Y) (e0:(Unit)->Y) (a1:Arg) (sX:(List a8)×Int):Y:=b0 self e0 (r1 k self e0 a1) a1 sX
theorem li (k:Nat) (rec:RT Out) (K:KT Out) (a1:Arg) (sX:(List a8)×Int):D.N k [1,1,1,1,1,0,1,0,0] (T0 a1 sX) (ic rec (ey [5,6] []) K)=B0 k (S0 rec a1) (co K a1) a1 sX:=
 aX (b:=b0 (S0 rec a1) (co K a1) (s1 k rec K a1) a1 sX) (by kernel_rfl) (by rw[lj];rfl)
noncomputable def q1 (a1:Arg) (yy:(Unit)):Y:=some ((0:Int),())
theorem sV (k:Nat) (a1:Arg) (yy:(Unit)):co (ag 0 (ay (D.N k [1,1,1,1,1,1]) D.K0)) a1 yy=q1 a1 yy:=by kernel_rfl
noncomputable def s0 (k:Nat) (a1:Arg):((List a8)×Int)->Y:=fun sX=>D.L k [1,1,1,1,1,0,1,0,0] [5,6] [] (ag 0 (ay (D.N k [1,1,1,1,1,1]) D.K0)) (T0 a1 sX)
noncomputable def r0 (k:Nat) (a1:Arg):((List a8)×Int)->Y:=aq (fun w v=>B0 k w (q1 a1) a1 v) k
theorem ax (k:Nat) (a1:Arg):s0 k a1=r0 k a1:=by
 funext sX;have h0:co (ag 0 (ay (D.N k [1,1,1,1,1,1]) D.K0)) a1=q1 a1:=funext fun z=>sV k a1 z;refine (av _ _ _ (T0 a1) (fun self v=>B0 k self (co (ag 0 (ay (D.N k [1,1,1,1,1,1]) D.K0)) a1) a1 v) (fun rec v=>li k rec (ag 0 (ay (D.N k [1,1,1,1,1,1]) D.K0)) a1 v) k sX).trans ?_;rw[h0];rfl
noncomputable def p (l0:((List a8)×Int)->Y) (a1:Arg):Y:=bif decide ((12:Int) < (a1.1.length:Int)) then (some ((2:Int),())) else (fq.aa (a1.1,())).bind fun r2=>bif !decide (r2.1=(0:Int)) then (some (r2.1,())) else (eh.aa (a1.1,())).bind fun r3=>(de.aa (r3.1,a1.1,())).bind fun r4=>bif !decide (r4.1=(0:Int)) then (some (r4.1,())) else (kR.aa (a1.1,())).bind fun r5=>l0 (r5.1,(0:Int))
theorem ae (k:Nat) (a1:Arg):@Eq Y (D.W k a1) (p (r0 k a1) a1):=
 aX (b:=p (s0 k a1) a1) (by kernel_rfl) (by rw[ax])
theorem ok:Ok prog 187 D.sig:=aw func187 a7 (by kernel_rfl) (fc fq.ok (fc de.ok (fc eh.ok (fc kR.ok (ak _)))))
end di
namespace l7
abbrev Arg:Type:=Change×Change×Unit
abbrev Out:Type:=Bool×Unit
noncomputable def D:FD:={ fn:=f361,tl:=be,ps:=[(.ro,(.ptr ap)),(.ro,(.ptr ap))],rs:=[(.bool,(az .bool))],gl:=[(321,mt.D.sig)] }
noncomputable def aa (a:Arg):Option Out:=@lift Out fun k=>D.W k a
noncomputable def p (a1:Arg):Option Out:=(mt.aa (a1.1,())).bind fun r2=>(mt.aa (a1.2.1,())).bind fun r3=>bif decide (r2.1 < r3.1) then (some (true,())) else bif decide (r2.1=r3.1) then (some (decide (r2.2.1 < r3.2.1),())) else some (false,())
theorem ae (k:Nat) (a1:Arg):@Eq (Option Out) (D.W k a1) (p a1):=by kernel_rfl
theorem ok:Ok prog 361 D.sig:=aw func361 a7 (by kernel_rfl) (fc mt.ok (ak _))
end l7
namespace f0
abbrev Arg:Type:=(List Change)×Unit
abbrev Out:Type:=Int×Unit
abbrev Y:=Option Out
noncomputable def D:FD:={ fn:=f261,tl:=be,ps:=[(.ro,(.U ap))],rs:=[(i64,(az i64))],gl:=[(360,kw.D.sig),(361,l7.D.sig)],lv:=[(4,[0,3])],lx:=[(0,[])],od:=[(9,[0,1,2,3,4,5,6,7,8,9,10,11,12])] }
noncomputable def aa (a:Arg):Y:=@lift Out fun k=>D.W k a
noncomputable def T0 (a1:Arg) (J:Int):St:={ n:=34,sl:=[(0,.val (.U ap) a1.1),(3,.val i64 J)],vr:=[],aT:=[] }
noncomputable def b0 (self:Int->Y) (e0:(Unit)->Y) (a1:Arg) (J:Int):Y:=bif decide (J < (a1.1.length:Int)) then (if 0<=J then ((a1.1[J.toNat]?).bind fun a_=>(kw.aa (a_,())).bind fun dn=>bif !decide (dn.1=(0:Int)) then (some (dn.1,())) else bif decide ((0:Int) < J) then (if 0<=af (J - (1:Int)) then ((a1.1[(af (J - (1:Int))).toNat]?).bind fun i_=>if 0<=J then ((a1.1[J.toNat]?).bind fun ry=>(l7.aa (i_,ry,())).bind fun lO=>bif !lO.1 then (some ((1:Int),())) else self (af (J+(1:Int)))) else none) else none) else self (af (J+(1:Int)))) else none) else e0 ()
noncomputable def q0 (a1:Arg) (pr:(Unit)):Y:=some ((0:Int),())
noncomputable def s0 (k:Nat) (a1:Arg):(Int)->Y:=fun J=>D.L k [1,1,0,1,0,0] [0,3] [] (ag 0 (ay (D.N k [1,1,1]) D.K0)) (T0 a1 J)
noncomputable def r0 (k:Nat) (a1:Arg):(Int)->Y:=aq (fun w v=>b0 w (q0 a1) a1 v) k
theorem ax (k:Nat) (a1:Arg):s0 k a1=r0 k a1:=
 funext fun J=>av _ _ _ (T0 a1) _ (fun rec v=>by kernel_rfl) k J
noncomputable def p (l0:(Int)->Y) (a1:Arg):Y:=bif decide ((60:Int) < (a1.1.length:Int)) then (some ((2:Int),())) else l0 (0:Int)
theorem ae (k:Nat) (a1:Arg):@Eq Y (D.W k a1) (p (r0 k a1) a1):=
 aX (b:=p (s0 k a1) a1) (by kernel_rfl) (by rw[ax])
theorem ok:Ok prog 261 D.sig:=aw func261 a7 (by kernel_rfl) (fc kw.ok (fc l7.ok (ak _)))
end f0
namespace jX
abbrev Arg:Type:=dw×Int×Unit
abbrev Out:Type:=Int×Unit
abbrev Y:=Option Out
noncomputable def D:FD:={ fn:=f262,tl:=be,ps:=[(.ro,(.ptr jf)),(.ro,i64)],rs:=[(i64,(az i64))],lv:=[(2,[0,1,5])],lx:=[(0,[])] }
noncomputable def aa (a:Arg):Y:=@lift Out fun k=>D.W k a
noncomputable def T0 (a1:Arg) (J:Int):St:={ n:=26,sl:=[(0,.cp jf a1.1),(1,.val i64 a1.2.1),(5,.val i64 J)],vr:=[],aT:=[] }
noncomputable def b0 (self:Int->Y) (e0:(Unit)->Y) (a1:Arg) (J:Int):Y:=bif decide (J < (a1.1.2.1.length:Int)) then (if 0<=J then ((a1.1.2.1[J.toNat]?).bind fun a_=>bif decide (a_.1=a1.2.1) then (some (J,())) else self (af (J+(1:Int)))) else none) else e0 ()
noncomputable def q0 (a1:Arg) (qq:(Unit)):Y:=some ((-1:Int),())
noncomputable def s0 (k:Nat) (a1:Arg):(Int)->Y:=fun J=>D.L k [1,0,1,0,0] [0,1,5] [] (ag 0 (ay (D.N k [1,1]) D.K0)) (T0 a1 J)
noncomputable def r0 (k:Nat) (a1:Arg):(Int)->Y:=aq (fun w v=>b0 w (q0 a1) a1 v) k
theorem ax (k:Nat) (a1:Arg):s0 k a1=r0 k a1:=
 funext fun J=>av _ _ _ (T0 a1) _ (fun rec v=>by kernel_rfl) k J
noncomputable def p (l0:(Int)->Y) (a1:Arg):Y:=l0 (0:Int)
theorem ae (k:Nat) (a1:Arg):@Eq Y (D.W k a1) (p (r0 k a1) a1):=
 aX (b:=p (s0 k a1) a1) (by kernel_rfl) (by rw[ax])
theorem ok:Ok prog 262 D.sig:=aw func262 a7 (by kernel_rfl) (ak _)
end jX
namespace lm
abbrev Arg:Type:=dw×Unit
abbrev Out:Type:=Int×Unit
abbrev Y:=Option Out
noncomputable def D:FD:={ fn:=f130,tl:=be,ps:=[(.ro,(.ptr jf))],rs:=[(i64,(az i64))],gl:=[(187,di.D.sig),(218,bj.D.sig),(261,f0.D.sig),(262,jX.D.sig)],lv:=[(7,[0,4])],lx:=[(0,[])] }
noncomputable def aa (a:Arg):Y:=@lift Out fun k=>D.W k a
noncomputable def T0 (a1:Arg) (bb:Int):St:={ n:=63,sl:=[(0,.cp jf a1.1),(4,.val i64 bb)],vr:=[],aT:=[] }
noncomputable def b0 (self:Int->Y) (e0:(Unit)->Y) (a1:Arg) (bb:Int):Y:=bif decide (bb < (a1.1.2.1.length:Int)) then (if 0<=bb then ((a1.1.2.1[bb.toNat]?).bind fun en=>(bj.aa (en.1,(1:Int),(99:Int),())).bind fun ja=>bif !ja.1 then (some ((3:Int),())) else if 0<=bb then ((a1.1.2.1[bb.toNat]?).bind fun ry=>(f0.aa (ry.2.1,())).bind fun lO=>bif !decide (lO.1=(0:Int)) then (some (lO.1,())) else if 0<=bb then ((a1.1.2.1[bb.toNat]?).bind fun Fx=>(jX.aa (a1.1,Fx.1,())).bind fun xX=>bif !decide (xX.1=bb) then (some ((6:Int),())) else self (af (bb+(1:Int)))) else none) else none) else none) else e0 ()
noncomputable def q0 (a1:Arg) (X4:(Unit)):Y:=some ((0:Int),())
noncomputable def s0 (k:Nat) (a1:Arg):(Int)->Y:=fun bb=>D.L k [1,1,1,0,1,0,0] [0,4] [] (ag 0 (ay (D.N k [1,1,1,1]) D.K0)) (T0 a1 bb)
noncomputable def r0 (k:Nat) (a1:Arg):(Int)->Y:=aq (fun w v=>b0 w (q0 a1) a1 v) k
theorem ax (k:Nat) (a1:Arg):s0 k a1=r0 k a1:=
 funext fun bb=>av _ _ _ (T0 a1) _ (fun rec v=>by kernel_rfl) k bb
noncomputable def p (l0:(Int)->Y) (a1:Arg):Y:=(di.aa (a1.1.1,())).bind fun r2=>bif !decide (r2.1=(0:Int)) then (some (r2.1,())) else bif decide ((8:Int) < (a1.1.2.1.length:Int)) then (some ((2:Int),())) else l0 (0:Int)
theorem ae (k:Nat) (a1:Arg):@Eq Y (D.W k a1) (p (r0 k a1) a1):=
 aX (b:=p (s0 k a1) a1) (by kernel_rfl) (by rw[ax])
theorem ok:Ok prog 130 D.sig:=aw func130 a7 (by kernel_rfl) (fc di.ok (fc bj.ok (fc f0.ok (fc jX.ok (ak _)))))
end lm
namespace kd
abbrev Arg:Type:=Int×Unit
abbrev Out:Type:=mO×Unit
noncomputable def D:FD:={ fn:=f131,tl:=be,ps:=[(.ro,i64)],rs:=[(lZ,(am lZ))] }
noncomputable def aa (a:Arg):Option Out:=@lift Out fun k=>D.W k a
noncomputable def p (a1:Arg):Option Out:=some ((a1.1,false,false,(0:Int),([]:List Change),(([]:List (List UInt8)),([]:List Buffer),()),()),())
theorem ae (k:Nat) (a1:Arg):@Eq (Option Out) (D.W k a1) (p a1):=by kernel_rfl
theorem ok:Ok prog 131 D.sig:=aw func131 a7 (by kernel_rfl) (ak _)
end kd
namespace nu
abbrev Arg:Type:=Int×Unit
abbrev Out:Type:=Bool×Unit
noncomputable def D:FD:={ fn:=f263,tl:=be,ps:=[(.ro,i64)],rs:=[(.bool,(az .bool))],gl:=[(218,bj.D.sig)] }
noncomputable def aa (a:Arg):Option Out:=@lift Out fun k=>D.W k a
noncomputable def p (a1:Arg):Option Out:=(bj.aa (a1.1,(2:Int),(4:Int),())).bind fun r2=>some (r2.1,())
theorem ae (k:Nat) (a1:Arg):@Eq (Option Out) (D.W k a1) (p a1):=by kernel_rfl
theorem ok:Ok prog 263 D.sig:=aw func263 a7 (by kernel_rfl) (fc bj.ok (ak _))
end nu
namespace j6
abbrev Arg:Type:=(List gi)×Unit
abbrev Out:Type:=Int×Unit
abbrev Y:=Option Out
noncomputable def D:FD:={ fn:=f264,tl:=be,ps:=[(.ro,(.U ww))],rs:=[(i64,(az i64))],gl:=[(218,bj.D.sig)],lv:=[(4,[0,3])],lx:=[(0,[])],od:=[(9,[0,1,2,3,4,5,6,7,8,9,10,11,12,13,14,15,16,17,18,19,20,21,22,23])] }
noncomputable def aa (a:Arg):Y:=@lift Out fun k=>D.W k a
noncomputable def T0 (a1:Arg) (J:Int):St:={ n:=66,sl:=[(0,.val (.U ww) a1.1),(3,.val i64 J)],vr:=[],aT:=[] }
noncomputable def b0 (self:Int->Y) (e0:(Unit)->Y) (a1:Arg) (J:Int):Y:=bif decide (J < (a1.1.length:Int)) then (if 0<=J then ((a1.1[J.toNat]?).bind fun a_=>if 0<=J then ((a1.1[J.toNat]?).bind fun en=>(bj.aa (en.1,(0:Int),(63:Int),())).bind fun ja=>bif !ja.1 then (some ((3:Int),())) else (bj.aa ((a_.2.1.length:Int),(1:Int),(64:Int),())).bind fun rx=>bif !rx.1 then (some ((3:Int),())) else if 0<=J then ((a1.1[J.toNat]?).bind fun BQ=>bif decide ((64:Int) < af (BQ.1+(a_.2.1.length:Int))) then (some ((3:Int),())) else bif decide ((0:Int) < J) then (if 0<=J then ((a1.1[J.toNat]?).bind fun Fx=>if 0<=af (J - (1:Int)) then ((a1.1[(af (J - (1:Int))).toNat]?).bind fun aaI=>if 0<=af (J - (1:Int)) then ((a1.1[(af (J - (1:Int))).toNat]?).bind fun aaJ=>bif decide (Fx.1<=af (aaI.1+(aaJ.2.1.length:Int))) then (some ((1:Int),())) else self (af (J+(1:Int)))) else none) else none) else none) else self (af (J+(1:Int)))) else none) else none) else none) else e0 ()
noncomputable def q0 (a1:Arg) (TN:(Unit)):Y:=some ((0:Int),())
noncomputable def s0 (k:Nat) (a1:Arg):(Int)->Y:=fun J=>D.L k [1,1,0,1,0,0] [0,3] [] (ag 0 (ay (D.N k [1,1,1]) D.K0)) (T0 a1 J)
noncomputable def r0 (k:Nat) (a1:Arg):(Int)->Y:=aq (fun w v=>b0 w (q0 a1) a1 v) k
theorem ax (k:Nat) (a1:Arg):s0 k a1=r0 k a1:=
 funext fun J=>av _ _ _ (T0 a1) _ (fun rec v=>by kernel_rfl) k J
noncomputable def p (l0:(Int)->Y) (a1:Arg):Y:=bif decide ((64:Int) < (a1.1.length:Int)) then (some ((2:Int),())) else l0 (0:Int)
theorem ae (k:Nat) (a1:Arg):@Eq Y (D.W k a1) (p (r0 k a1) a1):=
 aX (b:=p (s0 k a1) a1) (by kernel_rfl) (by rw[ax])
theorem ok:Ok prog 264 D.sig:=aw func264 a7 (by kernel_rfl) (fc bj.ok (ak _))
end j6
namespace no
abbrev Arg:Type:=bf×Unit
abbrev Out:Type:=Int×Unit
abbrev Y:=Option Out
noncomputable def D:FD:={ fn:=f132,tl:=be,ps:=[(.ro,(.ptr d_))],rs:=[(i64,(az i64))],gl:=[(218,bj.D.sig),(263,nu.D.sig),(264,j6.D.sig)] }
noncomputable def aa (a:Arg):Y:=@lift Out fun k=>D.W k a
noncomputable def p (a1:Arg):Y:=let Vw:Y:=let j20:Y:=(nu.aa (a1.1.1,())).bind fun r21=>bif !r21.1 then (some ((0:Int),())) else (j6.aa (a1.1.2.2.2.1,())).bind fun r22=>bif !decide (r22.1=(0:Int)) then (some (r22.1,())) else bif decide ((a1.1.2.2.2.1.length:Int)=(0:Int)) then (some ((1:Int),())) else bif decide (a1.1.1=(4:Int)) then ((a1.1.2.2.2.1[0]?).bind fun Lf=>bif !decide ((Lf.2.1.length:Int)=(64:Int)) then (some ((1:Int),())) else some ((0:Int),())) else some ((0:Int),());bif !decide (a1.1.1=(4:Int)) then ((bj.aa (a1.1.2.1,(1:Int),(99:Int),())).bind fun r14=>bif !r14.1 then (some ((3:Int),())) else (bj.aa (a1.1.2.2.1,(0:Int),(11:Int),())).bind fun X5=>bif !X5.1 then (some ((3:Int),())) else j20) else (bj.aa (a1.1.2.2.1,(0:Int),(11:Int),())).bind fun RY=>bif !RY.1 then (some ((3:Int),())) else j20;(bj.aa (a1.1.1,(1:Int),(6:Int),())).bind fun r2=>bif !r2.1 then (some ((1:Int),())) else (nu.aa (a1.1.1,())).bind fun r3=>bif !r3.1 then (bif !decide (a1.1.2.2.1=(0:Int)) then (some ((1:Int),())) else bif decide ((0:Int) < (a1.1.2.2.2.1.length:Int)) then (some ((1:Int),())) else bif decide (a1.1.1=(4:Int)) then (bif !decide (a1.1.2.1=(0:Int)) then (some ((1:Int),())) else Vw) else Vw) else bif decide (a1.1.1=(4:Int)) then (bif !decide (a1.1.2.1=(0:Int)) then (some ((1:Int),())) else Vw) else Vw
theorem ae (k:Nat) (a1:Arg):@Eq Y (D.W k a1) (p a1):=by kernel_rfl
theorem ok:Ok prog 132 D.sig:=aw func132 a7 (by kernel_rfl) (fc bj.ok (fc nu.ok (fc j6.ok (ak _))))
end no
namespace kY
abbrev Arg:Type:=(List Buffer)×Unit
abbrev Out:Type:=(List Buffer)×Unit
abbrev Y:=Option Out
noncomputable def D:FD:={ fn:=f152,tl:=be,ps:=[(.ro,(.U et))],rs:=[((.U et),(am (.U et)))],lv:=[(3,[0,3,4])],lx:=[(0,[3])],od:=[(5,[0,1,2,3,4,5,7,8,9,10,11,6,12,13,14,15,16])],ar:=[(5,[5,11])] }
noncomputable def aa (a:Arg):Y:=@lift Out fun k=>D.W k a
noncomputable def T0 (a1:Arg) (J:(List Buffer)×Int):St:={ n:=29,sl:=[(0,.val (.U et) a1.1),(3,.own (.U et) (am (.U et)) [] J.1),(4,.val i64 J.2)],vr:=[],aT:=[] }
noncomputable def b0 (self:((List Buffer)×Int)->Y) (e0:(List Buffer)->Y) (a1:Arg) (J:(List Buffer)×Int):Y:=bif decide (J.2 < (a1.1.length:Int)) then (if 0<=J.2 then ((a1.1[J.2.toNat]?).bind fun a_=>if 0<=J.2 then ((a1.1[J.2.toNat]?).bind fun en=>if ([]:List Change).length+en.2.1.length<=bz then (if J.1.length+[(a_.1,([]:List Change)++en.2.1,())].length<=bz then (let TP:=J.1++[(a_.1,([]:List Change)++en.2.1,())];self (TP,af (J.2+(1:Int)))) else none) else none) else none) else none) else e0 J.1
noncomputable def q0 (a1:Arg) (lA:(List Buffer)):Y:=some (lA,())
noncomputable def s0 (k:Nat) (a1:Arg):((List Buffer)×Int)->Y:=fun J=>D.L k [1,1,0,1,0,0] [0,3,4] [] (ag 0 (ay (D.N k [1,1,1]) D.K0)) (T0 a1 J)
noncomputable def r0 (k:Nat) (a1:Arg):((List Buffer)×Int)->Y:=aq (fun w v=>b0 w (q0 a1) a1 v) k
theorem ax (k:Nat) (a1:Arg):s0 k a1=r0 k a1:=
 funext fun J=>av _ _ _ (T0 a1) _ (fun rec v=>by kernel_rfl) k J
noncomputable def p (l0:((List Buffer)×Int)->Y) (a1:Arg):Y:=l0 (([]:List Buffer),(0:Int))
theorem ae (k:Nat) (a1:Arg):@Eq Y (D.W k a1) (p (r0 k a1) a1):=
 aX (b:=p (s0 k a1) a1) (by kernel_rfl) (by rw[ax])
theorem ok:Ok prog 152 D.sig:=aw func152 a7 (by kernel_rfl) (ak _)
end kY
namespace gj
abbrev Arg:Type:=(List UInt8)×Unit
abbrev Out:Type:=(List UInt8)×Unit
noncomputable def D:FD:={ fn:=f171,tl:=be,ps:=[(.ro,(.U u8))],rs:=[((.U u8),(am (.U u8)))] }
noncomputable def aa (a:Arg):Option Out:=@lift Out fun k=>D.W k a
noncomputable def p (a1:Arg):Option Out:=if ([]:List UInt8).length+a1.1.length<=bz then (some (([]:List UInt8)++a1.1,())) else none
theorem ae (k:Nat) (a1:Arg):@Eq (Option Out) (D.W k a1) (p a1):=by kernel_rfl
theorem ok:Ok prog 171 D.sig:=aw func171 a7 (by kernel_rfl) (ak _)
end gj
namespace lF
abbrev Arg:Type:=(List (List UInt8))×Unit
abbrev Out:Type:=(List (List UInt8))×Unit
abbrev Y:=Option Out
noncomputable def D:FD:={ fn:=f217,tl:=be,ps:=[(.ro,(.U (.U u8)))],rs:=[((.U (.U u8)),(am (.U (.U u8))))],gl:=[(171,gj.D.sig)],lv:=[(3,[0,3,4])],lx:=[(0,[3])] }
noncomputable def aa (a:Arg):Y:=@lift Out fun k=>D.W k a
noncomputable def T0 (a1:Arg) (J:(List (List UInt8))×Int):St:={ n:=21,sl:=[(0,.val (.U (.U u8)) a1.1),(3,.own (.U (.U u8)) (am (.U (.U u8))) [] J.1),(4,.val i64 J.2)],vr:=[],aT:=[] }
noncomputable def b0 (self:((List (List UInt8))×Int)->Y) (e0:(List (List UInt8))->Y) (a1:Arg) (J:(List (List UInt8))×Int):Y:=bif decide (J.2 < (a1.1.length:Int)) then (if 0<=J.2 then ((a1.1[J.2.toNat]?).bind fun a_=>(gj.aa (a_,())).bind fun dn=>if J.1.length+[dn.1].length<=bz then (self (J.1++[dn.1],af (J.2+(1:Int)))) else none) else none) else e0 J.1
noncomputable def q0 (a1:Arg) (dz:(List (List UInt8))):Y:=some (dz,())
noncomputable def s0 (k:Nat) (a1:Arg):((List (List UInt8))×Int)->Y:=fun J=>D.L k [1,1,0,1,0,0] [0,3,4] [] (ag 0 (ay (D.N k [1,1,1]) D.K0)) (T0 a1 J)
noncomputable def r0 (k:Nat) (a1:Arg):((List (List UInt8))×Int)->Y:=aq (fun w v=>b0 w (q0 a1) a1 v) k
theorem ax (k:Nat) (a1:Arg):s0 k a1=r0 k a1:=
 funext fun J=>av _ _ _ (T0 a1) _ (fun rec v=>by kernel_rfl) k J
noncomputable def p (l0:((List (List UInt8))×Int)->Y) (a1:Arg):Y:=l0 (([]:List (List UInt8)),(0:Int))
theorem ae (k:Nat) (a1:Arg):@Eq Y (D.W k a1) (p (r0 k a1) a1):=
 aX (b:=p (s0 k a1) a1) (by kernel_rfl) (by rw[ax])
theorem ok:Ok prog 217 D.sig:=aw func217 a7 (by kernel_rfl) (fc gj.ok (ak _))
end lF
namespace f5
abbrev Arg:Type:=dw×Unit
abbrev Out:Type:=dw×Unit
noncomputable def D:FD:={ fn:=f266,tl:=be,ps:=[(.ro,jf)],rs:=[(jf,(am jf))],gl:=[(152,kY.D.sig),(217,lF.D.sig)],od:=[(1,[0,1,3,4,2,5,6,7])] }
noncomputable def aa (a:Arg):Option Out:=@lift Out fun k=>D.W k a
noncomputable def p (a1:Arg):Option Out:=(lF.aa (a1.1.1,())).bind fun r2=>(kY.aa (a1.1.2.1,())).bind fun r3=>some ((r2.1,r3.1,()),())
theorem ae (k:Nat) (a1:Arg):@Eq (Option Out) (D.W k a1) (p a1):=by kernel_rfl
theorem ok:Ok prog 266 D.sig:=aw func266 a7 (by kernel_rfl) (fc kY.ok (fc lF.ok (ak _)))
end f5
end OT
