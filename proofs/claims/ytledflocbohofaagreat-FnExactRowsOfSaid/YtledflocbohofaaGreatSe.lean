/- The proof's parts, merged: Printed by gen.py, a program of this claim  what each Go function computes.. No conditions but those that each states. -/
import Derived.Test.YtledflocbohofaaGreatSd
import Derived.Test.YtledflocbohofaaGreatProg
import Derived.KernelRfl
set_option maxRecDepth 100000
set_option linter.unusedVariables false
namespace OT
open Go Go.Proofs.Tryz
abbrev Log:Type:=((List UInt8)×(List UInt8)×Unit)
abbrev dP:Ty:=(bz [(.U u8),(.U u8)])
abbrev Row:Type:=(Int×Int×Int×(List UInt8)×Unit)
abbrev aA:Ty:=(bz [i64,i64,i64,.str])
abbrev Change:Type:=(Bool×Row×Bool×Row×Unit)
abbrev ap:Ty:=(bz [.bool,aA,.bool,aA])
abbrev Key:Type:=(Int×Int×Unit)
abbrev aE:Ty:=(bz [i64,i64])
abbrev Tx:Type:=(Int×(List Change)×(List Int)×(List Key)×Unit)
abbrev aY:Ty:=(bz [i64,(.U ap),(.U i64),(.U aE)])
abbrev eP:Type:=(Bool×(List (List UInt8))×Log×(List Tx)×Int×Unit)
abbrev cM:Ty:=(bz [.bool,(.U (.U u8)),dP,(.U aY),i64])
abbrev Plain:Type:=((List Row)×(List Tx)×Int×Unit)
abbrev sM:Ty:=(bz [(.U aA),(.U aY),i64])
abbrev kP:Type:=(Int×Int×Int×Int×Row×Unit)
abbrev j6:Ty:=(bz [i64,i64,i64,i64,aA])
abbrev aw:Type:=(Int×Int×kP×Unit)
abbrev dQ:Ty:=(bz [i64,i64,j6])
abbrev cE:Type:=(Int×(List UInt8)×Unit)
abbrev pq:Ty:=(bz [i64,(.U u8)])
abbrev aM:Type:=(Int×Int×Int×(List cE)×Unit)
abbrev bO:Ty:=(bz [i64,i64,i64,(.U pq)])
abbrev CH:Type:=(Int×Int×aM×Unit)
abbrev qb:Ty:=(bz [i64,i64,bO])
abbrev st:Type:=(Int×(List cE)×(List (List UInt8))×Unit)
abbrev ku:Ty:=(bz [i64,(.U pq),(.U (.U u8))])
abbrev Seen:Type:=(Row×Int×Int×Bool×Int×Int×Unit)
abbrev cP:Ty:=(bz [aA,i64,i64,.bool,i64,i64])
abbrev fC:Type:=(Int×(List Row)×Unit)
abbrev cA:Ty:=(bz [i64,(.U aA)])
abbrev OG:Type:=(Int×Int×eP×Unit)
abbrev NY:Ty:=(bz [i64,i64,cM])
abbrev Qj:Type:=(Int×Log×Unit)
abbrev O2:Ty:=(bz [i64,dP])
abbrev Buffer:Type:=(Int×(List Change)×Unit)
abbrev Mv:Ty:=(bz [i64,(.U ap)])
abbrev Gm:Type:=((List (List UInt8))×(List Buffer)×Unit)
abbrev CI:Ty:=(bz [(.U (.U u8)),(.U Mv)])
abbrev Ai:Type:=(Gm×Int×Gm×Int×Unit)
abbrev yt:Ty:=(bz [CI,i64,CI,i64])
abbrev NZ:Type:=(Int×Int×(List Change)×Unit)
abbrev LC:Ty:=(bz [i64,i64,(.U ap)])
abbrev LD:Type:=(Int×Bool×NZ×Ai×Unit)
abbrev J0:Ty:=(bz [i64,.bool,LC,yt])
abbrev OH:Type:=(Int×Bool×Bool×Int×(List Change)×Gm×Unit)
abbrev N0:Ty:=(bz [i64,.bool,.bool,i64,(.U ap),CI])
abbrev O3:Type:=(Int×(List NZ)×Ai×Unit)
abbrev OI:Ty:=(bz [i64,(.U LC),yt])
noncomputable def aL:TL:=[(23,(.U u8)),(2,i64),(129,aA),(22,(.U (.U u8))),(43,(.U aA)),(5,u8),(4,.bool),(124,aY),(32,(.U aY)),(199,aE),(209,ap),(3,i64),(67,(.U ap)),(9,.str),(122,(.U aE)),(31,dP),(190,bO),(188,(.U pq)),(179,j6),(121,(.U i64)),(272,pq),(34,cM),(50,cA),(111,(.U bO)),(201,(.U dQ)),(205,dQ),(25,dP),(26,(.U aY)),(45,sM),(163,(.U ap)),(164,(.U aE)),(166,aY),(196,aA),(313,ap),(28,cM),(104,(.U cP)),(184,(.map aE .bool)),(187,cP),(250,ku),(222,qb),(319,aE),(257,(.arr 64 .bool)),(258,(.int .u64)),(260,(.map (.arr 2 i64) aA)),(261,(.arr 2 i64)),(263,(.map (.arr 2 i64) .bool))]
theorem aB:(Gh prog aL&&Bb prog aL)=true:=by kernel_rfl
namespace fJ
abbrev Arg:Type:=(List UInt8)×Int×Unit
abbrev Out:Type:=Int×Unit
abbrev ps:PQ:=[(.ro,(.U u8)),(.ro,i64)]
noncomputable def D:FD:={ fn:=f115,tl:=aL,ps:=ps,rs:=[(i64,(ax i64))] }
noncomputable def ab (a:Arg):Option Out:=@lift Out fun k=>D.W k a
noncomputable def p (a1:Arg):Option Out:=bif decide (ae (a1.2.1 - (a1.1.length:Int)) < (0:Int)) then (some ((-1:Int),())) else some (ae (a1.2.1 - (a1.1.length:Int)),())
theorem aa (k:Nat) (a1:Arg):@Eq (Option Out) (D.W k a1) (p a1):=by kernel_rfl
theorem ok:Ok prog 115 D.sig:=aq func115 aB (by kernel_rfl) (al _)
end fJ
namespace cN
abbrev Arg:Type:=(List (List UInt8))×Int×Unit
abbrev Out:Type:=Int×Unit
abbrev ps:PQ:=[(.ro,(.U (.U u8))),(.ro,i64)]
noncomputable def D:FD:={ fn:=f53,tl:=aL,ps:=ps,rs:=[(i64,(ax i64))],gl:=[(115,fJ.D.sig)],lv:=[(5,[0,1,5])],lx:=[(0,[1])] }
noncomputable def ab (a:Arg):Option Out:=@lift Out fun k=>D.W k a
noncomputable def T0 (a1:Arg) (J:Int×Int):St:={ n:=27,sl:=[(0,.val (.U (.U u8)) a1.1),(1,.val i64 J.1),(5,.val i64 J.2)],vr:=[],av:=[] }
noncomputable def b0 (self:(Int×Int)->Option Out) (e0:Int->Option Out) (a1:Arg) (J:Int×Int):Option Out:=bif decide (J.2 < (a1.1.length:Int)) then (if 0<=J.2 then ((a1.1[J.2.toNat]?).bind fun aC=>(fJ.ab (aC,J.1,())).bind fun cb=>bif decide (cb.1 < (0:Int)) then (some ((-1:Int),())) else self (cb.1,ae (J.2+(1:Int)))) else none) else e0 J.1
noncomputable abbrev B0 (_:Nat):=b0
noncomputable def q0 (a1:Arg) (bQ:Int):Option Out:=some (bQ,())
noncomputable abbrev Q0 (_:Nat):=q0
noncomputable def s0 (k:Nat) (a1:Arg):(Int×Int)->Option Out:=fun J=>D.L k [1,1,1,0,1,0,0] [0,1,5] [] (af 0 (ao (D.N k [1,1,1,1]) D.K0)) (T0 a1 J)
noncomputable def r0 (k:Nat) (a1:Arg):(Int×Int)->Option Out:=ak (fun w v=>B0 k w (Q0 k a1) a1 v) k
theorem au (k:Nat) (a1:Arg):s0 k a1=r0 k a1:=
 funext fun J=>an _ _ _ (T0 a1) _ (fun rec v=>by kernel_rfl) k J
noncomputable def p (l0:(Int×Int)->Option Out) (a1:Arg):Option Out:=bif decide (ae (a1.2.1 - (a1.1.length:Int)) < (0:Int)) then (some ((-1:Int),())) else l0 (ae (a1.2.1 - (a1.1.length:Int)),(0:Int))
theorem aa (k:Nat) (a1:Arg):@Eq (Option Out) (D.W k a1) (p (r0 k a1) a1):=
 Eq.trans (b:=p (s0 k a1) a1) (by kernel_rfl) (by rw[au])
theorem ok:Ok prog 53 D.sig:=aq func53 aB (by kernel_rfl) (fc fJ.ok (al _))
end cN
namespace kQ
abbrev Arg:Type:=Log×Int×Unit
abbrev Out:Type:=Int×Unit
abbrev ps:PQ:=[(.ro,dP),(.ro,i64)]
noncomputable def D:FD:={ fn:=f54,tl:=aL,ps:=ps,rs:=[(i64,(ax i64))],gl:=[(115,fJ.D.sig)] }
noncomputable def ab (a:Arg):Option Out:=@lift Out fun k=>D.W k a
noncomputable def p (a1:Arg):Option Out:=(fJ.ab (a1.1.1,a1.2.1,())).bind fun r2=>bif decide (r2.1 < (0:Int)) then (some ((-1:Int),())) else (fJ.ab (a1.1.2.1,r2.1,())).bind fun r3=>bif decide (r3.1 < (0:Int)) then (some ((-1:Int),())) else some (r3.1,())
theorem aa (k:Nat) (a1:Arg):@Eq (Option Out) (D.W k a1) (p a1):=by kernel_rfl
theorem ok:Ok prog 54 D.sig:=aq func54 aB (by kernel_rfl) (fc fJ.ok (al _))
end kQ
namespace jR
abbrev Arg:Type:=Row×Int×Unit
abbrev Out:Type:=Int×Unit
abbrev ps:PQ:=[(.ro,aA),(.ro,i64)]
noncomputable def D:FD:={ fn:=f140,tl:=aL,ps:=ps,rs:=[(i64,(ax i64))] }
noncomputable def ab (a:Arg):Option Out:=@lift Out fun k=>D.W k a
noncomputable def p (a1:Arg):Option Out:=bif decide (ae (a1.2.1 - (a1.1.2.2.2.1.length:Int)) < (0:Int)) then (some ((-1:Int),())) else some (ae (a1.2.1 - (a1.1.2.2.2.1.length:Int)),())
theorem aa (k:Nat) (a1:Arg):@Eq (Option Out) (D.W k a1) (p a1):=by kernel_rfl
theorem ok:Ok prog 140 D.sig:=aq func140 aB (by kernel_rfl) (al _)
end jR
namespace iF
abbrev Arg:Type:=Change×Int×Unit
abbrev Out:Type:=Int×Unit
abbrev ps:PQ:=[(.ro,ap),(.ro,i64)]
noncomputable def D:FD:={ fn:=f253,tl:=aL,ps:=ps,rs:=[(i64,(ax i64))],gl:=[(140,jR.D.sig)] }
noncomputable def ab (a:Arg):Option Out:=@lift Out fun k=>D.W k a
noncomputable def p (a1:Arg):Option Out:=(jR.ab (a1.1.2.1,a1.2.1,())).bind fun r2=>bif decide (r2.1 < (0:Int)) then (some ((-1:Int),())) else (jR.ab (a1.1.2.2.2.1,r2.1,())).bind fun r3=>bif decide (r3.1 < (0:Int)) then (some ((-1:Int),())) else some (r3.1,())
theorem aa (k:Nat) (a1:Arg):@Eq (Option Out) (D.W k a1) (p a1):=by kernel_rfl
theorem ok:Ok prog 253 D.sig:=aq func253 aB (by kernel_rfl) (fc jR.ok (al _))
end iF
namespace co
abbrev Arg:Type:=(List Change)×Int×Unit
abbrev Out:Type:=Int×Unit
abbrev ps:PQ:=[(.ro,(.U ap)),(.ro,i64)]
noncomputable def D:FD:={ fn:=f186,tl:=aL,ps:=ps,rs:=[(i64,(ax i64))],gl:=[(253,iF.D.sig)],lv:=[(5,[0,1,5])],lx:=[(0,[1])] }
noncomputable def ab (a:Arg):Option Out:=@lift Out fun k=>D.W k a
noncomputable def T0 (a1:Arg) (J:Int×Int):St:={ n:=27,sl:=[(0,.val (.U ap) a1.1),(1,.val i64 J.1),(5,.val i64 J.2)],vr:=[],av:=[] }
noncomputable def b0 (self:(Int×Int)->Option Out) (e0:Int->Option Out) (a1:Arg) (J:Int×Int):Option Out:=bif decide (J.2 < (a1.1.length:Int)) then (if 0<=J.2 then ((a1.1[J.2.toNat]?).bind fun aC=>(iF.ab (aC,J.1,())).bind fun cb=>bif decide (cb.1 < (0:Int)) then (some ((-1:Int),())) else self (cb.1,ae (J.2+(1:Int)))) else none) else e0 J.1
noncomputable abbrev B0 (_:Nat):=b0
noncomputable def q0 (a1:Arg) (bQ:Int):Option Out:=some (bQ,())
noncomputable abbrev Q0 (_:Nat):=q0
noncomputable def s0 (k:Nat) (a1:Arg):(Int×Int)->Option Out:=fun J=>D.L k [1,1,1,0,1,0,0] [0,1,5] [] (af 0 (ao (D.N k [1,1,1,1]) D.K0)) (T0 a1 J)
noncomputable def r0 (k:Nat) (a1:Arg):(Int×Int)->Option Out:=ak (fun w v=>B0 k w (Q0 k a1) a1 v) k
theorem au (k:Nat) (a1:Arg):s0 k a1=r0 k a1:=
 funext fun J=>an _ _ _ (T0 a1) _ (fun rec v=>by kernel_rfl) k J
noncomputable def p (l0:(Int×Int)->Option Out) (a1:Arg):Option Out:=bif decide (ae (a1.2.1 - (a1.1.length:Int)) < (0:Int)) then (some ((-1:Int),())) else l0 (ae (a1.2.1 - (a1.1.length:Int)),(0:Int))
theorem aa (k:Nat) (a1:Arg):@Eq (Option Out) (D.W k a1) (p (r0 k a1) a1):=
 Eq.trans (b:=p (s0 k a1) a1) (by kernel_rfl) (by rw[au])
theorem ok:Ok prog 186 D.sig:=aq func186 aB (by kernel_rfl) (fc iF.ok (al _))
end co
namespace iG
abbrev Arg:Type:=(List Int)×Int×Unit
abbrev Out:Type:=Int×Unit
abbrev ps:PQ:=[(.ro,(.U i64)),(.ro,i64)]
noncomputable def D:FD:={ fn:=f187,tl:=aL,ps:=ps,rs:=[(i64,(ax i64))] }
noncomputable def ab (a:Arg):Option Out:=@lift Out fun k=>D.W k a
noncomputable def p (a1:Arg):Option Out:=bif decide (ae (a1.2.1 - (a1.1.length:Int)) < (0:Int)) then (some ((-1:Int),())) else some (ae (a1.2.1 - (a1.1.length:Int)),())
theorem aa (k:Nat) (a1:Arg):@Eq (Option Out) (D.W k a1) (p a1):=by kernel_rfl
theorem ok:Ok prog 187 D.sig:=aq func187 aB (by kernel_rfl) (al _)
end iG
namespace j9
abbrev Arg:Type:=(List Key)×Int×Unit
abbrev Out:Type:=Int×Unit
abbrev ps:PQ:=[(.ro,(.U aE)),(.ro,i64)]
noncomputable def D:FD:={ fn:=f188,tl:=aL,ps:=ps,rs:=[(i64,(ax i64))] }
noncomputable def ab (a:Arg):Option Out:=@lift Out fun k=>D.W k a
noncomputable def p (a1:Arg):Option Out:=bif decide (ae (a1.2.1 - (a1.1.length:Int)) < (0:Int)) then (some ((-1:Int),())) else some (ae (a1.2.1 - (a1.1.length:Int)),())
theorem aa (k:Nat) (a1:Arg):@Eq (Option Out) (D.W k a1) (p a1):=by kernel_rfl
theorem ok:Ok prog 188 D.sig:=aq func188 aB (by kernel_rfl) (al _)
end j9
namespace lN
abbrev Arg:Type:=Tx×Int×Unit
abbrev Out:Type:=Int×Unit
abbrev ps:PQ:=[(.ro,aY),(.ro,i64)]
noncomputable def D:FD:={ fn:=f116,tl:=aL,ps:=ps,rs:=[(i64,(ax i64))],gl:=[(186,co.D.sig),(187,iG.D.sig),(188,j9.D.sig)] }
noncomputable def ab (a:Arg):Option Out:=@lift Out fun k=>D.W k a
noncomputable def p (a1:Arg):Option Out:=(co.ab (a1.1.2.1,a1.2.1,())).bind fun r2=>bif decide (r2.1 < (0:Int)) then (some ((-1:Int),())) else (iG.ab (a1.1.2.2.1,r2.1,())).bind fun r3=>bif decide (r3.1 < (0:Int)) then (some ((-1:Int),())) else (j9.ab (a1.1.2.2.2.1,r3.1,())).bind fun r4=>bif decide (r4.1 < (0:Int)) then (some ((-1:Int),())) else some (r4.1,())
theorem aa (k:Nat) (a1:Arg):@Eq (Option Out) (D.W k a1) (p a1):=by kernel_rfl
theorem ok:Ok prog 116 D.sig:=aq func116 aB (by kernel_rfl) (fc co.ok (fc iG.ok (fc j9.ok (al _))))
end lN
namespace eA
abbrev Arg:Type:=(List Tx)×Int×Unit
abbrev Out:Type:=Int×Unit
abbrev ps:PQ:=[(.ro,(.U aY)),(.ro,i64)]
noncomputable def D:FD:={ fn:=f55,tl:=aL,ps:=ps,rs:=[(i64,(ax i64))],gl:=[(116,lN.D.sig)],lv:=[(5,[0,1,5])],lx:=[(0,[1])] }
noncomputable def ab (a:Arg):Option Out:=@lift Out fun k=>D.W k a
noncomputable def T0 (a1:Arg) (J:Int×Int):St:={ n:=27,sl:=[(0,.val (.U aY) a1.1),(1,.val i64 J.1),(5,.val i64 J.2)],vr:=[],av:=[] }
noncomputable def b0 (self:(Int×Int)->Option Out) (e0:Int->Option Out) (a1:Arg) (J:Int×Int):Option Out:=bif decide (J.2 < (a1.1.length:Int)) then (if 0<=J.2 then ((a1.1[J.2.toNat]?).bind fun aC=>(lN.ab (aC,J.1,())).bind fun cb=>bif decide (cb.1 < (0:Int)) then (some ((-1:Int),())) else self (cb.1,ae (J.2+(1:Int)))) else none) else e0 J.1
noncomputable abbrev B0 (_:Nat):=b0
noncomputable def q0 (a1:Arg) (bQ:Int):Option Out:=some (bQ,())
noncomputable abbrev Q0 (_:Nat):=q0
noncomputable def s0 (k:Nat) (a1:Arg):(Int×Int)->Option Out:=fun J=>D.L k [1,1,1,0,1,0,0] [0,1,5] [] (af 0 (ao (D.N k [1,1,1,1]) D.K0)) (T0 a1 J)
noncomputable def r0 (k:Nat) (a1:Arg):(Int×Int)->Option Out:=ak (fun w v=>B0 k w (Q0 k a1) a1 v) k
theorem au (k:Nat) (a1:Arg):s0 k a1=r0 k a1:=
 funext fun J=>an _ _ _ (T0 a1) _ (fun rec v=>by kernel_rfl) k J
noncomputable def p (l0:(Int×Int)->Option Out) (a1:Arg):Option Out:=bif decide (ae (a1.2.1 - (a1.1.length:Int)) < (0:Int)) then (some ((-1:Int),())) else l0 (ae (a1.2.1 - (a1.1.length:Int)),(0:Int))
theorem aa (k:Nat) (a1:Arg):@Eq (Option Out) (D.W k a1) (p (r0 k a1) a1):=
 Eq.trans (b:=p (s0 k a1) a1) (by kernel_rfl) (by rw[au])
theorem ok:Ok prog 55 D.sig:=aq func55 aB (by kernel_rfl) (fc lN.ok (al _))
end eA
namespace jp
abbrev Arg:Type:=eP×Int×Unit
abbrev Out:Type:=Int×Unit
abbrev ps:PQ:=[(.ro,cM),(.ro,i64)]
noncomputable def D:FD:={ fn:=f11,tl:=aL,ps:=ps,rs:=[(i64,(ax i64))],gl:=[(53,cN.D.sig),(54,kQ.D.sig),(55,eA.D.sig)] }
noncomputable def ab (a:Arg):Option Out:=@lift Out fun k=>D.W k a
noncomputable def p (a1:Arg):Option Out:=(cN.ab (a1.1.2.1,a1.2.1,())).bind fun r2=>bif decide (r2.1 < (0:Int)) then (some ((-1:Int),())) else (kQ.ab (a1.1.2.2.1,r2.1,())).bind fun r3=>bif decide (r3.1 < (0:Int)) then (some ((-1:Int),())) else (eA.ab (a1.1.2.2.2.1,r3.1,())).bind fun r4=>bif decide (r4.1 < (0:Int)) then (some ((-1:Int),())) else some (r4.1,())
theorem aa (k:Nat) (a1:Arg):@Eq (Option Out) (D.W k a1) (p a1):=by kernel_rfl
theorem ok:Ok prog 11 D.sig:=aq func11 aB (by kernel_rfl) (fc cN.ok (fc kQ.ok (fc eA.ok (al _))))
end jp
namespace fK
abbrev Arg:Type:=Row×Row×Unit
abbrev Out:Type:=Bool×Unit
abbrev ps:PQ:=[(.ro,(.ptr aA)),(.ro,(.ptr aA))]
noncomputable def D:FD:={ fn:=f214,tl:=aL,ps:=ps,rs:=[(.bool,(ax .bool))],od:=[(1,[0,1,2,3,4,5,6,7,8,9,10,11,12,13,14,15,16,17,18,19,20,21,22,23,24,25,26,27,28,29,30,31])] }
noncomputable def ab (a:Arg):Option Out:=@lift Out fun k=>D.W k a
noncomputable def p (a1:Arg):Option Out:=bif decide (a1.1.1 < a1.2.1.1) then (some (true,())) else bif decide (a1.1.1=a1.2.1.1) then (some (decide (a1.1.2.1 < a1.2.1.2.1),())) else some (false,())
theorem aa (k:Nat) (a1:Arg):@Eq (Option Out) (D.W k a1) (p a1):=by kernel_rfl
theorem ok:Ok prog 214 D.sig:=aq func214 aB (by kernel_rfl) (al _)
end fK
namespace eb
abbrev Arg:Type:=(List Row)×Row×Unit
abbrev Out:Type:=(List Row)×Unit
abbrev ps:PQ:=[(.ro,(.U aA)),(.ro,aA)]
noncomputable def D:FD:={ fn:=f146,tl:=aL,ps:=ps,rs:=[((.U aA),(am (.U aA)))],gl:=[(214,fK.D.sig)],lv:=[(2,[0,3,5])],lx:=[(0,[0,3,5])],od:=[(5,[0,1,4,5,6,2,3,7,8])] }
noncomputable def ab (a:Arg):Option Out:=@lift Out fun k=>D.W k a
noncomputable def T0 (a1:Arg) (J:Int):St:={ n:=32,sl:=[(0,.val (.U aA) a1.1),(3,.box aA (ax aA) [] a1.2.1),(5,.val i64 J)],vr:=[],av:=[] }
noncomputable def b0 (self:Int->Option Out) (e0:Int->Option Out) (a1:Arg) (J:Int):Option Out:=bif decide (J < (a1.1.length:Int)) then (if 0<=J then ((a1.1[J.toNat]?).bind fun aC=>(fK.ab (aC,a1.2.1,())).bind fun cb=>bif cb.1 then (self (ae (J+(1:Int)))) else e0 J) else none) else e0 J
noncomputable abbrev B0 (_:Nat):=b0
noncomputable def q0 (a1:Arg) (bQ:Int):Option Out:=if 0<=bQ/\bQ<=(a1.1.length:Int) then (if ([]:List Row).length+((a1.1.take bQ.toNat).drop 0).length<=bg then (let my:=([]:List Row)++((a1.1.take bQ.toNat).drop 0);if 0<=bQ/\bQ<=(a1.1.length:Int) then (if my.length+[a1.2.1].length<=bg then (if (my++[a1.2.1]).length+((a1.1.take a1.1.length).drop bQ.toNat).length<=bg then (let vz:=(my++[a1.2.1])++((a1.1.take a1.1.length).drop bQ.toNat);some (vz,())) else none) else none) else none) else none) else none
noncomputable abbrev Q0 (_:Nat):=q0
noncomputable def s0 (k:Nat) (a1:Arg):(Int)->Option Out:=fun J=>D.L k [1,1,0,0,0] [0,3,5] [] (af 0 (ao (D.N k [1,1,1]) D.K0)) (T0 a1 J)
noncomputable def r0 (k:Nat) (a1:Arg):(Int)->Option Out:=ak (fun w v=>B0 k w (Q0 k a1) a1 v) k
theorem au (k:Nat) (a1:Arg):s0 k a1=r0 k a1:=
 funext fun J=>an _ _ _ (T0 a1) _ (fun rec v=>by kernel_rfl) k J
noncomputable def p (l0:(Int)->Option Out) (a1:Arg):Option Out:=l0 (0:Int)
theorem aa (k:Nat) (a1:Arg):@Eq (Option Out) (D.W k a1) (p (r0 k a1) a1):=
 Eq.trans (b:=p (s0 k a1) a1) (by kernel_rfl) (by rw[au])
theorem ok:Ok prog 146 D.sig:=aq func146 aB (by kernel_rfl) (fc fK.ok (al _))
end eb
namespace ik
abbrev Arg:Type:=Change×Unit
abbrev Out:Type:=Int×Int×Unit
abbrev ps:PQ:=[(.ro,(.ptr ap))]
noncomputable def D:FD:={ fn:=f292,tl:=aL,ps:=ps,rs:=[(i64,(ax i64)),(i64,(ax i64))],od:=[(2,[0,1,2,3,4,5,6,7,8,9,10,11]),(3,[0,1,2,3,4,5,6,7,8,9,10,11])] }
noncomputable def ab (a:Arg):Option Out:=@lift Out fun k=>D.W k a
noncomputable def p (a1:Arg):Option Out:=bif a1.1.2.2.1 then (some (a1.1.2.2.2.1.1,a1.1.2.2.2.1.2.1,())) else some (a1.1.2.1.1,a1.1.2.1.2.1,())
theorem aa (k:Nat) (a1:Arg):@Eq (Option Out) (D.W k a1) (p a1):=by kernel_rfl
theorem ok:Ok prog 292 D.sig:=aq func292 aB (by kernel_rfl) (al _)
end ik
namespace fS
abbrev Arg:Type:=(List Row)×Int×Int×Unit
abbrev Out:Type:=Int×Unit
abbrev ps:PQ:=[(.ro,(.U aA)),(.ro,i64),(.ro,i64)]
noncomputable def D:FD:={ fn:=f293,tl:=aL,ps:=ps,rs:=[(i64,(ax i64))],lv:=[(2,[0,1,2,7])],lx:=[(0,[])] }
noncomputable def ab (a:Arg):Option Out:=@lift Out fun k=>D.W k a
noncomputable def T0 (a1:Arg) (J:Int):St:={ n:=31,sl:=[(0,.val (.U aA) a1.1),(1,.val i64 a1.2.1),(2,.val i64 a1.2.2.1),(7,.val i64 J)],vr:=[],av:=[] }
noncomputable def b0 (self:Int->Option Out) (e0:(Unit)->Option Out) (a1:Arg) (J:Int):Option Out:=bif decide (J < (a1.1.length:Int)) then (if 0<=J then ((a1.1[J.toNat]?).bind fun aC=>bif decide (aC.1=a1.2.1) then (if 0<=J then ((a1.1[J.toNat]?).bind fun cW=>bif decide (cW.2.1=a1.2.2.1) then (some (J,())) else self (ae (J+(1:Int)))) else none) else self (ae (J+(1:Int)))) else none) else e0 ()
noncomputable abbrev B0 (_:Nat):=b0
noncomputable def q0 (a1:Arg) (bQ:(Unit)):Option Out:=some ((-1:Int),())
noncomputable abbrev Q0 (_:Nat):=q0
noncomputable def s0 (k:Nat) (a1:Arg):(Int)->Option Out:=fun J=>D.L k [1,0,1,0,0] [0,1,2,7] [] (af 0 (ao (D.N k [1,1]) D.K0)) (T0 a1 J)
noncomputable def r0 (k:Nat) (a1:Arg):(Int)->Option Out:=ak (fun w v=>B0 k w (Q0 k a1) a1 v) k
theorem au (k:Nat) (a1:Arg):s0 k a1=r0 k a1:=
 funext fun J=>an _ _ _ (T0 a1) _ (fun rec v=>by kernel_rfl) k J
noncomputable def p (l0:(Int)->Option Out) (a1:Arg):Option Out:=l0 (0:Int)
theorem aa (k:Nat) (a1:Arg):@Eq (Option Out) (D.W k a1) (p (r0 k a1) a1):=
 Eq.trans (b:=p (s0 k a1) a1) (by kernel_rfl) (by rw[au])
theorem ok:Ok prog 293 D.sig:=aq func293 aB (by kernel_rfl) (al _)
end fS
namespace fT
abbrev Arg:Type:=(List Row)×Change×Unit
abbrev Out:Type:=(List Row)×Bool×Unit
abbrev ps:PQ:=[(.ro,(.U aA)),(.ro,(.ptr ap))]
noncomputable def D:FD:={ fn:=f248,tl:=aL,ps:=ps,rs:=[((.U aA),(am (.U aA))),(.bool,(ax .bool))],gl:=[(146,eb.D.sig),(292,ik.D.sig),(293,fS.D.sig)],lv:=[(7,[0,1,8,9,10])],lx:=[(0,[1,9])],od:=[(3,[0,1,2,3,4,5,6,7,8,9,10,11,12,13,14,15,16,17,18,19,20,21])] }
noncomputable def ab (a:Arg):Option Out:=@lift Out fun k=>D.W k a
noncomputable def T0 (a1:Arg) (il:Int) (cG:(List Row)×Int):St:={ n:=70,sl:=[(0,.val (.U aA) a1.1),(1,.cp ap a1.2.1),(8,.val i64 il),(9,.own (.U aA) (am (.U aA)) [] cG.1),(10,.val i64 cG.2)],vr:=[],av:=[] }
noncomputable def b0 (self:((List Row)×Int)->Option Out) (e0:(List Row)->Option Out) (a1:Arg) (il:Int) (cG:(List Row)×Int):Option Out:=bif decide (cG.2 < (a1.1.length:Int)) then (bif !decide (cG.2=il) then (if 0<=cG.2 then ((a1.1[cG.2.toNat]?).bind fun wg=>if cG.1.length+[wg].length<=bg then (self (cG.1++[wg],ae (cG.2+(1:Int)))) else none) else none) else self (cG.1,ae (cG.2+(1:Int)))) else e0 cG.1
noncomputable abbrev B0 (_:Nat):=b0
noncomputable def q0 (a1:Arg) (il:Int) (LE:(List Row)):Option Out:=bif a1.2.1.2.2.1 then ((eb.ab (LE,a1.2.1.2.2.2.1,())).bind fun yu=>some (yu.1,true,())) else some (LE,true,())
noncomputable abbrev Q0 (_:Nat):=q0
noncomputable def s0 (k:Nat) (a1:Arg):Int->((List Row)×Int)->Option Out:=fun il=>fun cG=>D.L k [1,1,1,1,1,0,1,0,0] [0,1,8,9,10] [] (af 0 (ao (D.N k [1,1,1,1,1,1]) D.K0)) (T0 a1 il cG)
noncomputable def r0 (k:Nat) (a1:Arg):Int->((List Row)×Int)->Option Out:=fun il=>ak (fun w v=>B0 k w (Q0 k a1 il) a1 il v) k
theorem au (k:Nat) (a1:Arg):s0 k a1=r0 k a1:=
 funext fun il=>funext fun cG=>an _ _ _ (T0 a1 il) _ (fun rec v=>by kernel_rfl) k cG
noncomputable def p (l0:Int->((List Row)×Int)->Option Out) (a1:Arg):Option Out:=(ik.ab (a1.2.1,())).bind fun r2=>(fS.ab (a1.1,r2.1,r2.2.1,())).bind fun r3=>let CJ:Option Out:=l0 r3.1 (([]:List Row),(0:Int));bif !(a1.2.1.1 == (decide ((0:Int)<=r3.1))) then (some (([]:List Row),false,())) else bif decide ((0:Int)<=r3.1) then (if 0<=r3.1 then ((a1.1[r3.1.toNat]?).bind fun x4=>bif !(Ty.eq aA x4 a1.2.1.2.1) then (some (([]:List Row),false,())) else CJ) else none) else CJ
theorem aa (k:Nat) (a1:Arg):@Eq (Option Out) (D.W k a1) (p (r0 k a1) a1):=
 Eq.trans (b:=p (s0 k a1) a1) (by kernel_rfl) (by rw[au])
theorem ok:Ok prog 248 D.sig:=aq func248 aB (by kernel_rfl) (fc eb.ok (fc ik.ok (fc fS.ok (al _))))
end fT
namespace dT
abbrev Arg:Type:=(List Change)×Unit
abbrev Out:Type:=(List Change)×Unit
abbrev ps:PQ:=[(.ro,(.U ap))]
noncomputable def D:FD:={ fn:=f249,tl:=aL,ps:=ps,rs:=[((.U ap),(am (.U ap)))],lv:=[(3,[0,3,4])],lx:=[(0,[3])] }
noncomputable def ab (a:Arg):Option Out:=@lift Out fun k=>D.W k a
noncomputable def T0 (a1:Arg) (J:(List Change)×Int):St:={ n:=31,sl:=[(0,.val (.U ap) a1.1),(3,.own (.U ap) (am (.U ap)) [] J.1),(4,.val i64 J.2)],vr:=[],av:=[] }
noncomputable def b0 (self:((List Change)×Int)->Option Out) (e0:(List Change)->Option Out) (a1:Arg) (J:(List Change)×Int):Option Out:=bif decide ((0:Int)<=J.2) then (if 0<=J.2 then ((a1.1[J.2.toNat]?).bind fun aC=>if J.1.length+[(aC.2.2.1,aC.2.2.2.1,aC.1,aC.2.1,())].length<=bg then (let im:=J.1++[(aC.2.2.1,aC.2.2.2.1,aC.1,aC.2.1,())];self (im,ae (J.2 - (1:Int)))) else none) else none) else e0 J.1
noncomputable abbrev B0 (_:Nat):=b0
noncomputable def q0 (a1:Arg) (bQ:(List Change)):Option Out:=some (bQ,())
noncomputable abbrev Q0 (_:Nat):=q0
noncomputable def s0 (k:Nat) (a1:Arg):((List Change)×Int)->Option Out:=fun J=>D.L k [1,1,0,1,0,0] [0,3,4] [] (af 0 (ao (D.N k [1,1,1]) D.K0)) (T0 a1 J)
noncomputable def r0 (k:Nat) (a1:Arg):((List Change)×Int)->Option Out:=ak (fun w v=>B0 k w (Q0 k a1) a1 v) k
theorem au (k:Nat) (a1:Arg):s0 k a1=r0 k a1:=
 funext fun J=>an _ _ _ (T0 a1) _ (fun rec v=>by kernel_rfl) k J
noncomputable def p (l0:((List Change)×Int)->Option Out) (a1:Arg):Option Out:=l0 (([]:List Change),ae ((a1.1.length:Int) - (1:Int)))
theorem aa (k:Nat) (a1:Arg):@Eq (Option Out) (D.W k a1) (p (r0 k a1) a1):=
 Eq.trans (b:=p (s0 k a1) a1) (by kernel_rfl) (by rw[au])
theorem ok:Ok prog 249 D.sig:=aq func249 aB (by kernel_rfl) (al _)
end dT
namespace fd
abbrev Arg:Type:=(List Row)×(List Change)×Unit
abbrev Out:Type:=(List Row)×Bool×Unit
abbrev ps:PQ:=[(.ro,(.U aA)),(.ro,(.U ap))]
noncomputable def D:FD:={ fn:=f181,tl:=aL,ps:=ps,rs:=[((.U aA),(ax (.U aA))),(.bool,(ax .bool))],gl:=[(248,fT.D.sig),(249,dT.D.sig)],lv:=[(3,[0,6,7])],lx:=[(0,[0])],lf:=[(3,[(0,(.U false (.pair .leaf (.pair .leaf (.pair .leaf (.pair .leaf .leaf))))))])] }
noncomputable def ab (a:Arg):Option Out:=@lift Out fun k=>D.W k a
noncomputable def T0 (a1:Arg) (fe:List Change) (aX:(List Row)×Int):St:={ n:=30,sl:=[(0,.val (.U aA) aX.1),(6,.own (.U ap) (am (.U ap)) [] fe),(7,.val i64 aX.2)],vr:=[],av:=[] }
noncomputable def b0 (self:((List Row)×Int)->Option Out) (e0:(List Row)->Option Out) (a1:Arg) (fe:List Change) (aX:(List Row)×Int):Option Out:=bif decide (aX.2 < (fe.length:Int)) then (if 0<=aX.2/\aX.2 < (fe.length:Int) then ((fe[aX.2.toNat]?).bind fun cg=>(fT.ab (aX.1,cg,())).bind fun kw=>bif !kw.2.1 then (some (([]:List Row),false,())) else self (kw.1,ae (aX.2+(1:Int)))) else none) else e0 aX.1
noncomputable abbrev B0 (_:Nat):=b0
noncomputable def q0 (a1:Arg) (fe:List Change) (gg:(List Row)):Option Out:=some (gg,true,())
noncomputable abbrev Q0 (_:Nat):=q0
noncomputable def s0 (k:Nat) (a1:Arg):(List Change)->((List Row)×Int)->Option Out:=fun fe=>fun aX=>D.L k [1,1,0,1,0,0] [0,6,7] [(0,(.U false (.pair .leaf (.pair .leaf (.pair .leaf (.pair .leaf .leaf))))))] (af 0 (ao (D.N k [1,1,1]) D.K0)) (T0 a1 fe aX)
noncomputable def r0 (k:Nat) (a1:Arg):(List Change)->((List Row)×Int)->Option Out:=fun fe=>ak (fun w v=>B0 k w (Q0 k a1 fe) a1 fe v) k
theorem au (k:Nat) (a1:Arg):s0 k a1=r0 k a1:=
 funext fun fe=>funext fun aX=>an _ _ _ (T0 a1 fe) _ (fun rec v=>by kernel_rfl) k aX
noncomputable def p (l0:(List Change)->((List Row)×Int)->Option Out) (a1:Arg):Option Out:=(dT.ab (a1.2.1,())).bind fun r2=>l0 r2.1 (a1.1,(0:Int))
theorem aa (k:Nat) (a1:Arg):@Eq (Option Out) (D.W k a1) (p (r0 k a1) a1):=
 Eq.trans (b:=p (s0 k a1) a1) (by kernel_rfl) (by rw[au])
theorem ok:Ok prog 181 D.sig:=aq func181 aB (by kernel_rfl) (fc fT.ok (fc dT.ok (al _)))
end fd
namespace ff
abbrev Arg:Type:=(List Row)×(List Tx)×Unit
abbrev Out:Type:=(List Row)×Bool×Unit
abbrev ps:PQ:=[(.ro,(.U aA)),(.ro,(.U aY))]
noncomputable def D:FD:={ fn:=f112,tl:=aL,ps:=ps,rs:=[((.U aA),(ax (.U aA))),(.bool,(ax .bool))],gl:=[(181,fd.D.sig)],lv:=[(3,[1,6,7])],lx:=[(0,[6])],lf:=[(3,[(6,(.U false (.pair .leaf (.pair .leaf (.pair .leaf (.pair .leaf .leaf))))))])] }
noncomputable def ab (a:Arg):Option Out:=@lift Out fun k=>D.W k a
noncomputable def T0 (a1:Arg) (J:(List Row)×Int):St:={ n:=33,sl:=[(1,.val (.U aY) a1.2.1),(6,.val (.U aA) J.1),(7,.val i64 J.2)],vr:=[],av:=[] }
noncomputable def b0 (self:((List Row)×Int)->Option Out) (e0:(List Row)->Option Out) (a1:Arg) (J:(List Row)×Int):Option Out:=bif decide (J.2 < (a1.2.1.length:Int)) then (if 0<=J.2 then ((a1.2.1[J.2.toNat]?).bind fun aC=>(fd.ab (J.1,aC.2.1,())).bind fun cb=>bif !cb.2.1 then (some (([]:List Row),false,())) else self (cb.1,ae (J.2+(1:Int)))) else none) else e0 J.1
noncomputable abbrev B0 (_:Nat):=b0
noncomputable def q0 (a1:Arg) (bQ:(List Row)):Option Out:=some (bQ,true,())
noncomputable abbrev Q0 (_:Nat):=q0
noncomputable def s0 (k:Nat) (a1:Arg):((List Row)×Int)->Option Out:=fun J=>D.L k [1,1,0,1,0,0] [1,6,7] [(6,(.U false (.pair .leaf (.pair .leaf (.pair .leaf (.pair .leaf .leaf))))))] (af 0 (ao (D.N k [1,1,1]) D.K0)) (T0 a1 J)
noncomputable def r0 (k:Nat) (a1:Arg):((List Row)×Int)->Option Out:=ak (fun w v=>B0 k w (Q0 k a1) a1 v) k
theorem au (k:Nat) (a1:Arg):s0 k a1=r0 k a1:=
 funext fun J=>an _ _ _ (T0 a1) _ (fun rec v=>by kernel_rfl) k J
noncomputable def p (l0:((List Row)×Int)->Option Out) (a1:Arg):Option Out:=if ([]:List Row).length+a1.1.length<=bg then (l0 (([]:List Row)++a1.1,(0:Int))) else none
theorem aa (k:Nat) (a1:Arg):@Eq (Option Out) (D.W k a1) (p (r0 k a1) a1):=
 Eq.trans (b:=p (s0 k a1) a1) (by kernel_rfl) (by rw[au])
theorem ok:Ok prog 112 D.sig:=aq func112 aB (by kernel_rfl) (fc fd.ok (al _))
end ff
namespace aS
abbrev Arg:Type:=Int×Int×Int×Unit
abbrev Out:Type:=Bool×Unit
abbrev ps:PQ:=[(.ro,i64),(.ro,i64),(.ro,i64)]
noncomputable def D:FD:={ fn:=f118,tl:=aL,ps:=ps,rs:=[(.bool,(ax .bool))] }
noncomputable def ab (a:Arg):Option Out:=@lift Out fun k=>D.W k a
noncomputable def p (a1:Arg):Option Out:=bif decide (a1.2.1<=a1.1) then (some (decide (a1.1<=a1.2.2.1),())) else some (false,())
theorem aa (k:Nat) (a1:Arg):@Eq (Option Out) (D.W k a1) (p a1):=by kernel_rfl
theorem ok:Ok prog 118 D.sig:=aq func118 aB (by kernel_rfl) (al _)
end aS
namespace fl
abbrev Arg:Type:=(List UInt8)×Unit
abbrev Out:Type:=Bool×Unit
abbrev ps:PQ:=[(.ro,.str)]
noncomputable def D:FD:={ fn:=f272,tl:=aL,ps:=ps,rs:=[(.bool,(ax .bool))],lv:=[(2,[0,3])],lx:=[(0,[0])] }
noncomputable def ab (a:Arg):Option Out:=@lift Out fun k=>D.W k a
noncomputable def T0 (a1:Arg) (J:Int):St:={ n:=23,sl:=[(0,.val .str a1.1),(3,.val i64 J)],vr:=[],av:=[] }
noncomputable def b0 (self:Int->Option Out) (e0:(Unit)->Option Out) (a1:Arg) (J:Int):Option Out:=bif decide (J < (a1.1.length:Int)) then (if 0<=J then ((a1.1[J.toNat]?).bind fun aC=>bif decide ((aC.toNat:Int) < (97:Int)) then (some (false,())) else if 0<=J then ((a1.1[J.toNat]?).bind fun cW=>bif decide ((122:Int) < (cW.toNat:Int)) then (some (false,())) else self (ae (J+(1:Int)))) else none) else none) else e0 ()
noncomputable abbrev B0 (_:Nat):=b0
noncomputable def q0 (a1:Arg) (bQ:(Unit)):Option Out:=some (decide ((a1.1.length:Int)<=(8:Int)),())
noncomputable abbrev Q0 (_:Nat):=q0
noncomputable def s0 (k:Nat) (a1:Arg):(Int)->Option Out:=fun J=>D.L k [1,0,1,0,0] [0,3] [] (af 0 (ao (D.N k [1,1]) D.K0)) (T0 a1 J)
noncomputable def r0 (k:Nat) (a1:Arg):(Int)->Option Out:=ak (fun w v=>B0 k w (Q0 k a1) a1 v) k
theorem au (k:Nat) (a1:Arg):s0 k a1=r0 k a1:=
 funext fun J=>an _ _ _ (T0 a1) _ (fun rec v=>by kernel_rfl) k J
noncomputable def p (l0:(Int)->Option Out) (a1:Arg):Option Out:=l0 (0:Int)
theorem aa (k:Nat) (a1:Arg):@Eq (Option Out) (D.W k a1) (p (r0 k a1) a1):=
 Eq.trans (b:=p (s0 k a1) a1) (by kernel_rfl) (by rw[au])
theorem ok:Ok prog 272 D.sig:=aq func272 aB (by kernel_rfl) (al _)
end fl
namespace dg
abbrev Arg:Type:=Row×Unit
abbrev Out:Type:=Int×Unit
abbrev ps:PQ:=[(.ro,(.ptr aA))]
noncomputable def D:FD:={ fn:=f213,tl:=aL,ps:=ps,rs:=[(i64,(ax i64))],gl:=[(118,aS.D.sig),(272,fl.D.sig)] }
noncomputable def ab (a:Arg):Option Out:=@lift Out fun k=>D.W k a
noncomputable def p (a1:Arg):Option Out:=(aS.ab (a1.1.1,(0:Int),(3:Int),())).bind fun r2=>bif !r2.1 then (some ((3:Int),())) else (aS.ab (a1.1.2.1,(1:Int),(99:Int),())).bind fun r3=>bif !r3.1 then (some ((3:Int),())) else (aS.ab (a1.1.2.2.1,(0:Int),(999:Int),())).bind fun r4=>bif !r4.1 then (some ((3:Int),())) else (fl.ab (a1.1.2.2.2.1,())).bind fun r5=>bif !r5.1 then (some ((5:Int),())) else some ((0:Int),())
theorem aa (k:Nat) (a1:Arg):@Eq (Option Out) (D.W k a1) (p a1):=by kernel_rfl
theorem ok:Ok prog 213 D.sig:=aq func213 aB (by kernel_rfl) (fc aS.ok (fc fl.ok (al _)))
end dg
namespace ej
abbrev Arg:Type:=(List Row)×Unit
abbrev Out:Type:=Int×Unit
abbrev ps:PQ:=[(.ro,(.U aA))]
noncomputable def D:FD:={ fn:=f141,tl:=aL,ps:=ps,rs:=[(i64,(ax i64))],gl:=[(213,dg.D.sig),(214,fK.D.sig)],lv:=[(4,[0,3])],lx:=[(0,[])],od:=[(9,[0,1,2,3,4,5,6,7,8,9,10,11,12])] }
noncomputable def ab (a:Arg):Option Out:=@lift Out fun k=>D.W k a
noncomputable def T0 (a1:Arg) (J:Int):St:={ n:=34,sl:=[(0,.val (.U aA) a1.1),(3,.val i64 J)],vr:=[],av:=[] }
noncomputable def b0 (self:Int->Option Out) (e0:(Unit)->Option Out) (a1:Arg) (J:Int):Option Out:=bif decide (J < (a1.1.length:Int)) then (if 0<=J then ((a1.1[J.toNat]?).bind fun aC=>(dg.ab (aC,())).bind fun cb=>bif !decide (cb.1=(0:Int)) then (some (cb.1,())) else bif decide ((0:Int) < J) then (if 0<=ae (J - (1:Int)) then ((a1.1[(ae (J - (1:Int))).toNat]?).bind fun cg=>if 0<=J then ((a1.1[J.toNat]?).bind fun nY=>(fK.ab (cg,nY,())).bind fun iU=>bif !iU.1 then (some ((1:Int),())) else self (ae (J+(1:Int)))) else none) else none) else self (ae (J+(1:Int)))) else none) else e0 ()
noncomputable abbrev B0 (_:Nat):=b0
noncomputable def q0 (a1:Arg) (lk:(Unit)):Option Out:=some ((0:Int),())
noncomputable abbrev Q0 (_:Nat):=q0
noncomputable def s0 (k:Nat) (a1:Arg):(Int)->Option Out:=fun J=>D.L k [1,1,0,1,0,0] [0,3] [] (af 0 (ao (D.N k [1,1,1]) D.K0)) (T0 a1 J)
noncomputable def r0 (k:Nat) (a1:Arg):(Int)->Option Out:=ak (fun w v=>B0 k w (Q0 k a1) a1 v) k
theorem au (k:Nat) (a1:Arg):s0 k a1=r0 k a1:=
 funext fun J=>an _ _ _ (T0 a1) _ (fun rec v=>by kernel_rfl) k J
noncomputable def p (l0:(Int)->Option Out) (a1:Arg):Option Out:=bif decide ((60:Int) < (a1.1.length:Int)) then (some ((2:Int),())) else l0 (0:Int)
theorem aa (k:Nat) (a1:Arg):@Eq (Option Out) (D.W k a1) (p (r0 k a1) a1):=
 Eq.trans (b:=p (s0 k a1) a1) (by kernel_rfl) (by rw[au])
theorem ok:Ok prog 141 D.sig:=aq func141 aB (by kernel_rfl) (fc dg.ok (fc fK.ok (al _)))
end ej
namespace iH
abbrev Arg:Type:=Change×Unit
abbrev Out:Type:=Int×Unit
abbrev ps:PQ:=[(.ro,(.ptr ap))]
noncomputable def D:FD:={ fn:=f247,tl:=aL,ps:=ps,rs:=[(i64,(ax i64))],gl:=[(213,dg.D.sig)],od:=[(1,[0,1,2,3,4,5,6,7,8,9,10,11,12,13,14,15,16,17,18,19,20,21,22,23,24,25,26,27,28,29,30,31,32,33,34,35,36,37,38,39,40,41,42,43,44,45,46,47,48,49])] }
noncomputable def ab (a:Arg):Option Out:=@lift Out fun k=>D.W k a
noncomputable def p (a1:Arg):Option Out:=let j5:Option Out:=bif a1.1.1 then ((dg.ab (a1.1.2.1,())).bind fun r6=>bif !decide (r6.1=(0:Int)) then (some (r6.1,())) else bif a1.1.2.2.1 then ((dg.ab (a1.1.2.2.2.1,())).bind fun r8=>some (r8.1,())) else some ((0:Int),())) else bif a1.1.2.2.1 then ((dg.ab (a1.1.2.2.2.1,())).bind fun r9=>some (r9.1,())) else some ((0:Int),());bif !a1.1.1 then (bif !a1.1.2.2.1 then (some ((1:Int),())) else bif a1.1.1 then (bif a1.1.2.2.1 then (bif !decide (a1.1.2.1.1=a1.1.2.2.2.1.1) then (some ((1:Int),())) else bif !decide (a1.1.2.1.2.1=a1.1.2.2.2.1.2.1) then (some ((1:Int),())) else j5) else j5) else j5) else bif a1.1.1 then (bif a1.1.2.2.1 then (bif !decide (a1.1.2.1.1=a1.1.2.2.2.1.1) then (some ((1:Int),())) else bif !decide (a1.1.2.1.2.1=a1.1.2.2.2.1.2.1) then (some ((1:Int),())) else j5) else j5) else j5
theorem aa (k:Nat) (a1:Arg):@Eq (Option Out) (D.W k a1) (p a1):=by kernel_rfl
theorem ok:Ok prog 247 D.sig:=aq func247 aB (by kernel_rfl) (fc dg.ok (al _))
end iH
namespace iI
abbrev Arg:Type:=Change×Unit
abbrev Out:Type:=Int×Unit
abbrev ps:PQ:=[(.ro,(.ptr ap))]
noncomputable def D:FD:={ fn:=f273,tl:=aL,ps:=ps,rs:=[(i64,(ax i64))],gl:=[(247,iH.D.sig)],od:=[(4,[0,1,2,3,4,5,6,7,8,9,10,11,12,13,14,15,16,17,18,19,20])] }
noncomputable def ab (a:Arg):Option Out:=@lift Out fun k=>D.W k a
noncomputable def p (a1:Arg):Option Out:=(iH.ab (a1.1,())).bind fun r2=>bif !decide (r2.1=(0:Int)) then (some (r2.1,())) else bif a1.1.1 then (bif a1.1.2.2.1 then (bif (Ty.eq aA a1.1.2.1 a1.1.2.2.2.1) then (some ((1:Int),())) else some ((0:Int),())) else some ((0:Int),())) else some ((0:Int),())
theorem aa (k:Nat) (a1:Arg):@Eq (Option Out) (D.W k a1) (p a1):=by kernel_rfl
theorem ok:Ok prog 273 D.sig:=aq func273 aB (by kernel_rfl) (fc iH.ok (al _))
end iI
namespace dx
abbrev Arg:Type:=Tx×Key×Unit
abbrev Out:Type:=Bool×Unit
abbrev ps:PQ:=[(.ro,(.ptr aY)),(.ro,aE)]
noncomputable def D:FD:={ fn:=f274,tl:=aL,ps:=ps,rs:=[(.bool,(ax .bool))],lv:=[(2,[0,3,5])],lx:=[(0,[])],od:=[(4,[0,1,2,3,4,5,6,7,8])] }
noncomputable def ab (a:Arg):Option Out:=@lift Out fun k=>D.W k a
noncomputable def T0 (a1:Arg) (J:Int):St:={ n:=24,sl:=[(0,.cp aY a1.1),(3,.box aE (ax aE) [] a1.2.1),(5,.val i64 J)],vr:=[],av:=[] }
noncomputable def b0 (self:Int->Option Out) (e0:(Unit)->Option Out) (a1:Arg) (J:Int):Option Out:=bif decide (J < (a1.1.2.2.2.1.length:Int)) then (if 0<=J then ((a1.1.2.2.2.1[J.toNat]?).bind fun aC=>bif (Ty.eq aE aC a1.2.1) then (some (true,())) else self (ae (J+(1:Int)))) else none) else e0 ()
noncomputable abbrev B0 (_:Nat):=b0
noncomputable def q0 (a1:Arg) (jc:(Unit)):Option Out:=some (false,())
noncomputable abbrev Q0 (_:Nat):=q0
noncomputable def s0 (k:Nat) (a1:Arg):(Int)->Option Out:=fun J=>D.L k [1,0,1,0,0] [0,3,5] [] (af 0 (ao (D.N k [1,1]) D.K0)) (T0 a1 J)
noncomputable def r0 (k:Nat) (a1:Arg):(Int)->Option Out:=ak (fun w v=>B0 k w (Q0 k a1) a1 v) k
theorem au (k:Nat) (a1:Arg):s0 k a1=r0 k a1:=
 funext fun J=>an _ _ _ (T0 a1) _ (fun rec v=>by kernel_rfl) k J
noncomputable def p (l0:(Int)->Option Out) (a1:Arg):Option Out:=l0 (0:Int)
theorem aa (k:Nat) (a1:Arg):@Eq (Option Out) (D.W k a1) (p (r0 k a1) a1):=
 Eq.trans (b:=p (s0 k a1) a1) (by kernel_rfl) (by rw[au])
theorem ok:Ok prog 274 D.sig:=aq func274 aB (by kernel_rfl) (al _)
end dx
namespace iJ
abbrev Arg:Type:=Change×Unit
abbrev Out:Type:=Key×Unit
abbrev ps:PQ:=[(.ro,(.ptr ap))]
noncomputable def D:FD:={ fn:=f275,tl:=aL,ps:=ps,rs:=[(aE,(ax aE))],gl:=[(292,ik.D.sig)] }
noncomputable def ab (a:Arg):Option Out:=@lift Out fun k=>D.W k a
noncomputable def p (a1:Arg):Option Out:=(ik.ab (a1.1,())).bind fun r2=>some ((r2.1,r2.2.1,()),())
theorem aa (k:Nat) (a1:Arg):@Eq (Option Out) (D.W k a1) (p a1):=by kernel_rfl
theorem ok:Ok prog 275 D.sig:=aq func275 aB (by kernel_rfl) (fc ik.ok (al _))
end iJ
namespace fL
abbrev Arg:Type:=Tx×Unit
abbrev Out:Type:=Int×Unit
abbrev ps:PQ:=[(.ro,(.ptr aY))]
noncomputable def D:FD:={ fn:=f215,tl:=aL,ps:=ps,rs:=[(i64,(ax i64))],gl:=[(273,iI.D.sig),(274,dx.D.sig),(275,iJ.D.sig)],lv:=[(2,[0,3])],lx:=[(0,[])] }
noncomputable def ab (a:Arg):Option Out:=@lift Out fun k=>D.W k a
noncomputable def T0 (a1:Arg) (J:Int):St:={ n:=34,sl:=[(0,.cp aY a1.1),(3,.val i64 J)],vr:=[],av:=[] }
noncomputable def b0 (self:Int->Option Out) (e0:(Unit)->Option Out) (a1:Arg) (J:Int):Option Out:=bif decide (J < (a1.1.2.1.length:Int)) then (if 0<=J then ((a1.1.2.1[J.toNat]?).bind fun aC=>(iI.ab (aC,())).bind fun cb=>bif !decide (cb.1=(0:Int)) then (some (cb.1,())) else if 0<=J then ((a1.1.2.1[J.toNat]?).bind fun cg=>(iJ.ab (cg,())).bind fun kw=>(dx.ab (a1.1,kw.1,())).bind fun iU=>bif !iU.1 then (some ((8:Int),())) else self (ae (J+(1:Int)))) else none) else none) else e0 ()
noncomputable abbrev B0 (_:Nat):=b0
noncomputable def q0 (a1:Arg) (lk:(Unit)):Option Out:=some ((0:Int),())
noncomputable abbrev Q0 (_:Nat):=q0
noncomputable def s0 (k:Nat) (a1:Arg):(Int)->Option Out:=fun J=>D.L k [1,0,1,0,0] [0,3] [] (af 0 (ao (D.N k [1,1]) D.K0)) (T0 a1 J)
noncomputable def r0 (k:Nat) (a1:Arg):(Int)->Option Out:=ak (fun w v=>B0 k w (Q0 k a1) a1 v) k
theorem au (k:Nat) (a1:Arg):s0 k a1=r0 k a1:=
 funext fun J=>an _ _ _ (T0 a1) _ (fun rec v=>by kernel_rfl) k J
noncomputable def p (l0:(Int)->Option Out) (a1:Arg):Option Out:=l0 (0:Int)
theorem aa (k:Nat) (a1:Arg):@Eq (Option Out) (D.W k a1) (p (r0 k a1) a1):=
 Eq.trans (b:=p (s0 k a1) a1) (by kernel_rfl) (by rw[au])
theorem ok:Ok prog 215 D.sig:=aq func215 aB (by kernel_rfl) (fc iI.ok (fc dx.ok (fc iJ.ok (al _))))
end fL
namespace j_
abbrev Arg:Type:=Key×Unit
abbrev Out:Type:=Bool×Unit
abbrev ps:PQ:=[(.ro,(.ptr aE))]
noncomputable def D:FD:={ fn:=f276,tl:=aL,ps:=ps,rs:=[(.bool,(ax .bool))],gl:=[(118,aS.D.sig)] }
noncomputable def ab (a:Arg):Option Out:=@lift Out fun k=>D.W k a
noncomputable def p (a1:Arg):Option Out:=(aS.ab (a1.1.1,(0:Int),(3:Int),())).bind fun r2=>bif r2.1 then ((aS.ab (a1.1.2.1,(1:Int),(99:Int),())).bind fun r3=>some (r3.1,())) else some (false,())
theorem aa (k:Nat) (a1:Arg):@Eq (Option Out) (D.W k a1) (p a1):=by kernel_rfl
theorem ok:Ok prog 276 D.sig:=aq func276 aB (by kernel_rfl) (fc aS.ok (al _))
end j_
namespace ba
abbrev Arg:Type:=Tx×Unit
abbrev Out:Type:=Int×Unit
abbrev ps:PQ:=[(.ro,(.ptr aY))]
noncomputable def D:FD:={ fn:=f216,tl:=aL,ps:=ps,rs:=[(i64,(ax i64))],gl:=[(118,aS.D.sig),(276,j_.D.sig)],lv:=[(4,[0,3]),(9,[0,4]),(14,[0,4,5])],lx:=[(0,[0]),(2,[]),(4,[0,4])],od:=[(6,[0,1,2,3,4,5,6,7,8,9,10,11,12,13,14,15,16,17,18,19,20,21,22,23,24,25,26,27,28,29,30,31,32,33,34,35]),(16,[0,1,2,3,4,5,6,7,8,9,10,11,12,13,14])],ar:=[(6,[3,6,10,21,24,28,32])] }
noncomputable def ab (a:Arg):Option Out:=@lift Out fun k=>D.W k a
noncomputable def T0 (a1:Arg) (J:Int):St:={ n:=102,sl:=[(0,.cp aY a1.1),(3,.val i64 J)],vr:=[],av:=[] }
noncomputable def S0 (rec:RT Out) (a1:Arg):(Int)->Option Out:=fun J=>rec (T0 a1 J)
noncomputable def bn (K:KT Out) (a1:Arg):(Unit)->Option Out:=fun z=>K (.exit 0) ({ n:=102,sl:=[(0,.cp aY a1.1)],vr:=[],av:=[] })
noncomputable def b0 (self:Int->Option Out) (e0:(Unit)->Option Out) (a1:Arg) (J:Int):Option Out:=bif decide (J < (a1.1.2.2.1.length:Int)) then (if 0<=J then ((a1.1.2.2.1[J.toNat]?).bind fun aC=>(aS.ab (aC,(0:Int),(a1.1.2.1.length:Int),())).bind fun cb=>bif !cb.1 then (some ((3:Int),())) else bif decide ((0:Int) < J) then (if 0<=J then ((a1.1.2.2.1[J.toNat]?).bind fun cg=>if 0<=ae (J - (1:Int)) then ((a1.1.2.2.1[(ae (J - (1:Int))).toNat]?).bind fun nY=>bif decide (cg < nY) then (some ((3:Int),())) else self (ae (J+(1:Int)))) else none) else none) else self (ae (J+(1:Int)))) else none) else e0 ()
noncomputable abbrev B0 (_:Nat):=b0
theorem fX (k:Nat) (rec:RT Out) (K:KT Out) (a1:Arg) (J:Int):D.N k [1,1,0,1,0,0] (T0 a1 J) (dj rec (b9 [0,3] []) K)=b0 (S0 rec a1) (bn K a1) a1 J:=by kernel_rfl
noncomputable def T1 (a1:Arg) (bb:Tx×Int):St:={ n:=102,sl:=[(0,.cp aY bb.1),(4,.val i64 bb.2)],vr:=[],av:=[] }
noncomputable def S1 (rec:RT Out) (a1:Arg):(Tx×Int)->Option Out:=fun bb=>rec (T1 a1 bb)
noncomputable def dy (K:KT Out) (a1:Arg):(Unit)->Option Out:=fun z=>K (.exit 2) ({ n:=102,sl:=[],vr:=[],av:=[] })
noncomputable def T2 (a1:Arg) (ct:Tx) (bA:Int) (eY:Int):St:={ n:=102,sl:=[(0,.cp aY ct),(4,.val i64 bA),(5,.val i64 eY)],vr:=[],av:=[] }
noncomputable def b2 (self:Int->Option Out) (e4:(Unit)->Option Out) (a1:Arg) (ct:Tx) (bA:Int) (eY:Int):Option Out:=bif decide (eY < bA) then (if 0<=eY then ((ct.2.2.2.1[eY.toNat]?).bind fun Gn=>if 0<=bA then ((ct.2.2.2.1[bA.toNat]?).bind fun O4=>bif (Ty.eq aE Gn O4) then (some ((6:Int),())) else self (ae (eY+(1:Int)))) else none) else none) else e4 ()
noncomputable abbrev B2 (_:Nat):=b2
noncomputable def q1 (self:(Tx×Int)->Option Out) (e2:(Unit)->Option Out) (a1:Arg) (ct:Tx) (bA:Int) (np:(Unit)):Option Out:=self (ct,ae (bA+(1:Int)))
noncomputable abbrev Q1 (_:Nat):=q1
noncomputable def s2 (k:Nat) (rec:RT Out) (K:KT Out) (a1:Arg):Tx->Int->(Int)->Option Out:=fun ct bA=>fun eY=>D.L k [1,1,1,0,1,0,0,1,0,0,1,1,0,0] [0,4,5] [] (af 4 (af 3 (ao (D.N k [1,1,1,0,1,0,0,1,1]) (dj rec (b9 [0,4] []) K)))) (T2 a1 ct bA eY)
noncomputable def r2 (k:Nat) (self:(Tx×Int)->Option Out) (e2:(Unit)->Option Out) (a1:Arg):Tx->Int->(Int)->Option Out:=fun ct bA=>ak (fun w v=>B2 k w (Q1 k self e2 a1 ct bA) a1 ct bA v) k
theorem kR (k:Nat) (rec:RT Out) (K:KT Out) (a1:Arg):s2 k rec K a1=r2 k (S1 rec a1) (dy K a1) a1:=
 funext fun ct=>funext fun bA=>funext fun eY=>an _ _ _ (T2 a1 ct bA) _ (fun rec v=>by kernel_rfl) k eY
noncomputable def b1 (self:(Tx×Int)->Option Out) (e2:(Unit)->Option Out) (l2:Tx->Int->(Int)->Option Out) (a1:Arg) (bb:Tx×Int):Option Out:=bif decide (bb.2 < (bb.1.2.2.2.1.length:Int)) then (if 0<=bb.2 then ((bb.1.2.2.2.1[bb.2.toNat]?).bind fun wh=>(j_.ab (wh,())).bind fun qu=>bif !qu.1 then (some ((3:Int),())) else l2 bb.1 bb.2 (0:Int)) else none) else e2 ()
noncomputable def B1 (k:Nat) (self:(Tx×Int)->Option Out) (e2:(Unit)->Option Out) (a1:Arg) (bb:Tx×Int):Option Out:=b1 self e2 (r2 k self e2 a1) a1 bb
theorem lX (k:Nat) (rec:RT Out) (K:KT Out) (a1:Arg) (bb:Tx×Int):D.N k [1,1,1,0,1,0,0] (T1 a1 bb) (dj rec (b9 [0,4] []) K)=B1 k (S1 rec a1) (dy K a1) a1 bb:=
 Eq.trans (b:=b1 (S1 rec a1) (dy K a1) (s2 k rec K a1) a1 bb) (by kernel_rfl) (by rw[kR];rfl)
noncomputable def q2 (a1:Arg) (Gp:(Unit)):Option Out:=some ((0:Int),())
noncomputable abbrev Q2 (_:Nat):=q2
theorem nq (k:Nat) (a1:Arg) (Gp:(Unit)):dy (af 2 (ao (D.N k [1,1,1,1]) D.K0)) a1 Gp=q2 a1 Gp:=by kernel_rfl
noncomputable def s1 (k:Nat) (a1:Arg):(Tx×Int)->Option Out:=fun bb=>D.L k [1,1,1,0,1,0,0] [0,4] [] (af 2 (ao (D.N k [1,1,1,1]) D.K0)) (T1 a1 bb)
noncomputable def r1 (k:Nat) (a1:Arg):(Tx×Int)->Option Out:=ak (fun w v=>B1 k w (Q2 k a1) a1 v) k
theorem fY (k:Nat) (a1:Arg):s1 k a1=r1 k a1:=by
 funext bb;
 have Y:dy (af 2 (ao (D.N k [1,1,1,1]) D.K0)) a1=Q2 k a1:=funext fun z=>nq k a1 z
 refine (an _ _ _ (T1 a1) (fun self v=>B1 k self (dy (af 2 (ao (D.N k [1,1,1,1]) D.K0)) a1) a1 v) (fun rec v=>lX k rec (af 2 (ao (D.N k [1,1,1,1]) D.K0)) a1 v) k bb).trans ?_
 rw[Y]
 rfl
noncomputable def q0 (l1:(Tx×Int)->Option Out) (a1:Arg) (gg:(Unit)):Option Out:=l1 (a1.1,(0:Int))
noncomputable def Q0 (k:Nat) (a1:Arg) (gg:(Unit)):Option Out:=q0 (r1 k a1) a1 gg
theorem kS (k:Nat) (a1:Arg) (gg:(Unit)):bn (af 0 (ao (D.N k [1,1,1]) D.K0)) a1 gg=Q0 k a1 gg:=
 Eq.trans (b:=q0 (s1 k a1) a1 gg) (by kernel_rfl) (by rw[fY];rfl)
noncomputable def s0 (k:Nat) (a1:Arg):(Int)->Option Out:=fun J=>D.L k [1,1,0,1,0,0] [0,3] [] (af 0 (ao (D.N k [1,1,1]) D.K0)) (T0 a1 J)
noncomputable def r0 (k:Nat) (a1:Arg):(Int)->Option Out:=ak (fun w v=>B0 k w (Q0 k a1) a1 v) k
theorem au (k:Nat) (a1:Arg):s0 k a1=r0 k a1:=by
 funext J;
 have h0:bn (af 0 (ao (D.N k [1,1,1]) D.K0)) a1=Q0 k a1:=funext fun z=>kS k a1 z
 refine (an _ _ _ (T0 a1) (fun self v=>B0 k self (bn (af 0 (ao (D.N k [1,1,1]) D.K0)) a1) a1 v) (fun rec v=>fX k rec (af 0 (ao (D.N k [1,1,1]) D.K0)) a1 v) k J).trans ?_
 rw[h0]
 rfl
noncomputable def p (l0:(Int)->Option Out) (a1:Arg):Option Out:=bif decide ((8:Int) < (a1.1.2.2.1.length:Int)) then (some ((2:Int),())) else bif decide ((12:Int) < (a1.1.2.2.2.1.length:Int)) then (some ((2:Int),())) else l0 (0:Int)
theorem aa (k:Nat) (a1:Arg):@Eq (Option Out) (D.W k a1) (p (r0 k a1) a1):=
 Eq.trans (b:=p (s0 k a1) a1) (by kernel_rfl) (by rw[au])
theorem ok:Ok prog 216 D.sig:=aq func216 aB (by kernel_rfl) (fc aS.ok (fc j_.ok (al _)))
end ba
namespace fM
abbrev Arg:Type:=(List Tx)×Key×Unit
abbrev Out:Type:=Int×Unit
abbrev ps:PQ:=[(.ro,(.U aY)),(.ro,aE)]
noncomputable def D:FD:={ fn:=f277,tl:=aL,ps:=ps,rs:=[(i64,(ax i64))],gl:=[(274,dx.D.sig)],lv:=[(2,[0,3,5])],lx:=[(0,[])],od:=[(4,[0,1,2,3,4])] }
noncomputable def ab (a:Arg):Option Out:=@lift Out fun k=>D.W k a
noncomputable def T0 (a1:Arg) (J:Int):St:={ n:=22,sl:=[(0,.val (.U aY) a1.1),(3,.box aE (ax aE) [] a1.2.1),(5,.val i64 J)],vr:=[],av:=[] }
noncomputable def b0 (self:Int->Option Out) (e0:(Unit)->Option Out) (a1:Arg) (J:Int):Option Out:=bif decide (J < (a1.1.length:Int)) then (if 0<=J then ((a1.1[J.toNat]?).bind fun aC=>(dx.ab (aC,a1.2.1,())).bind fun cb=>bif cb.1 then (if 0<=J then ((a1.1[J.toNat]?).bind fun cg=>some (cg.1,())) else none) else self (ae (J+(1:Int)))) else none) else e0 ()
noncomputable abbrev B0 (_:Nat):=b0
noncomputable def q0 (a1:Arg) (kx:(Unit)):Option Out:=some ((0:Int),())
noncomputable abbrev Q0 (_:Nat):=q0
noncomputable def s0 (k:Nat) (a1:Arg):(Int)->Option Out:=fun J=>D.L k [1,0,1,0,0] [0,3,5] [] (af 0 (ao (D.N k [1,1]) D.K0)) (T0 a1 J)
noncomputable def r0 (k:Nat) (a1:Arg):(Int)->Option Out:=ak (fun w v=>B0 k w (Q0 k a1) a1 v) k
theorem au (k:Nat) (a1:Arg):s0 k a1=r0 k a1:=
 funext fun J=>an _ _ _ (T0 a1) _ (fun rec v=>by kernel_rfl) k J
noncomputable def p (l0:(Int)->Option Out) (a1:Arg):Option Out:=l0 (0:Int)
theorem aa (k:Nat) (a1:Arg):@Eq (Option Out) (D.W k a1) (p (r0 k a1) a1):=
 Eq.trans (b:=p (s0 k a1) a1) (by kernel_rfl) (by rw[au])
theorem ok:Ok prog 277 D.sig:=aq func277 aB (by kernel_rfl) (fc dx.ok (al _))
end fM
namespace bP
abbrev Arg:Type:=(List Tx)×Unit
abbrev Out:Type:=Bool×Unit
abbrev ps:PQ:=[(.ro,(.U aY))]
noncomputable def D:FD:={ fn:=f217,tl:=aL,ps:=ps,rs:=[(.bool,(ax .bool))],gl:=[(277,fM.D.sig)],lv:=[(2,[0,3]),(5,[0,3,4])],lx:=[(0,[]),(2,[0,3])],od:=[(7,[0,1,2,3,4,5,6,7,8,10,11,12,13,14,9,15])] }
noncomputable def ab (a:Arg):Option Out:=@lift Out fun k=>D.W k a
noncomputable def T0 (a1:Arg) (J:(List Tx)×Int):St:={ n:=37,sl:=[(0,.val (.U aY) J.1),(3,.val i64 J.2)],vr:=[],av:=[] }
noncomputable def S0 (rec:RT Out) (a1:Arg):((List Tx)×Int)->Option Out:=fun J=>rec (T0 a1 J)
noncomputable def bn (K:KT Out) (a1:Arg):(Unit)->Option Out:=fun z=>K (.exit 0) ({ n:=37,sl:=[],vr:=[],av:=[] })
noncomputable def T1 (a1:Arg) (fQ:List Tx) (ec:Int) (fZ:Int):St:={ n:=37,sl:=[(0,.val (.U aY) fQ),(3,.val i64 ec),(4,.val i64 fZ)],vr:=[],av:=[] }
noncomputable def b1 (self:Int->Option Out) (e2:(Unit)->Option Out) (a1:Arg) (fQ:List Tx) (ec:Int) (fZ:Int):Option Out:=if 0<=ec then ((fQ[ec.toNat]?).bind fun Gq=>bif decide (fZ < (Gq.2.2.2.1.length:Int)) then (if 0<=ec then ((fQ[ec.toNat]?).bind fun tK=>if 0<=fZ then ((tK.2.2.2.1[fZ.toNat]?).bind fun yw=>if 0<=ec then ((fQ[ec.toNat]?).bind fun wh=>(fM.ab (fQ,yw,())).bind fun qu=>bif !decide (qu.1=wh.1) then (some (false,())) else self (ae (fZ+(1:Int)))) else none) else none) else none) else e2 ()) else none
noncomputable abbrev B1 (_:Nat):=b1
noncomputable def q0 (self:((List Tx)×Int)->Option Out) (e0:(Unit)->Option Out) (a1:Arg) (fQ:List Tx) (ec:Int) (tL:(Unit)):Option Out:=self (fQ,ae (ec+(1:Int)))
noncomputable abbrev Q0 (_:Nat):=q0
noncomputable def s1 (k:Nat) (rec:RT Out) (K:KT Out) (a1:Arg):(List Tx)->Int->(Int)->Option Out:=fun fQ ec=>fun fZ=>D.L k [1,0,1,0,0,1,0,0,1,0,0] [0,3,4] [] (af 2 (af 1 (ao (D.N k [1,0,1,0,0,1,1]) (dj rec (b9 [0,3] []) K)))) (T1 a1 fQ ec fZ)
noncomputable def r1 (k:Nat) (self:((List Tx)×Int)->Option Out) (e0:(Unit)->Option Out) (a1:Arg):(List Tx)->Int->(Int)->Option Out:=fun fQ ec=>ak (fun w v=>B1 k w (Q0 k self e0 a1 fQ ec) a1 fQ ec v) k
theorem fY (k:Nat) (rec:RT Out) (K:KT Out) (a1:Arg):s1 k rec K a1=r1 k (S0 rec a1) (bn K a1) a1:=
 funext fun fQ=>funext fun ec=>funext fun fZ=>an _ _ _ (T1 a1 fQ ec) _ (fun rec v=>by kernel_rfl) k fZ
noncomputable def b0 (self:((List Tx)×Int)->Option Out) (e0:(Unit)->Option Out) (l1:(List Tx)->Int->(Int)->Option Out) (a1:Arg) (J:(List Tx)×Int):Option Out:=bif decide (J.2 < (J.1.length:Int)) then (l1 J.1 J.2 (0:Int)) else e0 ()
noncomputable def B0 (k:Nat) (self:((List Tx)×Int)->Option Out) (e0:(Unit)->Option Out) (a1:Arg) (J:(List Tx)×Int):Option Out:=b0 self e0 (r1 k self e0 a1) a1 J
theorem fX (k:Nat) (rec:RT Out) (K:KT Out) (a1:Arg) (J:(List Tx)×Int):D.N k [1,0,1,0,0] (T0 a1 J) (dj rec (b9 [0,3] []) K)=B0 k (S0 rec a1) (bn K a1) a1 J:=
 Eq.trans (b:=b0 (S0 rec a1) (bn K a1) (s1 k rec K a1) a1 J) (by kernel_rfl) (by rw[fY];rfl)
noncomputable def q1 (a1:Arg) (rX:(Unit)):Option Out:=some (true,())
noncomputable abbrev Q1 (_:Nat):=q1
theorem lY (k:Nat) (a1:Arg) (rX:(Unit)):bn (af 0 (ao (D.N k [1,1]) D.K0)) a1 rX=q1 a1 rX:=by kernel_rfl
noncomputable def s0 (k:Nat) (a1:Arg):((List Tx)×Int)->Option Out:=fun J=>D.L k [1,0,1,0,0] [0,3] [] (af 0 (ao (D.N k [1,1]) D.K0)) (T0 a1 J)
noncomputable def r0 (k:Nat) (a1:Arg):((List Tx)×Int)->Option Out:=ak (fun w v=>B0 k w (Q1 k a1) a1 v) k
theorem au (k:Nat) (a1:Arg):s0 k a1=r0 k a1:=by
 funext J;
 have h0:bn (af 0 (ao (D.N k [1,1]) D.K0)) a1=Q1 k a1:=funext fun z=>lY k a1 z
 refine (an _ _ _ (T0 a1) (fun self v=>B0 k self (bn (af 0 (ao (D.N k [1,1]) D.K0)) a1) a1 v) (fun rec v=>fX k rec (af 0 (ao (D.N k [1,1]) D.K0)) a1 v) k J).trans ?_
 rw[h0]
 rfl
noncomputable def p (l0:((List Tx)×Int)->Option Out) (a1:Arg):Option Out:=l0 (a1.1,(0:Int))
theorem aa (k:Nat) (a1:Arg):@Eq (Option Out) (D.W k a1) (p (r0 k a1) a1):=
 Eq.trans (b:=p (s0 k a1) a1) (by kernel_rfl) (by rw[au])
theorem ok:Ok prog 217 D.sig:=aq func217 aB (by kernel_rfl) (fc fM.ok (al _))
end bP
namespace e8
abbrev Arg:Type:=(List Tx)×Unit
abbrev Out:Type:=Int×Unit
abbrev ps:PQ:=[(.ro,(.U aY))]
noncomputable def D:FD:={ fn:=f218,tl:=aL,ps:=ps,rs:=[(i64,(ax i64))],lv:=[(3,[0,3,4])],lx:=[(0,[3])] }
noncomputable def ab (a:Arg):Option Out:=@lift Out fun k=>D.W k a
noncomputable def T0 (a1:Arg) (J:Int×Int):St:={ n:=20,sl:=[(0,.val (.U aY) a1.1),(3,.val i64 J.1),(4,.val i64 J.2)],vr:=[],av:=[] }
noncomputable def b0 (self:(Int×Int)->Option Out) (e0:Int->Option Out) (a1:Arg) (J:Int×Int):Option Out:=bif decide (J.2 < (a1.1.length:Int)) then (if 0<=J.2 then ((a1.1[J.2.toNat]?).bind fun aC=>self (ae (J.1+(aC.2.1.length:Int)),ae (J.2+(1:Int)))) else none) else e0 J.1
noncomputable abbrev B0 (_:Nat):=b0
noncomputable def q0 (a1:Arg) (jc:Int):Option Out:=some (jc,())
noncomputable abbrev Q0 (_:Nat):=q0
noncomputable def s0 (k:Nat) (a1:Arg):(Int×Int)->Option Out:=fun J=>D.L k [1,1,0,1,0,0] [0,3,4] [] (af 0 (ao (D.N k [1,1,1]) D.K0)) (T0 a1 J)
noncomputable def r0 (k:Nat) (a1:Arg):(Int×Int)->Option Out:=ak (fun w v=>B0 k w (Q0 k a1) a1 v) k
theorem au (k:Nat) (a1:Arg):s0 k a1=r0 k a1:=
 funext fun J=>an _ _ _ (T0 a1) _ (fun rec v=>by kernel_rfl) k J
noncomputable def p (l0:(Int×Int)->Option Out) (a1:Arg):Option Out:=l0 ((0:Int),(0:Int))
theorem aa (k:Nat) (a1:Arg):@Eq (Option Out) (D.W k a1) (p (r0 k a1) a1):=
 Eq.trans (b:=p (s0 k a1) a1) (by kernel_rfl) (by rw[au])
theorem ok:Ok prog 218 D.sig:=aq func218 aB (by kernel_rfl) (al _)
end e8
namespace c8
abbrev Arg:Type:=(List Tx)×Unit
abbrev Out:Type:=Int×Unit
abbrev ps:PQ:=[(.ro,(.U aY))]
noncomputable def D:FD:={ fn:=f142,tl:=aL,ps:=ps,rs:=[(i64,(ax i64))],gl:=[(118,aS.D.sig),(215,fL.D.sig),(216,ba.D.sig),(217,bP.D.sig),(218,e8.D.sig)],lv:=[(4,[0,3])],lx:=[(0,[0])],od:=[(9,[0,1,2,3,4,5,6,7,8,9,10,11,12,13,14])] }
noncomputable def ab (a:Arg):Option Out:=@lift Out fun k=>D.W k a
noncomputable def T0 (a1:Arg) (J:Int):St:={ n:=56,sl:=[(0,.val (.U aY) a1.1),(3,.val i64 J)],vr:=[],av:=[] }
noncomputable def b0 (self:Int->Option Out) (e0:(Unit)->Option Out) (a1:Arg) (J:Int):Option Out:=bif decide (J < (a1.1.length:Int)) then (if 0<=J then ((a1.1[J.toNat]?).bind fun aC=>(aS.ab (aC.1,(1:Int),(99:Int),())).bind fun cb=>bif !cb.1 then (some ((3:Int),())) else let N1:Option Out:=(fL.ab (aC,())).bind fun qc=>bif !decide (qc.1=(0:Int)) then (some (qc.1,())) else (ba.ab (aC,())).bind fun tM=>bif !decide (tM.1=(0:Int)) then (some (tM.1,())) else self (ae (J+(1:Int)));bif decide ((0:Int) < J) then (if 0<=ae (J - (1:Int)) then ((a1.1[(ae (J - (1:Int))).toNat]?).bind fun cg=>bif decide (aC.1<=cg.1) then (some ((1:Int),())) else N1) else none) else N1) else none) else e0 ()
noncomputable abbrev B0 (_:Nat):=b0
noncomputable def q0 (a1:Arg) (J1:(Unit)):Option Out:=(bP.ab (a1.1,())).bind fun J2=>bif !J2.1 then (some ((7:Int),())) else (e8.ab (a1.1,())).bind fun Gr=>bif decide ((12:Int) < Gr.1) then (some ((2:Int),())) else some ((0:Int),())
noncomputable abbrev Q0 (_:Nat):=q0
noncomputable def s0 (k:Nat) (a1:Arg):(Int)->Option Out:=fun J=>D.L k [1,1,0,1,0,0] [0,3] [] (af 0 (ao (D.N k [1,1,1]) D.K0)) (T0 a1 J)
noncomputable def r0 (k:Nat) (a1:Arg):(Int)->Option Out:=ak (fun w v=>B0 k w (Q0 k a1) a1 v) k
theorem au (k:Nat) (a1:Arg):s0 k a1=r0 k a1:=
 funext fun J=>an _ _ _ (T0 a1) _ (fun rec v=>by kernel_rfl) k J
noncomputable def p (l0:(Int)->Option Out) (a1:Arg):Option Out:=bif decide ((4:Int) < (a1.1.length:Int)) then (some ((2:Int),())) else l0 (0:Int)
theorem aa (k:Nat) (a1:Arg):@Eq (Option Out) (D.W k a1) (p (r0 k a1) a1):=
 Eq.trans (b:=p (s0 k a1) a1) (by kernel_rfl) (by rw[au])
theorem ok:Ok prog 142 D.sig:=aq func142 aB (by kernel_rfl) (fc aS.ok (fc fL.ok (fc ba.ok (fc bP.ok (fc e8.ok (al _))))))
end c8
namespace aO
abbrev Arg:Type:=(List Row)×(List Tx)×Key×Unit
abbrev Out:Type:=Int×Unit
abbrev ps:PQ:=[(.ro,(.U aA)),(.ro,(.U aY)),(.ro,aE)]
noncomputable def D:FD:={ fn:=f143,tl:=aL,ps:=ps,rs:=[(i64,(ax i64))],lv:=[(3,[0,1,5,7,8]),(7,[1,5,7,9]),(14,[7,10,11]),(18,[7,10,11,12,13])],lx:=[(0,[1,5,7]),(2,[5,7]),(4,[10]),(6,[7,10,11,12])],od:=[(5,[0,1,2,3,4,5,6,7,8,9,10,11,12,13,14]),(20,[0,1,2,3,4,5,6,7,8,9])] }
noncomputable def ab (a:Arg):Option Out:=@lift Out fun k=>D.W k a
noncomputable def T0 (a1:Arg) (J:(List Key)×Int):St:={ n:=82,sl:=[(0,.val (.U aA) a1.1),(1,.val (.U aY) a1.2.1),(5,.box aE (ax aE) [] a1.2.2.1),(7,.own (.U aE) (am (.U aE)) [] J.1),(8,.val i64 J.2)],vr:=[],av:=[] }
noncomputable def S0 (rec:RT Out) (a1:Arg):((List Key)×Int)->Option Out:=fun J=>rec (T0 a1 J)
noncomputable def bn (K:KT Out) (a1:Arg):(List Key)->Option Out:=fun z=>K (.exit 0) ({ n:=82,sl:=[(1,.val (.U aY) a1.2.1),(5,.box aE (ax aE) [] a1.2.2.1),(7,.own (.U aE) (am (.U aE)) [] z)],vr:=[],av:=[] })
noncomputable def b0 (self:((List Key)×Int)->Option Out) (e0:(List Key)->Option Out) (a1:Arg) (J:(List Key)×Int):Option Out:=bif decide (J.2 < (a1.1.length:Int)) then (if 0<=J.2 then ((a1.1[J.2.toNat]?).bind fun aC=>if 0<=J.2 then ((a1.1[J.2.toNat]?).bind fun cW=>if J.1.length+[(aC.1,cW.2.1,())].length<=bg then (self (J.1++[(aC.1,cW.2.1,())],ae (J.2+(1:Int)))) else none) else none) else none) else e0 J.1
noncomputable abbrev B0 (_:Nat):=b0
theorem fX (k:Nat) (rec:RT Out) (K:KT Out) (a1:Arg) (J:(List Key)×Int):D.N k [1,1,0,1,0,0] (T0 a1 J) (dj rec (b9 [0,1,5,7,8] []) K)=b0 (S0 rec a1) (bn K a1) a1 J:=by kernel_rfl
noncomputable def T1 (a1:Arg) (bH:(List Key)×Int):St:={ n:=82,sl:=[(1,.val (.U aY) a1.2.1),(5,.box aE (ax aE) [] a1.2.2.1),(7,.own (.U aE) (am (.U aE)) [] bH.1),(9,.val i64 bH.2)],vr:=[],av:=[] }
noncomputable def S1 (rec:RT Out) (a1:Arg):((List Key)×Int)->Option Out:=fun bH=>rec (T1 a1 bH)
noncomputable def dy (K:KT Out) (a1:Arg):(List Key)->Option Out:=fun z=>K (.exit 2) ({ n:=82,sl:=[(5,.box aE (ax aE) [] a1.2.2.1),(7,.own (.U aE) (am (.U aE)) [] z)],vr:=[],av:=[] })
noncomputable def b1 (self:((List Key)×Int)->Option Out) (e2:(List Key)->Option Out) (a1:Arg) (bH:(List Key)×Int):Option Out:=bif decide (bH.2 < (a1.2.1.length:Int)) then (if 0<=bH.2 then ((a1.2.1[bH.2.toNat]?).bind fun tK=>if bH.1.length+tK.2.2.2.1.length<=bg then (self (bH.1++tK.2.2.2.1,ae (bH.2+(1:Int)))) else none) else none) else e2 bH.1
noncomputable abbrev B1 (_:Nat):=b1
theorem lX (k:Nat) (rec:RT Out) (K:KT Out) (a1:Arg) (bH:(List Key)×Int):D.N k [1,1,1,0,1,0,0] (T1 a1 bH) (dj rec (b9 [1,5,7,9] []) K)=b1 (S1 rec a1) (dy K a1) a1 bH:=by kernel_rfl
noncomputable def T2 (a1:Arg) (iV:(List Key)×Int×Int):St:={ n:=82,sl:=[(7,.own (.U aE) (am (.U aE)) [] iV.1),(10,.val i64 iV.2.1),(11,.val i64 iV.2.2)],vr:=[],av:=[] }
noncomputable def S2 (rec:RT Out) (a1:Arg):((List Key)×Int×Int)->Option Out:=fun iV=>rec (T2 a1 iV)
noncomputable def zC (K:KT Out) (a1:Arg):Int->Option Out:=fun z=>K (.exit 4) ({ n:=82,sl:=[(10,.val i64 z)],vr:=[],av:=[] })
noncomputable def T3 (a1:Arg) (lr:List Key) (nL:Int) (ls:Int) (lZ:Bool×Int):St:={ n:=82,sl:=[(7,.own (.U aE) (am (.U aE)) [] lr),(10,.val i64 nL),(11,.val i64 ls),(12,.val .bool lZ.1),(13,.val i64 lZ.2)],vr:=[],av:=[] }
noncomputable def b3 (self:(Bool×Int)->Option Out) (e6:Bool->Option Out) (a1:Arg) (lr:List Key) (nL:Int) (ls:Int) (lZ:Bool×Int):Option Out:=bif decide (lZ.2 < ls) then (bif lZ.1 then (if 0<=lZ.2/\lZ.2 < (lr.length:Int) then ((lr[lZ.2.toNat]?).bind fun O5=>if 0<=ls/\ls < (lr.length:Int) then ((lr[ls.toNat]?).bind fun O6=>self (!(Ty.eq aE O5 O6),ae (lZ.2+(1:Int)))) else none) else none) else e6 lZ.1) else e6 lZ.1
noncomputable abbrev B3 (_:Nat):=b3
noncomputable def q2 (self:((List Key)×Int×Int)->Option Out) (e4:Int->Option Out) (a1:Arg) (lr:List Key) (nL:Int) (ls:Int) (O7:Bool):Option Out:=bif O7 then (self (lr,ae (nL+(1:Int)),ae (ls+(1:Int)))) else self (lr,nL,ae (ls+(1:Int)))
noncomputable abbrev Q2 (_:Nat):=q2
noncomputable def s3 (k:Nat) (rec:RT Out) (K:KT Out) (a1:Arg):(List Key)->Int->Int->(Bool×Int)->Option Out:=fun lr nL ls=>fun lZ=>D.L k [1,1,1,1,1,1,0,1,0,0,1,0,0,1,0,1,0,0] [7,10,11,12,13] [] (af 6 (ao (D.N k [1,1,1,1,1,1,0,1,0,0,1,0,0,1,1]) (af 5 (ao (D.N k [1,1,1,1,1,1,0,1,0,0,1,1]) (dj rec (b9 [7,10,11] []) K))))) (T3 a1 lr nL ls lZ)
noncomputable def r3 (k:Nat) (self:((List Key)×Int×Int)->Option Out) (e4:Int->Option Out) (a1:Arg):(List Key)->Int->Int->(Bool×Int)->Option Out:=fun lr nL ls=>ak (fun w v=>B3 k w (Q2 k self e4 a1 lr nL ls) a1 lr nL ls v) k
theorem Gs (k:Nat) (rec:RT Out) (K:KT Out) (a1:Arg):s3 k rec K a1=r3 k (S2 rec a1) (zC K a1) a1:=
 funext fun lr=>funext fun nL=>funext fun ls=>funext fun lZ=>an _ _ _ (T3 a1 lr nL ls) _ (fun rec v=>by kernel_rfl) k lZ
noncomputable def b2 (self:((List Key)×Int×Int)->Option Out) (e4:Int->Option Out) (l3:(List Key)->Int->Int->(Bool×Int)->Option Out) (a1:Arg) (iV:(List Key)×Int×Int):Option Out:=bif decide (iV.2.2 < (iV.1.length:Int)) then (l3 iV.1 iV.2.1 iV.2.2 (true,(0:Int))) else e4 iV.2.1
noncomputable def B2 (k:Nat) (self:((List Key)×Int×Int)->Option Out) (e4:Int->Option Out) (a1:Arg) (iV:(List Key)×Int×Int):Option Out:=b2 self e4 (r3 k self e4 a1) a1 iV
theorem Gt (k:Nat) (rec:RT Out) (K:KT Out) (a1:Arg) (iV:(List Key)×Int×Int):D.N k [1,1,1,1,1,1,0,1,0,0] (T2 a1 iV) (dj rec (b9 [7,10,11] []) K)=B2 k (S2 rec a1) (zC K a1) a1 iV:=
 Eq.trans (b:=b2 (S2 rec a1) (zC K a1) (s3 k rec K a1) a1 iV) (by kernel_rfl) (by rw[Gs];rfl)
noncomputable def q3 (a1:Arg) (Bc:Int):Option Out:=some (Bc,())
noncomputable abbrev Q3 (_:Nat):=q3
theorem Gu (k:Nat) (a1:Arg) (Bc:Int):zC (af 4 (ao (D.N k [1,1,1,1,1,1,1]) D.K0)) a1 Bc=q3 a1 Bc:=by kernel_rfl
noncomputable def s2 (k:Nat) (a1:Arg):((List Key)×Int×Int)->Option Out:=fun iV=>D.L k [1,1,1,1,1,1,0,1,0,0] [7,10,11] [] (af 4 (ao (D.N k [1,1,1,1,1,1,1]) D.K0)) (T2 a1 iV)
noncomputable def r2 (k:Nat) (a1:Arg):((List Key)×Int×Int)->Option Out:=ak (fun w v=>B2 k w (Q3 k a1) a1 v) k
theorem kR (k:Nat) (a1:Arg):s2 k a1=r2 k a1:=by
 funext iV;
 have h4:zC (af 4 (ao (D.N k [1,1,1,1,1,1,1]) D.K0)) a1=Q3 k a1:=funext fun z=>Gu k a1 z
 refine (an _ _ _ (T2 a1) (fun self v=>B2 k self (zC (af 4 (ao (D.N k [1,1,1,1,1,1,1]) D.K0)) a1) a1 v) (fun rec v=>Gt k rec (af 4 (ao (D.N k [1,1,1,1,1,1,1]) D.K0)) a1 v) k iV).trans ?_
 rw[h4]
 rfl
noncomputable def q1 (l2:((List Key)×Int×Int)->Option Out) (a1:Arg) (qv:(List Key)):Option Out:=let LF:=fun (O8:List Key)=>(l2 (O8,(0:Int),(0:Int)):Option Out);bif !decide (a1.2.2.1.2.1=(0:Int)) then (if qv.length+[a1.2.2.1].length<=bg then (LF (qv++[a1.2.2.1])) else none) else LF qv
noncomputable def Q1 (k:Nat) (a1:Arg) (qv:(List Key)):Option Out:=q1 (r2 k a1) a1 qv
theorem lY (k:Nat) (a1:Arg) (qv:(List Key)):dy (af 2 (ao (D.N k [1,1,1,1]) D.K0)) a1 qv=Q1 k a1 qv:=
 Eq.trans (b:=q1 (s2 k a1) a1 qv) (by kernel_rfl) (by rw[kR];rfl)
noncomputable def s1 (k:Nat) (a1:Arg):((List Key)×Int)->Option Out:=fun bH=>D.L k [1,1,1,0,1,0,0] [1,5,7,9] [] (af 2 (ao (D.N k [1,1,1,1]) D.K0)) (T1 a1 bH)
noncomputable def r1 (k:Nat) (a1:Arg):((List Key)×Int)->Option Out:=ak (fun w v=>B1 k w (Q1 k a1) a1 v) k
theorem fY (k:Nat) (a1:Arg):s1 k a1=r1 k a1:=by
 funext bH;
 have Y:dy (af 2 (ao (D.N k [1,1,1,1]) D.K0)) a1=Q1 k a1:=funext fun z=>lY k a1 z
 refine (an _ _ _ (T1 a1) (fun self v=>B1 k self (dy (af 2 (ao (D.N k [1,1,1,1]) D.K0)) a1) a1 v) (fun rec v=>lX k rec (af 2 (ao (D.N k [1,1,1,1]) D.K0)) a1 v) k bH).trans ?_
 rw[Y]
 rfl
noncomputable def q0 (l1:((List Key)×Int)->Option Out) (a1:Arg) (bQ:(List Key)):Option Out:=l1 (bQ,(0:Int))
noncomputable def Q0 (k:Nat) (a1:Arg) (bQ:(List Key)):Option Out:=q0 (r1 k a1) a1 bQ
theorem kS (k:Nat) (a1:Arg) (bQ:(List Key)):bn (af 0 (ao (D.N k [1,1,1]) D.K0)) a1 bQ=Q0 k a1 bQ:=
 Eq.trans (b:=q0 (s1 k a1) a1 bQ) (by kernel_rfl) (by rw[fY];rfl)
noncomputable def s0 (k:Nat) (a1:Arg):((List Key)×Int)->Option Out:=fun J=>D.L k [1,1,0,1,0,0] [0,1,5,7,8] [] (af 0 (ao (D.N k [1,1,1]) D.K0)) (T0 a1 J)
noncomputable def r0 (k:Nat) (a1:Arg):((List Key)×Int)->Option Out:=ak (fun w v=>B0 k w (Q0 k a1) a1 v) k
theorem au (k:Nat) (a1:Arg):s0 k a1=r0 k a1:=by
 funext J;
 have h0:bn (af 0 (ao (D.N k [1,1,1]) D.K0)) a1=Q0 k a1:=funext fun z=>kS k a1 z
 refine (an _ _ _ (T0 a1) (fun self v=>B0 k self (bn (af 0 (ao (D.N k [1,1,1]) D.K0)) a1) a1 v) (fun rec v=>fX k rec (af 0 (ao (D.N k [1,1,1]) D.K0)) a1 v) k J).trans ?_
 rw[h0]
 rfl
noncomputable def p (l0:((List Key)×Int)->Option Out) (a1:Arg):Option Out:=l0 (([]:List Key),(0:Int))
theorem aa (k:Nat) (a1:Arg):@Eq (Option Out) (D.W k a1) (p (r0 k a1) a1):=
 Eq.trans (b:=p (s0 k a1) a1) (by kernel_rfl) (by rw[au])
theorem ok:Ok prog 143 D.sig:=aq func143 aB (by kernel_rfl) (al _)
end aO
namespace iK
abbrev Arg:Type:=Plain×Unit
abbrev Out:Type:=Int×Unit
abbrev ps:PQ:=[(.ro,(.ptr sM))]
noncomputable def D:FD:={ fn:=f72,tl:=aL,ps:=ps,rs:=[(i64,(ax i64))],gl:=[(112,ff.D.sig),(118,aS.D.sig),(141,ej.D.sig),(142,c8.D.sig),(143,aO.D.sig)],od:=[(8,[0,1,2,3,4,5,6,7,8,9,10,11,12,13,14,15,16,17,18,19,20,21,22,23,24,25]),(10,[0,1,2,3,4,5,6,7,8,9,10]),(12,[0,1,2,3,4,5,6,7,8,9,10,11,12,13])],ar:=[(8,[3,13,18,22])] }
noncomputable def ab (a:Arg):Option Out:=@lift Out fun k=>D.W k a
noncomputable def p (a1:Arg):Option Out:=(ej.ab (a1.1.1,())).bind fun r2=>bif !decide (r2.1=(0:Int)) then (some (r2.1,())) else (c8.ab (a1.1.2.1,())).bind fun r3=>bif !decide (r3.1=(0:Int)) then (some (r3.1,())) else let j8:Option Out:=(aO.ab (a1.1.1,a1.1.2.1,((0:Int),(0:Int),()),())).bind fun r9=>bif decide ((12:Int) < r9.1) then (some ((2:Int),())) else (ff.ab (a1.1.1,a1.1.2.1,())).bind fun CK=>bif !CK.2.1 then (some ((8:Int),())) else some ((0:Int),());(aS.ab (a1.1.2.2.1,(1:Int),(100:Int),())).bind fun r4=>bif !r4.1 then (some ((3:Int),())) else bif decide ((0:Int) < (a1.1.2.1.length:Int)) then (if 0<=ae ((a1.1.2.1.length:Int) - (1:Int)) then ((a1.1.2.1[(ae ((a1.1.2.1.length:Int) - (1:Int))).toNat]?).bind fun x5=>bif decide (a1.1.2.2.1<=x5.1) then (some ((3:Int),())) else j8) else none) else j8
theorem aa (k:Nat) (a1:Arg):@Eq (Option Out) (D.W k a1) (p a1):=by kernel_rfl
theorem ok:Ok prog 72 D.sig:=aq func72 aB (by kernel_rfl) (fc ff.ok (fc aS.ok (fc ej.ok (fc c8.ok (fc aO.ok (al _))))))
end iK
namespace dh
abbrev Arg:Type:=(List UInt8)×Unit
abbrev Out:Type:=Int×Unit
abbrev ps:PQ:=[(.ro,(.U u8))]
noncomputable def D:FD:={ fn:=f255,tl:=aL,ps:=ps,rs:=[(i64,(ax i64))] }
noncomputable def ab (a:Arg):Option Out:=@lift Out fun k=>D.W k a
noncomputable def p (a1:Arg):Option Out:=(a1.1[0]?).bind fun x2=>some (ae (x2.toNat:Int),())
theorem aa (k:Nat) (a1:Arg):@Eq (Option Out) (D.W k a1) (p a1):=by kernel_rfl
theorem ok:Ok prog 255 D.sig:=aq func255 aB (by kernel_rfl) (al _)
end dh
namespace bv
abbrev Arg:Type:=(List UInt8)×Int×Unit
abbrev Out:Type:=Int×Unit
abbrev ps:PQ:=[(.ro,(.U u8)),(.ro,i64)]
noncomputable def D:FD:={ fn:=f256,tl:=aL,ps:=ps,rs:=[(i64,(ax i64))] }
noncomputable def ab (a:Arg):Option Out:=@lift Out fun k=>D.W k a
noncomputable def p (a1:Arg):Option Out:=if 0<=ae ((3:Int)+(ae ((2:Int)*a1.2.1))) then ((a1.1[(ae ((3:Int)+(ae ((2:Int)*a1.2.1)))).toNat]?).bind fun x2=>some (ae (x2.toNat:Int),())) else none
theorem aa (k:Nat) (a1:Arg):@Eq (Option Out) (D.W k a1) (p a1):=by kernel_rfl
theorem ok:Ok prog 256 D.sig:=aq func256 aB (by kernel_rfl) (al _)
end bv
namespace jq
abbrev Arg:Type:=Int×Int×Unit
abbrev Out:Type:=Bool×Unit
abbrev ps:PQ:=[(.ro,i64),(.ro,i64)]
noncomputable def D:FD:={ fn:=f298,tl:=aL,ps:=ps,rs:=[(.bool,(ax .bool))],gl:=[(118,aS.D.sig)] }
noncomputable def ab (a:Arg):Option Out:=@lift Out fun k=>D.W k a
noncomputable def p (a1:Arg):Option Out:=(aS.ab (a1.1,(0:Int),(11:Int),())).bind fun r2=>bif r2.1 then ((aS.ab (a1.2.1,(0:Int),(15:Int),())).bind fun r3=>some (r3.1,())) else some (false,())
theorem aa (k:Nat) (a1:Arg):@Eq (Option Out) (D.W k a1) (p a1):=by kernel_rfl
theorem ok:Ok prog 298 D.sig:=aq func298 aB (by kernel_rfl) (fc aS.ok (al _))
end jq
namespace fm
abbrev Arg:Type:=(List UInt8)×Unit
abbrev Out:Type:=kP×Bool×Unit
abbrev ps:PQ:=[(.ro,(.U u8))]
noncomputable def D:FD:={ fn:=f257,tl:=aL,ps:=ps,rs:=[(j6,(ax j6)),(.bool,(ax .bool))],gl:=[(213,dg.D.sig),(298,jq.D.sig)],od:=[(2,[0,1,2,3,4,5,6,7,8,9,10]),(3,[0,1,2,3,4,5,6,7]),(6,[0,1,2,3,4,5,6,7,8,9,10,11,12,13,14,15,16,17,18,19,20,21,22,23]),(7,[0,1,2,3,4,5,6,7,8,9])] }
noncomputable def ab (a:Arg):Option Out:=@lift Out fun k=>D.W k a
noncomputable def p (a1:Arg):Option Out:=let Qk:Option Out:=bif decide ((a1.1.length:Int) < (6:Int)) then (some (((0:Int),(0:Int),(0:Int),(0:Int),((0:Int),(0:Int),(0:Int),([]:List UInt8),()),()),false,())) else (a1.1[0]?).bind fun S5=>bif decide ((S5.toNat:Int)=(1:Int)) then (some (((0:Int),(0:Int),(0:Int),(0:Int),((0:Int),(0:Int),(0:Int),([]:List UInt8),()),()),false,())) else (a1.1[0]?).bind fun S6=>bif decide ((2:Int) < (S6.toNat:Int)) then (some (((0:Int),(0:Int),(0:Int),(0:Int),((0:Int),(0:Int),(0:Int),([]:List UInt8),()),()),false,())) else (a1.1[5]?).bind fun S7=>bif !decide ((a1.1.length:Int)=ae ((6:Int)+(ae (S7.toNat:Int)))) then (some (((0:Int),(0:Int),(0:Int),(0:Int),((0:Int),(0:Int),(0:Int),([]:List UInt8),()),()),false,())) else (a1.1[1]?).bind fun Ql=>(a1.1[2]?).bind fun Qm=>(a1.1[3]?).bind fun S8=>(a1.1[4]?).bind fun CL=>if 0<=(6:Int)/\(6:Int)<=(a1.1.length:Int) then (let Qn:=ae ((ae ((ae (S8.toNat:Int))*(256:Int)))+(ae (CL.toNat:Int)));(a1.1[0]?).bind fun S9=>(dg.ab ((ae (Ql.toNat:Int),ae (Qm.toNat:Int),Qn,(a1.1.take a1.1.length).drop 6,()),())).bind fun S_=>some (((0:Int),ae (S9.toNat:Int),(0:Int),(0:Int),(ae (Ql.toNat:Int),ae (Qm.toNat:Int),Qn,(a1.1.take a1.1.length).drop 6,()),()),decide (S_.1=(0:Int)),())) else none;bif decide ((a1.1.length:Int)=(3:Int)) then ((a1.1[0]?).bind fun x2=>bif decide ((x2.toNat:Int)=(1:Int)) then ((a1.1[1]?).bind fun x3=>(a1.1[2]?).bind fun x4=>(jq.ab (ae (x3.toNat:Int),ae (x4.toNat:Int),())).bind fun r5=>some (((0:Int),(1:Int),ae (x3.toNat:Int),ae (x4.toNat:Int),((0:Int),(0:Int),(0:Int),([]:List UInt8),()),()),r5.1,())) else Qk) else Qk
theorem aa (k:Nat) (a1:Arg):@Eq (Option Out) (D.W k a1) (p a1):=by kernel_rfl
theorem ok:Ok prog 257 D.sig:=aq func257 aB (by kernel_rfl) (fc dg.ok (fc jq.ok (al _)))
end fm
namespace di
abbrev Arg:Type:=(List UInt8)×Int×Unit
abbrev Out:Type:=Int×Unit
abbrev ps:PQ:=[(.ro,(.U u8)),(.ro,i64)]
noncomputable def D:FD:={ fn:=f299,tl:=aL,ps:=ps,rs:=[(i64,(ax i64))] }
noncomputable def ab (a:Arg):Option Out:=@lift Out fun k=>D.W k a
noncomputable def p (a1:Arg):Option Out:=if 0<=ae ((2:Int)+(ae ((2:Int)*a1.2.1))) then ((a1.1[(ae ((2:Int)+(ae ((2:Int)*a1.2.1)))).toNat]?).bind fun x2=>some (ae (x2.toNat:Int),())) else none
theorem aa (k:Nat) (a1:Arg):@Eq (Option Out) (D.W k a1) (p a1):=by kernel_rfl
theorem ok:Ok prog 299 D.sig:=aq func299 aB (by kernel_rfl) (al _)
end di
namespace fq
abbrev Arg:Type:=(List UInt8)×Int×Unit
abbrev Out:Type:=(List UInt8)×Unit
abbrev ps:PQ:=[(.ro,(.U u8)),(.ro,i64)]
noncomputable def D:FD:={ fn:=f258,tl:=aL,ps:=ps,rs:=[((.U u8),(am (.U u8)))],gl:=[(256,bv.D.sig),(299,di.D.sig)] }
noncomputable def ab (a:Arg):Option Out:=@lift Out fun k=>D.W k a
noncomputable def p (a1:Arg):Option Out:=(di.ab (a1.1,a1.2.1,())).bind fun r2=>(bv.ab (a1.1,a1.2.1,())).bind fun r3=>if 0<=r2.1/\r2.1<=ae (r2.1+r3.1)/\ae (r2.1+r3.1)<=(a1.1.length:Int) then (if ([]:List UInt8).length+((a1.1.take (ae (r2.1+r3.1)).toNat).drop r2.1.toNat).length<=bg then (let y4:=([]:List UInt8)++((a1.1.take (ae (r2.1+r3.1)).toNat).drop r2.1.toNat);some (y4,())) else none) else none
theorem aa (k:Nat) (a1:Arg):@Eq (Option Out) (D.W k a1) (p a1):=by kernel_rfl
theorem ok:Ok prog 258 D.sig:=aq func258 aB (by kernel_rfl) (fc bv.ok (fc di.ok (al _)))
end fq
namespace bI
abbrev Arg:Type:=(List (List UInt8))×Unit
abbrev Out:Type:=(List aw)×Unit
abbrev ps:PQ:=[(.ro,(.U (.U u8)))]
noncomputable def D:FD:={ fn:=f192,tl:=aL,ps:=ps,rs:=[((.U dQ),(am (.U dQ)))],gl:=[(255,dh.D.sig),(256,bv.D.sig),(257,fm.D.sig),(258,fq.D.sig)],lv:=[(3,[0,3,4]),(6,[0,3,4,5])],lx:=[(0,[3]),(2,[0,3,4])] }
noncomputable def ab (a:Arg):Option Out:=@lift Out fun k=>D.W k a
noncomputable def T0 (a1:Arg) (J:(List (List UInt8))×(List aw)×Int):St:={ n:=49,sl:=[(0,.val (.U (.U u8)) J.1),(3,.own (.U dQ) (am (.U dQ)) [] J.2.1),(4,.val i64 J.2.2)],vr:=[],av:=[] }
noncomputable def S0 (rec:RT Out) (a1:Arg):((List (List UInt8))×(List aw)×Int)->Option Out:=fun J=>rec (T0 a1 J)
noncomputable def bn (K:KT Out) (a1:Arg):(List aw)->Option Out:=fun z=>K (.exit 0) ({ n:=49,sl:=[(3,.own (.U dQ) (am (.U dQ)) [] z)],vr:=[],av:=[] })
noncomputable def T1 (a1:Arg) (fQ:List (List UInt8)) (ec:Int) (fZ:(List aw)×Int):St:={ n:=49,sl:=[(0,.val (.U (.U u8)) fQ),(3,.own (.U dQ) (am (.U dQ)) [] fZ.1),(4,.val i64 ec),(5,.val i64 fZ.2)],vr:=[],av:=[] }
noncomputable def b1 (self:((List aw)×Int)->Option Out) (e2:(List aw)->Option Out) (a1:Arg) (fQ:List (List UInt8)) (ec:Int) (fZ:(List aw)×Int):Option Out:=if 0<=ec then ((fQ[ec.toNat]?).bind fun Gq=>(dh.ab (Gq,())).bind fun O9=>bif decide (fZ.2 < O9.1) then (if 0<=ec then ((fQ[ec.toNat]?).bind fun yw=>(bv.ab (yw,fZ.2,())).bind fun Gv=>bif decide ((0:Int) < Gv.1) then (if 0<=ec then ((fQ[ec.toNat]?).bind fun yx=>(fq.ab (yx,fZ.2,())).bind fun yy=>(fm.ab (yy.1,())).bind fun Bd=>if fZ.1.length+[(ec,fZ.2,Bd.1,())].length<=bg then (let Gw:=fZ.1++[(ec,fZ.2,Bd.1,())];self (Gw,ae (fZ.2+(1:Int)))) else none) else none) else self (fZ.1,ae (fZ.2+(1:Int)))) else none) else e2 fZ.1) else none
noncomputable abbrev B1 (_:Nat):=b1
noncomputable def q0 (self:((List (List UInt8))×(List aw)×Int)->Option Out) (e0:(List aw)->Option Out) (a1:Arg) (fQ:List (List UInt8)) (ec:Int) (LG:(List aw)):Option Out:=self (fQ,LG,ae (ec+(1:Int)))
noncomputable abbrev Q0 (_:Nat):=q0
noncomputable def s1 (k:Nat) (rec:RT Out) (K:KT Out) (a1:Arg):(List (List UInt8))->Int->((List aw)×Int)->Option Out:=fun fQ ec=>fun fZ=>D.L k [1,1,0,1,0,0,1,0,0,1,0,0] [0,3,4,5] [] (af 2 (af 1 (ao (D.N k [1,1,0,1,0,0,1,1]) (dj rec (b9 [0,3,4] []) K)))) (T1 a1 fQ ec fZ)
noncomputable def r1 (k:Nat) (self:((List (List UInt8))×(List aw)×Int)->Option Out) (e0:(List aw)->Option Out) (a1:Arg):(List (List UInt8))->Int->((List aw)×Int)->Option Out:=fun fQ ec=>ak (fun w v=>B1 k w (Q0 k self e0 a1 fQ ec) a1 fQ ec v) k
theorem fY (k:Nat) (rec:RT Out) (K:KT Out) (a1:Arg):s1 k rec K a1=r1 k (S0 rec a1) (bn K a1) a1:=
 funext fun fQ=>funext fun ec=>funext fun fZ=>an _ _ _ (T1 a1 fQ ec) _ (fun rec v=>by kernel_rfl) k fZ
noncomputable def b0 (self:((List (List UInt8))×(List aw)×Int)->Option Out) (e0:(List aw)->Option Out) (l1:(List (List UInt8))->Int->((List aw)×Int)->Option Out) (a1:Arg) (J:(List (List UInt8))×(List aw)×Int):Option Out:=bif decide (J.2.2 < (J.1.length:Int)) then (l1 J.1 J.2.2 (J.2.1,(0:Int))) else e0 J.2.1
noncomputable def B0 (k:Nat) (self:((List (List UInt8))×(List aw)×Int)->Option Out) (e0:(List aw)->Option Out) (a1:Arg) (J:(List (List UInt8))×(List aw)×Int):Option Out:=b0 self e0 (r1 k self e0 a1) a1 J
theorem fX (k:Nat) (rec:RT Out) (K:KT Out) (a1:Arg) (J:(List (List UInt8))×(List aw)×Int):D.N k [1,1,0,1,0,0] (T0 a1 J) (dj rec (b9 [0,3,4] []) K)=B0 k (S0 rec a1) (bn K a1) a1 J:=
 Eq.trans (b:=b0 (S0 rec a1) (bn K a1) (s1 k rec K a1) a1 J) (by kernel_rfl) (by rw[fY];rfl)
noncomputable def q1 (a1:Arg) (qw:(List aw)):Option Out:=some (qw,())
noncomputable abbrev Q1 (_:Nat):=q1
theorem lY (k:Nat) (a1:Arg) (qw:(List aw)):bn (af 0 (ao (D.N k [1,1,1]) D.K0)) a1 qw=q1 a1 qw:=by kernel_rfl
noncomputable def s0 (k:Nat) (a1:Arg):((List (List UInt8))×(List aw)×Int)->Option Out:=fun J=>D.L k [1,1,0,1,0,0] [0,3,4] [] (af 0 (ao (D.N k [1,1,1]) D.K0)) (T0 a1 J)
noncomputable def r0 (k:Nat) (a1:Arg):((List (List UInt8))×(List aw)×Int)->Option Out:=ak (fun w v=>B0 k w (Q1 k a1) a1 v) k
theorem au (k:Nat) (a1:Arg):s0 k a1=r0 k a1:=by
 funext J;
 have h0:bn (af 0 (ao (D.N k [1,1,1]) D.K0)) a1=Q1 k a1:=funext fun z=>lY k a1 z
 refine (an _ _ _ (T0 a1) (fun self v=>B0 k self (bn (af 0 (ao (D.N k [1,1,1]) D.K0)) a1) a1 v) (fun rec v=>fX k rec (af 0 (ao (D.N k [1,1,1]) D.K0)) a1 v) k J).trans ?_
 rw[h0]
 rfl
noncomputable def p (l0:((List (List UInt8))×(List aw)×Int)->Option Out) (a1:Arg):Option Out:=l0 (a1.1,([]:List aw),(0:Int))
theorem aa (k:Nat) (a1:Arg):@Eq (Option Out) (D.W k a1) (p (r0 k a1) a1):=
 Eq.trans (b:=p (s0 k a1) a1) (by kernel_rfl) (by rw[au])
theorem ok:Ok prog 192 D.sig:=aq func192 aB (by kernel_rfl) (fc dh.ok (fc bv.ok (fc fm.ok (fc fq.ok (al _)))))
end bI
namespace kT
abbrev Arg:Type:=(List UInt8)×Int×Unit
abbrev Out:Type:=Bool×Unit
abbrev ps:PQ:=[(.ro,(.U u8)),(.ro,i64)]
noncomputable def D:FD:={ fn:=f278,tl:=aL,ps:=ps,rs:=[(.bool,(ax .bool))],gl:=[(118,aS.D.sig),(255,dh.D.sig),(256,bv.D.sig)] }
noncomputable def ab (a:Arg):Option Out:=@lift Out fun k=>D.W k a
noncomputable def p (a1:Arg):Option Out:=(dh.ab (a1.1,())).bind fun r2=>(aS.ab (a1.2.1,(0:Int),ae (r2.1 - (1:Int)),())).bind fun r3=>bif r3.1 then ((bv.ab (a1.1,a1.2.1,())).bind fun r4=>some (decide ((0:Int) < r4.1),())) else some (false,())
theorem aa (k:Nat) (a1:Arg):@Eq (Option Out) (D.W k a1) (p a1):=by kernel_rfl
theorem ok:Ok prog 278 D.sig:=aq func278 aB (by kernel_rfl) (fc aS.ok (fc dh.ok (fc bv.ok (al _))))
end kT
namespace fR
abbrev Arg:Type:=(List (List UInt8))×Int×Int×Unit
abbrev Out:Type:=kP×Bool×Unit
abbrev ps:PQ:=[(.ro,(.U (.U u8))),(.ro,i64),(.ro,i64)]
noncomputable def D:FD:={ fn:=f219,tl:=aL,ps:=ps,rs:=[(j6,(ax j6)),(.bool,(ax .bool))],gl:=[(118,aS.D.sig),(257,fm.D.sig),(258,fq.D.sig),(278,kT.D.sig)] }
noncomputable def ab (a:Arg):Option Out:=@lift Out fun k=>D.W k a
noncomputable def p (a1:Arg):Option Out:=(aS.ab (a1.2.1,(0:Int),ae ((a1.1.length:Int) - (1:Int)),())).bind fun r2=>bif !r2.1 then (some (((0:Int),(0:Int),(0:Int),(0:Int),((0:Int),(0:Int),(0:Int),([]:List UInt8),()),()),false,())) else if 0<=a1.2.1 then ((a1.1[a1.2.1.toNat]?).bind fun x3=>(kT.ab (x3,a1.2.2.1,())).bind fun r4=>bif !r4.1 then (some (((0:Int),(0:Int),(0:Int),(0:Int),((0:Int),(0:Int),(0:Int),([]:List UInt8),()),()),false,())) else if 0<=a1.2.1 then ((a1.1[a1.2.1.toNat]?).bind fun x5=>(fq.ab (x5,a1.2.2.1,())).bind fun r6=>(fm.ab (r6.1,())).bind fun r7=>some (r7.1,r7.2.1,())) else none) else none
theorem aa (k:Nat) (a1:Arg):@Eq (Option Out) (D.W k a1) (p a1):=by kernel_rfl
theorem ok:Ok prog 219 D.sig:=aq func219 aB (by kernel_rfl) (fc aS.ok (fc fm.ok (fc fq.ok (fc kT.ok (al _)))))
end fR
namespace ek
abbrev Arg:Type:=(List (List UInt8))×Unit
abbrev Out:Type:=(List aw)×Unit
abbrev ps:PQ:=[(.ro,(.U (.U u8)))]
noncomputable def D:FD:={ fn:=f145,tl:=aL,ps:=ps,rs:=[((.U dQ),(am (.U dQ)))],gl:=[(192,bI.D.sig),(219,fR.D.sig)],lv:=[(4,[0,3,4,5])],lx:=[(0,[3]),(1,[0,3,4,5])] }
noncomputable def ab (a:Arg):Option Out:=@lift Out fun k=>D.W k a
noncomputable def T0 (a1:Arg) (fe:List aw) (aX:(List aw)×Int):St:={ n:=50,sl:=[(0,.val (.U (.U u8)) a1.1),(3,.own (.U dQ) (am (.U dQ)) [] aX.1),(4,.own (.U dQ) (am (.U dQ)) [] fe),(5,.val i64 aX.2)],vr:=[],av:=[] }
noncomputable def b0 (self:((List aw)×Int)->Option Out) (e0:(List aw)->Option Out) (a1:Arg) (fe:List aw) (aX:(List aw)×Int):Option Out:=bif decide (aX.2 < (fe.length:Int)) then (if 0<=aX.2/\aX.2 < (fe.length:Int) then ((fe[aX.2.toNat]?).bind fun cg=>bif decide (cg.2.2.1.2.1=(2:Int)) then (self (aX.1,ae (aX.2+(1:Int)))) else let CJ:=fun (N2:aw)=>(if aX.1.length+[N2].length<=bg then (self (aX.1++[N2],ae (aX.2+(1:Int)))) else none:Option Out);bif decide (cg.2.2.1.2.1=(1:Int)) then ((fR.ab (a1.1,cg.2.2.1.2.2.1,cg.2.2.1.2.2.2.1,())).bind fun kw=>CJ (cg.1,cg.2.1,(cg.2.2.1.1,cg.2.2.1.2.1,cg.2.2.1.2.2.1,cg.2.2.1.2.2.2.1,kw.1.2.2.2.2.1,cg.2.2.1.2.2.2.2.2),cg.2.2.2)) else CJ cg) else none) else e0 aX.1
noncomputable abbrev B0 (_:Nat):=b0
noncomputable def q0 (a1:Arg) (fe:List aw) (Rg:(List aw)):Option Out:=some (Rg,())
noncomputable abbrev Q0 (_:Nat):=q0
noncomputable def s0 (k:Nat) (a1:Arg):(List aw)->((List aw)×Int)->Option Out:=fun fe=>fun aX=>D.L k [1,1,1,0,1,0,0] [0,3,4,5] [] (af 0 (ao (D.N k [1,1,1,1]) D.K0)) (T0 a1 fe aX)
noncomputable def r0 (k:Nat) (a1:Arg):(List aw)->((List aw)×Int)->Option Out:=fun fe=>ak (fun w v=>B0 k w (Q0 k a1 fe) a1 fe v) k
theorem au (k:Nat) (a1:Arg):s0 k a1=r0 k a1:=
 funext fun fe=>funext fun aX=>an _ _ _ (T0 a1 fe) _ (fun rec v=>by kernel_rfl) k aX
noncomputable def p (l0:(List aw)->((List aw)×Int)->Option Out) (a1:Arg):Option Out:=(bI.ab (a1.1,())).bind fun r2=>l0 r2.1 (([]:List aw),(0:Int))
theorem aa (k:Nat) (a1:Arg):@Eq (Option Out) (D.W k a1) (p (r0 k a1) a1):=
 Eq.trans (b:=p (s0 k a1) a1) (by kernel_rfl) (by rw[au])
theorem ok:Ok prog 145 D.sig:=aq func145 aB (by kernel_rfl) (fc bI.ok (fc fR.ok (al _)))
end ek
namespace c9
abbrev Arg:Type:=(List (List UInt8))×Unit
abbrev Out:Type:=(List Row)×Unit
abbrev ps:PQ:=[(.ro,(.U (.U u8)))]
noncomputable def D:FD:={ fn:=f75,tl:=aL,ps:=ps,rs:=[((.U aA),(am (.U aA)))],gl:=[(145,ek.D.sig),(146,eb.D.sig)],lv:=[(4,[3,4,5])],lx:=[(0,[3])] }
noncomputable def ab (a:Arg):Option Out:=@lift Out fun k=>D.W k a
noncomputable def T0 (a1:Arg) (fe:List aw) (aX:(List Row)×Int):St:={ n:=24,sl:=[(3,.own (.U aA) (am (.U aA)) [] aX.1),(4,.own (.U dQ) (am (.U dQ)) [] fe),(5,.val i64 aX.2)],vr:=[],av:=[] }
noncomputable def b0 (self:((List Row)×Int)->Option Out) (e0:(List Row)->Option Out) (a1:Arg) (fe:List aw) (aX:(List Row)×Int):Option Out:=bif decide (aX.2 < (fe.length:Int)) then (if 0<=aX.2/\aX.2 < (fe.length:Int) then ((fe[aX.2.toNat]?).bind fun cg=>(eb.ab (aX.1,cg.2.2.1.2.2.2.2.1,())).bind fun kw=>self (kw.1,ae (aX.2+(1:Int)))) else none) else e0 aX.1
noncomputable abbrev B0 (_:Nat):=b0
noncomputable def q0 (a1:Arg) (fe:List aw) (gg:(List Row)):Option Out:=some (gg,())
noncomputable abbrev Q0 (_:Nat):=q0
noncomputable def s0 (k:Nat) (a1:Arg):(List aw)->((List Row)×Int)->Option Out:=fun fe=>fun aX=>D.L k [1,1,1,0,1,0,0] [3,4,5] [] (af 0 (ao (D.N k [1,1,1,1]) D.K0)) (T0 a1 fe aX)
noncomputable def r0 (k:Nat) (a1:Arg):(List aw)->((List Row)×Int)->Option Out:=fun fe=>ak (fun w v=>B0 k w (Q0 k a1 fe) a1 fe v) k
theorem au (k:Nat) (a1:Arg):s0 k a1=r0 k a1:=
 funext fun fe=>funext fun aX=>an _ _ _ (T0 a1 fe) _ (fun rec v=>by kernel_rfl) k aX
noncomputable def p (l0:(List aw)->((List Row)×Int)->Option Out) (a1:Arg):Option Out:=(ek.ab (a1.1,())).bind fun r2=>l0 r2.1 (([]:List Row),(0:Int))
theorem aa (k:Nat) (a1:Arg):@Eq (Option Out) (D.W k a1) (p (r0 k a1) a1):=
 Eq.trans (b:=p (s0 k a1) a1) (by kernel_rfl) (by rw[au])
theorem ok:Ok prog 75 D.sig:=aq func75 aB (by kernel_rfl) (fc ek.ok (fc eb.ok (al _)))
end c9
namespace du
abbrev Arg:Type:=(List UInt8)×Unit
abbrev Out:Type:=(List UInt8)×Unit
abbrev ps:PQ:=[(.ro,(.U u8))]
noncomputable def D:FD:={ fn:=f109,tl:=aL,ps:=ps,rs:=[((.U u8),(am (.U u8)))] }
noncomputable def ab (a:Arg):Option Out:=@lift Out fun k=>D.W k a
noncomputable def p (a1:Arg):Option Out:=if ([]:List UInt8).length+a1.1.length<=bg then (some (([]:List UInt8)++a1.1,())) else none
theorem aa (k:Nat) (a1:Arg):@Eq (Option Out) (D.W k a1) (p a1):=by kernel_rfl
theorem ok:Ok prog 109 D.sig:=aq func109 aB (by kernel_rfl) (al _)
end du
namespace ft
abbrev Arg:Type:=(List UInt8)×Unit
abbrev Out:Type:=aM×Unit
abbrev ps:PQ:=[(.ro,(.U u8))]
noncomputable def D:FD:={ fn:=f226,tl:=aL,ps:=ps,rs:=[(bO,(am bO))],gl:=[(109,du.D.sig)],lv:=[(4,[0,2,3,4,5])],lx:=[(0,[2,3])],od:=[(1,[0,1,2,3,4,5,6,7,8,9,10,11,12,13,14]),(8,[0,1,2,3,4,5,6,7,8,9,10,11,12,13,14,15,16,17,18,19,20])] }
noncomputable def ab (a:Arg):Option Out:=@lift Out fun k=>D.W k a
noncomputable def T0 (a1:Arg) (cy:aM×Int×Int):St:={ n:=73,sl:=[(0,.val (.U u8) a1.1),(2,.box bO (am bO) [] ((0:Int),(0:Int),(0:Int),([]:List cE),())),(3,.box bO (am bO) [] cy.1),(4,.val i64 cy.2.1),(5,.val i64 cy.2.2)],vr:=[],av:=[] }
noncomputable def b0 (self:(aM×Int×Int)->Option Out) (e0:aM->Option Out) (a1:Arg) (cy:aM×Int×Int):Option Out:=(a1.1[4]?).bind fun nY=>bif decide (cy.2.2 < ae (nY.toNat:Int)) then (bif decide (ae (cy.2.1+(2:Int))<=(a1.1.length:Int)) then (if 0<=ae (cy.2.1+(1:Int)) then ((a1.1[(ae (cy.2.1+(1:Int))).toNat]?).bind fun ll=>bif decide ((a1.1.length:Int) < ae ((ae (cy.2.1+(2:Int)))+(ae (ll.toNat:Int)))) then (e0 cy.1) else if 0<=cy.2.1 then ((a1.1[cy.2.1.toNat]?).bind fun CM=>if 0<=ae (cy.2.1+(2:Int))/\ae (cy.2.1+(2:Int))<=ae ((ae (cy.2.1+(2:Int)))+(ae (ll.toNat:Int)))/\ae ((ae (cy.2.1+(2:Int)))+(ae (ll.toNat:Int)))<=(a1.1.length:Int) then ((du.ab ((a1.1.take (ae ((ae (cy.2.1+(2:Int)))+(ae (ll.toNat:Int)))).toNat).drop (ae (cy.2.1+(2:Int))).toNat,())).bind fun qc=>if cy.1.2.2.2.1.length+[(ae (CM.toNat:Int),qc.1,())].length<=bg then (let qd:=cy.1.2.2.2.1++[(ae (CM.toNat:Int),qc.1,())];self ((cy.1.1,cy.1.2.1,cy.1.2.2.1,qd,cy.1.2.2.2.2),ae ((ae (cy.2.1+(2:Int)))+(ae (ll.toNat:Int))),ae (cy.2.2+(1:Int)))) else none) else none) else none) else none) else e0 cy.1) else e0 cy.1
noncomputable abbrev B0 (_:Nat):=b0
noncomputable def q0 (a1:Arg) (J1:aM):Option Out:=some (J1,())
noncomputable abbrev Q0 (_:Nat):=q0
noncomputable def s0 (k:Nat) (a1:Arg):(aM×Int×Int)->Option Out:=fun cy=>D.L k [1,1,1,0,1,0,0] [0,2,3,4,5] [] (af 0 (ao (D.N k [1,1,1,1]) D.K0)) (T0 a1 cy)
noncomputable def r0 (k:Nat) (a1:Arg):(aM×Int×Int)->Option Out:=ak (fun w v=>B0 k w (Q0 k a1) a1 v) k
theorem au (k:Nat) (a1:Arg):s0 k a1=r0 k a1:=
 funext fun cy=>an _ _ _ (T0 a1) _ (fun rec v=>by kernel_rfl) k cy
noncomputable def p (l0:(aM×Int×Int)->Option Out) (a1:Arg):Option Out:=(a1.1[1]?).bind fun x2=>(a1.1[2]?).bind fun x3=>(a1.1[3]?).bind fun x4=>l0 ((ae (x2.toNat:Int),ae (x3.toNat:Int),ae (x4.toNat:Int),([]:List cE),()),(5:Int),(0:Int))
theorem aa (k:Nat) (a1:Arg):@Eq (Option Out) (D.W k a1) (p (r0 k a1) a1):=
 Eq.trans (b:=p (s0 k a1) a1) (by kernel_rfl) (by rw[au])
theorem ok:Ok prog 226 D.sig:=aq func226 aB (by kernel_rfl) (fc du.ok (al _))
end ft
namespace gr
abbrev Arg:Type:=Int×Unit
abbrev Out:Type:=Bool×Unit
abbrev ps:PQ:=[(.ro,i64)]
noncomputable def D:FD:={ fn:=f260,tl:=aL,ps:=ps,rs:=[(.bool,(ax .bool))],gl:=[(118,aS.D.sig)] }
noncomputable def ab (a:Arg):Option Out:=@lift Out fun k=>D.W k a
noncomputable def p (a1:Arg):Option Out:=(aS.ab (a1.1,(2:Int),(4:Int),())).bind fun r2=>some (r2.1,())
theorem aa (k:Nat) (a1:Arg):@Eq (Option Out) (D.W k a1) (p a1):=by kernel_rfl
theorem ok:Ok prog 260 D.sig:=aq func260 aB (by kernel_rfl) (fc aS.ok (al _))
end gr
namespace dH
abbrev Arg:Type:=(List cE)×Unit
abbrev Out:Type:=Int×Unit
abbrev ps:PQ:=[(.ro,(.U pq))]
noncomputable def D:FD:={ fn:=f280,tl:=aL,ps:=ps,rs:=[(i64,(ax i64))],gl:=[(118,aS.D.sig)],lv:=[(4,[0,3])],lx:=[(0,[])],od:=[(9,[0,1,2,3,4,5,6,7,8,9,10,11,12,13,14,15,16,17,18,19,20,21,22,23])] }
noncomputable def ab (a:Arg):Option Out:=@lift Out fun k=>D.W k a
noncomputable def T0 (a1:Arg) (J:Int):St:={ n:=66,sl:=[(0,.val (.U pq) a1.1),(3,.val i64 J)],vr:=[],av:=[] }
noncomputable def b0 (self:Int->Option Out) (e0:(Unit)->Option Out) (a1:Arg) (J:Int):Option Out:=bif decide (J < (a1.1.length:Int)) then (if 0<=J then ((a1.1[J.toNat]?).bind fun aC=>if 0<=J then ((a1.1[J.toNat]?).bind fun cW=>(aS.ab (cW.1,(0:Int),(63:Int),())).bind fun gU=>bif !gU.1 then (some ((3:Int),())) else (aS.ab ((aC.2.1.length:Int),(1:Int),(64:Int),())).bind fun kw=>bif !kw.1 then (some ((3:Int),())) else if 0<=J then ((a1.1[J.toNat]?).bind fun ll=>bif decide ((64:Int) < ae (ll.1+(aC.2.1.length:Int))) then (some ((3:Int),())) else bif decide ((0:Int) < J) then (if 0<=J then ((a1.1[J.toNat]?).bind fun CM=>if 0<=ae (J - (1:Int)) then ((a1.1[(ae (J - (1:Int))).toNat]?).bind fun su=>if 0<=ae (J - (1:Int)) then ((a1.1[(ae (J - (1:Int))).toNat]?).bind fun zD=>bif decide (CM.1<=ae (su.1+(zD.2.1.length:Int))) then (some ((1:Int),())) else self (ae (J+(1:Int)))) else none) else none) else none) else self (ae (J+(1:Int)))) else none) else none) else none) else e0 ()
noncomputable abbrev B0 (_:Nat):=b0
noncomputable def q0 (a1:Arg) (J1:(Unit)):Option Out:=some ((0:Int),())
noncomputable abbrev Q0 (_:Nat):=q0
noncomputable def s0 (k:Nat) (a1:Arg):(Int)->Option Out:=fun J=>D.L k [1,1,0,1,0,0] [0,3] [] (af 0 (ao (D.N k [1,1,1]) D.K0)) (T0 a1 J)
noncomputable def r0 (k:Nat) (a1:Arg):(Int)->Option Out:=ak (fun w v=>B0 k w (Q0 k a1) a1 v) k
theorem au (k:Nat) (a1:Arg):s0 k a1=r0 k a1:=
 funext fun J=>an _ _ _ (T0 a1) _ (fun rec v=>by kernel_rfl) k J
noncomputable def p (l0:(Int)->Option Out) (a1:Arg):Option Out:=bif decide ((64:Int) < (a1.1.length:Int)) then (some ((2:Int),())) else l0 (0:Int)
theorem aa (k:Nat) (a1:Arg):@Eq (Option Out) (D.W k a1) (p (r0 k a1) a1):=
 Eq.trans (b:=p (s0 k a1) a1) (by kernel_rfl) (by rw[au])
theorem ok:Ok prog 280 D.sig:=aq func280 aB (by kernel_rfl) (fc aS.ok (al _))
end dH
namespace gi
abbrev Arg:Type:=aM×Unit
abbrev Out:Type:=Int×Unit
abbrev ps:PQ:=[(.ro,(.ptr bO))]
noncomputable def D:FD:={ fn:=f227,tl:=aL,ps:=ps,rs:=[(i64,(ax i64))],gl:=[(118,aS.D.sig),(260,gr.D.sig),(280,dH.D.sig)] }
noncomputable def ab (a:Arg):Option Out:=@lift Out fun k=>D.W k a
noncomputable def p (a1:Arg):Option Out:=let LH:Option Out:=let Qo:Option Out:=(gr.ab (a1.1.1,())).bind fun Ta=>bif !Ta.1 then (some ((0:Int),())) else (dH.ab (a1.1.2.2.2.1,())).bind fun Qp=>bif !decide (Qp.1=(0:Int)) then (some (Qp.1,())) else bif decide ((a1.1.2.2.2.1.length:Int)=(0:Int)) then (some ((1:Int),())) else bif decide (a1.1.1=(4:Int)) then ((a1.1.2.2.2.1[0]?).bind fun CL=>bif !decide ((CL.2.1.length:Int)=(64:Int)) then (some ((1:Int),())) else some ((0:Int),())) else some ((0:Int),());bif !decide (a1.1.1=(4:Int)) then ((aS.ab (a1.1.2.1,(1:Int),(99:Int),())).bind fun N3=>bif !N3.1 then (some ((3:Int),())) else (aS.ab (a1.1.2.2.1,(0:Int),(11:Int),())).bind fun N4=>bif !N4.1 then (some ((3:Int),())) else Qo) else (aS.ab (a1.1.2.2.1,(0:Int),(11:Int),())).bind fun IE=>bif !IE.1 then (some ((3:Int),())) else Qo;(aS.ab (a1.1.1,(1:Int),(6:Int),())).bind fun r2=>bif !r2.1 then (some ((1:Int),())) else (gr.ab (a1.1.1,())).bind fun r3=>bif !r3.1 then (bif !decide (a1.1.2.2.1=(0:Int)) then (some ((1:Int),())) else bif decide ((0:Int) < (a1.1.2.2.2.1.length:Int)) then (some ((1:Int),())) else bif decide (a1.1.1=(4:Int)) then (bif !decide (a1.1.2.1=(0:Int)) then (some ((1:Int),())) else LH) else LH) else bif decide (a1.1.1=(4:Int)) then (bif !decide (a1.1.2.1=(0:Int)) then (some ((1:Int),())) else LH) else LH
theorem aa (k:Nat) (a1:Arg):@Eq (Option Out) (D.W k a1) (p a1):=by kernel_rfl
theorem ok:Ok prog 227 D.sig:=aq func227 aB (by kernel_rfl) (fc aS.ok (fc gr.ok (fc dH.ok (al _))))
end gi
namespace f0
abbrev Arg:Type:=(List UInt8)×Unit
abbrev Out:Type:=Int×Unit
abbrev ps:PQ:=[(.ro,(.U u8))]
noncomputable def D:FD:={ fn:=f281,tl:=aL,ps:=ps,rs:=[(i64,(ax i64))],lv:=[(3,[0,3,4])],lx:=[(0,[3])] }
noncomputable def ab (a:Arg):Option Out:=@lift Out fun k=>D.W k a
noncomputable def T0 (a1:Arg) (J:Int×Int):St:={ n:=21,sl:=[(0,.val (.U u8) a1.1),(3,.val i64 J.1),(4,.val i64 J.2)],vr:=[],av:=[] }
noncomputable def b0 (self:(Int×Int)->Option Out) (e0:Int->Option Out) (a1:Arg) (J:Int×Int):Option Out:=bif decide (J.2 < (a1.1.length:Int)) then (if 0<=J.2 then ((a1.1[J.2.toNat]?).bind fun aC=>self ((ae ((ae (J.1*(31:Int)))+(ae (aC.toNat:Int)))).tmod (65521:Int),ae (J.2+(1:Int)))) else none) else e0 J.1
noncomputable abbrev B0 (_:Nat):=b0
noncomputable def q0 (a1:Arg) (jc:Int):Option Out:=some (jc,())
noncomputable abbrev Q0 (_:Nat):=q0
noncomputable def s0 (k:Nat) (a1:Arg):(Int×Int)->Option Out:=fun J=>D.L k [1,1,0,1,0,0] [0,3,4] [] (af 0 (ao (D.N k [1,1,1]) D.K0)) (T0 a1 J)
noncomputable def r0 (k:Nat) (a1:Arg):(Int×Int)->Option Out:=ak (fun w v=>B0 k w (Q0 k a1) a1 v) k
theorem au (k:Nat) (a1:Arg):s0 k a1=r0 k a1:=
 funext fun J=>an _ _ _ (T0 a1) _ (fun rec v=>by kernel_rfl) k J
noncomputable def p (l0:(Int×Int)->Option Out) (a1:Arg):Option Out:=l0 ((1:Int),(0:Int))
theorem aa (k:Nat) (a1:Arg):@Eq (Option Out) (D.W k a1) (p (r0 k a1) a1):=
 Eq.trans (b:=p (s0 k a1) a1) (by kernel_rfl) (by rw[au])
theorem ok:Ok prog 281 D.sig:=aq func281 aB (by kernel_rfl) (al _)
end f0
namespace fu
abbrev Arg:Type:=aM×Unit
abbrev Out:Type:=(List UInt8)×Unit
abbrev ps:PQ:=[(.ro,(.ptr bO))]
noncomputable def D:FD:={ fn:=f228,tl:=aL,ps:=ps,rs:=[((.U u8),(am (.U u8)))],gl:=[(281,f0.D.sig)],lv:=[(3,[0,3,4])],lx:=[(0,[3])],od:=[(1,[0,1,2,3,4,5,6,7,8,9,10,11,12,13,14,15,16,17,18,19,20,21,22]),(5,[0,1,2,3,4,5,6,7,8,9,10,11,12,13,14,15,16,17,18,19,22,23,24,25,26,27,28,29,20,21,30,31])],ar:=[(5,[4,8,9,13,17,19,25,29])] }
noncomputable def ab (a:Arg):Option Out:=@lift Out fun k=>D.W k a
noncomputable def T0 (a1:Arg) (J:(List UInt8)×Int):St:={ n:=85,sl:=[(0,.cp bO a1.1),(3,.own (.U u8) (am (.U u8)) [] J.1),(4,.val i64 J.2)],vr:=[],av:=[] }
noncomputable def b0 (self:((List UInt8)×Int)->Option Out) (e0:(List UInt8)->Option Out) (a1:Arg) (J:(List UInt8)×Int):Option Out:=bif decide (J.2 < (a1.1.2.2.2.1.length:Int)) then (if 0<=J.2 then ((a1.1.2.2.2.1[J.2.toNat]?).bind fun aC=>if 0<=J.2 then ((a1.1.2.2.2.1[J.2.toNat]?).bind fun cW=>if 0<=J.2 then ((a1.1.2.2.2.1[J.2.toNat]?).bind fun cg=>if J.1.length+[UInt8.ofInt aC.1,UInt8.ofInt (cW.2.1.length:Int)].length<=bg then (let my:=J.1++[UInt8.ofInt aC.1,UInt8.ofInt (cW.2.1.length:Int)];if my.length+cg.2.1.length<=bg then (self (my++cg.2.1,ae (J.2+(1:Int)))) else none) else none) else none) else none) else none) else e0 J.1
noncomputable abbrev B0 (_:Nat):=b0
noncomputable def q0 (a1:Arg) (gg:(List UInt8)):Option Out:=if 0<=(0:Int)/\(0:Int) < (gg.length:Int) then ((gg[0]?).bind fun CM=>let J3:=gg.set 0 (UInt8.ofInt (ae ((gg.length:Int)+(2:Int))));(f0.ab (J3,())).bind fun tM=>if J3.length+[UInt8.ofInt (ae (tM.1.tdiv (256:Int))),UInt8.ofInt (tM.1.tmod (256:Int))].length<=bg then (let J4:=J3++[UInt8.ofInt (ae (tM.1.tdiv (256:Int))),UInt8.ofInt (tM.1.tmod (256:Int))];some (J4,())) else none) else none
noncomputable abbrev Q0 (_:Nat):=q0
noncomputable def s0 (k:Nat) (a1:Arg):((List UInt8)×Int)->Option Out:=fun J=>D.L k [1,1,0,1,0,0] [0,3,4] [] (af 0 (ao (D.N k [1,1,1]) D.K0)) (T0 a1 J)
noncomputable def r0 (k:Nat) (a1:Arg):((List UInt8)×Int)->Option Out:=ak (fun w v=>B0 k w (Q0 k a1) a1 v) k
theorem au (k:Nat) (a1:Arg):s0 k a1=r0 k a1:=
 funext fun J=>an _ _ _ (T0 a1) _ (fun rec v=>by kernel_rfl) k J
noncomputable def p (l0:((List UInt8)×Int)->Option Out) (a1:Arg):Option Out:=l0 ([(0:UInt8),UInt8.ofInt a1.1.1,UInt8.ofInt a1.1.2.1,UInt8.ofInt a1.1.2.2.1,UInt8.ofInt (a1.1.2.2.2.1.length:Int)],(0:Int))
theorem aa (k:Nat) (a1:Arg):@Eq (Option Out) (D.W k a1) (p (r0 k a1) a1):=
 Eq.trans (b:=p (s0 k a1) a1) (by kernel_rfl) (by rw[au])
theorem ok:Ok prog 228 D.sig:=aq func228 aB (by kernel_rfl) (fc f0.ok (al _))
end fu
namespace gE
abbrev Arg:Type:=(List UInt8)×Unit
abbrev Out:Type:=CH×Unit
abbrev ps:PQ:=[(.ro,(.U u8))]
noncomputable def D:FD:={ fn:=f165,tl:=aL,ps:=ps,rs:=[(qb,(am qb))],gl:=[(226,ft.D.sig),(227,gi.D.sig),(228,fu.D.sig)],od:=[(5,[0,1,2,5,6,7,8,3,4,9,10])],ar:=[(5,[8])] }
noncomputable def ab (a:Arg):Option Out:=@lift Out fun k=>D.W k a
noncomputable def p (a1:Arg):Option Out:=bif decide ((a1.1.length:Int) < (7:Int)) then (some (((5:Int),(0:Int),((0:Int),(0:Int),(0:Int),([]:List cE),()),()),())) else (a1.1[0]?).bind fun x2=>bif decide (ae (x2.toNat:Int) < (7:Int)) then (some (((5:Int),(0:Int),((0:Int),(0:Int),(0:Int),([]:List cE),()),()),())) else (a1.1[0]?).bind fun x3=>bif decide ((a1.1.length:Int) < ae (x3.toNat:Int)) then (some (((5:Int),(0:Int),((0:Int),(0:Int),(0:Int),([]:List cE),()),()),())) else (a1.1[0]?).bind fun x4=>if 0<=ae (x4.toNat:Int)/\ae (x4.toNat:Int)<=(a1.1.length:Int) then ((ft.ab ((a1.1.take (ae (x4.toNat:Int)).toNat).drop 0,())).bind fun r5=>(gi.ab (r5.1,())).bind fun r6=>bif !decide (r6.1=(0:Int)) then (some (((5:Int),(0:Int),((0:Int),(0:Int),(0:Int),([]:List cE),()),()),())) else if 0<=ae (x4.toNat:Int)/\ae (x4.toNat:Int)<=(a1.1.length:Int) then ((fu.ab (r5.1,())).bind fun r7=>bif !decide (r7.1=(a1.1.take (ae (x4.toNat:Int)).toNat).drop 0) then (some (((5:Int),(0:Int),((0:Int),(0:Int),(0:Int),([]:List cE),()),()),())) else some (((0:Int),ae (x4.toNat:Int),r5.1,()),())) else none) else none
theorem aa (k:Nat) (a1:Arg):@Eq (Option Out) (D.W k a1) (p a1):=by kernel_rfl
theorem ok:Ok prog 165 D.sig:=aq func165 aB (by kernel_rfl) (fc ft.ok (fc gi.ok (fc fu.ok (al _))))
end gE
namespace dv
abbrev Arg:Type:=(List UInt8)×Unit
abbrev Out:Type:=(List aM)×Int×Unit
abbrev ps:PQ:=[(.ro,(.U u8))]
noncomputable def D:FD:={ fn:=f189,tl:=aL,ps:=ps,rs:=[((.U bO),(am (.U bO))),(i64,(ax i64))],gl:=[(165,gE.D.sig)],lv:=[(3,[0,4,5])],lx:=[(0,[4,5])] }
noncomputable def ab (a:Arg):Option Out:=@lift Out fun k=>D.W k a
noncomputable def T0 (a1:Arg) (J:(List aM)×Int):St:={ n:=30,sl:=[(0,.val (.U u8) a1.1),(4,.own (.U bO) (am (.U bO)) [] J.1),(5,.val i64 J.2)],vr:=[],av:=[] }
noncomputable def b0 (self:((List aM)×Int)->Option Out) (e0:((List aM)×Int)->Option Out) (a1:Arg) (J:(List aM)×Int):Option Out:=bif decide (J.2 < (a1.1.length:Int)) then (if 0<=J.2/\J.2<=(a1.1.length:Int) then ((gE.ab ((a1.1.take a1.1.length).drop J.2.toNat,())).bind fun tN=>bif !decide (tN.1.1=(0:Int)) then (e0 (J.1,J.2)) else if J.1.length+[tN.1.2.2.1].length<=bg then (self (J.1++[tN.1.2.2.1],ae (J.2+tN.1.2.1))) else none) else none) else e0 (J.1,J.2)
noncomputable abbrev B0 (_:Nat):=b0
noncomputable def q0 (a1:Arg) (jc:((List aM)×Int)):Option Out:=some (jc.1,jc.2,())
noncomputable abbrev Q0 (_:Nat):=q0
noncomputable def s0 (k:Nat) (a1:Arg):((List aM)×Int)->Option Out:=fun J=>D.L k [1,1,1,0,0,0] [0,4,5] [] (af 0 (ao (D.N k [1,1,1,1]) D.K0)) (T0 a1 J)
noncomputable def r0 (k:Nat) (a1:Arg):((List aM)×Int)->Option Out:=ak (fun w v=>B0 k w (Q0 k a1) a1 v) k
theorem au (k:Nat) (a1:Arg):s0 k a1=r0 k a1:=
 funext fun J=>an _ _ _ (T0 a1) _ (fun rec v=>by kernel_rfl) k J
noncomputable def p (l0:((List aM)×Int)->Option Out) (a1:Arg):Option Out:=l0 (([]:List aM),(0:Int))
theorem aa (k:Nat) (a1:Arg):@Eq (Option Out) (D.W k a1) (p (r0 k a1) a1):=
 Eq.trans (b:=p (s0 k a1) a1) (by kernel_rfl) (by rw[au])
theorem ok:Ok prog 189 D.sig:=aq func189 aB (by kernel_rfl) (fc gE.ok (al _))
end dv
namespace jr
abbrev Arg:Type:=Log×Unit
abbrev Out:Type:=Int×Unit
abbrev ps:PQ:=[(.ro,(.ptr dP))]
noncomputable def D:FD:={ fn:=f117,tl:=aL,ps:=ps,rs:=[(i64,(ax i64))],gl:=[(189,dv.D.sig)],od:=[(1,[0,1,2,3,4,5,6,7,8,9,10,11])] }
noncomputable def ab (a:Arg):Option Out:=@lift Out fun k=>D.W k a
noncomputable def p (a1:Arg):Option Out:=bif decide ((16000:Int) < ae ((a1.1.1.length:Int)+(a1.1.2.1.length:Int))) then (some ((2:Int),())) else (dv.ab (a1.1.1,())).bind fun r2=>bif !decide (r2.2.1=(a1.1.1.length:Int)) then (some ((5:Int),())) else (dv.ab (a1.1.2.1,())).bind fun r3=>bif !decide (r3.2.1=(a1.1.2.1.length:Int)) then (some ((5:Int),())) else some ((0:Int),())
theorem aa (k:Nat) (a1:Arg):@Eq (Option Out) (D.W k a1) (p a1):=by kernel_rfl
theorem ok:Ok prog 117 D.sig:=aq func117 aB (by kernel_rfl) (fc dv.ok (al _))
end jr
namespace gJ
abbrev Arg:Type:=(List UInt8)×Unit
abbrev Out:Type:=Int×Unit
abbrev ps:PQ:=[(.ro,(.U u8))]
noncomputable def D:FD:={ fn:=f295,tl:=aL,ps:=ps,rs:=[(i64,(ax i64))] }
noncomputable def ab (a:Arg):Option Out:=@lift Out fun k=>D.W k a
noncomputable def p (a1:Arg):Option Out:=(a1.1[1]?).bind fun x2=>some (ae (x2.toNat:Int),())
theorem aa (k:Nat) (a1:Arg):@Eq (Option Out) (D.W k a1) (p a1):=by kernel_rfl
theorem ok:Ok prog 295 D.sig:=aq func295 aB (by kernel_rfl) (al _)
end gJ
namespace ka
abbrev Arg:Type:=(List UInt8)×Int×Unit
abbrev Out:Type:=Bool×Unit
abbrev ps:PQ:=[(.ro,(.U u8)),(.ro,i64)]
noncomputable def D:FD:={ fn:=f296,tl:=aL,ps:=ps,rs:=[(.bool,(ax .bool))],gl:=[(256,bv.D.sig),(295,gJ.D.sig),(299,di.D.sig)] }
noncomputable def ab (a:Arg):Option Out:=@lift Out fun k=>D.W k a
noncomputable def p (a1:Arg):Option Out:=(di.ab (a1.1,a1.2.1,())).bind fun r2=>(bv.ab (a1.1,a1.2.1,())).bind fun r3=>bif decide (r2.1=(0:Int)) then (some (decide (r2.1=r3.1),())) else bif decide (r3.1=(0:Int)) then (some (decide (r2.1=r3.1),())) else (gJ.ab (a1.1,())).bind fun r4=>bif decide (r4.1<=r2.1) then (some (decide (ae (r2.1+r3.1)<=(64:Int)),())) else some (false,())
theorem aa (k:Nat) (a1:Arg):@Eq (Option Out) (D.W k a1) (p a1):=by kernel_rfl
theorem ok:Ok prog 296 D.sig:=aq func296 aB (by kernel_rfl) (fc bv.ok (fc gJ.ok (fc di.ok (al _))))
end ka
namespace jt
abbrev Arg:Type:=(List UInt8)×Int×Int×Unit
abbrev Out:Type:=Bool×Unit
abbrev ps:PQ:=[(.ro,(.U u8)),(.ro,i64),(.ro,i64)]
noncomputable def D:FD:={ fn:=f297,tl:=aL,ps:=ps,rs:=[(.bool,(ax .bool))],gl:=[(256,bv.D.sig),(299,di.D.sig)] }
noncomputable def ab (a:Arg):Option Out:=@lift Out fun k=>D.W k a
noncomputable def p (a1:Arg):Option Out:=(bv.ab (a1.1,a1.2.1,())).bind fun r2=>bif decide (r2.1=(0:Int)) then (some (true,())) else (bv.ab (a1.1,a1.2.2.1,())).bind fun r3=>bif decide (r3.1=(0:Int)) then (some (true,())) else (di.ab (a1.1,a1.2.1,())).bind fun r4=>(bv.ab (a1.1,a1.2.1,())).bind fun r5=>(di.ab (a1.1,a1.2.2.1,())).bind fun r6=>bif decide (ae (r4.1+r5.1)<=r6.1) then (some (true,())) else (di.ab (a1.1,a1.2.2.1,())).bind fun r7=>(bv.ab (a1.1,a1.2.2.1,())).bind fun r8=>(di.ab (a1.1,a1.2.1,())).bind fun r9=>some (decide (ae (r7.1+r8.1)<=r9.1),())
theorem aa (k:Nat) (a1:Arg):@Eq (Option Out) (D.W k a1) (p a1):=by kernel_rfl
theorem ok:Ok prog 297 D.sig:=aq func297 aB (by kernel_rfl) (fc bv.ok (fc di.ok (al _)))
end jt
namespace aT
abbrev Arg:Type:=(List UInt8)×Unit
abbrev Out:Type:=Int×Unit
abbrev ps:PQ:=[(.ro,(.U u8))]
noncomputable def D:FD:={ fn:=f254,tl:=aL,ps:=ps,rs:=[(i64,(ax i64))],gl:=[(255,dh.D.sig),(256,bv.D.sig),(295,gJ.D.sig),(296,ka.D.sig),(297,jt.D.sig)],lv:=[(7,[0,3,4]),(12,[0,3,5]),(15,[0,3,5,6])],lx:=[(0,[0,3]),(2,[0,3]),(4,[0,3,5])] }
noncomputable def ab (a:Arg):Option Out:=@lift Out fun k=>D.W k a
noncomputable def T0 (a1:Arg) (bD:Int) (cy:Int):St:={ n:=60,sl:=[(0,.val (.U u8) a1.1),(3,.val i64 bD),(4,.val i64 cy)],vr:=[],av:=[] }
noncomputable def S0 (rec:RT Out) (a1:Arg) (bD:Int):(Int)->Option Out:=fun cy=>rec (T0 a1 bD cy)
noncomputable def bn (K:KT Out) (a1:Arg) (bD:Int):(Unit)->Option Out:=fun z=>K (.exit 0) ({ n:=60,sl:=[(0,.val (.U u8) a1.1),(3,.val i64 bD)],vr:=[],av:=[] })
noncomputable def b0 (self:Int->Option Out) (e0:(Unit)->Option Out) (a1:Arg) (bD:Int) (cy:Int):Option Out:=bif decide (cy < bD) then ((ka.ab (a1.1,cy,())).bind fun iU=>bif !iU.1 then (some ((3:Int),())) else self (ae (cy+(1:Int)))) else e0 ()
noncomputable abbrev B0 (_:Nat):=b0
theorem fX (k:Nat) (rec:RT Out) (K:KT Out) (a1:Arg) (bD:Int) (cy:Int):D.N k [1,1,1,1,0,1,0,0] (T0 a1 bD cy) (dj rec (b9 [0,3,4] []) K)=b0 (S0 rec a1 bD) (bn K a1 bD) a1 bD cy:=by kernel_rfl
noncomputable def T1 (a1:Arg) (bY:(List UInt8)×Int×Int):St:={ n:=60,sl:=[(0,.val (.U u8) bY.1),(3,.val i64 bY.2.1),(5,.val i64 bY.2.2)],vr:=[],av:=[] }
noncomputable def S1 (rec:RT Out) (a1:Arg):((List UInt8)×Int×Int)->Option Out:=fun bY=>rec (T1 a1 bY)
noncomputable def dy (K:KT Out) (a1:Arg):((List UInt8)×Int)->Option Out:=fun z=>K (.exit 2) ({ n:=60,sl:=[(0,.val (.U u8) z.1),(3,.val i64 z.2)],vr:=[],av:=[] })
noncomputable def T2 (a1:Arg) (dJ:List UInt8) (ct:Int) (bA:Int) (qx:Int):St:={ n:=60,sl:=[(0,.val (.U u8) dJ),(3,.val i64 ct),(5,.val i64 bA),(6,.val i64 qx)],vr:=[],av:=[] }
noncomputable def b2 (self:Int->Option Out) (e4:(Unit)->Option Out) (a1:Arg) (dJ:List UInt8) (ct:Int) (bA:Int) (qx:Int):Option Out:=bif decide (qx < bA) then ((jt.ab (dJ,bA,qx,())).bind fun Gx=>bif !Gx.1 then (some ((8:Int),())) else self (ae (qx+(1:Int)))) else e4 ()
noncomputable abbrev B2 (_:Nat):=b2
noncomputable def q1 (self:((List UInt8)×Int×Int)->Option Out) (e2:((List UInt8)×Int)->Option Out) (a1:Arg) (dJ:List UInt8) (ct:Int) (bA:Int) (wi:(Unit)):Option Out:=self (dJ,ct,ae (bA+(1:Int)))
noncomputable abbrev Q1 (_:Nat):=q1
noncomputable def s2 (k:Nat) (rec:RT Out) (K:KT Out) (a1:Arg):(List UInt8)->Int->Int->(Int)->Option Out:=fun dJ ct bA=>fun qx=>D.L k [1,1,1,1,1,0,1,0,0,1,0,0,1,0,0] [0,3,5,6] [] (af 4 (af 3 (ao (D.N k [1,1,1,1,1,0,1,0,0,1,1]) (dj rec (b9 [0,3,5] []) K)))) (T2 a1 dJ ct bA qx)
noncomputable def r2 (k:Nat) (self:((List UInt8)×Int×Int)->Option Out) (e2:((List UInt8)×Int)->Option Out) (a1:Arg):(List UInt8)->Int->Int->(Int)->Option Out:=fun dJ ct bA=>ak (fun w v=>B2 k w (Q1 k self e2 a1 dJ ct bA) a1 dJ ct bA v) k
theorem kR (k:Nat) (rec:RT Out) (K:KT Out) (a1:Arg):s2 k rec K a1=r2 k (S1 rec a1) (dy K a1) a1:=
 funext fun dJ=>funext fun ct=>funext fun bA=>funext fun qx=>an _ _ _ (T2 a1 dJ ct bA) _ (fun rec v=>by kernel_rfl) k qx
noncomputable def b1 (self:((List UInt8)×Int×Int)->Option Out) (e2:((List UInt8)×Int)->Option Out) (l2:(List UInt8)->Int->Int->(Int)->Option Out) (a1:Arg) (bY:(List UInt8)×Int×Int):Option Out:=bif decide (bY.2.2 < bY.2.1) then (l2 bY.1 bY.2.1 bY.2.2 (0:Int)) else e2 (bY.1,bY.2.1)
noncomputable def B1 (k:Nat) (self:((List UInt8)×Int×Int)->Option Out) (e2:((List UInt8)×Int)->Option Out) (a1:Arg) (bY:(List UInt8)×Int×Int):Option Out:=b1 self e2 (r2 k self e2 a1) a1 bY
theorem lX (k:Nat) (rec:RT Out) (K:KT Out) (a1:Arg) (bY:(List UInt8)×Int×Int):D.N k [1,1,1,1,1,0,1,0,0] (T1 a1 bY) (dj rec (b9 [0,3,5] []) K)=B1 k (S1 rec a1) (dy K a1) a1 bY:=
 Eq.trans (b:=b1 (S1 rec a1) (dy K a1) (s2 k rec K a1) a1 bY) (by kernel_rfl) (by rw[kR];rfl)
noncomputable def q2 (a1:Arg) (np:((List UInt8)×Int)):Option Out:=bif decide ((0:Int) < np.2) then ((bv.ab (np.1,ae (np.2 - (1:Int)),())).bind fun O_=>bif decide (O_.1=(0:Int)) then (some ((8:Int),())) else some ((0:Int),())) else some ((0:Int),())
noncomputable abbrev Q2 (_:Nat):=q2
theorem nq (k:Nat) (a1:Arg) (np:((List UInt8)×Int)):dy (af 2 (ao (D.N k [1,1,1,1,1,1]) D.K0)) a1 np=q2 a1 np:=by kernel_rfl
noncomputable def s1 (k:Nat) (a1:Arg) (bD:Int):((List UInt8)×Int×Int)->Option Out:=fun bY=>D.L k [1,1,1,1,1,0,1,0,0] [0,3,5] [] (af 2 (ao (D.N k [1,1,1,1,1,1]) D.K0)) (T1 a1 bY)
noncomputable def r1 (k:Nat) (a1:Arg) (bD:Int):((List UInt8)×Int×Int)->Option Out:=ak (fun w v=>B1 k w (Q2 k a1) a1 v) k
theorem fY (k:Nat) (a1:Arg) (bD:Int):s1 k a1 bD=r1 k a1 bD:=by
 funext bY;
 have Y:dy (af 2 (ao (D.N k [1,1,1,1,1,1]) D.K0)) a1=Q2 k a1:=funext fun z=>nq k a1 z
 refine (an _ _ _ (T1 a1) (fun self v=>B1 k self (dy (af 2 (ao (D.N k [1,1,1,1,1,1]) D.K0)) a1) a1 v) (fun rec v=>lX k rec (af 2 (ao (D.N k [1,1,1,1,1,1]) D.K0)) a1 v) k bY).trans ?_
 rw[Y]
 rfl
noncomputable def q0 (l1:((List UInt8)×Int×Int)->Option Out) (a1:Arg) (bD:Int) (lk:(Unit)):Option Out:=l1 (a1.1,bD,(0:Int))
noncomputable def Q0 (k:Nat) (a1:Arg) (bD:Int) (lk:(Unit)):Option Out:=q0 (r1 k a1 bD) a1 bD lk
theorem kS (k:Nat) (a1:Arg) (bD:Int) (lk:(Unit)):bn (af 0 (ao (D.N k [1,1,1,1,1]) D.K0)) a1 bD lk=Q0 k a1 bD lk:=
 Eq.trans (b:=q0 (s1 k a1 bD) a1 bD lk) (by kernel_rfl) (by rw[fY];rfl)
noncomputable def s0 (k:Nat) (a1:Arg):Int->(Int)->Option Out:=fun bD=>fun cy=>D.L k [1,1,1,1,0,1,0,0] [0,3,4] [] (af 0 (ao (D.N k [1,1,1,1,1]) D.K0)) (T0 a1 bD cy)
noncomputable def r0 (k:Nat) (a1:Arg):Int->(Int)->Option Out:=fun bD=>ak (fun w v=>B0 k w (Q0 k a1 bD) a1 bD v) k
theorem au (k:Nat) (a1:Arg):s0 k a1=r0 k a1:=by
 funext bD;funext cy;
 have h0:bn (af 0 (ao (D.N k [1,1,1,1,1]) D.K0)) a1 bD=Q0 k a1 bD:=funext fun z=>kS k a1 bD z
 refine (an _ _ _ (T0 a1 bD) (fun self v=>B0 k self (bn (af 0 (ao (D.N k [1,1,1,1,1]) D.K0)) a1 bD) a1 bD v) (fun rec v=>fX k rec (af 0 (ao (D.N k [1,1,1,1,1]) D.K0)) a1 bD v) k cy).trans ?_
 rw[h0]
 rfl
noncomputable def p (l0:Int->(Int)->Option Out) (a1:Arg):Option Out:=bif !decide ((a1.1.length:Int)=(64:Int)) then (some ((1:Int),())) else (dh.ab (a1.1,())).bind fun r2=>bif decide ((16:Int) < r2.1) then (some ((3:Int),())) else (gJ.ab (a1.1,())).bind fun r3=>bif decide (r3.1 < ae ((2:Int)+(ae ((2:Int)*r2.1)))) then (some ((3:Int),())) else (gJ.ab (a1.1,())).bind fun r4=>bif decide ((64:Int) < r4.1) then (some ((3:Int),())) else l0 r2.1 (0:Int)
theorem aa (k:Nat) (a1:Arg):@Eq (Option Out) (D.W k a1) (p (r0 k a1) a1):=
 Eq.trans (b:=p (s0 k a1) a1) (by kernel_rfl) (by rw[au])
theorem ok:Ok prog 254 D.sig:=aq func254 aB (by kernel_rfl) (fc dh.ok (fc bv.ok (fc gJ.ok (fc ka.ok (fc jt.ok (al _))))))
end aT
namespace cc
abbrev Arg:Type:=(List (List UInt8))×Unit
abbrev Out:Type:=Int×Unit
abbrev ps:PQ:=[(.ro,(.U (.U u8)))]
noncomputable def D:FD:={ fn:=f190,tl:=aL,ps:=ps,rs:=[(i64,(ax i64))],gl:=[(254,aT.D.sig),(255,dh.D.sig),(256,bv.D.sig),(257,fm.D.sig),(258,fq.D.sig)],lv:=[(2,[0,3]),(8,[0,3,5])],lx:=[(0,[]),(2,[0,3])] }
noncomputable def ab (a:Arg):Option Out:=@lift Out fun k=>D.W k a
noncomputable def T0 (a1:Arg) (J:(List (List UInt8))×Int):St:={ n:=50,sl:=[(0,.val (.U (.U u8)) J.1),(3,.val i64 J.2)],vr:=[],av:=[] }
noncomputable def S0 (rec:RT Out) (a1:Arg):((List (List UInt8))×Int)->Option Out:=fun J=>rec (T0 a1 J)
noncomputable def bn (K:KT Out) (a1:Arg):(Unit)->Option Out:=fun z=>K (.exit 0) ({ n:=50,sl:=[],vr:=[],av:=[] })
noncomputable def T1 (a1:Arg) (eB:List (List UInt8)) (dp:Int) (b_:Int):St:={ n:=50,sl:=[(0,.val (.U (.U u8)) eB),(3,.val i64 dp),(5,.val i64 b_)],vr:=[],av:=[] }
noncomputable def b1 (self:Int->Option Out) (e2:(Unit)->Option Out) (a1:Arg) (eB:List (List UInt8)) (dp:Int) (b_:Int):Option Out:=if 0<=dp then ((eB[dp.toNat]?).bind fun yw=>(dh.ab (yw,())).bind fun Gv=>bif decide (b_ < Gv.1) then (if 0<=dp then ((eB[dp.toNat]?).bind fun yx=>(bv.ab (yx,b_,())).bind fun yy=>bif decide ((0:Int) < yy.1) then (if 0<=dp then ((eB[dp.toNat]?).bind fun wg=>(fq.ab (wg,b_,())).bind fun mC=>(fm.ab (mC.1,())).bind fun yu=>bif !yu.2.1 then (some ((5:Int),())) else self (ae (b_+(1:Int)))) else none) else self (ae (b_+(1:Int)))) else none) else e2 ()) else none
noncomputable abbrev B1 (_:Nat):=b1
noncomputable def q0 (self:((List (List UInt8))×Int)->Option Out) (e0:(Unit)->Option Out) (a1:Arg) (eB:List (List UInt8)) (dp:Int) (qw:(Unit)):Option Out:=self (eB,ae (dp+(1:Int)))
noncomputable abbrev Q0 (_:Nat):=q0
noncomputable def s1 (k:Nat) (rec:RT Out) (K:KT Out) (a1:Arg):(List (List UInt8))->Int->(Int)->Option Out:=fun eB dp=>fun b_=>D.L k [1,0,1,0,0,1,0,0,1,1,0,0] [0,3,5] [] (af 2 (af 1 (ao (D.N k [1,0,1,0,0,1,1]) (dj rec (b9 [0,3] []) K)))) (T1 a1 eB dp b_)
noncomputable def r1 (k:Nat) (self:((List (List UInt8))×Int)->Option Out) (e0:(Unit)->Option Out) (a1:Arg):(List (List UInt8))->Int->(Int)->Option Out:=fun eB dp=>ak (fun w v=>B1 k w (Q0 k self e0 a1 eB dp) a1 eB dp v) k
theorem fY (k:Nat) (rec:RT Out) (K:KT Out) (a1:Arg):s1 k rec K a1=r1 k (S0 rec a1) (bn K a1) a1:=
 funext fun eB=>funext fun dp=>funext fun b_=>an _ _ _ (T1 a1 eB dp) _ (fun rec v=>by kernel_rfl) k b_
noncomputable def b0 (self:((List (List UInt8))×Int)->Option Out) (e0:(Unit)->Option Out) (l1:(List (List UInt8))->Int->(Int)->Option Out) (a1:Arg) (J:(List (List UInt8))×Int):Option Out:=bif decide (J.2 < (J.1.length:Int)) then (if 0<=J.2 then ((J.1[J.2.toNat]?).bind fun aC=>(aT.ab (aC,())).bind fun cb=>bif !decide (cb.1=(0:Int)) then (some (cb.1,())) else l1 J.1 J.2 (0:Int)) else none) else e0 ()
noncomputable def B0 (k:Nat) (self:((List (List UInt8))×Int)->Option Out) (e0:(Unit)->Option Out) (a1:Arg) (J:(List (List UInt8))×Int):Option Out:=b0 self e0 (r1 k self e0 a1) a1 J
theorem fX (k:Nat) (rec:RT Out) (K:KT Out) (a1:Arg) (J:(List (List UInt8))×Int):D.N k [1,0,1,0,0] (T0 a1 J) (dj rec (b9 [0,3] []) K)=B0 k (S0 rec a1) (bn K a1) a1 J:=
 Eq.trans (b:=b0 (S0 rec a1) (bn K a1) (s1 k rec K a1) a1 J) (by kernel_rfl) (by rw[fY];rfl)
noncomputable def q1 (a1:Arg) (Be:(Unit)):Option Out:=some ((0:Int),())
noncomputable abbrev Q1 (_:Nat):=q1
theorem lY (k:Nat) (a1:Arg) (Be:(Unit)):bn (af 0 (ao (D.N k [1,1]) D.K0)) a1 Be=q1 a1 Be:=by kernel_rfl
noncomputable def s0 (k:Nat) (a1:Arg):((List (List UInt8))×Int)->Option Out:=fun J=>D.L k [1,0,1,0,0] [0,3] [] (af 0 (ao (D.N k [1,1]) D.K0)) (T0 a1 J)
noncomputable def r0 (k:Nat) (a1:Arg):((List (List UInt8))×Int)->Option Out:=ak (fun w v=>B0 k w (Q1 k a1) a1 v) k
theorem au (k:Nat) (a1:Arg):s0 k a1=r0 k a1:=by
 funext J;
 have h0:bn (af 0 (ao (D.N k [1,1]) D.K0)) a1=Q1 k a1:=funext fun z=>lY k a1 z
 refine (an _ _ _ (T0 a1) (fun self v=>B0 k self (bn (af 0 (ao (D.N k [1,1]) D.K0)) a1) a1 v) (fun rec v=>fX k rec (af 0 (ao (D.N k [1,1]) D.K0)) a1 v) k J).trans ?_
 rw[h0]
 rfl
noncomputable def p (l0:((List (List UInt8))×Int)->Option Out) (a1:Arg):Option Out:=l0 (a1.1,(0:Int))
theorem aa (k:Nat) (a1:Arg):@Eq (Option Out) (D.W k a1) (p (r0 k a1) a1):=
 Eq.trans (b:=p (s0 k a1) a1) (by kernel_rfl) (by rw[au])
theorem ok:Ok prog 190 D.sig:=aq func190 aB (by kernel_rfl) (fc aT.ok (fc dh.ok (fc bv.ok (fc fm.ok (fc fq.ok (al _))))))
end cc
namespace bd
abbrev Arg:Type:=(List aw)×(List (List UInt8))×Unit
abbrev Out:Type:=Int×Unit
abbrev ps:PQ:=[(.ro,(.U dQ)),(.ro,(.U (.U u8)))]
noncomputable def D:FD:={ fn:=f191,tl:=aL,ps:=ps,rs:=[(i64,(ax i64))],gl:=[(219,fR.D.sig)],lv:=[(2,[0,1,5]),(9,[0,8]),(12,[0,8,9])],lx:=[(0,[0]),(1,[0,1,5]),(2,[]),(4,[0,8])],od:=[(5,[0,1,2,3,4,5,6,7,8,9,10,11,12,13,14,15,16,17,18,19]),(16,[0,1,2,3,4,5,6,7,8,9,10,11,12,13,14,15,16,17,18,19,20,21,22,23,24,25,26,27,28,29,30,31,32,33])],ar:=[(5,[6,12])],pd:=[(5,[17])] }
noncomputable def ab (a:Arg):Option Out:=@lift Out fun k=>D.W k a
noncomputable def T0 (a1:Arg) (J:Int):St:={ n:=102,sl:=[(0,.val (.U dQ) a1.1),(1,.val (.U (.U u8)) a1.2.1),(5,.val i64 J)],vr:=[],av:=[] }
noncomputable def S0 (rec:RT Out) (a1:Arg):(Int)->Option Out:=fun J=>rec (T0 a1 J)
noncomputable def bn (K:KT Out) (a1:Arg):(Unit)->Option Out:=fun z=>K (.exit 0) ({ n:=102,sl:=[(0,.val (.U dQ) a1.1)],vr:=[],av:=[] })
noncomputable def b0 (self:Int->Option Out) (e0:(Unit)->Option Out) (a1:Arg) (J:Int):Option Out:=bif decide (J < (a1.1.length:Int)) then (if 0<=J then ((a1.1[J.toNat]?).bind fun aC=>bif !decide (aC.2.2.1.2.1=(1:Int)) then (self (ae (J+(1:Int)))) else if 0<=J then ((a1.1[J.toNat]?).bind fun cW=>if 0<=J then ((a1.1[J.toNat]?).bind fun cg=>(fR.ab (a1.2.1,cW.2.2.1.2.2.1,cg.2.2.1.2.2.2.1,())).bind fun kw=>bif !kw.2.1 then (some ((4:Int),())) else bif !decide (kw.1.2.1=(2:Int)) then (some ((4:Int),())) else self (ae (J+(1:Int)))) else none) else none) else none) else e0 ()
noncomputable abbrev B0 (_:Nat):=b0
theorem fX (k:Nat) (rec:RT Out) (K:KT Out) (a1:Arg) (J:Int):D.N k [1,0,1,0,0] (T0 a1 J) (dj rec (b9 [0,1,5] []) K)=b0 (S0 rec a1) (bn K a1) a1 J:=by kernel_rfl
noncomputable def T1 (a1:Arg) (bb:(List aw)×Int):St:={ n:=102,sl:=[(0,.val (.U dQ) bb.1),(8,.val i64 bb.2)],vr:=[],av:=[] }
noncomputable def S1 (rec:RT Out) (a1:Arg):((List aw)×Int)->Option Out:=fun bb=>rec (T1 a1 bb)
noncomputable def dy (K:KT Out) (a1:Arg):(Unit)->Option Out:=fun z=>K (.exit 2) ({ n:=102,sl:=[],vr:=[],av:=[] })
noncomputable def T2 (a1:Arg) (gK:List aw) (dJ:Int) (nr:Int):St:={ n:=102,sl:=[(0,.val (.U dQ) gK),(8,.val i64 dJ),(9,.val i64 nr)],vr:=[],av:=[] }
noncomputable def b2 (self:Int->Option Out) (e4:(Unit)->Option Out) (a1:Arg) (gK:List aw) (dJ:Int) (nr:Int):Option Out:=bif decide (nr < dJ) then (if 0<=dJ then ((gK[dJ.toNat]?).bind fun Gy=>if 0<=nr then ((gK[nr.toNat]?).bind fun tO=>bif decide (Gy.2.2.1.2.1=(1:Int)) then (bif decide (tO.2.2.1.2.1=(1:Int)) then (bif decide (Gy.2.2.1.2.2.1=tO.2.2.1.2.2.1) then (bif decide (Gy.2.2.1.2.2.2.1=tO.2.2.1.2.2.2.1) then (some ((6:Int),())) else self (ae (nr+(1:Int)))) else self (ae (nr+(1:Int)))) else self (ae (nr+(1:Int)))) else self (ae (nr+(1:Int)))) else none) else none) else e4 ()
noncomputable abbrev B2 (_:Nat):=b2
noncomputable def q1 (self:((List aw)×Int)->Option Out) (e2:(Unit)->Option Out) (a1:Arg) (gK:List aw) (dJ:Int) (TJ:(Unit)):Option Out:=self (gK,ae (dJ+(1:Int)))
noncomputable abbrev Q1 (_:Nat):=q1
noncomputable def s2 (k:Nat) (rec:RT Out) (K:KT Out) (a1:Arg):(List aw)->Int->(Int)->Option Out:=fun gK dJ=>fun nr=>D.L k [1,1,0,1,0,0,1,0,0,1,0,0] [0,8,9] [] (af 4 (af 3 (ao (D.N k [1,1,0,1,0,0,1,1]) (dj rec (b9 [0,8] []) K)))) (T2 a1 gK dJ nr)
noncomputable def r2 (k:Nat) (self:((List aw)×Int)->Option Out) (e2:(Unit)->Option Out) (a1:Arg):(List aw)->Int->(Int)->Option Out:=fun gK dJ=>ak (fun w v=>B2 k w (Q1 k self e2 a1 gK dJ) a1 gK dJ v) k
theorem kR (k:Nat) (rec:RT Out) (K:KT Out) (a1:Arg):s2 k rec K a1=r2 k (S1 rec a1) (dy K a1) a1:=
 funext fun gK=>funext fun dJ=>funext fun nr=>an _ _ _ (T2 a1 gK dJ) _ (fun rec v=>by kernel_rfl) k nr
noncomputable def b1 (self:((List aw)×Int)->Option Out) (e2:(Unit)->Option Out) (l2:(List aw)->Int->(Int)->Option Out) (a1:Arg) (bb:(List aw)×Int):Option Out:=bif decide (bb.2 < (bb.1.length:Int)) then (l2 bb.1 bb.2 (0:Int)) else e2 ()
noncomputable def B1 (k:Nat) (self:((List aw)×Int)->Option Out) (e2:(Unit)->Option Out) (a1:Arg) (bb:(List aw)×Int):Option Out:=b1 self e2 (r2 k self e2 a1) a1 bb
theorem lX (k:Nat) (rec:RT Out) (K:KT Out) (a1:Arg) (bb:(List aw)×Int):D.N k [1,1,0,1,0,0] (T1 a1 bb) (dj rec (b9 [0,8] []) K)=B1 k (S1 rec a1) (dy K a1) a1 bb:=
 Eq.trans (b:=b1 (S1 rec a1) (dy K a1) (s2 k rec K a1) a1 bb) (by kernel_rfl) (by rw[kR];rfl)
noncomputable def q2 (a1:Arg) (wi:(Unit)):Option Out:=some ((0:Int),())
noncomputable abbrev Q2 (_:Nat):=q2
theorem nq (k:Nat) (a1:Arg) (wi:(Unit)):dy (af 2 (ao (D.N k [1,1,1]) D.K0)) a1 wi=q2 a1 wi:=by kernel_rfl
noncomputable def s1 (k:Nat) (a1:Arg):((List aw)×Int)->Option Out:=fun bb=>D.L k [1,1,0,1,0,0] [0,8] [] (af 2 (ao (D.N k [1,1,1]) D.K0)) (T1 a1 bb)
noncomputable def r1 (k:Nat) (a1:Arg):((List aw)×Int)->Option Out:=ak (fun w v=>B1 k w (Q2 k a1) a1 v) k
theorem fY (k:Nat) (a1:Arg):s1 k a1=r1 k a1:=by
 funext bb;
 have Y:dy (af 2 (ao (D.N k [1,1,1]) D.K0)) a1=Q2 k a1:=funext fun z=>nq k a1 z
 refine (an _ _ _ (T1 a1) (fun self v=>B1 k self (dy (af 2 (ao (D.N k [1,1,1]) D.K0)) a1) a1 v) (fun rec v=>lX k rec (af 2 (ao (D.N k [1,1,1]) D.K0)) a1 v) k bb).trans ?_
 rw[Y]
 rfl
noncomputable def q0 (l1:((List aw)×Int)->Option Out) (a1:Arg) (gg:(Unit)):Option Out:=l1 (a1.1,(0:Int))
noncomputable def Q0 (k:Nat) (a1:Arg) (gg:(Unit)):Option Out:=q0 (r1 k a1) a1 gg
theorem kS (k:Nat) (a1:Arg) (gg:(Unit)):bn (af 0 (ao (D.N k [1,1]) D.K0)) a1 gg=Q0 k a1 gg:=
 Eq.trans (b:=q0 (s1 k a1) a1 gg) (by kernel_rfl) (by rw[fY];rfl)
noncomputable def s0 (k:Nat) (a1:Arg):(Int)->Option Out:=fun J=>D.L k [1,0,1,0,0] [0,1,5] [] (af 0 (ao (D.N k [1,1]) D.K0)) (T0 a1 J)
noncomputable def r0 (k:Nat) (a1:Arg):(Int)->Option Out:=ak (fun w v=>B0 k w (Q0 k a1) a1 v) k
theorem au (k:Nat) (a1:Arg):s0 k a1=r0 k a1:=by
 funext J;
 have h0:bn (af 0 (ao (D.N k [1,1]) D.K0)) a1=Q0 k a1:=funext fun z=>kS k a1 z
 refine (an _ _ _ (T0 a1) (fun self v=>B0 k self (bn (af 0 (ao (D.N k [1,1]) D.K0)) a1) a1 v) (fun rec v=>fX k rec (af 0 (ao (D.N k [1,1]) D.K0)) a1 v) k J).trans ?_
 rw[h0]
 rfl
noncomputable def p (l0:(Int)->Option Out) (a1:Arg):Option Out:=l0 (0:Int)
theorem aa (k:Nat) (a1:Arg):@Eq (Option Out) (D.W k a1) (p (r0 k a1) a1):=
 Eq.trans (b:=p (s0 k a1) a1) (by kernel_rfl) (by rw[au])
theorem ok:Ok prog 191 D.sig:=aq func191 aB (by kernel_rfl) (fc fR.ok (al _))
end bd
namespace bT
abbrev Arg:Type:=(List (List UInt8))×Unit
abbrev Out:Type:=Int×Unit
abbrev ps:PQ:=[(.ro,(.U (.U u8)))]
noncomputable def D:FD:={ fn:=f119,tl:=aL,ps:=ps,rs:=[(i64,(ax i64))],gl:=[(145,ek.D.sig),(190,cc.D.sig),(191,bd.D.sig),(192,bI.D.sig)],lv:=[(11,[5,6]),(14,[5,6,7])],lx:=[(0,[]),(2,[5,6])],od:=[(16,[0,1,2,3,4,5,6,7,8,9,10,11,12,13,14,15,16,17,18,19,20,21,22,23,24,25,26,27,28,29,30,31])] }
noncomputable def ab (a:Arg):Option Out:=@lift Out fun k=>D.W k a
noncomputable def T0 (a1:Arg) (l5:(List aw)×Int):St:={ n:=68,sl:=[(5,.own (.U dQ) (am (.U dQ)) [] l5.1),(6,.val i64 l5.2)],vr:=[],av:=[] }
noncomputable def S0 (rec:RT Out) (a1:Arg):((List aw)×Int)->Option Out:=fun l5=>rec (T0 a1 l5)
noncomputable def bn (K:KT Out) (a1:Arg):(Unit)->Option Out:=fun z=>K (.exit 0) ({ n:=68,sl:=[],vr:=[],av:=[] })
noncomputable def T1 (a1:Arg) (cS:List aw) (bK:Int) (l6:Int):St:={ n:=68,sl:=[(5,.own (.U dQ) (am (.U dQ)) [] cS),(6,.val i64 bK),(7,.val i64 l6)],vr:=[],av:=[] }
noncomputable def b1 (self:Int->Option Out) (e2:(Unit)->Option Out) (a1:Arg) (cS:List aw) (bK:Int) (l6:Int):Option Out:=bif decide (l6 < bK) then (if 0<=bK/\bK < (cS.length:Int) then ((cS[bK.toNat]?).bind fun yx=>if 0<=l6/\l6 < (cS.length:Int) then ((cS[l6.toNat]?).bind fun wj=>bif decide (yx.2.2.1.2.2.2.2.1.1=wj.2.2.1.2.2.2.2.1.1) then (if 0<=bK/\bK < (cS.length:Int) then ((cS[bK.toNat]?).bind fun wg=>if 0<=l6/\l6 < (cS.length:Int) then ((cS[l6.toNat]?).bind fun Pa=>bif decide (wg.2.2.1.2.2.2.2.1.2.1=Pa.2.2.1.2.2.2.2.1.2.1) then (some ((8:Int),())) else self (ae (l6+(1:Int)))) else none) else none) else self (ae (l6+(1:Int)))) else none) else none) else e2 ()
noncomputable abbrev B1 (_:Nat):=b1
noncomputable def q0 (self:((List aw)×Int)->Option Out) (e0:(Unit)->Option Out) (a1:Arg) (cS:List aw) (bK:Int) (LG:(Unit)):Option Out:=self (cS,ae (bK+(1:Int)))
noncomputable abbrev Q0 (_:Nat):=q0
noncomputable def s1 (k:Nat) (rec:RT Out) (K:KT Out) (a1:Arg):(List aw)->Int->(Int)->Option Out:=fun cS bK=>fun l6=>D.L k [1,1,1,1,1,0,1,0,0,1,0,0,1,0,0] [5,6,7] [] (af 2 (af 1 (ao (D.N k [1,1,1,1,1,0,1,0,0,1,1]) (dj rec (b9 [5,6] []) K)))) (T1 a1 cS bK l6)
noncomputable def r1 (k:Nat) (self:((List aw)×Int)->Option Out) (e0:(Unit)->Option Out) (a1:Arg):(List aw)->Int->(Int)->Option Out:=fun cS bK=>ak (fun w v=>B1 k w (Q0 k self e0 a1 cS bK) a1 cS bK v) k
theorem fY (k:Nat) (rec:RT Out) (K:KT Out) (a1:Arg):s1 k rec K a1=r1 k (S0 rec a1) (bn K a1) a1:=
 funext fun cS=>funext fun bK=>funext fun l6=>an _ _ _ (T1 a1 cS bK) _ (fun rec v=>by kernel_rfl) k l6
noncomputable def b0 (self:((List aw)×Int)->Option Out) (e0:(Unit)->Option Out) (l1:(List aw)->Int->(Int)->Option Out) (a1:Arg) (l5:(List aw)×Int):Option Out:=bif decide (l5.2 < (l5.1.length:Int)) then (l1 l5.1 l5.2 (0:Int)) else e0 ()
noncomputable def B0 (k:Nat) (self:((List aw)×Int)->Option Out) (e0:(Unit)->Option Out) (a1:Arg) (l5:(List aw)×Int):Option Out:=b0 self e0 (r1 k self e0 a1) a1 l5
theorem fX (k:Nat) (rec:RT Out) (K:KT Out) (a1:Arg) (l5:(List aw)×Int):D.N k [1,1,1,1,1,0,1,0,0] (T0 a1 l5) (dj rec (b9 [5,6] []) K)=B0 k (S0 rec a1) (bn K a1) a1 l5:=
 Eq.trans (b:=b0 (S0 rec a1) (bn K a1) (s1 k rec K a1) a1 l5) (by kernel_rfl) (by rw[fY];rfl)
noncomputable def q1 (a1:Arg) (qw:(Unit)):Option Out:=some ((0:Int),())
noncomputable abbrev Q1 (_:Nat):=q1
theorem lY (k:Nat) (a1:Arg) (qw:(Unit)):bn (af 0 (ao (D.N k [1,1,1,1,1,1]) D.K0)) a1 qw=q1 a1 qw:=by kernel_rfl
noncomputable def s0 (k:Nat) (a1:Arg):((List aw)×Int)->Option Out:=fun l5=>D.L k [1,1,1,1,1,0,1,0,0] [5,6] [] (af 0 (ao (D.N k [1,1,1,1,1,1]) D.K0)) (T0 a1 l5)
noncomputable def r0 (k:Nat) (a1:Arg):((List aw)×Int)->Option Out:=ak (fun w v=>B0 k w (Q1 k a1) a1 v) k
theorem au (k:Nat) (a1:Arg):s0 k a1=r0 k a1:=by
 funext l5;
 have h0:bn (af 0 (ao (D.N k [1,1,1,1,1,1]) D.K0)) a1=Q1 k a1:=funext fun z=>lY k a1 z
 refine (an _ _ _ (T0 a1) (fun self v=>B0 k self (bn (af 0 (ao (D.N k [1,1,1,1,1,1]) D.K0)) a1) a1 v) (fun rec v=>fX k rec (af 0 (ao (D.N k [1,1,1,1,1,1]) D.K0)) a1 v) k l5).trans ?_
 rw[h0]
 rfl
noncomputable def p (l0:((List aw)×Int)->Option Out) (a1:Arg):Option Out:=bif decide ((12:Int) < (a1.1.length:Int)) then (some ((2:Int),())) else (cc.ab (a1.1,())).bind fun r2=>bif !decide (r2.1=(0:Int)) then (some (r2.1,())) else (bI.ab (a1.1,())).bind fun r3=>(bd.ab (r3.1,a1.1,())).bind fun r4=>bif !decide (r4.1=(0:Int)) then (some (r4.1,())) else (ek.ab (a1.1,())).bind fun r5=>l0 (r5.1,(0:Int))
theorem aa (k:Nat) (a1:Arg):@Eq (Option Out) (D.W k a1) (p (r0 k a1) a1):=
 Eq.trans (b:=p (s0 k a1) a1) (by kernel_rfl) (by rw[au])
theorem ok:Ok prog 119 D.sig:=aq func119 aB (by kernel_rfl) (fc ek.ok (fc cc.ok (fc bd.ok (fc bI.ok (al _)))))
end bT
namespace gt
abbrev Arg:Type:=(List (List UInt8))×Unit
abbrev Out:Type:=(List (List UInt8))×Unit
abbrev ps:PQ:=[(.ro,(.U (.U u8)))]
noncomputable def D:FD:={ fn:=f232,tl:=aL,ps:=ps,rs:=[((.U (.U u8)),(am (.U (.U u8))))],gl:=[(109,du.D.sig)],lv:=[(3,[0,3,4])],lx:=[(0,[3])] }
noncomputable def ab (a:Arg):Option Out:=@lift Out fun k=>D.W k a
noncomputable def T0 (a1:Arg) (J:(List (List UInt8))×Int):St:={ n:=21,sl:=[(0,.val (.U (.U u8)) a1.1),(3,.own (.U (.U u8)) (am (.U (.U u8))) [] J.1),(4,.val i64 J.2)],vr:=[],av:=[] }
noncomputable def b0 (self:((List (List UInt8))×Int)->Option Out) (e0:(List (List UInt8))->Option Out) (a1:Arg) (J:(List (List UInt8))×Int):Option Out:=bif decide (J.2 < (a1.1.length:Int)) then (if 0<=J.2 then ((a1.1[J.2.toNat]?).bind fun aC=>(du.ab (aC,())).bind fun cb=>if J.1.length+[cb.1].length<=bg then (self (J.1++[cb.1],ae (J.2+(1:Int)))) else none) else none) else e0 J.1
noncomputable abbrev B0 (_:Nat):=b0
noncomputable def q0 (a1:Arg) (bQ:(List (List UInt8))):Option Out:=some (bQ,())
noncomputable abbrev Q0 (_:Nat):=q0
noncomputable def s0 (k:Nat) (a1:Arg):((List (List UInt8))×Int)->Option Out:=fun J=>D.L k [1,1,0,1,0,0] [0,3,4] [] (af 0 (ao (D.N k [1,1,1]) D.K0)) (T0 a1 J)
noncomputable def r0 (k:Nat) (a1:Arg):((List (List UInt8))×Int)->Option Out:=ak (fun w v=>B0 k w (Q0 k a1) a1 v) k
theorem au (k:Nat) (a1:Arg):s0 k a1=r0 k a1:=
 funext fun J=>an _ _ _ (T0 a1) _ (fun rec v=>by kernel_rfl) k J
noncomputable def p (l0:((List (List UInt8))×Int)->Option Out) (a1:Arg):Option Out:=l0 (([]:List (List UInt8)),(0:Int))
theorem aa (k:Nat) (a1:Arg):@Eq (Option Out) (D.W k a1) (p (r0 k a1) a1):=
 Eq.trans (b:=p (s0 k a1) a1) (by kernel_rfl) (by rw[au])
theorem ok:Ok prog 232 D.sig:=aq func232 aB (by kernel_rfl) (fc du.ok (al _))
end gt
namespace jl
abbrev Arg:Type:=Int×Unit
abbrev Out:Type:=st×Unit
abbrev ps:PQ:=[(.ro,i64)]
noncomputable def D:FD:={ fn:=f259,tl:=aL,ps:=ps,rs:=[(ku,(am ku))] }
noncomputable def ab (a:Arg):Option Out:=@lift Out fun k=>D.W k a
noncomputable def p (a1:Arg):Option Out:=some ((a1.1,([]:List cE),([]:List (List UInt8)),()),())
theorem aa (k:Nat) (a1:Arg):@Eq (Option Out) (D.W k a1) (p a1):=by kernel_rfl
theorem ok:Ok prog 259 D.sig:=aq func259 aB (by kernel_rfl) (al _)
end jl
namespace gx
abbrev Arg:Type:=UInt8×Unit
abbrev Out:Type:=(List UInt8)×Unit
abbrev ps:PQ:=[(.ro,u8)]
noncomputable def D:FD:={ fn:=f261,tl:=aL,ps:=ps,rs:=[((.U u8),(am (.U u8)))],lv:=[(3,[0,3,4])],lx:=[(0,[3])] }
noncomputable def ab (a:Arg):Option Out:=@lift Out fun k=>D.W k a
noncomputable def T0 (a1:Arg) (J:(List UInt8)×Int):St:={ n:=19,sl:=[(0,.val u8 a1.1),(3,.own (.U u8) (am (.U u8)) [] J.1),(4,.val i64 J.2)],vr:=[],av:=[] }
noncomputable def b0 (self:((List UInt8)×Int)->Option Out) (e0:(List UInt8)->Option Out) (a1:Arg) (J:(List UInt8)×Int):Option Out:=bif decide (J.2 < (64:Int)) then (if 0<=J.2/\J.2 < (J.1.length:Int) then ((J.1[J.2.toNat]?).bind fun aC=>self (J.1.set J.2.toNat a1.1,ae (J.2+(1:Int)))) else none) else e0 J.1
noncomputable abbrev B0 (_:Nat):=b0
noncomputable def q0 (a1:Arg) (jc:(List UInt8)):Option Out:=if 0<=(0:Int)/\(0:Int) < (jc.length:Int) then ((jc[0]?).bind fun cg=>if 0<=(1:Int)/\(1:Int) < ((jc.set 0 (0:UInt8)).length:Int) then (((jc.set 0 (0:UInt8))[1]?).bind fun nY=>let vz:=(jc.set 0 (0:UInt8)).set 1 (64:UInt8);some (vz,())) else none) else none
noncomputable abbrev Q0 (_:Nat):=q0
noncomputable def s0 (k:Nat) (a1:Arg):((List UInt8)×Int)->Option Out:=fun J=>D.L k [1,1,0,1,0,0] [0,3,4] [] (af 0 (ao (D.N k [1,1,1]) D.K0)) (T0 a1 J)
noncomputable def r0 (k:Nat) (a1:Arg):((List UInt8)×Int)->Option Out:=ak (fun w v=>B0 k w (Q0 k a1) a1 v) k
theorem au (k:Nat) (a1:Arg):s0 k a1=r0 k a1:=
 funext fun J=>an _ _ _ (T0 a1) _ (fun rec v=>by kernel_rfl) k J
noncomputable def p (l0:((List UInt8)×Int)->Option Out) (a1:Arg):Option Out:=if 0<=(64:Int)/\(64:Int)<=(64:Int)/\(64:Int)<=(bg:Int) then (l0 (List.replicate 64 (0:UInt8),(0:Int))) else none
theorem aa (k:Nat) (a1:Arg):@Eq (Option Out) (D.W k a1) (p (r0 k a1) a1):=
 Eq.trans (b:=p (s0 k a1) a1) (by kernel_rfl) (by rw[au])
theorem ok:Ok prog 261 D.sig:=aq func261 aB (by kernel_rfl) (al _)
end gx
namespace eC
abbrev Arg:Type:=(List UInt8)×(List cE)×Unit
abbrev Out:Type:=(List UInt8)×Unit
abbrev ps:PQ:=[(.ro,(.U u8)),(.ro,(.U pq))]
noncomputable def D:FD:={ fn:=f262,tl:=aL,ps:=ps,rs:=[((.U u8),(am (.U u8)))],gl:=[(109,du.D.sig)],lv:=[(3,[1,5,6])],lx:=[(0,[5])],od:=[(5,[0,1,2,3,4,5,6,7,8,9,10,11,12])] }
noncomputable def ab (a:Arg):Option Out:=@lift Out fun k=>D.W k a
noncomputable def T0 (a1:Arg) (aX:(List UInt8)×Int):St:={ n:=29,sl:=[(1,.val (.U pq) a1.2.1),(5,.own (.U u8) (am (.U u8)) [] aX.1),(6,.val i64 aX.2)],vr:=[],av:=[] }
noncomputable def b0 (self:((List UInt8)×Int)->Option Out) (e0:(List UInt8)->Option Out) (a1:Arg) (aX:(List UInt8)×Int):Option Out:=bif decide (aX.2 < (a1.2.1.length:Int)) then (if 0<=aX.2 then ((a1.2.1[aX.2.toNat]?).bind fun cW=>if 0<=cW.1/\cW.1<=(aX.1.length:Int) then (if 0<=aX.2 then ((a1.2.1[aX.2.toNat]?).bind fun cg=>let my:=lh aX.1 cW.1.toNat (min cg.2.1.length (aX.1.length - cW.1.toNat)) cg.2.1;self (my,ae (aX.2+(1:Int)))) else none) else none) else none) else e0 aX.1
noncomputable abbrev B0 (_:Nat):=b0
noncomputable def q0 (a1:Arg) (gg:(List UInt8)):Option Out:=some (gg,())
noncomputable abbrev Q0 (_:Nat):=q0
noncomputable def s0 (k:Nat) (a1:Arg):((List UInt8)×Int)->Option Out:=fun aX=>D.L k [1,1,0,1,0,0] [1,5,6] [] (af 0 (ao (D.N k [1,1,1]) D.K0)) (T0 a1 aX)
noncomputable def r0 (k:Nat) (a1:Arg):((List UInt8)×Int)->Option Out:=ak (fun w v=>B0 k w (Q0 k a1) a1 v) k
theorem au (k:Nat) (a1:Arg):s0 k a1=r0 k a1:=
 funext fun aX=>an _ _ _ (T0 a1) _ (fun rec v=>by kernel_rfl) k aX
noncomputable def p (l0:((List UInt8)×Int)->Option Out) (a1:Arg):Option Out:=(du.ab (a1.1,())).bind fun r2=>l0 (r2.1,(0:Int))
theorem aa (k:Nat) (a1:Arg):@Eq (Option Out) (D.W k a1) (p (r0 k a1) a1):=
 Eq.trans (b:=p (s0 k a1) a1) (by kernel_rfl) (by rw[au])
theorem ok:Ok prog 262 D.sig:=aq func262 aB (by kernel_rfl) (fc du.ok (al _))
end eC
namespace bL
abbrev Arg:Type:=(List (List UInt8))×aM×Unit
abbrev Out:Type:=st×Unit
abbrev ps:PQ:=[(.ro,(.U (.U u8))),(.ro,bO)]
noncomputable def D:FD:={ fn:=f193,tl:=aL,ps:=ps,rs:=[(ku,(am ku))],gl:=[(227,gi.D.sig),(232,gt.D.sig),(259,jl.D.sig),(260,gr.D.sig),(261,gx.D.sig),(262,eC.D.sig)],lv:=[(4,[0,3,4,5])],lx:=[(0,[0,3,4])],od:=[(20,[0,1,2,3,4,5,6]),(21,[0,1,2,3,4,5,6,7,8,9,10,11,12,13,14])] }
noncomputable def ab (a:Arg):Option Out:=@lift Out fun k=>D.W k a
noncomputable def T0 (a1:Arg) (aX:Int):St:={ n:=75,sl:=[(0,.val (.U (.U u8)) a1.1),(3,.box bO (ax bO) [] a1.2.1),(4,.box ku (am ku) [] ((0:Int),([]:List cE),([]:List (List UInt8)),())),(5,.val i64 aX)],vr:=[],av:=[] }
noncomputable def b0 (self:Int->Option Out) (e0:(Unit)->Option Out) (a1:Arg) (aX:Int):Option Out:=bif decide (aX < (a1.1.length:Int)) then (if 0<=aX then ((a1.1[aX.toNat]?).bind fun cW=>bif !decide ((cW.length:Int)=(64:Int)) then ((jl.ab ((1:Int),())).bind fun gU=>some (gU.1,())) else self (ae (aX+(1:Int)))) else none) else e0 ()
noncomputable abbrev B0 (_:Nat):=b0
noncomputable def q0 (a1:Arg) (kx:(Unit)):Option Out:=(gi.ab (a1.2.1,())).bind fun iU=>bif !decide (iU.1=(0:Int)) then ((jl.ab (iU.1,())).bind fun tP=>some (tP.1,())) else (gt.ab (a1.1,())).bind fun qc=>(gr.ab (a1.2.1.1,())).bind fun tM=>bif !tM.1 then (some (((0:Int),([]:List cE),qc.1,()),())) else bif decide ((a1.1.length:Int) < a1.2.1.2.2.1) then ((jl.ab ((1:Int),())).bind fun J5=>some (J5.1,())) else bif decide (a1.2.1.2.2.1=(12:Int)) then ((jl.ab ((2:Int),())).bind fun J2=>some (J2.1,())) else let N5:=fun (tQ:st)=>(if 0<=a1.2.1.2.2.1/\a1.2.1.2.2.1 < (tQ.2.2.1.length:Int) then ((tQ.2.2.1[a1.2.1.2.2.1.toNat]?).bind fun zE=>(tQ.2.2.1[a1.2.1.2.2.1.toNat]?).bind fun J6=>(eC.ab (J6,a1.2.1.2.2.2.1,())).bind fun J7=>if 0<=a1.2.1.2.2.1/\a1.2.1.2.2.1 < (tQ.2.2.1.length:Int) then ((tQ.2.2.1[a1.2.1.2.2.1.toNat]?).bind fun Rh=>some ((tQ.1,tQ.2.1,tQ.2.2.1.set a1.2.1.2.2.1.toNat J7.1,tQ.2.2.2),())) else none) else none:Option Out);bif decide (a1.2.1.2.2.1=(a1.1.length:Int)) then ((gx.ab ((0:UInt8),())).bind fun Gr=>if qc.1.length+[Gr.1].length<=bg then (N5 ((0:Int),([]:List cE),qc.1++[Gr.1],())) else none) else N5 ((0:Int),([]:List cE),qc.1,())
noncomputable abbrev Q0 (_:Nat):=q0
noncomputable def s0 (k:Nat) (a1:Arg):(Int)->Option Out:=fun aX=>D.L k [1,1,0,1,0,0] [0,3,4,5] [] (af 0 (ao (D.N k [1,1,1]) D.K0)) (T0 a1 aX)
noncomputable def r0 (k:Nat) (a1:Arg):(Int)->Option Out:=ak (fun w v=>B0 k w (Q0 k a1) a1 v) k
theorem au (k:Nat) (a1:Arg):s0 k a1=r0 k a1:=
 funext fun aX=>an _ _ _ (T0 a1) _ (fun rec v=>by kernel_rfl) k aX
noncomputable def p (l0:(Int)->Option Out) (a1:Arg):Option Out:=bif decide ((12:Int) < (a1.1.length:Int)) then ((jl.ab ((2:Int),())).bind fun r2=>some (r2.1,())) else l0 (0:Int)
theorem aa (k:Nat) (a1:Arg):@Eq (Option Out) (D.W k a1) (p (r0 k a1) a1):=
 Eq.trans (b:=p (s0 k a1) a1) (by kernel_rfl) (by rw[au])
theorem ok:Ok prog 193 D.sig:=aq func193 aB (by kernel_rfl) (fc gi.ok (fc gt.ok (fc jl.ok (fc gr.ok (fc gx.ok (fc eC.ok (al _)))))))
end bL
namespace fN
abbrev Arg:Type:=(List aM)×Unit
abbrev Out:Type:=(List (List UInt8))×Int×Unit
abbrev ps:PQ:=[(.ro,(.U bO))]
noncomputable def D:FD:={ fn:=f120,tl:=aL,ps:=ps,rs:=[((.U (.U u8)),(am (.U (.U u8)))),(i64,(ax i64))],gl:=[(193,bL.D.sig)],lv:=[(3,[0,4,5])],lx:=[(0,[4])],od:=[(7,[0,1,2,3])] }
noncomputable def ab (a:Arg):Option Out:=@lift Out fun k=>D.W k a
noncomputable def T0 (a1:Arg) (J:(List (List UInt8))×Int):St:={ n:=28,sl:=[(0,.val (.U bO) a1.1),(4,.own (.U (.U u8)) (am (.U (.U u8))) [] J.1),(5,.val i64 J.2)],vr:=[],av:=[] }
noncomputable def b0 (self:((List (List UInt8))×Int)->Option Out) (e0:(List (List UInt8))->Option Out) (a1:Arg) (J:(List (List UInt8))×Int):Option Out:=bif decide (J.2 < (a1.1.length:Int)) then (if 0<=J.2 then ((a1.1[J.2.toNat]?).bind fun aC=>(bL.ab (J.1,aC,())).bind fun cb=>bif !decide (cb.1.1=(0:Int)) then (some (([]:List (List UInt8)),cb.1.1,())) else self (cb.1.2.2.1,ae (J.2+(1:Int)))) else none) else e0 J.1
noncomputable abbrev B0 (_:Nat):=b0
noncomputable def q0 (a1:Arg) (bQ:(List (List UInt8))):Option Out:=some (bQ,(0:Int),())
noncomputable abbrev Q0 (_:Nat):=q0
noncomputable def s0 (k:Nat) (a1:Arg):((List (List UInt8))×Int)->Option Out:=fun J=>D.L k [1,1,0,1,0,0] [0,4,5] [] (af 0 (ao (D.N k [1,1,1]) D.K0)) (T0 a1 J)
noncomputable def r0 (k:Nat) (a1:Arg):((List (List UInt8))×Int)->Option Out:=ak (fun w v=>B0 k w (Q0 k a1) a1 v) k
theorem au (k:Nat) (a1:Arg):s0 k a1=r0 k a1:=
 funext fun J=>an _ _ _ (T0 a1) _ (fun rec v=>by kernel_rfl) k J
noncomputable def p (l0:((List (List UInt8))×Int)->Option Out) (a1:Arg):Option Out:=l0 (([]:List (List UInt8)),(0:Int))
theorem aa (k:Nat) (a1:Arg):@Eq (Option Out) (D.W k a1) (p (r0 k a1) a1):=
 Eq.trans (b:=p (s0 k a1) a1) (by kernel_rfl) (by rw[au])
theorem ok:Ok prog 120 D.sig:=aq func120 aB (by kernel_rfl) (fc bL.ok (al _))
end fN
namespace ip
abbrev Arg:Type:=Log×Unit
abbrev Out:Type:=(List aM)×Unit
abbrev ps:PQ:=[(.ro,(.ptr dP))]
noncomputable def D:FD:={ fn:=f121,tl:=aL,ps:=ps,rs:=[((.U bO),(am (.U bO)))],gl:=[(109,du.D.sig),(189,dv.D.sig)],od:=[(1,[0,1,2,3,5,6,7,8,4,9,10,11,12,13,14,15])] }
noncomputable def ab (a:Arg):Option Out:=@lift Out fun k=>D.W k a
noncomputable def p (a1:Arg):Option Out:=(du.ab (a1.1.1,())).bind fun r2=>if r2.1.length+a1.1.2.1.length<=bg then ((dv.ab (r2.1++a1.1.2.1,())).bind fun r3=>some (r3.1,())) else none
theorem aa (k:Nat) (a1:Arg):@Eq (Option Out) (D.W k a1) (p a1):=by kernel_rfl
theorem ok:Ok prog 121 D.sig:=aq func121 aB (by kernel_rfl) (fc du.ok (fc dv.ok (al _)))
end ip
namespace fh
abbrev Arg:Type:=(List (List UInt8))×(List (List UInt8))×Unit
abbrev Out:Type:=Bool×Unit
abbrev ps:PQ:=[(.ro,(.U (.U u8))),(.ro,(.U (.U u8)))]
noncomputable def D:FD:={ fn:=f122,tl:=aL,ps:=ps,rs:=[(.bool,(ax .bool))],lv:=[(4,[0,1,5])],lx:=[(0,[])],od:=[(6,[0,1,2,3,4,5,6,7,8,9,10])] }
noncomputable def ab (a:Arg):Option Out:=@lift Out fun k=>D.W k a
noncomputable def T0 (a1:Arg) (J:Int):St:={ n:=28,sl:=[(0,.val (.U (.U u8)) a1.1),(1,.val (.U (.U u8)) a1.2.1),(5,.val i64 J)],vr:=[],av:=[] }
noncomputable def b0 (self:Int->Option Out) (e0:(Unit)->Option Out) (a1:Arg) (J:Int):Option Out:=bif decide (J < (a1.1.length:Int)) then (if 0<=J then ((a1.1[J.toNat]?).bind fun aC=>if 0<=J then ((a1.2.1[J.toNat]?).bind fun cW=>bif !decide (aC=cW) then (some (false,())) else self (ae (J+(1:Int)))) else none) else none) else e0 ()
noncomputable abbrev B0 (_:Nat):=b0
noncomputable def q0 (a1:Arg) (bQ:(Unit)):Option Out:=some (true,())
noncomputable abbrev Q0 (_:Nat):=q0
noncomputable def s0 (k:Nat) (a1:Arg):(Int)->Option Out:=fun J=>D.L k [1,1,0,1,0,0] [0,1,5] [] (af 0 (ao (D.N k [1,1,1]) D.K0)) (T0 a1 J)
noncomputable def r0 (k:Nat) (a1:Arg):(Int)->Option Out:=ak (fun w v=>B0 k w (Q0 k a1) a1 v) k
theorem au (k:Nat) (a1:Arg):s0 k a1=r0 k a1:=
 funext fun J=>an _ _ _ (T0 a1) _ (fun rec v=>by kernel_rfl) k J
noncomputable def p (l0:(Int)->Option Out) (a1:Arg):Option Out:=bif !decide ((a1.1.length:Int)=(a1.2.1.length:Int)) then (some (false,())) else l0 (0:Int)
theorem aa (k:Nat) (a1:Arg):@Eq (Option Out) (D.W k a1) (p (r0 k a1) a1):=
 Eq.trans (b:=p (s0 k a1) a1) (by kernel_rfl) (by rw[au])
theorem ok:Ok prog 122 D.sig:=aq func122 aB (by kernel_rfl) (al _)
end fh
namespace jK
abbrev Arg:Type:=eP×Unit
abbrev Out:Type:=Int×Unit
abbrev ps:PQ:=[(.ro,(.ptr cM))]
noncomputable def D:FD:={ fn:=f56,tl:=aL,ps:=ps,rs:=[(i64,(ax i64))],gl:=[(72,iK.D.sig),(75,c9.D.sig),(117,jr.D.sig),(118,aS.D.sig),(119,bT.D.sig),(120,fN.D.sig),(121,ip.D.sig),(122,fh.D.sig)],od:=[(13,[0,1,2,3,5,6,7,8,9,10,11,12,4,13,14,15])],ar:=[(13,[3,8,12])],pd:=[(13,[14])] }
noncomputable def ab (a:Arg):Option Out:=@lift Out fun k=>D.W k a
noncomputable def p (a1:Arg):Option Out:=(jr.ab (a1.1.2.2.1,())).bind fun r2=>bif !decide (r2.1=(0:Int)) then (some (r2.1,())) else bif !a1.1.1 then (bif decide ((0:Int) < (a1.1.2.1.length:Int)) then (some ((1:Int),())) else bif decide ((0:Int) < (a1.1.2.2.2.1.length:Int)) then (some ((1:Int),())) else bif decide ((0:Int) < (a1.1.2.2.1.2.1.length:Int)) then (some ((1:Int),())) else (aS.ab (a1.1.2.2.2.2.1,(1:Int),(100:Int),())).bind fun r3=>bif !r3.1 then (some ((3:Int),())) else some ((0:Int),())) else (bT.ab (a1.1.2.1,())).bind fun r4=>bif !decide (r4.1=(0:Int)) then (some (r4.1,())) else (c9.ab (a1.1.2.1,())).bind fun r5=>(iK.ab ((r5.1,a1.1.2.2.2.1,a1.1.2.2.2.2.1,()),())).bind fun r6=>bif !decide (r6.1=(0:Int)) then (some (r6.1,())) else (ip.ab (a1.1.2.2.1,())).bind fun r7=>(fN.ab (r7.1,())).bind fun r8=>bif !decide (r8.2.1=(0:Int)) then (some ((8:Int),())) else (fh.ab (r8.1,a1.1.2.1,())).bind fun r9=>bif !r9.1 then (some ((8:Int),())) else some ((0:Int),())
theorem aa (k:Nat) (a1:Arg):@Eq (Option Out) (D.W k a1) (p a1):=by kernel_rfl
theorem ok:Ok prog 56 D.sig:=aq func56 aB (by kernel_rfl) (fc iK.ok (fc c9.ok (fc jr.ok (fc aS.ok (fc bT.ok (fc fN.ok (fc ip.ok (fc fh.ok (al _)))))))))
end jK
namespace cH
abbrev Arg:Type:=(List UInt8)×Unit
abbrev Out:Type:=(List UInt8)×Unit
abbrev ps:PQ:=[(.ro,(.U u8))]
noncomputable def D:FD:={ fn:=f35,tl:=aL,ps:=ps,rs:=[((.U u8),(am (.U u8)))],lv:=[(3,[0,3,4])],lx:=[(0,[3])] }
noncomputable def ab (a:Arg):Option Out:=@lift Out fun k=>D.W k a
noncomputable def T0 (a1:Arg) (J:(List UInt8)×Int):St:={ n:=22,sl:=[(0,.val (.U u8) a1.1),(3,.own (.U u8) (am (.U u8)) [] J.1),(4,.val i64 J.2)],vr:=[],av:=[] }
noncomputable def b0 (self:((List UInt8)×Int)->Option Out) (e0:(List UInt8)->Option Out) (a1:Arg) (J:(List UInt8)×Int):Option Out:=bif decide (J.2 < (a1.1.length:Int)) then (if 0<=J.2 then ((a1.1[J.2.toNat]?).bind fun aC=>if 0<=J.2/\J.2 < (J.1.length:Int) then ((J.1[J.2.toNat]?).bind fun cW=>self (J.1.set J.2.toNat aC,ae (J.2+(1:Int)))) else none) else none) else e0 J.1
noncomputable abbrev B0 (_:Nat):=b0
noncomputable def q0 (a1:Arg) (bQ:(List UInt8)):Option Out:=some (bQ,())
noncomputable abbrev Q0 (_:Nat):=q0
noncomputable def s0 (k:Nat) (a1:Arg):((List UInt8)×Int)->Option Out:=fun J=>D.L k [1,1,0,1,0,0] [0,3,4] [] (af 0 (ao (D.N k [1,1,1]) D.K0)) (T0 a1 J)
noncomputable def r0 (k:Nat) (a1:Arg):((List UInt8)×Int)->Option Out:=ak (fun w v=>B0 k w (Q0 k a1) a1 v) k
theorem au (k:Nat) (a1:Arg):s0 k a1=r0 k a1:=
 funext fun J=>an _ _ _ (T0 a1) _ (fun rec v=>by kernel_rfl) k J
noncomputable def p (l0:((List UInt8)×Int)->Option Out) (a1:Arg):Option Out:=if 0<=(a1.1.length:Int)/\(a1.1.length:Int)<=(a1.1.length:Int)/\(a1.1.length:Int)<=(bg:Int) then (l0 (List.replicate (a1.1.length:Int).toNat (0:UInt8),(0:Int))) else none
theorem aa (k:Nat) (a1:Arg):@Eq (Option Out) (D.W k a1) (p (r0 k a1) a1):=
 Eq.trans (b:=p (s0 k a1) a1) (by kernel_rfl) (by rw[au])
theorem ok:Ok prog 35 D.sig:=aq func35 aB (by kernel_rfl) (al _)
end cH
namespace dz
abbrev Arg:Type:=(List (List UInt8))×Unit
abbrev Out:Type:=(List (List UInt8))×Unit
abbrev ps:PQ:=[(.ro,(.U (.U u8)))]
noncomputable def D:FD:={ fn:=f57,tl:=aL,ps:=ps,rs:=[((.U (.U u8)),(am (.U (.U u8))))],gl:=[(35,cH.D.sig)],lv:=[(3,[0,3,4])],lx:=[(0,[3])] }
noncomputable def ab (a:Arg):Option Out:=@lift Out fun k=>D.W k a
noncomputable def T0 (a1:Arg) (J:(List (List UInt8))×Int):St:={ n:=23,sl:=[(0,.val (.U (.U u8)) a1.1),(3,.own (.U (.U u8)) (am (.U (.U u8))) [] J.1),(4,.val i64 J.2)],vr:=[],av:=[] }
noncomputable def b0 (self:((List (List UInt8))×Int)->Option Out) (e0:(List (List UInt8))->Option Out) (a1:Arg) (J:(List (List UInt8))×Int):Option Out:=bif decide (J.2 < (a1.1.length:Int)) then (if 0<=J.2 then ((a1.1[J.2.toNat]?).bind fun aC=>(cH.ab (aC,())).bind fun cb=>if 0<=J.2/\J.2 < (J.1.length:Int) then ((J.1[J.2.toNat]?).bind fun cg=>self (J.1.set J.2.toNat cb.1,ae (J.2+(1:Int)))) else none) else none) else e0 J.1
noncomputable abbrev B0 (_:Nat):=b0
noncomputable def q0 (a1:Arg) (kx:(List (List UInt8))):Option Out:=some (kx,())
noncomputable abbrev Q0 (_:Nat):=q0
noncomputable def s0 (k:Nat) (a1:Arg):((List (List UInt8))×Int)->Option Out:=fun J=>D.L k [1,1,0,1,0,0] [0,3,4] [] (af 0 (ao (D.N k [1,1,1]) D.K0)) (T0 a1 J)
noncomputable def r0 (k:Nat) (a1:Arg):((List (List UInt8))×Int)->Option Out:=ak (fun w v=>B0 k w (Q0 k a1) a1 v) k
theorem au (k:Nat) (a1:Arg):s0 k a1=r0 k a1:=
 funext fun J=>an _ _ _ (T0 a1) _ (fun rec v=>by kernel_rfl) k J
noncomputable def p (l0:((List (List UInt8))×Int)->Option Out) (a1:Arg):Option Out:=if 0<=(a1.1.length:Int)/\(a1.1.length:Int)<=(a1.1.length:Int)/\(a1.1.length:Int)<=(bg:Int) then (l0 (List.replicate (a1.1.length:Int).toNat ([]:List UInt8),(0:Int))) else none
theorem aa (k:Nat) (a1:Arg):@Eq (Option Out) (D.W k a1) (p (r0 k a1) a1):=
 Eq.trans (b:=p (s0 k a1) a1) (by kernel_rfl) (by rw[au])
theorem ok:Ok prog 57 D.sig:=aq func57 aB (by kernel_rfl) (fc cH.ok (al _))
end dz
namespace kU
abbrev Arg:Type:=Log×Unit
abbrev Out:Type:=Log×Unit
abbrev ps:PQ:=[(.ro,dP)]
noncomputable def D:FD:={ fn:=f58,tl:=aL,ps:=ps,rs:=[(dP,(am dP))],gl:=[(35,cH.D.sig)] }
noncomputable def ab (a:Arg):Option Out:=@lift Out fun k=>D.W k a
noncomputable def p (a1:Arg):Option Out:=(cH.ab (a1.1.1,())).bind fun r2=>(cH.ab (a1.1.2.1,())).bind fun r3=>some ((r2.1,r3.1,()),())
theorem aa (k:Nat) (a1:Arg):@Eq (Option Out) (D.W k a1) (p a1):=by kernel_rfl
theorem ok:Ok prog 58 D.sig:=aq func58 aB (by kernel_rfl) (fc cH.ok (al _))
end kU
namespace jS
abbrev Arg:Type:=Row×Unit
abbrev Out:Type:=Row×Unit
abbrev ps:PQ:=[(.ro,aA)]
noncomputable def D:FD:={ fn:=f147,tl:=aL,ps:=ps,rs:=[(aA,(ax aA))] }
noncomputable def ab (a:Arg):Option Out:=@lift Out fun k=>D.W k a
noncomputable def p (a1:Arg):Option Out:=some ((a1.1.1,a1.1.2.1,a1.1.2.2.1,a1.1.2.2.2.1,()),())
theorem aa (k:Nat) (a1:Arg):@Eq (Option Out) (D.W k a1) (p a1):=by kernel_rfl
theorem ok:Ok prog 147 D.sig:=aq func147 aB (by kernel_rfl) (al _)
end jS
namespace iL
abbrev Arg:Type:=Change×Unit
abbrev Out:Type:=Change×Unit
abbrev ps:PQ:=[(.ro,ap)]
noncomputable def D:FD:={ fn:=f263,tl:=aL,ps:=ps,rs:=[(ap,(ax ap))],gl:=[(147,jS.D.sig)] }
noncomputable def ab (a:Arg):Option Out:=@lift Out fun k=>D.W k a
noncomputable def p (a1:Arg):Option Out:=(jS.ab (a1.1.2.1,())).bind fun r2=>(jS.ab (a1.1.2.2.2.1,())).bind fun r3=>some ((a1.1.1,r2.1,a1.1.2.2.1,r3.1,()),())
theorem aa (k:Nat) (a1:Arg):@Eq (Option Out) (D.W k a1) (p a1):=by kernel_rfl
theorem ok:Ok prog 263 D.sig:=aq func263 aB (by kernel_rfl) (fc jS.ok (al _))
end iL
namespace cX
abbrev Arg:Type:=(List Change)×Unit
abbrev Out:Type:=(List Change)×Unit
abbrev ps:PQ:=[(.ro,(.U ap))]
noncomputable def D:FD:={ fn:=f194,tl:=aL,ps:=ps,rs:=[((.U ap),(am (.U ap)))],gl:=[(263,iL.D.sig)],lv:=[(3,[0,3,4])],lx:=[(0,[3])] }
noncomputable def ab (a:Arg):Option Out:=@lift Out fun k=>D.W k a
noncomputable def T0 (a1:Arg) (J:(List Change)×Int):St:={ n:=23,sl:=[(0,.val (.U ap) a1.1),(3,.own (.U ap) (am (.U ap)) [] J.1),(4,.val i64 J.2)],vr:=[],av:=[] }
noncomputable def b0 (self:((List Change)×Int)->Option Out) (e0:(List Change)->Option Out) (a1:Arg) (J:(List Change)×Int):Option Out:=bif decide (J.2 < (a1.1.length:Int)) then (if 0<=J.2 then ((a1.1[J.2.toNat]?).bind fun aC=>(iL.ab (aC,())).bind fun cb=>if 0<=J.2/\J.2 < (J.1.length:Int) then ((J.1[J.2.toNat]?).bind fun cg=>self (J.1.set J.2.toNat cb.1,ae (J.2+(1:Int)))) else none) else none) else e0 J.1
noncomputable abbrev B0 (_:Nat):=b0
noncomputable def q0 (a1:Arg) (kx:(List Change)):Option Out:=some (kx,())
noncomputable abbrev Q0 (_:Nat):=q0
noncomputable def s0 (k:Nat) (a1:Arg):((List Change)×Int)->Option Out:=fun J=>D.L k [1,1,0,1,0,0] [0,3,4] [] (af 0 (ao (D.N k [1,1,1]) D.K0)) (T0 a1 J)
noncomputable def r0 (k:Nat) (a1:Arg):((List Change)×Int)->Option Out:=ak (fun w v=>B0 k w (Q0 k a1) a1 v) k
theorem au (k:Nat) (a1:Arg):s0 k a1=r0 k a1:=
 funext fun J=>an _ _ _ (T0 a1) _ (fun rec v=>by kernel_rfl) k J
noncomputable def p (l0:((List Change)×Int)->Option Out) (a1:Arg):Option Out:=if 0<=(a1.1.length:Int)/\(a1.1.length:Int)<=(a1.1.length:Int)/\(a1.1.length:Int)<=(bg:Int) then (l0 (List.replicate (a1.1.length:Int).toNat (false,((0:Int),(0:Int),(0:Int),([]:List UInt8),()),false,((0:Int),(0:Int),(0:Int),([]:List UInt8),()),()),(0:Int))) else none
theorem aa (k:Nat) (a1:Arg):@Eq (Option Out) (D.W k a1) (p (r0 k a1) a1):=
 Eq.trans (b:=p (s0 k a1) a1) (by kernel_rfl) (by rw[au])
theorem ok:Ok prog 194 D.sig:=aq func194 aB (by kernel_rfl) (fc iL.ok (al _))
end cX
namespace dA
abbrev Arg:Type:=(List Int)×Unit
abbrev Out:Type:=(List Int)×Unit
abbrev ps:PQ:=[(.ro,(.U i64))]
noncomputable def D:FD:={ fn:=f195,tl:=aL,ps:=ps,rs:=[((.U i64),(am (.U i64)))],lv:=[(3,[0,3,4])],lx:=[(0,[3])] }
noncomputable def ab (a:Arg):Option Out:=@lift Out fun k=>D.W k a
noncomputable def T0 (a1:Arg) (J:(List Int)×Int):St:={ n:=22,sl:=[(0,.val (.U i64) a1.1),(3,.own (.U i64) (am (.U i64)) [] J.1),(4,.val i64 J.2)],vr:=[],av:=[] }
noncomputable def b0 (self:((List Int)×Int)->Option Out) (e0:(List Int)->Option Out) (a1:Arg) (J:(List Int)×Int):Option Out:=bif decide (J.2 < (a1.1.length:Int)) then (if 0<=J.2 then ((a1.1[J.2.toNat]?).bind fun aC=>if 0<=J.2/\J.2 < (J.1.length:Int) then ((J.1[J.2.toNat]?).bind fun cW=>self (J.1.set J.2.toNat aC,ae (J.2+(1:Int)))) else none) else none) else e0 J.1
noncomputable abbrev B0 (_:Nat):=b0
noncomputable def q0 (a1:Arg) (bQ:(List Int)):Option Out:=some (bQ,())
noncomputable abbrev Q0 (_:Nat):=q0
noncomputable def s0 (k:Nat) (a1:Arg):((List Int)×Int)->Option Out:=fun J=>D.L k [1,1,0,1,0,0] [0,3,4] [] (af 0 (ao (D.N k [1,1,1]) D.K0)) (T0 a1 J)
noncomputable def r0 (k:Nat) (a1:Arg):((List Int)×Int)->Option Out:=ak (fun w v=>B0 k w (Q0 k a1) a1 v) k
theorem au (k:Nat) (a1:Arg):s0 k a1=r0 k a1:=
 funext fun J=>an _ _ _ (T0 a1) _ (fun rec v=>by kernel_rfl) k J
noncomputable def p (l0:((List Int)×Int)->Option Out) (a1:Arg):Option Out:=if 0<=(a1.1.length:Int)/\(a1.1.length:Int)<=(a1.1.length:Int)/\(a1.1.length:Int)<=(bg:Int) then (l0 (List.replicate (a1.1.length:Int).toNat (0:Int),(0:Int))) else none
theorem aa (k:Nat) (a1:Arg):@Eq (Option Out) (D.W k a1) (p (r0 k a1) a1):=
 Eq.trans (b:=p (s0 k a1) a1) (by kernel_rfl) (by rw[au])
theorem ok:Ok prog 195 D.sig:=aq func195 aB (by kernel_rfl) (al _)
end dA
namespace kV
abbrev Arg:Type:=Key×Unit
abbrev Out:Type:=Key×Unit
abbrev ps:PQ:=[(.ro,aE)]
noncomputable def D:FD:={ fn:=f264,tl:=aL,ps:=ps,rs:=[(aE,(ax aE))] }
noncomputable def ab (a:Arg):Option Out:=@lift Out fun k=>D.W k a
noncomputable def p (a1:Arg):Option Out:=some ((a1.1.1,a1.1.2.1,()),())
theorem aa (k:Nat) (a1:Arg):@Eq (Option Out) (D.W k a1) (p a1):=by kernel_rfl
theorem ok:Ok prog 264 D.sig:=aq func264 aB (by kernel_rfl) (al _)
end kV
namespace eM
abbrev Arg:Type:=(List Key)×Unit
abbrev Out:Type:=(List Key)×Unit
abbrev ps:PQ:=[(.ro,(.U aE))]
noncomputable def D:FD:={ fn:=f196,tl:=aL,ps:=ps,rs:=[((.U aE),(am (.U aE)))],gl:=[(264,kV.D.sig)],lv:=[(3,[0,3,4])],lx:=[(0,[3])] }
noncomputable def ab (a:Arg):Option Out:=@lift Out fun k=>D.W k a
noncomputable def T0 (a1:Arg) (J:(List Key)×Int):St:={ n:=23,sl:=[(0,.val (.U aE) a1.1),(3,.own (.U aE) (am (.U aE)) [] J.1),(4,.val i64 J.2)],vr:=[],av:=[] }
noncomputable def b0 (self:((List Key)×Int)->Option Out) (e0:(List Key)->Option Out) (a1:Arg) (J:(List Key)×Int):Option Out:=bif decide (J.2 < (a1.1.length:Int)) then (if 0<=J.2 then ((a1.1[J.2.toNat]?).bind fun aC=>(kV.ab (aC,())).bind fun cb=>if 0<=J.2/\J.2 < (J.1.length:Int) then ((J.1[J.2.toNat]?).bind fun cg=>self (J.1.set J.2.toNat cb.1,ae (J.2+(1:Int)))) else none) else none) else e0 J.1
noncomputable abbrev B0 (_:Nat):=b0
noncomputable def q0 (a1:Arg) (kx:(List Key)):Option Out:=some (kx,())
noncomputable abbrev Q0 (_:Nat):=q0
noncomputable def s0 (k:Nat) (a1:Arg):((List Key)×Int)->Option Out:=fun J=>D.L k [1,1,0,1,0,0] [0,3,4] [] (af 0 (ao (D.N k [1,1,1]) D.K0)) (T0 a1 J)
noncomputable def r0 (k:Nat) (a1:Arg):((List Key)×Int)->Option Out:=ak (fun w v=>B0 k w (Q0 k a1) a1 v) k
theorem au (k:Nat) (a1:Arg):s0 k a1=r0 k a1:=
 funext fun J=>an _ _ _ (T0 a1) _ (fun rec v=>by kernel_rfl) k J
noncomputable def p (l0:((List Key)×Int)->Option Out) (a1:Arg):Option Out:=if 0<=(a1.1.length:Int)/\(a1.1.length:Int)<=(a1.1.length:Int)/\(a1.1.length:Int)<=(bg:Int) then (l0 (List.replicate (a1.1.length:Int).toNat ((0:Int),(0:Int),()),(0:Int))) else none
theorem aa (k:Nat) (a1:Arg):@Eq (Option Out) (D.W k a1) (p (r0 k a1) a1):=
 Eq.trans (b:=p (s0 k a1) a1) (by kernel_rfl) (by rw[au])
theorem ok:Ok prog 196 D.sig:=aq func196 aB (by kernel_rfl) (fc kV.ok (al _))
end eM
namespace lO
abbrev Arg:Type:=Tx×Unit
abbrev Out:Type:=Tx×Unit
abbrev ps:PQ:=[(.ro,aY)]
noncomputable def D:FD:={ fn:=f123,tl:=aL,ps:=ps,rs:=[(aY,(am aY))],gl:=[(194,cX.D.sig),(195,dA.D.sig),(196,eM.D.sig)] }
noncomputable def ab (a:Arg):Option Out:=@lift Out fun k=>D.W k a
noncomputable def p (a1:Arg):Option Out:=(cX.ab (a1.1.2.1,())).bind fun r2=>(dA.ab (a1.1.2.2.1,())).bind fun r3=>(eM.ab (a1.1.2.2.2.1,())).bind fun r4=>some ((a1.1.1,r2.1,r3.1,r4.1,()),())
theorem aa (k:Nat) (a1:Arg):@Eq (Option Out) (D.W k a1) (p a1):=by kernel_rfl
theorem ok:Ok prog 123 D.sig:=aq func123 aB (by kernel_rfl) (fc cX.ok (fc dA.ok (fc eM.ok (al _))))
end lO
namespace fD
abbrev Arg:Type:=(List Tx)×Unit
abbrev Out:Type:=(List Tx)×Unit
abbrev ps:PQ:=[(.ro,(.U aY))]
noncomputable def D:FD:={ fn:=f59,tl:=aL,ps:=ps,rs:=[((.U aY),(am (.U aY)))],gl:=[(123,lO.D.sig)],lv:=[(3,[0,3,4])],lx:=[(0,[3])] }
noncomputable def ab (a:Arg):Option Out:=@lift Out fun k=>D.W k a
noncomputable def T0 (a1:Arg) (J:(List Tx)×Int):St:={ n:=23,sl:=[(0,.val (.U aY) a1.1),(3,.own (.U aY) (am (.U aY)) [] J.1),(4,.val i64 J.2)],vr:=[],av:=[] }
noncomputable def b0 (self:((List Tx)×Int)->Option Out) (e0:(List Tx)->Option Out) (a1:Arg) (J:(List Tx)×Int):Option Out:=bif decide (J.2 < (a1.1.length:Int)) then (if 0<=J.2 then ((a1.1[J.2.toNat]?).bind fun aC=>(lO.ab (aC,())).bind fun cb=>if 0<=J.2/\J.2 < (J.1.length:Int) then ((J.1[J.2.toNat]?).bind fun cg=>self (J.1.set J.2.toNat cb.1,ae (J.2+(1:Int)))) else none) else none) else e0 J.1
noncomputable abbrev B0 (_:Nat):=b0
noncomputable def q0 (a1:Arg) (kx:(List Tx)):Option Out:=some (kx,())
noncomputable abbrev Q0 (_:Nat):=q0
noncomputable def s0 (k:Nat) (a1:Arg):((List Tx)×Int)->Option Out:=fun J=>D.L k [1,1,0,1,0,0] [0,3,4] [] (af 0 (ao (D.N k [1,1,1]) D.K0)) (T0 a1 J)
noncomputable def r0 (k:Nat) (a1:Arg):((List Tx)×Int)->Option Out:=ak (fun w v=>B0 k w (Q0 k a1) a1 v) k
theorem au (k:Nat) (a1:Arg):s0 k a1=r0 k a1:=
 funext fun J=>an _ _ _ (T0 a1) _ (fun rec v=>by kernel_rfl) k J
noncomputable def p (l0:((List Tx)×Int)->Option Out) (a1:Arg):Option Out:=if 0<=(a1.1.length:Int)/\(a1.1.length:Int)<=(a1.1.length:Int)/\(a1.1.length:Int)<=(bg:Int) then (l0 (List.replicate (a1.1.length:Int).toNat ((0:Int),([]:List Change),([]:List Int),([]:List Key),()),(0:Int))) else none
theorem aa (k:Nat) (a1:Arg):@Eq (Option Out) (D.W k a1) (p (r0 k a1) a1):=
 Eq.trans (b:=p (s0 k a1) a1) (by kernel_rfl) (by rw[au])
theorem ok:Ok prog 59 D.sig:=aq func59 aB (by kernel_rfl) (fc lO.ok (al _))
end fD
namespace gj
abbrev Arg:Type:=eP×Unit
abbrev Out:Type:=eP×Unit
abbrev ps:PQ:=[(.ro,cM)]
noncomputable def D:FD:={ fn:=f13,tl:=aL,ps:=ps,rs:=[(cM,(am cM))],gl:=[(57,dz.D.sig),(58,kU.D.sig),(59,fD.D.sig)] }
noncomputable def ab (a:Arg):Option Out:=@lift Out fun k=>D.W k a
noncomputable def p (a1:Arg):Option Out:=(dz.ab (a1.1.2.1,())).bind fun r2=>(kU.ab (a1.1.2.2.1,())).bind fun r3=>(fD.ab (a1.1.2.2.2.1,())).bind fun r4=>some ((a1.1.1,r2.1,r3.1,r4.1,a1.1.2.2.2.2.1,()),())
theorem aa (k:Nat) (a1:Arg):@Eq (Option Out) (D.W k a1) (p a1):=by kernel_rfl
theorem ok:Ok prog 13 D.sig:=aq func13 aB (by kernel_rfl) (fc dz.ok (fc kU.ok (fc fD.ok (al _))))
end gj
namespace iM
abbrev Arg:Type:=Log×Unit
abbrev Out:Type:=Int×Unit
abbrev ps:PQ:=[(.ro,dP)]
noncomputable def D:FD:={ fn:=f124,tl:=aL,ps:=ps,rs:=[(i64,(ax i64))] }
noncomputable def ab (a:Arg):Option Out:=@lift Out fun k=>D.W k a
noncomputable def p (a1:Arg):Option Out:=some (ae ((a1.1.1.length:Int)+(a1.1.2.1.length:Int)),())
theorem aa (k:Nat) (a1:Arg):@Eq (Option Out) (D.W k a1) (p a1):=by kernel_rfl
theorem ok:Ok prog 124 D.sig:=aq func124 aB (by kernel_rfl) (al _)
end iM
namespace cq
abbrev Arg:Type:=Int×Int×Int×Unit
abbrev Out:Type:=Bool×Unit
abbrev ps:PQ:=[(.ro,i64),(.ro,i64),(.ro,i64)]
noncomputable def D:FD:={ fn:=f61,tl:=aL,ps:=ps,rs:=[(.bool,(ax .bool))] }
noncomputable def ab (a:Arg):Option Out:=@lift Out fun k=>D.W k a
noncomputable def p (a1:Arg):Option Out:=bif decide (a1.2.1<=a1.1) then (some (decide (a1.1<=a1.2.2.1),())) else some (false,())
theorem aa (k:Nat) (a1:Arg):@Eq (Option Out) (D.W k a1) (p a1):=by kernel_rfl
theorem ok:Ok prog 61 D.sig:=aq func61 aB (by kernel_rfl) (al _)
end cq
namespace ju
abbrev Arg:Type:=Int×Unit
abbrev Out:Type:=Bool×Unit
abbrev ps:PQ:=[(.ro,i64)]
noncomputable def D:FD:={ fn:=f203,tl:=aL,ps:=ps,rs:=[(.bool,(ax .bool))],gl:=[(61,cq.D.sig)] }
noncomputable def ab (a:Arg):Option Out:=@lift Out fun k=>D.W k a
noncomputable def p (a1:Arg):Option Out:=(cq.ab (a1.1,(1:Int),(99:Int),())).bind fun r2=>some (r2.1,())
theorem aa (k:Nat) (a1:Arg):@Eq (Option Out) (D.W k a1) (p a1):=by kernel_rfl
theorem ok:Ok prog 203 D.sig:=aq func203 aB (by kernel_rfl) (fc cq.ok (al _))
end ju
namespace gL
abbrev Arg:Type:=Int×Unit
abbrev Out:Type:=Bool×Unit
abbrev ps:PQ:=[(.ro,i64)]
noncomputable def D:FD:={ fn:=f206,tl:=aL,ps:=ps,rs:=[(.bool,(ax .bool))] }
noncomputable def ab (a:Arg):Option Out:=@lift Out fun k=>D.W k a
noncomputable def p (a1:Arg):Option Out:=bif decide (a1.1=(2:Int)) then (some (true,())) else bif decide (a1.1=(3:Int)) then (some (true,())) else some (decide (a1.1=(4:Int)),())
theorem aa (k:Nat) (a1:Arg):@Eq (Option Out) (D.W k a1) (p a1):=by kernel_rfl
theorem ok:Ok prog 206 D.sig:=aq func206 aB (by kernel_rfl) (al _)
end gL
namespace cY
abbrev Arg:Type:=(List cE)×Unit
abbrev Out:Type:=Int×Unit
abbrev ps:PQ:=[(.ro,(.U pq))]
noncomputable def D:FD:={ fn:=f207,tl:=aL,ps:=ps,rs:=[(i64,(ax i64))],gl:=[(61,cq.D.sig)],lv:=[(5,[3,10,11,12])],lx:=[(0,[])] }
noncomputable def ab (a:Arg):Option Out:=@lift Out fun k=>D.W k a
noncomputable def T0 (a1:Arg) (J:Int×Int):St:={ n:=45,sl:=[(3,.val i64 J.1),(10,.val (.U pq) a1.1),(11,.val i64 (a1.1.length:Int)),(12,.val i64 J.2)],vr:=[],av:=[] }
noncomputable def b0 (self:(Int×Int)->Option Out) (e0:(Unit)->Option Out) (a1:Arg) (J:Int×Int):Option Out:=bif decide (J.2 < (a1.1.length:Int)) then (if 0<=J.2 then ((a1.1[J.2.toNat]?).bind fun aC=>(cq.ab (aC.1,(0:Int),(63:Int),())).bind fun cb=>bif !cb.1 then (some ((3:Int),())) else (cq.ab ((aC.2.1.length:Int),(1:Int),(64:Int),())).bind fun gU=>bif !gU.1 then (some ((3:Int),())) else bif decide ((64:Int) < ae (aC.1+(aC.2.1.length:Int))) then (some ((3:Int),())) else bif decide (aC.1 < J.1) then (some ((1:Int),())) else self (ae ((ae (aC.1+(aC.2.1.length:Int)))+(1:Int)),ae (J.2+(1:Int)))) else none) else e0 ()
noncomputable abbrev B0 (_:Nat):=b0
noncomputable def q0 (a1:Arg) (kx:(Unit)):Option Out:=some ((0:Int),())
noncomputable abbrev Q0 (_:Nat):=q0
noncomputable def s0 (k:Nat) (a1:Arg):(Int×Int)->Option Out:=fun J=>D.L k [1,1,1,0,1,0,0] [3,10,11,12] [] (af 0 (ao (D.N k [1,1,1,1]) D.K0)) (T0 a1 J)
noncomputable def r0 (k:Nat) (a1:Arg):(Int×Int)->Option Out:=ak (fun w v=>B0 k w (Q0 k a1) a1 v) k
theorem au (k:Nat) (a1:Arg):s0 k a1=r0 k a1:=
 funext fun J=>an _ _ _ (T0 a1) _ (fun rec v=>by kernel_rfl) k J
noncomputable def p (l0:(Int×Int)->Option Out) (a1:Arg):Option Out:=bif decide ((64:Int) < (a1.1.length:Int)) then (some ((2:Int),())) else l0 ((0:Int),(0:Int))
theorem aa (k:Nat) (a1:Arg):@Eq (Option Out) (D.W k a1) (p (r0 k a1) a1):=
 Eq.trans (b:=p (s0 k a1) a1) (by kernel_rfl) (by rw[au])
theorem ok:Ok prog 207 D.sig:=aq func207 aB (by kernel_rfl) (fc cq.ok (al _))
end cY
namespace d6
abbrev Arg:Type:=aM×Unit
abbrev Out:Type:=Int×Unit
abbrev ps:PQ:=[(.ro,bO)]
noncomputable def D:FD:={ fn:=f135,tl:=aL,ps:=ps,rs:=[(i64,(ax i64))],gl:=[(61,cq.D.sig),(203,ju.D.sig),(206,gL.D.sig),(207,cY.D.sig)] }
noncomputable def ab (a:Arg):Option Out:=@lift Out fun k=>D.W k a
noncomputable def p (a1:Arg):Option Out:=let LI:Option Out:=let Qq:Option Out:=(cY.ab (a1.1.2.2.2.1,())).bind fun Qr=>bif !decide (Qr.1=(0:Int)) then (some (Qr.1,())) else (gL.ab (a1.1.1,())).bind fun Tb=>bif Tb.1 then (bif decide ((a1.1.2.2.2.1.length:Int)=(0:Int)) then (some ((1:Int),())) else bif decide (a1.1.1=(4:Int)) then (bif !decide ((a1.1.2.2.2.1.length:Int)=(1:Int)) then (some ((1:Int),())) else (a1.1.2.2.2.1[0]?).bind fun N6=>bif !decide ((N6.2.1.length:Int)=(64:Int)) then (some ((1:Int),())) else some ((0:Int),())) else some ((0:Int),())) else bif decide (a1.1.1=(4:Int)) then (bif !decide ((a1.1.2.2.2.1.length:Int)=(1:Int)) then (some ((1:Int),())) else (a1.1.2.2.2.1[0]?).bind fun N7=>bif !decide ((N7.2.1.length:Int)=(64:Int)) then (some ((1:Int),())) else some ((0:Int),())) else some ((0:Int),());bif !decide (a1.1.1=(4:Int)) then ((ju.ab (a1.1.2.1,())).bind fun IE=>bif !IE.1 then (some ((3:Int),())) else (cq.ab (a1.1.2.2.1,(0:Int),(11:Int),())).bind fun LJ=>bif !LJ.1 then (some ((3:Int),())) else Qq) else (cq.ab (a1.1.2.2.1,(0:Int),(11:Int),())).bind fun Tc=>bif !Tc.1 then (some ((3:Int),())) else Qq;(cq.ab (a1.1.1,(1:Int),(6:Int),())).bind fun r2=>bif !r2.1 then (some ((1:Int),())) else (gL.ab (a1.1.1,())).bind fun r3=>bif !r3.1 then (bif !decide (a1.1.2.2.1=(0:Int)) then (some ((1:Int),())) else bif decide ((0:Int) < (a1.1.2.2.2.1.length:Int)) then (some ((1:Int),())) else bif decide (a1.1.1=(4:Int)) then (bif !decide (a1.1.2.1=(0:Int)) then (some ((1:Int),())) else LI) else LI) else bif decide (a1.1.1=(4:Int)) then (bif !decide (a1.1.2.1=(0:Int)) then (some ((1:Int),())) else LI) else LI
theorem aa (k:Nat) (a1:Arg):@Eq (Option Out) (D.W k a1) (p a1):=by kernel_rfl
theorem ok:Ok prog 135 D.sig:=aq func135 aB (by kernel_rfl) (fc cq.ok (fc ju.ok (fc gL.ok (fc cY.ok (al _)))))
end d6
namespace bB
abbrev Arg:Type:=(List UInt8)×(List UInt8)×Unit
abbrev Out:Type:=Bool×Unit
abbrev ps:PQ:=[(.ro,(.U u8)),(.ro,(.U u8))]
noncomputable def D:FD:={ fn:=f138,tl:=aL,ps:=ps,rs:=[(.bool,(ax .bool))],lv:=[(4,[0,1,12,13])],lx:=[(0,[])],od:=[(6,[0,1,2,3,4,5,6,7,8])] }
noncomputable def ab (a:Arg):Option Out:=@lift Out fun k=>D.W k a
noncomputable def T0 (a1:Arg) (J:Int):St:={ n:=26,sl:=[(0,.val (.U u8) a1.1),(1,.val (.U u8) a1.2.1),(12,.val i64 (a1.1.length:Int)),(13,.val i64 J)],vr:=[],av:=[] }
noncomputable def b0 (self:Int->Option Out) (e0:(Unit)->Option Out) (a1:Arg) (J:Int):Option Out:=bif decide (J < (a1.1.length:Int)) then (if 0<=J then ((a1.1[J.toNat]?).bind fun aC=>if 0<=J then ((a1.2.1[J.toNat]?).bind fun cW=>bif !decide ((aC.toNat:Int)=(cW.toNat:Int)) then (some (false,())) else self (ae (J+(1:Int)))) else none) else none) else e0 ()
noncomputable abbrev B0 (_:Nat):=b0
noncomputable def q0 (a1:Arg) (bQ:(Unit)):Option Out:=some (true,())
noncomputable abbrev Q0 (_:Nat):=q0
noncomputable def s0 (k:Nat) (a1:Arg):(Int)->Option Out:=fun J=>D.L k [1,1,0,1,0,0] [0,1,12,13] [] (af 0 (ao (D.N k [1,1,1]) D.K0)) (T0 a1 J)
noncomputable def r0 (k:Nat) (a1:Arg):(Int)->Option Out:=ak (fun w v=>B0 k w (Q0 k a1) a1 v) k
theorem au (k:Nat) (a1:Arg):s0 k a1=r0 k a1:=
 funext fun J=>an _ _ _ (T0 a1) _ (fun rec v=>by kernel_rfl) k J
noncomputable def p (l0:(Int)->Option Out) (a1:Arg):Option Out:=bif !decide ((a1.1.length:Int)=(a1.2.1.length:Int)) then (some (false,())) else l0 (0:Int)
theorem aa (k:Nat) (a1:Arg):@Eq (Option Out) (D.W k a1) (p (r0 k a1) a1):=
 Eq.trans (b:=p (s0 k a1) a1) (by kernel_rfl) (by rw[au])
theorem ok:Ok prog 138 D.sig:=aq func138 aB (by kernel_rfl) (al _)
end bB
namespace gH
abbrev Arg:Type:=(List UInt8)×Unit
abbrev Out:Type:=(List UInt8)×Unit
abbrev ps:PQ:=[(.ro,(.U u8))]
noncomputable def D:FD:={ fn:=f159,tl:=aL,ps:=ps,rs:=[((.U u8),(am (.U u8)))] }
noncomputable def ab (a:Arg):Option Out:=@lift Out fun k=>D.W k a
noncomputable def p (a1:Arg):Option Out:=if ([]:List UInt8).length+a1.1.length<=bg then (some (([]:List UInt8)++a1.1,())) else none
theorem aa (k:Nat) (a1:Arg):@Eq (Option Out) (D.W k a1) (p a1):=by kernel_rfl
theorem ok:Ok prog 159 D.sig:=aq func159 aB (by kernel_rfl) (al _)
end gH
end OT
