/- The proof's parts, merged: Printed by gen.py, a program of this claim  what each Go function computes.. No conditions but those that each states. -/
import Derived.Test.YtachfnbfagcplaaGreatSd
import Derived.Test.YtachfnbfagcplaaGreatProg
import Derived.KernelRfl
set_option maxRecDepth 100000
set_option linter.unusedVariables false
namespace OT
open Go Go.Proofs.Tryz
abbrev Log:Type:=((List UInt8)×(List UInt8)×Unit)
abbrev fe:Ty:=(bM [(.U u8),(.U u8)])
abbrev Row:Type:=(Int×Int×Int×(List UInt8)×Unit)
abbrev aF:Ty:=(bM [i64,i64,i64,.str])
abbrev Change:Type:=(Bool×Row×Bool×Row×Unit)
abbrev an:Ty:=(bM [.bool,aF,.bool,aF])
abbrev Key:Type:=(Int×Int×Unit)
abbrev aL:Ty:=(bM [i64,i64])
abbrev Tx:Type:=(Int×(List Change)×(List Int)×(List Key)×Unit)
abbrev bd:Ty:=(bM [i64,(.U an),(.U i64),(.U aL)])
abbrev kb:Type:=(Bool×(List (List UInt8))×Log×(List Tx)×Int×Unit)
abbrev cd:Ty:=(bM [.bool,(.U (.U u8)),fe,(.U bd),i64])
abbrev Buffer:Type:=(Int×(List Change)×Unit)
abbrev aC:Ty:=(bM [i64,(.U an)])
abbrev jm:Type:=((List (List UInt8))×(List Buffer)×Unit)
abbrev br:Ty:=(bM [(.U (.U u8)),(.U aC)])
abbrev gT:Type:=(jm×Int×jm×Int×Unit)
abbrev ba:Ty:=(bM [br,i64,br,i64])
abbrev gg:Type:=(Int×Int×(List Change)×Unit)
abbrev bK:Ty:=(bM [i64,i64,(.U an)])
abbrev World:Type:=(kb×gT×(List gg)×Unit)
abbrev dR:Ty:=(bM [cd,ba,(.U bK)])
abbrev cR:Type:=(Int×(List UInt8)×Unit)
abbrev pP:Ty:=(bM [i64,(.U u8)])
abbrev aO:Type:=(Int×Int×Int×(List cR)×Unit)
abbrev cb:Ty:=(bM [i64,i64,i64,(.U pP)])
abbrev Df:Type:=(Int×Int×aO×Unit)
abbrev qB:Ty:=(bM [i64,i64,cb])
abbrev lu:Type:=(Int×Int×Int×Int×Row×Unit)
abbrev kM:Ty:=(bM [i64,i64,i64,i64,aF])
abbrev ax:Type:=(Int×Int×lu×Unit)
abbrev dU:Ty:=(bM [i64,i64,kM])
abbrev Plain:Type:=((List Row)×(List Tx)×Int×Unit)
abbrev tu:Ty:=(bM [(.U aF),(.U bd),i64])
abbrev sZ:Type:=(Int×(List cR)×(List (List UInt8))×Unit)
abbrev k8:Ty:=(bM [i64,(.U pP),(.U (.U u8))])
abbrev Seen:Type:=(Row×Int×Int×Bool×Int×Int×Unit)
abbrev cY:Ty:=(bM [aF,i64,i64,.bool,i64,i64])
abbrev qS:Type:=(Int×(List Row)×Unit)
abbrev om:Ty:=(bM [i64,(.U aF)])
noncomputable def aE:TL:=[(2,i64),(23,(.U u8)),(143,aF),(22,(.U (.U u8))),(82,(.U an)),(5,u8),(132,bd),(96,(.U aF)),(198,an),(4,.bool),(40,(.U bd)),(187,aL),(3,i64),(158,cb),(130,(.U aL)),(156,(.U pP)),(39,fe),(145,kM),(9,.str),(228,pP),(43,(.U aC)),(45,br),(164,aC),(73,(.U an)),(113,(.U i64)),(42,cd),(47,ba),(48,(.U bK)),(84,bK),(50,dR),(102,(.U cb)),(180,(.U dU)),(183,dU),(25,fe),(26,(.U bd)),(28,cd),(29,(.U aC)),(31,br),(33,ba),(34,(.U bK)),(75,bK),(99,tu),(114,(.U aL)),(116,bd),(174,aC),(176,aF),(178,an),(36,dR),(92,(.U cY)),(150,(.map aL .bool)),(155,cY),(192,k8),(222,om),(241,qB),(260,aL),(208,(.arr 64 .bool)),(209,(.int .u64)),(211,(.map (.arr 2 i64) aF)),(212,(.arr 2 i64)),(214,(.map (.arr 2 i64) .bool))]
theorem ay:(GP prog aE&&BJ prog aE)=true:=by kernel_rfl
namespace fN
abbrev Arg:Type:=(List UInt8)×Int×Unit
abbrev Out:Type:=Int×Unit
abbrev ps:PQ:=[(.ro,(.U u8)),(.ro,i64)]
noncomputable def D:FD:={ fn:=f50,tl:=aE,ps:=ps,rs:=[(i64,(av i64))] }
noncomputable def ab (a:Arg):Option Out:=@lift Out fun k=>D.W k a
noncomputable def p (a1:Arg):Option Out:=bif decide (ae (a1.2.1 - (a1.1.length:Int)) < (0:Int)) then (some ((-1:Int),())) else some (ae (a1.2.1 - (a1.1.length:Int)),())
theorem aa (k:Nat) (a1:Arg):@Eq (Option Out) (D.W k a1) (p a1):=by kernel_rfl
theorem ok:Ok prog 50 D.sig:=am func50 ay (by kernel_rfl) (ai _)
end fN
namespace cj
abbrev Arg:Type:=(List (List UInt8))×Int×Unit
abbrev Out:Type:=Int×Unit
abbrev ps:PQ:=[(.ro,(.U (.U u8))),(.ro,i64)]
noncomputable def D:FD:={ fn:=f22,tl:=aE,ps:=ps,rs:=[(i64,(av i64))],gl:=[(50,fN.D.sig)],lv:=[(5,[0,1,5])],lx:=[(0,[1])] }
noncomputable def ab (a:Arg):Option Out:=@lift Out fun k=>D.W k a
noncomputable def T0 (a1:Arg) (J:Int×Int):St:={ n:=27,sl:=[(0,.val (.U (.U u8)) a1.1),(1,.val i64 J.1),(5,.val i64 J.2)],vr:=[],aw:=[] }
noncomputable def b0 (self:(Int×Int)->Option Out) (e0:Int->Option Out) (a1:Arg) (J:Int×Int):Option Out:=bif decide (J.2 < (a1.1.length:Int)) then (if 0<=J.2 then ((a1.1[J.2.toNat]?).bind fun aB=>(fN.ab (aB,J.1,())).bind fun bs=>bif decide (bs.1 < (0:Int)) then (some ((-1:Int),())) else self (bs.1,ae (J.2+(1:Int)))) else none) else e0 J.1
noncomputable abbrev B0 (_:Nat):=b0
noncomputable def q0 (a1:Arg) (bY:Int):Option Out:=some (bY,())
noncomputable abbrev Q0 (_:Nat):=q0
noncomputable def s0 (k:Nat) (a1:Arg):(Int×Int)->Option Out:=fun J=>D.L k [1,1,1,0,1,0,0] [0,1,5] [] (af 0 (ap (D.N k [1,1,1,1]) D.K0)) (T0 a1 J)
noncomputable def r0 (k:Nat) (a1:Arg):(Int×Int)->Option Out:=al (fun w v=>B0 k w (Q0 k a1) a1 v) k
theorem aq (k:Nat) (a1:Arg):s0 k a1=r0 k a1:=
 funext fun J=>ao _ _ _ (T0 a1) _ (fun rec v=>by kernel_rfl) k J
noncomputable def p (l0:(Int×Int)->Option Out) (a1:Arg):Option Out:=bif decide (ae (a1.2.1 - (a1.1.length:Int)) < (0:Int)) then (some ((-1:Int),())) else l0 (ae (a1.2.1 - (a1.1.length:Int)),(0:Int))
theorem aa (k:Nat) (a1:Arg):@Eq (Option Out) (D.W k a1) (p (r0 k a1) a1):=
 Eq.trans (b:=p (s0 k a1) a1) (by kernel_rfl) (by rw[aq])
theorem ok:Ok prog 22 D.sig:=am func22 ay (by kernel_rfl) (fc fN.ok (ai _))
end cj
namespace lw
abbrev Arg:Type:=Log×Int×Unit
abbrev Out:Type:=Int×Unit
abbrev ps:PQ:=[(.ro,fe),(.ro,i64)]
noncomputable def D:FD:={ fn:=f23,tl:=aE,ps:=ps,rs:=[(i64,(av i64))],gl:=[(50,fN.D.sig)] }
noncomputable def ab (a:Arg):Option Out:=@lift Out fun k=>D.W k a
noncomputable def p (a1:Arg):Option Out:=(fN.ab (a1.1.1,a1.2.1,())).bind fun r2=>bif decide (r2.1 < (0:Int)) then (some ((-1:Int),())) else (fN.ab (a1.1.2.1,r2.1,())).bind fun r3=>bif decide (r3.1 < (0:Int)) then (some ((-1:Int),())) else some (r3.1,())
theorem aa (k:Nat) (a1:Arg):@Eq (Option Out) (D.W k a1) (p a1):=by kernel_rfl
theorem ok:Ok prog 23 D.sig:=am func23 ay (by kernel_rfl) (fc fN.ok (ai _))
end lw
namespace kB
abbrev Arg:Type:=Row×Int×Unit
abbrev Out:Type:=Int×Unit
abbrev ps:PQ:=[(.ro,aF),(.ro,i64)]
noncomputable def D:FD:={ fn:=f140,tl:=aE,ps:=ps,rs:=[(i64,(av i64))] }
noncomputable def ab (a:Arg):Option Out:=@lift Out fun k=>D.W k a
noncomputable def p (a1:Arg):Option Out:=bif decide (ae (a1.2.1 - (a1.1.2.2.2.1.length:Int)) < (0:Int)) then (some ((-1:Int),())) else some (ae (a1.2.1 - (a1.1.2.2.2.1.length:Int)),())
theorem aa (k:Nat) (a1:Arg):@Eq (Option Out) (D.W k a1) (p a1):=by kernel_rfl
theorem ok:Ok prog 140 D.sig:=am func140 ay (by kernel_rfl) (ai _)
end kB
namespace iY
abbrev Arg:Type:=Change×Int×Unit
abbrev Out:Type:=Int×Unit
abbrev ps:PQ:=[(.ro,an),(.ro,i64)]
noncomputable def D:FD:={ fn:=f95,tl:=aE,ps:=ps,rs:=[(i64,(av i64))],gl:=[(140,kB.D.sig)] }
noncomputable def ab (a:Arg):Option Out:=@lift Out fun k=>D.W k a
noncomputable def p (a1:Arg):Option Out:=(kB.ab (a1.1.2.1,a1.2.1,())).bind fun r2=>bif decide (r2.1 < (0:Int)) then (some ((-1:Int),())) else (kB.ab (a1.1.2.2.2.1,r2.1,())).bind fun r3=>bif decide (r3.1 < (0:Int)) then (some ((-1:Int),())) else some (r3.1,())
theorem aa (k:Nat) (a1:Arg):@Eq (Option Out) (D.W k a1) (p a1):=by kernel_rfl
theorem ok:Ok prog 95 D.sig:=am func95 ay (by kernel_rfl) (fc kB.ok (ai _))
end iY
namespace bA
abbrev Arg:Type:=(List Change)×Int×Unit
abbrev Out:Type:=Int×Unit
abbrev ps:PQ:=[(.ro,(.U an)),(.ro,i64)]
noncomputable def D:FD:={ fn:=f53,tl:=aE,ps:=ps,rs:=[(i64,(av i64))],gl:=[(95,iY.D.sig)],lv:=[(5,[0,1,5])],lx:=[(0,[1])] }
noncomputable def ab (a:Arg):Option Out:=@lift Out fun k=>D.W k a
noncomputable def T0 (a1:Arg) (J:Int×Int):St:={ n:=27,sl:=[(0,.val (.U an) a1.1),(1,.val i64 J.1),(5,.val i64 J.2)],vr:=[],aw:=[] }
noncomputable def b0 (self:(Int×Int)->Option Out) (e0:Int->Option Out) (a1:Arg) (J:Int×Int):Option Out:=bif decide (J.2 < (a1.1.length:Int)) then (if 0<=J.2 then ((a1.1[J.2.toNat]?).bind fun aB=>(iY.ab (aB,J.1,())).bind fun bs=>bif decide (bs.1 < (0:Int)) then (some ((-1:Int),())) else self (bs.1,ae (J.2+(1:Int)))) else none) else e0 J.1
noncomputable abbrev B0 (_:Nat):=b0
noncomputable def q0 (a1:Arg) (bY:Int):Option Out:=some (bY,())
noncomputable abbrev Q0 (_:Nat):=q0
noncomputable def s0 (k:Nat) (a1:Arg):(Int×Int)->Option Out:=fun J=>D.L k [1,1,1,0,1,0,0] [0,1,5] [] (af 0 (ap (D.N k [1,1,1,1]) D.K0)) (T0 a1 J)
noncomputable def r0 (k:Nat) (a1:Arg):(Int×Int)->Option Out:=al (fun w v=>B0 k w (Q0 k a1) a1 v) k
theorem aq (k:Nat) (a1:Arg):s0 k a1=r0 k a1:=
 funext fun J=>ao _ _ _ (T0 a1) _ (fun rec v=>by kernel_rfl) k J
noncomputable def p (l0:(Int×Int)->Option Out) (a1:Arg):Option Out:=bif decide (ae (a1.2.1 - (a1.1.length:Int)) < (0:Int)) then (some ((-1:Int),())) else l0 (ae (a1.2.1 - (a1.1.length:Int)),(0:Int))
theorem aa (k:Nat) (a1:Arg):@Eq (Option Out) (D.W k a1) (p (r0 k a1) a1):=
 Eq.trans (b:=p (s0 k a1) a1) (by kernel_rfl) (by rw[aq])
theorem ok:Ok prog 53 D.sig:=am func53 ay (by kernel_rfl) (fc iY.ok (ai _))
end bA
namespace iZ
abbrev Arg:Type:=(List Int)×Int×Unit
abbrev Out:Type:=Int×Unit
abbrev ps:PQ:=[(.ro,(.U i64)),(.ro,i64)]
noncomputable def D:FD:={ fn:=f92,tl:=aE,ps:=ps,rs:=[(i64,(av i64))] }
noncomputable def ab (a:Arg):Option Out:=@lift Out fun k=>D.W k a
noncomputable def p (a1:Arg):Option Out:=bif decide (ae (a1.2.1 - (a1.1.length:Int)) < (0:Int)) then (some ((-1:Int),())) else some (ae (a1.2.1 - (a1.1.length:Int)),())
theorem aa (k:Nat) (a1:Arg):@Eq (Option Out) (D.W k a1) (p a1):=by kernel_rfl
theorem ok:Ok prog 92 D.sig:=am func92 ay (by kernel_rfl) (ai _)
end iZ
namespace kN
abbrev Arg:Type:=(List Key)×Int×Unit
abbrev Out:Type:=Int×Unit
abbrev ps:PQ:=[(.ro,(.U aL)),(.ro,i64)]
noncomputable def D:FD:={ fn:=f93,tl:=aE,ps:=ps,rs:=[(i64,(av i64))] }
noncomputable def ab (a:Arg):Option Out:=@lift Out fun k=>D.W k a
noncomputable def p (a1:Arg):Option Out:=bif decide (ae (a1.2.1 - (a1.1.length:Int)) < (0:Int)) then (some ((-1:Int),())) else some (ae (a1.2.1 - (a1.1.length:Int)),())
theorem aa (k:Nat) (a1:Arg):@Eq (Option Out) (D.W k a1) (p a1):=by kernel_rfl
theorem ok:Ok prog 93 D.sig:=am func93 ay (by kernel_rfl) (ai _)
end kN
namespace mm
abbrev Arg:Type:=Tx×Int×Unit
abbrev Out:Type:=Int×Unit
abbrev ps:PQ:=[(.ro,bd),(.ro,i64)]
noncomputable def D:FD:={ fn:=f51,tl:=aE,ps:=ps,rs:=[(i64,(av i64))],gl:=[(53,bA.D.sig),(92,iZ.D.sig),(93,kN.D.sig)] }
noncomputable def ab (a:Arg):Option Out:=@lift Out fun k=>D.W k a
noncomputable def p (a1:Arg):Option Out:=(bA.ab (a1.1.2.1,a1.2.1,())).bind fun r2=>bif decide (r2.1 < (0:Int)) then (some ((-1:Int),())) else (iZ.ab (a1.1.2.2.1,r2.1,())).bind fun r3=>bif decide (r3.1 < (0:Int)) then (some ((-1:Int),())) else (kN.ab (a1.1.2.2.2.1,r3.1,())).bind fun r4=>bif decide (r4.1 < (0:Int)) then (some ((-1:Int),())) else some (r4.1,())
theorem aa (k:Nat) (a1:Arg):@Eq (Option Out) (D.W k a1) (p a1):=by kernel_rfl
theorem ok:Ok prog 51 D.sig:=am func51 ay (by kernel_rfl) (fc bA.ok (fc iZ.ok (fc kN.ok (ai _))))
end mm
namespace eG
abbrev Arg:Type:=(List Tx)×Int×Unit
abbrev Out:Type:=Int×Unit
abbrev ps:PQ:=[(.ro,(.U bd)),(.ro,i64)]
noncomputable def D:FD:={ fn:=f24,tl:=aE,ps:=ps,rs:=[(i64,(av i64))],gl:=[(51,mm.D.sig)],lv:=[(5,[0,1,5])],lx:=[(0,[1])] }
noncomputable def ab (a:Arg):Option Out:=@lift Out fun k=>D.W k a
noncomputable def T0 (a1:Arg) (J:Int×Int):St:={ n:=27,sl:=[(0,.val (.U bd) a1.1),(1,.val i64 J.1),(5,.val i64 J.2)],vr:=[],aw:=[] }
noncomputable def b0 (self:(Int×Int)->Option Out) (e0:Int->Option Out) (a1:Arg) (J:Int×Int):Option Out:=bif decide (J.2 < (a1.1.length:Int)) then (if 0<=J.2 then ((a1.1[J.2.toNat]?).bind fun aB=>(mm.ab (aB,J.1,())).bind fun bs=>bif decide (bs.1 < (0:Int)) then (some ((-1:Int),())) else self (bs.1,ae (J.2+(1:Int)))) else none) else e0 J.1
noncomputable abbrev B0 (_:Nat):=b0
noncomputable def q0 (a1:Arg) (bY:Int):Option Out:=some (bY,())
noncomputable abbrev Q0 (_:Nat):=q0
noncomputable def s0 (k:Nat) (a1:Arg):(Int×Int)->Option Out:=fun J=>D.L k [1,1,1,0,1,0,0] [0,1,5] [] (af 0 (ap (D.N k [1,1,1,1]) D.K0)) (T0 a1 J)
noncomputable def r0 (k:Nat) (a1:Arg):(Int×Int)->Option Out:=al (fun w v=>B0 k w (Q0 k a1) a1 v) k
theorem aq (k:Nat) (a1:Arg):s0 k a1=r0 k a1:=
 funext fun J=>ao _ _ _ (T0 a1) _ (fun rec v=>by kernel_rfl) k J
noncomputable def p (l0:(Int×Int)->Option Out) (a1:Arg):Option Out:=bif decide (ae (a1.2.1 - (a1.1.length:Int)) < (0:Int)) then (some ((-1:Int),())) else l0 (ae (a1.2.1 - (a1.1.length:Int)),(0:Int))
theorem aa (k:Nat) (a1:Arg):@Eq (Option Out) (D.W k a1) (p (r0 k a1) a1):=
 Eq.trans (b:=p (s0 k a1) a1) (by kernel_rfl) (by rw[aq])
theorem ok:Ok prog 24 D.sig:=am func24 ay (by kernel_rfl) (fc mm.ok (ai _))
end eG
namespace jM
abbrev Arg:Type:=kb×Int×Unit
abbrev Out:Type:=Int×Unit
abbrev ps:PQ:=[(.ro,cd),(.ro,i64)]
noncomputable def D:FD:={ fn:=f9,tl:=aE,ps:=ps,rs:=[(i64,(av i64))],gl:=[(22,cj.D.sig),(23,lw.D.sig),(24,eG.D.sig)] }
noncomputable def ab (a:Arg):Option Out:=@lift Out fun k=>D.W k a
noncomputable def p (a1:Arg):Option Out:=(cj.ab (a1.1.2.1,a1.2.1,())).bind fun r2=>bif decide (r2.1 < (0:Int)) then (some ((-1:Int),())) else (lw.ab (a1.1.2.2.1,r2.1,())).bind fun r3=>bif decide (r3.1 < (0:Int)) then (some ((-1:Int),())) else (eG.ab (a1.1.2.2.2.1,r3.1,())).bind fun r4=>bif decide (r4.1 < (0:Int)) then (some ((-1:Int),())) else some (r4.1,())
theorem aa (k:Nat) (a1:Arg):@Eq (Option Out) (D.W k a1) (p a1):=by kernel_rfl
theorem ok:Ok prog 9 D.sig:=am func9 ay (by kernel_rfl) (fc cj.ok (fc lw.ok (fc eG.ok (ai _))))
end jM
namespace i6
abbrev Arg:Type:=Buffer×Int×Unit
abbrev Out:Type:=Int×Unit
abbrev ps:PQ:=[(.ro,aC),(.ro,i64)]
noncomputable def D:FD:={ fn:=f94,tl:=aE,ps:=ps,rs:=[(i64,(av i64))],gl:=[(53,bA.D.sig)] }
noncomputable def ab (a:Arg):Option Out:=@lift Out fun k=>D.W k a
noncomputable def p (a1:Arg):Option Out:=(bA.ab (a1.1.2.1,a1.2.1,())).bind fun r2=>bif decide (r2.1 < (0:Int)) then (some ((-1:Int),())) else some (r2.1,())
theorem aa (k:Nat) (a1:Arg):@Eq (Option Out) (D.W k a1) (p a1):=by kernel_rfl
theorem ok:Ok prog 94 D.sig:=am func94 ay (by kernel_rfl) (fc bA.ok (ai _))
end i6
namespace cC
abbrev Arg:Type:=(List Buffer)×Int×Unit
abbrev Out:Type:=Int×Unit
abbrev ps:PQ:=[(.ro,(.U aC)),(.ro,i64)]
noncomputable def D:FD:={ fn:=f52,tl:=aE,ps:=ps,rs:=[(i64,(av i64))],gl:=[(94,i6.D.sig)],lv:=[(5,[0,1,5])],lx:=[(0,[1])] }
noncomputable def ab (a:Arg):Option Out:=@lift Out fun k=>D.W k a
noncomputable def T0 (a1:Arg) (J:Int×Int):St:={ n:=27,sl:=[(0,.val (.U aC) a1.1),(1,.val i64 J.1),(5,.val i64 J.2)],vr:=[],aw:=[] }
noncomputable def b0 (self:(Int×Int)->Option Out) (e0:Int->Option Out) (a1:Arg) (J:Int×Int):Option Out:=bif decide (J.2 < (a1.1.length:Int)) then (if 0<=J.2 then ((a1.1[J.2.toNat]?).bind fun aB=>(i6.ab (aB,J.1,())).bind fun bs=>bif decide (bs.1 < (0:Int)) then (some ((-1:Int),())) else self (bs.1,ae (J.2+(1:Int)))) else none) else e0 J.1
noncomputable abbrev B0 (_:Nat):=b0
noncomputable def q0 (a1:Arg) (bY:Int):Option Out:=some (bY,())
noncomputable abbrev Q0 (_:Nat):=q0
noncomputable def s0 (k:Nat) (a1:Arg):(Int×Int)->Option Out:=fun J=>D.L k [1,1,1,0,1,0,0] [0,1,5] [] (af 0 (ap (D.N k [1,1,1,1]) D.K0)) (T0 a1 J)
noncomputable def r0 (k:Nat) (a1:Arg):(Int×Int)->Option Out:=al (fun w v=>B0 k w (Q0 k a1) a1 v) k
theorem aq (k:Nat) (a1:Arg):s0 k a1=r0 k a1:=
 funext fun J=>ao _ _ _ (T0 a1) _ (fun rec v=>by kernel_rfl) k J
noncomputable def p (l0:(Int×Int)->Option Out) (a1:Arg):Option Out:=bif decide (ae (a1.2.1 - (a1.1.length:Int)) < (0:Int)) then (some ((-1:Int),())) else l0 (ae (a1.2.1 - (a1.1.length:Int)),(0:Int))
theorem aa (k:Nat) (a1:Arg):@Eq (Option Out) (D.W k a1) (p (r0 k a1) a1):=
 Eq.trans (b:=p (s0 k a1) a1) (by kernel_rfl) (by rw[aq])
theorem ok:Ok prog 52 D.sig:=am func52 ay (by kernel_rfl) (fc i6.ok (ai _))
end cC
namespace iD
abbrev Arg:Type:=jm×Int×Unit
abbrev Out:Type:=Int×Unit
abbrev ps:PQ:=[(.ro,br),(.ro,i64)]
noncomputable def D:FD:={ fn:=f25,tl:=aE,ps:=ps,rs:=[(i64,(av i64))],gl:=[(22,cj.D.sig),(52,cC.D.sig)] }
noncomputable def ab (a:Arg):Option Out:=@lift Out fun k=>D.W k a
noncomputable def p (a1:Arg):Option Out:=(cj.ab (a1.1.1,a1.2.1,())).bind fun r2=>bif decide (r2.1 < (0:Int)) then (some ((-1:Int),())) else (cC.ab (a1.1.2.1,r2.1,())).bind fun r3=>bif decide (r3.1 < (0:Int)) then (some ((-1:Int),())) else some (r3.1,())
theorem aa (k:Nat) (a1:Arg):@Eq (Option Out) (D.W k a1) (p a1):=by kernel_rfl
theorem ok:Ok prog 25 D.sig:=am func25 ay (by kernel_rfl) (fc cj.ok (fc cC.ok (ai _)))
end iD
namespace gv
abbrev Arg:Type:=gT×Int×Unit
abbrev Out:Type:=Int×Unit
abbrev ps:PQ:=[(.ro,ba),(.ro,i64)]
noncomputable def D:FD:={ fn:=f10,tl:=aE,ps:=ps,rs:=[(i64,(av i64))],gl:=[(25,iD.D.sig)] }
noncomputable def ab (a:Arg):Option Out:=@lift Out fun k=>D.W k a
noncomputable def p (a1:Arg):Option Out:=(iD.ab (a1.1.1,a1.2.1,())).bind fun r2=>bif decide (r2.1 < (0:Int)) then (some ((-1:Int),())) else (iD.ab (a1.1.2.2.1,r2.1,())).bind fun r3=>bif decide (r3.1 < (0:Int)) then (some ((-1:Int),())) else some (r3.1,())
theorem aa (k:Nat) (a1:Arg):@Eq (Option Out) (D.W k a1) (p a1):=by kernel_rfl
theorem ok:Ok prog 10 D.sig:=am func10 ay (by kernel_rfl) (fc iD.ok (ai _))
end gv
namespace kO
abbrev Arg:Type:=gg×Int×Unit
abbrev Out:Type:=Int×Unit
abbrev ps:PQ:=[(.ro,bK),(.ro,i64)]
noncomputable def D:FD:={ fn:=f26,tl:=aE,ps:=ps,rs:=[(i64,(av i64))],gl:=[(53,bA.D.sig)] }
noncomputable def ab (a:Arg):Option Out:=@lift Out fun k=>D.W k a
noncomputable def p (a1:Arg):Option Out:=(bA.ab (a1.1.2.2.1,a1.2.1,())).bind fun r2=>bif decide (r2.1 < (0:Int)) then (some ((-1:Int),())) else some (r2.1,())
theorem aa (k:Nat) (a1:Arg):@Eq (Option Out) (D.W k a1) (p a1):=by kernel_rfl
theorem ok:Ok prog 26 D.sig:=am func26 ay (by kernel_rfl) (fc bA.ok (ai _))
end kO
namespace dq
abbrev Arg:Type:=(List gg)×Int×Unit
abbrev Out:Type:=Int×Unit
abbrev ps:PQ:=[(.ro,(.U bK)),(.ro,i64)]
noncomputable def D:FD:={ fn:=f11,tl:=aE,ps:=ps,rs:=[(i64,(av i64))],gl:=[(26,kO.D.sig)],lv:=[(5,[0,1,5])],lx:=[(0,[1])] }
noncomputable def ab (a:Arg):Option Out:=@lift Out fun k=>D.W k a
noncomputable def T0 (a1:Arg) (J:Int×Int):St:={ n:=27,sl:=[(0,.val (.U bK) a1.1),(1,.val i64 J.1),(5,.val i64 J.2)],vr:=[],aw:=[] }
noncomputable def b0 (self:(Int×Int)->Option Out) (e0:Int->Option Out) (a1:Arg) (J:Int×Int):Option Out:=bif decide (J.2 < (a1.1.length:Int)) then (if 0<=J.2 then ((a1.1[J.2.toNat]?).bind fun aB=>(kO.ab (aB,J.1,())).bind fun bs=>bif decide (bs.1 < (0:Int)) then (some ((-1:Int),())) else self (bs.1,ae (J.2+(1:Int)))) else none) else e0 J.1
noncomputable abbrev B0 (_:Nat):=b0
noncomputable def q0 (a1:Arg) (bY:Int):Option Out:=some (bY,())
noncomputable abbrev Q0 (_:Nat):=q0
noncomputable def s0 (k:Nat) (a1:Arg):(Int×Int)->Option Out:=fun J=>D.L k [1,1,1,0,1,0,0] [0,1,5] [] (af 0 (ap (D.N k [1,1,1,1]) D.K0)) (T0 a1 J)
noncomputable def r0 (k:Nat) (a1:Arg):(Int×Int)->Option Out:=al (fun w v=>B0 k w (Q0 k a1) a1 v) k
theorem aq (k:Nat) (a1:Arg):s0 k a1=r0 k a1:=
 funext fun J=>ao _ _ _ (T0 a1) _ (fun rec v=>by kernel_rfl) k J
noncomputable def p (l0:(Int×Int)->Option Out) (a1:Arg):Option Out:=bif decide (ae (a1.2.1 - (a1.1.length:Int)) < (0:Int)) then (some ((-1:Int),())) else l0 (ae (a1.2.1 - (a1.1.length:Int)),(0:Int))
theorem aa (k:Nat) (a1:Arg):@Eq (Option Out) (D.W k a1) (p (r0 k a1) a1):=
 Eq.trans (b:=p (s0 k a1) a1) (by kernel_rfl) (by rw[aq])
theorem ok:Ok prog 11 D.sig:=am func11 ay (by kernel_rfl) (fc kO.ok (ai _))
end dq
namespace jN
abbrev Arg:Type:=World×Int×Unit
abbrev Out:Type:=Int×Unit
abbrev ps:PQ:=[(.ro,dR),(.ro,i64)]
noncomputable def D:FD:={ fn:=f4,tl:=aE,ps:=ps,rs:=[(i64,(av i64))],gl:=[(9,jM.D.sig),(10,gv.D.sig),(11,dq.D.sig)] }
noncomputable def ab (a:Arg):Option Out:=@lift Out fun k=>D.W k a
noncomputable def p (a1:Arg):Option Out:=(jM.ab (a1.1.1,a1.2.1,())).bind fun r2=>bif decide (r2.1 < (0:Int)) then (some ((-1:Int),())) else (gv.ab (a1.1.2.1,r2.1,())).bind fun r3=>bif decide (r3.1 < (0:Int)) then (some ((-1:Int),())) else (dq.ab (a1.1.2.2.1,r3.1,())).bind fun r4=>bif decide (r4.1 < (0:Int)) then (some ((-1:Int),())) else some (r4.1,())
theorem aa (k:Nat) (a1:Arg):@Eq (Option Out) (D.W k a1) (p a1):=by kernel_rfl
theorem ok:Ok prog 4 D.sig:=am func4 ay (by kernel_rfl) (fc jM.ok (fc gv.ok (fc dq.ok (ai _))))
end jN
namespace aI
abbrev Arg:Type:=Int×Int×Int×Unit
abbrev Out:Type:=Bool×Unit
abbrev ps:PQ:=[(.ro,i64),(.ro,i64),(.ro,i64)]
noncomputable def D:FD:={ fn:=f55,tl:=aE,ps:=ps,rs:=[(.bool,(av .bool))] }
noncomputable def ab (a:Arg):Option Out:=@lift Out fun k=>D.W k a
noncomputable def p (a1:Arg):Option Out:=bif decide (a1.2.1<=a1.1) then (some (decide (a1.1<=a1.2.2.1),())) else some (false,())
theorem aa (k:Nat) (a1:Arg):@Eq (Option Out) (D.W k a1) (p a1):=by kernel_rfl
theorem ok:Ok prog 55 D.sig:=am func55 ay (by kernel_rfl) (ai _)
end aI
namespace gE
abbrev Arg:Type:=Int×Unit
abbrev Out:Type:=Bool×Unit
abbrev ps:PQ:=[(.ro,i64)]
noncomputable def D:FD:={ fn:=f158,tl:=aE,ps:=ps,rs:=[(.bool,(av .bool))],gl:=[(55,aI.D.sig)] }
noncomputable def ab (a:Arg):Option Out:=@lift Out fun k=>D.W k a
noncomputable def p (a1:Arg):Option Out:=(aI.ab (a1.1,(2:Int),(4:Int),())).bind fun r2=>some (r2.1,())
theorem aa (k:Nat) (a1:Arg):@Eq (Option Out) (D.W k a1) (p a1):=by kernel_rfl
theorem ok:Ok prog 158 D.sig:=am func158 ay (by kernel_rfl) (fc aI.ok (ai _))
end gE
namespace dL
abbrev Arg:Type:=(List cR)×Unit
abbrev Out:Type:=Int×Unit
abbrev ps:PQ:=[(.ro,(.U pP))]
noncomputable def D:FD:={ fn:=f192,tl:=aE,ps:=ps,rs:=[(i64,(av i64))],gl:=[(55,aI.D.sig)],lv:=[(4,[0,3])],lx:=[(0,[])],od:=[(9,[0,1,2,3,4,5,6,7,8,9,10,11,12,13,14,15,16,17,18,19,20,21,22,23])] }
noncomputable def ab (a:Arg):Option Out:=@lift Out fun k=>D.W k a
noncomputable def T0 (a1:Arg) (J:Int):St:={ n:=66,sl:=[(0,.val (.U pP) a1.1),(3,.val i64 J)],vr:=[],aw:=[] }
noncomputable def b0 (self:Int->Option Out) (e0:(Unit)->Option Out) (a1:Arg) (J:Int):Option Out:=bif decide (J < (a1.1.length:Int)) then (if 0<=J then ((a1.1[J.toNat]?).bind fun aB=>if 0<=J then ((a1.1[J.toNat]?).bind fun cM=>(aI.ab (cM.1,(0:Int),(63:Int),())).bind fun fY=>bif !fY.1 then (some ((3:Int),())) else (aI.ab ((aB.2.1.length:Int),(1:Int),(64:Int),())).bind fun jk=>bif !jk.1 then (some ((3:Int),())) else if 0<=J then ((a1.1[J.toNat]?).bind fun uo=>bif decide ((64:Int) < ae (uo.1+(aB.2.1.length:Int))) then (some ((3:Int),())) else bif decide ((0:Int) < J) then (if 0<=J then ((a1.1[J.toNat]?).bind fun xY=>if 0<=ae (J - (1:Int)) then ((a1.1[(ae (J - (1:Int))).toNat]?).bind fun Rk=>if 0<=ae (J - (1:Int)) then ((a1.1[(ae (J - (1:Int))).toNat]?).bind fun Rl=>bif decide (xY.1<=ae (Rk.1+(Rl.2.1.length:Int))) then (some ((1:Int),())) else self (ae (J+(1:Int)))) else none) else none) else none) else self (ae (J+(1:Int)))) else none) else none) else none) else e0 ()
noncomputable abbrev B0 (_:Nat):=b0
noncomputable def q0 (a1:Arg) (KC:(Unit)):Option Out:=some ((0:Int),())
noncomputable abbrev Q0 (_:Nat):=q0
noncomputable def s0 (k:Nat) (a1:Arg):(Int)->Option Out:=fun J=>D.L k [1,1,0,1,0,0] [0,3] [] (af 0 (ap (D.N k [1,1,1]) D.K0)) (T0 a1 J)
noncomputable def r0 (k:Nat) (a1:Arg):(Int)->Option Out:=al (fun w v=>B0 k w (Q0 k a1) a1 v) k
theorem aq (k:Nat) (a1:Arg):s0 k a1=r0 k a1:=
 funext fun J=>ao _ _ _ (T0 a1) _ (fun rec v=>by kernel_rfl) k J
noncomputable def p (l0:(Int)->Option Out) (a1:Arg):Option Out:=bif decide ((64:Int) < (a1.1.length:Int)) then (some ((2:Int),())) else l0 (0:Int)
theorem aa (k:Nat) (a1:Arg):@Eq (Option Out) (D.W k a1) (p (r0 k a1) a1):=
 Eq.trans (b:=p (s0 k a1) a1) (by kernel_rfl) (by rw[aq])
theorem ok:Ok prog 192 D.sig:=am func192 ay (by kernel_rfl) (fc aI.ok (ai _))
end dL
namespace gw
abbrev Arg:Type:=aO×Unit
abbrev Out:Type:=Int×Unit
abbrev ps:PQ:=[(.ro,(.ptr cb))]
noncomputable def D:FD:={ fn:=f156,tl:=aE,ps:=ps,rs:=[(i64,(av i64))],gl:=[(55,aI.D.sig),(158,gE.D.sig),(192,dL.D.sig)] }
noncomputable def ab (a:Arg):Option Out:=@lift Out fun k=>D.W k a
noncomputable def p (a1:Arg):Option Out:=let L7:Option Out:=let Qq:Option Out:=(gE.ab (a1.1.1,())).bind fun Ta=>bif !Ta.1 then (some ((0:Int),())) else (dL.ab (a1.1.2.2.2.1,())).bind fun Qr=>bif !decide (Qr.1=(0:Int)) then (some (Qr.1,())) else bif decide ((a1.1.2.2.2.1.length:Int)=(0:Int)) then (some ((1:Int),())) else bif decide (a1.1.1=(4:Int)) then ((a1.1.2.2.2.1[0]?).bind fun Dg=>bif !decide ((Dg.2.1.length:Int)=(64:Int)) then (some ((1:Int),())) else some ((0:Int),())) else some ((0:Int),());bif !decide (a1.1.1=(4:Int)) then ((aI.ab (a1.1.2.1,(1:Int),(99:Int),())).bind fun Tb=>bif !Tb.1 then (some ((3:Int),())) else (aI.ab (a1.1.2.2.1,(0:Int),(11:Int),())).bind fun Tc=>bif !Tc.1 then (some ((3:Int),())) else Qq) else (aI.ab (a1.1.2.2.1,(0:Int),(11:Int),())).bind fun Ol=>bif !Ol.1 then (some ((3:Int),())) else Qq;(aI.ab (a1.1.1,(1:Int),(6:Int),())).bind fun r2=>bif !r2.1 then (some ((1:Int),())) else (gE.ab (a1.1.1,())).bind fun r3=>bif !r3.1 then (bif !decide (a1.1.2.2.1=(0:Int)) then (some ((1:Int),())) else bif decide ((0:Int) < (a1.1.2.2.2.1.length:Int)) then (some ((1:Int),())) else bif decide (a1.1.1=(4:Int)) then (bif !decide (a1.1.2.1=(0:Int)) then (some ((1:Int),())) else L7) else L7) else bif decide (a1.1.1=(4:Int)) then (bif !decide (a1.1.2.1=(0:Int)) then (some ((1:Int),())) else L7) else L7
theorem aa (k:Nat) (a1:Arg):@Eq (Option Out) (D.W k a1) (p a1):=by kernel_rfl
theorem ok:Ok prog 156 D.sig:=am func156 ay (by kernel_rfl) (fc aI.ok (fc gE.ok (fc dL.ok (ai _))))
end gw
namespace dC
abbrev Arg:Type:=(List UInt8)×Unit
abbrev Out:Type:=(List UInt8)×Unit
abbrev ps:PQ:=[(.ro,(.U u8))]
noncomputable def D:FD:={ fn:=f107,tl:=aE,ps:=ps,rs:=[((.U u8),(au (.U u8)))] }
noncomputable def ab (a:Arg):Option Out:=@lift Out fun k=>D.W k a
noncomputable def p (a1:Arg):Option Out:=if ([]:List UInt8).length+a1.1.length<=bk then (some (([]:List UInt8)++a1.1,())) else none
theorem aa (k:Nat) (a1:Arg):@Eq (Option Out) (D.W k a1) (p a1):=by kernel_rfl
theorem ok:Ok prog 107 D.sig:=am func107 ay (by kernel_rfl) (ai _)
end dC
namespace ft
abbrev Arg:Type:=(List UInt8)×Unit
abbrev Out:Type:=aO×Unit
abbrev ps:PQ:=[(.ro,(.U u8))]
noncomputable def D:FD:={ fn:=f177,tl:=aE,ps:=ps,rs:=[(cb,(au cb))],gl:=[(107,dC.D.sig)],lv:=[(4,[0,2,3,4,5])],lx:=[(0,[2,3])],od:=[(1,[0,1,2,3,4,5,6,7,8,9,10,11,12,13,14]),(8,[0,1,2,3,4,5,6,7,8,9,10,11,12,13,14,15,16,17,18,19,20])] }
noncomputable def ab (a:Arg):Option Out:=@lift Out fun k=>D.W k a
noncomputable def T0 (a1:Arg) (cN:aO×Int×Int):St:={ n:=73,sl:=[(0,.val (.U u8) a1.1),(2,.box cb (au cb) [] ((0:Int),(0:Int),(0:Int),([]:List cR),())),(3,.box cb (au cb) [] cN.1),(4,.val i64 cN.2.1),(5,.val i64 cN.2.2)],vr:=[],aw:=[] }
noncomputable def b0 (self:(aO×Int×Int)->Option Out) (e0:aO->Option Out) (a1:Arg) (cN:aO×Int×Int):Option Out:=(a1.1[4]?).bind fun n7=>bif decide (cN.2.2 < ae (n7.toNat:Int)) then (bif decide (ae (cN.2.1+(2:Int))<=(a1.1.length:Int)) then (if 0<=ae (cN.2.1+(1:Int)) then ((a1.1[(ae (cN.2.1+(1:Int))).toNat]?).bind fun uo=>bif decide ((a1.1.length:Int) < ae ((ae (cN.2.1+(2:Int)))+(ae (uo.toNat:Int)))) then (e0 cN.1) else if 0<=cN.2.1 then ((a1.1[cN.2.1.toNat]?).bind fun xY=>if 0<=ae (cN.2.1+(2:Int))/\ae (cN.2.1+(2:Int))<=ae ((ae (cN.2.1+(2:Int)))+(ae (uo.toNat:Int)))/\ae ((ae (cN.2.1+(2:Int)))+(ae (uo.toNat:Int)))<=(a1.1.length:Int) then ((dC.ab ((a1.1.take (ae ((ae (cN.2.1+(2:Int)))+(ae (uo.toNat:Int)))).toNat).drop (ae (cN.2.1+(2:Int))).toNat,())).bind fun qC=>if cN.1.2.2.2.1.length+[(ae (xY.toNat:Int),qC.1,())].length<=bk then (let Rm:=cN.1.2.2.2.1++[(ae (xY.toNat:Int),qC.1,())];self ((cN.1.1,cN.1.2.1,cN.1.2.2.1,Rm,cN.1.2.2.2.2),ae ((ae (cN.2.1+(2:Int)))+(ae (uo.toNat:Int))),ae (cN.2.2+(1:Int)))) else none) else none) else none) else none) else e0 cN.1) else e0 cN.1
noncomputable abbrev B0 (_:Nat):=b0
noncomputable def q0 (a1:Arg) (KC:aO):Option Out:=some (KC,())
noncomputable abbrev Q0 (_:Nat):=q0
noncomputable def s0 (k:Nat) (a1:Arg):(aO×Int×Int)->Option Out:=fun cN=>D.L k [1,1,1,0,1,0,0] [0,2,3,4,5] [] (af 0 (ap (D.N k [1,1,1,1]) D.K0)) (T0 a1 cN)
noncomputable def r0 (k:Nat) (a1:Arg):(aO×Int×Int)->Option Out:=al (fun w v=>B0 k w (Q0 k a1) a1 v) k
theorem aq (k:Nat) (a1:Arg):s0 k a1=r0 k a1:=
 funext fun cN=>ao _ _ _ (T0 a1) _ (fun rec v=>by kernel_rfl) k cN
noncomputable def p (l0:(aO×Int×Int)->Option Out) (a1:Arg):Option Out:=(a1.1[1]?).bind fun x2=>(a1.1[2]?).bind fun x3=>(a1.1[3]?).bind fun x4=>l0 ((ae (x2.toNat:Int),ae (x3.toNat:Int),ae (x4.toNat:Int),([]:List cR),()),(5:Int),(0:Int))
theorem aa (k:Nat) (a1:Arg):@Eq (Option Out) (D.W k a1) (p (r0 k a1) a1):=
 Eq.trans (b:=p (s0 k a1) a1) (by kernel_rfl) (by rw[aq])
theorem ok:Ok prog 177 D.sig:=am func177 ay (by kernel_rfl) (fc dC.ok (ai _))
end ft
namespace gb
abbrev Arg:Type:=(List UInt8)×Unit
abbrev Out:Type:=Int×Unit
abbrev ps:PQ:=[(.ro,(.U u8))]
noncomputable def D:FD:={ fn:=f205,tl:=aE,ps:=ps,rs:=[(i64,(av i64))],lv:=[(3,[0,3,4])],lx:=[(0,[3])] }
noncomputable def ab (a:Arg):Option Out:=@lift Out fun k=>D.W k a
noncomputable def T0 (a1:Arg) (J:Int×Int):St:={ n:=21,sl:=[(0,.val (.U u8) a1.1),(3,.val i64 J.1),(4,.val i64 J.2)],vr:=[],aw:=[] }
noncomputable def b0 (self:(Int×Int)->Option Out) (e0:Int->Option Out) (a1:Arg) (J:Int×Int):Option Out:=bif decide (J.2 < (a1.1.length:Int)) then (if 0<=J.2 then ((a1.1[J.2.toNat]?).bind fun aB=>self ((ae ((ae (J.1*(31:Int)))+(ae (aB.toNat:Int)))).tmod (65521:Int),ae (J.2+(1:Int)))) else none) else e0 J.1
noncomputable abbrev B0 (_:Nat):=b0
noncomputable def q0 (a1:Arg) (kj:Int):Option Out:=some (kj,())
noncomputable abbrev Q0 (_:Nat):=q0
noncomputable def s0 (k:Nat) (a1:Arg):(Int×Int)->Option Out:=fun J=>D.L k [1,1,0,1,0,0] [0,3,4] [] (af 0 (ap (D.N k [1,1,1]) D.K0)) (T0 a1 J)
noncomputable def r0 (k:Nat) (a1:Arg):(Int×Int)->Option Out:=al (fun w v=>B0 k w (Q0 k a1) a1 v) k
theorem aq (k:Nat) (a1:Arg):s0 k a1=r0 k a1:=
 funext fun J=>ao _ _ _ (T0 a1) _ (fun rec v=>by kernel_rfl) k J
noncomputable def p (l0:(Int×Int)->Option Out) (a1:Arg):Option Out:=l0 ((1:Int),(0:Int))
theorem aa (k:Nat) (a1:Arg):@Eq (Option Out) (D.W k a1) (p (r0 k a1) a1):=
 Eq.trans (b:=p (s0 k a1) a1) (by kernel_rfl) (by rw[aq])
theorem ok:Ok prog 205 D.sig:=am func205 ay (by kernel_rfl) (ai _)
end gb
namespace fu
abbrev Arg:Type:=aO×Unit
abbrev Out:Type:=(List UInt8)×Unit
abbrev ps:PQ:=[(.ro,(.ptr cb))]
noncomputable def D:FD:={ fn:=f178,tl:=aE,ps:=ps,rs:=[((.U u8),(au (.U u8)))],gl:=[(205,gb.D.sig)],lv:=[(3,[0,3,4])],lx:=[(0,[3])],od:=[(1,[0,1,2,3,4,5,6,7,8,9,10,11,12,13,14,15,16,17,18,19,20,21,22]),(5,[0,1,2,3,4,5,6,7,8,9,10,11,12,13,14,15,16,17,18,19,22,23,24,25,26,27,28,29,20,21,30,31])],ar:=[(5,[4,8,9,13,17,19,25,29])] }
noncomputable def ab (a:Arg):Option Out:=@lift Out fun k=>D.W k a
noncomputable def T0 (a1:Arg) (J:(List UInt8)×Int):St:={ n:=85,sl:=[(0,.cp cb a1.1),(3,.own (.U u8) (au (.U u8)) [] J.1),(4,.val i64 J.2)],vr:=[],aw:=[] }
noncomputable def b0 (self:((List UInt8)×Int)->Option Out) (e0:(List UInt8)->Option Out) (a1:Arg) (J:(List UInt8)×Int):Option Out:=bif decide (J.2 < (a1.1.2.2.2.1.length:Int)) then (if 0<=J.2 then ((a1.1.2.2.2.1[J.2.toNat]?).bind fun aB=>if 0<=J.2 then ((a1.1.2.2.2.1[J.2.toNat]?).bind fun cM=>if 0<=J.2 then ((a1.1.2.2.2.1[J.2.toNat]?).bind fun cW=>if J.1.length+[UInt8.ofInt aB.1,UInt8.ofInt (cM.2.1.length:Int)].length<=bk then (let wc:=J.1++[UInt8.ofInt aB.1,UInt8.ofInt (cM.2.1.length:Int)];if wc.length+cW.2.1.length<=bk then (self (wc++cW.2.1,ae (J.2+(1:Int)))) else none) else none) else none) else none) else none) else e0 J.1
noncomputable abbrev B0 (_:Nat):=b0
noncomputable def q0 (a1:Arg) (gP:(List UInt8)):Option Out:=if 0<=(0:Int)/\(0:Int) < (gP.length:Int) then ((gP[0]?).bind fun xY=>let KD:=gP.set 0 (UInt8.ofInt (ae ((gP.length:Int)+(2:Int))));(gb.ab (KD,())).bind fun uq=>if KD.length+[UInt8.ofInt (ae (uq.1.tdiv (256:Int))),UInt8.ofInt (uq.1.tmod (256:Int))].length<=bk then (let Rn:=KD++[UInt8.ofInt (ae (uq.1.tdiv (256:Int))),UInt8.ofInt (uq.1.tmod (256:Int))];some (Rn,())) else none) else none
noncomputable abbrev Q0 (_:Nat):=q0
noncomputable def s0 (k:Nat) (a1:Arg):((List UInt8)×Int)->Option Out:=fun J=>D.L k [1,1,0,1,0,0] [0,3,4] [] (af 0 (ap (D.N k [1,1,1]) D.K0)) (T0 a1 J)
noncomputable def r0 (k:Nat) (a1:Arg):((List UInt8)×Int)->Option Out:=al (fun w v=>B0 k w (Q0 k a1) a1 v) k
theorem aq (k:Nat) (a1:Arg):s0 k a1=r0 k a1:=
 funext fun J=>ao _ _ _ (T0 a1) _ (fun rec v=>by kernel_rfl) k J
noncomputable def p (l0:((List UInt8)×Int)->Option Out) (a1:Arg):Option Out:=l0 ([(0:UInt8),UInt8.ofInt a1.1.1,UInt8.ofInt a1.1.2.1,UInt8.ofInt a1.1.2.2.1,UInt8.ofInt (a1.1.2.2.2.1.length:Int)],(0:Int))
theorem aa (k:Nat) (a1:Arg):@Eq (Option Out) (D.W k a1) (p (r0 k a1) a1):=
 Eq.trans (b:=p (s0 k a1) a1) (by kernel_rfl) (by rw[aq])
theorem ok:Ok prog 178 D.sig:=am func178 ay (by kernel_rfl) (fc gb.ok (ai _))
end fu
namespace gU
abbrev Arg:Type:=(List UInt8)×Unit
abbrev Out:Type:=Df×Unit
abbrev ps:PQ:=[(.ro,(.U u8))]
noncomputable def D:FD:={ fn:=f141,tl:=aE,ps:=ps,rs:=[(qB,(au qB))],gl:=[(156,gw.D.sig),(177,ft.D.sig),(178,fu.D.sig)],od:=[(5,[0,1,2,5,6,7,8,3,4,9,10])],ar:=[(5,[8])] }
noncomputable def ab (a:Arg):Option Out:=@lift Out fun k=>D.W k a
noncomputable def p (a1:Arg):Option Out:=bif decide ((a1.1.length:Int) < (7:Int)) then (some (((5:Int),(0:Int),((0:Int),(0:Int),(0:Int),([]:List cR),()),()),())) else (a1.1[0]?).bind fun x2=>bif decide (ae (x2.toNat:Int) < (7:Int)) then (some (((5:Int),(0:Int),((0:Int),(0:Int),(0:Int),([]:List cR),()),()),())) else (a1.1[0]?).bind fun x3=>bif decide ((a1.1.length:Int) < ae (x3.toNat:Int)) then (some (((5:Int),(0:Int),((0:Int),(0:Int),(0:Int),([]:List cR),()),()),())) else (a1.1[0]?).bind fun x4=>if 0<=ae (x4.toNat:Int)/\ae (x4.toNat:Int)<=(a1.1.length:Int) then ((ft.ab ((a1.1.take (ae (x4.toNat:Int)).toNat).drop 0,())).bind fun r5=>(gw.ab (r5.1,())).bind fun r6=>bif !decide (r6.1=(0:Int)) then (some (((5:Int),(0:Int),((0:Int),(0:Int),(0:Int),([]:List cR),()),()),())) else if 0<=ae (x4.toNat:Int)/\ae (x4.toNat:Int)<=(a1.1.length:Int) then ((fu.ab (r5.1,())).bind fun r7=>bif !decide (r7.1=(a1.1.take (ae (x4.toNat:Int)).toNat).drop 0) then (some (((5:Int),(0:Int),((0:Int),(0:Int),(0:Int),([]:List cR),()),()),())) else some (((0:Int),ae (x4.toNat:Int),r5.1,()),())) else none) else none
theorem aa (k:Nat) (a1:Arg):@Eq (Option Out) (D.W k a1) (p a1):=by kernel_rfl
theorem ok:Ok prog 141 D.sig:=am func141 ay (by kernel_rfl) (fc gw.ok (fc ft.ok (fc fu.ok (ai _))))
end gU
namespace dD
abbrev Arg:Type:=(List UInt8)×Unit
abbrev Out:Type:=(List aO)×Int×Unit
abbrev ps:PQ:=[(.ro,(.U u8))]
noncomputable def D:FD:={ fn:=f96,tl:=aE,ps:=ps,rs:=[((.U cb),(au (.U cb))),(i64,(av i64))],gl:=[(141,gU.D.sig)],lv:=[(3,[0,4,5])],lx:=[(0,[4,5])] }
noncomputable def ab (a:Arg):Option Out:=@lift Out fun k=>D.W k a
noncomputable def T0 (a1:Arg) (J:(List aO)×Int):St:={ n:=30,sl:=[(0,.val (.U u8) a1.1),(4,.own (.U cb) (au (.U cb)) [] J.1),(5,.val i64 J.2)],vr:=[],aw:=[] }
noncomputable def b0 (self:((List aO)×Int)->Option Out) (e0:((List aO)×Int)->Option Out) (a1:Arg) (J:(List aO)×Int):Option Out:=bif decide (J.2 < (a1.1.length:Int)) then (if 0<=J.2/\J.2<=(a1.1.length:Int) then ((gU.ab ((a1.1.take a1.1.length).drop J.2.toNat,())).bind fun ur=>bif !decide (ur.1.1=(0:Int)) then (e0 (J.1,J.2)) else if J.1.length+[ur.1.2.2.1].length<=bk then (self (J.1++[ur.1.2.2.1],ae (J.2+ur.1.2.1))) else none) else none) else e0 (J.1,J.2)
noncomputable abbrev B0 (_:Nat):=b0
noncomputable def q0 (a1:Arg) (kj:((List aO)×Int)):Option Out:=some (kj.1,kj.2,())
noncomputable abbrev Q0 (_:Nat):=q0
noncomputable def s0 (k:Nat) (a1:Arg):((List aO)×Int)->Option Out:=fun J=>D.L k [1,1,1,0,0,0] [0,4,5] [] (af 0 (ap (D.N k [1,1,1,1]) D.K0)) (T0 a1 J)
noncomputable def r0 (k:Nat) (a1:Arg):((List aO)×Int)->Option Out:=al (fun w v=>B0 k w (Q0 k a1) a1 v) k
theorem aq (k:Nat) (a1:Arg):s0 k a1=r0 k a1:=
 funext fun J=>ao _ _ _ (T0 a1) _ (fun rec v=>by kernel_rfl) k J
noncomputable def p (l0:((List aO)×Int)->Option Out) (a1:Arg):Option Out:=l0 (([]:List aO),(0:Int))
theorem aa (k:Nat) (a1:Arg):@Eq (Option Out) (D.W k a1) (p (r0 k a1) a1):=
 Eq.trans (b:=p (s0 k a1) a1) (by kernel_rfl) (by rw[aq])
theorem ok:Ok prog 96 D.sig:=am func96 ay (by kernel_rfl) (fc gU.ok (ai _))
end dD
namespace jO
abbrev Arg:Type:=Log×Unit
abbrev Out:Type:=Int×Unit
abbrev ps:PQ:=[(.ro,(.ptr fe))]
noncomputable def D:FD:={ fn:=f54,tl:=aE,ps:=ps,rs:=[(i64,(av i64))],gl:=[(96,dD.D.sig)],od:=[(1,[0,1,2,3,4,5,6,7,8,9,10,11])] }
noncomputable def ab (a:Arg):Option Out:=@lift Out fun k=>D.W k a
noncomputable def p (a1:Arg):Option Out:=bif decide ((16000:Int) < ae ((a1.1.1.length:Int)+(a1.1.2.1.length:Int))) then (some ((2:Int),())) else (dD.ab (a1.1.1,())).bind fun r2=>bif !decide (r2.2.1=(a1.1.1.length:Int)) then (some ((5:Int),())) else (dD.ab (a1.1.2.1,())).bind fun r3=>bif !decide (r3.2.1=(a1.1.2.1.length:Int)) then (some ((5:Int),())) else some ((0:Int),())
theorem aa (k:Nat) (a1:Arg):@Eq (Option Out) (D.W k a1) (p a1):=by kernel_rfl
theorem ok:Ok prog 54 D.sig:=am func54 ay (by kernel_rfl) (fc dD.ok (ai _))
end jO
namespace dr
abbrev Arg:Type:=(List UInt8)×Unit
abbrev Out:Type:=Int×Unit
abbrev ps:PQ:=[(.ro,(.U u8))]
noncomputable def D:FD:={ fn:=f143,tl:=aE,ps:=ps,rs:=[(i64,(av i64))] }
noncomputable def ab (a:Arg):Option Out:=@lift Out fun k=>D.W k a
noncomputable def p (a1:Arg):Option Out:=(a1.1[0]?).bind fun x2=>some (ae (x2.toNat:Int),())
theorem aa (k:Nat) (a1:Arg):@Eq (Option Out) (D.W k a1) (p a1):=by kernel_rfl
theorem ok:Ok prog 143 D.sig:=am func143 ay (by kernel_rfl) (ai _)
end dr
namespace bE
abbrev Arg:Type:=(List UInt8)×Int×Unit
abbrev Out:Type:=Int×Unit
abbrev ps:PQ:=[(.ro,(.U u8)),(.ro,i64)]
noncomputable def D:FD:={ fn:=f144,tl:=aE,ps:=ps,rs:=[(i64,(av i64))] }
noncomputable def ab (a:Arg):Option Out:=@lift Out fun k=>D.W k a
noncomputable def p (a1:Arg):Option Out:=if 0<=ae ((3:Int)+(ae ((2:Int)*a1.2.1))) then ((a1.1[(ae ((3:Int)+(ae ((2:Int)*a1.2.1)))).toNat]?).bind fun x2=>some (ae (x2.toNat:Int),())) else none
theorem aa (k:Nat) (a1:Arg):@Eq (Option Out) (D.W k a1) (p a1):=by kernel_rfl
theorem ok:Ok prog 144 D.sig:=am func144 ay (by kernel_rfl) (ai _)
end bE
namespace hK
abbrev Arg:Type:=(List UInt8)×Unit
abbrev Out:Type:=Int×Unit
abbrev ps:PQ:=[(.ro,(.U u8))]
noncomputable def D:FD:={ fn:=f179,tl:=aE,ps:=ps,rs:=[(i64,(av i64))] }
noncomputable def ab (a:Arg):Option Out:=@lift Out fun k=>D.W k a
noncomputable def p (a1:Arg):Option Out:=(a1.1[1]?).bind fun x2=>some (ae (x2.toNat:Int),())
theorem aa (k:Nat) (a1:Arg):@Eq (Option Out) (D.W k a1) (p a1):=by kernel_rfl
theorem ok:Ok prog 179 D.sig:=am func179 ay (by kernel_rfl) (ai _)
end hK
namespace dt
abbrev Arg:Type:=(List UInt8)×Int×Unit
abbrev Out:Type:=Int×Unit
abbrev ps:PQ:=[(.ro,(.U u8)),(.ro,i64)]
noncomputable def D:FD:={ fn:=f183,tl:=aE,ps:=ps,rs:=[(i64,(av i64))] }
noncomputable def ab (a:Arg):Option Out:=@lift Out fun k=>D.W k a
noncomputable def p (a1:Arg):Option Out:=if 0<=ae ((2:Int)+(ae ((2:Int)*a1.2.1))) then ((a1.1[(ae ((2:Int)+(ae ((2:Int)*a1.2.1)))).toNat]?).bind fun x2=>some (ae (x2.toNat:Int),())) else none
theorem aa (k:Nat) (a1:Arg):@Eq (Option Out) (D.W k a1) (p a1):=by kernel_rfl
theorem ok:Ok prog 183 D.sig:=am func183 ay (by kernel_rfl) (ai _)
end dt
namespace kP
abbrev Arg:Type:=(List UInt8)×Int×Unit
abbrev Out:Type:=Bool×Unit
abbrev ps:PQ:=[(.ro,(.U u8)),(.ro,i64)]
noncomputable def D:FD:={ fn:=f180,tl:=aE,ps:=ps,rs:=[(.bool,(av .bool))],gl:=[(144,bE.D.sig),(179,hK.D.sig),(183,dt.D.sig)] }
noncomputable def ab (a:Arg):Option Out:=@lift Out fun k=>D.W k a
noncomputable def p (a1:Arg):Option Out:=(dt.ab (a1.1,a1.2.1,())).bind fun r2=>(bE.ab (a1.1,a1.2.1,())).bind fun r3=>bif decide (r2.1=(0:Int)) then (some (decide (r2.1=r3.1),())) else bif decide (r3.1=(0:Int)) then (some (decide (r2.1=r3.1),())) else (hK.ab (a1.1,())).bind fun r4=>bif decide (r4.1<=r2.1) then (some (decide (ae (r2.1+r3.1)<=(64:Int)),())) else some (false,())
theorem aa (k:Nat) (a1:Arg):@Eq (Option Out) (D.W k a1) (p a1):=by kernel_rfl
theorem ok:Ok prog 180 D.sig:=am func180 ay (by kernel_rfl) (fc bE.ok (fc hK.ok (fc dt.ok (ai _))))
end kP
namespace jP
abbrev Arg:Type:=(List UInt8)×Int×Int×Unit
abbrev Out:Type:=Bool×Unit
abbrev ps:PQ:=[(.ro,(.U u8)),(.ro,i64),(.ro,i64)]
noncomputable def D:FD:={ fn:=f181,tl:=aE,ps:=ps,rs:=[(.bool,(av .bool))],gl:=[(144,bE.D.sig),(183,dt.D.sig)] }
noncomputable def ab (a:Arg):Option Out:=@lift Out fun k=>D.W k a
noncomputable def p (a1:Arg):Option Out:=(bE.ab (a1.1,a1.2.1,())).bind fun r2=>bif decide (r2.1=(0:Int)) then (some (true,())) else (bE.ab (a1.1,a1.2.2.1,())).bind fun r3=>bif decide (r3.1=(0:Int)) then (some (true,())) else (dt.ab (a1.1,a1.2.1,())).bind fun r4=>(bE.ab (a1.1,a1.2.1,())).bind fun r5=>(dt.ab (a1.1,a1.2.2.1,())).bind fun r6=>bif decide (ae (r4.1+r5.1)<=r6.1) then (some (true,())) else (dt.ab (a1.1,a1.2.2.1,())).bind fun r7=>(bE.ab (a1.1,a1.2.2.1,())).bind fun r8=>(dt.ab (a1.1,a1.2.1,())).bind fun r9=>some (decide (ae (r7.1+r8.1)<=r9.1),())
theorem aa (k:Nat) (a1:Arg):@Eq (Option Out) (D.W k a1) (p a1):=by kernel_rfl
theorem ok:Ok prog 181 D.sig:=am func181 ay (by kernel_rfl) (fc bE.ok (fc dt.ok (ai _)))
end jP
namespace aW
abbrev Arg:Type:=(List UInt8)×Unit
abbrev Out:Type:=Int×Unit
abbrev ps:PQ:=[(.ro,(.U u8))]
noncomputable def D:FD:={ fn:=f142,tl:=aE,ps:=ps,rs:=[(i64,(av i64))],gl:=[(143,dr.D.sig),(144,bE.D.sig),(179,hK.D.sig),(180,kP.D.sig),(181,jP.D.sig)],lv:=[(7,[0,3,4]),(12,[0,3,5]),(15,[0,3,5,6])],lx:=[(0,[0,3]),(2,[0,3]),(4,[0,3,5])] }
noncomputable def ab (a:Arg):Option Out:=@lift Out fun k=>D.W k a
noncomputable def T0 (a1:Arg) (bH:Int) (cN:Int):St:={ n:=60,sl:=[(0,.val (.U u8) a1.1),(3,.val i64 bH),(4,.val i64 cN)],vr:=[],aw:=[] }
noncomputable def S0 (rec:RT Out) (a1:Arg) (bH:Int):(Int)->Option Out:=fun cN=>rec (T0 a1 bH cN)
noncomputable def bt (K:KT Out) (a1:Arg) (bH:Int):(Unit)->Option Out:=fun z=>K (.exit 0) ({ n:=60,sl:=[(0,.val (.U u8) a1.1),(3,.val i64 bH)],vr:=[],aw:=[] })
noncomputable def b0 (self:Int->Option Out) (e0:(Unit)->Option Out) (a1:Arg) (bH:Int) (cN:Int):Option Out:=bif decide (cN < bH) then ((kP.ab (a1.1,cN,())).bind fun gx=>bif !gx.1 then (some ((3:Int),())) else self (ae (cN+(1:Int)))) else e0 ()
noncomputable abbrev B0 (_:Nat):=b0
theorem gc (k:Nat) (rec:RT Out) (K:KT Out) (a1:Arg) (bH:Int) (cN:Int):D.N k [1,1,1,1,0,1,0,0] (T0 a1 bH cN) (dv rec (cu [0,3,4] []) K)=b0 (S0 rec a1 bH) (bt K a1 bH) a1 bH cN:=by kernel_rfl
noncomputable def T1 (a1:Arg) (cr:(List UInt8)×Int×Int):St:={ n:=60,sl:=[(0,.val (.U u8) cr.1),(3,.val i64 cr.2.1),(5,.val i64 cr.2.2)],vr:=[],aw:=[] }
noncomputable def S1 (rec:RT Out) (a1:Arg):((List UInt8)×Int×Int)->Option Out:=fun cr=>rec (T1 a1 cr)
noncomputable def dF (K:KT Out) (a1:Arg):((List UInt8)×Int)->Option Out:=fun z=>K (.exit 2) ({ n:=60,sl:=[(0,.val (.U u8) z.1),(3,.val i64 z.2)],vr:=[],aw:=[] })
noncomputable def T2 (a1:Arg) (dN:List UInt8) (cD:Int) (bF:Int) (qT:Int):St:={ n:=60,sl:=[(0,.val (.U u8) dN),(3,.val i64 cD),(5,.val i64 bF),(6,.val i64 qT)],vr:=[],aw:=[] }
noncomputable def b2 (self:Int->Option Out) (e4:(Unit)->Option Out) (a1:Arg) (dN:List UInt8) (cD:Int) (bF:Int) (qT:Int):Option Out:=bif decide (qT < bF) then ((jP.ab (dN,bF,qT,())).bind fun GU=>bif !GU.1 then (some ((8:Int),())) else self (ae (qT+(1:Int)))) else e4 ()
noncomputable abbrev B2 (_:Nat):=b2
noncomputable def q1 (self:((List UInt8)×Int×Int)->Option Out) (e2:((List UInt8)×Int)->Option Out) (a1:Arg) (dN:List UInt8) (cD:Int) (bF:Int) (wW:(Unit)):Option Out:=self (dN,cD,ae (bF+(1:Int)))
noncomputable abbrev Q1 (_:Nat):=q1
noncomputable def s2 (k:Nat) (rec:RT Out) (K:KT Out) (a1:Arg):(List UInt8)->Int->Int->(Int)->Option Out:=fun dN cD bF=>fun qT=>D.L k [1,1,1,1,1,0,1,0,0,1,0,0,1,0,0] [0,3,5,6] [] (af 4 (af 3 (ap (D.N k [1,1,1,1,1,0,1,0,0,1,1]) (dv rec (cu [0,3,5] []) K)))) (T2 a1 dN cD bF qT)
noncomputable def r2 (k:Nat) (self:((List UInt8)×Int×Int)->Option Out) (e2:((List UInt8)×Int)->Option Out) (a1:Arg):(List UInt8)->Int->Int->(Int)->Option Out:=fun dN cD bF=>al (fun w v=>B2 k w (Q1 k self e2 a1 dN cD bF) a1 dN cD bF v) k
theorem ly (k:Nat) (rec:RT Out) (K:KT Out) (a1:Arg):s2 k rec K a1=r2 k (S1 rec a1) (dF K a1) a1:=
 funext fun dN=>funext fun cD=>funext fun bF=>funext fun qT=>ao _ _ _ (T2 a1 dN cD bF) _ (fun rec v=>by kernel_rfl) k qT
noncomputable def b1 (self:((List UInt8)×Int×Int)->Option Out) (e2:((List UInt8)×Int)->Option Out) (l2:(List UInt8)->Int->Int->(Int)->Option Out) (a1:Arg) (cr:(List UInt8)×Int×Int):Option Out:=bif decide (cr.2.2 < cr.2.1) then (l2 cr.1 cr.2.1 cr.2.2 (0:Int)) else e2 (cr.1,cr.2.1)
noncomputable def B1 (k:Nat) (self:((List UInt8)×Int×Int)->Option Out) (e2:((List UInt8)×Int)->Option Out) (a1:Arg) (cr:(List UInt8)×Int×Int):Option Out:=b1 self e2 (r2 k self e2 a1) a1 cr
theorem mw (k:Nat) (rec:RT Out) (K:KT Out) (a1:Arg) (cr:(List UInt8)×Int×Int):D.N k [1,1,1,1,1,0,1,0,0] (T1 a1 cr) (dv rec (cu [0,3,5] []) K)=B1 k (S1 rec a1) (dF K a1) a1 cr:=
 Eq.trans (b:=b1 (S1 rec a1) (dF K a1) (s2 k rec K a1) a1 cr) (by kernel_rfl) (by rw[ly];rfl)
noncomputable def q2 (a1:Arg) (nO:((List UInt8)×Int)):Option Out:=bif decide ((0:Int) < nO.2) then ((bE.ab (nO.1,ae (nO.2 - (1:Int)),())).bind fun Pe=>bif decide (Pe.1=(0:Int)) then (some ((8:Int),())) else some ((0:Int),())) else some ((0:Int),())
noncomputable abbrev Q2 (_:Nat):=q2
theorem nP (k:Nat) (a1:Arg) (nO:((List UInt8)×Int)):dF (af 2 (ap (D.N k [1,1,1,1,1,1]) D.K0)) a1 nO=q2 a1 nO:=by kernel_rfl
noncomputable def s1 (k:Nat) (a1:Arg) (bH:Int):((List UInt8)×Int×Int)->Option Out:=fun cr=>D.L k [1,1,1,1,1,0,1,0,0] [0,3,5] [] (af 2 (ap (D.N k [1,1,1,1,1,1]) D.K0)) (T1 a1 cr)
noncomputable def r1 (k:Nat) (a1:Arg) (bH:Int):((List UInt8)×Int×Int)->Option Out:=al (fun w v=>B1 k w (Q2 k a1) a1 v) k
theorem gd (k:Nat) (a1:Arg) (bH:Int):s1 k a1 bH=r1 k a1 bH:=by
 funext cr;
 have Y:dF (af 2 (ap (D.N k [1,1,1,1,1,1]) D.K0)) a1=Q2 k a1:=funext fun z=>nP k a1 z
 refine (ao _ _ _ (T1 a1) (fun self v=>B1 k self (dF (af 2 (ap (D.N k [1,1,1,1,1,1]) D.K0)) a1) a1 v) (fun rec v=>mw k rec (af 2 (ap (D.N k [1,1,1,1,1,1]) D.K0)) a1 v) k cr).trans ?_
 rw[Y]
 rfl
noncomputable def q0 (l1:((List UInt8)×Int×Int)->Option Out) (a1:Arg) (bH:Int) (mZ:(Unit)):Option Out:=l1 (a1.1,bH,(0:Int))
noncomputable def Q0 (k:Nat) (a1:Arg) (bH:Int) (mZ:(Unit)):Option Out:=q0 (r1 k a1 bH) a1 bH mZ
theorem lz (k:Nat) (a1:Arg) (bH:Int) (mZ:(Unit)):bt (af 0 (ap (D.N k [1,1,1,1,1]) D.K0)) a1 bH mZ=Q0 k a1 bH mZ:=
 Eq.trans (b:=q0 (s1 k a1 bH) a1 bH mZ) (by kernel_rfl) (by rw[gd];rfl)
noncomputable def s0 (k:Nat) (a1:Arg):Int->(Int)->Option Out:=fun bH=>fun cN=>D.L k [1,1,1,1,0,1,0,0] [0,3,4] [] (af 0 (ap (D.N k [1,1,1,1,1]) D.K0)) (T0 a1 bH cN)
noncomputable def r0 (k:Nat) (a1:Arg):Int->(Int)->Option Out:=fun bH=>al (fun w v=>B0 k w (Q0 k a1 bH) a1 bH v) k
theorem aq (k:Nat) (a1:Arg):s0 k a1=r0 k a1:=by
 funext bH;funext cN;
 have h0:bt (af 0 (ap (D.N k [1,1,1,1,1]) D.K0)) a1 bH=Q0 k a1 bH:=funext fun z=>lz k a1 bH z
 refine (ao _ _ _ (T0 a1 bH) (fun self v=>B0 k self (bt (af 0 (ap (D.N k [1,1,1,1,1]) D.K0)) a1 bH) a1 bH v) (fun rec v=>gc k rec (af 0 (ap (D.N k [1,1,1,1,1]) D.K0)) a1 bH v) k cN).trans ?_
 rw[h0]
 rfl
noncomputable def p (l0:Int->(Int)->Option Out) (a1:Arg):Option Out:=bif !decide ((a1.1.length:Int)=(64:Int)) then (some ((1:Int),())) else (dr.ab (a1.1,())).bind fun r2=>bif decide ((16:Int) < r2.1) then (some ((3:Int),())) else (hK.ab (a1.1,())).bind fun r3=>bif decide (r3.1 < ae ((2:Int)+(ae ((2:Int)*r2.1)))) then (some ((3:Int),())) else (hK.ab (a1.1,())).bind fun r4=>bif decide ((64:Int) < r4.1) then (some ((3:Int),())) else l0 r2.1 (0:Int)
theorem aa (k:Nat) (a1:Arg):@Eq (Option Out) (D.W k a1) (p (r0 k a1) a1):=
 Eq.trans (b:=p (s0 k a1) a1) (by kernel_rfl) (by rw[aq])
theorem ok:Ok prog 142 D.sig:=am func142 ay (by kernel_rfl) (fc dr.ok (fc bE.ok (fc hK.ok (fc kP.ok (fc jP.ok (ai _))))))
end aW
namespace fw
abbrev Arg:Type:=(List UInt8)×Unit
abbrev Out:Type:=Bool×Unit
abbrev ps:PQ:=[(.ro,.str)]
noncomputable def D:FD:={ fn:=f185,tl:=aE,ps:=ps,rs:=[(.bool,(av .bool))],lv:=[(2,[0,3])],lx:=[(0,[0])] }
noncomputable def ab (a:Arg):Option Out:=@lift Out fun k=>D.W k a
noncomputable def T0 (a1:Arg) (J:Int):St:={ n:=23,sl:=[(0,.val .str a1.1),(3,.val i64 J)],vr:=[],aw:=[] }
noncomputable def b0 (self:Int->Option Out) (e0:(Unit)->Option Out) (a1:Arg) (J:Int):Option Out:=bif decide (J < (a1.1.length:Int)) then (if 0<=J then ((a1.1[J.toNat]?).bind fun aB=>bif decide ((aB.toNat:Int) < (97:Int)) then (some (false,())) else if 0<=J then ((a1.1[J.toNat]?).bind fun cM=>bif decide ((122:Int) < (cM.toNat:Int)) then (some (false,())) else self (ae (J+(1:Int)))) else none) else none) else e0 ()
noncomputable abbrev B0 (_:Nat):=b0
noncomputable def q0 (a1:Arg) (bY:(Unit)):Option Out:=some (decide ((a1.1.length:Int)<=(8:Int)),())
noncomputable abbrev Q0 (_:Nat):=q0
noncomputable def s0 (k:Nat) (a1:Arg):(Int)->Option Out:=fun J=>D.L k [1,0,1,0,0] [0,3] [] (af 0 (ap (D.N k [1,1]) D.K0)) (T0 a1 J)
noncomputable def r0 (k:Nat) (a1:Arg):(Int)->Option Out:=al (fun w v=>B0 k w (Q0 k a1) a1 v) k
theorem aq (k:Nat) (a1:Arg):s0 k a1=r0 k a1:=
 funext fun J=>ao _ _ _ (T0 a1) _ (fun rec v=>by kernel_rfl) k J
noncomputable def p (l0:(Int)->Option Out) (a1:Arg):Option Out:=l0 (0:Int)
theorem aa (k:Nat) (a1:Arg):@Eq (Option Out) (D.W k a1) (p (r0 k a1) a1):=
 Eq.trans (b:=p (s0 k a1) a1) (by kernel_rfl) (by rw[aq])
theorem ok:Ok prog 185 D.sig:=am func185 ay (by kernel_rfl) (ai _)
end fw
namespace du
abbrev Arg:Type:=Row×Unit
abbrev Out:Type:=Int×Unit
abbrev ps:PQ:=[(.ro,(.ptr aF))]
noncomputable def D:FD:={ fn:=f149,tl:=aE,ps:=ps,rs:=[(i64,(av i64))],gl:=[(55,aI.D.sig),(185,fw.D.sig)] }
noncomputable def ab (a:Arg):Option Out:=@lift Out fun k=>D.W k a
noncomputable def p (a1:Arg):Option Out:=(aI.ab (a1.1.1,(0:Int),(3:Int),())).bind fun r2=>bif !r2.1 then (some ((3:Int),())) else (aI.ab (a1.1.2.1,(1:Int),(99:Int),())).bind fun r3=>bif !r3.1 then (some ((3:Int),())) else (aI.ab (a1.1.2.2.1,(0:Int),(999:Int),())).bind fun r4=>bif !r4.1 then (some ((3:Int),())) else (fw.ab (a1.1.2.2.2.1,())).bind fun r5=>bif !r5.1 then (some ((5:Int),())) else some ((0:Int),())
theorem aa (k:Nat) (a1:Arg):@Eq (Option Out) (D.W k a1) (p a1):=by kernel_rfl
theorem ok:Ok prog 149 D.sig:=am func149 ay (by kernel_rfl) (fc aI.ok (fc fw.ok (ai _)))
end du
namespace jQ
abbrev Arg:Type:=Int×Int×Unit
abbrev Out:Type:=Bool×Unit
abbrev ps:PQ:=[(.ro,i64),(.ro,i64)]
noncomputable def D:FD:={ fn:=f182,tl:=aE,ps:=ps,rs:=[(.bool,(av .bool))],gl:=[(55,aI.D.sig)] }
noncomputable def ab (a:Arg):Option Out:=@lift Out fun k=>D.W k a
noncomputable def p (a1:Arg):Option Out:=(aI.ab (a1.1,(0:Int),(11:Int),())).bind fun r2=>bif r2.1 then ((aI.ab (a1.2.1,(0:Int),(15:Int),())).bind fun r3=>some (r3.1,())) else some (false,())
theorem aa (k:Nat) (a1:Arg):@Eq (Option Out) (D.W k a1) (p a1):=by kernel_rfl
theorem ok:Ok prog 182 D.sig:=am func182 ay (by kernel_rfl) (fc aI.ok (ai _))
end jQ
namespace fx
abbrev Arg:Type:=(List UInt8)×Unit
abbrev Out:Type:=lu×Bool×Unit
abbrev ps:PQ:=[(.ro,(.U u8))]
noncomputable def D:FD:={ fn:=f145,tl:=aE,ps:=ps,rs:=[(kM,(av kM)),(.bool,(av .bool))],gl:=[(149,du.D.sig),(182,jQ.D.sig)],od:=[(2,[0,1,2,3,4,5,6,7,8,9,10]),(3,[0,1,2,3,4,5,6,7]),(6,[0,1,2,3,4,5,6,7,8,9,10,11,12,13,14,15,16,17,18,19,20,21,22,23]),(7,[0,1,2,3,4,5,6,7,8,9])] }
noncomputable def ab (a:Arg):Option Out:=@lift Out fun k=>D.W k a
noncomputable def p (a1:Arg):Option Out:=let Qs:Option Out:=bif decide ((a1.1.length:Int) < (6:Int)) then (some (((0:Int),(0:Int),(0:Int),(0:Int),((0:Int),(0:Int),(0:Int),([]:List UInt8),()),()),false,())) else (a1.1[0]?).bind fun Td=>bif decide ((Td.toNat:Int)=(1:Int)) then (some (((0:Int),(0:Int),(0:Int),(0:Int),((0:Int),(0:Int),(0:Int),([]:List UInt8),()),()),false,())) else (a1.1[0]?).bind fun Te=>bif decide ((2:Int) < (Te.toNat:Int)) then (some (((0:Int),(0:Int),(0:Int),(0:Int),((0:Int),(0:Int),(0:Int),([]:List UInt8),()),()),false,())) else (a1.1[5]?).bind fun Tf=>bif !decide ((a1.1.length:Int)=ae ((6:Int)+(ae (Tf.toNat:Int)))) then (some (((0:Int),(0:Int),(0:Int),(0:Int),((0:Int),(0:Int),(0:Int),([]:List UInt8),()),()),false,())) else (a1.1[1]?).bind fun Qt=>(a1.1[2]?).bind fun Qu=>(a1.1[3]?).bind fun Tg=>(a1.1[4]?).bind fun Dg=>if 0<=(6:Int)/\(6:Int)<=(a1.1.length:Int) then (let Qv:=ae ((ae ((ae (Tg.toNat:Int))*(256:Int)))+(ae (Dg.toNat:Int)));(a1.1[0]?).bind fun Th=>(du.ab ((ae (Qt.toNat:Int),ae (Qu.toNat:Int),Qv,(a1.1.take a1.1.length).drop 6,()),())).bind fun Ti=>some (((0:Int),ae (Th.toNat:Int),(0:Int),(0:Int),(ae (Qt.toNat:Int),ae (Qu.toNat:Int),Qv,(a1.1.take a1.1.length).drop 6,()),()),decide (Ti.1=(0:Int)),())) else none;bif decide ((a1.1.length:Int)=(3:Int)) then ((a1.1[0]?).bind fun x2=>bif decide ((x2.toNat:Int)=(1:Int)) then ((a1.1[1]?).bind fun x3=>(a1.1[2]?).bind fun x4=>(jQ.ab (ae (x3.toNat:Int),ae (x4.toNat:Int),())).bind fun r5=>some (((0:Int),(1:Int),ae (x3.toNat:Int),ae (x4.toNat:Int),((0:Int),(0:Int),(0:Int),([]:List UInt8),()),()),r5.1,())) else Qs) else Qs
theorem aa (k:Nat) (a1:Arg):@Eq (Option Out) (D.W k a1) (p a1):=by kernel_rfl
theorem ok:Ok prog 145 D.sig:=am func145 ay (by kernel_rfl) (fc du.ok (fc jQ.ok (ai _)))
end fx
namespace fy
abbrev Arg:Type:=(List UInt8)×Int×Unit
abbrev Out:Type:=(List UInt8)×Unit
abbrev ps:PQ:=[(.ro,(.U u8)),(.ro,i64)]
noncomputable def D:FD:={ fn:=f146,tl:=aE,ps:=ps,rs:=[((.U u8),(au (.U u8)))],gl:=[(144,bE.D.sig),(183,dt.D.sig)] }
noncomputable def ab (a:Arg):Option Out:=@lift Out fun k=>D.W k a
noncomputable def p (a1:Arg):Option Out:=(dt.ab (a1.1,a1.2.1,())).bind fun r2=>(bE.ab (a1.1,a1.2.1,())).bind fun r3=>if 0<=r2.1/\r2.1<=ae (r2.1+r3.1)/\ae (r2.1+r3.1)<=(a1.1.length:Int) then (if ([]:List UInt8).length+((a1.1.take (ae (r2.1+r3.1)).toNat).drop r2.1.toNat).length<=bk then (let y4:=([]:List UInt8)++((a1.1.take (ae (r2.1+r3.1)).toNat).drop r2.1.toNat);some (y4,())) else none) else none
theorem aa (k:Nat) (a1:Arg):@Eq (Option Out) (D.W k a1) (p a1):=by kernel_rfl
theorem ok:Ok prog 146 D.sig:=am func146 ay (by kernel_rfl) (fc bE.ok (fc dt.ok (ai _)))
end fy
namespace cx
abbrev Arg:Type:=(List (List UInt8))×Unit
abbrev Out:Type:=Int×Unit
abbrev ps:PQ:=[(.ro,(.U (.U u8)))]
noncomputable def D:FD:={ fn:=f97,tl:=aE,ps:=ps,rs:=[(i64,(av i64))],gl:=[(142,aW.D.sig),(143,dr.D.sig),(144,bE.D.sig),(145,fx.D.sig),(146,fy.D.sig)],lv:=[(2,[0,3]),(8,[0,3,5])],lx:=[(0,[]),(2,[0,3])] }
noncomputable def ab (a:Arg):Option Out:=@lift Out fun k=>D.W k a
noncomputable def T0 (a1:Arg) (J:(List (List UInt8))×Int):St:={ n:=50,sl:=[(0,.val (.U (.U u8)) J.1),(3,.val i64 J.2)],vr:=[],aw:=[] }
noncomputable def S0 (rec:RT Out) (a1:Arg):((List (List UInt8))×Int)->Option Out:=fun J=>rec (T0 a1 J)
noncomputable def bt (K:KT Out) (a1:Arg):(Unit)->Option Out:=fun z=>K (.exit 0) ({ n:=50,sl:=[],vr:=[],aw:=[] })
noncomputable def T1 (a1:Arg) (eH:List (List UInt8)) (dy:Int) (cv:Int):St:={ n:=50,sl:=[(0,.val (.U (.U u8)) eH),(3,.val i64 dy),(5,.val i64 cv)],vr:=[],aw:=[] }
noncomputable def b1 (self:Int->Option Out) (e2:(Unit)->Option Out) (a1:Arg) (eH:List (List UInt8)) (dy:Int) (cv:Int):Option Out:=if 0<=dy then ((eH[dy.toNat]?).bind fun ze=>(dr.ab (ze,())).bind fun GV=>bif decide (cv < GV.1) then (if 0<=dy then ((eH[dy.toNat]?).bind fun zf=>(bE.ab (zf,cv,())).bind fun zg=>bif decide ((0:Int) < zg.1) then (if 0<=dy then ((eH[dy.toNat]?).bind fun wX=>(fy.ab (wX,cv,())).bind fun m9=>(fx.ab (m9.1,())).bind fun zh=>bif !zh.2.1 then (some ((5:Int),())) else self (ae (cv+(1:Int)))) else none) else self (ae (cv+(1:Int)))) else none) else e2 ()) else none
noncomputable abbrev B1 (_:Nat):=b1
noncomputable def q0 (self:((List (List UInt8))×Int)->Option Out) (e0:(Unit)->Option Out) (a1:Arg) (eH:List (List UInt8)) (dy:Int) (qU:(Unit)):Option Out:=self (eH,ae (dy+(1:Int)))
noncomputable abbrev Q0 (_:Nat):=q0
noncomputable def s1 (k:Nat) (rec:RT Out) (K:KT Out) (a1:Arg):(List (List UInt8))->Int->(Int)->Option Out:=fun eH dy=>fun cv=>D.L k [1,0,1,0,0,1,0,0,1,1,0,0] [0,3,5] [] (af 2 (af 1 (ap (D.N k [1,0,1,0,0,1,1]) (dv rec (cu [0,3] []) K)))) (T1 a1 eH dy cv)
noncomputable def r1 (k:Nat) (self:((List (List UInt8))×Int)->Option Out) (e0:(Unit)->Option Out) (a1:Arg):(List (List UInt8))->Int->(Int)->Option Out:=fun eH dy=>al (fun w v=>B1 k w (Q0 k self e0 a1 eH dy) a1 eH dy v) k
theorem gd (k:Nat) (rec:RT Out) (K:KT Out) (a1:Arg):s1 k rec K a1=r1 k (S0 rec a1) (bt K a1) a1:=
 funext fun eH=>funext fun dy=>funext fun cv=>ao _ _ _ (T1 a1 eH dy) _ (fun rec v=>by kernel_rfl) k cv
noncomputable def b0 (self:((List (List UInt8))×Int)->Option Out) (e0:(Unit)->Option Out) (l1:(List (List UInt8))->Int->(Int)->Option Out) (a1:Arg) (J:(List (List UInt8))×Int):Option Out:=bif decide (J.2 < (J.1.length:Int)) then (if 0<=J.2 then ((J.1[J.2.toNat]?).bind fun aB=>(aW.ab (aB,())).bind fun bs=>bif !decide (bs.1=(0:Int)) then (some (bs.1,())) else l1 J.1 J.2 (0:Int)) else none) else e0 ()
noncomputable def B0 (k:Nat) (self:((List (List UInt8))×Int)->Option Out) (e0:(Unit)->Option Out) (a1:Arg) (J:(List (List UInt8))×Int):Option Out:=b0 self e0 (r1 k self e0 a1) a1 J
theorem gc (k:Nat) (rec:RT Out) (K:KT Out) (a1:Arg) (J:(List (List UInt8))×Int):D.N k [1,0,1,0,0] (T0 a1 J) (dv rec (cu [0,3] []) K)=B0 k (S0 rec a1) (bt K a1) a1 J:=
 Eq.trans (b:=b0 (S0 rec a1) (bt K a1) (s1 k rec K a1) a1 J) (by kernel_rfl) (by rw[gd];rfl)
noncomputable def q1 (a1:Arg) (BK:(Unit)):Option Out:=some ((0:Int),())
noncomputable abbrev Q1 (_:Nat):=q1
theorem my (k:Nat) (a1:Arg) (BK:(Unit)):bt (af 0 (ap (D.N k [1,1]) D.K0)) a1 BK=q1 a1 BK:=by kernel_rfl
noncomputable def s0 (k:Nat) (a1:Arg):((List (List UInt8))×Int)->Option Out:=fun J=>D.L k [1,0,1,0,0] [0,3] [] (af 0 (ap (D.N k [1,1]) D.K0)) (T0 a1 J)
noncomputable def r0 (k:Nat) (a1:Arg):((List (List UInt8))×Int)->Option Out:=al (fun w v=>B0 k w (Q1 k a1) a1 v) k
theorem aq (k:Nat) (a1:Arg):s0 k a1=r0 k a1:=by
 funext J;
 have h0:bt (af 0 (ap (D.N k [1,1]) D.K0)) a1=Q1 k a1:=funext fun z=>my k a1 z
 refine (ao _ _ _ (T0 a1) (fun self v=>B0 k self (bt (af 0 (ap (D.N k [1,1]) D.K0)) a1) a1 v) (fun rec v=>gc k rec (af 0 (ap (D.N k [1,1]) D.K0)) a1 v) k J).trans ?_
 rw[h0]
 rfl
noncomputable def p (l0:((List (List UInt8))×Int)->Option Out) (a1:Arg):Option Out:=l0 (a1.1,(0:Int))
theorem aa (k:Nat) (a1:Arg):@Eq (Option Out) (D.W k a1) (p (r0 k a1) a1):=
 Eq.trans (b:=p (s0 k a1) a1) (by kernel_rfl) (by rw[aq])
theorem ok:Ok prog 97 D.sig:=am func97 ay (by kernel_rfl) (fc aW.ok (fc dr.ok (fc bE.ok (fc fx.ok (fc fy.ok (ai _))))))
end cx
namespace lA
abbrev Arg:Type:=(List UInt8)×Int×Unit
abbrev Out:Type:=Bool×Unit
abbrev ps:PQ:=[(.ro,(.U u8)),(.ro,i64)]
noncomputable def D:FD:={ fn:=f184,tl:=aE,ps:=ps,rs:=[(.bool,(av .bool))],gl:=[(55,aI.D.sig),(143,dr.D.sig),(144,bE.D.sig)] }
noncomputable def ab (a:Arg):Option Out:=@lift Out fun k=>D.W k a
noncomputable def p (a1:Arg):Option Out:=(dr.ab (a1.1,())).bind fun r2=>(aI.ab (a1.2.1,(0:Int),ae (r2.1 - (1:Int)),())).bind fun r3=>bif r3.1 then ((bE.ab (a1.1,a1.2.1,())).bind fun r4=>some (decide ((0:Int) < r4.1),())) else some (false,())
theorem aa (k:Nat) (a1:Arg):@Eq (Option Out) (D.W k a1) (p a1):=by kernel_rfl
theorem ok:Ok prog 184 D.sig:=am func184 ay (by kernel_rfl) (fc aI.ok (fc dr.ok (fc bE.ok (ai _))))
end lA
namespace fV
abbrev Arg:Type:=(List (List UInt8))×Int×Int×Unit
abbrev Out:Type:=lu×Bool×Unit
abbrev ps:PQ:=[(.ro,(.U (.U u8))),(.ro,i64),(.ro,i64)]
noncomputable def D:FD:={ fn:=f147,tl:=aE,ps:=ps,rs:=[(kM,(av kM)),(.bool,(av .bool))],gl:=[(55,aI.D.sig),(145,fx.D.sig),(146,fy.D.sig),(184,lA.D.sig)] }
noncomputable def ab (a:Arg):Option Out:=@lift Out fun k=>D.W k a
noncomputable def p (a1:Arg):Option Out:=(aI.ab (a1.2.1,(0:Int),ae ((a1.1.length:Int) - (1:Int)),())).bind fun r2=>bif !r2.1 then (some (((0:Int),(0:Int),(0:Int),(0:Int),((0:Int),(0:Int),(0:Int),([]:List UInt8),()),()),false,())) else if 0<=a1.2.1 then ((a1.1[a1.2.1.toNat]?).bind fun x3=>(lA.ab (x3,a1.2.2.1,())).bind fun r4=>bif !r4.1 then (some (((0:Int),(0:Int),(0:Int),(0:Int),((0:Int),(0:Int),(0:Int),([]:List UInt8),()),()),false,())) else if 0<=a1.2.1 then ((a1.1[a1.2.1.toNat]?).bind fun x5=>(fy.ab (x5,a1.2.2.1,())).bind fun r6=>(fx.ab (r6.1,())).bind fun r7=>some (r7.1,r7.2.1,())) else none) else none
theorem aa (k:Nat) (a1:Arg):@Eq (Option Out) (D.W k a1) (p a1):=by kernel_rfl
theorem ok:Ok prog 147 D.sig:=am func147 ay (by kernel_rfl) (fc aI.ok (fc fx.ok (fc fy.ok (fc lA.ok (ai _)))))
end fV
namespace bg
abbrev Arg:Type:=(List ax)×(List (List UInt8))×Unit
abbrev Out:Type:=Int×Unit
abbrev ps:PQ:=[(.ro,(.U dU)),(.ro,(.U (.U u8)))]
noncomputable def D:FD:={ fn:=f98,tl:=aE,ps:=ps,rs:=[(i64,(av i64))],gl:=[(147,fV.D.sig)],lv:=[(2,[0,1,5]),(9,[0,8]),(12,[0,8,9])],lx:=[(0,[0]),(1,[0,1,5]),(2,[]),(4,[0,8])],od:=[(5,[0,1,2,3,4,5,6,7,8,9,10,11,12,13,14,15,16,17,18,19]),(16,[0,1,2,3,4,5,6,7,8,9,10,11,12,13,14,15,16,17,18,19,20,21,22,23,24,25,26,27,28,29,30,31,32,33])],ar:=[(5,[6,12])],pd:=[(5,[17])] }
noncomputable def ab (a:Arg):Option Out:=@lift Out fun k=>D.W k a
noncomputable def T0 (a1:Arg) (J:Int):St:={ n:=102,sl:=[(0,.val (.U dU) a1.1),(1,.val (.U (.U u8)) a1.2.1),(5,.val i64 J)],vr:=[],aw:=[] }
noncomputable def S0 (rec:RT Out) (a1:Arg):(Int)->Option Out:=fun J=>rec (T0 a1 J)
noncomputable def bt (K:KT Out) (a1:Arg):(Unit)->Option Out:=fun z=>K (.exit 0) ({ n:=102,sl:=[(0,.val (.U dU) a1.1)],vr:=[],aw:=[] })
noncomputable def b0 (self:Int->Option Out) (e0:(Unit)->Option Out) (a1:Arg) (J:Int):Option Out:=bif decide (J < (a1.1.length:Int)) then (if 0<=J then ((a1.1[J.toNat]?).bind fun aB=>bif !decide (aB.2.2.1.2.1=(1:Int)) then (self (ae (J+(1:Int)))) else if 0<=J then ((a1.1[J.toNat]?).bind fun cM=>if 0<=J then ((a1.1[J.toNat]?).bind fun cW=>(fV.ab (a1.2.1,cM.2.2.1.2.2.1,cW.2.2.1.2.2.2.1,())).bind fun jk=>bif !jk.2.1 then (some ((4:Int),())) else bif !decide (jk.1.2.1=(2:Int)) then (some ((4:Int),())) else self (ae (J+(1:Int)))) else none) else none) else none) else e0 ()
noncomputable abbrev B0 (_:Nat):=b0
theorem gc (k:Nat) (rec:RT Out) (K:KT Out) (a1:Arg) (J:Int):D.N k [1,0,1,0,0] (T0 a1 J) (dv rec (cu [0,1,5] []) K)=b0 (S0 rec a1) (bt K a1) a1 J:=by kernel_rfl
noncomputable def T1 (a1:Arg) (be:(List ax)×Int):St:={ n:=102,sl:=[(0,.val (.U dU) be.1),(8,.val i64 be.2)],vr:=[],aw:=[] }
noncomputable def S1 (rec:RT Out) (a1:Arg):((List ax)×Int)->Option Out:=fun be=>rec (T1 a1 be)
noncomputable def dF (K:KT Out) (a1:Arg):(Unit)->Option Out:=fun z=>K (.exit 2) ({ n:=102,sl:=[],vr:=[],aw:=[] })
noncomputable def T2 (a1:Arg) (hU:List ax) (dN:Int) (nQ:Int):St:={ n:=102,sl:=[(0,.val (.U dU) hU),(8,.val i64 dN),(9,.val i64 nQ)],vr:=[],aw:=[] }
noncomputable def b2 (self:Int->Option Out) (e4:(Unit)->Option Out) (a1:Arg) (hU:List ax) (dN:Int) (nQ:Int):Option Out:=bif decide (nQ < dN) then (if 0<=dN then ((hU[dN.toNat]?).bind fun GW=>if 0<=nQ then ((hU[nQ.toNat]?).bind fun ut=>bif decide (GW.2.2.1.2.1=(1:Int)) then (bif decide (ut.2.2.1.2.1=(1:Int)) then (bif decide (GW.2.2.1.2.2.1=ut.2.2.1.2.2.1) then (bif decide (GW.2.2.1.2.2.2.1=ut.2.2.1.2.2.2.1) then (some ((6:Int),())) else self (ae (nQ+(1:Int)))) else self (ae (nQ+(1:Int)))) else self (ae (nQ+(1:Int)))) else self (ae (nQ+(1:Int)))) else none) else none) else e4 ()
noncomputable abbrev B2 (_:Nat):=b2
noncomputable def q1 (self:((List ax)×Int)->Option Out) (e2:(Unit)->Option Out) (a1:Arg) (hU:List ax) (dN:Int) (TT:(Unit)):Option Out:=self (hU,ae (dN+(1:Int)))
noncomputable abbrev Q1 (_:Nat):=q1
noncomputable def s2 (k:Nat) (rec:RT Out) (K:KT Out) (a1:Arg):(List ax)->Int->(Int)->Option Out:=fun hU dN=>fun nQ=>D.L k [1,1,0,1,0,0,1,0,0,1,0,0] [0,8,9] [] (af 4 (af 3 (ap (D.N k [1,1,0,1,0,0,1,1]) (dv rec (cu [0,8] []) K)))) (T2 a1 hU dN nQ)
noncomputable def r2 (k:Nat) (self:((List ax)×Int)->Option Out) (e2:(Unit)->Option Out) (a1:Arg):(List ax)->Int->(Int)->Option Out:=fun hU dN=>al (fun w v=>B2 k w (Q1 k self e2 a1 hU dN) a1 hU dN v) k
theorem ly (k:Nat) (rec:RT Out) (K:KT Out) (a1:Arg):s2 k rec K a1=r2 k (S1 rec a1) (dF K a1) a1:=
 funext fun hU=>funext fun dN=>funext fun nQ=>ao _ _ _ (T2 a1 hU dN) _ (fun rec v=>by kernel_rfl) k nQ
noncomputable def b1 (self:((List ax)×Int)->Option Out) (e2:(Unit)->Option Out) (l2:(List ax)->Int->(Int)->Option Out) (a1:Arg) (be:(List ax)×Int):Option Out:=bif decide (be.2 < (be.1.length:Int)) then (l2 be.1 be.2 (0:Int)) else e2 ()
noncomputable def B1 (k:Nat) (self:((List ax)×Int)->Option Out) (e2:(Unit)->Option Out) (a1:Arg) (be:(List ax)×Int):Option Out:=b1 self e2 (r2 k self e2 a1) a1 be
theorem mw (k:Nat) (rec:RT Out) (K:KT Out) (a1:Arg) (be:(List ax)×Int):D.N k [1,1,0,1,0,0] (T1 a1 be) (dv rec (cu [0,8] []) K)=B1 k (S1 rec a1) (dF K a1) a1 be:=
 Eq.trans (b:=b1 (S1 rec a1) (dF K a1) (s2 k rec K a1) a1 be) (by kernel_rfl) (by rw[ly];rfl)
noncomputable def q2 (a1:Arg) (wW:(Unit)):Option Out:=some ((0:Int),())
noncomputable abbrev Q2 (_:Nat):=q2
theorem nP (k:Nat) (a1:Arg) (wW:(Unit)):dF (af 2 (ap (D.N k [1,1,1]) D.K0)) a1 wW=q2 a1 wW:=by kernel_rfl
noncomputable def s1 (k:Nat) (a1:Arg):((List ax)×Int)->Option Out:=fun be=>D.L k [1,1,0,1,0,0] [0,8] [] (af 2 (ap (D.N k [1,1,1]) D.K0)) (T1 a1 be)
noncomputable def r1 (k:Nat) (a1:Arg):((List ax)×Int)->Option Out:=al (fun w v=>B1 k w (Q2 k a1) a1 v) k
theorem gd (k:Nat) (a1:Arg):s1 k a1=r1 k a1:=by
 funext be;
 have Y:dF (af 2 (ap (D.N k [1,1,1]) D.K0)) a1=Q2 k a1:=funext fun z=>nP k a1 z
 refine (ao _ _ _ (T1 a1) (fun self v=>B1 k self (dF (af 2 (ap (D.N k [1,1,1]) D.K0)) a1) a1 v) (fun rec v=>mw k rec (af 2 (ap (D.N k [1,1,1]) D.K0)) a1 v) k be).trans ?_
 rw[Y]
 rfl
noncomputable def q0 (l1:((List ax)×Int)->Option Out) (a1:Arg) (gP:(Unit)):Option Out:=l1 (a1.1,(0:Int))
noncomputable def Q0 (k:Nat) (a1:Arg) (gP:(Unit)):Option Out:=q0 (r1 k a1) a1 gP
theorem lz (k:Nat) (a1:Arg) (gP:(Unit)):bt (af 0 (ap (D.N k [1,1]) D.K0)) a1 gP=Q0 k a1 gP:=
 Eq.trans (b:=q0 (s1 k a1) a1 gP) (by kernel_rfl) (by rw[gd];rfl)
noncomputable def s0 (k:Nat) (a1:Arg):(Int)->Option Out:=fun J=>D.L k [1,0,1,0,0] [0,1,5] [] (af 0 (ap (D.N k [1,1]) D.K0)) (T0 a1 J)
noncomputable def r0 (k:Nat) (a1:Arg):(Int)->Option Out:=al (fun w v=>B0 k w (Q0 k a1) a1 v) k
theorem aq (k:Nat) (a1:Arg):s0 k a1=r0 k a1:=by
 funext J;
 have h0:bt (af 0 (ap (D.N k [1,1]) D.K0)) a1=Q0 k a1:=funext fun z=>lz k a1 z
 refine (ao _ _ _ (T0 a1) (fun self v=>B0 k self (bt (af 0 (ap (D.N k [1,1]) D.K0)) a1) a1 v) (fun rec v=>gc k rec (af 0 (ap (D.N k [1,1]) D.K0)) a1 v) k J).trans ?_
 rw[h0]
 rfl
noncomputable def p (l0:(Int)->Option Out) (a1:Arg):Option Out:=l0 (0:Int)
theorem aa (k:Nat) (a1:Arg):@Eq (Option Out) (D.W k a1) (p (r0 k a1) a1):=
 Eq.trans (b:=p (s0 k a1) a1) (by kernel_rfl) (by rw[aq])
theorem ok:Ok prog 98 D.sig:=am func98 ay (by kernel_rfl) (fc fV.ok (ai _))
end bg
namespace bU
abbrev Arg:Type:=(List (List UInt8))×Unit
abbrev Out:Type:=(List ax)×Unit
abbrev ps:PQ:=[(.ro,(.U (.U u8)))]
noncomputable def D:FD:={ fn:=f99,tl:=aE,ps:=ps,rs:=[((.U dU),(au (.U dU)))],gl:=[(143,dr.D.sig),(144,bE.D.sig),(145,fx.D.sig),(146,fy.D.sig)],lv:=[(3,[0,3,4]),(6,[0,3,4,5])],lx:=[(0,[3]),(2,[0,3,4])] }
noncomputable def ab (a:Arg):Option Out:=@lift Out fun k=>D.W k a
noncomputable def T0 (a1:Arg) (J:(List (List UInt8))×(List ax)×Int):St:={ n:=49,sl:=[(0,.val (.U (.U u8)) J.1),(3,.own (.U dU) (au (.U dU)) [] J.2.1),(4,.val i64 J.2.2)],vr:=[],aw:=[] }
noncomputable def S0 (rec:RT Out) (a1:Arg):((List (List UInt8))×(List ax)×Int)->Option Out:=fun J=>rec (T0 a1 J)
noncomputable def bt (K:KT Out) (a1:Arg):(List ax)->Option Out:=fun z=>K (.exit 0) ({ n:=49,sl:=[(3,.own (.U dU) (au (.U dU)) [] z)],vr:=[],aw:=[] })
noncomputable def T1 (a1:Arg) (fU:List (List UInt8)) (ef:Int) (ge:(List ax)×Int):St:={ n:=49,sl:=[(0,.val (.U (.U u8)) fU),(3,.own (.U dU) (au (.U dU)) [] ge.1),(4,.val i64 ef),(5,.val i64 ge.2)],vr:=[],aw:=[] }
noncomputable def b1 (self:((List ax)×Int)->Option Out) (e2:(List ax)->Option Out) (a1:Arg) (fU:List (List UInt8)) (ef:Int) (ge:(List ax)×Int):Option Out:=if 0<=ef then ((fU[ef.toNat]?).bind fun GX=>(dr.ab (GX,())).bind fun Pf=>bif decide (ge.2 < Pf.1) then (if 0<=ef then ((fU[ef.toNat]?).bind fun ze=>(bE.ab (ze,ge.2,())).bind fun GV=>bif decide ((0:Int) < GV.1) then (if 0<=ef then ((fU[ef.toNat]?).bind fun zf=>(fy.ab (zf,ge.2,())).bind fun zg=>(fx.ab (zg.1,())).bind fun BL=>if ge.1.length+[(ef,ge.2,BL.1,())].length<=bk then (let GY:=ge.1++[(ef,ge.2,BL.1,())];self (GY,ae (ge.2+(1:Int)))) else none) else none) else self (ge.1,ae (ge.2+(1:Int)))) else none) else e2 ge.1) else none
noncomputable abbrev B1 (_:Nat):=b1
noncomputable def q0 (self:((List (List UInt8))×(List ax)×Int)->Option Out) (e0:(List ax)->Option Out) (a1:Arg) (fU:List (List UInt8)) (ef:Int) (L8:(List ax)):Option Out:=self (fU,L8,ae (ef+(1:Int)))
noncomputable abbrev Q0 (_:Nat):=q0
noncomputable def s1 (k:Nat) (rec:RT Out) (K:KT Out) (a1:Arg):(List (List UInt8))->Int->((List ax)×Int)->Option Out:=fun fU ef=>fun ge=>D.L k [1,1,0,1,0,0,1,0,0,1,0,0] [0,3,4,5] [] (af 2 (af 1 (ap (D.N k [1,1,0,1,0,0,1,1]) (dv rec (cu [0,3,4] []) K)))) (T1 a1 fU ef ge)
noncomputable def r1 (k:Nat) (self:((List (List UInt8))×(List ax)×Int)->Option Out) (e0:(List ax)->Option Out) (a1:Arg):(List (List UInt8))->Int->((List ax)×Int)->Option Out:=fun fU ef=>al (fun w v=>B1 k w (Q0 k self e0 a1 fU ef) a1 fU ef v) k
theorem gd (k:Nat) (rec:RT Out) (K:KT Out) (a1:Arg):s1 k rec K a1=r1 k (S0 rec a1) (bt K a1) a1:=
 funext fun fU=>funext fun ef=>funext fun ge=>ao _ _ _ (T1 a1 fU ef) _ (fun rec v=>by kernel_rfl) k ge
noncomputable def b0 (self:((List (List UInt8))×(List ax)×Int)->Option Out) (e0:(List ax)->Option Out) (l1:(List (List UInt8))->Int->((List ax)×Int)->Option Out) (a1:Arg) (J:(List (List UInt8))×(List ax)×Int):Option Out:=bif decide (J.2.2 < (J.1.length:Int)) then (l1 J.1 J.2.2 (J.2.1,(0:Int))) else e0 J.2.1
noncomputable def B0 (k:Nat) (self:((List (List UInt8))×(List ax)×Int)->Option Out) (e0:(List ax)->Option Out) (a1:Arg) (J:(List (List UInt8))×(List ax)×Int):Option Out:=b0 self e0 (r1 k self e0 a1) a1 J
theorem gc (k:Nat) (rec:RT Out) (K:KT Out) (a1:Arg) (J:(List (List UInt8))×(List ax)×Int):D.N k [1,1,0,1,0,0] (T0 a1 J) (dv rec (cu [0,3,4] []) K)=B0 k (S0 rec a1) (bt K a1) a1 J:=
 Eq.trans (b:=b0 (S0 rec a1) (bt K a1) (s1 k rec K a1) a1 J) (by kernel_rfl) (by rw[gd];rfl)
noncomputable def q1 (a1:Arg) (qU:(List ax)):Option Out:=some (qU,())
noncomputable abbrev Q1 (_:Nat):=q1
theorem my (k:Nat) (a1:Arg) (qU:(List ax)):bt (af 0 (ap (D.N k [1,1,1]) D.K0)) a1 qU=q1 a1 qU:=by kernel_rfl
noncomputable def s0 (k:Nat) (a1:Arg):((List (List UInt8))×(List ax)×Int)->Option Out:=fun J=>D.L k [1,1,0,1,0,0] [0,3,4] [] (af 0 (ap (D.N k [1,1,1]) D.K0)) (T0 a1 J)
noncomputable def r0 (k:Nat) (a1:Arg):((List (List UInt8))×(List ax)×Int)->Option Out:=al (fun w v=>B0 k w (Q1 k a1) a1 v) k
theorem aq (k:Nat) (a1:Arg):s0 k a1=r0 k a1:=by
 funext J;
 have h0:bt (af 0 (ap (D.N k [1,1,1]) D.K0)) a1=Q1 k a1:=funext fun z=>my k a1 z
 refine (ao _ _ _ (T0 a1) (fun self v=>B0 k self (bt (af 0 (ap (D.N k [1,1,1]) D.K0)) a1) a1 v) (fun rec v=>gc k rec (af 0 (ap (D.N k [1,1,1]) D.K0)) a1 v) k J).trans ?_
 rw[h0]
 rfl
noncomputable def p (l0:((List (List UInt8))×(List ax)×Int)->Option Out) (a1:Arg):Option Out:=l0 (a1.1,([]:List ax),(0:Int))
theorem aa (k:Nat) (a1:Arg):@Eq (Option Out) (D.W k a1) (p (r0 k a1) a1):=
 Eq.trans (b:=p (s0 k a1) a1) (by kernel_rfl) (by rw[aq])
theorem ok:Ok prog 99 D.sig:=am func99 ay (by kernel_rfl) (fc dr.ok (fc bE.ok (fc fx.ok (fc fy.ok (ai _)))))
end bU
namespace eo
abbrev Arg:Type:=(List (List UInt8))×Unit
abbrev Out:Type:=(List ax)×Unit
abbrev ps:PQ:=[(.ro,(.U (.U u8)))]
noncomputable def D:FD:={ fn:=f100,tl:=aE,ps:=ps,rs:=[((.U dU),(au (.U dU)))],gl:=[(99,bU.D.sig),(147,fV.D.sig)],lv:=[(4,[0,3,4,5])],lx:=[(0,[3]),(1,[0,3,4,5])] }
noncomputable def ab (a:Arg):Option Out:=@lift Out fun k=>D.W k a
noncomputable def T0 (a1:Arg) (ff:List ax) (aN:(List ax)×Int):St:={ n:=50,sl:=[(0,.val (.U (.U u8)) a1.1),(3,.own (.U dU) (au (.U dU)) [] aN.1),(4,.own (.U dU) (au (.U dU)) [] ff),(5,.val i64 aN.2)],vr:=[],aw:=[] }
noncomputable def b0 (self:((List ax)×Int)->Option Out) (e0:(List ax)->Option Out) (a1:Arg) (ff:List ax) (aN:(List ax)×Int):Option Out:=bif decide (aN.2 < (ff.length:Int)) then (if 0<=aN.2/\aN.2 < (ff.length:Int) then ((ff[aN.2.toNat]?).bind fun cW=>bif decide (cW.2.2.1.2.1=(2:Int)) then (self (aN.1,ae (aN.2+(1:Int)))) else let Dh:=fun (Om:ax)=>(if aN.1.length+[Om].length<=bk then (self (aN.1++[Om],ae (aN.2+(1:Int)))) else none:Option Out);bif decide (cW.2.2.1.2.1=(1:Int)) then ((fV.ab (a1.1,cW.2.2.1.2.2.1,cW.2.2.1.2.2.2.1,())).bind fun jk=>Dh (cW.1,cW.2.1,(cW.2.2.1.1,cW.2.2.1.2.1,cW.2.2.1.2.2.1,cW.2.2.1.2.2.2.1,jk.1.2.2.2.2.1,cW.2.2.1.2.2.2.2.2),cW.2.2.2)) else Dh cW) else none) else e0 aN.1
noncomputable abbrev B0 (_:Nat):=b0
noncomputable def q0 (a1:Arg) (ff:List ax) (On:(List ax)):Option Out:=some (On,())
noncomputable abbrev Q0 (_:Nat):=q0
noncomputable def s0 (k:Nat) (a1:Arg):(List ax)->((List ax)×Int)->Option Out:=fun ff=>fun aN=>D.L k [1,1,1,0,1,0,0] [0,3,4,5] [] (af 0 (ap (D.N k [1,1,1,1]) D.K0)) (T0 a1 ff aN)
noncomputable def r0 (k:Nat) (a1:Arg):(List ax)->((List ax)×Int)->Option Out:=fun ff=>al (fun w v=>B0 k w (Q0 k a1 ff) a1 ff v) k
theorem aq (k:Nat) (a1:Arg):s0 k a1=r0 k a1:=
 funext fun ff=>funext fun aN=>ao _ _ _ (T0 a1 ff) _ (fun rec v=>by kernel_rfl) k aN
noncomputable def p (l0:(List ax)->((List ax)×Int)->Option Out) (a1:Arg):Option Out:=(bU.ab (a1.1,())).bind fun r2=>l0 r2.1 (([]:List ax),(0:Int))
theorem aa (k:Nat) (a1:Arg):@Eq (Option Out) (D.W k a1) (p (r0 k a1) a1):=
 Eq.trans (b:=p (s0 k a1) a1) (by kernel_rfl) (by rw[aq])
theorem ok:Ok prog 100 D.sig:=am func100 ay (by kernel_rfl) (fc bU.ok (fc fV.ok (ai _)))
end eo
namespace bN
abbrev Arg:Type:=(List (List UInt8))×Unit
abbrev Out:Type:=Int×Unit
abbrev ps:PQ:=[(.ro,(.U (.U u8)))]
noncomputable def D:FD:={ fn:=f56,tl:=aE,ps:=ps,rs:=[(i64,(av i64))],gl:=[(97,cx.D.sig),(98,bg.D.sig),(99,bU.D.sig),(100,eo.D.sig)],lv:=[(11,[5,6]),(14,[5,6,7])],lx:=[(0,[]),(2,[5,6])],od:=[(16,[0,1,2,3,4,5,6,7,8,9,10,11,12,13,14,15,16,17,18,19,20,21,22,23,24,25,26,27,28,29,30,31])] }
noncomputable def ab (a:Arg):Option Out:=@lift Out fun k=>D.W k a
noncomputable def T0 (a1:Arg) (mz:(List ax)×Int):St:={ n:=68,sl:=[(5,.own (.U dU) (au (.U dU)) [] mz.1),(6,.val i64 mz.2)],vr:=[],aw:=[] }
noncomputable def S0 (rec:RT Out) (a1:Arg):((List ax)×Int)->Option Out:=fun mz=>rec (T0 a1 mz)
noncomputable def bt (K:KT Out) (a1:Arg):(Unit)->Option Out:=fun z=>K (.exit 0) ({ n:=68,sl:=[],vr:=[],aw:=[] })
noncomputable def T1 (a1:Arg) (c7:List ax) (b9:Int) (mA:Int):St:={ n:=68,sl:=[(5,.own (.U dU) (au (.U dU)) [] c7),(6,.val i64 b9),(7,.val i64 mA)],vr:=[],aw:=[] }
noncomputable def b1 (self:Int->Option Out) (e2:(Unit)->Option Out) (a1:Arg) (c7:List ax) (b9:Int) (mA:Int):Option Out:=bif decide (mA < b9) then (if 0<=b9/\b9 < (c7.length:Int) then ((c7[b9.toNat]?).bind fun zf=>if 0<=mA/\mA < (c7.length:Int) then ((c7[mA.toNat]?).bind fun wY=>bif decide (zf.2.2.1.2.2.2.2.1.1=wY.2.2.1.2.2.2.2.1.1) then (if 0<=b9/\b9 < (c7.length:Int) then ((c7[b9.toNat]?).bind fun wX=>if 0<=mA/\mA < (c7.length:Int) then ((c7[mA.toNat]?).bind fun Pg=>bif decide (wX.2.2.1.2.2.2.2.1.2.1=Pg.2.2.1.2.2.2.2.1.2.1) then (some ((8:Int),())) else self (ae (mA+(1:Int)))) else none) else none) else self (ae (mA+(1:Int)))) else none) else none) else e2 ()
noncomputable abbrev B1 (_:Nat):=b1
noncomputable def q0 (self:((List ax)×Int)->Option Out) (e0:(Unit)->Option Out) (a1:Arg) (c7:List ax) (b9:Int) (L8:(Unit)):Option Out:=self (c7,ae (b9+(1:Int)))
noncomputable abbrev Q0 (_:Nat):=q0
noncomputable def s1 (k:Nat) (rec:RT Out) (K:KT Out) (a1:Arg):(List ax)->Int->(Int)->Option Out:=fun c7 b9=>fun mA=>D.L k [1,1,1,1,1,0,1,0,0,1,0,0,1,0,0] [5,6,7] [] (af 2 (af 1 (ap (D.N k [1,1,1,1,1,0,1,0,0,1,1]) (dv rec (cu [5,6] []) K)))) (T1 a1 c7 b9 mA)
noncomputable def r1 (k:Nat) (self:((List ax)×Int)->Option Out) (e0:(Unit)->Option Out) (a1:Arg):(List ax)->Int->(Int)->Option Out:=fun c7 b9=>al (fun w v=>B1 k w (Q0 k self e0 a1 c7 b9) a1 c7 b9 v) k
theorem gd (k:Nat) (rec:RT Out) (K:KT Out) (a1:Arg):s1 k rec K a1=r1 k (S0 rec a1) (bt K a1) a1:=
 funext fun c7=>funext fun b9=>funext fun mA=>ao _ _ _ (T1 a1 c7 b9) _ (fun rec v=>by kernel_rfl) k mA
noncomputable def b0 (self:((List ax)×Int)->Option Out) (e0:(Unit)->Option Out) (l1:(List ax)->Int->(Int)->Option Out) (a1:Arg) (mz:(List ax)×Int):Option Out:=bif decide (mz.2 < (mz.1.length:Int)) then (l1 mz.1 mz.2 (0:Int)) else e0 ()
noncomputable def B0 (k:Nat) (self:((List ax)×Int)->Option Out) (e0:(Unit)->Option Out) (a1:Arg) (mz:(List ax)×Int):Option Out:=b0 self e0 (r1 k self e0 a1) a1 mz
theorem gc (k:Nat) (rec:RT Out) (K:KT Out) (a1:Arg) (mz:(List ax)×Int):D.N k [1,1,1,1,1,0,1,0,0] (T0 a1 mz) (dv rec (cu [5,6] []) K)=B0 k (S0 rec a1) (bt K a1) a1 mz:=
 Eq.trans (b:=b0 (S0 rec a1) (bt K a1) (s1 k rec K a1) a1 mz) (by kernel_rfl) (by rw[gd];rfl)
noncomputable def q1 (a1:Arg) (qU:(Unit)):Option Out:=some ((0:Int),())
noncomputable abbrev Q1 (_:Nat):=q1
theorem my (k:Nat) (a1:Arg) (qU:(Unit)):bt (af 0 (ap (D.N k [1,1,1,1,1,1]) D.K0)) a1 qU=q1 a1 qU:=by kernel_rfl
noncomputable def s0 (k:Nat) (a1:Arg):((List ax)×Int)->Option Out:=fun mz=>D.L k [1,1,1,1,1,0,1,0,0] [5,6] [] (af 0 (ap (D.N k [1,1,1,1,1,1]) D.K0)) (T0 a1 mz)
noncomputable def r0 (k:Nat) (a1:Arg):((List ax)×Int)->Option Out:=al (fun w v=>B0 k w (Q1 k a1) a1 v) k
theorem aq (k:Nat) (a1:Arg):s0 k a1=r0 k a1:=by
 funext mz;
 have h0:bt (af 0 (ap (D.N k [1,1,1,1,1,1]) D.K0)) a1=Q1 k a1:=funext fun z=>my k a1 z
 refine (ao _ _ _ (T0 a1) (fun self v=>B0 k self (bt (af 0 (ap (D.N k [1,1,1,1,1,1]) D.K0)) a1) a1 v) (fun rec v=>gc k rec (af 0 (ap (D.N k [1,1,1,1,1,1]) D.K0)) a1 v) k mz).trans ?_
 rw[h0]
 rfl
noncomputable def p (l0:((List ax)×Int)->Option Out) (a1:Arg):Option Out:=bif decide ((12:Int) < (a1.1.length:Int)) then (some ((2:Int),())) else (cx.ab (a1.1,())).bind fun r2=>bif !decide (r2.1=(0:Int)) then (some (r2.1,())) else (bU.ab (a1.1,())).bind fun r3=>(bg.ab (r3.1,a1.1,())).bind fun r4=>bif !decide (r4.1=(0:Int)) then (some (r4.1,())) else (eo.ab (a1.1,())).bind fun r5=>l0 (r5.1,(0:Int))
theorem aa (k:Nat) (a1:Arg):@Eq (Option Out) (D.W k a1) (p (r0 k a1) a1):=
 Eq.trans (b:=p (s0 k a1) a1) (by kernel_rfl) (by rw[aq])
theorem ok:Ok prog 56 D.sig:=am func56 ay (by kernel_rfl) (fc cx.ok (fc bg.ok (fc bU.ok (fc eo.ok (ai _)))))
end bN
namespace fO
abbrev Arg:Type:=Row×Row×Unit
abbrev Out:Type:=Bool×Unit
abbrev ps:PQ:=[(.ro,(.ptr aF)),(.ro,(.ptr aF))]
noncomputable def D:FD:={ fn:=f148,tl:=aE,ps:=ps,rs:=[(.bool,(av .bool))],od:=[(1,[0,1,2,3,4,5,6,7,8,9,10,11,12,13,14,15,16,17,18,19,20,21,22,23,24,25,26,27,28,29,30,31])] }
noncomputable def ab (a:Arg):Option Out:=@lift Out fun k=>D.W k a
noncomputable def p (a1:Arg):Option Out:=bif decide (a1.1.1 < a1.2.1.1) then (some (true,())) else bif decide (a1.1.1=a1.2.1.1) then (some (decide (a1.1.2.1 < a1.2.1.2.1),())) else some (false,())
theorem aa (k:Nat) (a1:Arg):@Eq (Option Out) (D.W k a1) (p a1):=by kernel_rfl
theorem ok:Ok prog 148 D.sig:=am func148 ay (by kernel_rfl) (ai _)
end fO
namespace eg
abbrev Arg:Type:=(List Row)×Row×Unit
abbrev Out:Type:=(List Row)×Unit
abbrev ps:PQ:=[(.ro,(.U aF)),(.ro,aF)]
noncomputable def D:FD:={ fn:=f101,tl:=aE,ps:=ps,rs:=[((.U aF),(au (.U aF)))],gl:=[(148,fO.D.sig)],lv:=[(2,[0,3,5])],lx:=[(0,[0,3,5])],od:=[(5,[0,1,4,5,6,2,3,7,8])] }
noncomputable def ab (a:Arg):Option Out:=@lift Out fun k=>D.W k a
noncomputable def T0 (a1:Arg) (J:Int):St:={ n:=32,sl:=[(0,.val (.U aF) a1.1),(3,.box aF (av aF) [] a1.2.1),(5,.val i64 J)],vr:=[],aw:=[] }
noncomputable def b0 (self:Int->Option Out) (e0:Int->Option Out) (a1:Arg) (J:Int):Option Out:=bif decide (J < (a1.1.length:Int)) then (if 0<=J then ((a1.1[J.toNat]?).bind fun aB=>(fO.ab (aB,a1.2.1,())).bind fun bs=>bif bs.1 then (self (ae (J+(1:Int)))) else e0 J) else none) else e0 J
noncomputable abbrev B0 (_:Nat):=b0
noncomputable def q0 (a1:Arg) (bY:Int):Option Out:=if 0<=bY/\bY<=(a1.1.length:Int) then (if ([]:List Row).length+((a1.1.take bY.toNat).drop 0).length<=bk then (let wc:=([]:List Row)++((a1.1.take bY.toNat).drop 0);if 0<=bY/\bY<=(a1.1.length:Int) then (if wc.length+[a1.2.1].length<=bk then (if (wc++[a1.2.1]).length+((a1.1.take a1.1.length).drop bY.toNat).length<=bk then (let wd:=(wc++[a1.2.1])++((a1.1.take a1.1.length).drop bY.toNat);some (wd,())) else none) else none) else none) else none) else none
noncomputable abbrev Q0 (_:Nat):=q0
noncomputable def s0 (k:Nat) (a1:Arg):(Int)->Option Out:=fun J=>D.L k [1,1,0,0,0] [0,3,5] [] (af 0 (ap (D.N k [1,1,1]) D.K0)) (T0 a1 J)
noncomputable def r0 (k:Nat) (a1:Arg):(Int)->Option Out:=al (fun w v=>B0 k w (Q0 k a1) a1 v) k
theorem aq (k:Nat) (a1:Arg):s0 k a1=r0 k a1:=
 funext fun J=>ao _ _ _ (T0 a1) _ (fun rec v=>by kernel_rfl) k J
noncomputable def p (l0:(Int)->Option Out) (a1:Arg):Option Out:=l0 (0:Int)
theorem aa (k:Nat) (a1:Arg):@Eq (Option Out) (D.W k a1) (p (r0 k a1) a1):=
 Eq.trans (b:=p (s0 k a1) a1) (by kernel_rfl) (by rw[aq])
theorem ok:Ok prog 101 D.sig:=am func101 ay (by kernel_rfl) (fc fO.ok (ai _))
end eg
namespace eD
abbrev Arg:Type:=(List (List UInt8))×Unit
abbrev Out:Type:=(List Row)×Unit
abbrev ps:PQ:=[(.ro,(.U (.U u8)))]
noncomputable def D:FD:={ fn:=f57,tl:=aE,ps:=ps,rs:=[((.U aF),(au (.U aF)))],gl:=[(100,eo.D.sig),(101,eg.D.sig)],lv:=[(4,[3,4,5])],lx:=[(0,[3])] }
noncomputable def ab (a:Arg):Option Out:=@lift Out fun k=>D.W k a
noncomputable def T0 (a1:Arg) (ff:List ax) (aN:(List Row)×Int):St:={ n:=24,sl:=[(3,.own (.U aF) (au (.U aF)) [] aN.1),(4,.own (.U dU) (au (.U dU)) [] ff),(5,.val i64 aN.2)],vr:=[],aw:=[] }
noncomputable def b0 (self:((List Row)×Int)->Option Out) (e0:(List Row)->Option Out) (a1:Arg) (ff:List ax) (aN:(List Row)×Int):Option Out:=bif decide (aN.2 < (ff.length:Int)) then (if 0<=aN.2/\aN.2 < (ff.length:Int) then ((ff[aN.2.toNat]?).bind fun cW=>(eg.ab (aN.1,cW.2.2.1.2.2.2.2.1,())).bind fun jk=>self (jk.1,ae (aN.2+(1:Int)))) else none) else e0 aN.1
noncomputable abbrev B0 (_:Nat):=b0
noncomputable def q0 (a1:Arg) (ff:List ax) (gP:(List Row)):Option Out:=some (gP,())
noncomputable abbrev Q0 (_:Nat):=q0
noncomputable def s0 (k:Nat) (a1:Arg):(List ax)->((List Row)×Int)->Option Out:=fun ff=>fun aN=>D.L k [1,1,1,0,1,0,0] [3,4,5] [] (af 0 (ap (D.N k [1,1,1,1]) D.K0)) (T0 a1 ff aN)
noncomputable def r0 (k:Nat) (a1:Arg):(List ax)->((List Row)×Int)->Option Out:=fun ff=>al (fun w v=>B0 k w (Q0 k a1 ff) a1 ff v) k
theorem aq (k:Nat) (a1:Arg):s0 k a1=r0 k a1:=
 funext fun ff=>funext fun aN=>ao _ _ _ (T0 a1 ff) _ (fun rec v=>by kernel_rfl) k aN
noncomputable def p (l0:(List ax)->((List Row)×Int)->Option Out) (a1:Arg):Option Out:=(eo.ab (a1.1,())).bind fun r2=>l0 r2.1 (([]:List Row),(0:Int))
theorem aa (k:Nat) (a1:Arg):@Eq (Option Out) (D.W k a1) (p (r0 k a1) a1):=
 Eq.trans (b:=p (s0 k a1) a1) (by kernel_rfl) (by rw[aq])
theorem ok:Ok prog 57 D.sig:=am func57 ay (by kernel_rfl) (fc eo.ok (fc eg.ok (ai _)))
end eD
namespace ep
abbrev Arg:Type:=(List Row)×Unit
abbrev Out:Type:=Int×Unit
abbrev ps:PQ:=[(.ro,(.U aF))]
noncomputable def D:FD:={ fn:=f102,tl:=aE,ps:=ps,rs:=[(i64,(av i64))],gl:=[(148,fO.D.sig),(149,du.D.sig)],lv:=[(4,[0,3])],lx:=[(0,[])],od:=[(9,[0,1,2,3,4,5,6,7,8,9,10,11,12])] }
noncomputable def ab (a:Arg):Option Out:=@lift Out fun k=>D.W k a
noncomputable def T0 (a1:Arg) (J:Int):St:={ n:=34,sl:=[(0,.val (.U aF) a1.1),(3,.val i64 J)],vr:=[],aw:=[] }
noncomputable def b0 (self:Int->Option Out) (e0:(Unit)->Option Out) (a1:Arg) (J:Int):Option Out:=bif decide (J < (a1.1.length:Int)) then (if 0<=J then ((a1.1[J.toNat]?).bind fun aB=>(du.ab (aB,())).bind fun bs=>bif !decide (bs.1=(0:Int)) then (some (bs.1,())) else bif decide ((0:Int) < J) then (if 0<=ae (J - (1:Int)) then ((a1.1[(ae (J - (1:Int))).toNat]?).bind fun cW=>if 0<=J then ((a1.1[J.toNat]?).bind fun n7=>(fO.ab (cW,n7,())).bind fun gx=>bif !gx.1 then (some ((1:Int),())) else self (ae (J+(1:Int)))) else none) else none) else self (ae (J+(1:Int)))) else none) else e0 ()
noncomputable abbrev B0 (_:Nat):=b0
noncomputable def q0 (a1:Arg) (mZ:(Unit)):Option Out:=some ((0:Int),())
noncomputable abbrev Q0 (_:Nat):=q0
noncomputable def s0 (k:Nat) (a1:Arg):(Int)->Option Out:=fun J=>D.L k [1,1,0,1,0,0] [0,3] [] (af 0 (ap (D.N k [1,1,1]) D.K0)) (T0 a1 J)
noncomputable def r0 (k:Nat) (a1:Arg):(Int)->Option Out:=al (fun w v=>B0 k w (Q0 k a1) a1 v) k
theorem aq (k:Nat) (a1:Arg):s0 k a1=r0 k a1:=
 funext fun J=>ao _ _ _ (T0 a1) _ (fun rec v=>by kernel_rfl) k J
noncomputable def p (l0:(Int)->Option Out) (a1:Arg):Option Out:=bif decide ((60:Int) < (a1.1.length:Int)) then (some ((2:Int),())) else l0 (0:Int)
theorem aa (k:Nat) (a1:Arg):@Eq (Option Out) (D.W k a1) (p (r0 k a1) a1):=
 Eq.trans (b:=p (s0 k a1) a1) (by kernel_rfl) (by rw[aq])
theorem ok:Ok prog 102 D.sig:=am func102 ay (by kernel_rfl) (fc fO.ok (fc du.ok (ai _)))
end ep
namespace i7
abbrev Arg:Type:=Change×Unit
abbrev Out:Type:=Int×Unit
abbrev ps:PQ:=[(.ro,(.ptr an))]
noncomputable def D:FD:={ fn:=f161,tl:=aE,ps:=ps,rs:=[(i64,(av i64))],gl:=[(149,du.D.sig)],od:=[(1,[0,1,2,3,4,5,6,7,8,9,10,11,12,13,14,15,16,17,18,19,20,21,22,23,24,25,26,27,28,29,30,31,32,33,34,35,36,37,38,39,40,41,42,43,44,45,46,47,48,49])] }
noncomputable def ab (a:Arg):Option Out:=@lift Out fun k=>D.W k a
noncomputable def p (a1:Arg):Option Out:=let j5:Option Out:=bif a1.1.1 then ((du.ab (a1.1.2.1,())).bind fun r6=>bif !decide (r6.1=(0:Int)) then (some (r6.1,())) else bif a1.1.2.2.1 then ((du.ab (a1.1.2.2.2.1,())).bind fun r8=>some (r8.1,())) else some ((0:Int),())) else bif a1.1.2.2.1 then ((du.ab (a1.1.2.2.2.1,())).bind fun r9=>some (r9.1,())) else some ((0:Int),());bif !a1.1.1 then (bif !a1.1.2.2.1 then (some ((1:Int),())) else bif a1.1.1 then (bif a1.1.2.2.1 then (bif !decide (a1.1.2.1.1=a1.1.2.2.2.1.1) then (some ((1:Int),())) else bif !decide (a1.1.2.1.2.1=a1.1.2.2.2.1.2.1) then (some ((1:Int),())) else j5) else j5) else j5) else bif a1.1.1 then (bif a1.1.2.2.1 then (bif !decide (a1.1.2.1.1=a1.1.2.2.2.1.1) then (some ((1:Int),())) else bif !decide (a1.1.2.1.2.1=a1.1.2.2.2.1.2.1) then (some ((1:Int),())) else j5) else j5) else j5
theorem aa (k:Nat) (a1:Arg):@Eq (Option Out) (D.W k a1) (p a1):=by kernel_rfl
theorem ok:Ok prog 161 D.sig:=am func161 ay (by kernel_rfl) (fc du.ok (ai _))
end i7
namespace fP
abbrev Arg:Type:=Change×Unit
abbrev Out:Type:=Int×Unit
abbrev ps:PQ:=[(.ro,(.ptr an))]
noncomputable def D:FD:={ fn:=f109,tl:=aE,ps:=ps,rs:=[(i64,(av i64))],gl:=[(161,i7.D.sig)],od:=[(4,[0,1,2,3,4,5,6,7,8,9,10,11,12,13,14,15,16,17,18,19,20])] }
noncomputable def ab (a:Arg):Option Out:=@lift Out fun k=>D.W k a
noncomputable def p (a1:Arg):Option Out:=(i7.ab (a1.1,())).bind fun r2=>bif !decide (r2.1=(0:Int)) then (some (r2.1,())) else bif a1.1.1 then (bif a1.1.2.2.1 then (bif (Ty.eq aF a1.1.2.1 a1.1.2.2.2.1) then (some ((1:Int),())) else some ((0:Int),())) else some ((0:Int),())) else some ((0:Int),())
theorem aa (k:Nat) (a1:Arg):@Eq (Option Out) (D.W k a1) (p a1):=by kernel_rfl
theorem ok:Ok prog 109 D.sig:=am func109 ay (by kernel_rfl) (fc i7.ok (ai _))
end fP
namespace dG
abbrev Arg:Type:=Tx×Key×Unit
abbrev Out:Type:=Bool×Unit
abbrev ps:PQ:=[(.ro,(.ptr bd)),(.ro,aL)]
noncomputable def D:FD:={ fn:=f186,tl:=aE,ps:=ps,rs:=[(.bool,(av .bool))],lv:=[(2,[0,3,5])],lx:=[(0,[])],od:=[(4,[0,1,2,3,4,5,6,7,8])] }
noncomputable def ab (a:Arg):Option Out:=@lift Out fun k=>D.W k a
noncomputable def T0 (a1:Arg) (J:Int):St:={ n:=24,sl:=[(0,.cp bd a1.1),(3,.box aL (av aL) [] a1.2.1),(5,.val i64 J)],vr:=[],aw:=[] }
noncomputable def b0 (self:Int->Option Out) (e0:(Unit)->Option Out) (a1:Arg) (J:Int):Option Out:=bif decide (J < (a1.1.2.2.2.1.length:Int)) then (if 0<=J then ((a1.1.2.2.2.1[J.toNat]?).bind fun aB=>bif (Ty.eq aL aB a1.2.1) then (some (true,())) else self (ae (J+(1:Int)))) else none) else e0 ()
noncomputable abbrev B0 (_:Nat):=b0
noncomputable def q0 (a1:Arg) (kj:(Unit)):Option Out:=some (false,())
noncomputable abbrev Q0 (_:Nat):=q0
noncomputable def s0 (k:Nat) (a1:Arg):(Int)->Option Out:=fun J=>D.L k [1,0,1,0,0] [0,3,5] [] (af 0 (ap (D.N k [1,1]) D.K0)) (T0 a1 J)
noncomputable def r0 (k:Nat) (a1:Arg):(Int)->Option Out:=al (fun w v=>B0 k w (Q0 k a1) a1 v) k
theorem aq (k:Nat) (a1:Arg):s0 k a1=r0 k a1:=
 funext fun J=>ao _ _ _ (T0 a1) _ (fun rec v=>by kernel_rfl) k J
noncomputable def p (l0:(Int)->Option Out) (a1:Arg):Option Out:=l0 (0:Int)
theorem aa (k:Nat) (a1:Arg):@Eq (Option Out) (D.W k a1) (p (r0 k a1) a1):=
 Eq.trans (b:=p (s0 k a1) a1) (by kernel_rfl) (by rw[aq])
theorem ok:Ok prog 186 D.sig:=am func186 ay (by kernel_rfl) (ai _)
end dG
namespace fG
abbrev Arg:Type:=Change×Unit
abbrev Out:Type:=Int×Int×Unit
abbrev ps:PQ:=[(.ro,(.ptr an))]
noncomputable def D:FD:={ fn:=f162,tl:=aE,ps:=ps,rs:=[(i64,(av i64)),(i64,(av i64))],od:=[(2,[0,1,2,3,4,5,6,7,8,9,10,11]),(3,[0,1,2,3,4,5,6,7,8,9,10,11])] }
noncomputable def ab (a:Arg):Option Out:=@lift Out fun k=>D.W k a
noncomputable def p (a1:Arg):Option Out:=bif a1.1.2.2.1 then (some (a1.1.2.2.2.1.1,a1.1.2.2.2.1.2.1,())) else some (a1.1.2.1.1,a1.1.2.1.2.1,())
theorem aa (k:Nat) (a1:Arg):@Eq (Option Out) (D.W k a1) (p a1):=by kernel_rfl
theorem ok:Ok prog 162 D.sig:=am func162 ay (by kernel_rfl) (ai _)
end fG
namespace i9
abbrev Arg:Type:=Change×Unit
abbrev Out:Type:=Key×Unit
abbrev ps:PQ:=[(.ro,(.ptr an))]
noncomputable def D:FD:={ fn:=f187,tl:=aE,ps:=ps,rs:=[(aL,(av aL))],gl:=[(162,fG.D.sig)] }
noncomputable def ab (a:Arg):Option Out:=@lift Out fun k=>D.W k a
noncomputable def p (a1:Arg):Option Out:=(fG.ab (a1.1,())).bind fun r2=>some ((r2.1,r2.2.1,()),())
theorem aa (k:Nat) (a1:Arg):@Eq (Option Out) (D.W k a1) (p a1):=by kernel_rfl
theorem ok:Ok prog 187 D.sig:=am func187 ay (by kernel_rfl) (fc fG.ok (ai _))
end i9
namespace fQ
abbrev Arg:Type:=Tx×Unit
abbrev Out:Type:=Int×Unit
abbrev ps:PQ:=[(.ro,(.ptr bd))]
noncomputable def D:FD:={ fn:=f150,tl:=aE,ps:=ps,rs:=[(i64,(av i64))],gl:=[(109,fP.D.sig),(186,dG.D.sig),(187,i9.D.sig)],lv:=[(2,[0,3])],lx:=[(0,[])] }
noncomputable def ab (a:Arg):Option Out:=@lift Out fun k=>D.W k a
noncomputable def T0 (a1:Arg) (J:Int):St:={ n:=34,sl:=[(0,.cp bd a1.1),(3,.val i64 J)],vr:=[],aw:=[] }
noncomputable def b0 (self:Int->Option Out) (e0:(Unit)->Option Out) (a1:Arg) (J:Int):Option Out:=bif decide (J < (a1.1.2.1.length:Int)) then (if 0<=J then ((a1.1.2.1[J.toNat]?).bind fun aB=>(fP.ab (aB,())).bind fun bs=>bif !decide (bs.1=(0:Int)) then (some (bs.1,())) else if 0<=J then ((a1.1.2.1[J.toNat]?).bind fun cW=>(i9.ab (cW,())).bind fun jk=>(dG.ab (a1.1,jk.1,())).bind fun gx=>bif !gx.1 then (some ((8:Int),())) else self (ae (J+(1:Int)))) else none) else none) else e0 ()
noncomputable abbrev B0 (_:Nat):=b0
noncomputable def q0 (a1:Arg) (mZ:(Unit)):Option Out:=some ((0:Int),())
noncomputable abbrev Q0 (_:Nat):=q0
noncomputable def s0 (k:Nat) (a1:Arg):(Int)->Option Out:=fun J=>D.L k [1,0,1,0,0] [0,3] [] (af 0 (ap (D.N k [1,1]) D.K0)) (T0 a1 J)
noncomputable def r0 (k:Nat) (a1:Arg):(Int)->Option Out:=al (fun w v=>B0 k w (Q0 k a1) a1 v) k
theorem aq (k:Nat) (a1:Arg):s0 k a1=r0 k a1:=
 funext fun J=>ao _ _ _ (T0 a1) _ (fun rec v=>by kernel_rfl) k J
noncomputable def p (l0:(Int)->Option Out) (a1:Arg):Option Out:=l0 (0:Int)
theorem aa (k:Nat) (a1:Arg):@Eq (Option Out) (D.W k a1) (p (r0 k a1) a1):=
 Eq.trans (b:=p (s0 k a1) a1) (by kernel_rfl) (by rw[aq])
theorem ok:Ok prog 150 D.sig:=am func150 ay (by kernel_rfl) (fc fP.ok (fc dG.ok (fc i9.ok (ai _))))
end fQ
namespace kQ
abbrev Arg:Type:=Key×Unit
abbrev Out:Type:=Bool×Unit
abbrev ps:PQ:=[(.ro,(.ptr aL))]
noncomputable def D:FD:={ fn:=f188,tl:=aE,ps:=ps,rs:=[(.bool,(av .bool))],gl:=[(55,aI.D.sig)] }
noncomputable def ab (a:Arg):Option Out:=@lift Out fun k=>D.W k a
noncomputable def p (a1:Arg):Option Out:=(aI.ab (a1.1.1,(0:Int),(3:Int),())).bind fun r2=>bif r2.1 then ((aI.ab (a1.1.2.1,(1:Int),(99:Int),())).bind fun r3=>some (r3.1,())) else some (false,())
theorem aa (k:Nat) (a1:Arg):@Eq (Option Out) (D.W k a1) (p a1):=by kernel_rfl
theorem ok:Ok prog 188 D.sig:=am func188 ay (by kernel_rfl) (fc aI.ok (ai _))
end kQ
namespace bb
abbrev Arg:Type:=Tx×Unit
abbrev Out:Type:=Int×Unit
abbrev ps:PQ:=[(.ro,(.ptr bd))]
noncomputable def D:FD:={ fn:=f151,tl:=aE,ps:=ps,rs:=[(i64,(av i64))],gl:=[(55,aI.D.sig),(188,kQ.D.sig)],lv:=[(4,[0,3]),(9,[0,4]),(14,[0,4,5])],lx:=[(0,[0]),(2,[]),(4,[0,4])],od:=[(6,[0,1,2,3,4,5,6,7,8,9,10,11,12,13,14,15,16,17,18,19,20,21,22,23,24,25,26,27,28,29,30,31,32,33,34,35]),(16,[0,1,2,3,4,5,6,7,8,9,10,11,12,13,14])],ar:=[(6,[3,6,10,21,24,28,32])] }
noncomputable def ab (a:Arg):Option Out:=@lift Out fun k=>D.W k a
noncomputable def T0 (a1:Arg) (J:Int):St:={ n:=102,sl:=[(0,.cp bd a1.1),(3,.val i64 J)],vr:=[],aw:=[] }
noncomputable def S0 (rec:RT Out) (a1:Arg):(Int)->Option Out:=fun J=>rec (T0 a1 J)
noncomputable def bt (K:KT Out) (a1:Arg):(Unit)->Option Out:=fun z=>K (.exit 0) ({ n:=102,sl:=[(0,.cp bd a1.1)],vr:=[],aw:=[] })
noncomputable def b0 (self:Int->Option Out) (e0:(Unit)->Option Out) (a1:Arg) (J:Int):Option Out:=bif decide (J < (a1.1.2.2.1.length:Int)) then (if 0<=J then ((a1.1.2.2.1[J.toNat]?).bind fun aB=>(aI.ab (aB,(0:Int),(a1.1.2.1.length:Int),())).bind fun bs=>bif !bs.1 then (some ((3:Int),())) else bif decide ((0:Int) < J) then (if 0<=J then ((a1.1.2.2.1[J.toNat]?).bind fun cW=>if 0<=ae (J - (1:Int)) then ((a1.1.2.2.1[(ae (J - (1:Int))).toNat]?).bind fun n7=>bif decide (cW < n7) then (some ((3:Int),())) else self (ae (J+(1:Int)))) else none) else none) else self (ae (J+(1:Int)))) else none) else e0 ()
noncomputable abbrev B0 (_:Nat):=b0
theorem gc (k:Nat) (rec:RT Out) (K:KT Out) (a1:Arg) (J:Int):D.N k [1,1,0,1,0,0] (T0 a1 J) (dv rec (cu [0,3] []) K)=b0 (S0 rec a1) (bt K a1) a1 J:=by kernel_rfl
noncomputable def T1 (a1:Arg) (be:Tx×Int):St:={ n:=102,sl:=[(0,.cp bd be.1),(4,.val i64 be.2)],vr:=[],aw:=[] }
noncomputable def S1 (rec:RT Out) (a1:Arg):(Tx×Int)->Option Out:=fun be=>rec (T1 a1 be)
noncomputable def dF (K:KT Out) (a1:Arg):(Unit)->Option Out:=fun z=>K (.exit 2) ({ n:=102,sl:=[],vr:=[],aw:=[] })
noncomputable def T2 (a1:Arg) (cD:Tx) (bF:Int) (e8:Int):St:={ n:=102,sl:=[(0,.cp bd cD),(4,.val i64 bF),(5,.val i64 e8)],vr:=[],aw:=[] }
noncomputable def b2 (self:Int->Option Out) (e4:(Unit)->Option Out) (a1:Arg) (cD:Tx) (bF:Int) (e8:Int):Option Out:=bif decide (e8 < bF) then (if 0<=e8 then ((cD.2.2.2.1[e8.toNat]?).bind fun GZ=>if 0<=bF then ((cD.2.2.2.1[bF.toNat]?).bind fun Ph=>bif (Ty.eq aL GZ Ph) then (some ((6:Int),())) else self (ae (e8+(1:Int)))) else none) else none) else e4 ()
noncomputable abbrev B2 (_:Nat):=b2
noncomputable def q1 (self:(Tx×Int)->Option Out) (e2:(Unit)->Option Out) (a1:Arg) (cD:Tx) (bF:Int) (nO:(Unit)):Option Out:=self (cD,ae (bF+(1:Int)))
noncomputable abbrev Q1 (_:Nat):=q1
noncomputable def s2 (k:Nat) (rec:RT Out) (K:KT Out) (a1:Arg):Tx->Int->(Int)->Option Out:=fun cD bF=>fun e8=>D.L k [1,1,1,0,1,0,0,1,0,0,1,1,0,0] [0,4,5] [] (af 4 (af 3 (ap (D.N k [1,1,1,0,1,0,0,1,1]) (dv rec (cu [0,4] []) K)))) (T2 a1 cD bF e8)
noncomputable def r2 (k:Nat) (self:(Tx×Int)->Option Out) (e2:(Unit)->Option Out) (a1:Arg):Tx->Int->(Int)->Option Out:=fun cD bF=>al (fun w v=>B2 k w (Q1 k self e2 a1 cD bF) a1 cD bF v) k
theorem ly (k:Nat) (rec:RT Out) (K:KT Out) (a1:Arg):s2 k rec K a1=r2 k (S1 rec a1) (dF K a1) a1:=
 funext fun cD=>funext fun bF=>funext fun e8=>ao _ _ _ (T2 a1 cD bF) _ (fun rec v=>by kernel_rfl) k e8
noncomputable def b1 (self:(Tx×Int)->Option Out) (e2:(Unit)->Option Out) (l2:Tx->Int->(Int)->Option Out) (a1:Arg) (be:Tx×Int):Option Out:=bif decide (be.2 < (be.1.2.2.2.1.length:Int)) then (if 0<=be.2 then ((be.1.2.2.2.1[be.2.toNat]?).bind fun wZ=>(kQ.ab (wZ,())).bind fun qV=>bif !qV.1 then (some ((3:Int),())) else l2 be.1 be.2 (0:Int)) else none) else e2 ()
noncomputable def B1 (k:Nat) (self:(Tx×Int)->Option Out) (e2:(Unit)->Option Out) (a1:Arg) (be:Tx×Int):Option Out:=b1 self e2 (r2 k self e2 a1) a1 be
theorem mw (k:Nat) (rec:RT Out) (K:KT Out) (a1:Arg) (be:Tx×Int):D.N k [1,1,1,0,1,0,0] (T1 a1 be) (dv rec (cu [0,4] []) K)=B1 k (S1 rec a1) (dF K a1) a1 be:=
 Eq.trans (b:=b1 (S1 rec a1) (dF K a1) (s2 k rec K a1) a1 be) (by kernel_rfl) (by rw[ly];rfl)
noncomputable def q2 (a1:Arg) (G0:(Unit)):Option Out:=some ((0:Int),())
noncomputable abbrev Q2 (_:Nat):=q2
theorem nP (k:Nat) (a1:Arg) (G0:(Unit)):dF (af 2 (ap (D.N k [1,1,1,1]) D.K0)) a1 G0=q2 a1 G0:=by kernel_rfl
noncomputable def s1 (k:Nat) (a1:Arg):(Tx×Int)->Option Out:=fun be=>D.L k [1,1,1,0,1,0,0] [0,4] [] (af 2 (ap (D.N k [1,1,1,1]) D.K0)) (T1 a1 be)
noncomputable def r1 (k:Nat) (a1:Arg):(Tx×Int)->Option Out:=al (fun w v=>B1 k w (Q2 k a1) a1 v) k
theorem gd (k:Nat) (a1:Arg):s1 k a1=r1 k a1:=by
 funext be;
 have Y:dF (af 2 (ap (D.N k [1,1,1,1]) D.K0)) a1=Q2 k a1:=funext fun z=>nP k a1 z
 refine (ao _ _ _ (T1 a1) (fun self v=>B1 k self (dF (af 2 (ap (D.N k [1,1,1,1]) D.K0)) a1) a1 v) (fun rec v=>mw k rec (af 2 (ap (D.N k [1,1,1,1]) D.K0)) a1 v) k be).trans ?_
 rw[Y]
 rfl
noncomputable def q0 (l1:(Tx×Int)->Option Out) (a1:Arg) (gP:(Unit)):Option Out:=l1 (a1.1,(0:Int))
noncomputable def Q0 (k:Nat) (a1:Arg) (gP:(Unit)):Option Out:=q0 (r1 k a1) a1 gP
theorem lz (k:Nat) (a1:Arg) (gP:(Unit)):bt (af 0 (ap (D.N k [1,1,1]) D.K0)) a1 gP=Q0 k a1 gP:=
 Eq.trans (b:=q0 (s1 k a1) a1 gP) (by kernel_rfl) (by rw[gd];rfl)
noncomputable def s0 (k:Nat) (a1:Arg):(Int)->Option Out:=fun J=>D.L k [1,1,0,1,0,0] [0,3] [] (af 0 (ap (D.N k [1,1,1]) D.K0)) (T0 a1 J)
noncomputable def r0 (k:Nat) (a1:Arg):(Int)->Option Out:=al (fun w v=>B0 k w (Q0 k a1) a1 v) k
theorem aq (k:Nat) (a1:Arg):s0 k a1=r0 k a1:=by
 funext J;
 have h0:bt (af 0 (ap (D.N k [1,1,1]) D.K0)) a1=Q0 k a1:=funext fun z=>lz k a1 z
 refine (ao _ _ _ (T0 a1) (fun self v=>B0 k self (bt (af 0 (ap (D.N k [1,1,1]) D.K0)) a1) a1 v) (fun rec v=>gc k rec (af 0 (ap (D.N k [1,1,1]) D.K0)) a1 v) k J).trans ?_
 rw[h0]
 rfl
noncomputable def p (l0:(Int)->Option Out) (a1:Arg):Option Out:=bif decide ((8:Int) < (a1.1.2.2.1.length:Int)) then (some ((2:Int),())) else bif decide ((12:Int) < (a1.1.2.2.2.1.length:Int)) then (some ((2:Int),())) else l0 (0:Int)
theorem aa (k:Nat) (a1:Arg):@Eq (Option Out) (D.W k a1) (p (r0 k a1) a1):=
 Eq.trans (b:=p (s0 k a1) a1) (by kernel_rfl) (by rw[aq])
theorem ok:Ok prog 151 D.sig:=am func151 ay (by kernel_rfl) (fc aI.ok (fc kQ.ok (ai _)))
end bb
namespace fR
abbrev Arg:Type:=(List Tx)×Key×Unit
abbrev Out:Type:=Int×Unit
abbrev ps:PQ:=[(.ro,(.U bd)),(.ro,aL)]
noncomputable def D:FD:={ fn:=f189,tl:=aE,ps:=ps,rs:=[(i64,(av i64))],gl:=[(186,dG.D.sig)],lv:=[(2,[0,3,5])],lx:=[(0,[])],od:=[(4,[0,1,2,3,4])] }
noncomputable def ab (a:Arg):Option Out:=@lift Out fun k=>D.W k a
noncomputable def T0 (a1:Arg) (J:Int):St:={ n:=22,sl:=[(0,.val (.U bd) a1.1),(3,.box aL (av aL) [] a1.2.1),(5,.val i64 J)],vr:=[],aw:=[] }
noncomputable def b0 (self:Int->Option Out) (e0:(Unit)->Option Out) (a1:Arg) (J:Int):Option Out:=bif decide (J < (a1.1.length:Int)) then (if 0<=J then ((a1.1[J.toNat]?).bind fun aB=>(dG.ab (aB,a1.2.1,())).bind fun bs=>bif bs.1 then (if 0<=J then ((a1.1[J.toNat]?).bind fun cW=>some (cW.1,())) else none) else self (ae (J+(1:Int)))) else none) else e0 ()
noncomputable abbrev B0 (_:Nat):=b0
noncomputable def q0 (a1:Arg) (jl:(Unit)):Option Out:=some ((0:Int),())
noncomputable abbrev Q0 (_:Nat):=q0
noncomputable def s0 (k:Nat) (a1:Arg):(Int)->Option Out:=fun J=>D.L k [1,0,1,0,0] [0,3,5] [] (af 0 (ap (D.N k [1,1]) D.K0)) (T0 a1 J)
noncomputable def r0 (k:Nat) (a1:Arg):(Int)->Option Out:=al (fun w v=>B0 k w (Q0 k a1) a1 v) k
theorem aq (k:Nat) (a1:Arg):s0 k a1=r0 k a1:=
 funext fun J=>ao _ _ _ (T0 a1) _ (fun rec v=>by kernel_rfl) k J
noncomputable def p (l0:(Int)->Option Out) (a1:Arg):Option Out:=l0 (0:Int)
theorem aa (k:Nat) (a1:Arg):@Eq (Option Out) (D.W k a1) (p (r0 k a1) a1):=
 Eq.trans (b:=p (s0 k a1) a1) (by kernel_rfl) (by rw[aq])
theorem ok:Ok prog 189 D.sig:=am func189 ay (by kernel_rfl) (fc dG.ok (ai _))
end fR
namespace cc
abbrev Arg:Type:=(List Tx)×Unit
abbrev Out:Type:=Bool×Unit
abbrev ps:PQ:=[(.ro,(.U bd))]
noncomputable def D:FD:={ fn:=f152,tl:=aE,ps:=ps,rs:=[(.bool,(av .bool))],gl:=[(189,fR.D.sig)],lv:=[(2,[0,3]),(5,[0,3,4])],lx:=[(0,[]),(2,[0,3])],od:=[(7,[0,1,2,3,4,5,6,7,8,10,11,12,13,14,9,15])] }
noncomputable def ab (a:Arg):Option Out:=@lift Out fun k=>D.W k a
noncomputable def T0 (a1:Arg) (J:(List Tx)×Int):St:={ n:=37,sl:=[(0,.val (.U bd) J.1),(3,.val i64 J.2)],vr:=[],aw:=[] }
noncomputable def S0 (rec:RT Out) (a1:Arg):((List Tx)×Int)->Option Out:=fun J=>rec (T0 a1 J)
noncomputable def bt (K:KT Out) (a1:Arg):(Unit)->Option Out:=fun z=>K (.exit 0) ({ n:=37,sl:=[],vr:=[],aw:=[] })
noncomputable def T1 (a1:Arg) (fU:List Tx) (ef:Int) (ge:Int):St:={ n:=37,sl:=[(0,.val (.U bd) fU),(3,.val i64 ef),(4,.val i64 ge)],vr:=[],aw:=[] }
noncomputable def b1 (self:Int->Option Out) (e2:(Unit)->Option Out) (a1:Arg) (fU:List Tx) (ef:Int) (ge:Int):Option Out:=if 0<=ef then ((fU[ef.toNat]?).bind fun GX=>bif decide (ge < (GX.2.2.2.1.length:Int)) then (if 0<=ef then ((fU[ef.toNat]?).bind fun uu=>if 0<=ge then ((uu.2.2.2.1[ge.toNat]?).bind fun ze=>if 0<=ef then ((fU[ef.toNat]?).bind fun wZ=>(fR.ab (fU,ze,())).bind fun qV=>bif !decide (qV.1=wZ.1) then (some (false,())) else self (ae (ge+(1:Int)))) else none) else none) else none) else e2 ()) else none
noncomputable abbrev B1 (_:Nat):=b1
noncomputable def q0 (self:((List Tx)×Int)->Option Out) (e0:(Unit)->Option Out) (a1:Arg) (fU:List Tx) (ef:Int) (uw:(Unit)):Option Out:=self (fU,ae (ef+(1:Int)))
noncomputable abbrev Q0 (_:Nat):=q0
noncomputable def s1 (k:Nat) (rec:RT Out) (K:KT Out) (a1:Arg):(List Tx)->Int->(Int)->Option Out:=fun fU ef=>fun ge=>D.L k [1,0,1,0,0,1,0,0,1,0,0] [0,3,4] [] (af 2 (af 1 (ap (D.N k [1,0,1,0,0,1,1]) (dv rec (cu [0,3] []) K)))) (T1 a1 fU ef ge)
noncomputable def r1 (k:Nat) (self:((List Tx)×Int)->Option Out) (e0:(Unit)->Option Out) (a1:Arg):(List Tx)->Int->(Int)->Option Out:=fun fU ef=>al (fun w v=>B1 k w (Q0 k self e0 a1 fU ef) a1 fU ef v) k
theorem gd (k:Nat) (rec:RT Out) (K:KT Out) (a1:Arg):s1 k rec K a1=r1 k (S0 rec a1) (bt K a1) a1:=
 funext fun fU=>funext fun ef=>funext fun ge=>ao _ _ _ (T1 a1 fU ef) _ (fun rec v=>by kernel_rfl) k ge
noncomputable def b0 (self:((List Tx)×Int)->Option Out) (e0:(Unit)->Option Out) (l1:(List Tx)->Int->(Int)->Option Out) (a1:Arg) (J:(List Tx)×Int):Option Out:=bif decide (J.2 < (J.1.length:Int)) then (l1 J.1 J.2 (0:Int)) else e0 ()
noncomputable def B0 (k:Nat) (self:((List Tx)×Int)->Option Out) (e0:(Unit)->Option Out) (a1:Arg) (J:(List Tx)×Int):Option Out:=b0 self e0 (r1 k self e0 a1) a1 J
theorem gc (k:Nat) (rec:RT Out) (K:KT Out) (a1:Arg) (J:(List Tx)×Int):D.N k [1,0,1,0,0] (T0 a1 J) (dv rec (cu [0,3] []) K)=B0 k (S0 rec a1) (bt K a1) a1 J:=
 Eq.trans (b:=b0 (S0 rec a1) (bt K a1) (s1 k rec K a1) a1 J) (by kernel_rfl) (by rw[gd];rfl)
noncomputable def q1 (a1:Arg) (sE:(Unit)):Option Out:=some (true,())
noncomputable abbrev Q1 (_:Nat):=q1
theorem my (k:Nat) (a1:Arg) (sE:(Unit)):bt (af 0 (ap (D.N k [1,1]) D.K0)) a1 sE=q1 a1 sE:=by kernel_rfl
noncomputable def s0 (k:Nat) (a1:Arg):((List Tx)×Int)->Option Out:=fun J=>D.L k [1,0,1,0,0] [0,3] [] (af 0 (ap (D.N k [1,1]) D.K0)) (T0 a1 J)
noncomputable def r0 (k:Nat) (a1:Arg):((List Tx)×Int)->Option Out:=al (fun w v=>B0 k w (Q1 k a1) a1 v) k
theorem aq (k:Nat) (a1:Arg):s0 k a1=r0 k a1:=by
 funext J;
 have h0:bt (af 0 (ap (D.N k [1,1]) D.K0)) a1=Q1 k a1:=funext fun z=>my k a1 z
 refine (ao _ _ _ (T0 a1) (fun self v=>B0 k self (bt (af 0 (ap (D.N k [1,1]) D.K0)) a1) a1 v) (fun rec v=>gc k rec (af 0 (ap (D.N k [1,1]) D.K0)) a1 v) k J).trans ?_
 rw[h0]
 rfl
noncomputable def p (l0:((List Tx)×Int)->Option Out) (a1:Arg):Option Out:=l0 (a1.1,(0:Int))
theorem aa (k:Nat) (a1:Arg):@Eq (Option Out) (D.W k a1) (p (r0 k a1) a1):=
 Eq.trans (b:=p (s0 k a1) a1) (by kernel_rfl) (by rw[aq])
theorem ok:Ok prog 152 D.sig:=am func152 ay (by kernel_rfl) (fc fR.ok (ai _))
end cc
namespace fa
abbrev Arg:Type:=(List Tx)×Unit
abbrev Out:Type:=Int×Unit
abbrev ps:PQ:=[(.ro,(.U bd))]
noncomputable def D:FD:={ fn:=f153,tl:=aE,ps:=ps,rs:=[(i64,(av i64))],lv:=[(3,[0,3,4])],lx:=[(0,[3])] }
noncomputable def ab (a:Arg):Option Out:=@lift Out fun k=>D.W k a
noncomputable def T0 (a1:Arg) (J:Int×Int):St:={ n:=20,sl:=[(0,.val (.U bd) a1.1),(3,.val i64 J.1),(4,.val i64 J.2)],vr:=[],aw:=[] }
noncomputable def b0 (self:(Int×Int)->Option Out) (e0:Int->Option Out) (a1:Arg) (J:Int×Int):Option Out:=bif decide (J.2 < (a1.1.length:Int)) then (if 0<=J.2 then ((a1.1[J.2.toNat]?).bind fun aB=>self (ae (J.1+(aB.2.1.length:Int)),ae (J.2+(1:Int)))) else none) else e0 J.1
noncomputable abbrev B0 (_:Nat):=b0
noncomputable def q0 (a1:Arg) (kj:Int):Option Out:=some (kj,())
noncomputable abbrev Q0 (_:Nat):=q0
noncomputable def s0 (k:Nat) (a1:Arg):(Int×Int)->Option Out:=fun J=>D.L k [1,1,0,1,0,0] [0,3,4] [] (af 0 (ap (D.N k [1,1,1]) D.K0)) (T0 a1 J)
noncomputable def r0 (k:Nat) (a1:Arg):(Int×Int)->Option Out:=al (fun w v=>B0 k w (Q0 k a1) a1 v) k
theorem aq (k:Nat) (a1:Arg):s0 k a1=r0 k a1:=
 funext fun J=>ao _ _ _ (T0 a1) _ (fun rec v=>by kernel_rfl) k J
noncomputable def p (l0:(Int×Int)->Option Out) (a1:Arg):Option Out:=l0 ((0:Int),(0:Int))
theorem aa (k:Nat) (a1:Arg):@Eq (Option Out) (D.W k a1) (p (r0 k a1) a1):=
 Eq.trans (b:=p (s0 k a1) a1) (by kernel_rfl) (by rw[aq])
theorem ok:Ok prog 153 D.sig:=am func153 ay (by kernel_rfl) (ai _)
end fa
namespace df
abbrev Arg:Type:=(List Tx)×Unit
abbrev Out:Type:=Int×Unit
abbrev ps:PQ:=[(.ro,(.U bd))]
noncomputable def D:FD:={ fn:=f103,tl:=aE,ps:=ps,rs:=[(i64,(av i64))],gl:=[(55,aI.D.sig),(150,fQ.D.sig),(151,bb.D.sig),(152,cc.D.sig),(153,fa.D.sig)],lv:=[(4,[0,3])],lx:=[(0,[0])],od:=[(9,[0,1,2,3,4,5,6,7,8,9,10,11,12,13,14])] }
noncomputable def ab (a:Arg):Option Out:=@lift Out fun k=>D.W k a
noncomputable def T0 (a1:Arg) (J:Int):St:={ n:=56,sl:=[(0,.val (.U bd) a1.1),(3,.val i64 J)],vr:=[],aw:=[] }
noncomputable def b0 (self:Int->Option Out) (e0:(Unit)->Option Out) (a1:Arg) (J:Int):Option Out:=bif decide (J < (a1.1.length:Int)) then (if 0<=J then ((a1.1[J.toNat]?).bind fun aB=>(aI.ab (aB.1,(1:Int),(99:Int),())).bind fun bs=>bif !bs.1 then (some ((3:Int),())) else let Oo:Option Out:=(fQ.ab (aB,())).bind fun qC=>bif !decide (qC.1=(0:Int)) then (some (qC.1,())) else (bb.ab (aB,())).bind fun uq=>bif !decide (uq.1=(0:Int)) then (some (uq.1,())) else self (ae (J+(1:Int)));bif decide ((0:Int) < J) then (if 0<=ae (J - (1:Int)) then ((a1.1[(ae (J - (1:Int))).toNat]?).bind fun cW=>bif decide (aB.1<=cW.1) then (some ((1:Int),())) else Oo) else none) else Oo) else none) else e0 ()
noncomputable abbrev B0 (_:Nat):=b0
noncomputable def q0 (a1:Arg) (KC:(Unit)):Option Out:=(cc.ab (a1.1,())).bind fun KE=>bif !KE.1 then (some ((7:Int),())) else (fa.ab (a1.1,())).bind fun G3=>bif decide ((12:Int) < G3.1) then (some ((2:Int),())) else some ((0:Int),())
noncomputable abbrev Q0 (_:Nat):=q0
noncomputable def s0 (k:Nat) (a1:Arg):(Int)->Option Out:=fun J=>D.L k [1,1,0,1,0,0] [0,3] [] (af 0 (ap (D.N k [1,1,1]) D.K0)) (T0 a1 J)
noncomputable def r0 (k:Nat) (a1:Arg):(Int)->Option Out:=al (fun w v=>B0 k w (Q0 k a1) a1 v) k
theorem aq (k:Nat) (a1:Arg):s0 k a1=r0 k a1:=
 funext fun J=>ao _ _ _ (T0 a1) _ (fun rec v=>by kernel_rfl) k J
noncomputable def p (l0:(Int)->Option Out) (a1:Arg):Option Out:=bif decide ((4:Int) < (a1.1.length:Int)) then (some ((2:Int),())) else l0 (0:Int)
theorem aa (k:Nat) (a1:Arg):@Eq (Option Out) (D.W k a1) (p (r0 k a1) a1):=
 Eq.trans (b:=p (s0 k a1) a1) (by kernel_rfl) (by rw[aq])
theorem ok:Ok prog 103 D.sig:=am func103 ay (by kernel_rfl) (fc aI.ok (fc fQ.ok (fc bb.ok (fc cc.ok (fc fa.ok (ai _))))))
end df
namespace aQ
abbrev Arg:Type:=(List Row)×(List Tx)×Key×Unit
abbrev Out:Type:=Int×Unit
abbrev ps:PQ:=[(.ro,(.U aF)),(.ro,(.U bd)),(.ro,aL)]
noncomputable def D:FD:={ fn:=f104,tl:=aE,ps:=ps,rs:=[(i64,(av i64))],lv:=[(3,[0,1,5,7,8]),(7,[1,5,7,9]),(14,[7,10,11]),(18,[7,10,11,12,13])],lx:=[(0,[1,5,7]),(2,[5,7]),(4,[10]),(6,[7,10,11,12])],od:=[(5,[0,1,2,3,4,5,6,7,8,9,10,11,12,13,14]),(20,[0,1,2,3,4,5,6,7,8,9])] }
noncomputable def ab (a:Arg):Option Out:=@lift Out fun k=>D.W k a
noncomputable def T0 (a1:Arg) (J:(List Key)×Int):St:={ n:=82,sl:=[(0,.val (.U aF) a1.1),(1,.val (.U bd) a1.2.1),(5,.box aL (av aL) [] a1.2.2.1),(7,.own (.U aL) (au (.U aL)) [] J.1),(8,.val i64 J.2)],vr:=[],aw:=[] }
noncomputable def S0 (rec:RT Out) (a1:Arg):((List Key)×Int)->Option Out:=fun J=>rec (T0 a1 J)
noncomputable def bt (K:KT Out) (a1:Arg):(List Key)->Option Out:=fun z=>K (.exit 0) ({ n:=82,sl:=[(1,.val (.U bd) a1.2.1),(5,.box aL (av aL) [] a1.2.2.1),(7,.own (.U aL) (au (.U aL)) [] z)],vr:=[],aw:=[] })
noncomputable def b0 (self:((List Key)×Int)->Option Out) (e0:(List Key)->Option Out) (a1:Arg) (J:(List Key)×Int):Option Out:=bif decide (J.2 < (a1.1.length:Int)) then (if 0<=J.2 then ((a1.1[J.2.toNat]?).bind fun aB=>if 0<=J.2 then ((a1.1[J.2.toNat]?).bind fun cM=>if J.1.length+[(aB.1,cM.2.1,())].length<=bk then (self (J.1++[(aB.1,cM.2.1,())],ae (J.2+(1:Int)))) else none) else none) else none) else e0 J.1
noncomputable abbrev B0 (_:Nat):=b0
theorem gc (k:Nat) (rec:RT Out) (K:KT Out) (a1:Arg) (J:(List Key)×Int):D.N k [1,1,0,1,0,0] (T0 a1 J) (dv rec (cu [0,1,5,7,8] []) K)=b0 (S0 rec a1) (bt K a1) a1 J:=by kernel_rfl
noncomputable def T1 (a1:Arg) (bV:(List Key)×Int):St:={ n:=82,sl:=[(1,.val (.U bd) a1.2.1),(5,.box aL (av aL) [] a1.2.2.1),(7,.own (.U aL) (au (.U aL)) [] bV.1),(9,.val i64 bV.2)],vr:=[],aw:=[] }
noncomputable def S1 (rec:RT Out) (a1:Arg):((List Key)×Int)->Option Out:=fun bV=>rec (T1 a1 bV)
noncomputable def dF (K:KT Out) (a1:Arg):(List Key)->Option Out:=fun z=>K (.exit 2) ({ n:=82,sl:=[(5,.box aL (av aL) [] a1.2.2.1),(7,.own (.U aL) (au (.U aL)) [] z)],vr:=[],aw:=[] })
noncomputable def b1 (self:((List Key)×Int)->Option Out) (e2:(List Key)->Option Out) (a1:Arg) (bV:(List Key)×Int):Option Out:=bif decide (bV.2 < (a1.2.1.length:Int)) then (if 0<=bV.2 then ((a1.2.1[bV.2.toNat]?).bind fun uu=>if bV.1.length+uu.2.2.2.1.length<=bk then (self (bV.1++uu.2.2.2.1,ae (bV.2+(1:Int)))) else none) else none) else e2 bV.1
noncomputable abbrev B1 (_:Nat):=b1
theorem mw (k:Nat) (rec:RT Out) (K:KT Out) (a1:Arg) (bV:(List Key)×Int):D.N k [1,1,1,0,1,0,0] (T1 a1 bV) (dv rec (cu [1,5,7,9] []) K)=b1 (S1 rec a1) (dF K a1) a1 bV:=by kernel_rfl
noncomputable def T2 (a1:Arg) (jn:(List Key)×Int×Int):St:={ n:=82,sl:=[(7,.own (.U aL) (au (.U aL)) [] jn.1),(10,.val i64 jn.2.1),(11,.val i64 jn.2.2)],vr:=[],aw:=[] }
noncomputable def S2 (rec:RT Out) (a1:Arg):((List Key)×Int×Int)->Option Out:=fun jn=>rec (T2 a1 jn)
noncomputable def Am (K:KT Out) (a1:Arg):Int->Option Out:=fun z=>K (.exit 4) ({ n:=82,sl:=[(10,.val i64 z)],vr:=[],aw:=[] })
noncomputable def T3 (a1:Arg) (lV:List Key) (ov:Int) (lW:Int) (mB:Bool×Int):St:={ n:=82,sl:=[(7,.own (.U aL) (au (.U aL)) [] lV),(10,.val i64 ov),(11,.val i64 lW),(12,.val .bool mB.1),(13,.val i64 mB.2)],vr:=[],aw:=[] }
noncomputable def b3 (self:(Bool×Int)->Option Out) (e6:Bool->Option Out) (a1:Arg) (lV:List Key) (ov:Int) (lW:Int) (mB:Bool×Int):Option Out:=bif decide (mB.2 < lW) then (bif mB.1 then (if 0<=mB.2/\mB.2 < (lV.length:Int) then ((lV[mB.2.toNat]?).bind fun Pi=>if 0<=lW/\lW < (lV.length:Int) then ((lV[lW.toNat]?).bind fun Pj=>self (!(Ty.eq aL Pi Pj),ae (mB.2+(1:Int)))) else none) else none) else e6 mB.1) else e6 mB.1
noncomputable abbrev B3 (_:Nat):=b3
noncomputable def q2 (self:((List Key)×Int×Int)->Option Out) (e4:Int->Option Out) (a1:Arg) (lV:List Key) (ov:Int) (lW:Int) (Pk:Bool):Option Out:=bif Pk then (self (lV,ae (ov+(1:Int)),ae (lW+(1:Int)))) else self (lV,ov,ae (lW+(1:Int)))
noncomputable abbrev Q2 (_:Nat):=q2
noncomputable def s3 (k:Nat) (rec:RT Out) (K:KT Out) (a1:Arg):(List Key)->Int->Int->(Bool×Int)->Option Out:=fun lV ov lW=>fun mB=>D.L k [1,1,1,1,1,1,0,1,0,0,1,0,0,1,0,1,0,0] [7,10,11,12,13] [] (af 6 (ap (D.N k [1,1,1,1,1,1,0,1,0,0,1,0,0,1,1]) (af 5 (ap (D.N k [1,1,1,1,1,1,0,1,0,0,1,1]) (dv rec (cu [7,10,11] []) K))))) (T3 a1 lV ov lW mB)
noncomputable def r3 (k:Nat) (self:((List Key)×Int×Int)->Option Out) (e4:Int->Option Out) (a1:Arg):(List Key)->Int->Int->(Bool×Int)->Option Out:=fun lV ov lW=>al (fun w v=>B3 k w (Q2 k self e4 a1 lV ov lW) a1 lV ov lW v) k
theorem G4 (k:Nat) (rec:RT Out) (K:KT Out) (a1:Arg):s3 k rec K a1=r3 k (S2 rec a1) (Am K a1) a1:=
 funext fun lV=>funext fun ov=>funext fun lW=>funext fun mB=>ao _ _ _ (T3 a1 lV ov lW) _ (fun rec v=>by kernel_rfl) k mB
noncomputable def b2 (self:((List Key)×Int×Int)->Option Out) (e4:Int->Option Out) (l3:(List Key)->Int->Int->(Bool×Int)->Option Out) (a1:Arg) (jn:(List Key)×Int×Int):Option Out:=bif decide (jn.2.2 < (jn.1.length:Int)) then (l3 jn.1 jn.2.1 jn.2.2 (true,(0:Int))) else e4 jn.2.1
noncomputable def B2 (k:Nat) (self:((List Key)×Int×Int)->Option Out) (e4:Int->Option Out) (a1:Arg) (jn:(List Key)×Int×Int):Option Out:=b2 self e4 (r3 k self e4 a1) a1 jn
theorem G5 (k:Nat) (rec:RT Out) (K:KT Out) (a1:Arg) (jn:(List Key)×Int×Int):D.N k [1,1,1,1,1,1,0,1,0,0] (T2 a1 jn) (dv rec (cu [7,10,11] []) K)=B2 k (S2 rec a1) (Am K a1) a1 jn:=
 Eq.trans (b:=b2 (S2 rec a1) (Am K a1) (s3 k rec K a1) a1 jn) (by kernel_rfl) (by rw[G4];rfl)
noncomputable def q3 (a1:Arg) (BM:Int):Option Out:=some (BM,())
noncomputable abbrev Q3 (_:Nat):=q3
theorem G6 (k:Nat) (a1:Arg) (BM:Int):Am (af 4 (ap (D.N k [1,1,1,1,1,1,1]) D.K0)) a1 BM=q3 a1 BM:=by kernel_rfl
noncomputable def s2 (k:Nat) (a1:Arg):((List Key)×Int×Int)->Option Out:=fun jn=>D.L k [1,1,1,1,1,1,0,1,0,0] [7,10,11] [] (af 4 (ap (D.N k [1,1,1,1,1,1,1]) D.K0)) (T2 a1 jn)
noncomputable def r2 (k:Nat) (a1:Arg):((List Key)×Int×Int)->Option Out:=al (fun w v=>B2 k w (Q3 k a1) a1 v) k
theorem ly (k:Nat) (a1:Arg):s2 k a1=r2 k a1:=by
 funext jn;
 have h4:Am (af 4 (ap (D.N k [1,1,1,1,1,1,1]) D.K0)) a1=Q3 k a1:=funext fun z=>G6 k a1 z
 refine (ao _ _ _ (T2 a1) (fun self v=>B2 k self (Am (af 4 (ap (D.N k [1,1,1,1,1,1,1]) D.K0)) a1) a1 v) (fun rec v=>G5 k rec (af 4 (ap (D.N k [1,1,1,1,1,1,1]) D.K0)) a1 v) k jn).trans ?_
 rw[h4]
 rfl
noncomputable def q1 (l2:((List Key)×Int×Int)->Option Out) (a1:Arg) (qW:(List Key)):Option Out:=let L9:=fun (Pm:List Key)=>(l2 (Pm,(0:Int),(0:Int)):Option Out);bif !decide (a1.2.2.1.2.1=(0:Int)) then (if qW.length+[a1.2.2.1].length<=bk then (L9 (qW++[a1.2.2.1])) else none) else L9 qW
noncomputable def Q1 (k:Nat) (a1:Arg) (qW:(List Key)):Option Out:=q1 (r2 k a1) a1 qW
theorem my (k:Nat) (a1:Arg) (qW:(List Key)):dF (af 2 (ap (D.N k [1,1,1,1]) D.K0)) a1 qW=Q1 k a1 qW:=
 Eq.trans (b:=q1 (s2 k a1) a1 qW) (by kernel_rfl) (by rw[ly];rfl)
noncomputable def s1 (k:Nat) (a1:Arg):((List Key)×Int)->Option Out:=fun bV=>D.L k [1,1,1,0,1,0,0] [1,5,7,9] [] (af 2 (ap (D.N k [1,1,1,1]) D.K0)) (T1 a1 bV)
noncomputable def r1 (k:Nat) (a1:Arg):((List Key)×Int)->Option Out:=al (fun w v=>B1 k w (Q1 k a1) a1 v) k
theorem gd (k:Nat) (a1:Arg):s1 k a1=r1 k a1:=by
 funext bV;
 have Y:dF (af 2 (ap (D.N k [1,1,1,1]) D.K0)) a1=Q1 k a1:=funext fun z=>my k a1 z
 refine (ao _ _ _ (T1 a1) (fun self v=>B1 k self (dF (af 2 (ap (D.N k [1,1,1,1]) D.K0)) a1) a1 v) (fun rec v=>mw k rec (af 2 (ap (D.N k [1,1,1,1]) D.K0)) a1 v) k bV).trans ?_
 rw[Y]
 rfl
noncomputable def q0 (l1:((List Key)×Int)->Option Out) (a1:Arg) (bY:(List Key)):Option Out:=l1 (bY,(0:Int))
noncomputable def Q0 (k:Nat) (a1:Arg) (bY:(List Key)):Option Out:=q0 (r1 k a1) a1 bY
theorem lz (k:Nat) (a1:Arg) (bY:(List Key)):bt (af 0 (ap (D.N k [1,1,1]) D.K0)) a1 bY=Q0 k a1 bY:=
 Eq.trans (b:=q0 (s1 k a1) a1 bY) (by kernel_rfl) (by rw[gd];rfl)
noncomputable def s0 (k:Nat) (a1:Arg):((List Key)×Int)->Option Out:=fun J=>D.L k [1,1,0,1,0,0] [0,1,5,7,8] [] (af 0 (ap (D.N k [1,1,1]) D.K0)) (T0 a1 J)
noncomputable def r0 (k:Nat) (a1:Arg):((List Key)×Int)->Option Out:=al (fun w v=>B0 k w (Q0 k a1) a1 v) k
theorem aq (k:Nat) (a1:Arg):s0 k a1=r0 k a1:=by
 funext J;
 have h0:bt (af 0 (ap (D.N k [1,1,1]) D.K0)) a1=Q0 k a1:=funext fun z=>lz k a1 z
 refine (ao _ _ _ (T0 a1) (fun self v=>B0 k self (bt (af 0 (ap (D.N k [1,1,1]) D.K0)) a1) a1 v) (fun rec v=>gc k rec (af 0 (ap (D.N k [1,1,1]) D.K0)) a1 v) k J).trans ?_
 rw[h0]
 rfl
noncomputable def p (l0:((List Key)×Int)->Option Out) (a1:Arg):Option Out:=l0 (([]:List Key),(0:Int))
theorem aa (k:Nat) (a1:Arg):@Eq (Option Out) (D.W k a1) (p (r0 k a1) a1):=
 Eq.trans (b:=p (s0 k a1) a1) (by kernel_rfl) (by rw[aq])
theorem ok:Ok prog 104 D.sig:=am func104 ay (by kernel_rfl) (ai _)
end aQ
namespace dW
abbrev Arg:Type:=(List Change)×Unit
abbrev Out:Type:=(List Change)×Unit
abbrev ps:PQ:=[(.ro,(.U an))]
noncomputable def D:FD:={ fn:=f190,tl:=aE,ps:=ps,rs:=[((.U an),(au (.U an)))],lv:=[(3,[0,3,4])],lx:=[(0,[3])] }
noncomputable def ab (a:Arg):Option Out:=@lift Out fun k=>D.W k a
noncomputable def T0 (a1:Arg) (J:(List Change)×Int):St:={ n:=31,sl:=[(0,.val (.U an) a1.1),(3,.own (.U an) (au (.U an)) [] J.1),(4,.val i64 J.2)],vr:=[],aw:=[] }
noncomputable def b0 (self:((List Change)×Int)->Option Out) (e0:(List Change)->Option Out) (a1:Arg) (J:(List Change)×Int):Option Out:=bif decide ((0:Int)<=J.2) then (if 0<=J.2 then ((a1.1[J.2.toNat]?).bind fun aB=>if J.1.length+[(aB.2.2.1,aB.2.2.2.1,aB.1,aB.2.1,())].length<=bk then (let we:=J.1++[(aB.2.2.1,aB.2.2.2.1,aB.1,aB.2.1,())];self (we,ae (J.2 - (1:Int)))) else none) else none) else e0 J.1
noncomputable abbrev B0 (_:Nat):=b0
noncomputable def q0 (a1:Arg) (bY:(List Change)):Option Out:=some (bY,())
noncomputable abbrev Q0 (_:Nat):=q0
noncomputable def s0 (k:Nat) (a1:Arg):((List Change)×Int)->Option Out:=fun J=>D.L k [1,1,0,1,0,0] [0,3,4] [] (af 0 (ap (D.N k [1,1,1]) D.K0)) (T0 a1 J)
noncomputable def r0 (k:Nat) (a1:Arg):((List Change)×Int)->Option Out:=al (fun w v=>B0 k w (Q0 k a1) a1 v) k
theorem aq (k:Nat) (a1:Arg):s0 k a1=r0 k a1:=
 funext fun J=>ao _ _ _ (T0 a1) _ (fun rec v=>by kernel_rfl) k J
noncomputable def p (l0:((List Change)×Int)->Option Out) (a1:Arg):Option Out:=l0 (([]:List Change),ae ((a1.1.length:Int) - (1:Int)))
theorem aa (k:Nat) (a1:Arg):@Eq (Option Out) (D.W k a1) (p (r0 k a1) a1):=
 Eq.trans (b:=p (s0 k a1) a1) (by kernel_rfl) (by rw[aq])
theorem ok:Ok prog 190 D.sig:=am func190 ay (by kernel_rfl) (ai _)
end dW
namespace fW
abbrev Arg:Type:=(List Row)×Int×Int×Unit
abbrev Out:Type:=Int×Unit
abbrev ps:PQ:=[(.ro,(.U aF)),(.ro,i64),(.ro,i64)]
noncomputable def D:FD:={ fn:=f206,tl:=aE,ps:=ps,rs:=[(i64,(av i64))],lv:=[(2,[0,1,2,7])],lx:=[(0,[])] }
noncomputable def ab (a:Arg):Option Out:=@lift Out fun k=>D.W k a
noncomputable def T0 (a1:Arg) (J:Int):St:={ n:=31,sl:=[(0,.val (.U aF) a1.1),(1,.val i64 a1.2.1),(2,.val i64 a1.2.2.1),(7,.val i64 J)],vr:=[],aw:=[] }
noncomputable def b0 (self:Int->Option Out) (e0:(Unit)->Option Out) (a1:Arg) (J:Int):Option Out:=bif decide (J < (a1.1.length:Int)) then (if 0<=J then ((a1.1[J.toNat]?).bind fun aB=>bif decide (aB.1=a1.2.1) then (if 0<=J then ((a1.1[J.toNat]?).bind fun cM=>bif decide (cM.2.1=a1.2.2.1) then (some (J,())) else self (ae (J+(1:Int)))) else none) else self (ae (J+(1:Int)))) else none) else e0 ()
noncomputable abbrev B0 (_:Nat):=b0
noncomputable def q0 (a1:Arg) (bY:(Unit)):Option Out:=some ((-1:Int),())
noncomputable abbrev Q0 (_:Nat):=q0
noncomputable def s0 (k:Nat) (a1:Arg):(Int)->Option Out:=fun J=>D.L k [1,0,1,0,0] [0,1,2,7] [] (af 0 (ap (D.N k [1,1]) D.K0)) (T0 a1 J)
noncomputable def r0 (k:Nat) (a1:Arg):(Int)->Option Out:=al (fun w v=>B0 k w (Q0 k a1) a1 v) k
theorem aq (k:Nat) (a1:Arg):s0 k a1=r0 k a1:=
 funext fun J=>ao _ _ _ (T0 a1) _ (fun rec v=>by kernel_rfl) k J
noncomputable def p (l0:(Int)->Option Out) (a1:Arg):Option Out:=l0 (0:Int)
theorem aa (k:Nat) (a1:Arg):@Eq (Option Out) (D.W k a1) (p (r0 k a1) a1):=
 Eq.trans (b:=p (s0 k a1) a1) (by kernel_rfl) (by rw[aq])
theorem ok:Ok prog 206 D.sig:=am func206 ay (by kernel_rfl) (ai _)
end fW
namespace fX
abbrev Arg:Type:=(List Row)×Change×Unit
abbrev Out:Type:=(List Row)×Bool×Unit
abbrev ps:PQ:=[(.ro,(.U aF)),(.ro,(.ptr an))]
noncomputable def D:FD:={ fn:=f191,tl:=aE,ps:=ps,rs:=[((.U aF),(au (.U aF))),(.bool,(av .bool))],gl:=[(101,eg.D.sig),(162,fG.D.sig),(206,fW.D.sig)],lv:=[(7,[0,1,8,9,10])],lx:=[(0,[1,9])],od:=[(3,[0,1,2,3,4,5,6,7,8,9,10,11,12,13,14,15,16,17,18,19,20,21])] }
noncomputable def ab (a:Arg):Option Out:=@lift Out fun k=>D.W k a
noncomputable def T0 (a1:Arg) (iE:Int) (cS:(List Row)×Int):St:={ n:=70,sl:=[(0,.val (.U aF) a1.1),(1,.cp an a1.2.1),(8,.val i64 iE),(9,.own (.U aF) (au (.U aF)) [] cS.1),(10,.val i64 cS.2)],vr:=[],aw:=[] }
noncomputable def b0 (self:((List Row)×Int)->Option Out) (e0:(List Row)->Option Out) (a1:Arg) (iE:Int) (cS:(List Row)×Int):Option Out:=bif decide (cS.2 < (a1.1.length:Int)) then (bif !decide (cS.2=iE) then (if 0<=cS.2 then ((a1.1[cS.2.toNat]?).bind fun wX=>if cS.1.length+[wX].length<=bk then (self (cS.1++[wX],ae (cS.2+(1:Int)))) else none) else none) else self (cS.1,ae (cS.2+(1:Int)))) else e0 cS.1
noncomputable abbrev B0 (_:Nat):=b0
noncomputable def q0 (a1:Arg) (iE:Int) (L_:(List Row)):Option Out:=bif a1.2.1.2.2.1 then ((eg.ab (L_,a1.2.1.2.2.2.1,())).bind fun zh=>some (zh.1,true,())) else some (L_,true,())
noncomputable abbrev Q0 (_:Nat):=q0
noncomputable def s0 (k:Nat) (a1:Arg):Int->((List Row)×Int)->Option Out:=fun iE=>fun cS=>D.L k [1,1,1,1,1,0,1,0,0] [0,1,8,9,10] [] (af 0 (ap (D.N k [1,1,1,1,1,1]) D.K0)) (T0 a1 iE cS)
noncomputable def r0 (k:Nat) (a1:Arg):Int->((List Row)×Int)->Option Out:=fun iE=>al (fun w v=>B0 k w (Q0 k a1 iE) a1 iE v) k
theorem aq (k:Nat) (a1:Arg):s0 k a1=r0 k a1:=
 funext fun iE=>funext fun cS=>ao _ _ _ (T0 a1 iE) _ (fun rec v=>by kernel_rfl) k cS
noncomputable def p (l0:Int->((List Row)×Int)->Option Out) (a1:Arg):Option Out:=(fG.ab (a1.2.1,())).bind fun r2=>(fW.ab (a1.1,r2.1,r2.2.1,())).bind fun r3=>let Dh:Option Out:=l0 r3.1 (([]:List Row),(0:Int));bif !(a1.2.1.1 == (decide ((0:Int)<=r3.1))) then (some (([]:List Row),false,())) else bif decide ((0:Int)<=r3.1) then (if 0<=r3.1 then ((a1.1[r3.1.toNat]?).bind fun x4=>bif !(Ty.eq aF x4 a1.2.1.2.1) then (some (([]:List Row),false,())) else Dh) else none) else Dh
theorem aa (k:Nat) (a1:Arg):@Eq (Option Out) (D.W k a1) (p (r0 k a1) a1):=
 Eq.trans (b:=p (s0 k a1) a1) (by kernel_rfl) (by rw[aq])
theorem ok:Ok prog 191 D.sig:=am func191 ay (by kernel_rfl) (fc eg.ok (fc fG.ok (fc fW.ok (ai _))))
end fX
namespace fh
abbrev Arg:Type:=(List Row)×(List Change)×Unit
abbrev Out:Type:=(List Row)×Bool×Unit
abbrev ps:PQ:=[(.ro,(.U aF)),(.ro,(.U an))]
noncomputable def D:FD:={ fn:=f154,tl:=aE,ps:=ps,rs:=[((.U aF),(av (.U aF))),(.bool,(av .bool))],gl:=[(190,dW.D.sig),(191,fX.D.sig)],lv:=[(3,[0,6,7])],lx:=[(0,[0])],lf:=[(3,[(0,(.U false (.pair .leaf (.pair .leaf (.pair .leaf (.pair .leaf .leaf))))))])] }
noncomputable def ab (a:Arg):Option Out:=@lift Out fun k=>D.W k a
noncomputable def T0 (a1:Arg) (ff:List Change) (aN:(List Row)×Int):St:={ n:=30,sl:=[(0,.val (.U aF) aN.1),(6,.own (.U an) (au (.U an)) [] ff),(7,.val i64 aN.2)],vr:=[],aw:=[] }
noncomputable def b0 (self:((List Row)×Int)->Option Out) (e0:(List Row)->Option Out) (a1:Arg) (ff:List Change) (aN:(List Row)×Int):Option Out:=bif decide (aN.2 < (ff.length:Int)) then (if 0<=aN.2/\aN.2 < (ff.length:Int) then ((ff[aN.2.toNat]?).bind fun cW=>(fX.ab (aN.1,cW,())).bind fun jk=>bif !jk.2.1 then (some (([]:List Row),false,())) else self (jk.1,ae (aN.2+(1:Int)))) else none) else e0 aN.1
noncomputable abbrev B0 (_:Nat):=b0
noncomputable def q0 (a1:Arg) (ff:List Change) (gP:(List Row)):Option Out:=some (gP,true,())
noncomputable abbrev Q0 (_:Nat):=q0
noncomputable def s0 (k:Nat) (a1:Arg):(List Change)->((List Row)×Int)->Option Out:=fun ff=>fun aN=>D.L k [1,1,0,1,0,0] [0,6,7] [(0,(.U false (.pair .leaf (.pair .leaf (.pair .leaf (.pair .leaf .leaf))))))] (af 0 (ap (D.N k [1,1,1]) D.K0)) (T0 a1 ff aN)
noncomputable def r0 (k:Nat) (a1:Arg):(List Change)->((List Row)×Int)->Option Out:=fun ff=>al (fun w v=>B0 k w (Q0 k a1 ff) a1 ff v) k
theorem aq (k:Nat) (a1:Arg):s0 k a1=r0 k a1:=
 funext fun ff=>funext fun aN=>ao _ _ _ (T0 a1 ff) _ (fun rec v=>by kernel_rfl) k aN
noncomputable def p (l0:(List Change)->((List Row)×Int)->Option Out) (a1:Arg):Option Out:=(dW.ab (a1.2.1,())).bind fun r2=>l0 r2.1 (a1.1,(0:Int))
theorem aa (k:Nat) (a1:Arg):@Eq (Option Out) (D.W k a1) (p (r0 k a1) a1):=
 Eq.trans (b:=p (s0 k a1) a1) (by kernel_rfl) (by rw[aq])
theorem ok:Ok prog 154 D.sig:=am func154 ay (by kernel_rfl) (fc dW.ok (fc fX.ok (ai _)))
end fh
namespace fi
abbrev Arg:Type:=(List Row)×(List Tx)×Unit
abbrev Out:Type:=(List Row)×Bool×Unit
abbrev ps:PQ:=[(.ro,(.U aF)),(.ro,(.U bd))]
noncomputable def D:FD:={ fn:=f105,tl:=aE,ps:=ps,rs:=[((.U aF),(av (.U aF))),(.bool,(av .bool))],gl:=[(154,fh.D.sig)],lv:=[(3,[1,6,7])],lx:=[(0,[6])],lf:=[(3,[(6,(.U false (.pair .leaf (.pair .leaf (.pair .leaf (.pair .leaf .leaf))))))])] }
noncomputable def ab (a:Arg):Option Out:=@lift Out fun k=>D.W k a
noncomputable def T0 (a1:Arg) (J:(List Row)×Int):St:={ n:=33,sl:=[(1,.val (.U bd) a1.2.1),(6,.val (.U aF) J.1),(7,.val i64 J.2)],vr:=[],aw:=[] }
noncomputable def b0 (self:((List Row)×Int)->Option Out) (e0:(List Row)->Option Out) (a1:Arg) (J:(List Row)×Int):Option Out:=bif decide (J.2 < (a1.2.1.length:Int)) then (if 0<=J.2 then ((a1.2.1[J.2.toNat]?).bind fun aB=>(fh.ab (J.1,aB.2.1,())).bind fun bs=>bif !bs.2.1 then (some (([]:List Row),false,())) else self (bs.1,ae (J.2+(1:Int)))) else none) else e0 J.1
noncomputable abbrev B0 (_:Nat):=b0
noncomputable def q0 (a1:Arg) (bY:(List Row)):Option Out:=some (bY,true,())
noncomputable abbrev Q0 (_:Nat):=q0
noncomputable def s0 (k:Nat) (a1:Arg):((List Row)×Int)->Option Out:=fun J=>D.L k [1,1,0,1,0,0] [1,6,7] [(6,(.U false (.pair .leaf (.pair .leaf (.pair .leaf (.pair .leaf .leaf))))))] (af 0 (ap (D.N k [1,1,1]) D.K0)) (T0 a1 J)
noncomputable def r0 (k:Nat) (a1:Arg):((List Row)×Int)->Option Out:=al (fun w v=>B0 k w (Q0 k a1) a1 v) k
theorem aq (k:Nat) (a1:Arg):s0 k a1=r0 k a1:=
 funext fun J=>ao _ _ _ (T0 a1) _ (fun rec v=>by kernel_rfl) k J
noncomputable def p (l0:((List Row)×Int)->Option Out) (a1:Arg):Option Out:=if ([]:List Row).length+a1.1.length<=bk then (l0 (([]:List Row)++a1.1,(0:Int))) else none
theorem aa (k:Nat) (a1:Arg):@Eq (Option Out) (D.W k a1) (p (r0 k a1) a1):=
 Eq.trans (b:=p (s0 k a1) a1) (by kernel_rfl) (by rw[aq])
theorem ok:Ok prog 105 D.sig:=am func105 ay (by kernel_rfl) (fc fh.ok (ai _))
end fi
namespace i_
abbrev Arg:Type:=Plain×Unit
abbrev Out:Type:=Int×Unit
abbrev ps:PQ:=[(.ro,(.ptr tu))]
noncomputable def D:FD:={ fn:=f58,tl:=aE,ps:=ps,rs:=[(i64,(av i64))],gl:=[(55,aI.D.sig),(102,ep.D.sig),(103,df.D.sig),(104,aQ.D.sig),(105,fi.D.sig)],od:=[(8,[0,1,2,3,4,5,6,7,8,9,10,11,12,13,14,15,16,17,18,19,20,21,22,23,24,25]),(10,[0,1,2,3,4,5,6,7,8,9,10]),(12,[0,1,2,3,4,5,6,7,8,9,10,11,12,13])],ar:=[(8,[3,13,18,22])] }
noncomputable def ab (a:Arg):Option Out:=@lift Out fun k=>D.W k a
noncomputable def p (a1:Arg):Option Out:=(ep.ab (a1.1.1,())).bind fun r2=>bif !decide (r2.1=(0:Int)) then (some (r2.1,())) else (df.ab (a1.1.2.1,())).bind fun r3=>bif !decide (r3.1=(0:Int)) then (some (r3.1,())) else let j8:Option Out:=(aQ.ab (a1.1.1,a1.1.2.1,((0:Int),(0:Int),()),())).bind fun r9=>bif decide ((12:Int) < r9.1) then (some ((2:Int),())) else (fi.ab (a1.1.1,a1.1.2.1,())).bind fun Jd=>bif !Jd.2.1 then (some ((8:Int),())) else some ((0:Int),());(aI.ab (a1.1.2.2.1,(1:Int),(100:Int),())).bind fun r4=>bif !r4.1 then (some ((3:Int),())) else bif decide ((0:Int) < (a1.1.2.1.length:Int)) then (if 0<=ae ((a1.1.2.1.length:Int) - (1:Int)) then ((a1.1.2.1[(ae ((a1.1.2.1.length:Int) - (1:Int))).toNat]?).bind fun x5=>bif decide (a1.1.2.2.1<=x5.1) then (some ((3:Int),())) else j8) else none) else j8
theorem aa (k:Nat) (a1:Arg):@Eq (Option Out) (D.W k a1) (p a1):=by kernel_rfl
theorem ok:Ok prog 58 D.sig:=am func58 ay (by kernel_rfl) (fc aI.ok (fc ep.ok (fc df.ok (fc aQ.ok (fc fi.ok (ai _))))))
end i_
namespace jI
abbrev Arg:Type:=Int×Unit
abbrev Out:Type:=sZ×Unit
abbrev ps:PQ:=[(.ro,i64)]
noncomputable def D:FD:={ fn:=f155,tl:=aE,ps:=ps,rs:=[(k8,(au k8))] }
noncomputable def ab (a:Arg):Option Out:=@lift Out fun k=>D.W k a
noncomputable def p (a1:Arg):Option Out:=some ((a1.1,([]:List cR),([]:List (List UInt8)),()),())
theorem aa (k:Nat) (a1:Arg):@Eq (Option Out) (D.W k a1) (p a1):=by kernel_rfl
theorem ok:Ok prog 155 D.sig:=am func155 ay (by kernel_rfl) (ai _)
end jI
namespace gF
abbrev Arg:Type:=(List (List UInt8))×Unit
abbrev Out:Type:=(List (List UInt8))×Unit
abbrev ps:PQ:=[(.ro,(.U (.U u8)))]
noncomputable def D:FD:={ fn:=f157,tl:=aE,ps:=ps,rs:=[((.U (.U u8)),(au (.U (.U u8))))],gl:=[(107,dC.D.sig)],lv:=[(3,[0,3,4])],lx:=[(0,[3])] }
noncomputable def ab (a:Arg):Option Out:=@lift Out fun k=>D.W k a
noncomputable def T0 (a1:Arg) (J:(List (List UInt8))×Int):St:={ n:=21,sl:=[(0,.val (.U (.U u8)) a1.1),(3,.own (.U (.U u8)) (au (.U (.U u8))) [] J.1),(4,.val i64 J.2)],vr:=[],aw:=[] }
noncomputable def b0 (self:((List (List UInt8))×Int)->Option Out) (e0:(List (List UInt8))->Option Out) (a1:Arg) (J:(List (List UInt8))×Int):Option Out:=bif decide (J.2 < (a1.1.length:Int)) then (if 0<=J.2 then ((a1.1[J.2.toNat]?).bind fun aB=>(dC.ab (aB,())).bind fun bs=>if J.1.length+[bs.1].length<=bk then (self (J.1++[bs.1],ae (J.2+(1:Int)))) else none) else none) else e0 J.1
noncomputable abbrev B0 (_:Nat):=b0
noncomputable def q0 (a1:Arg) (bY:(List (List UInt8))):Option Out:=some (bY,())
noncomputable abbrev Q0 (_:Nat):=q0
noncomputable def s0 (k:Nat) (a1:Arg):((List (List UInt8))×Int)->Option Out:=fun J=>D.L k [1,1,0,1,0,0] [0,3,4] [] (af 0 (ap (D.N k [1,1,1]) D.K0)) (T0 a1 J)
noncomputable def r0 (k:Nat) (a1:Arg):((List (List UInt8))×Int)->Option Out:=al (fun w v=>B0 k w (Q0 k a1) a1 v) k
theorem aq (k:Nat) (a1:Arg):s0 k a1=r0 k a1:=
 funext fun J=>ao _ _ _ (T0 a1) _ (fun rec v=>by kernel_rfl) k J
noncomputable def p (l0:((List (List UInt8))×Int)->Option Out) (a1:Arg):Option Out:=l0 (([]:List (List UInt8)),(0:Int))
theorem aa (k:Nat) (a1:Arg):@Eq (Option Out) (D.W k a1) (p (r0 k a1) a1):=
 Eq.trans (b:=p (s0 k a1) a1) (by kernel_rfl) (by rw[aq])
theorem ok:Ok prog 157 D.sig:=am func157 ay (by kernel_rfl) (fc dC.ok (ai _))
end gF
namespace gJ
abbrev Arg:Type:=UInt8×Unit
abbrev Out:Type:=(List UInt8)×Unit
abbrev ps:PQ:=[(.ro,u8)]
noncomputable def D:FD:={ fn:=f159,tl:=aE,ps:=ps,rs:=[((.U u8),(au (.U u8)))],lv:=[(3,[0,3,4])],lx:=[(0,[3])] }
noncomputable def ab (a:Arg):Option Out:=@lift Out fun k=>D.W k a
noncomputable def T0 (a1:Arg) (J:(List UInt8)×Int):St:={ n:=19,sl:=[(0,.val u8 a1.1),(3,.own (.U u8) (au (.U u8)) [] J.1),(4,.val i64 J.2)],vr:=[],aw:=[] }
noncomputable def b0 (self:((List UInt8)×Int)->Option Out) (e0:(List UInt8)->Option Out) (a1:Arg) (J:(List UInt8)×Int):Option Out:=bif decide (J.2 < (64:Int)) then (if 0<=J.2/\J.2 < (J.1.length:Int) then ((J.1[J.2.toNat]?).bind fun aB=>self (J.1.set J.2.toNat a1.1,ae (J.2+(1:Int)))) else none) else e0 J.1
noncomputable abbrev B0 (_:Nat):=b0
noncomputable def q0 (a1:Arg) (kj:(List UInt8)):Option Out:=if 0<=(0:Int)/\(0:Int) < (kj.length:Int) then ((kj[0]?).bind fun cW=>if 0<=(1:Int)/\(1:Int) < ((kj.set 0 (0:UInt8)).length:Int) then (((kj.set 0 (0:UInt8))[1]?).bind fun n7=>let wd:=(kj.set 0 (0:UInt8)).set 1 (64:UInt8);some (wd,())) else none) else none
noncomputable abbrev Q0 (_:Nat):=q0
noncomputable def s0 (k:Nat) (a1:Arg):((List UInt8)×Int)->Option Out:=fun J=>D.L k [1,1,0,1,0,0] [0,3,4] [] (af 0 (ap (D.N k [1,1,1]) D.K0)) (T0 a1 J)
noncomputable def r0 (k:Nat) (a1:Arg):((List UInt8)×Int)->Option Out:=al (fun w v=>B0 k w (Q0 k a1) a1 v) k
theorem aq (k:Nat) (a1:Arg):s0 k a1=r0 k a1:=
 funext fun J=>ao _ _ _ (T0 a1) _ (fun rec v=>by kernel_rfl) k J
noncomputable def p (l0:((List UInt8)×Int)->Option Out) (a1:Arg):Option Out:=if 0<=(64:Int)/\(64:Int)<=(64:Int)/\(64:Int)<=(bk:Int) then (l0 (List.replicate 64 (0:UInt8),(0:Int))) else none
theorem aa (k:Nat) (a1:Arg):@Eq (Option Out) (D.W k a1) (p (r0 k a1) a1):=
 Eq.trans (b:=p (s0 k a1) a1) (by kernel_rfl) (by rw[aq])
theorem ok:Ok prog 159 D.sig:=am func159 ay (by kernel_rfl) (ai _)
end gJ
namespace eI
abbrev Arg:Type:=(List UInt8)×(List cR)×Unit
abbrev Out:Type:=(List UInt8)×Unit
abbrev ps:PQ:=[(.ro,(.U u8)),(.ro,(.U pP))]
noncomputable def D:FD:={ fn:=f160,tl:=aE,ps:=ps,rs:=[((.U u8),(au (.U u8)))],gl:=[(107,dC.D.sig)],lv:=[(3,[1,5,6])],lx:=[(0,[5])],od:=[(5,[0,1,2,3,4,5,6,7,8,9,10,11,12])] }
noncomputable def ab (a:Arg):Option Out:=@lift Out fun k=>D.W k a
noncomputable def T0 (a1:Arg) (aN:(List UInt8)×Int):St:={ n:=29,sl:=[(1,.val (.U pP) a1.2.1),(5,.own (.U u8) (au (.U u8)) [] aN.1),(6,.val i64 aN.2)],vr:=[],aw:=[] }
noncomputable def b0 (self:((List UInt8)×Int)->Option Out) (e0:(List UInt8)->Option Out) (a1:Arg) (aN:(List UInt8)×Int):Option Out:=bif decide (aN.2 < (a1.2.1.length:Int)) then (if 0<=aN.2 then ((a1.2.1[aN.2.toNat]?).bind fun cM=>if 0<=cM.1/\cM.1<=(aN.1.length:Int) then (if 0<=aN.2 then ((a1.2.1[aN.2.toNat]?).bind fun cW=>let wc:=lN aN.1 cM.1.toNat (min cW.2.1.length (aN.1.length - cM.1.toNat)) cW.2.1;self (wc,ae (aN.2+(1:Int)))) else none) else none) else none) else e0 aN.1
noncomputable abbrev B0 (_:Nat):=b0
noncomputable def q0 (a1:Arg) (gP:(List UInt8)):Option Out:=some (gP,())
noncomputable abbrev Q0 (_:Nat):=q0
noncomputable def s0 (k:Nat) (a1:Arg):((List UInt8)×Int)->Option Out:=fun aN=>D.L k [1,1,0,1,0,0] [1,5,6] [] (af 0 (ap (D.N k [1,1,1]) D.K0)) (T0 a1 aN)
noncomputable def r0 (k:Nat) (a1:Arg):((List UInt8)×Int)->Option Out:=al (fun w v=>B0 k w (Q0 k a1) a1 v) k
theorem aq (k:Nat) (a1:Arg):s0 k a1=r0 k a1:=
 funext fun aN=>ao _ _ _ (T0 a1) _ (fun rec v=>by kernel_rfl) k aN
noncomputable def p (l0:((List UInt8)×Int)->Option Out) (a1:Arg):Option Out:=(dC.ab (a1.1,())).bind fun r2=>l0 (r2.1,(0:Int))
theorem aa (k:Nat) (a1:Arg):@Eq (Option Out) (D.W k a1) (p (r0 k a1) a1):=
 Eq.trans (b:=p (s0 k a1) a1) (by kernel_rfl) (by rw[aq])
theorem ok:Ok prog 160 D.sig:=am func160 ay (by kernel_rfl) (fc dC.ok (ai _))
end eI
namespace b_
abbrev Arg:Type:=(List (List UInt8))×aO×Unit
abbrev Out:Type:=sZ×Unit
abbrev ps:PQ:=[(.ro,(.U (.U u8))),(.ro,cb)]
noncomputable def D:FD:={ fn:=f106,tl:=aE,ps:=ps,rs:=[(k8,(au k8))],gl:=[(155,jI.D.sig),(156,gw.D.sig),(157,gF.D.sig),(158,gE.D.sig),(159,gJ.D.sig),(160,eI.D.sig)],lv:=[(4,[0,3,4,5])],lx:=[(0,[0,3,4])],od:=[(20,[0,1,2,3,4,5,6]),(21,[0,1,2,3,4,5,6,7,8,9,10,11,12,13,14])] }
noncomputable def ab (a:Arg):Option Out:=@lift Out fun k=>D.W k a
noncomputable def T0 (a1:Arg) (aN:Int):St:={ n:=75,sl:=[(0,.val (.U (.U u8)) a1.1),(3,.box cb (av cb) [] a1.2.1),(4,.box k8 (au k8) [] ((0:Int),([]:List cR),([]:List (List UInt8)),())),(5,.val i64 aN)],vr:=[],aw:=[] }
noncomputable def b0 (self:Int->Option Out) (e0:(Unit)->Option Out) (a1:Arg) (aN:Int):Option Out:=bif decide (aN < (a1.1.length:Int)) then (if 0<=aN then ((a1.1[aN.toNat]?).bind fun cM=>bif !decide ((cM.length:Int)=(64:Int)) then ((jI.ab ((1:Int),())).bind fun fY=>some (fY.1,())) else self (ae (aN+(1:Int)))) else none) else e0 ()
noncomputable abbrev B0 (_:Nat):=b0
noncomputable def q0 (a1:Arg) (jl:(Unit)):Option Out:=(gw.ab (a1.2.1,())).bind fun gx=>bif !decide (gx.1=(0:Int)) then ((jI.ab (gx.1,())).bind fun wg=>some (wg.1,())) else (gF.ab (a1.1,())).bind fun qC=>(gE.ab (a1.2.1.1,())).bind fun uq=>bif !uq.1 then (some (((0:Int),([]:List cR),qC.1,()),())) else bif decide ((a1.1.length:Int) < a1.2.1.2.2.1) then ((jI.ab ((1:Int),())).bind fun Rp=>some (Rp.1,())) else bif decide (a1.2.1.2.2.1=(12:Int)) then ((jI.ab ((2:Int),())).bind fun KE=>some (KE.1,())) else let Oq:=fun (ux:sZ)=>(if 0<=a1.2.1.2.2.1/\a1.2.1.2.2.1 < (ux.2.2.1.length:Int) then ((ux.2.2.1[a1.2.1.2.2.1.toNat]?).bind fun Rq=>(ux.2.2.1[a1.2.1.2.2.1.toNat]?).bind fun KF=>(eI.ab (KF,a1.2.1.2.2.2.1,())).bind fun KG=>if 0<=a1.2.1.2.2.1/\a1.2.1.2.2.1 < (ux.2.2.1.length:Int) then ((ux.2.2.1[a1.2.1.2.2.1.toNat]?).bind fun Rr=>some ((ux.1,ux.2.1,ux.2.2.1.set a1.2.1.2.2.1.toNat KG.1,ux.2.2.2),())) else none) else none:Option Out);bif decide (a1.2.1.2.2.1=(a1.1.length:Int)) then ((gJ.ab ((0:UInt8),())).bind fun G3=>if qC.1.length+[G3.1].length<=bk then (Oq ((0:Int),([]:List cR),qC.1++[G3.1],())) else none) else Oq ((0:Int),([]:List cR),qC.1,())
noncomputable abbrev Q0 (_:Nat):=q0
noncomputable def s0 (k:Nat) (a1:Arg):(Int)->Option Out:=fun aN=>D.L k [1,1,0,1,0,0] [0,3,4,5] [] (af 0 (ap (D.N k [1,1,1]) D.K0)) (T0 a1 aN)
noncomputable def r0 (k:Nat) (a1:Arg):(Int)->Option Out:=al (fun w v=>B0 k w (Q0 k a1) a1 v) k
theorem aq (k:Nat) (a1:Arg):s0 k a1=r0 k a1:=
 funext fun aN=>ao _ _ _ (T0 a1) _ (fun rec v=>by kernel_rfl) k aN
noncomputable def p (l0:(Int)->Option Out) (a1:Arg):Option Out:=bif decide ((12:Int) < (a1.1.length:Int)) then ((jI.ab ((2:Int),())).bind fun r2=>some (r2.1,())) else l0 (0:Int)
theorem aa (k:Nat) (a1:Arg):@Eq (Option Out) (D.W k a1) (p (r0 k a1) a1):=
 Eq.trans (b:=p (s0 k a1) a1) (by kernel_rfl) (by rw[aq])
theorem ok:Ok prog 106 D.sig:=am func106 ay (by kernel_rfl) (fc jI.ok (fc gw.ok (fc gF.ok (fc gE.ok (fc gJ.ok (fc eI.ok (ai _)))))))
end b_
namespace fS
abbrev Arg:Type:=(List aO)×Unit
abbrev Out:Type:=(List (List UInt8))×Int×Unit
abbrev ps:PQ:=[(.ro,(.U cb))]
noncomputable def D:FD:={ fn:=f59,tl:=aE,ps:=ps,rs:=[((.U (.U u8)),(au (.U (.U u8)))),(i64,(av i64))],gl:=[(106,b_.D.sig)],lv:=[(3,[0,4,5])],lx:=[(0,[4])],od:=[(7,[0,1,2,3])] }
noncomputable def ab (a:Arg):Option Out:=@lift Out fun k=>D.W k a
noncomputable def T0 (a1:Arg) (J:(List (List UInt8))×Int):St:={ n:=28,sl:=[(0,.val (.U cb) a1.1),(4,.own (.U (.U u8)) (au (.U (.U u8))) [] J.1),(5,.val i64 J.2)],vr:=[],aw:=[] }
noncomputable def b0 (self:((List (List UInt8))×Int)->Option Out) (e0:(List (List UInt8))->Option Out) (a1:Arg) (J:(List (List UInt8))×Int):Option Out:=bif decide (J.2 < (a1.1.length:Int)) then (if 0<=J.2 then ((a1.1[J.2.toNat]?).bind fun aB=>(b_.ab (J.1,aB,())).bind fun bs=>bif !decide (bs.1.1=(0:Int)) then (some (([]:List (List UInt8)),bs.1.1,())) else self (bs.1.2.2.1,ae (J.2+(1:Int)))) else none) else e0 J.1
noncomputable abbrev B0 (_:Nat):=b0
noncomputable def q0 (a1:Arg) (bY:(List (List UInt8))):Option Out:=some (bY,(0:Int),())
noncomputable abbrev Q0 (_:Nat):=q0
noncomputable def s0 (k:Nat) (a1:Arg):((List (List UInt8))×Int)->Option Out:=fun J=>D.L k [1,1,0,1,0,0] [0,4,5] [] (af 0 (ap (D.N k [1,1,1]) D.K0)) (T0 a1 J)
noncomputable def r0 (k:Nat) (a1:Arg):((List (List UInt8))×Int)->Option Out:=al (fun w v=>B0 k w (Q0 k a1) a1 v) k
theorem aq (k:Nat) (a1:Arg):s0 k a1=r0 k a1:=
 funext fun J=>ao _ _ _ (T0 a1) _ (fun rec v=>by kernel_rfl) k J
noncomputable def p (l0:((List (List UInt8))×Int)->Option Out) (a1:Arg):Option Out:=l0 (([]:List (List UInt8)),(0:Int))
theorem aa (k:Nat) (a1:Arg):@Eq (Option Out) (D.W k a1) (p (r0 k a1) a1):=
 Eq.trans (b:=p (s0 k a1) a1) (by kernel_rfl) (by rw[aq])
theorem ok:Ok prog 59 D.sig:=am func59 ay (by kernel_rfl) (fc b_.ok (ai _))
end fS
namespace iF
abbrev Arg:Type:=Log×Unit
abbrev Out:Type:=(List aO)×Unit
abbrev ps:PQ:=[(.ro,(.ptr fe))]
noncomputable def D:FD:={ fn:=f60,tl:=aE,ps:=ps,rs:=[((.U cb),(au (.U cb)))],gl:=[(96,dD.D.sig),(107,dC.D.sig)],od:=[(1,[0,1,2,3,5,6,7,8,4,9,10,11,12,13,14,15])] }
noncomputable def ab (a:Arg):Option Out:=@lift Out fun k=>D.W k a
noncomputable def p (a1:Arg):Option Out:=(dC.ab (a1.1.1,())).bind fun r2=>if r2.1.length+a1.1.2.1.length<=bk then ((dD.ab (r2.1++a1.1.2.1,())).bind fun r3=>some (r3.1,())) else none
theorem aa (k:Nat) (a1:Arg):@Eq (Option Out) (D.W k a1) (p a1):=by kernel_rfl
theorem ok:Ok prog 60 D.sig:=am func60 ay (by kernel_rfl) (fc dD.ok (fc dC.ok (ai _)))
end iF
namespace fj
abbrev Arg:Type:=(List (List UInt8))×(List (List UInt8))×Unit
abbrev Out:Type:=Bool×Unit
abbrev ps:PQ:=[(.ro,(.U (.U u8))),(.ro,(.U (.U u8)))]
noncomputable def D:FD:={ fn:=f61,tl:=aE,ps:=ps,rs:=[(.bool,(av .bool))],lv:=[(4,[0,1,5])],lx:=[(0,[])],od:=[(6,[0,1,2,3,4,5,6,7,8,9,10])] }
noncomputable def ab (a:Arg):Option Out:=@lift Out fun k=>D.W k a
noncomputable def T0 (a1:Arg) (J:Int):St:={ n:=28,sl:=[(0,.val (.U (.U u8)) a1.1),(1,.val (.U (.U u8)) a1.2.1),(5,.val i64 J)],vr:=[],aw:=[] }
noncomputable def b0 (self:Int->Option Out) (e0:(Unit)->Option Out) (a1:Arg) (J:Int):Option Out:=bif decide (J < (a1.1.length:Int)) then (if 0<=J then ((a1.1[J.toNat]?).bind fun aB=>if 0<=J then ((a1.2.1[J.toNat]?).bind fun cM=>bif !decide (aB=cM) then (some (false,())) else self (ae (J+(1:Int)))) else none) else none) else e0 ()
noncomputable abbrev B0 (_:Nat):=b0
noncomputable def q0 (a1:Arg) (bY:(Unit)):Option Out:=some (true,())
noncomputable abbrev Q0 (_:Nat):=q0
noncomputable def s0 (k:Nat) (a1:Arg):(Int)->Option Out:=fun J=>D.L k [1,1,0,1,0,0] [0,1,5] [] (af 0 (ap (D.N k [1,1,1]) D.K0)) (T0 a1 J)
noncomputable def r0 (k:Nat) (a1:Arg):(Int)->Option Out:=al (fun w v=>B0 k w (Q0 k a1) a1 v) k
theorem aq (k:Nat) (a1:Arg):s0 k a1=r0 k a1:=
 funext fun J=>ao _ _ _ (T0 a1) _ (fun rec v=>by kernel_rfl) k J
noncomputable def p (l0:(Int)->Option Out) (a1:Arg):Option Out:=bif !decide ((a1.1.length:Int)=(a1.2.1.length:Int)) then (some (false,())) else l0 (0:Int)
theorem aa (k:Nat) (a1:Arg):@Eq (Option Out) (D.W k a1) (p (r0 k a1) a1):=
 Eq.trans (b:=p (s0 k a1) a1) (by kernel_rfl) (by rw[aq])
theorem ok:Ok prog 61 D.sig:=am func61 ay (by kernel_rfl) (ai _)
end fj
namespace km
abbrev Arg:Type:=kb×Unit
abbrev Out:Type:=Int×Unit
abbrev ps:PQ:=[(.ro,(.ptr cd))]
noncomputable def D:FD:={ fn:=f27,tl:=aE,ps:=ps,rs:=[(i64,(av i64))],gl:=[(54,jO.D.sig),(55,aI.D.sig),(56,bN.D.sig),(57,eD.D.sig),(58,i_.D.sig),(59,fS.D.sig),(60,iF.D.sig),(61,fj.D.sig)],od:=[(13,[0,1,2,3,5,6,7,8,9,10,11,12,4,13,14,15])],ar:=[(13,[3,8,12])],pd:=[(13,[14])] }
noncomputable def ab (a:Arg):Option Out:=@lift Out fun k=>D.W k a
noncomputable def p (a1:Arg):Option Out:=(jO.ab (a1.1.2.2.1,())).bind fun r2=>bif !decide (r2.1=(0:Int)) then (some (r2.1,())) else bif !a1.1.1 then (bif decide ((0:Int) < (a1.1.2.1.length:Int)) then (some ((1:Int),())) else bif decide ((0:Int) < (a1.1.2.2.2.1.length:Int)) then (some ((1:Int),())) else bif decide ((0:Int) < (a1.1.2.2.1.2.1.length:Int)) then (some ((1:Int),())) else (aI.ab (a1.1.2.2.2.2.1,(1:Int),(100:Int),())).bind fun r3=>bif !r3.1 then (some ((3:Int),())) else some ((0:Int),())) else (bN.ab (a1.1.2.1,())).bind fun r4=>bif !decide (r4.1=(0:Int)) then (some (r4.1,())) else (eD.ab (a1.1.2.1,())).bind fun r5=>(i_.ab ((r5.1,a1.1.2.2.2.1,a1.1.2.2.2.2.1,()),())).bind fun r6=>bif !decide (r6.1=(0:Int)) then (some (r6.1,())) else (iF.ab (a1.1.2.2.1,())).bind fun r7=>(fS.ab (r7.1,())).bind fun r8=>bif !decide (r8.2.1=(0:Int)) then (some ((8:Int),())) else (fj.ab (r8.1,a1.1.2.1,())).bind fun r9=>bif !r9.1 then (some ((8:Int),())) else some ((0:Int),())
theorem aa (k:Nat) (a1:Arg):@Eq (Option Out) (D.W k a1) (p a1):=by kernel_rfl
theorem ok:Ok prog 27 D.sig:=am func27 ay (by kernel_rfl) (fc jO.ok (fc aI.ok (fc bN.ok (fc eD.ok (fc i_.ok (fc fS.ok (fc iF.ok (fc fj.ok (ai _)))))))))
end km
namespace jR
abbrev Arg:Type:=Change×Change×Unit
abbrev Out:Type:=Bool×Unit
abbrev ps:PQ:=[(.ro,(.ptr an)),(.ro,(.ptr an))]
noncomputable def D:FD:={ fn:=f110,tl:=aE,ps:=ps,rs:=[(.bool,(av .bool))],gl:=[(162,fG.D.sig)] }
noncomputable def ab (a:Arg):Option Out:=@lift Out fun k=>D.W k a
noncomputable def p (a1:Arg):Option Out:=(fG.ab (a1.1,())).bind fun r2=>(fG.ab (a1.2.1,())).bind fun r3=>bif decide (r2.1 < r3.1) then (some (true,())) else bif decide (r2.1=r3.1) then (some (decide (r2.2.1 < r3.2.1),())) else some (false,())
theorem aa (k:Nat) (a1:Arg):@Eq (Option Out) (D.W k a1) (p a1):=by kernel_rfl
theorem ok:Ok prog 110 D.sig:=am func110 ay (by kernel_rfl) (fc fG.ok (ai _))
end jR
namespace dj
abbrev Arg:Type:=(List Change)×Unit
abbrev Out:Type:=Int×Unit
abbrev ps:PQ:=[(.ro,(.U an))]
noncomputable def D:FD:={ fn:=f63,tl:=aE,ps:=ps,rs:=[(i64,(av i64))],gl:=[(109,fP.D.sig),(110,jR.D.sig)],lv:=[(4,[0,3])],lx:=[(0,[])],od:=[(9,[0,1,2,3,4,5,6,7,8,9,10,11,12])] }
noncomputable def ab (a:Arg):Option Out:=@lift Out fun k=>D.W k a
noncomputable def T0 (a1:Arg) (J:Int):St:={ n:=34,sl:=[(0,.val (.U an) a1.1),(3,.val i64 J)],vr:=[],aw:=[] }
noncomputable def b0 (self:Int->Option Out) (e0:(Unit)->Option Out) (a1:Arg) (J:Int):Option Out:=bif decide (J < (a1.1.length:Int)) then (if 0<=J then ((a1.1[J.toNat]?).bind fun aB=>(fP.ab (aB,())).bind fun bs=>bif !decide (bs.1=(0:Int)) then (some (bs.1,())) else bif decide ((0:Int) < J) then (if 0<=ae (J - (1:Int)) then ((a1.1[(ae (J - (1:Int))).toNat]?).bind fun cW=>if 0<=J then ((a1.1[J.toNat]?).bind fun n7=>(jR.ab (cW,n7,())).bind fun gx=>bif !gx.1 then (some ((1:Int),())) else self (ae (J+(1:Int)))) else none) else none) else self (ae (J+(1:Int)))) else none) else e0 ()
noncomputable abbrev B0 (_:Nat):=b0
noncomputable def q0 (a1:Arg) (mZ:(Unit)):Option Out:=some ((0:Int),())
noncomputable abbrev Q0 (_:Nat):=q0
noncomputable def s0 (k:Nat) (a1:Arg):(Int)->Option Out:=fun J=>D.L k [1,1,0,1,0,0] [0,3] [] (af 0 (ap (D.N k [1,1,1]) D.K0)) (T0 a1 J)
noncomputable def r0 (k:Nat) (a1:Arg):(Int)->Option Out:=al (fun w v=>B0 k w (Q0 k a1) a1 v) k
theorem aq (k:Nat) (a1:Arg):s0 k a1=r0 k a1:=
 funext fun J=>ao _ _ _ (T0 a1) _ (fun rec v=>by kernel_rfl) k J
noncomputable def p (l0:(Int)->Option Out) (a1:Arg):Option Out:=bif decide ((60:Int) < (a1.1.length:Int)) then (some ((2:Int),())) else l0 (0:Int)
theorem aa (k:Nat) (a1:Arg):@Eq (Option Out) (D.W k a1) (p (r0 k a1) a1):=
 Eq.trans (b:=p (s0 k a1) a1) (by kernel_rfl) (by rw[aq])
theorem ok:Ok prog 63 D.sig:=am func63 ay (by kernel_rfl) (fc fP.ok (fc jR.ok (ai _)))
end dj
namespace ja
abbrev Arg:Type:=jm×Int×Unit
abbrev Out:Type:=Int×Unit
abbrev ps:PQ:=[(.ro,(.ptr br)),(.ro,i64)]
noncomputable def D:FD:={ fn:=f108,tl:=aE,ps:=ps,rs:=[(i64,(av i64))],lv:=[(2,[0,1,5])],lx:=[(0,[])] }
noncomputable def ab (a:Arg):Option Out:=@lift Out fun k=>D.W k a
noncomputable def T0 (a1:Arg) (J:Int):St:={ n:=26,sl:=[(0,.cp br a1.1),(1,.val i64 a1.2.1),(5,.val i64 J)],vr:=[],aw:=[] }
noncomputable def b0 (self:Int->Option Out) (e0:(Unit)->Option Out) (a1:Arg) (J:Int):Option Out:=bif decide (J < (a1.1.2.1.length:Int)) then (if 0<=J then ((a1.1.2.1[J.toNat]?).bind fun aB=>bif decide (aB.1=a1.2.1) then (some (J,())) else self (ae (J+(1:Int)))) else none) else e0 ()
noncomputable abbrev B0 (_:Nat):=b0
noncomputable def q0 (a1:Arg) (kj:(Unit)):Option Out:=some ((-1:Int),())
noncomputable abbrev Q0 (_:Nat):=q0
noncomputable def s0 (k:Nat) (a1:Arg):(Int)->Option Out:=fun J=>D.L k [1,0,1,0,0] [0,1,5] [] (af 0 (ap (D.N k [1,1]) D.K0)) (T0 a1 J)
noncomputable def r0 (k:Nat) (a1:Arg):(Int)->Option Out:=al (fun w v=>B0 k w (Q0 k a1) a1 v) k
theorem aq (k:Nat) (a1:Arg):s0 k a1=r0 k a1:=
 funext fun J=>ao _ _ _ (T0 a1) _ (fun rec v=>by kernel_rfl) k J
noncomputable def p (l0:(Int)->Option Out) (a1:Arg):Option Out:=l0 (0:Int)
theorem aa (k:Nat) (a1:Arg):@Eq (Option Out) (D.W k a1) (p (r0 k a1) a1):=
 Eq.trans (b:=p (s0 k a1) a1) (by kernel_rfl) (by rw[aq])
theorem ok:Ok prog 108 D.sig:=am func108 ay (by kernel_rfl) (ai _)
end ja
namespace eJ
abbrev Arg:Type:=jm×Unit
abbrev Out:Type:=Int×Unit
abbrev ps:PQ:=[(.ro,(.ptr br))]
noncomputable def D:FD:={ fn:=f62,tl:=aE,ps:=ps,rs:=[(i64,(av i64))],gl:=[(55,aI.D.sig),(56,bN.D.sig),(63,dj.D.sig),(108,ja.D.sig)],lv:=[(7,[0,4])],lx:=[(0,[])] }
noncomputable def ab (a:Arg):Option Out:=@lift Out fun k=>D.W k a
noncomputable def T0 (a1:Arg) (aN:Int):St:={ n:=63,sl:=[(0,.cp br a1.1),(4,.val i64 aN)],vr:=[],aw:=[] }
noncomputable def b0 (self:Int->Option Out) (e0:(Unit)->Option Out) (a1:Arg) (aN:Int):Option Out:=bif decide (aN < (a1.1.2.1.length:Int)) then (if 0<=aN then ((a1.1.2.1[aN.toNat]?).bind fun cM=>(aI.ab (cM.1,(1:Int),(99:Int),())).bind fun fY=>bif !fY.1 then (some ((3:Int),())) else if 0<=aN then ((a1.1.2.1[aN.toNat]?).bind fun n7=>(dj.ab (n7.2.1,())).bind fun gx=>bif !decide (gx.1=(0:Int)) then (some (gx.1,())) else if 0<=aN then ((a1.1.2.1[aN.toNat]?).bind fun xY=>(ja.ab (a1.1,xY.1,())).bind fun qC=>bif !decide (qC.1=aN) then (some ((6:Int),())) else self (ae (aN+(1:Int)))) else none) else none) else none) else e0 ()
noncomputable abbrev B0 (_:Nat):=b0
noncomputable def q0 (a1:Arg) (On:(Unit)):Option Out:=some ((0:Int),())
noncomputable abbrev Q0 (_:Nat):=q0
noncomputable def s0 (k:Nat) (a1:Arg):(Int)->Option Out:=fun aN=>D.L k [1,1,1,0,1,0,0] [0,4] [] (af 0 (ap (D.N k [1,1,1,1]) D.K0)) (T0 a1 aN)
noncomputable def r0 (k:Nat) (a1:Arg):(Int)->Option Out:=al (fun w v=>B0 k w (Q0 k a1) a1 v) k
theorem aq (k:Nat) (a1:Arg):s0 k a1=r0 k a1:=
 funext fun aN=>ao _ _ _ (T0 a1) _ (fun rec v=>by kernel_rfl) k aN
noncomputable def p (l0:(Int)->Option Out) (a1:Arg):Option Out:=(bN.ab (a1.1.1,())).bind fun r2=>bif !decide (r2.1=(0:Int)) then (some (r2.1,())) else bif decide ((8:Int) < (a1.1.2.1.length:Int)) then (some ((2:Int),())) else l0 (0:Int)
theorem aa (k:Nat) (a1:Arg):@Eq (Option Out) (D.W k a1) (p (r0 k a1) a1):=
 Eq.trans (b:=p (s0 k a1) a1) (by kernel_rfl) (by rw[aq])
theorem ok:Ok prog 62 D.sig:=am func62 ay (by kernel_rfl) (fc aI.ok (fc bN.ok (fc dj.ok (fc ja.ok (ai _)))))
end eJ
namespace jb
abbrev Arg:Type:=gT×Unit
abbrev Out:Type:=Int×Unit
abbrev ps:PQ:=[(.ro,(.ptr ba))]
noncomputable def D:FD:={ fn:=f28,tl:=aE,ps:=ps,rs:=[(i64,(av i64))],gl:=[(55,aI.D.sig),(62,eJ.D.sig)],od:=[(7,[0,1,2,3,4,5,6,7,8,9,10,11,12,13,14,15,16,17])],ar:=[(7,[3,10,14])] }
noncomputable def ab (a:Arg):Option Out:=@lift Out fun k=>D.W k a
noncomputable def p (a1:Arg):Option Out:=(eJ.ab (a1.1.1,())).bind fun r2=>bif !decide (r2.1=(0:Int)) then (some (r2.1,())) else (eJ.ab (a1.1.2.2.1,())).bind fun r3=>bif !decide (r3.1=(0:Int)) then (some (r3.1,())) else (aI.ab (a1.1.2.1,(0:Int),(16000:Int),())).bind fun r4=>bif !r4.1 then (some ((3:Int),())) else (aI.ab (a1.1.2.2.2.1,(0:Int),a1.1.2.1,())).bind fun r5=>bif !r5.1 then (some ((3:Int),())) else some ((0:Int),())
theorem aa (k:Nat) (a1:Arg):@Eq (Option Out) (D.W k a1) (p a1):=by kernel_rfl
theorem ok:Ok prog 28 D.sig:=am func28 ay (by kernel_rfl) (fc aI.ok (fc eJ.ok (ai _)))
end jb
namespace jS
abbrev Arg:Type:=gg×Unit
abbrev Out:Type:=Int×Unit
abbrev ps:PQ:=[(.ro,(.ptr bK))]
noncomputable def D:FD:={ fn:=f29,tl:=aE,ps:=ps,rs:=[(i64,(av i64))],gl:=[(55,aI.D.sig),(63,dj.D.sig)] }
noncomputable def ab (a:Arg):Option Out:=@lift Out fun k=>D.W k a
noncomputable def p (a1:Arg):Option Out:=(aI.ab (a1.1.1,(0:Int),(16000:Int),())).bind fun r2=>bif !r2.1 then (some ((3:Int),())) else (aI.ab (a1.1.2.1,(1:Int),(99:Int),())).bind fun r3=>bif !r3.1 then (some ((3:Int),())) else (dj.ab (a1.1.2.2.1,())).bind fun r4=>some (r4.1,())
theorem aa (k:Nat) (a1:Arg):@Eq (Option Out) (D.W k a1) (p a1):=by kernel_rfl
theorem ok:Ok prog 29 D.sig:=am func29 ay (by kernel_rfl) (fc aI.ok (fc dj.ok (ai _)))
end jS
namespace eE
abbrev Arg:Type:=World×Unit
abbrev Out:Type:=Int×Unit
abbrev ps:PQ:=[(.ro,(.ptr dR))]
noncomputable def D:FD:={ fn:=f12,tl:=aE,ps:=ps,rs:=[(i64,(av i64))],gl:=[(27,km.D.sig),(28,jb.D.sig),(29,jS.D.sig)],lv:=[(10,[0,5])],lx:=[(0,[])] }
noncomputable def ab (a:Arg):Option Out:=@lift Out fun k=>D.W k a
noncomputable def T0 (a1:Arg) (fk:Int):St:={ n:=46,sl:=[(0,.cp dR a1.1),(5,.val i64 fk)],vr:=[],aw:=[] }
noncomputable def b0 (self:Int->Option Out) (e0:(Unit)->Option Out) (a1:Arg) (fk:Int):Option Out:=bif decide (fk < (a1.1.2.2.1.length:Int)) then (if 0<=fk then ((a1.1.2.2.1[fk.toNat]?).bind fun cW=>(jS.ab (cW,())).bind fun jk=>bif !decide (jk.1=(0:Int)) then (some (jk.1,())) else self (ae (fk+(1:Int)))) else none) else e0 ()
noncomputable abbrev B0 (_:Nat):=b0
noncomputable def q0 (a1:Arg) (gP:(Unit)):Option Out:=some ((0:Int),())
noncomputable abbrev Q0 (_:Nat):=q0
noncomputable def s0 (k:Nat) (a1:Arg):(Int)->Option Out:=fun fk=>D.L k [1,1,1,1,0,1,0,0] [0,5] [] (af 0 (ap (D.N k [1,1,1,1,1]) D.K0)) (T0 a1 fk)
noncomputable def r0 (k:Nat) (a1:Arg):(Int)->Option Out:=al (fun w v=>B0 k w (Q0 k a1) a1 v) k
theorem aq (k:Nat) (a1:Arg):s0 k a1=r0 k a1:=
 funext fun fk=>ao _ _ _ (T0 a1) _ (fun rec v=>by kernel_rfl) k fk
noncomputable def p (l0:(Int)->Option Out) (a1:Arg):Option Out:=(km.ab (a1.1.1,())).bind fun r2=>bif !decide (r2.1=(0:Int)) then (some (r2.1,())) else (jb.ab (a1.1.2.1,())).bind fun r3=>bif !decide (r3.1=(0:Int)) then (some (r3.1,())) else bif decide ((200:Int) < (a1.1.2.2.1.length:Int)) then (some ((2:Int),())) else l0 (0:Int)
theorem aa (k:Nat) (a1:Arg):@Eq (Option Out) (D.W k a1) (p (r0 k a1) a1):=
 Eq.trans (b:=p (s0 k a1) a1) (by kernel_rfl) (by rw[aq])
theorem ok:Ok prog 12 D.sig:=am func12 ay (by kernel_rfl) (fc km.ok (fc jb.ok (fc jS.ok (ai _))))
end eE
namespace iG
abbrev Arg:Type:=World×Unit
abbrev Out:Type:=Int×Unit
abbrev ps:PQ:=[(.ro,dR)]
noncomputable def D:FD:={ fn:=f5,tl:=aE,ps:=ps,rs:=[(i64,(av i64))],gl:=[(12,eE.D.sig)] }
noncomputable def ab (a:Arg):Option Out:=@lift Out fun k=>D.W k a
noncomputable def p (a1:Arg):Option Out:=(eE.ab (a1.1,())).bind fun r2=>some (r2.1,())
theorem aa (k:Nat) (a1:Arg):@Eq (Option Out) (D.W k a1) (p a1):=by kernel_rfl
theorem ok:Ok prog 5 D.sig:=am func5 ay (by kernel_rfl) (fc eE.ok (ai _))
end iG
namespace cT
abbrev Arg:Type:=(List UInt8)×Unit
abbrev Out:Type:=(List UInt8)×Unit
abbrev ps:PQ:=[(.ro,(.U u8))]
noncomputable def D:FD:={ fn:=f64,tl:=aE,ps:=ps,rs:=[((.U u8),(au (.U u8)))],lv:=[(3,[0,3,4])],lx:=[(0,[3])] }
noncomputable def ab (a:Arg):Option Out:=@lift Out fun k=>D.W k a
noncomputable def T0 (a1:Arg) (J:(List UInt8)×Int):St:={ n:=22,sl:=[(0,.val (.U u8) a1.1),(3,.own (.U u8) (au (.U u8)) [] J.1),(4,.val i64 J.2)],vr:=[],aw:=[] }
noncomputable def b0 (self:((List UInt8)×Int)->Option Out) (e0:(List UInt8)->Option Out) (a1:Arg) (J:(List UInt8)×Int):Option Out:=bif decide (J.2 < (a1.1.length:Int)) then (if 0<=J.2 then ((a1.1[J.2.toNat]?).bind fun aB=>if 0<=J.2/\J.2 < (J.1.length:Int) then ((J.1[J.2.toNat]?).bind fun cM=>self (J.1.set J.2.toNat aB,ae (J.2+(1:Int)))) else none) else none) else e0 J.1
noncomputable abbrev B0 (_:Nat):=b0
noncomputable def q0 (a1:Arg) (bY:(List UInt8)):Option Out:=some (bY,())
noncomputable abbrev Q0 (_:Nat):=q0
noncomputable def s0 (k:Nat) (a1:Arg):((List UInt8)×Int)->Option Out:=fun J=>D.L k [1,1,0,1,0,0] [0,3,4] [] (af 0 (ap (D.N k [1,1,1]) D.K0)) (T0 a1 J)
noncomputable def r0 (k:Nat) (a1:Arg):((List UInt8)×Int)->Option Out:=al (fun w v=>B0 k w (Q0 k a1) a1 v) k
theorem aq (k:Nat) (a1:Arg):s0 k a1=r0 k a1:=
 funext fun J=>ao _ _ _ (T0 a1) _ (fun rec v=>by kernel_rfl) k J
noncomputable def p (l0:((List UInt8)×Int)->Option Out) (a1:Arg):Option Out:=if 0<=(a1.1.length:Int)/\(a1.1.length:Int)<=(a1.1.length:Int)/\(a1.1.length:Int)<=(bk:Int) then (l0 (List.replicate (a1.1.length:Int).toNat (0:UInt8),(0:Int))) else none
theorem aa (k:Nat) (a1:Arg):@Eq (Option Out) (D.W k a1) (p (r0 k a1) a1):=
 Eq.trans (b:=p (s0 k a1) a1) (by kernel_rfl) (by rw[aq])
theorem ok:Ok prog 64 D.sig:=am func64 ay (by kernel_rfl) (ai _)
end cT
namespace cE
abbrev Arg:Type:=(List (List UInt8))×Unit
abbrev Out:Type:=(List (List UInt8))×Unit
abbrev ps:PQ:=[(.ro,(.U (.U u8)))]
noncomputable def D:FD:={ fn:=f30,tl:=aE,ps:=ps,rs:=[((.U (.U u8)),(au (.U (.U u8))))],gl:=[(64,cT.D.sig)],lv:=[(3,[0,3,4])],lx:=[(0,[3])] }
noncomputable def ab (a:Arg):Option Out:=@lift Out fun k=>D.W k a
noncomputable def T0 (a1:Arg) (J:(List (List UInt8))×Int):St:={ n:=23,sl:=[(0,.val (.U (.U u8)) a1.1),(3,.own (.U (.U u8)) (au (.U (.U u8))) [] J.1),(4,.val i64 J.2)],vr:=[],aw:=[] }
noncomputable def b0 (self:((List (List UInt8))×Int)->Option Out) (e0:(List (List UInt8))->Option Out) (a1:Arg) (J:(List (List UInt8))×Int):Option Out:=bif decide (J.2 < (a1.1.length:Int)) then (if 0<=J.2 then ((a1.1[J.2.toNat]?).bind fun aB=>(cT.ab (aB,())).bind fun bs=>if 0<=J.2/\J.2 < (J.1.length:Int) then ((J.1[J.2.toNat]?).bind fun cW=>self (J.1.set J.2.toNat bs.1,ae (J.2+(1:Int)))) else none) else none) else e0 J.1
noncomputable abbrev B0 (_:Nat):=b0
noncomputable def q0 (a1:Arg) (jl:(List (List UInt8))):Option Out:=some (jl,())
noncomputable abbrev Q0 (_:Nat):=q0
noncomputable def s0 (k:Nat) (a1:Arg):((List (List UInt8))×Int)->Option Out:=fun J=>D.L k [1,1,0,1,0,0] [0,3,4] [] (af 0 (ap (D.N k [1,1,1]) D.K0)) (T0 a1 J)
noncomputable def r0 (k:Nat) (a1:Arg):((List (List UInt8))×Int)->Option Out:=al (fun w v=>B0 k w (Q0 k a1) a1 v) k
theorem aq (k:Nat) (a1:Arg):s0 k a1=r0 k a1:=
 funext fun J=>ao _ _ _ (T0 a1) _ (fun rec v=>by kernel_rfl) k J
noncomputable def p (l0:((List (List UInt8))×Int)->Option Out) (a1:Arg):Option Out:=if 0<=(a1.1.length:Int)/\(a1.1.length:Int)<=(a1.1.length:Int)/\(a1.1.length:Int)<=(bk:Int) then (l0 (List.replicate (a1.1.length:Int).toNat ([]:List UInt8),(0:Int))) else none
theorem aa (k:Nat) (a1:Arg):@Eq (Option Out) (D.W k a1) (p (r0 k a1) a1):=
 Eq.trans (b:=p (s0 k a1) a1) (by kernel_rfl) (by rw[aq])
theorem ok:Ok prog 30 D.sig:=am func30 ay (by kernel_rfl) (fc cT.ok (ai _))
end cE
namespace lB
abbrev Arg:Type:=Log×Unit
abbrev Out:Type:=Log×Unit
abbrev ps:PQ:=[(.ro,fe)]
noncomputable def D:FD:={ fn:=f31,tl:=aE,ps:=ps,rs:=[(fe,(au fe))],gl:=[(64,cT.D.sig)] }
noncomputable def ab (a:Arg):Option Out:=@lift Out fun k=>D.W k a
noncomputable def p (a1:Arg):Option Out:=(cT.ab (a1.1.1,())).bind fun r2=>(cT.ab (a1.1.2.1,())).bind fun r3=>some ((r2.1,r3.1,()),())
theorem aa (k:Nat) (a1:Arg):@Eq (Option Out) (D.W k a1) (p a1):=by kernel_rfl
theorem ok:Ok prog 31 D.sig:=am func31 ay (by kernel_rfl) (fc cT.ok (ai _))
end lB
namespace kC
abbrev Arg:Type:=Row×Unit
abbrev Out:Type:=Row×Unit
abbrev ps:PQ:=[(.ro,aF)]
noncomputable def D:FD:={ fn:=f164,tl:=aE,ps:=ps,rs:=[(aF,(av aF))] }
noncomputable def ab (a:Arg):Option Out:=@lift Out fun k=>D.W k a
noncomputable def p (a1:Arg):Option Out:=some ((a1.1.1,a1.1.2.1,a1.1.2.2.1,a1.1.2.2.2.1,()),())
theorem aa (k:Nat) (a1:Arg):@Eq (Option Out) (D.W k a1) (p a1):=by kernel_rfl
theorem ok:Ok prog 164 D.sig:=am func164 ay (by kernel_rfl) (ai _)
end kC
namespace jc
abbrev Arg:Type:=Change×Unit
abbrev Out:Type:=Change×Unit
abbrev ps:PQ:=[(.ro,an)]
noncomputable def D:FD:={ fn:=f114,tl:=aE,ps:=ps,rs:=[(an,(av an))],gl:=[(164,kC.D.sig)] }
noncomputable def ab (a:Arg):Option Out:=@lift Out fun k=>D.W k a
noncomputable def p (a1:Arg):Option Out:=(kC.ab (a1.1.2.1,())).bind fun r2=>(kC.ab (a1.1.2.2.2.1,())).bind fun r3=>some ((a1.1.1,r2.1,a1.1.2.2.1,r3.1,()),())
theorem aa (k:Nat) (a1:Arg):@Eq (Option Out) (D.W k a1) (p a1):=by kernel_rfl
theorem ok:Ok prog 114 D.sig:=am func114 ay (by kernel_rfl) (fc kC.ok (ai _))
end jc
namespace bO
abbrev Arg:Type:=(List Change)×Unit
abbrev Out:Type:=(List Change)×Unit
abbrev ps:PQ:=[(.ro,(.U an))]
noncomputable def D:FD:={ fn:=f67,tl:=aE,ps:=ps,rs:=[((.U an),(au (.U an)))],gl:=[(114,jc.D.sig)],lv:=[(3,[0,3,4])],lx:=[(0,[3])] }
noncomputable def ab (a:Arg):Option Out:=@lift Out fun k=>D.W k a
noncomputable def T0 (a1:Arg) (J:(List Change)×Int):St:={ n:=23,sl:=[(0,.val (.U an) a1.1),(3,.own (.U an) (au (.U an)) [] J.1),(4,.val i64 J.2)],vr:=[],aw:=[] }
noncomputable def b0 (self:((List Change)×Int)->Option Out) (e0:(List Change)->Option Out) (a1:Arg) (J:(List Change)×Int):Option Out:=bif decide (J.2 < (a1.1.length:Int)) then (if 0<=J.2 then ((a1.1[J.2.toNat]?).bind fun aB=>(jc.ab (aB,())).bind fun bs=>if 0<=J.2/\J.2 < (J.1.length:Int) then ((J.1[J.2.toNat]?).bind fun cW=>self (J.1.set J.2.toNat bs.1,ae (J.2+(1:Int)))) else none) else none) else e0 J.1
noncomputable abbrev B0 (_:Nat):=b0
noncomputable def q0 (a1:Arg) (jl:(List Change)):Option Out:=some (jl,())
noncomputable abbrev Q0 (_:Nat):=q0
noncomputable def s0 (k:Nat) (a1:Arg):((List Change)×Int)->Option Out:=fun J=>D.L k [1,1,0,1,0,0] [0,3,4] [] (af 0 (ap (D.N k [1,1,1]) D.K0)) (T0 a1 J)
noncomputable def r0 (k:Nat) (a1:Arg):((List Change)×Int)->Option Out:=al (fun w v=>B0 k w (Q0 k a1) a1 v) k
theorem aq (k:Nat) (a1:Arg):s0 k a1=r0 k a1:=
 funext fun J=>ao _ _ _ (T0 a1) _ (fun rec v=>by kernel_rfl) k J
noncomputable def p (l0:((List Change)×Int)->Option Out) (a1:Arg):Option Out:=if 0<=(a1.1.length:Int)/\(a1.1.length:Int)<=(a1.1.length:Int)/\(a1.1.length:Int)<=(bk:Int) then (l0 (List.replicate (a1.1.length:Int).toNat (false,((0:Int),(0:Int),(0:Int),([]:List UInt8),()),false,((0:Int),(0:Int),(0:Int),([]:List UInt8),()),()),(0:Int))) else none
theorem aa (k:Nat) (a1:Arg):@Eq (Option Out) (D.W k a1) (p (r0 k a1) a1):=
 Eq.trans (b:=p (s0 k a1) a1) (by kernel_rfl) (by rw[aq])
theorem ok:Ok prog 67 D.sig:=am func67 ay (by kernel_rfl) (fc jc.ok (ai _))
end bO
namespace dH
abbrev Arg:Type:=(List Int)×Unit
abbrev Out:Type:=(List Int)×Unit
abbrev ps:PQ:=[(.ro,(.U i64))]
noncomputable def D:FD:={ fn:=f111,tl:=aE,ps:=ps,rs:=[((.U i64),(au (.U i64)))],lv:=[(3,[0,3,4])],lx:=[(0,[3])] }
noncomputable def ab (a:Arg):Option Out:=@lift Out fun k=>D.W k a
noncomputable def T0 (a1:Arg) (J:(List Int)×Int):St:={ n:=22,sl:=[(0,.val (.U i64) a1.1),(3,.own (.U i64) (au (.U i64)) [] J.1),(4,.val i64 J.2)],vr:=[],aw:=[] }
noncomputable def b0 (self:((List Int)×Int)->Option Out) (e0:(List Int)->Option Out) (a1:Arg) (J:(List Int)×Int):Option Out:=bif decide (J.2 < (a1.1.length:Int)) then (if 0<=J.2 then ((a1.1[J.2.toNat]?).bind fun aB=>if 0<=J.2/\J.2 < (J.1.length:Int) then ((J.1[J.2.toNat]?).bind fun cM=>self (J.1.set J.2.toNat aB,ae (J.2+(1:Int)))) else none) else none) else e0 J.1
noncomputable abbrev B0 (_:Nat):=b0
noncomputable def q0 (a1:Arg) (bY:(List Int)):Option Out:=some (bY,())
noncomputable abbrev Q0 (_:Nat):=q0
noncomputable def s0 (k:Nat) (a1:Arg):((List Int)×Int)->Option Out:=fun J=>D.L k [1,1,0,1,0,0] [0,3,4] [] (af 0 (ap (D.N k [1,1,1]) D.K0)) (T0 a1 J)
noncomputable def r0 (k:Nat) (a1:Arg):((List Int)×Int)->Option Out:=al (fun w v=>B0 k w (Q0 k a1) a1 v) k
theorem aq (k:Nat) (a1:Arg):s0 k a1=r0 k a1:=
 funext fun J=>ao _ _ _ (T0 a1) _ (fun rec v=>by kernel_rfl) k J
noncomputable def p (l0:((List Int)×Int)->Option Out) (a1:Arg):Option Out:=if 0<=(a1.1.length:Int)/\(a1.1.length:Int)<=(a1.1.length:Int)/\(a1.1.length:Int)<=(bk:Int) then (l0 (List.replicate (a1.1.length:Int).toNat (0:Int),(0:Int))) else none
theorem aa (k:Nat) (a1:Arg):@Eq (Option Out) (D.W k a1) (p (r0 k a1) a1):=
 Eq.trans (b:=p (s0 k a1) a1) (by kernel_rfl) (by rw[aq])
theorem ok:Ok prog 111 D.sig:=am func111 ay (by kernel_rfl) (ai _)
end dH
namespace lC
abbrev Arg:Type:=Key×Unit
abbrev Out:Type:=Key×Unit
abbrev ps:PQ:=[(.ro,aL)]
noncomputable def D:FD:={ fn:=f163,tl:=aE,ps:=ps,rs:=[(aL,(av aL))] }
noncomputable def ab (a:Arg):Option Out:=@lift Out fun k=>D.W k a
noncomputable def p (a1:Arg):Option Out:=some ((a1.1.1,a1.1.2.1,()),())
theorem aa (k:Nat) (a1:Arg):@Eq (Option Out) (D.W k a1) (p a1):=by kernel_rfl
theorem ok:Ok prog 163 D.sig:=am func163 ay (by kernel_rfl) (ai _)
end lC
namespace eR
abbrev Arg:Type:=(List Key)×Unit
abbrev Out:Type:=(List Key)×Unit
abbrev ps:PQ:=[(.ro,(.U aL))]
noncomputable def D:FD:={ fn:=f112,tl:=aE,ps:=ps,rs:=[((.U aL),(au (.U aL)))],gl:=[(163,lC.D.sig)],lv:=[(3,[0,3,4])],lx:=[(0,[3])] }
noncomputable def ab (a:Arg):Option Out:=@lift Out fun k=>D.W k a
noncomputable def T0 (a1:Arg) (J:(List Key)×Int):St:={ n:=23,sl:=[(0,.val (.U aL) a1.1),(3,.own (.U aL) (au (.U aL)) [] J.1),(4,.val i64 J.2)],vr:=[],aw:=[] }
noncomputable def b0 (self:((List Key)×Int)->Option Out) (e0:(List Key)->Option Out) (a1:Arg) (J:(List Key)×Int):Option Out:=bif decide (J.2 < (a1.1.length:Int)) then (if 0<=J.2 then ((a1.1[J.2.toNat]?).bind fun aB=>(lC.ab (aB,())).bind fun bs=>if 0<=J.2/\J.2 < (J.1.length:Int) then ((J.1[J.2.toNat]?).bind fun cW=>self (J.1.set J.2.toNat bs.1,ae (J.2+(1:Int)))) else none) else none) else e0 J.1
noncomputable abbrev B0 (_:Nat):=b0
noncomputable def q0 (a1:Arg) (jl:(List Key)):Option Out:=some (jl,())
noncomputable abbrev Q0 (_:Nat):=q0
noncomputable def s0 (k:Nat) (a1:Arg):((List Key)×Int)->Option Out:=fun J=>D.L k [1,1,0,1,0,0] [0,3,4] [] (af 0 (ap (D.N k [1,1,1]) D.K0)) (T0 a1 J)
noncomputable def r0 (k:Nat) (a1:Arg):((List Key)×Int)->Option Out:=al (fun w v=>B0 k w (Q0 k a1) a1 v) k
theorem aq (k:Nat) (a1:Arg):s0 k a1=r0 k a1:=
 funext fun J=>ao _ _ _ (T0 a1) _ (fun rec v=>by kernel_rfl) k J
noncomputable def p (l0:((List Key)×Int)->Option Out) (a1:Arg):Option Out:=if 0<=(a1.1.length:Int)/\(a1.1.length:Int)<=(a1.1.length:Int)/\(a1.1.length:Int)<=(bk:Int) then (l0 (List.replicate (a1.1.length:Int).toNat ((0:Int),(0:Int),()),(0:Int))) else none
theorem aa (k:Nat) (a1:Arg):@Eq (Option Out) (D.W k a1) (p (r0 k a1) a1):=
 Eq.trans (b:=p (s0 k a1) a1) (by kernel_rfl) (by rw[aq])
theorem ok:Ok prog 112 D.sig:=am func112 ay (by kernel_rfl) (fc lC.ok (ai _))
end eR
namespace mn
abbrev Arg:Type:=Tx×Unit
abbrev Out:Type:=Tx×Unit
abbrev ps:PQ:=[(.ro,bd)]
noncomputable def D:FD:={ fn:=f65,tl:=aE,ps:=ps,rs:=[(bd,(au bd))],gl:=[(67,bO.D.sig),(111,dH.D.sig),(112,eR.D.sig)] }
noncomputable def ab (a:Arg):Option Out:=@lift Out fun k=>D.W k a
noncomputable def p (a1:Arg):Option Out:=(bO.ab (a1.1.2.1,())).bind fun r2=>(dH.ab (a1.1.2.2.1,())).bind fun r3=>(eR.ab (a1.1.2.2.2.1,())).bind fun r4=>some ((a1.1.1,r2.1,r3.1,r4.1,()),())
theorem aa (k:Nat) (a1:Arg):@Eq (Option Out) (D.W k a1) (p a1):=by kernel_rfl
theorem ok:Ok prog 65 D.sig:=am func65 ay (by kernel_rfl) (fc bO.ok (fc dH.ok (fc eR.ok (ai _))))
end mn
end OT
