/- The proof's parts, merged: Printed by gen.py, a program of this claim  what each Go function computes.. No conditions but those that each states. -/
import Derived.Test.YtledflocbohofaaGreatSd
import Derived.Test.YtledflocbohofaaGreatProg
import Derived.KernelRfl
set_option maxRecDepth 100000
set_option linter.unusedVariables false
namespace OT
open Go Go.Proofs.Tryz
abbrev Log:Type:=((List UInt8)×(List UInt8)×Unit)
abbrev cD:Ty:=(bE [(.U u8),(.U u8)])
abbrev Row:Type:=(Int×Int×Int×(List UInt8)×Unit)
abbrev aF:Ty:=(bE [i64,i64,i64,.str])
abbrev Change:Type:=(Bool×Row×Bool×Row×Unit)
abbrev am:Ty:=(bE [.bool,aF,.bool,aF])
abbrev Key:Type:=(Int×Int×Unit)
abbrev aC:Ty:=(bE [i64,i64])
abbrev Tx:Type:=(Int×(List Change)×(List Int)×(List Key)×Unit)
abbrev aR:Ty:=(bE [i64,(.U am),(.U i64),(.U aC)])
abbrev eZ:Type:=(Bool×(List (List UInt8))×Log×(List Tx)×Int×Unit)
abbrev co:Ty:=(bE [.bool,(.U (.U u8)),cD,(.U aR),i64])
abbrev Plain:Type:=((List Row)×(List Tx)×Int×Unit)
abbrev tc:Ty:=(bE [(.U aF),(.U aR),i64])
abbrev kZ:Type:=(Int×Int×Int×Int×Row×Unit)
abbrev kj:Ty:=(bE [i64,i64,i64,i64,aF])
abbrev aw:Type:=(Int×Int×kZ×Unit)
abbrev d9:Ty:=(bE [i64,i64,kj])
abbrev cP:Type:=(Int×(List UInt8)×Unit)
abbrev pE:Ty:=(bE [i64,(.U u8)])
abbrev aM:Type:=(Int×Int×Int×(List cP)×Unit)
abbrev bV:Ty:=(bE [i64,i64,i64,(.U pE)])
abbrev C3:Type:=(Int×Int×aM×Unit)
abbrev qq:Ty:=(bE [i64,i64,bV])
abbrev sN:Type:=(Int×(List cP)×(List (List UInt8))×Unit)
abbrev kD:Ty:=(bE [i64,(.U pE),(.U (.U u8))])
abbrev Seen:Type:=(Row×Int×Int×Bool×Int×Int×Unit)
abbrev c7:Ty:=(bE [aF,i64,i64,.bool,i64,i64])
abbrev qJ:Type:=(Int×(List Row)×Unit)
abbrev nR:Ty:=(bE [i64,(.U aF)])
abbrev fW:Type:=(Int×Int×eZ×Unit)
abbrev cQ:Ty:=(bE [i64,i64,co])
abbrev vL:Type:=(Int×Log×Unit)
abbrev o7:Ty:=(bE [i64,cD])
abbrev Buffer:Type:=(Int×(List Change)×Unit)
abbrev MM:Ty:=(bE [i64,(.U am)])
abbrev GB:Type:=((List (List UInt8))×(List Buffer)×Unit)
abbrev C4:Ty:=(bE [(.U (.U u8)),(.U MM)])
abbrev Ax:Type:=(GB×Int×GB×Int×Unit)
abbrev yE:Ty:=(bE [C4,i64,C4,i64])
abbrev Oj:Type:=(Int×Int×(List Change)×Unit)
abbrev LV:Ty:=(bE [i64,i64,(.U am)])
abbrev LW:Type:=(Int×Bool×Oj×Ax×Unit)
abbrev Kd:Ty:=(bE [i64,.bool,LV,yE])
abbrev O3:Type:=(Int×Bool×Bool×Int×(List Change)×GB×Unit)
abbrev Ol:Ty:=(bE [i64,.bool,.bool,i64,(.U am),C4])
abbrev Pn:Type:=(Int×(List Oj)×Ax×Unit)
abbrev O4:Ty:=(bE [i64,(.U LV),yE])
noncomputable def aK:TL:=[(23,(.U u8)),(2,i64),(129,aF),(22,(.U (.U u8))),(5,u8),(4,.bool),(32,(.U aR)),(124,aR),(31,cD),(199,aC),(209,am),(3,i64),(43,(.U aF)),(67,(.U am)),(122,(.U aC)),(9,.str),(190,bV),(34,co),(121,(.U i64)),(188,(.U pE)),(179,kj),(272,pE),(56,cQ),(111,(.U bV)),(201,(.U d9)),(205,d9),(25,cD),(26,(.U aR)),(45,tc),(136,o7),(163,(.U am)),(164,(.U aC)),(166,aR),(196,aF),(313,am),(28,co),(104,(.U c7)),(184,(.map aC .bool)),(187,c7),(250,kD),(50,nR),(222,qq),(319,aC),(257,(.arr 64 .bool)),(258,(.int .u64)),(260,(.map (.arr 2 i64) aF)),(261,(.arr 2 i64)),(263,(.map (.arr 2 i64) .bool))]
theorem aA:(Gx prog aK&&Bv prog aK)=true:=by kernel_rfl
namespace fO
abbrev Arg:Type:=(List UInt8)×Int×Unit
abbrev Out:Type:=Int×Unit
abbrev ps:PQ:=[(.ro,(.U u8)),(.ro,i64)]
noncomputable def D:FD:={ fn:=f115,tl:=aK,ps:=ps,rs:=[(i64,(ax i64))] }
noncomputable def ab (a:Arg):Option Out:=@lift Out fun k=>D.W k a
noncomputable def p (a1:Arg):Option Out:=bif decide (ae (a1.2.1 - (a1.1.length:Int)) < (0:Int)) then (some ((-1:Int),())) else some (ae (a1.2.1 - (a1.1.length:Int)),())
theorem aa (k:Nat) (a1:Arg):@Eq (Option Out) (D.W k a1) (p a1):=by kernel_rfl
theorem ok:Ok prog 115 D.sig:=ap func115 aA (by kernel_rfl) (al _)
end fO
namespace cX
abbrev Arg:Type:=(List (List UInt8))×Int×Unit
abbrev Out:Type:=Int×Unit
abbrev ps:PQ:=[(.ro,(.U (.U u8))),(.ro,i64)]
noncomputable def D:FD:={ fn:=f53,tl:=aK,ps:=ps,rs:=[(i64,(ax i64))],gl:=[(115,fO.D.sig)],lv:=[(5,[0,1,5])],lx:=[(0,[1])] }
noncomputable def ab (a:Arg):Option Out:=@lift Out fun k=>D.W k a
noncomputable def T0 (a1:Arg) (J:Int×Int):St:={ n:=27,sl:=[(0,.val (.U (.U u8)) a1.1),(1,.val i64 J.1),(5,.val i64 J.2)],vr:=[],av:=[] }
noncomputable def b0 (self:(Int×Int)->Option Out) (e0:Int->Option Out) (a1:Arg) (J:Int×Int):Option Out:=bif decide (J.2 < (a1.1.length:Int)) then (if 0<=J.2 then ((a1.1[J.2.toNat]?).bind fun aB=>(fO.ab (aB,J.1,())).bind fun bZ=>bif decide (bZ.1 < (0:Int)) then (some ((-1:Int),())) else self (bZ.1,ae (J.2+(1:Int)))) else none) else e0 J.1
noncomputable abbrev B0 (_:Nat):=b0
noncomputable def q0 (a1:Arg) (bN:Int):Option Out:=some (bN,())
noncomputable abbrev Q0 (_:Nat):=q0
noncomputable def s0 (k:Nat) (a1:Arg):(Int×Int)->Option Out:=fun J=>D.L k [1,1,1,0,1,0,0] [0,1,5] [] (af 0 (aq (D.N k [1,1,1,1]) D.K0)) (T0 a1 J)
noncomputable def r0 (k:Nat) (a1:Arg):(Int×Int)->Option Out:=ak (fun w v=>B0 k w (Q0 k a1) a1 v) k
theorem au (k:Nat) (a1:Arg):s0 k a1=r0 k a1:=
 funext fun J=>an _ _ _ (T0 a1) _ (fun rec v=>by kernel_rfl) k J
noncomputable def p (l0:(Int×Int)->Option Out) (a1:Arg):Option Out:=bif decide (ae (a1.2.1 - (a1.1.length:Int)) < (0:Int)) then (some ((-1:Int),())) else l0 (ae (a1.2.1 - (a1.1.length:Int)),(0:Int))
theorem aa (k:Nat) (a1:Arg):@Eq (Option Out) (D.W k a1) (p (r0 k a1) a1):=
 Eq.trans (b:=p (s0 k a1) a1) (by kernel_rfl) (by rw[au])
theorem ok:Ok prog 53 D.sig:=ap func53 aA (by kernel_rfl) (fc fO.ok (al _))
end cX
namespace k8
abbrev Arg:Type:=Log×Int×Unit
abbrev Out:Type:=Int×Unit
abbrev ps:PQ:=[(.ro,cD),(.ro,i64)]
noncomputable def D:FD:={ fn:=f54,tl:=aK,ps:=ps,rs:=[(i64,(ax i64))],gl:=[(115,fO.D.sig)] }
noncomputable def ab (a:Arg):Option Out:=@lift Out fun k=>D.W k a
noncomputable def p (a1:Arg):Option Out:=(fO.ab (a1.1.1,a1.2.1,())).bind fun r2=>bif decide (r2.1 < (0:Int)) then (some ((-1:Int),())) else (fO.ab (a1.1.2.1,r2.1,())).bind fun r3=>bif decide (r3.1 < (0:Int)) then (some ((-1:Int),())) else some (r3.1,())
theorem aa (k:Nat) (a1:Arg):@Eq (Option Out) (D.W k a1) (p a1):=by kernel_rfl
theorem ok:Ok prog 54 D.sig:=ap func54 aA (by kernel_rfl) (fc fO.ok (al _))
end k8
namespace jZ
abbrev Arg:Type:=Row×Int×Unit
abbrev Out:Type:=Int×Unit
abbrev ps:PQ:=[(.ro,aF),(.ro,i64)]
noncomputable def D:FD:={ fn:=f140,tl:=aK,ps:=ps,rs:=[(i64,(ax i64))] }
noncomputable def ab (a:Arg):Option Out:=@lift Out fun k=>D.W k a
noncomputable def p (a1:Arg):Option Out:=bif decide (ae (a1.2.1 - (a1.1.2.2.2.1.length:Int)) < (0:Int)) then (some ((-1:Int),())) else some (ae (a1.2.1 - (a1.1.2.2.2.1.length:Int)),())
theorem aa (k:Nat) (a1:Arg):@Eq (Option Out) (D.W k a1) (p a1):=by kernel_rfl
theorem ok:Ok prog 140 D.sig:=ap func140 aA (by kernel_rfl) (al _)
end jZ
namespace iS
abbrev Arg:Type:=Change×Int×Unit
abbrev Out:Type:=Int×Unit
abbrev ps:PQ:=[(.ro,am),(.ro,i64)]
noncomputable def D:FD:={ fn:=f253,tl:=aK,ps:=ps,rs:=[(i64,(ax i64))],gl:=[(140,jZ.D.sig)] }
noncomputable def ab (a:Arg):Option Out:=@lift Out fun k=>D.W k a
noncomputable def p (a1:Arg):Option Out:=(jZ.ab (a1.1.2.1,a1.2.1,())).bind fun r2=>bif decide (r2.1 < (0:Int)) then (some ((-1:Int),())) else (jZ.ab (a1.1.2.2.2.1,r2.1,())).bind fun r3=>bif decide (r3.1 < (0:Int)) then (some ((-1:Int),())) else some (r3.1,())
theorem aa (k:Nat) (a1:Arg):@Eq (Option Out) (D.W k a1) (p a1):=by kernel_rfl
theorem ok:Ok prog 253 D.sig:=ap func253 aA (by kernel_rfl) (fc jZ.ok (al _))
end iS
namespace cB
abbrev Arg:Type:=(List Change)×Int×Unit
abbrev Out:Type:=Int×Unit
abbrev ps:PQ:=[(.ro,(.U am)),(.ro,i64)]
noncomputable def D:FD:={ fn:=f186,tl:=aK,ps:=ps,rs:=[(i64,(ax i64))],gl:=[(253,iS.D.sig)],lv:=[(5,[0,1,5])],lx:=[(0,[1])] }
noncomputable def ab (a:Arg):Option Out:=@lift Out fun k=>D.W k a
noncomputable def T0 (a1:Arg) (J:Int×Int):St:={ n:=27,sl:=[(0,.val (.U am) a1.1),(1,.val i64 J.1),(5,.val i64 J.2)],vr:=[],av:=[] }
noncomputable def b0 (self:(Int×Int)->Option Out) (e0:Int->Option Out) (a1:Arg) (J:Int×Int):Option Out:=bif decide (J.2 < (a1.1.length:Int)) then (if 0<=J.2 then ((a1.1[J.2.toNat]?).bind fun aB=>(iS.ab (aB,J.1,())).bind fun bZ=>bif decide (bZ.1 < (0:Int)) then (some ((-1:Int),())) else self (bZ.1,ae (J.2+(1:Int)))) else none) else e0 J.1
noncomputable abbrev B0 (_:Nat):=b0
noncomputable def q0 (a1:Arg) (bN:Int):Option Out:=some (bN,())
noncomputable abbrev Q0 (_:Nat):=q0
noncomputable def s0 (k:Nat) (a1:Arg):(Int×Int)->Option Out:=fun J=>D.L k [1,1,1,0,1,0,0] [0,1,5] [] (af 0 (aq (D.N k [1,1,1,1]) D.K0)) (T0 a1 J)
noncomputable def r0 (k:Nat) (a1:Arg):(Int×Int)->Option Out:=ak (fun w v=>B0 k w (Q0 k a1) a1 v) k
theorem au (k:Nat) (a1:Arg):s0 k a1=r0 k a1:=
 funext fun J=>an _ _ _ (T0 a1) _ (fun rec v=>by kernel_rfl) k J
noncomputable def p (l0:(Int×Int)->Option Out) (a1:Arg):Option Out:=bif decide (ae (a1.2.1 - (a1.1.length:Int)) < (0:Int)) then (some ((-1:Int),())) else l0 (ae (a1.2.1 - (a1.1.length:Int)),(0:Int))
theorem aa (k:Nat) (a1:Arg):@Eq (Option Out) (D.W k a1) (p (r0 k a1) a1):=
 Eq.trans (b:=p (s0 k a1) a1) (by kernel_rfl) (by rw[au])
theorem ok:Ok prog 186 D.sig:=ap func186 aA (by kernel_rfl) (fc iS.ok (al _))
end cB
namespace iT
abbrev Arg:Type:=(List Int)×Int×Unit
abbrev Out:Type:=Int×Unit
abbrev ps:PQ:=[(.ro,(.U i64)),(.ro,i64)]
noncomputable def D:FD:={ fn:=f187,tl:=aK,ps:=ps,rs:=[(i64,(ax i64))] }
noncomputable def ab (a:Arg):Option Out:=@lift Out fun k=>D.W k a
noncomputable def p (a1:Arg):Option Out:=bif decide (ae (a1.2.1 - (a1.1.length:Int)) < (0:Int)) then (some ((-1:Int),())) else some (ae (a1.2.1 - (a1.1.length:Int)),())
theorem aa (k:Nat) (a1:Arg):@Eq (Option Out) (D.W k a1) (p a1):=by kernel_rfl
theorem ok:Ok prog 187 D.sig:=ap func187 aA (by kernel_rfl) (al _)
end iT
namespace km
abbrev Arg:Type:=(List Key)×Int×Unit
abbrev Out:Type:=Int×Unit
abbrev ps:PQ:=[(.ro,(.U aC)),(.ro,i64)]
noncomputable def D:FD:={ fn:=f188,tl:=aK,ps:=ps,rs:=[(i64,(ax i64))] }
noncomputable def ab (a:Arg):Option Out:=@lift Out fun k=>D.W k a
noncomputable def p (a1:Arg):Option Out:=bif decide (ae (a1.2.1 - (a1.1.length:Int)) < (0:Int)) then (some ((-1:Int),())) else some (ae (a1.2.1 - (a1.1.length:Int)),())
theorem aa (k:Nat) (a1:Arg):@Eq (Option Out) (D.W k a1) (p a1):=by kernel_rfl
theorem ok:Ok prog 188 D.sig:=ap func188 aA (by kernel_rfl) (al _)
end km
namespace lV
abbrev Arg:Type:=Tx×Int×Unit
abbrev Out:Type:=Int×Unit
abbrev ps:PQ:=[(.ro,aR),(.ro,i64)]
noncomputable def D:FD:={ fn:=f116,tl:=aK,ps:=ps,rs:=[(i64,(ax i64))],gl:=[(186,cB.D.sig),(187,iT.D.sig),(188,km.D.sig)] }
noncomputable def ab (a:Arg):Option Out:=@lift Out fun k=>D.W k a
noncomputable def p (a1:Arg):Option Out:=(cB.ab (a1.1.2.1,a1.2.1,())).bind fun r2=>bif decide (r2.1 < (0:Int)) then (some ((-1:Int),())) else (iT.ab (a1.1.2.2.1,r2.1,())).bind fun r3=>bif decide (r3.1 < (0:Int)) then (some ((-1:Int),())) else (km.ab (a1.1.2.2.2.1,r3.1,())).bind fun r4=>bif decide (r4.1 < (0:Int)) then (some ((-1:Int),())) else some (r4.1,())
theorem aa (k:Nat) (a1:Arg):@Eq (Option Out) (D.W k a1) (p a1):=by kernel_rfl
theorem ok:Ok prog 116 D.sig:=ap func116 aA (by kernel_rfl) (fc cB.ok (fc iT.ok (fc km.ok (al _))))
end lV
namespace eJ
abbrev Arg:Type:=(List Tx)×Int×Unit
abbrev Out:Type:=Int×Unit
abbrev ps:PQ:=[(.ro,(.U aR)),(.ro,i64)]
noncomputable def D:FD:={ fn:=f55,tl:=aK,ps:=ps,rs:=[(i64,(ax i64))],gl:=[(116,lV.D.sig)],lv:=[(5,[0,1,5])],lx:=[(0,[1])] }
noncomputable def ab (a:Arg):Option Out:=@lift Out fun k=>D.W k a
noncomputable def T0 (a1:Arg) (J:Int×Int):St:={ n:=27,sl:=[(0,.val (.U aR) a1.1),(1,.val i64 J.1),(5,.val i64 J.2)],vr:=[],av:=[] }
noncomputable def b0 (self:(Int×Int)->Option Out) (e0:Int->Option Out) (a1:Arg) (J:Int×Int):Option Out:=bif decide (J.2 < (a1.1.length:Int)) then (if 0<=J.2 then ((a1.1[J.2.toNat]?).bind fun aB=>(lV.ab (aB,J.1,())).bind fun bZ=>bif decide (bZ.1 < (0:Int)) then (some ((-1:Int),())) else self (bZ.1,ae (J.2+(1:Int)))) else none) else e0 J.1
noncomputable abbrev B0 (_:Nat):=b0
noncomputable def q0 (a1:Arg) (bN:Int):Option Out:=some (bN,())
noncomputable abbrev Q0 (_:Nat):=q0
noncomputable def s0 (k:Nat) (a1:Arg):(Int×Int)->Option Out:=fun J=>D.L k [1,1,1,0,1,0,0] [0,1,5] [] (af 0 (aq (D.N k [1,1,1,1]) D.K0)) (T0 a1 J)
noncomputable def r0 (k:Nat) (a1:Arg):(Int×Int)->Option Out:=ak (fun w v=>B0 k w (Q0 k a1) a1 v) k
theorem au (k:Nat) (a1:Arg):s0 k a1=r0 k a1:=
 funext fun J=>an _ _ _ (T0 a1) _ (fun rec v=>by kernel_rfl) k J
noncomputable def p (l0:(Int×Int)->Option Out) (a1:Arg):Option Out:=bif decide (ae (a1.2.1 - (a1.1.length:Int)) < (0:Int)) then (some ((-1:Int),())) else l0 (ae (a1.2.1 - (a1.1.length:Int)),(0:Int))
theorem aa (k:Nat) (a1:Arg):@Eq (Option Out) (D.W k a1) (p (r0 k a1) a1):=
 Eq.trans (b:=p (s0 k a1) a1) (by kernel_rfl) (by rw[au])
theorem ok:Ok prog 55 D.sig:=ap func55 aA (by kernel_rfl) (fc lV.ok (al _))
end eJ
namespace jz
abbrev Arg:Type:=eZ×Int×Unit
abbrev Out:Type:=Int×Unit
abbrev ps:PQ:=[(.ro,co),(.ro,i64)]
noncomputable def D:FD:={ fn:=f11,tl:=aK,ps:=ps,rs:=[(i64,(ax i64))],gl:=[(53,cX.D.sig),(54,k8.D.sig),(55,eJ.D.sig)] }
noncomputable def ab (a:Arg):Option Out:=@lift Out fun k=>D.W k a
noncomputable def p (a1:Arg):Option Out:=(cX.ab (a1.1.2.1,a1.2.1,())).bind fun r2=>bif decide (r2.1 < (0:Int)) then (some ((-1:Int),())) else (k8.ab (a1.1.2.2.1,r2.1,())).bind fun r3=>bif decide (r3.1 < (0:Int)) then (some ((-1:Int),())) else (eJ.ab (a1.1.2.2.2.1,r3.1,())).bind fun r4=>bif decide (r4.1 < (0:Int)) then (some ((-1:Int),())) else some (r4.1,())
theorem aa (k:Nat) (a1:Arg):@Eq (Option Out) (D.W k a1) (p a1):=by kernel_rfl
theorem ok:Ok prog 11 D.sig:=ap func11 aA (by kernel_rfl) (fc cX.ok (fc k8.ok (fc eJ.ok (al _))))
end jz
namespace fP
abbrev Arg:Type:=Row×Row×Unit
abbrev Out:Type:=Bool×Unit
abbrev ps:PQ:=[(.ro,(.ptr aF)),(.ro,(.ptr aF))]
noncomputable def D:FD:={ fn:=f214,tl:=aK,ps:=ps,rs:=[(.bool,(ax .bool))],od:=[(1,[0,1,2,3,4,5,6,7,8,9,10,11,12,13,14,15,16,17,18,19,20,21,22,23,24,25,26,27,28,29,30,31])] }
noncomputable def ab (a:Arg):Option Out:=@lift Out fun k=>D.W k a
noncomputable def p (a1:Arg):Option Out:=bif decide (a1.1.1 < a1.2.1.1) then (some (true,())) else bif decide (a1.1.1=a1.2.1.1) then (some (decide (a1.1.2.1 < a1.2.1.2.1),())) else some (false,())
theorem aa (k:Nat) (a1:Arg):@Eq (Option Out) (D.W k a1) (p a1):=by kernel_rfl
theorem ok:Ok prog 214 D.sig:=ap func214 aA (by kernel_rfl) (al _)
end fP
namespace eo
abbrev Arg:Type:=(List Row)×Row×Unit
abbrev Out:Type:=(List Row)×Unit
abbrev ps:PQ:=[(.ro,(.U aF)),(.ro,aF)]
noncomputable def D:FD:={ fn:=f146,tl:=aK,ps:=ps,rs:=[((.U aF),(ao (.U aF)))],gl:=[(214,fP.D.sig)],lv:=[(2,[0,3,5])],lx:=[(0,[0,3,5])],od:=[(5,[0,1,4,5,6,2,3,7,8])] }
noncomputable def ab (a:Arg):Option Out:=@lift Out fun k=>D.W k a
noncomputable def T0 (a1:Arg) (J:Int):St:={ n:=32,sl:=[(0,.val (.U aF) a1.1),(3,.box aF (ax aF) [] a1.2.1),(5,.val i64 J)],vr:=[],av:=[] }
noncomputable def b0 (self:Int->Option Out) (e0:Int->Option Out) (a1:Arg) (J:Int):Option Out:=bif decide (J < (a1.1.length:Int)) then (if 0<=J then ((a1.1[J.toNat]?).bind fun aB=>(fP.ab (aB,a1.2.1,())).bind fun bZ=>bif bZ.1 then (self (ae (J+(1:Int)))) else e0 J) else none) else e0 J
noncomputable abbrev B0 (_:Nat):=b0
noncomputable def q0 (a1:Arg) (bN:Int):Option Out:=if 0<=bN/\bN<=(a1.1.length:Int) then (if ([]:List Row).length+((a1.1.take bN.toNat).drop 0).length<=bf then (let o8:=([]:List Row)++((a1.1.take bN.toNat).drop 0);if 0<=bN/\bN<=(a1.1.length:Int) then (if o8.length+[a1.2.1].length<=bf then (if (o8++[a1.2.1]).length+((a1.1.take a1.1.length).drop bN.toNat).length<=bf then (let vM:=(o8++[a1.2.1])++((a1.1.take a1.1.length).drop bN.toNat);some (vM,())) else none) else none) else none) else none) else none
noncomputable abbrev Q0 (_:Nat):=q0
noncomputable def s0 (k:Nat) (a1:Arg):(Int)->Option Out:=fun J=>D.L k [1,1,0,0,0] [0,3,5] [] (af 0 (aq (D.N k [1,1,1]) D.K0)) (T0 a1 J)
noncomputable def r0 (k:Nat) (a1:Arg):(Int)->Option Out:=ak (fun w v=>B0 k w (Q0 k a1) a1 v) k
theorem au (k:Nat) (a1:Arg):s0 k a1=r0 k a1:=
 funext fun J=>an _ _ _ (T0 a1) _ (fun rec v=>by kernel_rfl) k J
noncomputable def p (l0:(Int)->Option Out) (a1:Arg):Option Out:=l0 (0:Int)
theorem aa (k:Nat) (a1:Arg):@Eq (Option Out) (D.W k a1) (p (r0 k a1) a1):=
 Eq.trans (b:=p (s0 k a1) a1) (by kernel_rfl) (by rw[au])
theorem ok:Ok prog 146 D.sig:=ap func146 aA (by kernel_rfl) (fc fP.ok (al _))
end eo
namespace iz
abbrev Arg:Type:=Change×Unit
abbrev Out:Type:=Int×Int×Unit
abbrev ps:PQ:=[(.ro,(.ptr am))]
noncomputable def D:FD:={ fn:=f292,tl:=aK,ps:=ps,rs:=[(i64,(ax i64)),(i64,(ax i64))],od:=[(2,[0,1,2,3,4,5,6,7,8,9,10,11]),(3,[0,1,2,3,4,5,6,7,8,9,10,11])] }
noncomputable def ab (a:Arg):Option Out:=@lift Out fun k=>D.W k a
noncomputable def p (a1:Arg):Option Out:=bif a1.1.2.2.1 then (some (a1.1.2.2.2.1.1,a1.1.2.2.2.1.2.1,())) else some (a1.1.2.1.1,a1.1.2.1.2.1,())
theorem aa (k:Nat) (a1:Arg):@Eq (Option Out) (D.W k a1) (p a1):=by kernel_rfl
theorem ok:Ok prog 292 D.sig:=ap func292 aA (by kernel_rfl) (al _)
end iz
namespace fY
abbrev Arg:Type:=(List Row)×Int×Int×Unit
abbrev Out:Type:=Int×Unit
abbrev ps:PQ:=[(.ro,(.U aF)),(.ro,i64),(.ro,i64)]
noncomputable def D:FD:={ fn:=f293,tl:=aK,ps:=ps,rs:=[(i64,(ax i64))],lv:=[(2,[0,1,2,7])],lx:=[(0,[])] }
noncomputable def ab (a:Arg):Option Out:=@lift Out fun k=>D.W k a
noncomputable def T0 (a1:Arg) (J:Int):St:={ n:=31,sl:=[(0,.val (.U aF) a1.1),(1,.val i64 a1.2.1),(2,.val i64 a1.2.2.1),(7,.val i64 J)],vr:=[],av:=[] }
noncomputable def b0 (self:Int->Option Out) (e0:(Unit)->Option Out) (a1:Arg) (J:Int):Option Out:=bif decide (J < (a1.1.length:Int)) then (if 0<=J then ((a1.1[J.toNat]?).bind fun aB=>bif decide (aB.1=a1.2.1) then (if 0<=J then ((a1.1[J.toNat]?).bind fun cY=>bif decide (cY.2.1=a1.2.2.1) then (some (J,())) else self (ae (J+(1:Int)))) else none) else self (ae (J+(1:Int)))) else none) else e0 ()
noncomputable abbrev B0 (_:Nat):=b0
noncomputable def q0 (a1:Arg) (bN:(Unit)):Option Out:=some ((-1:Int),())
noncomputable abbrev Q0 (_:Nat):=q0
noncomputable def s0 (k:Nat) (a1:Arg):(Int)->Option Out:=fun J=>D.L k [1,0,1,0,0] [0,1,2,7] [] (af 0 (aq (D.N k [1,1]) D.K0)) (T0 a1 J)
noncomputable def r0 (k:Nat) (a1:Arg):(Int)->Option Out:=ak (fun w v=>B0 k w (Q0 k a1) a1 v) k
theorem au (k:Nat) (a1:Arg):s0 k a1=r0 k a1:=
 funext fun J=>an _ _ _ (T0 a1) _ (fun rec v=>by kernel_rfl) k J
noncomputable def p (l0:(Int)->Option Out) (a1:Arg):Option Out:=l0 (0:Int)
theorem aa (k:Nat) (a1:Arg):@Eq (Option Out) (D.W k a1) (p (r0 k a1) a1):=
 Eq.trans (b:=p (s0 k a1) a1) (by kernel_rfl) (by rw[au])
theorem ok:Ok prog 293 D.sig:=ap func293 aA (by kernel_rfl) (al _)
end fY
namespace fZ
abbrev Arg:Type:=(List Row)×Change×Unit
abbrev Out:Type:=(List Row)×Bool×Unit
abbrev ps:PQ:=[(.ro,(.U aF)),(.ro,(.ptr am))]
noncomputable def D:FD:={ fn:=f248,tl:=aK,ps:=ps,rs:=[((.U aF),(ao (.U aF))),(.bool,(ax .bool))],gl:=[(146,eo.D.sig),(292,iz.D.sig),(293,fY.D.sig)],lv:=[(7,[0,1,8,9,10])],lx:=[(0,[1,9])],od:=[(3,[0,1,2,3,4,5,6,7,8,9,10,11,12,13,14,15,16,17,18,19,20,21])] }
noncomputable def ab (a:Arg):Option Out:=@lift Out fun k=>D.W k a
noncomputable def T0 (a1:Arg) (iA:Int) (cR:(List Row)×Int):St:={ n:=70,sl:=[(0,.val (.U aF) a1.1),(1,.cp am a1.2.1),(8,.val i64 iA),(9,.own (.U aF) (ao (.U aF)) [] cR.1),(10,.val i64 cR.2)],vr:=[],av:=[] }
noncomputable def b0 (self:((List Row)×Int)->Option Out) (e0:(List Row)->Option Out) (a1:Arg) (iA:Int) (cR:(List Row)×Int):Option Out:=bif decide (cR.2 < (a1.1.length:Int)) then (bif !decide (cR.2=iA) then (if 0<=cR.2 then ((a1.1[cR.2.toNat]?).bind fun wx=>if cR.1.length+[wx].length<=bf then (self (cR.1++[wx],ae (cR.2+(1:Int)))) else none) else none) else self (cR.1,ae (cR.2+(1:Int)))) else e0 cR.1
noncomputable abbrev B0 (_:Nat):=b0
noncomputable def q0 (a1:Arg) (iA:Int) (LX:(List Row)):Option Out:=bif a1.2.1.2.2.1 then ((eo.ab (LX,a1.2.1.2.2.2.1,())).bind fun yF=>some (yF.1,true,())) else some (LX,true,())
noncomputable abbrev Q0 (_:Nat):=q0
noncomputable def s0 (k:Nat) (a1:Arg):Int->((List Row)×Int)->Option Out:=fun iA=>fun cR=>D.L k [1,1,1,1,1,0,1,0,0] [0,1,8,9,10] [] (af 0 (aq (D.N k [1,1,1,1,1,1]) D.K0)) (T0 a1 iA cR)
noncomputable def r0 (k:Nat) (a1:Arg):Int->((List Row)×Int)->Option Out:=fun iA=>ak (fun w v=>B0 k w (Q0 k a1 iA) a1 iA v) k
theorem au (k:Nat) (a1:Arg):s0 k a1=r0 k a1:=
 funext fun iA=>funext fun cR=>an _ _ _ (T0 a1 iA) _ (fun rec v=>by kernel_rfl) k cR
noncomputable def p (l0:Int->((List Row)×Int)->Option Out) (a1:Arg):Option Out:=(iz.ab (a1.2.1,())).bind fun r2=>(fY.ab (a1.1,r2.1,r2.2.1,())).bind fun r3=>let C5:Option Out:=l0 r3.1 (([]:List Row),(0:Int));bif !(a1.2.1.1 == (decide ((0:Int)<=r3.1))) then (some (([]:List Row),false,())) else bif decide ((0:Int)<=r3.1) then (if 0<=r3.1 then ((a1.1[r3.1.toNat]?).bind fun x4=>bif !(Ty.eq aF x4 a1.2.1.2.1) then (some (([]:List Row),false,())) else C5) else none) else C5
theorem aa (k:Nat) (a1:Arg):@Eq (Option Out) (D.W k a1) (p (r0 k a1) a1):=
 Eq.trans (b:=p (s0 k a1) a1) (by kernel_rfl) (by rw[au])
theorem ok:Ok prog 248 D.sig:=ap func248 aA (by kernel_rfl) (fc eo.ok (fc iz.ok (fc fY.ok (al _))))
end fZ
namespace eb
abbrev Arg:Type:=(List Change)×Unit
abbrev Out:Type:=(List Change)×Unit
abbrev ps:PQ:=[(.ro,(.U am))]
noncomputable def D:FD:={ fn:=f249,tl:=aK,ps:=ps,rs:=[((.U am),(ao (.U am)))],lv:=[(3,[0,3,4])],lx:=[(0,[3])] }
noncomputable def ab (a:Arg):Option Out:=@lift Out fun k=>D.W k a
noncomputable def T0 (a1:Arg) (J:(List Change)×Int):St:={ n:=31,sl:=[(0,.val (.U am) a1.1),(3,.own (.U am) (ao (.U am)) [] J.1),(4,.val i64 J.2)],vr:=[],av:=[] }
noncomputable def b0 (self:((List Change)×Int)->Option Out) (e0:(List Change)->Option Out) (a1:Arg) (J:(List Change)×Int):Option Out:=bif decide ((0:Int)<=J.2) then (if 0<=J.2 then ((a1.1[J.2.toNat]?).bind fun aB=>if J.1.length+[(aB.2.2.1,aB.2.2.2.1,aB.1,aB.2.1,())].length<=bf then (let jP:=J.1++[(aB.2.2.1,aB.2.2.2.1,aB.1,aB.2.1,())];self (jP,ae (J.2 - (1:Int)))) else none) else none) else e0 J.1
noncomputable abbrev B0 (_:Nat):=b0
noncomputable def q0 (a1:Arg) (bN:(List Change)):Option Out:=some (bN,())
noncomputable abbrev Q0 (_:Nat):=q0
noncomputable def s0 (k:Nat) (a1:Arg):((List Change)×Int)->Option Out:=fun J=>D.L k [1,1,0,1,0,0] [0,3,4] [] (af 0 (aq (D.N k [1,1,1]) D.K0)) (T0 a1 J)
noncomputable def r0 (k:Nat) (a1:Arg):((List Change)×Int)->Option Out:=ak (fun w v=>B0 k w (Q0 k a1) a1 v) k
theorem au (k:Nat) (a1:Arg):s0 k a1=r0 k a1:=
 funext fun J=>an _ _ _ (T0 a1) _ (fun rec v=>by kernel_rfl) k J
noncomputable def p (l0:((List Change)×Int)->Option Out) (a1:Arg):Option Out:=l0 (([]:List Change),ae ((a1.1.length:Int) - (1:Int)))
theorem aa (k:Nat) (a1:Arg):@Eq (Option Out) (D.W k a1) (p (r0 k a1) a1):=
 Eq.trans (b:=p (s0 k a1) a1) (by kernel_rfl) (by rw[au])
theorem ok:Ok prog 249 D.sig:=ap func249 aA (by kernel_rfl) (al _)
end eb
namespace fl
abbrev Arg:Type:=(List Row)×(List Change)×Unit
abbrev Out:Type:=(List Row)×Bool×Unit
abbrev ps:PQ:=[(.ro,(.U aF)),(.ro,(.U am))]
noncomputable def D:FD:={ fn:=f181,tl:=aK,ps:=ps,rs:=[((.U aF),(ax (.U aF))),(.bool,(ax .bool))],gl:=[(248,fZ.D.sig),(249,eb.D.sig)],lv:=[(3,[0,6,7])],lx:=[(0,[0])],lf:=[(3,[(0,(.U false (.pair .leaf (.pair .leaf (.pair .leaf (.pair .leaf .leaf))))))])] }
noncomputable def ab (a:Arg):Option Out:=@lift Out fun k=>D.W k a
noncomputable def T0 (a1:Arg) (fm:List Change) (a7:(List Row)×Int):St:={ n:=30,sl:=[(0,.val (.U aF) a7.1),(6,.own (.U am) (ao (.U am)) [] fm),(7,.val i64 a7.2)],vr:=[],av:=[] }
noncomputable def b0 (self:((List Row)×Int)->Option Out) (e0:(List Row)->Option Out) (a1:Arg) (fm:List Change) (a7:(List Row)×Int):Option Out:=bif decide (a7.2 < (fm.length:Int)) then (if 0<=a7.2/\a7.2 < (fm.length:Int) then ((fm[a7.2.toNat]?).bind fun cE=>(fZ.ab (a7.1,cE,())).bind fun kE=>bif !kE.2.1 then (some (([]:List Row),false,())) else self (kE.1,ae (a7.2+(1:Int)))) else none) else e0 a7.1
noncomputable abbrev B0 (_:Nat):=b0
noncomputable def q0 (a1:Arg) (fm:List Change) (gq:(List Row)):Option Out:=some (gq,true,())
noncomputable abbrev Q0 (_:Nat):=q0
noncomputable def s0 (k:Nat) (a1:Arg):(List Change)->((List Row)×Int)->Option Out:=fun fm=>fun a7=>D.L k [1,1,0,1,0,0] [0,6,7] [(0,(.U false (.pair .leaf (.pair .leaf (.pair .leaf (.pair .leaf .leaf))))))] (af 0 (aq (D.N k [1,1,1]) D.K0)) (T0 a1 fm a7)
noncomputable def r0 (k:Nat) (a1:Arg):(List Change)->((List Row)×Int)->Option Out:=fun fm=>ak (fun w v=>B0 k w (Q0 k a1 fm) a1 fm v) k
theorem au (k:Nat) (a1:Arg):s0 k a1=r0 k a1:=
 funext fun fm=>funext fun a7=>an _ _ _ (T0 a1 fm) _ (fun rec v=>by kernel_rfl) k a7
noncomputable def p (l0:(List Change)->((List Row)×Int)->Option Out) (a1:Arg):Option Out:=(eb.ab (a1.2.1,())).bind fun r2=>l0 r2.1 (a1.1,(0:Int))
theorem aa (k:Nat) (a1:Arg):@Eq (Option Out) (D.W k a1) (p (r0 k a1) a1):=
 Eq.trans (b:=p (s0 k a1) a1) (by kernel_rfl) (by rw[au])
theorem ok:Ok prog 181 D.sig:=ap func181 aA (by kernel_rfl) (fc fZ.ok (fc eb.ok (al _)))
end fl
namespace fq
abbrev Arg:Type:=(List Row)×(List Tx)×Unit
abbrev Out:Type:=(List Row)×Bool×Unit
abbrev ps:PQ:=[(.ro,(.U aF)),(.ro,(.U aR))]
noncomputable def D:FD:={ fn:=f112,tl:=aK,ps:=ps,rs:=[((.U aF),(ax (.U aF))),(.bool,(ax .bool))],gl:=[(181,fl.D.sig)],lv:=[(3,[1,6,7])],lx:=[(0,[6])],lf:=[(3,[(6,(.U false (.pair .leaf (.pair .leaf (.pair .leaf (.pair .leaf .leaf))))))])] }
noncomputable def ab (a:Arg):Option Out:=@lift Out fun k=>D.W k a
noncomputable def T0 (a1:Arg) (J:(List Row)×Int):St:={ n:=33,sl:=[(1,.val (.U aR) a1.2.1),(6,.val (.U aF) J.1),(7,.val i64 J.2)],vr:=[],av:=[] }
noncomputable def b0 (self:((List Row)×Int)->Option Out) (e0:(List Row)->Option Out) (a1:Arg) (J:(List Row)×Int):Option Out:=bif decide (J.2 < (a1.2.1.length:Int)) then (if 0<=J.2 then ((a1.2.1[J.2.toNat]?).bind fun aB=>(fl.ab (J.1,aB.2.1,())).bind fun bZ=>bif !bZ.2.1 then (some (([]:List Row),false,())) else self (bZ.1,ae (J.2+(1:Int)))) else none) else e0 J.1
noncomputable abbrev B0 (_:Nat):=b0
noncomputable def q0 (a1:Arg) (bN:(List Row)):Option Out:=some (bN,true,())
noncomputable abbrev Q0 (_:Nat):=q0
noncomputable def s0 (k:Nat) (a1:Arg):((List Row)×Int)->Option Out:=fun J=>D.L k [1,1,0,1,0,0] [1,6,7] [(6,(.U false (.pair .leaf (.pair .leaf (.pair .leaf (.pair .leaf .leaf))))))] (af 0 (aq (D.N k [1,1,1]) D.K0)) (T0 a1 J)
noncomputable def r0 (k:Nat) (a1:Arg):((List Row)×Int)->Option Out:=ak (fun w v=>B0 k w (Q0 k a1) a1 v) k
theorem au (k:Nat) (a1:Arg):s0 k a1=r0 k a1:=
 funext fun J=>an _ _ _ (T0 a1) _ (fun rec v=>by kernel_rfl) k J
noncomputable def p (l0:((List Row)×Int)->Option Out) (a1:Arg):Option Out:=if ([]:List Row).length+a1.1.length<=bf then (l0 (([]:List Row)++a1.1,(0:Int))) else none
theorem aa (k:Nat) (a1:Arg):@Eq (Option Out) (D.W k a1) (p (r0 k a1) a1):=
 Eq.trans (b:=p (s0 k a1) a1) (by kernel_rfl) (by rw[au])
theorem ok:Ok prog 112 D.sig:=ap func112 aA (by kernel_rfl) (fc fl.ok (al _))
end fq
namespace aP
abbrev Arg:Type:=Int×Int×Int×Unit
abbrev Out:Type:=Bool×Unit
abbrev ps:PQ:=[(.ro,i64),(.ro,i64),(.ro,i64)]
noncomputable def D:FD:={ fn:=f118,tl:=aK,ps:=ps,rs:=[(.bool,(ax .bool))] }
noncomputable def ab (a:Arg):Option Out:=@lift Out fun k=>D.W k a
noncomputable def p (a1:Arg):Option Out:=bif decide (a1.2.1<=a1.1) then (some (decide (a1.1<=a1.2.2.1),())) else some (false,())
theorem aa (k:Nat) (a1:Arg):@Eq (Option Out) (D.W k a1) (p a1):=by kernel_rfl
theorem ok:Ok prog 118 D.sig:=ap func118 aA (by kernel_rfl) (al _)
end aP
namespace fx
abbrev Arg:Type:=(List UInt8)×Unit
abbrev Out:Type:=Bool×Unit
abbrev ps:PQ:=[(.ro,.str)]
noncomputable def D:FD:={ fn:=f272,tl:=aK,ps:=ps,rs:=[(.bool,(ax .bool))],lv:=[(2,[0,3])],lx:=[(0,[0])] }
noncomputable def ab (a:Arg):Option Out:=@lift Out fun k=>D.W k a
noncomputable def T0 (a1:Arg) (J:Int):St:={ n:=23,sl:=[(0,.val .str a1.1),(3,.val i64 J)],vr:=[],av:=[] }
noncomputable def b0 (self:Int->Option Out) (e0:(Unit)->Option Out) (a1:Arg) (J:Int):Option Out:=bif decide (J < (a1.1.length:Int)) then (if 0<=J then ((a1.1[J.toNat]?).bind fun aB=>bif decide ((aB.toNat:Int) < (97:Int)) then (some (false,())) else if 0<=J then ((a1.1[J.toNat]?).bind fun cY=>bif decide ((122:Int) < (cY.toNat:Int)) then (some (false,())) else self (ae (J+(1:Int)))) else none) else none) else e0 ()
noncomputable abbrev B0 (_:Nat):=b0
noncomputable def q0 (a1:Arg) (bN:(Unit)):Option Out:=some (decide ((a1.1.length:Int)<=(8:Int)),())
noncomputable abbrev Q0 (_:Nat):=q0
noncomputable def s0 (k:Nat) (a1:Arg):(Int)->Option Out:=fun J=>D.L k [1,0,1,0,0] [0,3] [] (af 0 (aq (D.N k [1,1]) D.K0)) (T0 a1 J)
noncomputable def r0 (k:Nat) (a1:Arg):(Int)->Option Out:=ak (fun w v=>B0 k w (Q0 k a1) a1 v) k
theorem au (k:Nat) (a1:Arg):s0 k a1=r0 k a1:=
 funext fun J=>an _ _ _ (T0 a1) _ (fun rec v=>by kernel_rfl) k J
noncomputable def p (l0:(Int)->Option Out) (a1:Arg):Option Out:=l0 (0:Int)
theorem aa (k:Nat) (a1:Arg):@Eq (Option Out) (D.W k a1) (p (r0 k a1) a1):=
 Eq.trans (b:=p (s0 k a1) a1) (by kernel_rfl) (by rw[au])
theorem ok:Ok prog 272 D.sig:=ap func272 aA (by kernel_rfl) (al _)
end fx
namespace dt
abbrev Arg:Type:=Row×Unit
abbrev Out:Type:=Int×Unit
abbrev ps:PQ:=[(.ro,(.ptr aF))]
noncomputable def D:FD:={ fn:=f213,tl:=aK,ps:=ps,rs:=[(i64,(ax i64))],gl:=[(118,aP.D.sig),(272,fx.D.sig)] }
noncomputable def ab (a:Arg):Option Out:=@lift Out fun k=>D.W k a
noncomputable def p (a1:Arg):Option Out:=(aP.ab (a1.1.1,(0:Int),(3:Int),())).bind fun r2=>bif !r2.1 then (some ((3:Int),())) else (aP.ab (a1.1.2.1,(1:Int),(99:Int),())).bind fun r3=>bif !r3.1 then (some ((3:Int),())) else (aP.ab (a1.1.2.2.1,(0:Int),(999:Int),())).bind fun r4=>bif !r4.1 then (some ((3:Int),())) else (fx.ab (a1.1.2.2.2.1,())).bind fun r5=>bif !r5.1 then (some ((5:Int),())) else some ((0:Int),())
theorem aa (k:Nat) (a1:Arg):@Eq (Option Out) (D.W k a1) (p a1):=by kernel_rfl
theorem ok:Ok prog 213 D.sig:=ap func213 aA (by kernel_rfl) (fc aP.ok (fc fx.ok (al _)))
end dt
namespace eB
abbrev Arg:Type:=(List Row)×Unit
abbrev Out:Type:=Int×Unit
abbrev ps:PQ:=[(.ro,(.U aF))]
noncomputable def D:FD:={ fn:=f141,tl:=aK,ps:=ps,rs:=[(i64,(ax i64))],gl:=[(213,dt.D.sig),(214,fP.D.sig)],lv:=[(4,[0,3])],lx:=[(0,[])],od:=[(9,[0,1,2,3,4,5,6,7,8,9,10,11,12])] }
noncomputable def ab (a:Arg):Option Out:=@lift Out fun k=>D.W k a
noncomputable def T0 (a1:Arg) (J:Int):St:={ n:=34,sl:=[(0,.val (.U aF) a1.1),(3,.val i64 J)],vr:=[],av:=[] }
noncomputable def b0 (self:Int->Option Out) (e0:(Unit)->Option Out) (a1:Arg) (J:Int):Option Out:=bif decide (J < (a1.1.length:Int)) then (if 0<=J then ((a1.1[J.toNat]?).bind fun aB=>(dt.ab (aB,())).bind fun bZ=>bif !decide (bZ.1=(0:Int)) then (some (bZ.1,())) else bif decide ((0:Int) < J) then (if 0<=ae (J - (1:Int)) then ((a1.1[(ae (J - (1:Int))).toNat]?).bind fun cE=>if 0<=J then ((a1.1[J.toNat]?).bind fun ne=>(fP.ab (cE,ne,())).bind fun iB=>bif !iB.1 then (some ((1:Int),())) else self (ae (J+(1:Int)))) else none) else none) else self (ae (J+(1:Int)))) else none) else e0 ()
noncomputable abbrev B0 (_:Nat):=b0
noncomputable def q0 (a1:Arg) (l8:(Unit)):Option Out:=some ((0:Int),())
noncomputable abbrev Q0 (_:Nat):=q0
noncomputable def s0 (k:Nat) (a1:Arg):(Int)->Option Out:=fun J=>D.L k [1,1,0,1,0,0] [0,3] [] (af 0 (aq (D.N k [1,1,1]) D.K0)) (T0 a1 J)
noncomputable def r0 (k:Nat) (a1:Arg):(Int)->Option Out:=ak (fun w v=>B0 k w (Q0 k a1) a1 v) k
theorem au (k:Nat) (a1:Arg):s0 k a1=r0 k a1:=
 funext fun J=>an _ _ _ (T0 a1) _ (fun rec v=>by kernel_rfl) k J
noncomputable def p (l0:(Int)->Option Out) (a1:Arg):Option Out:=bif decide ((60:Int) < (a1.1.length:Int)) then (some ((2:Int),())) else l0 (0:Int)
theorem aa (k:Nat) (a1:Arg):@Eq (Option Out) (D.W k a1) (p (r0 k a1) a1):=
 Eq.trans (b:=p (s0 k a1) a1) (by kernel_rfl) (by rw[au])
theorem ok:Ok prog 141 D.sig:=ap func141 aA (by kernel_rfl) (fc dt.ok (fc fP.ok (al _)))
end eB
namespace iU
abbrev Arg:Type:=Change×Unit
abbrev Out:Type:=Int×Unit
abbrev ps:PQ:=[(.ro,(.ptr am))]
noncomputable def D:FD:={ fn:=f247,tl:=aK,ps:=ps,rs:=[(i64,(ax i64))],gl:=[(213,dt.D.sig)],od:=[(1,[0,1,2,3,4,5,6,7,8,9,10,11,12,13,14,15,16,17,18,19,20,21,22,23,24,25,26,27,28,29,30,31,32,33,34,35,36,37,38,39,40,41,42,43,44,45,46,47,48,49])] }
noncomputable def ab (a:Arg):Option Out:=@lift Out fun k=>D.W k a
noncomputable def p (a1:Arg):Option Out:=let j5:Option Out:=bif a1.1.1 then ((dt.ab (a1.1.2.1,())).bind fun r6=>bif !decide (r6.1=(0:Int)) then (some (r6.1,())) else bif a1.1.2.2.1 then ((dt.ab (a1.1.2.2.2.1,())).bind fun r8=>some (r8.1,())) else some ((0:Int),())) else bif a1.1.2.2.1 then ((dt.ab (a1.1.2.2.2.1,())).bind fun r9=>some (r9.1,())) else some ((0:Int),());bif !a1.1.1 then (bif !a1.1.2.2.1 then (some ((1:Int),())) else bif a1.1.1 then (bif a1.1.2.2.1 then (bif !decide (a1.1.2.1.1=a1.1.2.2.2.1.1) then (some ((1:Int),())) else bif !decide (a1.1.2.1.2.1=a1.1.2.2.2.1.2.1) then (some ((1:Int),())) else j5) else j5) else j5) else bif a1.1.1 then (bif a1.1.2.2.1 then (bif !decide (a1.1.2.1.1=a1.1.2.2.2.1.1) then (some ((1:Int),())) else bif !decide (a1.1.2.1.2.1=a1.1.2.2.2.1.2.1) then (some ((1:Int),())) else j5) else j5) else j5
theorem aa (k:Nat) (a1:Arg):@Eq (Option Out) (D.W k a1) (p a1):=by kernel_rfl
theorem ok:Ok prog 247 D.sig:=ap func247 aA (by kernel_rfl) (fc dt.ok (al _))
end iU
namespace iV
abbrev Arg:Type:=Change×Unit
abbrev Out:Type:=Int×Unit
abbrev ps:PQ:=[(.ro,(.ptr am))]
noncomputable def D:FD:={ fn:=f273,tl:=aK,ps:=ps,rs:=[(i64,(ax i64))],gl:=[(247,iU.D.sig)],od:=[(4,[0,1,2,3,4,5,6,7,8,9,10,11,12,13,14,15,16,17,18,19,20])] }
noncomputable def ab (a:Arg):Option Out:=@lift Out fun k=>D.W k a
noncomputable def p (a1:Arg):Option Out:=(iU.ab (a1.1,())).bind fun r2=>bif !decide (r2.1=(0:Int)) then (some (r2.1,())) else bif a1.1.1 then (bif a1.1.2.2.1 then (bif (Ty.eq aF a1.1.2.1 a1.1.2.2.2.1) then (some ((1:Int),())) else some ((0:Int),())) else some ((0:Int),())) else some ((0:Int),())
theorem aa (k:Nat) (a1:Arg):@Eq (Option Out) (D.W k a1) (p a1):=by kernel_rfl
theorem ok:Ok prog 273 D.sig:=ap func273 aA (by kernel_rfl) (fc iU.ok (al _))
end iV
namespace dF
abbrev Arg:Type:=Tx×Key×Unit
abbrev Out:Type:=Bool×Unit
abbrev ps:PQ:=[(.ro,(.ptr aR)),(.ro,aC)]
noncomputable def D:FD:={ fn:=f274,tl:=aK,ps:=ps,rs:=[(.bool,(ax .bool))],lv:=[(2,[0,3,5])],lx:=[(0,[])],od:=[(4,[0,1,2,3,4,5,6,7,8])] }
noncomputable def ab (a:Arg):Option Out:=@lift Out fun k=>D.W k a
noncomputable def T0 (a1:Arg) (J:Int):St:={ n:=24,sl:=[(0,.cp aR a1.1),(3,.box aC (ax aC) [] a1.2.1),(5,.val i64 J)],vr:=[],av:=[] }
noncomputable def b0 (self:Int->Option Out) (e0:(Unit)->Option Out) (a1:Arg) (J:Int):Option Out:=bif decide (J < (a1.1.2.2.2.1.length:Int)) then (if 0<=J then ((a1.1.2.2.2.1[J.toNat]?).bind fun aB=>bif (Ty.eq aC aB a1.2.1) then (some (true,())) else self (ae (J+(1:Int)))) else none) else e0 ()
noncomputable abbrev B0 (_:Nat):=b0
noncomputable def q0 (a1:Arg) (hU:(Unit)):Option Out:=some (false,())
noncomputable abbrev Q0 (_:Nat):=q0
noncomputable def s0 (k:Nat) (a1:Arg):(Int)->Option Out:=fun J=>D.L k [1,0,1,0,0] [0,3,5] [] (af 0 (aq (D.N k [1,1]) D.K0)) (T0 a1 J)
noncomputable def r0 (k:Nat) (a1:Arg):(Int)->Option Out:=ak (fun w v=>B0 k w (Q0 k a1) a1 v) k
theorem au (k:Nat) (a1:Arg):s0 k a1=r0 k a1:=
 funext fun J=>an _ _ _ (T0 a1) _ (fun rec v=>by kernel_rfl) k J
noncomputable def p (l0:(Int)->Option Out) (a1:Arg):Option Out:=l0 (0:Int)
theorem aa (k:Nat) (a1:Arg):@Eq (Option Out) (D.W k a1) (p (r0 k a1) a1):=
 Eq.trans (b:=p (s0 k a1) a1) (by kernel_rfl) (by rw[au])
theorem ok:Ok prog 274 D.sig:=ap func274 aA (by kernel_rfl) (al _)
end dF
namespace iW
abbrev Arg:Type:=Change×Unit
abbrev Out:Type:=Key×Unit
abbrev ps:PQ:=[(.ro,(.ptr am))]
noncomputable def D:FD:={ fn:=f275,tl:=aK,ps:=ps,rs:=[(aC,(ax aC))],gl:=[(292,iz.D.sig)] }
noncomputable def ab (a:Arg):Option Out:=@lift Out fun k=>D.W k a
noncomputable def p (a1:Arg):Option Out:=(iz.ab (a1.1,())).bind fun r2=>some ((r2.1,r2.2.1,()),())
theorem aa (k:Nat) (a1:Arg):@Eq (Option Out) (D.W k a1) (p a1):=by kernel_rfl
theorem ok:Ok prog 275 D.sig:=ap func275 aA (by kernel_rfl) (fc iz.ok (al _))
end iW
namespace fQ
abbrev Arg:Type:=Tx×Unit
abbrev Out:Type:=Int×Unit
abbrev ps:PQ:=[(.ro,(.ptr aR))]
noncomputable def D:FD:={ fn:=f215,tl:=aK,ps:=ps,rs:=[(i64,(ax i64))],gl:=[(273,iV.D.sig),(274,dF.D.sig),(275,iW.D.sig)],lv:=[(2,[0,3])],lx:=[(0,[])] }
noncomputable def ab (a:Arg):Option Out:=@lift Out fun k=>D.W k a
noncomputable def T0 (a1:Arg) (J:Int):St:={ n:=34,sl:=[(0,.cp aR a1.1),(3,.val i64 J)],vr:=[],av:=[] }
noncomputable def b0 (self:Int->Option Out) (e0:(Unit)->Option Out) (a1:Arg) (J:Int):Option Out:=bif decide (J < (a1.1.2.1.length:Int)) then (if 0<=J then ((a1.1.2.1[J.toNat]?).bind fun aB=>(iV.ab (aB,())).bind fun bZ=>bif !decide (bZ.1=(0:Int)) then (some (bZ.1,())) else if 0<=J then ((a1.1.2.1[J.toNat]?).bind fun cE=>(iW.ab (cE,())).bind fun kE=>(dF.ab (a1.1,kE.1,())).bind fun iB=>bif !iB.1 then (some ((8:Int),())) else self (ae (J+(1:Int)))) else none) else none) else e0 ()
noncomputable abbrev B0 (_:Nat):=b0
noncomputable def q0 (a1:Arg) (l8:(Unit)):Option Out:=some ((0:Int),())
noncomputable abbrev Q0 (_:Nat):=q0
noncomputable def s0 (k:Nat) (a1:Arg):(Int)->Option Out:=fun J=>D.L k [1,0,1,0,0] [0,3] [] (af 0 (aq (D.N k [1,1]) D.K0)) (T0 a1 J)
noncomputable def r0 (k:Nat) (a1:Arg):(Int)->Option Out:=ak (fun w v=>B0 k w (Q0 k a1) a1 v) k
theorem au (k:Nat) (a1:Arg):s0 k a1=r0 k a1:=
 funext fun J=>an _ _ _ (T0 a1) _ (fun rec v=>by kernel_rfl) k J
noncomputable def p (l0:(Int)->Option Out) (a1:Arg):Option Out:=l0 (0:Int)
theorem aa (k:Nat) (a1:Arg):@Eq (Option Out) (D.W k a1) (p (r0 k a1) a1):=
 Eq.trans (b:=p (s0 k a1) a1) (by kernel_rfl) (by rw[au])
theorem ok:Ok prog 215 D.sig:=ap func215 aA (by kernel_rfl) (fc iV.ok (fc dF.ok (fc iW.ok (al _))))
end fQ
namespace ko
abbrev Arg:Type:=Key×Unit
abbrev Out:Type:=Bool×Unit
abbrev ps:PQ:=[(.ro,(.ptr aC))]
noncomputable def D:FD:={ fn:=f276,tl:=aK,ps:=ps,rs:=[(.bool,(ax .bool))],gl:=[(118,aP.D.sig)] }
noncomputable def ab (a:Arg):Option Out:=@lift Out fun k=>D.W k a
noncomputable def p (a1:Arg):Option Out:=(aP.ab (a1.1.1,(0:Int),(3:Int),())).bind fun r2=>bif r2.1 then ((aP.ab (a1.1.2.1,(1:Int),(99:Int),())).bind fun r3=>some (r3.1,())) else some (false,())
theorem aa (k:Nat) (a1:Arg):@Eq (Option Out) (D.W k a1) (p a1):=by kernel_rfl
theorem ok:Ok prog 276 D.sig:=ap func276 aA (by kernel_rfl) (fc aP.ok (al _))
end ko
namespace bc
abbrev Arg:Type:=Tx×Unit
abbrev Out:Type:=Int×Unit
abbrev ps:PQ:=[(.ro,(.ptr aR))]
noncomputable def D:FD:={ fn:=f216,tl:=aK,ps:=ps,rs:=[(i64,(ax i64))],gl:=[(118,aP.D.sig),(276,ko.D.sig)],lv:=[(4,[0,3]),(9,[0,4]),(14,[0,4,5])],lx:=[(0,[0]),(2,[]),(4,[0,4])],od:=[(6,[0,1,2,3,4,5,6,7,8,9,10,11,12,13,14,15,16,17,18,19,20,21,22,23,24,25,26,27,28,29,30,31,32,33,34,35]),(16,[0,1,2,3,4,5,6,7,8,9,10,11,12,13,14])],ar:=[(6,[3,6,10,21,24,28,32])] }
noncomputable def ab (a:Arg):Option Out:=@lift Out fun k=>D.W k a
noncomputable def T0 (a1:Arg) (J:Int):St:={ n:=102,sl:=[(0,.cp aR a1.1),(3,.val i64 J)],vr:=[],av:=[] }
noncomputable def S0 (rec:RT Out) (a1:Arg):(Int)->Option Out:=fun J=>rec (T0 a1 J)
noncomputable def bt (K:KT Out) (a1:Arg):(Unit)->Option Out:=fun z=>K (.exit 0) ({ n:=102,sl:=[(0,.cp aR a1.1)],vr:=[],av:=[] })
noncomputable def b0 (self:Int->Option Out) (e0:(Unit)->Option Out) (a1:Arg) (J:Int):Option Out:=bif decide (J < (a1.1.2.2.1.length:Int)) then (if 0<=J then ((a1.1.2.2.1[J.toNat]?).bind fun aB=>(aP.ab (aB,(0:Int),(a1.1.2.1.length:Int),())).bind fun bZ=>bif !bZ.1 then (some ((3:Int),())) else bif decide ((0:Int) < J) then (if 0<=J then ((a1.1.2.2.1[J.toNat]?).bind fun cE=>if 0<=ae (J - (1:Int)) then ((a1.1.2.2.1[(ae (J - (1:Int))).toNat]?).bind fun ne=>bif decide (cE < ne) then (some ((3:Int),())) else self (ae (J+(1:Int)))) else none) else none) else self (ae (J+(1:Int)))) else none) else e0 ()
noncomputable abbrev B0 (_:Nat):=b0
theorem f9 (k:Nat) (rec:RT Out) (K:KT Out) (a1:Arg) (J:Int):D.N k [1,1,0,1,0,0] (T0 a1 J) (dw rec (cj [0,3] []) K)=b0 (S0 rec a1) (bt K a1) a1 J:=by kernel_rfl
noncomputable def T1 (a1:Arg) (bd:Tx×Int):St:={ n:=102,sl:=[(0,.cp aR bd.1),(4,.val i64 bd.2)],vr:=[],av:=[] }
noncomputable def S1 (rec:RT Out) (a1:Arg):(Tx×Int)->Option Out:=fun bd=>rec (T1 a1 bd)
noncomputable def dG (K:KT Out) (a1:Arg):(Unit)->Option Out:=fun z=>K (.exit 2) ({ n:=102,sl:=[],vr:=[],av:=[] })
noncomputable def T2 (a1:Arg) (cC:Tx) (bF:Int) (fd:Int):St:={ n:=102,sl:=[(0,.cp aR cC),(4,.val i64 bF),(5,.val i64 fd)],vr:=[],av:=[] }
noncomputable def b2 (self:Int->Option Out) (e4:(Unit)->Option Out) (a1:Arg) (cC:Tx) (bF:Int) (fd:Int):Option Out:=bif decide (fd < bF) then (if 0<=fd then ((cC.2.2.2.1[fd.toNat]?).bind fun GC=>if 0<=bF then ((cC.2.2.2.1[bF.toNat]?).bind fun Po=>bif (Ty.eq aC GC Po) then (some ((6:Int),())) else self (ae (fd+(1:Int)))) else none) else none) else e4 ()
noncomputable abbrev B2 (_:Nat):=b2
noncomputable def q1 (self:(Tx×Int)->Option Out) (e2:(Unit)->Option Out) (a1:Arg) (cC:Tx) (bF:Int) (nx:(Unit)):Option Out:=self (cC,ae (bF+(1:Int)))
noncomputable abbrev Q1 (_:Nat):=q1
noncomputable def s2 (k:Nat) (rec:RT Out) (K:KT Out) (a1:Arg):Tx->Int->(Int)->Option Out:=fun cC bF=>fun fd=>D.L k [1,1,1,0,1,0,0,1,0,0,1,1,0,0] [0,4,5] [] (af 4 (af 3 (aq (D.N k [1,1,1,0,1,0,0,1,1]) (dw rec (cj [0,4] []) K)))) (T2 a1 cC bF fd)
noncomputable def r2 (k:Nat) (self:(Tx×Int)->Option Out) (e2:(Unit)->Option Out) (a1:Arg):Tx->Int->(Int)->Option Out:=fun cC bF=>ak (fun w v=>B2 k w (Q1 k self e2 a1 cC bF) a1 cC bF v) k
theorem k9 (k:Nat) (rec:RT Out) (K:KT Out) (a1:Arg):s2 k rec K a1=r2 k (S1 rec a1) (dG K a1) a1:=
 funext fun cC=>funext fun bF=>funext fun fd=>an _ _ _ (T2 a1 cC bF) _ (fun rec v=>by kernel_rfl) k fd
noncomputable def b1 (self:(Tx×Int)->Option Out) (e2:(Unit)->Option Out) (l2:Tx->Int->(Int)->Option Out) (a1:Arg) (bd:Tx×Int):Option Out:=bif decide (bd.2 < (bd.1.2.2.2.1.length:Int)) then (if 0<=bd.2 then ((bd.1.2.2.2.1[bd.2.toNat]?).bind fun wy=>(ko.ab (wy,())).bind fun qK=>bif !qK.1 then (some ((3:Int),())) else l2 bd.1 bd.2 (0:Int)) else none) else e2 ()
noncomputable def B1 (k:Nat) (self:(Tx×Int)->Option Out) (e2:(Unit)->Option Out) (a1:Arg) (bd:Tx×Int):Option Out:=b1 self e2 (r2 k self e2 a1) a1 bd
theorem l9 (k:Nat) (rec:RT Out) (K:KT Out) (a1:Arg) (bd:Tx×Int):D.N k [1,1,1,0,1,0,0] (T1 a1 bd) (dw rec (cj [0,4] []) K)=B1 k (S1 rec a1) (dG K a1) a1 bd:=
 Eq.trans (b:=b1 (S1 rec a1) (dG K a1) (s2 k rec K a1) a1 bd) (by kernel_rfl) (by rw[k9];rfl)
noncomputable def q2 (a1:Arg) (GD:(Unit)):Option Out:=some ((0:Int),())
noncomputable abbrev Q2 (_:Nat):=q2
theorem ny (k:Nat) (a1:Arg) (GD:(Unit)):dG (af 2 (aq (D.N k [1,1,1,1]) D.K0)) a1 GD=q2 a1 GD:=by kernel_rfl
noncomputable def s1 (k:Nat) (a1:Arg):(Tx×Int)->Option Out:=fun bd=>D.L k [1,1,1,0,1,0,0] [0,4] [] (af 2 (aq (D.N k [1,1,1,1]) D.K0)) (T1 a1 bd)
noncomputable def r1 (k:Nat) (a1:Arg):(Tx×Int)->Option Out:=ak (fun w v=>B1 k w (Q2 k a1) a1 v) k
theorem f_ (k:Nat) (a1:Arg):s1 k a1=r1 k a1:=by
 funext bd;
 have Y:dG (af 2 (aq (D.N k [1,1,1,1]) D.K0)) a1=Q2 k a1:=funext fun z=>ny k a1 z
 refine (an _ _ _ (T1 a1) (fun self v=>B1 k self (dG (af 2 (aq (D.N k [1,1,1,1]) D.K0)) a1) a1 v) (fun rec v=>l9 k rec (af 2 (aq (D.N k [1,1,1,1]) D.K0)) a1 v) k bd).trans ?_
 rw[Y]
 rfl
noncomputable def q0 (l1:(Tx×Int)->Option Out) (a1:Arg) (gq:(Unit)):Option Out:=l1 (a1.1,(0:Int))
noncomputable def Q0 (k:Nat) (a1:Arg) (gq:(Unit)):Option Out:=q0 (r1 k a1) a1 gq
theorem k_ (k:Nat) (a1:Arg) (gq:(Unit)):bt (af 0 (aq (D.N k [1,1,1]) D.K0)) a1 gq=Q0 k a1 gq:=
 Eq.trans (b:=q0 (s1 k a1) a1 gq) (by kernel_rfl) (by rw[f_];rfl)
noncomputable def s0 (k:Nat) (a1:Arg):(Int)->Option Out:=fun J=>D.L k [1,1,0,1,0,0] [0,3] [] (af 0 (aq (D.N k [1,1,1]) D.K0)) (T0 a1 J)
noncomputable def r0 (k:Nat) (a1:Arg):(Int)->Option Out:=ak (fun w v=>B0 k w (Q0 k a1) a1 v) k
theorem au (k:Nat) (a1:Arg):s0 k a1=r0 k a1:=by
 funext J;
 have h0:bt (af 0 (aq (D.N k [1,1,1]) D.K0)) a1=Q0 k a1:=funext fun z=>k_ k a1 z
 refine (an _ _ _ (T0 a1) (fun self v=>B0 k self (bt (af 0 (aq (D.N k [1,1,1]) D.K0)) a1) a1 v) (fun rec v=>f9 k rec (af 0 (aq (D.N k [1,1,1]) D.K0)) a1 v) k J).trans ?_
 rw[h0]
 rfl
noncomputable def p (l0:(Int)->Option Out) (a1:Arg):Option Out:=bif decide ((8:Int) < (a1.1.2.2.1.length:Int)) then (some ((2:Int),())) else bif decide ((12:Int) < (a1.1.2.2.2.1.length:Int)) then (some ((2:Int),())) else l0 (0:Int)
theorem aa (k:Nat) (a1:Arg):@Eq (Option Out) (D.W k a1) (p (r0 k a1) a1):=
 Eq.trans (b:=p (s0 k a1) a1) (by kernel_rfl) (by rw[au])
theorem ok:Ok prog 216 D.sig:=ap func216 aA (by kernel_rfl) (fc aP.ok (fc ko.ok (al _)))
end bc
namespace fR
abbrev Arg:Type:=(List Tx)×Key×Unit
abbrev Out:Type:=Int×Unit
abbrev ps:PQ:=[(.ro,(.U aR)),(.ro,aC)]
noncomputable def D:FD:={ fn:=f277,tl:=aK,ps:=ps,rs:=[(i64,(ax i64))],gl:=[(274,dF.D.sig)],lv:=[(2,[0,3,5])],lx:=[(0,[])],od:=[(4,[0,1,2,3,4])] }
noncomputable def ab (a:Arg):Option Out:=@lift Out fun k=>D.W k a
noncomputable def T0 (a1:Arg) (J:Int):St:={ n:=22,sl:=[(0,.val (.U aR) a1.1),(3,.box aC (ax aC) [] a1.2.1),(5,.val i64 J)],vr:=[],av:=[] }
noncomputable def b0 (self:Int->Option Out) (e0:(Unit)->Option Out) (a1:Arg) (J:Int):Option Out:=bif decide (J < (a1.1.length:Int)) then (if 0<=J then ((a1.1[J.toNat]?).bind fun aB=>(dF.ab (aB,a1.2.1,())).bind fun bZ=>bif bZ.1 then (if 0<=J then ((a1.1[J.toNat]?).bind fun cE=>some (cE.1,())) else none) else self (ae (J+(1:Int)))) else none) else e0 ()
noncomputable abbrev B0 (_:Nat):=b0
noncomputable def q0 (a1:Arg) (kS:(Unit)):Option Out:=some ((0:Int),())
noncomputable abbrev Q0 (_:Nat):=q0
noncomputable def s0 (k:Nat) (a1:Arg):(Int)->Option Out:=fun J=>D.L k [1,0,1,0,0] [0,3,5] [] (af 0 (aq (D.N k [1,1]) D.K0)) (T0 a1 J)
noncomputable def r0 (k:Nat) (a1:Arg):(Int)->Option Out:=ak (fun w v=>B0 k w (Q0 k a1) a1 v) k
theorem au (k:Nat) (a1:Arg):s0 k a1=r0 k a1:=
 funext fun J=>an _ _ _ (T0 a1) _ (fun rec v=>by kernel_rfl) k J
noncomputable def p (l0:(Int)->Option Out) (a1:Arg):Option Out:=l0 (0:Int)
theorem aa (k:Nat) (a1:Arg):@Eq (Option Out) (D.W k a1) (p (r0 k a1) a1):=
 Eq.trans (b:=p (s0 k a1) a1) (by kernel_rfl) (by rw[au])
theorem ok:Ok prog 277 D.sig:=ap func277 aA (by kernel_rfl) (fc dF.ok (al _))
end fR
namespace bW
abbrev Arg:Type:=(List Tx)×Unit
abbrev Out:Type:=Bool×Unit
abbrev ps:PQ:=[(.ro,(.U aR))]
noncomputable def D:FD:={ fn:=f217,tl:=aK,ps:=ps,rs:=[(.bool,(ax .bool))],gl:=[(277,fR.D.sig)],lv:=[(2,[0,3]),(5,[0,3,4])],lx:=[(0,[]),(2,[0,3])],od:=[(7,[0,1,2,3,4,5,6,7,8,10,11,12,13,14,9,15])] }
noncomputable def ab (a:Arg):Option Out:=@lift Out fun k=>D.W k a
noncomputable def T0 (a1:Arg) (J:(List Tx)×Int):St:={ n:=37,sl:=[(0,.val (.U aR) J.1),(3,.val i64 J.2)],vr:=[],av:=[] }
noncomputable def S0 (rec:RT Out) (a1:Arg):((List Tx)×Int)->Option Out:=fun J=>rec (T0 a1 J)
noncomputable def bt (K:KT Out) (a1:Arg):(Unit)->Option Out:=fun z=>K (.exit 0) ({ n:=37,sl:=[],vr:=[],av:=[] })
noncomputable def T1 (a1:Arg) (fV:List Tx) (ep:Int) (gb:Int):St:={ n:=37,sl:=[(0,.val (.U aR) fV),(3,.val i64 ep),(4,.val i64 gb)],vr:=[],av:=[] }
noncomputable def b1 (self:Int->Option Out) (e2:(Unit)->Option Out) (a1:Arg) (fV:List Tx) (ep:Int) (gb:Int):Option Out:=if 0<=ep then ((fV[ep.toNat]?).bind fun GE=>bif decide (gb < (GE.2.2.2.1.length:Int)) then (if 0<=ep then ((fV[ep.toNat]?).bind fun t7=>if 0<=gb then ((t7.2.2.2.1[gb.toNat]?).bind fun yG=>if 0<=ep then ((fV[ep.toNat]?).bind fun wy=>(fR.ab (fV,yG,())).bind fun qK=>bif !decide (qK.1=wy.1) then (some (false,())) else self (ae (gb+(1:Int)))) else none) else none) else none) else e2 ()) else none
noncomputable abbrev B1 (_:Nat):=b1
noncomputable def q0 (self:((List Tx)×Int)->Option Out) (e0:(Unit)->Option Out) (a1:Arg) (fV:List Tx) (ep:Int) (t8:(Unit)):Option Out:=self (fV,ae (ep+(1:Int)))
noncomputable abbrev Q0 (_:Nat):=q0
noncomputable def s1 (k:Nat) (rec:RT Out) (K:KT Out) (a1:Arg):(List Tx)->Int->(Int)->Option Out:=fun fV ep=>fun gb=>D.L k [1,0,1,0,0,1,0,0,1,0,0] [0,3,4] [] (af 2 (af 1 (aq (D.N k [1,0,1,0,0,1,1]) (dw rec (cj [0,3] []) K)))) (T1 a1 fV ep gb)
noncomputable def r1 (k:Nat) (self:((List Tx)×Int)->Option Out) (e0:(Unit)->Option Out) (a1:Arg):(List Tx)->Int->(Int)->Option Out:=fun fV ep=>ak (fun w v=>B1 k w (Q0 k self e0 a1 fV ep) a1 fV ep v) k
theorem f_ (k:Nat) (rec:RT Out) (K:KT Out) (a1:Arg):s1 k rec K a1=r1 k (S0 rec a1) (bt K a1) a1:=
 funext fun fV=>funext fun ep=>funext fun gb=>an _ _ _ (T1 a1 fV ep) _ (fun rec v=>by kernel_rfl) k gb
noncomputable def b0 (self:((List Tx)×Int)->Option Out) (e0:(Unit)->Option Out) (l1:(List Tx)->Int->(Int)->Option Out) (a1:Arg) (J:(List Tx)×Int):Option Out:=bif decide (J.2 < (J.1.length:Int)) then (l1 J.1 J.2 (0:Int)) else e0 ()
noncomputable def B0 (k:Nat) (self:((List Tx)×Int)->Option Out) (e0:(Unit)->Option Out) (a1:Arg) (J:(List Tx)×Int):Option Out:=b0 self e0 (r1 k self e0 a1) a1 J
theorem f9 (k:Nat) (rec:RT Out) (K:KT Out) (a1:Arg) (J:(List Tx)×Int):D.N k [1,0,1,0,0] (T0 a1 J) (dw rec (cj [0,3] []) K)=B0 k (S0 rec a1) (bt K a1) a1 J:=
 Eq.trans (b:=b0 (S0 rec a1) (bt K a1) (s1 k rec K a1) a1 J) (by kernel_rfl) (by rw[f_];rfl)
noncomputable def q1 (a1:Arg) (sr:(Unit)):Option Out:=some (true,())
noncomputable abbrev Q1 (_:Nat):=q1
theorem l_ (k:Nat) (a1:Arg) (sr:(Unit)):bt (af 0 (aq (D.N k [1,1]) D.K0)) a1 sr=q1 a1 sr:=by kernel_rfl
noncomputable def s0 (k:Nat) (a1:Arg):((List Tx)×Int)->Option Out:=fun J=>D.L k [1,0,1,0,0] [0,3] [] (af 0 (aq (D.N k [1,1]) D.K0)) (T0 a1 J)
noncomputable def r0 (k:Nat) (a1:Arg):((List Tx)×Int)->Option Out:=ak (fun w v=>B0 k w (Q1 k a1) a1 v) k
theorem au (k:Nat) (a1:Arg):s0 k a1=r0 k a1:=by
 funext J;
 have h0:bt (af 0 (aq (D.N k [1,1]) D.K0)) a1=Q1 k a1:=funext fun z=>l_ k a1 z
 refine (an _ _ _ (T0 a1) (fun self v=>B0 k self (bt (af 0 (aq (D.N k [1,1]) D.K0)) a1) a1 v) (fun rec v=>f9 k rec (af 0 (aq (D.N k [1,1]) D.K0)) a1 v) k J).trans ?_
 rw[h0]
 rfl
noncomputable def p (l0:((List Tx)×Int)->Option Out) (a1:Arg):Option Out:=l0 (a1.1,(0:Int))
theorem aa (k:Nat) (a1:Arg):@Eq (Option Out) (D.W k a1) (p (r0 k a1) a1):=
 Eq.trans (b:=p (s0 k a1) a1) (by kernel_rfl) (by rw[au])
theorem ok:Ok prog 217 D.sig:=ap func217 aA (by kernel_rfl) (fc fR.ok (al _))
end bW
namespace ff
abbrev Arg:Type:=(List Tx)×Unit
abbrev Out:Type:=Int×Unit
abbrev ps:PQ:=[(.ro,(.U aR))]
noncomputable def D:FD:={ fn:=f218,tl:=aK,ps:=ps,rs:=[(i64,(ax i64))],lv:=[(3,[0,3,4])],lx:=[(0,[3])] }
noncomputable def ab (a:Arg):Option Out:=@lift Out fun k=>D.W k a
noncomputable def T0 (a1:Arg) (J:Int×Int):St:={ n:=20,sl:=[(0,.val (.U aR) a1.1),(3,.val i64 J.1),(4,.val i64 J.2)],vr:=[],av:=[] }
noncomputable def b0 (self:(Int×Int)->Option Out) (e0:Int->Option Out) (a1:Arg) (J:Int×Int):Option Out:=bif decide (J.2 < (a1.1.length:Int)) then (if 0<=J.2 then ((a1.1[J.2.toNat]?).bind fun aB=>self (ae (J.1+(aB.2.1.length:Int)),ae (J.2+(1:Int)))) else none) else e0 J.1
noncomputable abbrev B0 (_:Nat):=b0
noncomputable def q0 (a1:Arg) (hU:Int):Option Out:=some (hU,())
noncomputable abbrev Q0 (_:Nat):=q0
noncomputable def s0 (k:Nat) (a1:Arg):(Int×Int)->Option Out:=fun J=>D.L k [1,1,0,1,0,0] [0,3,4] [] (af 0 (aq (D.N k [1,1,1]) D.K0)) (T0 a1 J)
noncomputable def r0 (k:Nat) (a1:Arg):(Int×Int)->Option Out:=ak (fun w v=>B0 k w (Q0 k a1) a1 v) k
theorem au (k:Nat) (a1:Arg):s0 k a1=r0 k a1:=
 funext fun J=>an _ _ _ (T0 a1) _ (fun rec v=>by kernel_rfl) k J
noncomputable def p (l0:(Int×Int)->Option Out) (a1:Arg):Option Out:=l0 ((0:Int),(0:Int))
theorem aa (k:Nat) (a1:Arg):@Eq (Option Out) (D.W k a1) (p (r0 k a1) a1):=
 Eq.trans (b:=p (s0 k a1) a1) (by kernel_rfl) (by rw[au])
theorem ok:Ok prog 218 D.sig:=ap func218 aA (by kernel_rfl) (al _)
end ff
namespace dj
abbrev Arg:Type:=(List Tx)×Unit
abbrev Out:Type:=Int×Unit
abbrev ps:PQ:=[(.ro,(.U aR))]
noncomputable def D:FD:={ fn:=f142,tl:=aK,ps:=ps,rs:=[(i64,(ax i64))],gl:=[(118,aP.D.sig),(215,fQ.D.sig),(216,bc.D.sig),(217,bW.D.sig),(218,ff.D.sig)],lv:=[(4,[0,3])],lx:=[(0,[0])],od:=[(9,[0,1,2,3,4,5,6,7,8,9,10,11,12,13,14])] }
noncomputable def ab (a:Arg):Option Out:=@lift Out fun k=>D.W k a
noncomputable def T0 (a1:Arg) (J:Int):St:={ n:=56,sl:=[(0,.val (.U aR) a1.1),(3,.val i64 J)],vr:=[],av:=[] }
noncomputable def b0 (self:Int->Option Out) (e0:(Unit)->Option Out) (a1:Arg) (J:Int):Option Out:=bif decide (J < (a1.1.length:Int)) then (if 0<=J then ((a1.1[J.toNat]?).bind fun aB=>(aP.ab (aB.1,(1:Int),(99:Int),())).bind fun bZ=>bif !bZ.1 then (some ((3:Int),())) else let Om:Option Out:=(fQ.ab (aB,())).bind fun pF=>bif !decide (pF.1=(0:Int)) then (some (pF.1,())) else (bc.ab (aB,())).bind fun t_=>bif !decide (t_.1=(0:Int)) then (some (t_.1,())) else self (ae (J+(1:Int)));bif decide ((0:Int) < J) then (if 0<=ae (J - (1:Int)) then ((a1.1[(ae (J - (1:Int))).toNat]?).bind fun cE=>bif decide (aB.1<=cE.1) then (some ((1:Int),())) else Om) else none) else Om) else none) else e0 ()
noncomputable abbrev B0 (_:Nat):=b0
noncomputable def q0 (a1:Arg) (Ke:(Unit)):Option Out:=(bW.ab (a1.1,())).bind fun Kg=>bif !Kg.1 then (some ((7:Int),())) else (ff.ab (a1.1,())).bind fun GF=>bif decide ((12:Int) < GF.1) then (some ((2:Int),())) else some ((0:Int),())
noncomputable abbrev Q0 (_:Nat):=q0
noncomputable def s0 (k:Nat) (a1:Arg):(Int)->Option Out:=fun J=>D.L k [1,1,0,1,0,0] [0,3] [] (af 0 (aq (D.N k [1,1,1]) D.K0)) (T0 a1 J)
noncomputable def r0 (k:Nat) (a1:Arg):(Int)->Option Out:=ak (fun w v=>B0 k w (Q0 k a1) a1 v) k
theorem au (k:Nat) (a1:Arg):s0 k a1=r0 k a1:=
 funext fun J=>an _ _ _ (T0 a1) _ (fun rec v=>by kernel_rfl) k J
noncomputable def p (l0:(Int)->Option Out) (a1:Arg):Option Out:=bif decide ((4:Int) < (a1.1.length:Int)) then (some ((2:Int),())) else l0 (0:Int)
theorem aa (k:Nat) (a1:Arg):@Eq (Option Out) (D.W k a1) (p (r0 k a1) a1):=
 Eq.trans (b:=p (s0 k a1) a1) (by kernel_rfl) (by rw[au])
theorem ok:Ok prog 142 D.sig:=ap func142 aA (by kernel_rfl) (fc aP.ok (fc fQ.ok (fc bc.ok (fc bW.ok (fc ff.ok (al _))))))
end dj
namespace aO
abbrev Arg:Type:=(List Row)×(List Tx)×Key×Unit
abbrev Out:Type:=Int×Unit
abbrev ps:PQ:=[(.ro,(.U aF)),(.ro,(.U aR)),(.ro,aC)]
noncomputable def D:FD:={ fn:=f143,tl:=aK,ps:=ps,rs:=[(i64,(ax i64))],lv:=[(3,[0,1,5,7,8]),(7,[1,5,7,9]),(14,[7,10,11]),(18,[7,10,11,12,13])],lx:=[(0,[1,5,7]),(2,[5,7]),(4,[10]),(6,[7,10,11,12])],od:=[(5,[0,1,2,3,4,5,6,7,8,9,10,11,12,13,14]),(20,[0,1,2,3,4,5,6,7,8,9])] }
noncomputable def ab (a:Arg):Option Out:=@lift Out fun k=>D.W k a
noncomputable def T0 (a1:Arg) (J:(List Key)×Int):St:={ n:=82,sl:=[(0,.val (.U aF) a1.1),(1,.val (.U aR) a1.2.1),(5,.box aC (ax aC) [] a1.2.2.1),(7,.own (.U aC) (ao (.U aC)) [] J.1),(8,.val i64 J.2)],vr:=[],av:=[] }
noncomputable def S0 (rec:RT Out) (a1:Arg):((List Key)×Int)->Option Out:=fun J=>rec (T0 a1 J)
noncomputable def bt (K:KT Out) (a1:Arg):(List Key)->Option Out:=fun z=>K (.exit 0) ({ n:=82,sl:=[(1,.val (.U aR) a1.2.1),(5,.box aC (ax aC) [] a1.2.2.1),(7,.own (.U aC) (ao (.U aC)) [] z)],vr:=[],av:=[] })
noncomputable def b0 (self:((List Key)×Int)->Option Out) (e0:(List Key)->Option Out) (a1:Arg) (J:(List Key)×Int):Option Out:=bif decide (J.2 < (a1.1.length:Int)) then (if 0<=J.2 then ((a1.1[J.2.toNat]?).bind fun aB=>if 0<=J.2 then ((a1.1[J.2.toNat]?).bind fun cY=>if J.1.length+[(aB.1,cY.2.1,())].length<=bf then (self (J.1++[(aB.1,cY.2.1,())],ae (J.2+(1:Int)))) else none) else none) else none) else e0 J.1
noncomputable abbrev B0 (_:Nat):=b0
theorem f9 (k:Nat) (rec:RT Out) (K:KT Out) (a1:Arg) (J:(List Key)×Int):D.N k [1,1,0,1,0,0] (T0 a1 J) (dw rec (cj [0,1,5,7,8] []) K)=b0 (S0 rec a1) (bt K a1) a1 J:=by kernel_rfl
noncomputable def T1 (a1:Arg) (bO:(List Key)×Int):St:={ n:=82,sl:=[(1,.val (.U aR) a1.2.1),(5,.box aC (ax aC) [] a1.2.2.1),(7,.own (.U aC) (ao (.U aC)) [] bO.1),(9,.val i64 bO.2)],vr:=[],av:=[] }
noncomputable def S1 (rec:RT Out) (a1:Arg):((List Key)×Int)->Option Out:=fun bO=>rec (T1 a1 bO)
noncomputable def dG (K:KT Out) (a1:Arg):(List Key)->Option Out:=fun z=>K (.exit 2) ({ n:=82,sl:=[(5,.box aC (ax aC) [] a1.2.2.1),(7,.own (.U aC) (ao (.U aC)) [] z)],vr:=[],av:=[] })
noncomputable def b1 (self:((List Key)×Int)->Option Out) (e2:(List Key)->Option Out) (a1:Arg) (bO:(List Key)×Int):Option Out:=bif decide (bO.2 < (a1.2.1.length:Int)) then (if 0<=bO.2 then ((a1.2.1[bO.2.toNat]?).bind fun t7=>if bO.1.length+t7.2.2.2.1.length<=bf then (self (bO.1++t7.2.2.2.1,ae (bO.2+(1:Int)))) else none) else none) else e2 bO.1
noncomputable abbrev B1 (_:Nat):=b1
theorem l9 (k:Nat) (rec:RT Out) (K:KT Out) (a1:Arg) (bO:(List Key)×Int):D.N k [1,1,1,0,1,0,0] (T1 a1 bO) (dw rec (cj [1,5,7,9] []) K)=b1 (S1 rec a1) (dG K a1) a1 bO:=by kernel_rfl
noncomputable def T2 (a1:Arg) (jb:(List Key)×Int×Int):St:={ n:=82,sl:=[(7,.own (.U aC) (ao (.U aC)) [] jb.1),(10,.val i64 jb.2.1),(11,.val i64 jb.2.2)],vr:=[],av:=[] }
noncomputable def S2 (rec:RT Out) (a1:Arg):((List Key)×Int×Int)->Option Out:=fun jb=>rec (T2 a1 jb)
noncomputable def zQ (K:KT Out) (a1:Arg):Int->Option Out:=fun z=>K (.exit 4) ({ n:=82,sl:=[(10,.val i64 z)],vr:=[],av:=[] })
noncomputable def T3 (a1:Arg) (lD:List Key) (nW:Int) (lE:Int) (ma:Bool×Int):St:={ n:=82,sl:=[(7,.own (.U aC) (ao (.U aC)) [] lD),(10,.val i64 nW),(11,.val i64 lE),(12,.val .bool ma.1),(13,.val i64 ma.2)],vr:=[],av:=[] }
noncomputable def b3 (self:(Bool×Int)->Option Out) (e6:Bool->Option Out) (a1:Arg) (lD:List Key) (nW:Int) (lE:Int) (ma:Bool×Int):Option Out:=bif decide (ma.2 < lE) then (bif ma.1 then (if 0<=ma.2/\ma.2 < (lD.length:Int) then ((lD[ma.2.toNat]?).bind fun Pp=>if 0<=lE/\lE < (lD.length:Int) then ((lD[lE.toNat]?).bind fun Pq=>self (!(Ty.eq aC Pp Pq),ae (ma.2+(1:Int)))) else none) else none) else e6 ma.1) else e6 ma.1
noncomputable abbrev B3 (_:Nat):=b3
noncomputable def q2 (self:((List Key)×Int×Int)->Option Out) (e4:Int->Option Out) (a1:Arg) (lD:List Key) (nW:Int) (lE:Int) (Pr:Bool):Option Out:=bif Pr then (self (lD,ae (nW+(1:Int)),ae (lE+(1:Int)))) else self (lD,nW,ae (lE+(1:Int)))
noncomputable abbrev Q2 (_:Nat):=q2
noncomputable def s3 (k:Nat) (rec:RT Out) (K:KT Out) (a1:Arg):(List Key)->Int->Int->(Bool×Int)->Option Out:=fun lD nW lE=>fun ma=>D.L k [1,1,1,1,1,1,0,1,0,0,1,0,0,1,0,1,0,0] [7,10,11,12,13] [] (af 6 (aq (D.N k [1,1,1,1,1,1,0,1,0,0,1,0,0,1,1]) (af 5 (aq (D.N k [1,1,1,1,1,1,0,1,0,0,1,1]) (dw rec (cj [7,10,11] []) K))))) (T3 a1 lD nW lE ma)
noncomputable def r3 (k:Nat) (self:((List Key)×Int×Int)->Option Out) (e4:Int->Option Out) (a1:Arg):(List Key)->Int->Int->(Bool×Int)->Option Out:=fun lD nW lE=>ak (fun w v=>B3 k w (Q2 k self e4 a1 lD nW lE) a1 lD nW lE v) k
theorem GG (k:Nat) (rec:RT Out) (K:KT Out) (a1:Arg):s3 k rec K a1=r3 k (S2 rec a1) (zQ K a1) a1:=
 funext fun lD=>funext fun nW=>funext fun lE=>funext fun ma=>an _ _ _ (T3 a1 lD nW lE) _ (fun rec v=>by kernel_rfl) k ma
noncomputable def b2 (self:((List Key)×Int×Int)->Option Out) (e4:Int->Option Out) (l3:(List Key)->Int->Int->(Bool×Int)->Option Out) (a1:Arg) (jb:(List Key)×Int×Int):Option Out:=bif decide (jb.2.2 < (jb.1.length:Int)) then (l3 jb.1 jb.2.1 jb.2.2 (true,(0:Int))) else e4 jb.2.1
noncomputable def B2 (k:Nat) (self:((List Key)×Int×Int)->Option Out) (e4:Int->Option Out) (a1:Arg) (jb:(List Key)×Int×Int):Option Out:=b2 self e4 (r3 k self e4 a1) a1 jb
theorem GH (k:Nat) (rec:RT Out) (K:KT Out) (a1:Arg) (jb:(List Key)×Int×Int):D.N k [1,1,1,1,1,1,0,1,0,0] (T2 a1 jb) (dw rec (cj [7,10,11] []) K)=B2 k (S2 rec a1) (zQ K a1) a1 jb:=
 Eq.trans (b:=b2 (S2 rec a1) (zQ K a1) (s3 k rec K a1) a1 jb) (by kernel_rfl) (by rw[GG];rfl)
noncomputable def q3 (a1:Arg) (Bw:Int):Option Out:=some (Bw,())
noncomputable abbrev Q3 (_:Nat):=q3
theorem GI (k:Nat) (a1:Arg) (Bw:Int):zQ (af 4 (aq (D.N k [1,1,1,1,1,1,1]) D.K0)) a1 Bw=q3 a1 Bw:=by kernel_rfl
noncomputable def s2 (k:Nat) (a1:Arg):((List Key)×Int×Int)->Option Out:=fun jb=>D.L k [1,1,1,1,1,1,0,1,0,0] [7,10,11] [] (af 4 (aq (D.N k [1,1,1,1,1,1,1]) D.K0)) (T2 a1 jb)
noncomputable def r2 (k:Nat) (a1:Arg):((List Key)×Int×Int)->Option Out:=ak (fun w v=>B2 k w (Q3 k a1) a1 v) k
theorem k9 (k:Nat) (a1:Arg):s2 k a1=r2 k a1:=by
 funext jb;
 have h4:zQ (af 4 (aq (D.N k [1,1,1,1,1,1,1]) D.K0)) a1=Q3 k a1:=funext fun z=>GI k a1 z
 refine (an _ _ _ (T2 a1) (fun self v=>B2 k self (zQ (af 4 (aq (D.N k [1,1,1,1,1,1,1]) D.K0)) a1) a1 v) (fun rec v=>GH k rec (af 4 (aq (D.N k [1,1,1,1,1,1,1]) D.K0)) a1 v) k jb).trans ?_
 rw[h4]
 rfl
noncomputable def q1 (l2:((List Key)×Int×Int)->Option Out) (a1:Arg) (qL:(List Key)):Option Out:=let LY:=fun (Ps:List Key)=>(l2 (Ps,(0:Int),(0:Int)):Option Out);bif !decide (a1.2.2.1.2.1=(0:Int)) then (if qL.length+[a1.2.2.1].length<=bf then (LY (qL++[a1.2.2.1])) else none) else LY qL
noncomputable def Q1 (k:Nat) (a1:Arg) (qL:(List Key)):Option Out:=q1 (r2 k a1) a1 qL
theorem l_ (k:Nat) (a1:Arg) (qL:(List Key)):dG (af 2 (aq (D.N k [1,1,1,1]) D.K0)) a1 qL=Q1 k a1 qL:=
 Eq.trans (b:=q1 (s2 k a1) a1 qL) (by kernel_rfl) (by rw[k9];rfl)
noncomputable def s1 (k:Nat) (a1:Arg):((List Key)×Int)->Option Out:=fun bO=>D.L k [1,1,1,0,1,0,0] [1,5,7,9] [] (af 2 (aq (D.N k [1,1,1,1]) D.K0)) (T1 a1 bO)
noncomputable def r1 (k:Nat) (a1:Arg):((List Key)×Int)->Option Out:=ak (fun w v=>B1 k w (Q1 k a1) a1 v) k
theorem f_ (k:Nat) (a1:Arg):s1 k a1=r1 k a1:=by
 funext bO;
 have Y:dG (af 2 (aq (D.N k [1,1,1,1]) D.K0)) a1=Q1 k a1:=funext fun z=>l_ k a1 z
 refine (an _ _ _ (T1 a1) (fun self v=>B1 k self (dG (af 2 (aq (D.N k [1,1,1,1]) D.K0)) a1) a1 v) (fun rec v=>l9 k rec (af 2 (aq (D.N k [1,1,1,1]) D.K0)) a1 v) k bO).trans ?_
 rw[Y]
 rfl
noncomputable def q0 (l1:((List Key)×Int)->Option Out) (a1:Arg) (bN:(List Key)):Option Out:=l1 (bN,(0:Int))
noncomputable def Q0 (k:Nat) (a1:Arg) (bN:(List Key)):Option Out:=q0 (r1 k a1) a1 bN
theorem k_ (k:Nat) (a1:Arg) (bN:(List Key)):bt (af 0 (aq (D.N k [1,1,1]) D.K0)) a1 bN=Q0 k a1 bN:=
 Eq.trans (b:=q0 (s1 k a1) a1 bN) (by kernel_rfl) (by rw[f_];rfl)
noncomputable def s0 (k:Nat) (a1:Arg):((List Key)×Int)->Option Out:=fun J=>D.L k [1,1,0,1,0,0] [0,1,5,7,8] [] (af 0 (aq (D.N k [1,1,1]) D.K0)) (T0 a1 J)
noncomputable def r0 (k:Nat) (a1:Arg):((List Key)×Int)->Option Out:=ak (fun w v=>B0 k w (Q0 k a1) a1 v) k
theorem au (k:Nat) (a1:Arg):s0 k a1=r0 k a1:=by
 funext J;
 have h0:bt (af 0 (aq (D.N k [1,1,1]) D.K0)) a1=Q0 k a1:=funext fun z=>k_ k a1 z
 refine (an _ _ _ (T0 a1) (fun self v=>B0 k self (bt (af 0 (aq (D.N k [1,1,1]) D.K0)) a1) a1 v) (fun rec v=>f9 k rec (af 0 (aq (D.N k [1,1,1]) D.K0)) a1 v) k J).trans ?_
 rw[h0]
 rfl
noncomputable def p (l0:((List Key)×Int)->Option Out) (a1:Arg):Option Out:=l0 (([]:List Key),(0:Int))
theorem aa (k:Nat) (a1:Arg):@Eq (Option Out) (D.W k a1) (p (r0 k a1) a1):=
 Eq.trans (b:=p (s0 k a1) a1) (by kernel_rfl) (by rw[au])
theorem ok:Ok prog 143 D.sig:=ap func143 aA (by kernel_rfl) (al _)
end aO
namespace iX
abbrev Arg:Type:=Plain×Unit
abbrev Out:Type:=Int×Unit
abbrev ps:PQ:=[(.ro,(.ptr tc))]
noncomputable def D:FD:={ fn:=f72,tl:=aK,ps:=ps,rs:=[(i64,(ax i64))],gl:=[(112,fq.D.sig),(118,aP.D.sig),(141,eB.D.sig),(142,dj.D.sig),(143,aO.D.sig)],od:=[(8,[0,1,2,3,4,5,6,7,8,9,10,11,12,13,14,15,16,17,18,19,20,21,22,23,24,25]),(10,[0,1,2,3,4,5,6,7,8,9,10]),(12,[0,1,2,3,4,5,6,7,8,9,10,11,12,13])],ar:=[(8,[3,13,18,22])] }
noncomputable def ab (a:Arg):Option Out:=@lift Out fun k=>D.W k a
noncomputable def p (a1:Arg):Option Out:=(eB.ab (a1.1.1,())).bind fun r2=>bif !decide (r2.1=(0:Int)) then (some (r2.1,())) else (dj.ab (a1.1.2.1,())).bind fun r3=>bif !decide (r3.1=(0:Int)) then (some (r3.1,())) else let j8:Option Out:=(aO.ab (a1.1.1,a1.1.2.1,((0:Int),(0:Int),()),())).bind fun r9=>bif decide ((12:Int) < r9.1) then (some ((2:Int),())) else (fq.ab (a1.1.1,a1.1.2.1,())).bind fun C6=>bif !C6.2.1 then (some ((8:Int),())) else some ((0:Int),());(aP.ab (a1.1.2.2.1,(1:Int),(100:Int),())).bind fun r4=>bif !r4.1 then (some ((3:Int),())) else bif decide ((0:Int) < (a1.1.2.1.length:Int)) then (if 0<=ae ((a1.1.2.1.length:Int) - (1:Int)) then ((a1.1.2.1[(ae ((a1.1.2.1.length:Int) - (1:Int))).toNat]?).bind fun x5=>bif decide (a1.1.2.2.1<=x5.1) then (some ((3:Int),())) else j8) else none) else j8
theorem aa (k:Nat) (a1:Arg):@Eq (Option Out) (D.W k a1) (p a1):=by kernel_rfl
theorem ok:Ok prog 72 D.sig:=ap func72 aA (by kernel_rfl) (fc fq.ok (fc aP.ok (fc eB.ok (fc dj.ok (fc aO.ok (al _))))))
end iX
namespace du
abbrev Arg:Type:=(List UInt8)×Unit
abbrev Out:Type:=Int×Unit
abbrev ps:PQ:=[(.ro,(.U u8))]
noncomputable def D:FD:={ fn:=f255,tl:=aK,ps:=ps,rs:=[(i64,(ax i64))] }
noncomputable def ab (a:Arg):Option Out:=@lift Out fun k=>D.W k a
noncomputable def p (a1:Arg):Option Out:=(a1.1[0]?).bind fun x2=>some (ae (x2.toNat:Int),())
theorem aa (k:Nat) (a1:Arg):@Eq (Option Out) (D.W k a1) (p a1):=by kernel_rfl
theorem ok:Ok prog 255 D.sig:=ap func255 aA (by kernel_rfl) (al _)
end du
namespace bD
abbrev Arg:Type:=(List UInt8)×Int×Unit
abbrev Out:Type:=Int×Unit
abbrev ps:PQ:=[(.ro,(.U u8)),(.ro,i64)]
noncomputable def D:FD:={ fn:=f256,tl:=aK,ps:=ps,rs:=[(i64,(ax i64))] }
noncomputable def ab (a:Arg):Option Out:=@lift Out fun k=>D.W k a
noncomputable def p (a1:Arg):Option Out:=if 0<=ae ((3:Int)+(ae ((2:Int)*a1.2.1))) then ((a1.1[(ae ((3:Int)+(ae ((2:Int)*a1.2.1)))).toNat]?).bind fun x2=>some (ae (x2.toNat:Int),())) else none
theorem aa (k:Nat) (a1:Arg):@Eq (Option Out) (D.W k a1) (p a1):=by kernel_rfl
theorem ok:Ok prog 256 D.sig:=ap func256 aA (by kernel_rfl) (al _)
end bD
namespace jA
abbrev Arg:Type:=Int×Int×Unit
abbrev Out:Type:=Bool×Unit
abbrev ps:PQ:=[(.ro,i64),(.ro,i64)]
noncomputable def D:FD:={ fn:=f298,tl:=aK,ps:=ps,rs:=[(.bool,(ax .bool))],gl:=[(118,aP.D.sig)] }
noncomputable def ab (a:Arg):Option Out:=@lift Out fun k=>D.W k a
noncomputable def p (a1:Arg):Option Out:=(aP.ab (a1.1,(0:Int),(11:Int),())).bind fun r2=>bif r2.1 then ((aP.ab (a1.2.1,(0:Int),(15:Int),())).bind fun r3=>some (r3.1,())) else some (false,())
theorem aa (k:Nat) (a1:Arg):@Eq (Option Out) (D.W k a1) (p a1):=by kernel_rfl
theorem ok:Ok prog 298 D.sig:=ap func298 aA (by kernel_rfl) (fc aP.ok (al _))
end jA
namespace fy
abbrev Arg:Type:=(List UInt8)×Unit
abbrev Out:Type:=kZ×Bool×Unit
abbrev ps:PQ:=[(.ro,(.U u8))]
noncomputable def D:FD:={ fn:=f257,tl:=aK,ps:=ps,rs:=[(kj,(ax kj)),(.bool,(ax .bool))],gl:=[(213,dt.D.sig),(298,jA.D.sig)],od:=[(2,[0,1,2,3,4,5,6,7,8,9,10]),(3,[0,1,2,3,4,5,6,7]),(6,[0,1,2,3,4,5,6,7,8,9,10,11,12,13,14,15,16,17,18,19,20,21,22,23]),(7,[0,1,2,3,4,5,6,7,8,9])] }
noncomputable def ab (a:Arg):Option Out:=@lift Out fun k=>D.W k a
noncomputable def p (a1:Arg):Option Out:=let QF:Option Out:=bif decide ((a1.1.length:Int) < (6:Int)) then (some (((0:Int),(0:Int),(0:Int),(0:Int),((0:Int),(0:Int),(0:Int),([]:List UInt8),()),()),false,())) else (a1.1[0]?).bind fun Tt=>bif decide ((Tt.toNat:Int)=(1:Int)) then (some (((0:Int),(0:Int),(0:Int),(0:Int),((0:Int),(0:Int),(0:Int),([]:List UInt8),()),()),false,())) else (a1.1[0]?).bind fun Tu=>bif decide ((2:Int) < (Tu.toNat:Int)) then (some (((0:Int),(0:Int),(0:Int),(0:Int),((0:Int),(0:Int),(0:Int),([]:List UInt8),()),()),false,())) else (a1.1[5]?).bind fun Tv=>bif !decide ((a1.1.length:Int)=ae ((6:Int)+(ae (Tv.toNat:Int)))) then (some (((0:Int),(0:Int),(0:Int),(0:Int),((0:Int),(0:Int),(0:Int),([]:List UInt8),()),()),false,())) else (a1.1[1]?).bind fun QG=>(a1.1[2]?).bind fun QH=>(a1.1[3]?).bind fun Tw=>(a1.1[4]?).bind fun C7=>if 0<=(6:Int)/\(6:Int)<=(a1.1.length:Int) then (let QI:=ae ((ae ((ae (Tw.toNat:Int))*(256:Int)))+(ae (C7.toNat:Int)));(a1.1[0]?).bind fun Tz=>(dt.ab ((ae (QG.toNat:Int),ae (QH.toNat:Int),QI,(a1.1.take a1.1.length).drop 6,()),())).bind fun TA=>some (((0:Int),ae (Tz.toNat:Int),(0:Int),(0:Int),(ae (QG.toNat:Int),ae (QH.toNat:Int),QI,(a1.1.take a1.1.length).drop 6,()),()),decide (TA.1=(0:Int)),())) else none;bif decide ((a1.1.length:Int)=(3:Int)) then ((a1.1[0]?).bind fun x2=>bif decide ((x2.toNat:Int)=(1:Int)) then ((a1.1[1]?).bind fun x3=>(a1.1[2]?).bind fun x4=>(jA.ab (ae (x3.toNat:Int),ae (x4.toNat:Int),())).bind fun r5=>some (((0:Int),(1:Int),ae (x3.toNat:Int),ae (x4.toNat:Int),((0:Int),(0:Int),(0:Int),([]:List UInt8),()),()),r5.1,())) else QF) else QF
theorem aa (k:Nat) (a1:Arg):@Eq (Option Out) (D.W k a1) (p a1):=by kernel_rfl
theorem ok:Ok prog 257 D.sig:=ap func257 aA (by kernel_rfl) (fc dt.ok (fc jA.ok (al _)))
end fy
namespace dv
abbrev Arg:Type:=(List UInt8)×Int×Unit
abbrev Out:Type:=Int×Unit
abbrev ps:PQ:=[(.ro,(.U u8)),(.ro,i64)]
noncomputable def D:FD:={ fn:=f299,tl:=aK,ps:=ps,rs:=[(i64,(ax i64))] }
noncomputable def ab (a:Arg):Option Out:=@lift Out fun k=>D.W k a
noncomputable def p (a1:Arg):Option Out:=if 0<=ae ((2:Int)+(ae ((2:Int)*a1.2.1))) then ((a1.1[(ae ((2:Int)+(ae ((2:Int)*a1.2.1)))).toNat]?).bind fun x2=>some (ae (x2.toNat:Int),())) else none
theorem aa (k:Nat) (a1:Arg):@Eq (Option Out) (D.W k a1) (p a1):=by kernel_rfl
theorem ok:Ok prog 299 D.sig:=ap func299 aA (by kernel_rfl) (al _)
end dv
namespace fA
abbrev Arg:Type:=(List UInt8)×Int×Unit
abbrev Out:Type:=(List UInt8)×Unit
abbrev ps:PQ:=[(.ro,(.U u8)),(.ro,i64)]
noncomputable def D:FD:={ fn:=f258,tl:=aK,ps:=ps,rs:=[((.U u8),(ao (.U u8)))],gl:=[(256,bD.D.sig),(299,dv.D.sig)] }
noncomputable def ab (a:Arg):Option Out:=@lift Out fun k=>D.W k a
noncomputable def p (a1:Arg):Option Out:=(dv.ab (a1.1,a1.2.1,())).bind fun r2=>(bD.ab (a1.1,a1.2.1,())).bind fun r3=>if 0<=r2.1/\r2.1<=ae (r2.1+r3.1)/\ae (r2.1+r3.1)<=(a1.1.length:Int) then (if ([]:List UInt8).length+((a1.1.take (ae (r2.1+r3.1)).toNat).drop r2.1.toNat).length<=bf then (let y4:=([]:List UInt8)++((a1.1.take (ae (r2.1+r3.1)).toNat).drop r2.1.toNat);some (y4,())) else none) else none
theorem aa (k:Nat) (a1:Arg):@Eq (Option Out) (D.W k a1) (p a1):=by kernel_rfl
theorem ok:Ok prog 258 D.sig:=ap func258 aA (by kernel_rfl) (fc bD.ok (fc dv.ok (al _)))
end fA
namespace bP
abbrev Arg:Type:=(List (List UInt8))×Unit
abbrev Out:Type:=(List aw)×Unit
abbrev ps:PQ:=[(.ro,(.U (.U u8)))]
noncomputable def D:FD:={ fn:=f192,tl:=aK,ps:=ps,rs:=[((.U d9),(ao (.U d9)))],gl:=[(255,du.D.sig),(256,bD.D.sig),(257,fy.D.sig),(258,fA.D.sig)],lv:=[(3,[0,3,4]),(6,[0,3,4,5])],lx:=[(0,[3]),(2,[0,3,4])] }
noncomputable def ab (a:Arg):Option Out:=@lift Out fun k=>D.W k a
noncomputable def T0 (a1:Arg) (J:(List (List UInt8))×(List aw)×Int):St:={ n:=49,sl:=[(0,.val (.U (.U u8)) J.1),(3,.own (.U d9) (ao (.U d9)) [] J.2.1),(4,.val i64 J.2.2)],vr:=[],av:=[] }
noncomputable def S0 (rec:RT Out) (a1:Arg):((List (List UInt8))×(List aw)×Int)->Option Out:=fun J=>rec (T0 a1 J)
noncomputable def bt (K:KT Out) (a1:Arg):(List aw)->Option Out:=fun z=>K (.exit 0) ({ n:=49,sl:=[(3,.own (.U d9) (ao (.U d9)) [] z)],vr:=[],av:=[] })
noncomputable def T1 (a1:Arg) (fV:List (List UInt8)) (ep:Int) (gb:(List aw)×Int):St:={ n:=49,sl:=[(0,.val (.U (.U u8)) fV),(3,.own (.U d9) (ao (.U d9)) [] gb.1),(4,.val i64 ep),(5,.val i64 gb.2)],vr:=[],av:=[] }
noncomputable def b1 (self:((List aw)×Int)->Option Out) (e2:(List aw)->Option Out) (a1:Arg) (fV:List (List UInt8)) (ep:Int) (gb:(List aw)×Int):Option Out:=if 0<=ep then ((fV[ep.toNat]?).bind fun GE=>(du.ab (GE,())).bind fun Pt=>bif decide (gb.2 < Pt.1) then (if 0<=ep then ((fV[ep.toNat]?).bind fun yG=>(bD.ab (yG,gb.2,())).bind fun GJ=>bif decide ((0:Int) < GJ.1) then (if 0<=ep then ((fV[ep.toNat]?).bind fun yH=>(fA.ab (yH,gb.2,())).bind fun yI=>(fy.ab (yI.1,())).bind fun Bx=>if gb.1.length+[(ep,gb.2,Bx.1,())].length<=bf then (let GK:=gb.1++[(ep,gb.2,Bx.1,())];self (GK,ae (gb.2+(1:Int)))) else none) else none) else self (gb.1,ae (gb.2+(1:Int)))) else none) else e2 gb.1) else none
noncomputable abbrev B1 (_:Nat):=b1
noncomputable def q0 (self:((List (List UInt8))×(List aw)×Int)->Option Out) (e0:(List aw)->Option Out) (a1:Arg) (fV:List (List UInt8)) (ep:Int) (LZ:(List aw)):Option Out:=self (fV,LZ,ae (ep+(1:Int)))
noncomputable abbrev Q0 (_:Nat):=q0
noncomputable def s1 (k:Nat) (rec:RT Out) (K:KT Out) (a1:Arg):(List (List UInt8))->Int->((List aw)×Int)->Option Out:=fun fV ep=>fun gb=>D.L k [1,1,0,1,0,0,1,0,0,1,0,0] [0,3,4,5] [] (af 2 (af 1 (aq (D.N k [1,1,0,1,0,0,1,1]) (dw rec (cj [0,3,4] []) K)))) (T1 a1 fV ep gb)
noncomputable def r1 (k:Nat) (self:((List (List UInt8))×(List aw)×Int)->Option Out) (e0:(List aw)->Option Out) (a1:Arg):(List (List UInt8))->Int->((List aw)×Int)->Option Out:=fun fV ep=>ak (fun w v=>B1 k w (Q0 k self e0 a1 fV ep) a1 fV ep v) k
theorem f_ (k:Nat) (rec:RT Out) (K:KT Out) (a1:Arg):s1 k rec K a1=r1 k (S0 rec a1) (bt K a1) a1:=
 funext fun fV=>funext fun ep=>funext fun gb=>an _ _ _ (T1 a1 fV ep) _ (fun rec v=>by kernel_rfl) k gb
noncomputable def b0 (self:((List (List UInt8))×(List aw)×Int)->Option Out) (e0:(List aw)->Option Out) (l1:(List (List UInt8))->Int->((List aw)×Int)->Option Out) (a1:Arg) (J:(List (List UInt8))×(List aw)×Int):Option Out:=bif decide (J.2.2 < (J.1.length:Int)) then (l1 J.1 J.2.2 (J.2.1,(0:Int))) else e0 J.2.1
noncomputable def B0 (k:Nat) (self:((List (List UInt8))×(List aw)×Int)->Option Out) (e0:(List aw)->Option Out) (a1:Arg) (J:(List (List UInt8))×(List aw)×Int):Option Out:=b0 self e0 (r1 k self e0 a1) a1 J
theorem f9 (k:Nat) (rec:RT Out) (K:KT Out) (a1:Arg) (J:(List (List UInt8))×(List aw)×Int):D.N k [1,1,0,1,0,0] (T0 a1 J) (dw rec (cj [0,3,4] []) K)=B0 k (S0 rec a1) (bt K a1) a1 J:=
 Eq.trans (b:=b0 (S0 rec a1) (bt K a1) (s1 k rec K a1) a1 J) (by kernel_rfl) (by rw[f_];rfl)
noncomputable def q1 (a1:Arg) (qM:(List aw)):Option Out:=some (qM,())
noncomputable abbrev Q1 (_:Nat):=q1
theorem l_ (k:Nat) (a1:Arg) (qM:(List aw)):bt (af 0 (aq (D.N k [1,1,1]) D.K0)) a1 qM=q1 a1 qM:=by kernel_rfl
noncomputable def s0 (k:Nat) (a1:Arg):((List (List UInt8))×(List aw)×Int)->Option Out:=fun J=>D.L k [1,1,0,1,0,0] [0,3,4] [] (af 0 (aq (D.N k [1,1,1]) D.K0)) (T0 a1 J)
noncomputable def r0 (k:Nat) (a1:Arg):((List (List UInt8))×(List aw)×Int)->Option Out:=ak (fun w v=>B0 k w (Q1 k a1) a1 v) k
theorem au (k:Nat) (a1:Arg):s0 k a1=r0 k a1:=by
 funext J;
 have h0:bt (af 0 (aq (D.N k [1,1,1]) D.K0)) a1=Q1 k a1:=funext fun z=>l_ k a1 z
 refine (an _ _ _ (T0 a1) (fun self v=>B0 k self (bt (af 0 (aq (D.N k [1,1,1]) D.K0)) a1) a1 v) (fun rec v=>f9 k rec (af 0 (aq (D.N k [1,1,1]) D.K0)) a1 v) k J).trans ?_
 rw[h0]
 rfl
noncomputable def p (l0:((List (List UInt8))×(List aw)×Int)->Option Out) (a1:Arg):Option Out:=l0 (a1.1,([]:List aw),(0:Int))
theorem aa (k:Nat) (a1:Arg):@Eq (Option Out) (D.W k a1) (p (r0 k a1) a1):=
 Eq.trans (b:=p (s0 k a1) a1) (by kernel_rfl) (by rw[au])
theorem ok:Ok prog 192 D.sig:=ap func192 aA (by kernel_rfl) (fc du.ok (fc bD.ok (fc fy.ok (fc fA.ok (al _)))))
end bP
namespace lc
abbrev Arg:Type:=(List UInt8)×Int×Unit
abbrev Out:Type:=Bool×Unit
abbrev ps:PQ:=[(.ro,(.U u8)),(.ro,i64)]
noncomputable def D:FD:={ fn:=f278,tl:=aK,ps:=ps,rs:=[(.bool,(ax .bool))],gl:=[(118,aP.D.sig),(255,du.D.sig),(256,bD.D.sig)] }
noncomputable def ab (a:Arg):Option Out:=@lift Out fun k=>D.W k a
noncomputable def p (a1:Arg):Option Out:=(du.ab (a1.1,())).bind fun r2=>(aP.ab (a1.2.1,(0:Int),ae (r2.1 - (1:Int)),())).bind fun r3=>bif r3.1 then ((bD.ab (a1.1,a1.2.1,())).bind fun r4=>some (decide ((0:Int) < r4.1),())) else some (false,())
theorem aa (k:Nat) (a1:Arg):@Eq (Option Out) (D.W k a1) (p a1):=by kernel_rfl
theorem ok:Ok prog 278 D.sig:=ap func278 aA (by kernel_rfl) (fc aP.ok (fc du.ok (fc bD.ok (al _))))
end lc
namespace fX
abbrev Arg:Type:=(List (List UInt8))×Int×Int×Unit
abbrev Out:Type:=kZ×Bool×Unit
abbrev ps:PQ:=[(.ro,(.U (.U u8))),(.ro,i64),(.ro,i64)]
noncomputable def D:FD:={ fn:=f219,tl:=aK,ps:=ps,rs:=[(kj,(ax kj)),(.bool,(ax .bool))],gl:=[(118,aP.D.sig),(257,fy.D.sig),(258,fA.D.sig),(278,lc.D.sig)] }
noncomputable def ab (a:Arg):Option Out:=@lift Out fun k=>D.W k a
noncomputable def p (a1:Arg):Option Out:=(aP.ab (a1.2.1,(0:Int),ae ((a1.1.length:Int) - (1:Int)),())).bind fun r2=>bif !r2.1 then (some (((0:Int),(0:Int),(0:Int),(0:Int),((0:Int),(0:Int),(0:Int),([]:List UInt8),()),()),false,())) else if 0<=a1.2.1 then ((a1.1[a1.2.1.toNat]?).bind fun x3=>(lc.ab (x3,a1.2.2.1,())).bind fun r4=>bif !r4.1 then (some (((0:Int),(0:Int),(0:Int),(0:Int),((0:Int),(0:Int),(0:Int),([]:List UInt8),()),()),false,())) else if 0<=a1.2.1 then ((a1.1[a1.2.1.toNat]?).bind fun x5=>(fA.ab (x5,a1.2.2.1,())).bind fun r6=>(fy.ab (r6.1,())).bind fun r7=>some (r7.1,r7.2.1,())) else none) else none
theorem aa (k:Nat) (a1:Arg):@Eq (Option Out) (D.W k a1) (p a1):=by kernel_rfl
theorem ok:Ok prog 219 D.sig:=ap func219 aA (by kernel_rfl) (fc aP.ok (fc fy.ok (fc fA.ok (fc lc.ok (al _)))))
end fX
namespace eC
abbrev Arg:Type:=(List (List UInt8))×Unit
abbrev Out:Type:=(List aw)×Unit
abbrev ps:PQ:=[(.ro,(.U (.U u8)))]
noncomputable def D:FD:={ fn:=f145,tl:=aK,ps:=ps,rs:=[((.U d9),(ao (.U d9)))],gl:=[(192,bP.D.sig),(219,fX.D.sig)],lv:=[(4,[0,3,4,5])],lx:=[(0,[3]),(1,[0,3,4,5])] }
noncomputable def ab (a:Arg):Option Out:=@lift Out fun k=>D.W k a
noncomputable def T0 (a1:Arg) (fm:List aw) (a7:(List aw)×Int):St:={ n:=50,sl:=[(0,.val (.U (.U u8)) a1.1),(3,.own (.U d9) (ao (.U d9)) [] a7.1),(4,.own (.U d9) (ao (.U d9)) [] fm),(5,.val i64 a7.2)],vr:=[],av:=[] }
noncomputable def b0 (self:((List aw)×Int)->Option Out) (e0:(List aw)->Option Out) (a1:Arg) (fm:List aw) (a7:(List aw)×Int):Option Out:=bif decide (a7.2 < (fm.length:Int)) then (if 0<=a7.2/\a7.2 < (fm.length:Int) then ((fm[a7.2.toNat]?).bind fun cE=>bif decide (cE.2.2.1.2.1=(2:Int)) then (self (a7.1,ae (a7.2+(1:Int)))) else let C5:=fun (On:aw)=>(if a7.1.length+[On].length<=bf then (self (a7.1++[On],ae (a7.2+(1:Int)))) else none:Option Out);bif decide (cE.2.2.1.2.1=(1:Int)) then ((fX.ab (a1.1,cE.2.2.1.2.2.1,cE.2.2.1.2.2.2.1,())).bind fun kE=>C5 (cE.1,cE.2.1,(cE.2.2.1.1,cE.2.2.1.2.1,cE.2.2.1.2.2.1,cE.2.2.1.2.2.2.1,kE.1.2.2.2.2.1,cE.2.2.1.2.2.2.2.2),cE.2.2.2)) else C5 cE) else none) else e0 a7.1
noncomputable abbrev B0 (_:Nat):=b0
noncomputable def q0 (a1:Arg) (fm:List aw) (Kh:(List aw)):Option Out:=some (Kh,())
noncomputable abbrev Q0 (_:Nat):=q0
noncomputable def s0 (k:Nat) (a1:Arg):(List aw)->((List aw)×Int)->Option Out:=fun fm=>fun a7=>D.L k [1,1,1,0,1,0,0] [0,3,4,5] [] (af 0 (aq (D.N k [1,1,1,1]) D.K0)) (T0 a1 fm a7)
noncomputable def r0 (k:Nat) (a1:Arg):(List aw)->((List aw)×Int)->Option Out:=fun fm=>ak (fun w v=>B0 k w (Q0 k a1 fm) a1 fm v) k
theorem au (k:Nat) (a1:Arg):s0 k a1=r0 k a1:=
 funext fun fm=>funext fun a7=>an _ _ _ (T0 a1 fm) _ (fun rec v=>by kernel_rfl) k a7
noncomputable def p (l0:(List aw)->((List aw)×Int)->Option Out) (a1:Arg):Option Out:=(bP.ab (a1.1,())).bind fun r2=>l0 r2.1 (([]:List aw),(0:Int))
theorem aa (k:Nat) (a1:Arg):@Eq (Option Out) (D.W k a1) (p (r0 k a1) a1):=
 Eq.trans (b:=p (s0 k a1) a1) (by kernel_rfl) (by rw[au])
theorem ok:Ok prog 145 D.sig:=ap func145 aA (by kernel_rfl) (fc bP.ok (fc fX.ok (al _)))
end eC
namespace eI
abbrev Arg:Type:=(List (List UInt8))×Unit
abbrev Out:Type:=(List Row)×Unit
abbrev ps:PQ:=[(.ro,(.U (.U u8)))]
noncomputable def D:FD:={ fn:=f75,tl:=aK,ps:=ps,rs:=[((.U aF),(ao (.U aF)))],gl:=[(145,eC.D.sig),(146,eo.D.sig)],lv:=[(4,[3,4,5])],lx:=[(0,[3])] }
noncomputable def ab (a:Arg):Option Out:=@lift Out fun k=>D.W k a
noncomputable def T0 (a1:Arg) (fm:List aw) (a7:(List Row)×Int):St:={ n:=24,sl:=[(3,.own (.U aF) (ao (.U aF)) [] a7.1),(4,.own (.U d9) (ao (.U d9)) [] fm),(5,.val i64 a7.2)],vr:=[],av:=[] }
noncomputable def b0 (self:((List Row)×Int)->Option Out) (e0:(List Row)->Option Out) (a1:Arg) (fm:List aw) (a7:(List Row)×Int):Option Out:=bif decide (a7.2 < (fm.length:Int)) then (if 0<=a7.2/\a7.2 < (fm.length:Int) then ((fm[a7.2.toNat]?).bind fun cE=>(eo.ab (a7.1,cE.2.2.1.2.2.2.2.1,())).bind fun kE=>self (kE.1,ae (a7.2+(1:Int)))) else none) else e0 a7.1
noncomputable abbrev B0 (_:Nat):=b0
noncomputable def q0 (a1:Arg) (fm:List aw) (gq:(List Row)):Option Out:=some (gq,())
noncomputable abbrev Q0 (_:Nat):=q0
noncomputable def s0 (k:Nat) (a1:Arg):(List aw)->((List Row)×Int)->Option Out:=fun fm=>fun a7=>D.L k [1,1,1,0,1,0,0] [3,4,5] [] (af 0 (aq (D.N k [1,1,1,1]) D.K0)) (T0 a1 fm a7)
noncomputable def r0 (k:Nat) (a1:Arg):(List aw)->((List Row)×Int)->Option Out:=fun fm=>ak (fun w v=>B0 k w (Q0 k a1 fm) a1 fm v) k
theorem au (k:Nat) (a1:Arg):s0 k a1=r0 k a1:=
 funext fun fm=>funext fun a7=>an _ _ _ (T0 a1 fm) _ (fun rec v=>by kernel_rfl) k a7
noncomputable def p (l0:(List aw)->((List Row)×Int)->Option Out) (a1:Arg):Option Out:=(eC.ab (a1.1,())).bind fun r2=>l0 r2.1 (([]:List Row),(0:Int))
theorem aa (k:Nat) (a1:Arg):@Eq (Option Out) (D.W k a1) (p (r0 k a1) a1):=
 Eq.trans (b:=p (s0 k a1) a1) (by kernel_rfl) (by rw[au])
theorem ok:Ok prog 75 D.sig:=ap func75 aA (by kernel_rfl) (fc eC.ok (fc eo.ok (al _)))
end eI
namespace cL
abbrev Arg:Type:=(List UInt8)×Unit
abbrev Out:Type:=(List UInt8)×Unit
abbrev ps:PQ:=[(.ro,(.U u8))]
noncomputable def D:FD:={ fn:=f109,tl:=aK,ps:=ps,rs:=[((.U u8),(ao (.U u8)))] }
noncomputable def ab (a:Arg):Option Out:=@lift Out fun k=>D.W k a
noncomputable def p (a1:Arg):Option Out:=if ([]:List UInt8).length+a1.1.length<=bf then (some (([]:List UInt8)++a1.1,())) else none
theorem aa (k:Nat) (a1:Arg):@Eq (Option Out) (D.W k a1) (p a1):=by kernel_rfl
theorem ok:Ok prog 109 D.sig:=ap func109 aA (by kernel_rfl) (al _)
end cL
namespace fB
abbrev Arg:Type:=(List UInt8)×Unit
abbrev Out:Type:=aM×Unit
abbrev ps:PQ:=[(.ro,(.U u8))]
noncomputable def D:FD:={ fn:=f226,tl:=aK,ps:=ps,rs:=[(bV,(ao bV))],gl:=[(109,cL.D.sig)],lv:=[(4,[0,2,3,4,5])],lx:=[(0,[2,3])],od:=[(1,[0,1,2,3,4,5,6,7,8,9,10,11,12,13,14]),(8,[0,1,2,3,4,5,6,7,8,9,10,11,12,13,14,15,16,17,18,19,20])] }
noncomputable def ab (a:Arg):Option Out:=@lift Out fun k=>D.W k a
noncomputable def T0 (a1:Arg) (cK:aM×Int×Int):St:={ n:=73,sl:=[(0,.val (.U u8) a1.1),(2,.box bV (ao bV) [] ((0:Int),(0:Int),(0:Int),([]:List cP),())),(3,.box bV (ao bV) [] cK.1),(4,.val i64 cK.2.1),(5,.val i64 cK.2.2)],vr:=[],av:=[] }
noncomputable def b0 (self:(aM×Int×Int)->Option Out) (e0:aM->Option Out) (a1:Arg) (cK:aM×Int×Int):Option Out:=(a1.1[4]?).bind fun ne=>bif decide (cK.2.2 < ae (ne.toNat:Int)) then (bif decide (ae (cK.2.1+(2:Int))<=(a1.1.length:Int)) then (if 0<=ae (cK.2.1+(1:Int)) then ((a1.1[(ae (cK.2.1+(1:Int))).toNat]?).bind fun mb=>bif decide ((a1.1.length:Int) < ae ((ae (cK.2.1+(2:Int)))+(ae (mb.toNat:Int)))) then (e0 cK.1) else if 0<=cK.2.1 then ((a1.1[cK.2.1.toNat]?).bind fun xr=>if 0<=ae (cK.2.1+(2:Int))/\ae (cK.2.1+(2:Int))<=ae ((ae (cK.2.1+(2:Int)))+(ae (mb.toNat:Int)))/\ae ((ae (cK.2.1+(2:Int)))+(ae (mb.toNat:Int)))<=(a1.1.length:Int) then ((cL.ab ((a1.1.take (ae ((ae (cK.2.1+(2:Int)))+(ae (mb.toNat:Int)))).toNat).drop (ae (cK.2.1+(2:Int))).toNat,())).bind fun pF=>if cK.1.2.2.2.1.length+[(ae (xr.toNat:Int),pF.1,())].length<=bf then (let qs:=cK.1.2.2.2.1++[(ae (xr.toNat:Int),pF.1,())];self ((cK.1.1,cK.1.2.1,cK.1.2.2.1,qs,cK.1.2.2.2.2),ae ((ae (cK.2.1+(2:Int)))+(ae (mb.toNat:Int))),ae (cK.2.2+(1:Int)))) else none) else none) else none) else none) else e0 cK.1) else e0 cK.1
noncomputable abbrev B0 (_:Nat):=b0
noncomputable def q0 (a1:Arg) (Ke:aM):Option Out:=some (Ke,())
noncomputable abbrev Q0 (_:Nat):=q0
noncomputable def s0 (k:Nat) (a1:Arg):(aM×Int×Int)->Option Out:=fun cK=>D.L k [1,1,1,0,1,0,0] [0,2,3,4,5] [] (af 0 (aq (D.N k [1,1,1,1]) D.K0)) (T0 a1 cK)
noncomputable def r0 (k:Nat) (a1:Arg):(aM×Int×Int)->Option Out:=ak (fun w v=>B0 k w (Q0 k a1) a1 v) k
theorem au (k:Nat) (a1:Arg):s0 k a1=r0 k a1:=
 funext fun cK=>an _ _ _ (T0 a1) _ (fun rec v=>by kernel_rfl) k cK
noncomputable def p (l0:(aM×Int×Int)->Option Out) (a1:Arg):Option Out:=(a1.1[1]?).bind fun x2=>(a1.1[2]?).bind fun x3=>(a1.1[3]?).bind fun x4=>l0 ((ae (x2.toNat:Int),ae (x3.toNat:Int),ae (x4.toNat:Int),([]:List cP),()),(5:Int),(0:Int))
theorem aa (k:Nat) (a1:Arg):@Eq (Option Out) (D.W k a1) (p (r0 k a1) a1):=
 Eq.trans (b:=p (s0 k a1) a1) (by kernel_rfl) (by rw[au])
theorem ok:Ok prog 226 D.sig:=ap func226 aA (by kernel_rfl) (fc cL.ok (al _))
end fB
namespace gA
abbrev Arg:Type:=Int×Unit
abbrev Out:Type:=Bool×Unit
abbrev ps:PQ:=[(.ro,i64)]
noncomputable def D:FD:={ fn:=f260,tl:=aK,ps:=ps,rs:=[(.bool,(ax .bool))],gl:=[(118,aP.D.sig)] }
noncomputable def ab (a:Arg):Option Out:=@lift Out fun k=>D.W k a
noncomputable def p (a1:Arg):Option Out:=(aP.ab (a1.1,(2:Int),(4:Int),())).bind fun r2=>some (r2.1,())
theorem aa (k:Nat) (a1:Arg):@Eq (Option Out) (D.W k a1) (p a1):=by kernel_rfl
theorem ok:Ok prog 260 D.sig:=ap func260 aA (by kernel_rfl) (fc aP.ok (al _))
end gA
namespace dP
abbrev Arg:Type:=(List cP)×Unit
abbrev Out:Type:=Int×Unit
abbrev ps:PQ:=[(.ro,(.U pE))]
noncomputable def D:FD:={ fn:=f280,tl:=aK,ps:=ps,rs:=[(i64,(ax i64))],gl:=[(118,aP.D.sig)],lv:=[(4,[0,3])],lx:=[(0,[])],od:=[(9,[0,1,2,3,4,5,6,7,8,9,10,11,12,13,14,15,16,17,18,19,20,21,22,23])] }
noncomputable def ab (a:Arg):Option Out:=@lift Out fun k=>D.W k a
noncomputable def T0 (a1:Arg) (J:Int):St:={ n:=66,sl:=[(0,.val (.U pE) a1.1),(3,.val i64 J)],vr:=[],av:=[] }
noncomputable def b0 (self:Int->Option Out) (e0:(Unit)->Option Out) (a1:Arg) (J:Int):Option Out:=bif decide (J < (a1.1.length:Int)) then (if 0<=J then ((a1.1[J.toNat]?).bind fun aB=>if 0<=J then ((a1.1[J.toNat]?).bind fun cY=>(aP.ab (cY.1,(0:Int),(63:Int),())).bind fun gQ=>bif !gQ.1 then (some ((3:Int),())) else (aP.ab ((aB.2.1.length:Int),(1:Int),(64:Int),())).bind fun kE=>bif !kE.1 then (some ((3:Int),())) else if 0<=J then ((a1.1[J.toNat]?).bind fun mb=>bif decide ((64:Int) < ae (mb.1+(aB.2.1.length:Int))) then (some ((3:Int),())) else bif decide ((0:Int) < J) then (if 0<=J then ((a1.1[J.toNat]?).bind fun xr=>if 0<=ae (J - (1:Int)) then ((a1.1[(ae (J - (1:Int))).toNat]?).bind fun qt=>if 0<=ae (J - (1:Int)) then ((a1.1[(ae (J - (1:Int))).toNat]?).bind fun Ki=>bif decide (xr.1<=ae (qt.1+(Ki.2.1.length:Int))) then (some ((1:Int),())) else self (ae (J+(1:Int)))) else none) else none) else none) else self (ae (J+(1:Int)))) else none) else none) else none) else e0 ()
noncomputable abbrev B0 (_:Nat):=b0
noncomputable def q0 (a1:Arg) (Ke:(Unit)):Option Out:=some ((0:Int),())
noncomputable abbrev Q0 (_:Nat):=q0
noncomputable def s0 (k:Nat) (a1:Arg):(Int)->Option Out:=fun J=>D.L k [1,1,0,1,0,0] [0,3] [] (af 0 (aq (D.N k [1,1,1]) D.K0)) (T0 a1 J)
noncomputable def r0 (k:Nat) (a1:Arg):(Int)->Option Out:=ak (fun w v=>B0 k w (Q0 k a1) a1 v) k
theorem au (k:Nat) (a1:Arg):s0 k a1=r0 k a1:=
 funext fun J=>an _ _ _ (T0 a1) _ (fun rec v=>by kernel_rfl) k J
noncomputable def p (l0:(Int)->Option Out) (a1:Arg):Option Out:=bif decide ((64:Int) < (a1.1.length:Int)) then (some ((2:Int),())) else l0 (0:Int)
theorem aa (k:Nat) (a1:Arg):@Eq (Option Out) (D.W k a1) (p (r0 k a1) a1):=
 Eq.trans (b:=p (s0 k a1) a1) (by kernel_rfl) (by rw[au])
theorem ok:Ok prog 280 D.sig:=ap func280 aA (by kernel_rfl) (fc aP.ok (al _))
end dP
namespace gr
abbrev Arg:Type:=aM×Unit
abbrev Out:Type:=Int×Unit
abbrev ps:PQ:=[(.ro,(.ptr bV))]
noncomputable def D:FD:={ fn:=f227,tl:=aK,ps:=ps,rs:=[(i64,(ax i64))],gl:=[(118,aP.D.sig),(260,gA.D.sig),(280,dP.D.sig)] }
noncomputable def ab (a:Arg):Option Out:=@lift Out fun k=>D.W k a
noncomputable def p (a1:Arg):Option Out:=let L1:Option Out:=let QJ:Option Out:=(gA.ab (a1.1.1,())).bind fun TB=>bif !TB.1 then (some ((0:Int),())) else (dP.ab (a1.1.2.2.2.1,())).bind fun QL=>bif !decide (QL.1=(0:Int)) then (some (QL.1,())) else bif decide ((a1.1.2.2.2.1.length:Int)=(0:Int)) then (some ((1:Int),())) else bif decide (a1.1.1=(4:Int)) then ((a1.1.2.2.2.1[0]?).bind fun C7=>bif !decide ((C7.2.1.length:Int)=(64:Int)) then (some ((1:Int),())) else some ((0:Int),())) else some ((0:Int),());bif !decide (a1.1.1=(4:Int)) then ((aP.ab (a1.1.2.1,(1:Int),(99:Int),())).bind fun Oo=>bif !Oo.1 then (some ((3:Int),())) else (aP.ab (a1.1.2.2.1,(0:Int),(11:Int),())).bind fun Oq=>bif !Oq.1 then (some ((3:Int),())) else QJ) else (aP.ab (a1.1.2.2.1,(0:Int),(11:Int),())).bind fun IS=>bif !IS.1 then (some ((3:Int),())) else QJ;(aP.ab (a1.1.1,(1:Int),(6:Int),())).bind fun r2=>bif !r2.1 then (some ((1:Int),())) else (gA.ab (a1.1.1,())).bind fun r3=>bif !r3.1 then (bif !decide (a1.1.2.2.1=(0:Int)) then (some ((1:Int),())) else bif decide ((0:Int) < (a1.1.2.2.2.1.length:Int)) then (some ((1:Int),())) else bif decide (a1.1.1=(4:Int)) then (bif !decide (a1.1.2.1=(0:Int)) then (some ((1:Int),())) else L1) else L1) else bif decide (a1.1.1=(4:Int)) then (bif !decide (a1.1.2.1=(0:Int)) then (some ((1:Int),())) else L1) else L1
theorem aa (k:Nat) (a1:Arg):@Eq (Option Out) (D.W k a1) (p a1):=by kernel_rfl
theorem ok:Ok prog 227 D.sig:=ap func227 aA (by kernel_rfl) (fc aP.ok (fc gA.ok (fc dP.ok (al _))))
end gr
namespace gc
abbrev Arg:Type:=(List UInt8)×Unit
abbrev Out:Type:=Int×Unit
abbrev ps:PQ:=[(.ro,(.U u8))]
noncomputable def D:FD:={ fn:=f281,tl:=aK,ps:=ps,rs:=[(i64,(ax i64))],lv:=[(3,[0,3,4])],lx:=[(0,[3])] }
noncomputable def ab (a:Arg):Option Out:=@lift Out fun k=>D.W k a
noncomputable def T0 (a1:Arg) (J:Int×Int):St:={ n:=21,sl:=[(0,.val (.U u8) a1.1),(3,.val i64 J.1),(4,.val i64 J.2)],vr:=[],av:=[] }
noncomputable def b0 (self:(Int×Int)->Option Out) (e0:Int->Option Out) (a1:Arg) (J:Int×Int):Option Out:=bif decide (J.2 < (a1.1.length:Int)) then (if 0<=J.2 then ((a1.1[J.2.toNat]?).bind fun aB=>self ((ae ((ae (J.1*(31:Int)))+(ae (aB.toNat:Int)))).tmod (65521:Int),ae (J.2+(1:Int)))) else none) else e0 J.1
noncomputable abbrev B0 (_:Nat):=b0
noncomputable def q0 (a1:Arg) (hU:Int):Option Out:=some (hU,())
noncomputable abbrev Q0 (_:Nat):=q0
noncomputable def s0 (k:Nat) (a1:Arg):(Int×Int)->Option Out:=fun J=>D.L k [1,1,0,1,0,0] [0,3,4] [] (af 0 (aq (D.N k [1,1,1]) D.K0)) (T0 a1 J)
noncomputable def r0 (k:Nat) (a1:Arg):(Int×Int)->Option Out:=ak (fun w v=>B0 k w (Q0 k a1) a1 v) k
theorem au (k:Nat) (a1:Arg):s0 k a1=r0 k a1:=
 funext fun J=>an _ _ _ (T0 a1) _ (fun rec v=>by kernel_rfl) k J
noncomputable def p (l0:(Int×Int)->Option Out) (a1:Arg):Option Out:=l0 ((1:Int),(0:Int))
theorem aa (k:Nat) (a1:Arg):@Eq (Option Out) (D.W k a1) (p (r0 k a1) a1):=
 Eq.trans (b:=p (s0 k a1) a1) (by kernel_rfl) (by rw[au])
theorem ok:Ok prog 281 D.sig:=ap func281 aA (by kernel_rfl) (al _)
end gc
namespace fC
abbrev Arg:Type:=aM×Unit
abbrev Out:Type:=(List UInt8)×Unit
abbrev ps:PQ:=[(.ro,(.ptr bV))]
noncomputable def D:FD:={ fn:=f228,tl:=aK,ps:=ps,rs:=[((.U u8),(ao (.U u8)))],gl:=[(281,gc.D.sig)],lv:=[(3,[0,3,4])],lx:=[(0,[3])],od:=[(1,[0,1,2,3,4,5,6,7,8,9,10,11,12,13,14,15,16,17,18,19,20,21,22]),(5,[0,1,2,3,4,5,6,7,8,9,10,11,12,13,14,15,16,17,18,19,22,23,24,25,26,27,28,29,20,21,30,31])],ar:=[(5,[4,8,9,13,17,19,25,29])] }
noncomputable def ab (a:Arg):Option Out:=@lift Out fun k=>D.W k a
noncomputable def T0 (a1:Arg) (J:(List UInt8)×Int):St:={ n:=85,sl:=[(0,.cp bV a1.1),(3,.own (.U u8) (ao (.U u8)) [] J.1),(4,.val i64 J.2)],vr:=[],av:=[] }
noncomputable def b0 (self:((List UInt8)×Int)->Option Out) (e0:(List UInt8)->Option Out) (a1:Arg) (J:(List UInt8)×Int):Option Out:=bif decide (J.2 < (a1.1.2.2.2.1.length:Int)) then (if 0<=J.2 then ((a1.1.2.2.2.1[J.2.toNat]?).bind fun aB=>if 0<=J.2 then ((a1.1.2.2.2.1[J.2.toNat]?).bind fun cY=>if 0<=J.2 then ((a1.1.2.2.2.1[J.2.toNat]?).bind fun cE=>if J.1.length+[UInt8.ofInt aB.1,UInt8.ofInt (cY.2.1.length:Int)].length<=bf then (let o8:=J.1++[UInt8.ofInt aB.1,UInt8.ofInt (cY.2.1.length:Int)];if o8.length+cE.2.1.length<=bf then (self (o8++cE.2.1,ae (J.2+(1:Int)))) else none) else none) else none) else none) else none) else e0 J.1
noncomputable abbrev B0 (_:Nat):=b0
noncomputable def q0 (a1:Arg) (gq:(List UInt8)):Option Out:=if 0<=(0:Int)/\(0:Int) < (gq.length:Int) then ((gq[0]?).bind fun xr=>let Kj:=gq.set 0 (UInt8.ofInt (ae ((gq.length:Int)+(2:Int))));(gc.ab (Kj,())).bind fun t_=>if Kj.length+[UInt8.ofInt (ae (t_.1.tdiv (256:Int))),UInt8.ofInt (t_.1.tmod (256:Int))].length<=bf then (let RD:=Kj++[UInt8.ofInt (ae (t_.1.tdiv (256:Int))),UInt8.ofInt (t_.1.tmod (256:Int))];some (RD,())) else none) else none
noncomputable abbrev Q0 (_:Nat):=q0
noncomputable def s0 (k:Nat) (a1:Arg):((List UInt8)×Int)->Option Out:=fun J=>D.L k [1,1,0,1,0,0] [0,3,4] [] (af 0 (aq (D.N k [1,1,1]) D.K0)) (T0 a1 J)
noncomputable def r0 (k:Nat) (a1:Arg):((List UInt8)×Int)->Option Out:=ak (fun w v=>B0 k w (Q0 k a1) a1 v) k
theorem au (k:Nat) (a1:Arg):s0 k a1=r0 k a1:=
 funext fun J=>an _ _ _ (T0 a1) _ (fun rec v=>by kernel_rfl) k J
noncomputable def p (l0:((List UInt8)×Int)->Option Out) (a1:Arg):Option Out:=l0 ([(0:UInt8),UInt8.ofInt a1.1.1,UInt8.ofInt a1.1.2.1,UInt8.ofInt a1.1.2.2.1,UInt8.ofInt (a1.1.2.2.2.1.length:Int)],(0:Int))
theorem aa (k:Nat) (a1:Arg):@Eq (Option Out) (D.W k a1) (p (r0 k a1) a1):=
 Eq.trans (b:=p (s0 k a1) a1) (by kernel_rfl) (by rw[au])
theorem ok:Ok prog 228 D.sig:=ap func228 aA (by kernel_rfl) (fc gc.ok (al _))
end fC
namespace gM
abbrev Arg:Type:=(List UInt8)×Unit
abbrev Out:Type:=C3×Unit
abbrev ps:PQ:=[(.ro,(.U u8))]
noncomputable def D:FD:={ fn:=f165,tl:=aK,ps:=ps,rs:=[(qq,(ao qq))],gl:=[(226,fB.D.sig),(227,gr.D.sig),(228,fC.D.sig)],od:=[(5,[0,1,2,5,6,7,8,3,4,9,10])],ar:=[(5,[8])] }
noncomputable def ab (a:Arg):Option Out:=@lift Out fun k=>D.W k a
noncomputable def p (a1:Arg):Option Out:=bif decide ((a1.1.length:Int) < (7:Int)) then (some (((5:Int),(0:Int),((0:Int),(0:Int),(0:Int),([]:List cP),()),()),())) else (a1.1[0]?).bind fun x2=>bif decide (ae (x2.toNat:Int) < (7:Int)) then (some (((5:Int),(0:Int),((0:Int),(0:Int),(0:Int),([]:List cP),()),()),())) else (a1.1[0]?).bind fun x3=>bif decide ((a1.1.length:Int) < ae (x3.toNat:Int)) then (some (((5:Int),(0:Int),((0:Int),(0:Int),(0:Int),([]:List cP),()),()),())) else (a1.1[0]?).bind fun x4=>if 0<=ae (x4.toNat:Int)/\ae (x4.toNat:Int)<=(a1.1.length:Int) then ((fB.ab ((a1.1.take (ae (x4.toNat:Int)).toNat).drop 0,())).bind fun r5=>(gr.ab (r5.1,())).bind fun r6=>bif !decide (r6.1=(0:Int)) then (some (((5:Int),(0:Int),((0:Int),(0:Int),(0:Int),([]:List cP),()),()),())) else if 0<=ae (x4.toNat:Int)/\ae (x4.toNat:Int)<=(a1.1.length:Int) then ((fC.ab (r5.1,())).bind fun r7=>bif !decide (r7.1=(a1.1.take (ae (x4.toNat:Int)).toNat).drop 0) then (some (((5:Int),(0:Int),((0:Int),(0:Int),(0:Int),([]:List cP),()),()),())) else some (((0:Int),ae (x4.toNat:Int),r5.1,()),())) else none) else none
theorem aa (k:Nat) (a1:Arg):@Eq (Option Out) (D.W k a1) (p a1):=by kernel_rfl
theorem ok:Ok prog 165 D.sig:=ap func165 aA (by kernel_rfl) (fc fB.ok (fc gr.ok (fc fC.ok (al _))))
end gM
namespace cM
abbrev Arg:Type:=(List UInt8)×Unit
abbrev Out:Type:=(List aM)×Int×Unit
abbrev ps:PQ:=[(.ro,(.U u8))]
noncomputable def D:FD:={ fn:=f189,tl:=aK,ps:=ps,rs:=[((.U bV),(ao (.U bV))),(i64,(ax i64))],gl:=[(165,gM.D.sig)],lv:=[(3,[0,4,5])],lx:=[(0,[4,5])] }
noncomputable def ab (a:Arg):Option Out:=@lift Out fun k=>D.W k a
noncomputable def T0 (a1:Arg) (J:(List aM)×Int):St:={ n:=30,sl:=[(0,.val (.U u8) a1.1),(4,.own (.U bV) (ao (.U bV)) [] J.1),(5,.val i64 J.2)],vr:=[],av:=[] }
noncomputable def b0 (self:((List aM)×Int)->Option Out) (e0:((List aM)×Int)->Option Out) (a1:Arg) (J:(List aM)×Int):Option Out:=bif decide (J.2 < (a1.1.length:Int)) then (if 0<=J.2/\J.2<=(a1.1.length:Int) then ((gM.ab ((a1.1.take a1.1.length).drop J.2.toNat,())).bind fun ua=>bif !decide (ua.1.1=(0:Int)) then (e0 (J.1,J.2)) else if J.1.length+[ua.1.2.2.1].length<=bf then (self (J.1++[ua.1.2.2.1],ae (J.2+ua.1.2.1))) else none) else none) else e0 (J.1,J.2)
noncomputable abbrev B0 (_:Nat):=b0
noncomputable def q0 (a1:Arg) (hU:((List aM)×Int)):Option Out:=some (hU.1,hU.2,())
noncomputable abbrev Q0 (_:Nat):=q0
noncomputable def s0 (k:Nat) (a1:Arg):((List aM)×Int)->Option Out:=fun J=>D.L k [1,1,1,0,0,0] [0,4,5] [] (af 0 (aq (D.N k [1,1,1,1]) D.K0)) (T0 a1 J)
noncomputable def r0 (k:Nat) (a1:Arg):((List aM)×Int)->Option Out:=ak (fun w v=>B0 k w (Q0 k a1) a1 v) k
theorem au (k:Nat) (a1:Arg):s0 k a1=r0 k a1:=
 funext fun J=>an _ _ _ (T0 a1) _ (fun rec v=>by kernel_rfl) k J
noncomputable def p (l0:((List aM)×Int)->Option Out) (a1:Arg):Option Out:=l0 (([]:List aM),(0:Int))
theorem aa (k:Nat) (a1:Arg):@Eq (Option Out) (D.W k a1) (p (r0 k a1) a1):=
 Eq.trans (b:=p (s0 k a1) a1) (by kernel_rfl) (by rw[au])
theorem ok:Ok prog 189 D.sig:=ap func189 aA (by kernel_rfl) (fc gM.ok (al _))
end cM
namespace gt
abbrev Arg:Type:=Log×Unit
abbrev Out:Type:=Int×Unit
abbrev ps:PQ:=[(.ro,(.ptr cD))]
noncomputable def D:FD:={ fn:=f117,tl:=aK,ps:=ps,rs:=[(i64,(ax i64))],gl:=[(189,cM.D.sig)],od:=[(1,[0,1,2,3,4,5,6,7,8,9,10,11])] }
noncomputable def ab (a:Arg):Option Out:=@lift Out fun k=>D.W k a
noncomputable def p (a1:Arg):Option Out:=bif decide ((16000:Int) < ae ((a1.1.1.length:Int)+(a1.1.2.1.length:Int))) then (some ((2:Int),())) else (cM.ab (a1.1.1,())).bind fun r2=>bif !decide (r2.2.1=(a1.1.1.length:Int)) then (some ((5:Int),())) else (cM.ab (a1.1.2.1,())).bind fun r3=>bif !decide (r3.2.1=(a1.1.2.1.length:Int)) then (some ((5:Int),())) else some ((0:Int),())
theorem aa (k:Nat) (a1:Arg):@Eq (Option Out) (D.W k a1) (p a1):=by kernel_rfl
theorem ok:Ok prog 117 D.sig:=ap func117 aA (by kernel_rfl) (fc cM.ok (al _))
end gt
namespace gS
abbrev Arg:Type:=(List UInt8)×Unit
abbrev Out:Type:=Int×Unit
abbrev ps:PQ:=[(.ro,(.U u8))]
noncomputable def D:FD:={ fn:=f295,tl:=aK,ps:=ps,rs:=[(i64,(ax i64))] }
noncomputable def ab (a:Arg):Option Out:=@lift Out fun k=>D.W k a
noncomputable def p (a1:Arg):Option Out:=(a1.1[1]?).bind fun x2=>some (ae (x2.toNat:Int),())
theorem aa (k:Nat) (a1:Arg):@Eq (Option Out) (D.W k a1) (p a1):=by kernel_rfl
theorem ok:Ok prog 295 D.sig:=ap func295 aA (by kernel_rfl) (al _)
end gS
namespace kq
abbrev Arg:Type:=(List UInt8)×Int×Unit
abbrev Out:Type:=Bool×Unit
abbrev ps:PQ:=[(.ro,(.U u8)),(.ro,i64)]
noncomputable def D:FD:={ fn:=f296,tl:=aK,ps:=ps,rs:=[(.bool,(ax .bool))],gl:=[(256,bD.D.sig),(295,gS.D.sig),(299,dv.D.sig)] }
noncomputable def ab (a:Arg):Option Out:=@lift Out fun k=>D.W k a
noncomputable def p (a1:Arg):Option Out:=(dv.ab (a1.1,a1.2.1,())).bind fun r2=>(bD.ab (a1.1,a1.2.1,())).bind fun r3=>bif decide (r2.1=(0:Int)) then (some (decide (r2.1=r3.1),())) else bif decide (r3.1=(0:Int)) then (some (decide (r2.1=r3.1),())) else (gS.ab (a1.1,())).bind fun r4=>bif decide (r4.1<=r2.1) then (some (decide (ae (r2.1+r3.1)<=(64:Int)),())) else some (false,())
theorem aa (k:Nat) (a1:Arg):@Eq (Option Out) (D.W k a1) (p a1):=by kernel_rfl
theorem ok:Ok prog 296 D.sig:=ap func296 aA (by kernel_rfl) (fc bD.ok (fc gS.ok (fc dv.ok (al _))))
end kq
namespace jB
abbrev Arg:Type:=(List UInt8)×Int×Int×Unit
abbrev Out:Type:=Bool×Unit
abbrev ps:PQ:=[(.ro,(.U u8)),(.ro,i64),(.ro,i64)]
noncomputable def D:FD:={ fn:=f297,tl:=aK,ps:=ps,rs:=[(.bool,(ax .bool))],gl:=[(256,bD.D.sig),(299,dv.D.sig)] }
noncomputable def ab (a:Arg):Option Out:=@lift Out fun k=>D.W k a
noncomputable def p (a1:Arg):Option Out:=(bD.ab (a1.1,a1.2.1,())).bind fun r2=>bif decide (r2.1=(0:Int)) then (some (true,())) else (bD.ab (a1.1,a1.2.2.1,())).bind fun r3=>bif decide (r3.1=(0:Int)) then (some (true,())) else (dv.ab (a1.1,a1.2.1,())).bind fun r4=>(bD.ab (a1.1,a1.2.1,())).bind fun r5=>(dv.ab (a1.1,a1.2.2.1,())).bind fun r6=>bif decide (ae (r4.1+r5.1)<=r6.1) then (some (true,())) else (dv.ab (a1.1,a1.2.2.1,())).bind fun r7=>(bD.ab (a1.1,a1.2.2.1,())).bind fun r8=>(dv.ab (a1.1,a1.2.1,())).bind fun r9=>some (decide (ae (r7.1+r8.1)<=r9.1),())
theorem aa (k:Nat) (a1:Arg):@Eq (Option Out) (D.W k a1) (p a1):=by kernel_rfl
theorem ok:Ok prog 297 D.sig:=ap func297 aA (by kernel_rfl) (fc bD.ok (fc dv.ok (al _)))
end jB
namespace aU
abbrev Arg:Type:=(List UInt8)×Unit
abbrev Out:Type:=Int×Unit
abbrev ps:PQ:=[(.ro,(.U u8))]
noncomputable def D:FD:={ fn:=f254,tl:=aK,ps:=ps,rs:=[(i64,(ax i64))],gl:=[(255,du.D.sig),(256,bD.D.sig),(295,gS.D.sig),(296,kq.D.sig),(297,jB.D.sig)],lv:=[(7,[0,3,4]),(12,[0,3,5]),(15,[0,3,5,6])],lx:=[(0,[0,3]),(2,[0,3]),(4,[0,3,5])] }
noncomputable def ab (a:Arg):Option Out:=@lift Out fun k=>D.W k a
noncomputable def T0 (a1:Arg) (bI:Int) (cK:Int):St:={ n:=60,sl:=[(0,.val (.U u8) a1.1),(3,.val i64 bI),(4,.val i64 cK)],vr:=[],av:=[] }
noncomputable def S0 (rec:RT Out) (a1:Arg) (bI:Int):(Int)->Option Out:=fun cK=>rec (T0 a1 bI cK)
noncomputable def bt (K:KT Out) (a1:Arg) (bI:Int):(Unit)->Option Out:=fun z=>K (.exit 0) ({ n:=60,sl:=[(0,.val (.U u8) a1.1),(3,.val i64 bI)],vr:=[],av:=[] })
noncomputable def b0 (self:Int->Option Out) (e0:(Unit)->Option Out) (a1:Arg) (bI:Int) (cK:Int):Option Out:=bif decide (cK < bI) then ((kq.ab (a1.1,cK,())).bind fun iB=>bif !iB.1 then (some ((3:Int),())) else self (ae (cK+(1:Int)))) else e0 ()
noncomputable abbrev B0 (_:Nat):=b0
theorem f9 (k:Nat) (rec:RT Out) (K:KT Out) (a1:Arg) (bI:Int) (cK:Int):D.N k [1,1,1,1,0,1,0,0] (T0 a1 bI cK) (dw rec (cj [0,3,4] []) K)=b0 (S0 rec a1 bI) (bt K a1 bI) a1 bI cK:=by kernel_rfl
noncomputable def T1 (a1:Arg) (cg:(List UInt8)×Int×Int):St:={ n:=60,sl:=[(0,.val (.U u8) cg.1),(3,.val i64 cg.2.1),(5,.val i64 cg.2.2)],vr:=[],av:=[] }
noncomputable def S1 (rec:RT Out) (a1:Arg):((List UInt8)×Int×Int)->Option Out:=fun cg=>rec (T1 a1 cg)
noncomputable def dG (K:KT Out) (a1:Arg):((List UInt8)×Int)->Option Out:=fun z=>K (.exit 2) ({ n:=60,sl:=[(0,.val (.U u8) z.1),(3,.val i64 z.2)],vr:=[],av:=[] })
noncomputable def T2 (a1:Arg) (dT:List UInt8) (cC:Int) (bF:Int) (qN:Int):St:={ n:=60,sl:=[(0,.val (.U u8) dT),(3,.val i64 cC),(5,.val i64 bF),(6,.val i64 qN)],vr:=[],av:=[] }
noncomputable def b2 (self:Int->Option Out) (e4:(Unit)->Option Out) (a1:Arg) (dT:List UInt8) (cC:Int) (bF:Int) (qN:Int):Option Out:=bif decide (qN < bF) then ((jB.ab (dT,bF,qN,())).bind fun GN=>bif !GN.1 then (some ((8:Int),())) else self (ae (qN+(1:Int)))) else e4 ()
noncomputable abbrev B2 (_:Nat):=b2
noncomputable def q1 (self:((List UInt8)×Int×Int)->Option Out) (e2:((List UInt8)×Int)->Option Out) (a1:Arg) (dT:List UInt8) (cC:Int) (bF:Int) (wz:(Unit)):Option Out:=self (dT,cC,ae (bF+(1:Int)))
noncomputable abbrev Q1 (_:Nat):=q1
noncomputable def s2 (k:Nat) (rec:RT Out) (K:KT Out) (a1:Arg):(List UInt8)->Int->Int->(Int)->Option Out:=fun dT cC bF=>fun qN=>D.L k [1,1,1,1,1,0,1,0,0,1,0,0,1,0,0] [0,3,5,6] [] (af 4 (af 3 (aq (D.N k [1,1,1,1,1,0,1,0,0,1,1]) (dw rec (cj [0,3,5] []) K)))) (T2 a1 dT cC bF qN)
noncomputable def r2 (k:Nat) (self:((List UInt8)×Int×Int)->Option Out) (e2:((List UInt8)×Int)->Option Out) (a1:Arg):(List UInt8)->Int->Int->(Int)->Option Out:=fun dT cC bF=>ak (fun w v=>B2 k w (Q1 k self e2 a1 dT cC bF) a1 dT cC bF v) k
theorem k9 (k:Nat) (rec:RT Out) (K:KT Out) (a1:Arg):s2 k rec K a1=r2 k (S1 rec a1) (dG K a1) a1:=
 funext fun dT=>funext fun cC=>funext fun bF=>funext fun qN=>an _ _ _ (T2 a1 dT cC bF) _ (fun rec v=>by kernel_rfl) k qN
noncomputable def b1 (self:((List UInt8)×Int×Int)->Option Out) (e2:((List UInt8)×Int)->Option Out) (l2:(List UInt8)->Int->Int->(Int)->Option Out) (a1:Arg) (cg:(List UInt8)×Int×Int):Option Out:=bif decide (cg.2.2 < cg.2.1) then (l2 cg.1 cg.2.1 cg.2.2 (0:Int)) else e2 (cg.1,cg.2.1)
noncomputable def B1 (k:Nat) (self:((List UInt8)×Int×Int)->Option Out) (e2:((List UInt8)×Int)->Option Out) (a1:Arg) (cg:(List UInt8)×Int×Int):Option Out:=b1 self e2 (r2 k self e2 a1) a1 cg
theorem l9 (k:Nat) (rec:RT Out) (K:KT Out) (a1:Arg) (cg:(List UInt8)×Int×Int):D.N k [1,1,1,1,1,0,1,0,0] (T1 a1 cg) (dw rec (cj [0,3,5] []) K)=B1 k (S1 rec a1) (dG K a1) a1 cg:=
 Eq.trans (b:=b1 (S1 rec a1) (dG K a1) (s2 k rec K a1) a1 cg) (by kernel_rfl) (by rw[k9];rfl)
noncomputable def q2 (a1:Arg) (nx:((List UInt8)×Int)):Option Out:=bif decide ((0:Int) < nx.2) then ((bD.ab (nx.1,ae (nx.2 - (1:Int)),())).bind fun Pu=>bif decide (Pu.1=(0:Int)) then (some ((8:Int),())) else some ((0:Int),())) else some ((0:Int),())
noncomputable abbrev Q2 (_:Nat):=q2
theorem ny (k:Nat) (a1:Arg) (nx:((List UInt8)×Int)):dG (af 2 (aq (D.N k [1,1,1,1,1,1]) D.K0)) a1 nx=q2 a1 nx:=by kernel_rfl
noncomputable def s1 (k:Nat) (a1:Arg) (bI:Int):((List UInt8)×Int×Int)->Option Out:=fun cg=>D.L k [1,1,1,1,1,0,1,0,0] [0,3,5] [] (af 2 (aq (D.N k [1,1,1,1,1,1]) D.K0)) (T1 a1 cg)
noncomputable def r1 (k:Nat) (a1:Arg) (bI:Int):((List UInt8)×Int×Int)->Option Out:=ak (fun w v=>B1 k w (Q2 k a1) a1 v) k
theorem f_ (k:Nat) (a1:Arg) (bI:Int):s1 k a1 bI=r1 k a1 bI:=by
 funext cg;
 have Y:dG (af 2 (aq (D.N k [1,1,1,1,1,1]) D.K0)) a1=Q2 k a1:=funext fun z=>ny k a1 z
 refine (an _ _ _ (T1 a1) (fun self v=>B1 k self (dG (af 2 (aq (D.N k [1,1,1,1,1,1]) D.K0)) a1) a1 v) (fun rec v=>l9 k rec (af 2 (aq (D.N k [1,1,1,1,1,1]) D.K0)) a1 v) k cg).trans ?_
 rw[Y]
 rfl
noncomputable def q0 (l1:((List UInt8)×Int×Int)->Option Out) (a1:Arg) (bI:Int) (l8:(Unit)):Option Out:=l1 (a1.1,bI,(0:Int))
noncomputable def Q0 (k:Nat) (a1:Arg) (bI:Int) (l8:(Unit)):Option Out:=q0 (r1 k a1 bI) a1 bI l8
theorem k_ (k:Nat) (a1:Arg) (bI:Int) (l8:(Unit)):bt (af 0 (aq (D.N k [1,1,1,1,1]) D.K0)) a1 bI l8=Q0 k a1 bI l8:=
 Eq.trans (b:=q0 (s1 k a1 bI) a1 bI l8) (by kernel_rfl) (by rw[f_];rfl)
noncomputable def s0 (k:Nat) (a1:Arg):Int->(Int)->Option Out:=fun bI=>fun cK=>D.L k [1,1,1,1,0,1,0,0] [0,3,4] [] (af 0 (aq (D.N k [1,1,1,1,1]) D.K0)) (T0 a1 bI cK)
noncomputable def r0 (k:Nat) (a1:Arg):Int->(Int)->Option Out:=fun bI=>ak (fun w v=>B0 k w (Q0 k a1 bI) a1 bI v) k
theorem au (k:Nat) (a1:Arg):s0 k a1=r0 k a1:=by
 funext bI;funext cK;
 have h0:bt (af 0 (aq (D.N k [1,1,1,1,1]) D.K0)) a1 bI=Q0 k a1 bI:=funext fun z=>k_ k a1 bI z
 refine (an _ _ _ (T0 a1 bI) (fun self v=>B0 k self (bt (af 0 (aq (D.N k [1,1,1,1,1]) D.K0)) a1 bI) a1 bI v) (fun rec v=>f9 k rec (af 0 (aq (D.N k [1,1,1,1,1]) D.K0)) a1 bI v) k cK).trans ?_
 rw[h0]
 rfl
noncomputable def p (l0:Int->(Int)->Option Out) (a1:Arg):Option Out:=bif !decide ((a1.1.length:Int)=(64:Int)) then (some ((1:Int),())) else (du.ab (a1.1,())).bind fun r2=>bif decide ((16:Int) < r2.1) then (some ((3:Int),())) else (gS.ab (a1.1,())).bind fun r3=>bif decide (r3.1 < ae ((2:Int)+(ae ((2:Int)*r2.1)))) then (some ((3:Int),())) else (gS.ab (a1.1,())).bind fun r4=>bif decide ((64:Int) < r4.1) then (some ((3:Int),())) else l0 r2.1 (0:Int)
theorem aa (k:Nat) (a1:Arg):@Eq (Option Out) (D.W k a1) (p (r0 k a1) a1):=
 Eq.trans (b:=p (s0 k a1) a1) (by kernel_rfl) (by rw[au])
theorem ok:Ok prog 254 D.sig:=ap func254 aA (by kernel_rfl) (fc du.ok (fc bD.ok (fc gS.ok (fc kq.ok (fc jB.ok (al _))))))
end aU
namespace cq
abbrev Arg:Type:=(List (List UInt8))×Unit
abbrev Out:Type:=Int×Unit
abbrev ps:PQ:=[(.ro,(.U (.U u8)))]
noncomputable def D:FD:={ fn:=f190,tl:=aK,ps:=ps,rs:=[(i64,(ax i64))],gl:=[(254,aU.D.sig),(255,du.D.sig),(256,bD.D.sig),(257,fy.D.sig),(258,fA.D.sig)],lv:=[(2,[0,3]),(8,[0,3,5])],lx:=[(0,[]),(2,[0,3])] }
noncomputable def ab (a:Arg):Option Out:=@lift Out fun k=>D.W k a
noncomputable def T0 (a1:Arg) (J:(List (List UInt8))×Int):St:={ n:=50,sl:=[(0,.val (.U (.U u8)) J.1),(3,.val i64 J.2)],vr:=[],av:=[] }
noncomputable def S0 (rec:RT Out) (a1:Arg):((List (List UInt8))×Int)->Option Out:=fun J=>rec (T0 a1 J)
noncomputable def bt (K:KT Out) (a1:Arg):(Unit)->Option Out:=fun z=>K (.exit 0) ({ n:=50,sl:=[],vr:=[],av:=[] })
noncomputable def T1 (a1:Arg) (eK:List (List UInt8)) (dz:Int) (cm:Int):St:={ n:=50,sl:=[(0,.val (.U (.U u8)) eK),(3,.val i64 dz),(5,.val i64 cm)],vr:=[],av:=[] }
noncomputable def b1 (self:Int->Option Out) (e2:(Unit)->Option Out) (a1:Arg) (eK:List (List UInt8)) (dz:Int) (cm:Int):Option Out:=if 0<=dz then ((eK[dz.toNat]?).bind fun yG=>(du.ab (yG,())).bind fun GJ=>bif decide (cm < GJ.1) then (if 0<=dz then ((eK[dz.toNat]?).bind fun yH=>(bD.ab (yH,cm,())).bind fun yI=>bif decide ((0:Int) < yI.1) then (if 0<=dz then ((eK[dz.toNat]?).bind fun wx=>(fA.ab (wx,cm,())).bind fun mJ=>(fy.ab (mJ.1,())).bind fun yF=>bif !yF.2.1 then (some ((5:Int),())) else self (ae (cm+(1:Int)))) else none) else self (ae (cm+(1:Int)))) else none) else e2 ()) else none
noncomputable abbrev B1 (_:Nat):=b1
noncomputable def q0 (self:((List (List UInt8))×Int)->Option Out) (e0:(Unit)->Option Out) (a1:Arg) (eK:List (List UInt8)) (dz:Int) (qM:(Unit)):Option Out:=self (eK,ae (dz+(1:Int)))
noncomputable abbrev Q0 (_:Nat):=q0
noncomputable def s1 (k:Nat) (rec:RT Out) (K:KT Out) (a1:Arg):(List (List UInt8))->Int->(Int)->Option Out:=fun eK dz=>fun cm=>D.L k [1,0,1,0,0,1,0,0,1,1,0,0] [0,3,5] [] (af 2 (af 1 (aq (D.N k [1,0,1,0,0,1,1]) (dw rec (cj [0,3] []) K)))) (T1 a1 eK dz cm)
noncomputable def r1 (k:Nat) (self:((List (List UInt8))×Int)->Option Out) (e0:(Unit)->Option Out) (a1:Arg):(List (List UInt8))->Int->(Int)->Option Out:=fun eK dz=>ak (fun w v=>B1 k w (Q0 k self e0 a1 eK dz) a1 eK dz v) k
theorem f_ (k:Nat) (rec:RT Out) (K:KT Out) (a1:Arg):s1 k rec K a1=r1 k (S0 rec a1) (bt K a1) a1:=
 funext fun eK=>funext fun dz=>funext fun cm=>an _ _ _ (T1 a1 eK dz) _ (fun rec v=>by kernel_rfl) k cm
noncomputable def b0 (self:((List (List UInt8))×Int)->Option Out) (e0:(Unit)->Option Out) (l1:(List (List UInt8))->Int->(Int)->Option Out) (a1:Arg) (J:(List (List UInt8))×Int):Option Out:=bif decide (J.2 < (J.1.length:Int)) then (if 0<=J.2 then ((J.1[J.2.toNat]?).bind fun aB=>(aU.ab (aB,())).bind fun bZ=>bif !decide (bZ.1=(0:Int)) then (some (bZ.1,())) else l1 J.1 J.2 (0:Int)) else none) else e0 ()
noncomputable def B0 (k:Nat) (self:((List (List UInt8))×Int)->Option Out) (e0:(Unit)->Option Out) (a1:Arg) (J:(List (List UInt8))×Int):Option Out:=b0 self e0 (r1 k self e0 a1) a1 J
theorem f9 (k:Nat) (rec:RT Out) (K:KT Out) (a1:Arg) (J:(List (List UInt8))×Int):D.N k [1,0,1,0,0] (T0 a1 J) (dw rec (cj [0,3] []) K)=B0 k (S0 rec a1) (bt K a1) a1 J:=
 Eq.trans (b:=b0 (S0 rec a1) (bt K a1) (s1 k rec K a1) a1 J) (by kernel_rfl) (by rw[f_];rfl)
noncomputable def q1 (a1:Arg) (By:(Unit)):Option Out:=some ((0:Int),())
noncomputable abbrev Q1 (_:Nat):=q1
theorem l_ (k:Nat) (a1:Arg) (By:(Unit)):bt (af 0 (aq (D.N k [1,1]) D.K0)) a1 By=q1 a1 By:=by kernel_rfl
noncomputable def s0 (k:Nat) (a1:Arg):((List (List UInt8))×Int)->Option Out:=fun J=>D.L k [1,0,1,0,0] [0,3] [] (af 0 (aq (D.N k [1,1]) D.K0)) (T0 a1 J)
noncomputable def r0 (k:Nat) (a1:Arg):((List (List UInt8))×Int)->Option Out:=ak (fun w v=>B0 k w (Q1 k a1) a1 v) k
theorem au (k:Nat) (a1:Arg):s0 k a1=r0 k a1:=by
 funext J;
 have h0:bt (af 0 (aq (D.N k [1,1]) D.K0)) a1=Q1 k a1:=funext fun z=>l_ k a1 z
 refine (an _ _ _ (T0 a1) (fun self v=>B0 k self (bt (af 0 (aq (D.N k [1,1]) D.K0)) a1) a1 v) (fun rec v=>f9 k rec (af 0 (aq (D.N k [1,1]) D.K0)) a1 v) k J).trans ?_
 rw[h0]
 rfl
noncomputable def p (l0:((List (List UInt8))×Int)->Option Out) (a1:Arg):Option Out:=l0 (a1.1,(0:Int))
theorem aa (k:Nat) (a1:Arg):@Eq (Option Out) (D.W k a1) (p (r0 k a1) a1):=
 Eq.trans (b:=p (s0 k a1) a1) (by kernel_rfl) (by rw[au])
theorem ok:Ok prog 190 D.sig:=ap func190 aA (by kernel_rfl) (fc aU.ok (fc du.ok (fc bD.ok (fc fy.ok (fc fA.ok (al _))))))
end cq
namespace bi
abbrev Arg:Type:=(List aw)×(List (List UInt8))×Unit
abbrev Out:Type:=Int×Unit
abbrev ps:PQ:=[(.ro,(.U d9)),(.ro,(.U (.U u8)))]
noncomputable def D:FD:={ fn:=f191,tl:=aK,ps:=ps,rs:=[(i64,(ax i64))],gl:=[(219,fX.D.sig)],lv:=[(2,[0,1,5]),(9,[0,8]),(12,[0,8,9])],lx:=[(0,[0]),(1,[0,1,5]),(2,[]),(4,[0,8])],od:=[(5,[0,1,2,3,4,5,6,7,8,9,10,11,12,13,14,15,16,17,18,19]),(16,[0,1,2,3,4,5,6,7,8,9,10,11,12,13,14,15,16,17,18,19,20,21,22,23,24,25,26,27,28,29,30,31,32,33])],ar:=[(5,[6,12])],pd:=[(5,[17])] }
noncomputable def ab (a:Arg):Option Out:=@lift Out fun k=>D.W k a
noncomputable def T0 (a1:Arg) (J:Int):St:={ n:=102,sl:=[(0,.val (.U d9) a1.1),(1,.val (.U (.U u8)) a1.2.1),(5,.val i64 J)],vr:=[],av:=[] }
noncomputable def S0 (rec:RT Out) (a1:Arg):(Int)->Option Out:=fun J=>rec (T0 a1 J)
noncomputable def bt (K:KT Out) (a1:Arg):(Unit)->Option Out:=fun z=>K (.exit 0) ({ n:=102,sl:=[(0,.val (.U d9) a1.1)],vr:=[],av:=[] })
noncomputable def b0 (self:Int->Option Out) (e0:(Unit)->Option Out) (a1:Arg) (J:Int):Option Out:=bif decide (J < (a1.1.length:Int)) then (if 0<=J then ((a1.1[J.toNat]?).bind fun aB=>bif !decide (aB.2.2.1.2.1=(1:Int)) then (self (ae (J+(1:Int)))) else if 0<=J then ((a1.1[J.toNat]?).bind fun cY=>if 0<=J then ((a1.1[J.toNat]?).bind fun cE=>(fX.ab (a1.2.1,cY.2.2.1.2.2.1,cE.2.2.1.2.2.2.1,())).bind fun kE=>bif !kE.2.1 then (some ((4:Int),())) else bif !decide (kE.1.2.1=(2:Int)) then (some ((4:Int),())) else self (ae (J+(1:Int)))) else none) else none) else none) else e0 ()
noncomputable abbrev B0 (_:Nat):=b0
theorem f9 (k:Nat) (rec:RT Out) (K:KT Out) (a1:Arg) (J:Int):D.N k [1,0,1,0,0] (T0 a1 J) (dw rec (cj [0,1,5] []) K)=b0 (S0 rec a1) (bt K a1) a1 J:=by kernel_rfl
noncomputable def T1 (a1:Arg) (bd:(List aw)×Int):St:={ n:=102,sl:=[(0,.val (.U d9) bd.1),(8,.val i64 bd.2)],vr:=[],av:=[] }
noncomputable def S1 (rec:RT Out) (a1:Arg):((List aw)×Int)->Option Out:=fun bd=>rec (T1 a1 bd)
noncomputable def dG (K:KT Out) (a1:Arg):(Unit)->Option Out:=fun z=>K (.exit 2) ({ n:=102,sl:=[],vr:=[],av:=[] })
noncomputable def T2 (a1:Arg) (gT:List aw) (dT:Int) (nz:Int):St:={ n:=102,sl:=[(0,.val (.U d9) gT),(8,.val i64 dT),(9,.val i64 nz)],vr:=[],av:=[] }
noncomputable def b2 (self:Int->Option Out) (e4:(Unit)->Option Out) (a1:Arg) (gT:List aw) (dT:Int) (nz:Int):Option Out:=bif decide (nz < dT) then (if 0<=dT then ((gT[dT.toNat]?).bind fun GO=>if 0<=nz then ((gT[nz.toNat]?).bind fun ub=>bif decide (GO.2.2.1.2.1=(1:Int)) then (bif decide (ub.2.2.1.2.1=(1:Int)) then (bif decide (GO.2.2.1.2.2.1=ub.2.2.1.2.2.1) then (bif decide (GO.2.2.1.2.2.2.1=ub.2.2.1.2.2.2.1) then (some ((6:Int),())) else self (ae (nz+(1:Int)))) else self (ae (nz+(1:Int)))) else self (ae (nz+(1:Int)))) else self (ae (nz+(1:Int)))) else none) else none) else e4 ()
noncomputable abbrev B2 (_:Nat):=b2
noncomputable def q1 (self:((List aw)×Int)->Option Out) (e2:(Unit)->Option Out) (a1:Arg) (gT:List aw) (dT:Int) (Uc:(Unit)):Option Out:=self (gT,ae (dT+(1:Int)))
noncomputable abbrev Q1 (_:Nat):=q1
noncomputable def s2 (k:Nat) (rec:RT Out) (K:KT Out) (a1:Arg):(List aw)->Int->(Int)->Option Out:=fun gT dT=>fun nz=>D.L k [1,1,0,1,0,0,1,0,0,1,0,0] [0,8,9] [] (af 4 (af 3 (aq (D.N k [1,1,0,1,0,0,1,1]) (dw rec (cj [0,8] []) K)))) (T2 a1 gT dT nz)
noncomputable def r2 (k:Nat) (self:((List aw)×Int)->Option Out) (e2:(Unit)->Option Out) (a1:Arg):(List aw)->Int->(Int)->Option Out:=fun gT dT=>ak (fun w v=>B2 k w (Q1 k self e2 a1 gT dT) a1 gT dT v) k
theorem k9 (k:Nat) (rec:RT Out) (K:KT Out) (a1:Arg):s2 k rec K a1=r2 k (S1 rec a1) (dG K a1) a1:=
 funext fun gT=>funext fun dT=>funext fun nz=>an _ _ _ (T2 a1 gT dT) _ (fun rec v=>by kernel_rfl) k nz
noncomputable def b1 (self:((List aw)×Int)->Option Out) (e2:(Unit)->Option Out) (l2:(List aw)->Int->(Int)->Option Out) (a1:Arg) (bd:(List aw)×Int):Option Out:=bif decide (bd.2 < (bd.1.length:Int)) then (l2 bd.1 bd.2 (0:Int)) else e2 ()
noncomputable def B1 (k:Nat) (self:((List aw)×Int)->Option Out) (e2:(Unit)->Option Out) (a1:Arg) (bd:(List aw)×Int):Option Out:=b1 self e2 (r2 k self e2 a1) a1 bd
theorem l9 (k:Nat) (rec:RT Out) (K:KT Out) (a1:Arg) (bd:(List aw)×Int):D.N k [1,1,0,1,0,0] (T1 a1 bd) (dw rec (cj [0,8] []) K)=B1 k (S1 rec a1) (dG K a1) a1 bd:=
 Eq.trans (b:=b1 (S1 rec a1) (dG K a1) (s2 k rec K a1) a1 bd) (by kernel_rfl) (by rw[k9];rfl)
noncomputable def q2 (a1:Arg) (wz:(Unit)):Option Out:=some ((0:Int),())
noncomputable abbrev Q2 (_:Nat):=q2
theorem ny (k:Nat) (a1:Arg) (wz:(Unit)):dG (af 2 (aq (D.N k [1,1,1]) D.K0)) a1 wz=q2 a1 wz:=by kernel_rfl
noncomputable def s1 (k:Nat) (a1:Arg):((List aw)×Int)->Option Out:=fun bd=>D.L k [1,1,0,1,0,0] [0,8] [] (af 2 (aq (D.N k [1,1,1]) D.K0)) (T1 a1 bd)
noncomputable def r1 (k:Nat) (a1:Arg):((List aw)×Int)->Option Out:=ak (fun w v=>B1 k w (Q2 k a1) a1 v) k
theorem f_ (k:Nat) (a1:Arg):s1 k a1=r1 k a1:=by
 funext bd;
 have Y:dG (af 2 (aq (D.N k [1,1,1]) D.K0)) a1=Q2 k a1:=funext fun z=>ny k a1 z
 refine (an _ _ _ (T1 a1) (fun self v=>B1 k self (dG (af 2 (aq (D.N k [1,1,1]) D.K0)) a1) a1 v) (fun rec v=>l9 k rec (af 2 (aq (D.N k [1,1,1]) D.K0)) a1 v) k bd).trans ?_
 rw[Y]
 rfl
noncomputable def q0 (l1:((List aw)×Int)->Option Out) (a1:Arg) (gq:(Unit)):Option Out:=l1 (a1.1,(0:Int))
noncomputable def Q0 (k:Nat) (a1:Arg) (gq:(Unit)):Option Out:=q0 (r1 k a1) a1 gq
theorem k_ (k:Nat) (a1:Arg) (gq:(Unit)):bt (af 0 (aq (D.N k [1,1]) D.K0)) a1 gq=Q0 k a1 gq:=
 Eq.trans (b:=q0 (s1 k a1) a1 gq) (by kernel_rfl) (by rw[f_];rfl)
noncomputable def s0 (k:Nat) (a1:Arg):(Int)->Option Out:=fun J=>D.L k [1,0,1,0,0] [0,1,5] [] (af 0 (aq (D.N k [1,1]) D.K0)) (T0 a1 J)
noncomputable def r0 (k:Nat) (a1:Arg):(Int)->Option Out:=ak (fun w v=>B0 k w (Q0 k a1) a1 v) k
theorem au (k:Nat) (a1:Arg):s0 k a1=r0 k a1:=by
 funext J;
 have h0:bt (af 0 (aq (D.N k [1,1]) D.K0)) a1=Q0 k a1:=funext fun z=>k_ k a1 z
 refine (an _ _ _ (T0 a1) (fun self v=>B0 k self (bt (af 0 (aq (D.N k [1,1]) D.K0)) a1) a1 v) (fun rec v=>f9 k rec (af 0 (aq (D.N k [1,1]) D.K0)) a1 v) k J).trans ?_
 rw[h0]
 rfl
noncomputable def p (l0:(Int)->Option Out) (a1:Arg):Option Out:=l0 (0:Int)
theorem aa (k:Nat) (a1:Arg):@Eq (Option Out) (D.W k a1) (p (r0 k a1) a1):=
 Eq.trans (b:=p (s0 k a1) a1) (by kernel_rfl) (by rw[au])
theorem ok:Ok prog 191 D.sig:=ap func191 aA (by kernel_rfl) (fc fX.ok (al _))
end bi
namespace b9
abbrev Arg:Type:=(List (List UInt8))×Unit
abbrev Out:Type:=Int×Unit
abbrev ps:PQ:=[(.ro,(.U (.U u8)))]
noncomputable def D:FD:={ fn:=f119,tl:=aK,ps:=ps,rs:=[(i64,(ax i64))],gl:=[(145,eC.D.sig),(190,cq.D.sig),(191,bi.D.sig),(192,bP.D.sig)],lv:=[(11,[5,6]),(14,[5,6,7])],lx:=[(0,[]),(2,[5,6])],od:=[(16,[0,1,2,3,4,5,6,7,8,9,10,11,12,13,14,15,16,17,18,19,20,21,22,23,24,25,26,27,28,29,30,31])] }
noncomputable def ab (a:Arg):Option Out:=@lift Out fun k=>D.W k a
noncomputable def T0 (a1:Arg) (mc:(List aw)×Int):St:={ n:=68,sl:=[(5,.own (.U d9) (ao (.U d9)) [] mc.1),(6,.val i64 mc.2)],vr:=[],av:=[] }
noncomputable def S0 (rec:RT Out) (a1:Arg):((List aw)×Int)->Option Out:=fun mc=>rec (T0 a1 mc)
noncomputable def bt (K:KT Out) (a1:Arg):(Unit)->Option Out:=fun z=>K (.exit 0) ({ n:=68,sl:=[],vr:=[],av:=[] })
noncomputable def T1 (a1:Arg) (c_:List aw) (bS:Int) (mf:Int):St:={ n:=68,sl:=[(5,.own (.U d9) (ao (.U d9)) [] c_),(6,.val i64 bS),(7,.val i64 mf)],vr:=[],av:=[] }
noncomputable def b1 (self:Int->Option Out) (e2:(Unit)->Option Out) (a1:Arg) (c_:List aw) (bS:Int) (mf:Int):Option Out:=bif decide (mf < bS) then (if 0<=bS/\bS < (c_.length:Int) then ((c_[bS.toNat]?).bind fun yH=>if 0<=mf/\mf < (c_.length:Int) then ((c_[mf.toNat]?).bind fun wA=>bif decide (yH.2.2.1.2.2.2.2.1.1=wA.2.2.1.2.2.2.2.1.1) then (if 0<=bS/\bS < (c_.length:Int) then ((c_[bS.toNat]?).bind fun wx=>if 0<=mf/\mf < (c_.length:Int) then ((c_[mf.toNat]?).bind fun Pv=>bif decide (wx.2.2.1.2.2.2.2.1.2.1=Pv.2.2.1.2.2.2.2.1.2.1) then (some ((8:Int),())) else self (ae (mf+(1:Int)))) else none) else none) else self (ae (mf+(1:Int)))) else none) else none) else e2 ()
noncomputable abbrev B1 (_:Nat):=b1
noncomputable def q0 (self:((List aw)×Int)->Option Out) (e0:(Unit)->Option Out) (a1:Arg) (c_:List aw) (bS:Int) (LZ:(Unit)):Option Out:=self (c_,ae (bS+(1:Int)))
noncomputable abbrev Q0 (_:Nat):=q0
noncomputable def s1 (k:Nat) (rec:RT Out) (K:KT Out) (a1:Arg):(List aw)->Int->(Int)->Option Out:=fun c_ bS=>fun mf=>D.L k [1,1,1,1,1,0,1,0,0,1,0,0,1,0,0] [5,6,7] [] (af 2 (af 1 (aq (D.N k [1,1,1,1,1,0,1,0,0,1,1]) (dw rec (cj [5,6] []) K)))) (T1 a1 c_ bS mf)
noncomputable def r1 (k:Nat) (self:((List aw)×Int)->Option Out) (e0:(Unit)->Option Out) (a1:Arg):(List aw)->Int->(Int)->Option Out:=fun c_ bS=>ak (fun w v=>B1 k w (Q0 k self e0 a1 c_ bS) a1 c_ bS v) k
theorem f_ (k:Nat) (rec:RT Out) (K:KT Out) (a1:Arg):s1 k rec K a1=r1 k (S0 rec a1) (bt K a1) a1:=
 funext fun c_=>funext fun bS=>funext fun mf=>an _ _ _ (T1 a1 c_ bS) _ (fun rec v=>by kernel_rfl) k mf
noncomputable def b0 (self:((List aw)×Int)->Option Out) (e0:(Unit)->Option Out) (l1:(List aw)->Int->(Int)->Option Out) (a1:Arg) (mc:(List aw)×Int):Option Out:=bif decide (mc.2 < (mc.1.length:Int)) then (l1 mc.1 mc.2 (0:Int)) else e0 ()
noncomputable def B0 (k:Nat) (self:((List aw)×Int)->Option Out) (e0:(Unit)->Option Out) (a1:Arg) (mc:(List aw)×Int):Option Out:=b0 self e0 (r1 k self e0 a1) a1 mc
theorem f9 (k:Nat) (rec:RT Out) (K:KT Out) (a1:Arg) (mc:(List aw)×Int):D.N k [1,1,1,1,1,0,1,0,0] (T0 a1 mc) (dw rec (cj [5,6] []) K)=B0 k (S0 rec a1) (bt K a1) a1 mc:=
 Eq.trans (b:=b0 (S0 rec a1) (bt K a1) (s1 k rec K a1) a1 mc) (by kernel_rfl) (by rw[f_];rfl)
noncomputable def q1 (a1:Arg) (qM:(Unit)):Option Out:=some ((0:Int),())
noncomputable abbrev Q1 (_:Nat):=q1
theorem l_ (k:Nat) (a1:Arg) (qM:(Unit)):bt (af 0 (aq (D.N k [1,1,1,1,1,1]) D.K0)) a1 qM=q1 a1 qM:=by kernel_rfl
noncomputable def s0 (k:Nat) (a1:Arg):((List aw)×Int)->Option Out:=fun mc=>D.L k [1,1,1,1,1,0,1,0,0] [5,6] [] (af 0 (aq (D.N k [1,1,1,1,1,1]) D.K0)) (T0 a1 mc)
noncomputable def r0 (k:Nat) (a1:Arg):((List aw)×Int)->Option Out:=ak (fun w v=>B0 k w (Q1 k a1) a1 v) k
theorem au (k:Nat) (a1:Arg):s0 k a1=r0 k a1:=by
 funext mc;
 have h0:bt (af 0 (aq (D.N k [1,1,1,1,1,1]) D.K0)) a1=Q1 k a1:=funext fun z=>l_ k a1 z
 refine (an _ _ _ (T0 a1) (fun self v=>B0 k self (bt (af 0 (aq (D.N k [1,1,1,1,1,1]) D.K0)) a1) a1 v) (fun rec v=>f9 k rec (af 0 (aq (D.N k [1,1,1,1,1,1]) D.K0)) a1 v) k mc).trans ?_
 rw[h0]
 rfl
noncomputable def p (l0:((List aw)×Int)->Option Out) (a1:Arg):Option Out:=bif decide ((12:Int) < (a1.1.length:Int)) then (some ((2:Int),())) else (cq.ab (a1.1,())).bind fun r2=>bif !decide (r2.1=(0:Int)) then (some (r2.1,())) else (bP.ab (a1.1,())).bind fun r3=>(bi.ab (r3.1,a1.1,())).bind fun r4=>bif !decide (r4.1=(0:Int)) then (some (r4.1,())) else (eC.ab (a1.1,())).bind fun r5=>l0 (r5.1,(0:Int))
theorem aa (k:Nat) (a1:Arg):@Eq (Option Out) (D.W k a1) (p (r0 k a1) a1):=
 Eq.trans (b:=p (s0 k a1) a1) (by kernel_rfl) (by rw[au])
theorem ok:Ok prog 119 D.sig:=ap func119 aA (by kernel_rfl) (fc eC.ok (fc cq.ok (fc bi.ok (fc bP.ok (al _)))))
end b9
namespace gB
abbrev Arg:Type:=(List (List UInt8))×Unit
abbrev Out:Type:=(List (List UInt8))×Unit
abbrev ps:PQ:=[(.ro,(.U (.U u8)))]
noncomputable def D:FD:={ fn:=f232,tl:=aK,ps:=ps,rs:=[((.U (.U u8)),(ao (.U (.U u8))))],gl:=[(109,cL.D.sig)],lv:=[(3,[0,3,4])],lx:=[(0,[3])] }
noncomputable def ab (a:Arg):Option Out:=@lift Out fun k=>D.W k a
noncomputable def T0 (a1:Arg) (J:(List (List UInt8))×Int):St:={ n:=21,sl:=[(0,.val (.U (.U u8)) a1.1),(3,.own (.U (.U u8)) (ao (.U (.U u8))) [] J.1),(4,.val i64 J.2)],vr:=[],av:=[] }
noncomputable def b0 (self:((List (List UInt8))×Int)->Option Out) (e0:(List (List UInt8))->Option Out) (a1:Arg) (J:(List (List UInt8))×Int):Option Out:=bif decide (J.2 < (a1.1.length:Int)) then (if 0<=J.2 then ((a1.1[J.2.toNat]?).bind fun aB=>(cL.ab (aB,())).bind fun bZ=>if J.1.length+[bZ.1].length<=bf then (self (J.1++[bZ.1],ae (J.2+(1:Int)))) else none) else none) else e0 J.1
noncomputable abbrev B0 (_:Nat):=b0
noncomputable def q0 (a1:Arg) (bN:(List (List UInt8))):Option Out:=some (bN,())
noncomputable abbrev Q0 (_:Nat):=q0
noncomputable def s0 (k:Nat) (a1:Arg):((List (List UInt8))×Int)->Option Out:=fun J=>D.L k [1,1,0,1,0,0] [0,3,4] [] (af 0 (aq (D.N k [1,1,1]) D.K0)) (T0 a1 J)
noncomputable def r0 (k:Nat) (a1:Arg):((List (List UInt8))×Int)->Option Out:=ak (fun w v=>B0 k w (Q0 k a1) a1 v) k
theorem au (k:Nat) (a1:Arg):s0 k a1=r0 k a1:=
 funext fun J=>an _ _ _ (T0 a1) _ (fun rec v=>by kernel_rfl) k J
noncomputable def p (l0:((List (List UInt8))×Int)->Option Out) (a1:Arg):Option Out:=l0 (([]:List (List UInt8)),(0:Int))
theorem aa (k:Nat) (a1:Arg):@Eq (Option Out) (D.W k a1) (p (r0 k a1) a1):=
 Eq.trans (b:=p (s0 k a1) a1) (by kernel_rfl) (by rw[au])
theorem ok:Ok prog 232 D.sig:=ap func232 aA (by kernel_rfl) (fc cL.ok (al _))
end gB
namespace jv
abbrev Arg:Type:=Int×Unit
abbrev Out:Type:=sN×Unit
abbrev ps:PQ:=[(.ro,i64)]
noncomputable def D:FD:={ fn:=f259,tl:=aK,ps:=ps,rs:=[(kD,(ao kD))] }
noncomputable def ab (a:Arg):Option Out:=@lift Out fun k=>D.W k a
noncomputable def p (a1:Arg):Option Out:=some ((a1.1,([]:List cP),([]:List (List UInt8)),()),())
theorem aa (k:Nat) (a1:Arg):@Eq (Option Out) (D.W k a1) (p a1):=by kernel_rfl
theorem ok:Ok prog 259 D.sig:=ap func259 aA (by kernel_rfl) (al _)
end jv
namespace gF
abbrev Arg:Type:=UInt8×Unit
abbrev Out:Type:=(List UInt8)×Unit
abbrev ps:PQ:=[(.ro,u8)]
noncomputable def D:FD:={ fn:=f261,tl:=aK,ps:=ps,rs:=[((.U u8),(ao (.U u8)))],lv:=[(3,[0,3,4])],lx:=[(0,[3])] }
noncomputable def ab (a:Arg):Option Out:=@lift Out fun k=>D.W k a
noncomputable def T0 (a1:Arg) (J:(List UInt8)×Int):St:={ n:=19,sl:=[(0,.val u8 a1.1),(3,.own (.U u8) (ao (.U u8)) [] J.1),(4,.val i64 J.2)],vr:=[],av:=[] }
noncomputable def b0 (self:((List UInt8)×Int)->Option Out) (e0:(List UInt8)->Option Out) (a1:Arg) (J:(List UInt8)×Int):Option Out:=bif decide (J.2 < (64:Int)) then (if 0<=J.2/\J.2 < (J.1.length:Int) then ((J.1[J.2.toNat]?).bind fun aB=>self (J.1.set J.2.toNat a1.1,ae (J.2+(1:Int)))) else none) else e0 J.1
noncomputable abbrev B0 (_:Nat):=b0
noncomputable def q0 (a1:Arg) (hU:(List UInt8)):Option Out:=if 0<=(0:Int)/\(0:Int) < (hU.length:Int) then ((hU[0]?).bind fun cE=>if 0<=(1:Int)/\(1:Int) < ((hU.set 0 (0:UInt8)).length:Int) then (((hU.set 0 (0:UInt8))[1]?).bind fun ne=>let vM:=(hU.set 0 (0:UInt8)).set 1 (64:UInt8);some (vM,())) else none) else none
noncomputable abbrev Q0 (_:Nat):=q0
noncomputable def s0 (k:Nat) (a1:Arg):((List UInt8)×Int)->Option Out:=fun J=>D.L k [1,1,0,1,0,0] [0,3,4] [] (af 0 (aq (D.N k [1,1,1]) D.K0)) (T0 a1 J)
noncomputable def r0 (k:Nat) (a1:Arg):((List UInt8)×Int)->Option Out:=ak (fun w v=>B0 k w (Q0 k a1) a1 v) k
theorem au (k:Nat) (a1:Arg):s0 k a1=r0 k a1:=
 funext fun J=>an _ _ _ (T0 a1) _ (fun rec v=>by kernel_rfl) k J
noncomputable def p (l0:((List UInt8)×Int)->Option Out) (a1:Arg):Option Out:=if 0<=(64:Int)/\(64:Int)<=(64:Int)/\(64:Int)<=(bf:Int) then (l0 (List.replicate 64 (0:UInt8),(0:Int))) else none
theorem aa (k:Nat) (a1:Arg):@Eq (Option Out) (D.W k a1) (p (r0 k a1) a1):=
 Eq.trans (b:=p (s0 k a1) a1) (by kernel_rfl) (by rw[au])
theorem ok:Ok prog 261 D.sig:=ap func261 aA (by kernel_rfl) (al _)
end gF
namespace eL
abbrev Arg:Type:=(List UInt8)×(List cP)×Unit
abbrev Out:Type:=(List UInt8)×Unit
abbrev ps:PQ:=[(.ro,(.U u8)),(.ro,(.U pE))]
noncomputable def D:FD:={ fn:=f262,tl:=aK,ps:=ps,rs:=[((.U u8),(ao (.U u8)))],gl:=[(109,cL.D.sig)],lv:=[(3,[1,5,6])],lx:=[(0,[5])],od:=[(5,[0,1,2,3,4,5,6,7,8,9,10,11,12])] }
noncomputable def ab (a:Arg):Option Out:=@lift Out fun k=>D.W k a
noncomputable def T0 (a1:Arg) (a7:(List UInt8)×Int):St:={ n:=29,sl:=[(1,.val (.U pE) a1.2.1),(5,.own (.U u8) (ao (.U u8)) [] a7.1),(6,.val i64 a7.2)],vr:=[],av:=[] }
noncomputable def b0 (self:((List UInt8)×Int)->Option Out) (e0:(List UInt8)->Option Out) (a1:Arg) (a7:(List UInt8)×Int):Option Out:=bif decide (a7.2 < (a1.2.1.length:Int)) then (if 0<=a7.2 then ((a1.2.1[a7.2.toNat]?).bind fun cY=>if 0<=cY.1/\cY.1<=(a7.1.length:Int) then (if 0<=a7.2 then ((a1.2.1[a7.2.toNat]?).bind fun cE=>let o8:=lu a7.1 cY.1.toNat (min cE.2.1.length (a7.1.length - cY.1.toNat)) cE.2.1;self (o8,ae (a7.2+(1:Int)))) else none) else none) else none) else e0 a7.1
noncomputable abbrev B0 (_:Nat):=b0
noncomputable def q0 (a1:Arg) (gq:(List UInt8)):Option Out:=some (gq,())
noncomputable abbrev Q0 (_:Nat):=q0
noncomputable def s0 (k:Nat) (a1:Arg):((List UInt8)×Int)->Option Out:=fun a7=>D.L k [1,1,0,1,0,0] [1,5,6] [] (af 0 (aq (D.N k [1,1,1]) D.K0)) (T0 a1 a7)
noncomputable def r0 (k:Nat) (a1:Arg):((List UInt8)×Int)->Option Out:=ak (fun w v=>B0 k w (Q0 k a1) a1 v) k
theorem au (k:Nat) (a1:Arg):s0 k a1=r0 k a1:=
 funext fun a7=>an _ _ _ (T0 a1) _ (fun rec v=>by kernel_rfl) k a7
noncomputable def p (l0:((List UInt8)×Int)->Option Out) (a1:Arg):Option Out:=(cL.ab (a1.1,())).bind fun r2=>l0 (r2.1,(0:Int))
theorem aa (k:Nat) (a1:Arg):@Eq (Option Out) (D.W k a1) (p (r0 k a1) a1):=
 Eq.trans (b:=p (s0 k a1) a1) (by kernel_rfl) (by rw[au])
theorem ok:Ok prog 262 D.sig:=ap func262 aA (by kernel_rfl) (fc cL.ok (al _))
end eL
namespace bT
abbrev Arg:Type:=(List (List UInt8))×aM×Unit
abbrev Out:Type:=sN×Unit
abbrev ps:PQ:=[(.ro,(.U (.U u8))),(.ro,bV)]
noncomputable def D:FD:={ fn:=f193,tl:=aK,ps:=ps,rs:=[(kD,(ao kD))],gl:=[(227,gr.D.sig),(232,gB.D.sig),(259,jv.D.sig),(260,gA.D.sig),(261,gF.D.sig),(262,eL.D.sig)],lv:=[(4,[0,3,4,5])],lx:=[(0,[0,3,4])],od:=[(20,[0,1,2,3,4,5,6]),(21,[0,1,2,3,4,5,6,7,8,9,10,11,12,13,14])] }
noncomputable def ab (a:Arg):Option Out:=@lift Out fun k=>D.W k a
noncomputable def T0 (a1:Arg) (a7:Int):St:={ n:=75,sl:=[(0,.val (.U (.U u8)) a1.1),(3,.box bV (ax bV) [] a1.2.1),(4,.box kD (ao kD) [] ((0:Int),([]:List cP),([]:List (List UInt8)),())),(5,.val i64 a7)],vr:=[],av:=[] }
noncomputable def b0 (self:Int->Option Out) (e0:(Unit)->Option Out) (a1:Arg) (a7:Int):Option Out:=bif decide (a7 < (a1.1.length:Int)) then (if 0<=a7 then ((a1.1[a7.toNat]?).bind fun cY=>bif !decide ((cY.length:Int)=(64:Int)) then ((jv.ab ((1:Int),())).bind fun gQ=>some (gQ.1,())) else self (ae (a7+(1:Int)))) else none) else e0 ()
noncomputable abbrev B0 (_:Nat):=b0
noncomputable def q0 (a1:Arg) (kS:(Unit)):Option Out:=(gr.ab (a1.2.1,())).bind fun iB=>bif !decide (iB.1=(0:Int)) then ((jv.ab (iB.1,())).bind fun rW=>some (rW.1,())) else (gB.ab (a1.1,())).bind fun pF=>(gA.ab (a1.2.1.1,())).bind fun t_=>bif !t_.1 then (some (((0:Int),([]:List cP),pF.1,()),())) else bif decide ((a1.1.length:Int) < a1.2.1.2.2.1) then ((jv.ab ((1:Int),())).bind fun Kk=>some (Kk.1,())) else bif decide (a1.2.1.2.2.1=(12:Int)) then ((jv.ab ((2:Int),())).bind fun Kg=>some (Kg.1,())) else let Ot:=fun (ud:sN)=>(if 0<=a1.2.1.2.2.1/\a1.2.1.2.2.1 < (ud.2.2.1.length:Int) then ((ud.2.2.1[a1.2.1.2.2.1.toNat]?).bind fun zR=>(ud.2.2.1[a1.2.1.2.2.1.toNat]?).bind fun Kl=>(eL.ab (Kl,a1.2.1.2.2.2.1,())).bind fun Km=>if 0<=a1.2.1.2.2.1/\a1.2.1.2.2.1 < (ud.2.2.1.length:Int) then ((ud.2.2.1[a1.2.1.2.2.1.toNat]?).bind fun RF=>some ((ud.1,ud.2.1,ud.2.2.1.set a1.2.1.2.2.1.toNat Km.1,ud.2.2.2),())) else none) else none:Option Out);bif decide (a1.2.1.2.2.1=(a1.1.length:Int)) then ((gF.ab ((0:UInt8),())).bind fun GF=>if pF.1.length+[GF.1].length<=bf then (Ot ((0:Int),([]:List cP),pF.1++[GF.1],())) else none) else Ot ((0:Int),([]:List cP),pF.1,())
noncomputable abbrev Q0 (_:Nat):=q0
noncomputable def s0 (k:Nat) (a1:Arg):(Int)->Option Out:=fun a7=>D.L k [1,1,0,1,0,0] [0,3,4,5] [] (af 0 (aq (D.N k [1,1,1]) D.K0)) (T0 a1 a7)
noncomputable def r0 (k:Nat) (a1:Arg):(Int)->Option Out:=ak (fun w v=>B0 k w (Q0 k a1) a1 v) k
theorem au (k:Nat) (a1:Arg):s0 k a1=r0 k a1:=
 funext fun a7=>an _ _ _ (T0 a1) _ (fun rec v=>by kernel_rfl) k a7
noncomputable def p (l0:(Int)->Option Out) (a1:Arg):Option Out:=bif decide ((12:Int) < (a1.1.length:Int)) then ((jv.ab ((2:Int),())).bind fun r2=>some (r2.1,())) else l0 (0:Int)
theorem aa (k:Nat) (a1:Arg):@Eq (Option Out) (D.W k a1) (p (r0 k a1) a1):=
 Eq.trans (b:=p (s0 k a1) a1) (by kernel_rfl) (by rw[au])
theorem ok:Ok prog 193 D.sig:=ap func193 aA (by kernel_rfl) (fc gr.ok (fc gB.ok (fc jv.ok (fc gA.ok (fc gF.ok (fc eL.ok (al _)))))))
end bT
namespace fS
abbrev Arg:Type:=(List aM)×Unit
abbrev Out:Type:=(List (List UInt8))×Int×Unit
abbrev ps:PQ:=[(.ro,(.U bV))]
noncomputable def D:FD:={ fn:=f120,tl:=aK,ps:=ps,rs:=[((.U (.U u8)),(ao (.U (.U u8)))),(i64,(ax i64))],gl:=[(193,bT.D.sig)],lv:=[(3,[0,4,5])],lx:=[(0,[4])],od:=[(7,[0,1,2,3])] }
noncomputable def ab (a:Arg):Option Out:=@lift Out fun k=>D.W k a
noncomputable def T0 (a1:Arg) (J:(List (List UInt8))×Int):St:={ n:=28,sl:=[(0,.val (.U bV) a1.1),(4,.own (.U (.U u8)) (ao (.U (.U u8))) [] J.1),(5,.val i64 J.2)],vr:=[],av:=[] }
noncomputable def b0 (self:((List (List UInt8))×Int)->Option Out) (e0:(List (List UInt8))->Option Out) (a1:Arg) (J:(List (List UInt8))×Int):Option Out:=bif decide (J.2 < (a1.1.length:Int)) then (if 0<=J.2 then ((a1.1[J.2.toNat]?).bind fun aB=>(bT.ab (J.1,aB,())).bind fun bZ=>bif !decide (bZ.1.1=(0:Int)) then (some (([]:List (List UInt8)),bZ.1.1,())) else self (bZ.1.2.2.1,ae (J.2+(1:Int)))) else none) else e0 J.1
noncomputable abbrev B0 (_:Nat):=b0
noncomputable def q0 (a1:Arg) (bN:(List (List UInt8))):Option Out:=some (bN,(0:Int),())
noncomputable abbrev Q0 (_:Nat):=q0
noncomputable def s0 (k:Nat) (a1:Arg):((List (List UInt8))×Int)->Option Out:=fun J=>D.L k [1,1,0,1,0,0] [0,4,5] [] (af 0 (aq (D.N k [1,1,1]) D.K0)) (T0 a1 J)
noncomputable def r0 (k:Nat) (a1:Arg):((List (List UInt8))×Int)->Option Out:=ak (fun w v=>B0 k w (Q0 k a1) a1 v) k
theorem au (k:Nat) (a1:Arg):s0 k a1=r0 k a1:=
 funext fun J=>an _ _ _ (T0 a1) _ (fun rec v=>by kernel_rfl) k J
noncomputable def p (l0:((List (List UInt8))×Int)->Option Out) (a1:Arg):Option Out:=l0 (([]:List (List UInt8)),(0:Int))
theorem aa (k:Nat) (a1:Arg):@Eq (Option Out) (D.W k a1) (p (r0 k a1) a1):=
 Eq.trans (b:=p (s0 k a1) a1) (by kernel_rfl) (by rw[au])
theorem ok:Ok prog 120 D.sig:=ap func120 aA (by kernel_rfl) (fc bT.ok (al _))
end fS
namespace iC
abbrev Arg:Type:=Log×Unit
abbrev Out:Type:=(List aM)×Unit
abbrev ps:PQ:=[(.ro,(.ptr cD))]
noncomputable def D:FD:={ fn:=f121,tl:=aK,ps:=ps,rs:=[((.U bV),(ao (.U bV)))],gl:=[(109,cL.D.sig),(189,cM.D.sig)],od:=[(1,[0,1,2,3,5,6,7,8,4,9,10,11,12,13,14,15])] }
noncomputable def ab (a:Arg):Option Out:=@lift Out fun k=>D.W k a
noncomputable def p (a1:Arg):Option Out:=(cL.ab (a1.1.1,())).bind fun r2=>if r2.1.length+a1.1.2.1.length<=bf then ((cM.ab (r2.1++a1.1.2.1,())).bind fun r3=>some (r3.1,())) else none
theorem aa (k:Nat) (a1:Arg):@Eq (Option Out) (D.W k a1) (p a1):=by kernel_rfl
theorem ok:Ok prog 121 D.sig:=ap func121 aA (by kernel_rfl) (fc cL.ok (fc cM.ok (al _)))
end iC
namespace ft
abbrev Arg:Type:=(List (List UInt8))×(List (List UInt8))×Unit
abbrev Out:Type:=Bool×Unit
abbrev ps:PQ:=[(.ro,(.U (.U u8))),(.ro,(.U (.U u8)))]
noncomputable def D:FD:={ fn:=f122,tl:=aK,ps:=ps,rs:=[(.bool,(ax .bool))],lv:=[(4,[0,1,5])],lx:=[(0,[])],od:=[(6,[0,1,2,3,4,5,6,7,8,9,10])] }
noncomputable def ab (a:Arg):Option Out:=@lift Out fun k=>D.W k a
noncomputable def T0 (a1:Arg) (J:Int):St:={ n:=28,sl:=[(0,.val (.U (.U u8)) a1.1),(1,.val (.U (.U u8)) a1.2.1),(5,.val i64 J)],vr:=[],av:=[] }
noncomputable def b0 (self:Int->Option Out) (e0:(Unit)->Option Out) (a1:Arg) (J:Int):Option Out:=bif decide (J < (a1.1.length:Int)) then (if 0<=J then ((a1.1[J.toNat]?).bind fun aB=>if 0<=J then ((a1.2.1[J.toNat]?).bind fun cY=>bif !decide (aB=cY) then (some (false,())) else self (ae (J+(1:Int)))) else none) else none) else e0 ()
noncomputable abbrev B0 (_:Nat):=b0
noncomputable def q0 (a1:Arg) (bN:(Unit)):Option Out:=some (true,())
noncomputable abbrev Q0 (_:Nat):=q0
noncomputable def s0 (k:Nat) (a1:Arg):(Int)->Option Out:=fun J=>D.L k [1,1,0,1,0,0] [0,1,5] [] (af 0 (aq (D.N k [1,1,1]) D.K0)) (T0 a1 J)
noncomputable def r0 (k:Nat) (a1:Arg):(Int)->Option Out:=ak (fun w v=>B0 k w (Q0 k a1) a1 v) k
theorem au (k:Nat) (a1:Arg):s0 k a1=r0 k a1:=
 funext fun J=>an _ _ _ (T0 a1) _ (fun rec v=>by kernel_rfl) k J
noncomputable def p (l0:(Int)->Option Out) (a1:Arg):Option Out:=bif !decide ((a1.1.length:Int)=(a1.2.1.length:Int)) then (some (false,())) else l0 (0:Int)
theorem aa (k:Nat) (a1:Arg):@Eq (Option Out) (D.W k a1) (p (r0 k a1) a1):=
 Eq.trans (b:=p (s0 k a1) a1) (by kernel_rfl) (by rw[au])
theorem ok:Ok prog 122 D.sig:=ap func122 aA (by kernel_rfl) (al _)
end ft
namespace jQ
abbrev Arg:Type:=eZ×Unit
abbrev Out:Type:=Int×Unit
abbrev ps:PQ:=[(.ro,(.ptr co))]
noncomputable def D:FD:={ fn:=f56,tl:=aK,ps:=ps,rs:=[(i64,(ax i64))],gl:=[(72,iX.D.sig),(75,eI.D.sig),(117,gt.D.sig),(118,aP.D.sig),(119,b9.D.sig),(120,fS.D.sig),(121,iC.D.sig),(122,ft.D.sig)],od:=[(13,[0,1,2,3,5,6,7,8,9,10,11,12,4,13,14,15])],ar:=[(13,[3,8,12])],pd:=[(13,[14])] }
noncomputable def ab (a:Arg):Option Out:=@lift Out fun k=>D.W k a
noncomputable def p (a1:Arg):Option Out:=(gt.ab (a1.1.2.2.1,())).bind fun r2=>bif !decide (r2.1=(0:Int)) then (some (r2.1,())) else bif !a1.1.1 then (bif decide ((0:Int) < (a1.1.2.1.length:Int)) then (some ((1:Int),())) else bif decide ((0:Int) < (a1.1.2.2.2.1.length:Int)) then (some ((1:Int),())) else bif decide ((0:Int) < (a1.1.2.2.1.2.1.length:Int)) then (some ((1:Int),())) else (aP.ab (a1.1.2.2.2.2.1,(1:Int),(100:Int),())).bind fun r3=>bif !r3.1 then (some ((3:Int),())) else some ((0:Int),())) else (b9.ab (a1.1.2.1,())).bind fun r4=>bif !decide (r4.1=(0:Int)) then (some (r4.1,())) else (eI.ab (a1.1.2.1,())).bind fun r5=>(iX.ab ((r5.1,a1.1.2.2.2.1,a1.1.2.2.2.2.1,()),())).bind fun r6=>bif !decide (r6.1=(0:Int)) then (some (r6.1,())) else (iC.ab (a1.1.2.2.1,())).bind fun r7=>(fS.ab (r7.1,())).bind fun r8=>bif !decide (r8.2.1=(0:Int)) then (some ((8:Int),())) else (ft.ab (r8.1,a1.1.2.1,())).bind fun r9=>bif !r9.1 then (some ((8:Int),())) else some ((0:Int),())
theorem aa (k:Nat) (a1:Arg):@Eq (Option Out) (D.W k a1) (p a1):=by kernel_rfl
theorem ok:Ok prog 56 D.sig:=ap func56 aA (by kernel_rfl) (fc iX.ok (fc eI.ok (fc gt.ok (fc aP.ok (fc b9.ok (fc fS.ok (fc iC.ok (fc ft.ok (al _)))))))))
end jQ
namespace cS
abbrev Arg:Type:=(List UInt8)×Unit
abbrev Out:Type:=(List UInt8)×Unit
abbrev ps:PQ:=[(.ro,(.U u8))]
noncomputable def D:FD:={ fn:=f35,tl:=aK,ps:=ps,rs:=[((.U u8),(ao (.U u8)))],lv:=[(3,[0,3,4])],lx:=[(0,[3])] }
noncomputable def ab (a:Arg):Option Out:=@lift Out fun k=>D.W k a
noncomputable def T0 (a1:Arg) (J:(List UInt8)×Int):St:={ n:=22,sl:=[(0,.val (.U u8) a1.1),(3,.own (.U u8) (ao (.U u8)) [] J.1),(4,.val i64 J.2)],vr:=[],av:=[] }
noncomputable def b0 (self:((List UInt8)×Int)->Option Out) (e0:(List UInt8)->Option Out) (a1:Arg) (J:(List UInt8)×Int):Option Out:=bif decide (J.2 < (a1.1.length:Int)) then (if 0<=J.2 then ((a1.1[J.2.toNat]?).bind fun aB=>if 0<=J.2/\J.2 < (J.1.length:Int) then ((J.1[J.2.toNat]?).bind fun cY=>self (J.1.set J.2.toNat aB,ae (J.2+(1:Int)))) else none) else none) else e0 J.1
noncomputable abbrev B0 (_:Nat):=b0
noncomputable def q0 (a1:Arg) (bN:(List UInt8)):Option Out:=some (bN,())
noncomputable abbrev Q0 (_:Nat):=q0
noncomputable def s0 (k:Nat) (a1:Arg):((List UInt8)×Int)->Option Out:=fun J=>D.L k [1,1,0,1,0,0] [0,3,4] [] (af 0 (aq (D.N k [1,1,1]) D.K0)) (T0 a1 J)
noncomputable def r0 (k:Nat) (a1:Arg):((List UInt8)×Int)->Option Out:=ak (fun w v=>B0 k w (Q0 k a1) a1 v) k
theorem au (k:Nat) (a1:Arg):s0 k a1=r0 k a1:=
 funext fun J=>an _ _ _ (T0 a1) _ (fun rec v=>by kernel_rfl) k J
noncomputable def p (l0:((List UInt8)×Int)->Option Out) (a1:Arg):Option Out:=if 0<=(a1.1.length:Int)/\(a1.1.length:Int)<=(a1.1.length:Int)/\(a1.1.length:Int)<=(bf:Int) then (l0 (List.replicate (a1.1.length:Int).toNat (0:UInt8),(0:Int))) else none
theorem aa (k:Nat) (a1:Arg):@Eq (Option Out) (D.W k a1) (p (r0 k a1) a1):=
 Eq.trans (b:=p (s0 k a1) a1) (by kernel_rfl) (by rw[au])
theorem ok:Ok prog 35 D.sig:=ap func35 aA (by kernel_rfl) (al _)
end cS
namespace dH
abbrev Arg:Type:=(List (List UInt8))×Unit
abbrev Out:Type:=(List (List UInt8))×Unit
abbrev ps:PQ:=[(.ro,(.U (.U u8)))]
noncomputable def D:FD:={ fn:=f57,tl:=aK,ps:=ps,rs:=[((.U (.U u8)),(ao (.U (.U u8))))],gl:=[(35,cS.D.sig)],lv:=[(3,[0,3,4])],lx:=[(0,[3])] }
noncomputable def ab (a:Arg):Option Out:=@lift Out fun k=>D.W k a
noncomputable def T0 (a1:Arg) (J:(List (List UInt8))×Int):St:={ n:=23,sl:=[(0,.val (.U (.U u8)) a1.1),(3,.own (.U (.U u8)) (ao (.U (.U u8))) [] J.1),(4,.val i64 J.2)],vr:=[],av:=[] }
noncomputable def b0 (self:((List (List UInt8))×Int)->Option Out) (e0:(List (List UInt8))->Option Out) (a1:Arg) (J:(List (List UInt8))×Int):Option Out:=bif decide (J.2 < (a1.1.length:Int)) then (if 0<=J.2 then ((a1.1[J.2.toNat]?).bind fun aB=>(cS.ab (aB,())).bind fun bZ=>if 0<=J.2/\J.2 < (J.1.length:Int) then ((J.1[J.2.toNat]?).bind fun cE=>self (J.1.set J.2.toNat bZ.1,ae (J.2+(1:Int)))) else none) else none) else e0 J.1
noncomputable abbrev B0 (_:Nat):=b0
noncomputable def q0 (a1:Arg) (kS:(List (List UInt8))):Option Out:=some (kS,())
noncomputable abbrev Q0 (_:Nat):=q0
noncomputable def s0 (k:Nat) (a1:Arg):((List (List UInt8))×Int)->Option Out:=fun J=>D.L k [1,1,0,1,0,0] [0,3,4] [] (af 0 (aq (D.N k [1,1,1]) D.K0)) (T0 a1 J)
noncomputable def r0 (k:Nat) (a1:Arg):((List (List UInt8))×Int)->Option Out:=ak (fun w v=>B0 k w (Q0 k a1) a1 v) k
theorem au (k:Nat) (a1:Arg):s0 k a1=r0 k a1:=
 funext fun J=>an _ _ _ (T0 a1) _ (fun rec v=>by kernel_rfl) k J
noncomputable def p (l0:((List (List UInt8))×Int)->Option Out) (a1:Arg):Option Out:=if 0<=(a1.1.length:Int)/\(a1.1.length:Int)<=(a1.1.length:Int)/\(a1.1.length:Int)<=(bf:Int) then (l0 (List.replicate (a1.1.length:Int).toNat ([]:List UInt8),(0:Int))) else none
theorem aa (k:Nat) (a1:Arg):@Eq (Option Out) (D.W k a1) (p (r0 k a1) a1):=
 Eq.trans (b:=p (s0 k a1) a1) (by kernel_rfl) (by rw[au])
theorem ok:Ok prog 57 D.sig:=ap func57 aA (by kernel_rfl) (fc cS.ok (al _))
end dH
namespace ld
abbrev Arg:Type:=Log×Unit
abbrev Out:Type:=Log×Unit
abbrev ps:PQ:=[(.ro,cD)]
noncomputable def D:FD:={ fn:=f58,tl:=aK,ps:=ps,rs:=[(cD,(ao cD))],gl:=[(35,cS.D.sig)] }
noncomputable def ab (a:Arg):Option Out:=@lift Out fun k=>D.W k a
noncomputable def p (a1:Arg):Option Out:=(cS.ab (a1.1.1,())).bind fun r2=>(cS.ab (a1.1.2.1,())).bind fun r3=>some ((r2.1,r3.1,()),())
theorem aa (k:Nat) (a1:Arg):@Eq (Option Out) (D.W k a1) (p a1):=by kernel_rfl
theorem ok:Ok prog 58 D.sig:=ap func58 aA (by kernel_rfl) (fc cS.ok (al _))
end ld
namespace j0
abbrev Arg:Type:=Row×Unit
abbrev Out:Type:=Row×Unit
abbrev ps:PQ:=[(.ro,aF)]
noncomputable def D:FD:={ fn:=f147,tl:=aK,ps:=ps,rs:=[(aF,(ax aF))] }
noncomputable def ab (a:Arg):Option Out:=@lift Out fun k=>D.W k a
noncomputable def p (a1:Arg):Option Out:=some ((a1.1.1,a1.1.2.1,a1.1.2.2.1,a1.1.2.2.2.1,()),())
theorem aa (k:Nat) (a1:Arg):@Eq (Option Out) (D.W k a1) (p a1):=by kernel_rfl
theorem ok:Ok prog 147 D.sig:=ap func147 aA (by kernel_rfl) (al _)
end j0
namespace iY
abbrev Arg:Type:=Change×Unit
abbrev Out:Type:=Change×Unit
abbrev ps:PQ:=[(.ro,am)]
noncomputable def D:FD:={ fn:=f263,tl:=aK,ps:=ps,rs:=[(am,(ax am))],gl:=[(147,j0.D.sig)] }
noncomputable def ab (a:Arg):Option Out:=@lift Out fun k=>D.W k a
noncomputable def p (a1:Arg):Option Out:=(j0.ab (a1.1.2.1,())).bind fun r2=>(j0.ab (a1.1.2.2.2.1,())).bind fun r3=>some ((a1.1.1,r2.1,a1.1.2.2.1,r3.1,()),())
theorem aa (k:Nat) (a1:Arg):@Eq (Option Out) (D.W k a1) (p a1):=by kernel_rfl
theorem ok:Ok prog 263 D.sig:=ap func263 aA (by kernel_rfl) (fc j0.ok (al _))
end iY
namespace de
abbrev Arg:Type:=(List Change)×Unit
abbrev Out:Type:=(List Change)×Unit
abbrev ps:PQ:=[(.ro,(.U am))]
noncomputable def D:FD:={ fn:=f194,tl:=aK,ps:=ps,rs:=[((.U am),(ao (.U am)))],gl:=[(263,iY.D.sig)],lv:=[(3,[0,3,4])],lx:=[(0,[3])] }
noncomputable def ab (a:Arg):Option Out:=@lift Out fun k=>D.W k a
noncomputable def T0 (a1:Arg) (J:(List Change)×Int):St:={ n:=23,sl:=[(0,.val (.U am) a1.1),(3,.own (.U am) (ao (.U am)) [] J.1),(4,.val i64 J.2)],vr:=[],av:=[] }
noncomputable def b0 (self:((List Change)×Int)->Option Out) (e0:(List Change)->Option Out) (a1:Arg) (J:(List Change)×Int):Option Out:=bif decide (J.2 < (a1.1.length:Int)) then (if 0<=J.2 then ((a1.1[J.2.toNat]?).bind fun aB=>(iY.ab (aB,())).bind fun bZ=>if 0<=J.2/\J.2 < (J.1.length:Int) then ((J.1[J.2.toNat]?).bind fun cE=>self (J.1.set J.2.toNat bZ.1,ae (J.2+(1:Int)))) else none) else none) else e0 J.1
noncomputable abbrev B0 (_:Nat):=b0
noncomputable def q0 (a1:Arg) (kS:(List Change)):Option Out:=some (kS,())
noncomputable abbrev Q0 (_:Nat):=q0
noncomputable def s0 (k:Nat) (a1:Arg):((List Change)×Int)->Option Out:=fun J=>D.L k [1,1,0,1,0,0] [0,3,4] [] (af 0 (aq (D.N k [1,1,1]) D.K0)) (T0 a1 J)
noncomputable def r0 (k:Nat) (a1:Arg):((List Change)×Int)->Option Out:=ak (fun w v=>B0 k w (Q0 k a1) a1 v) k
theorem au (k:Nat) (a1:Arg):s0 k a1=r0 k a1:=
 funext fun J=>an _ _ _ (T0 a1) _ (fun rec v=>by kernel_rfl) k J
noncomputable def p (l0:((List Change)×Int)->Option Out) (a1:Arg):Option Out:=if 0<=(a1.1.length:Int)/\(a1.1.length:Int)<=(a1.1.length:Int)/\(a1.1.length:Int)<=(bf:Int) then (l0 (List.replicate (a1.1.length:Int).toNat (false,((0:Int),(0:Int),(0:Int),([]:List UInt8),()),false,((0:Int),(0:Int),(0:Int),([]:List UInt8),()),()),(0:Int))) else none
theorem aa (k:Nat) (a1:Arg):@Eq (Option Out) (D.W k a1) (p (r0 k a1) a1):=
 Eq.trans (b:=p (s0 k a1) a1) (by kernel_rfl) (by rw[au])
theorem ok:Ok prog 194 D.sig:=ap func194 aA (by kernel_rfl) (fc iY.ok (al _))
end de
namespace dI
abbrev Arg:Type:=(List Int)×Unit
abbrev Out:Type:=(List Int)×Unit
abbrev ps:PQ:=[(.ro,(.U i64))]
noncomputable def D:FD:={ fn:=f195,tl:=aK,ps:=ps,rs:=[((.U i64),(ao (.U i64)))],lv:=[(3,[0,3,4])],lx:=[(0,[3])] }
noncomputable def ab (a:Arg):Option Out:=@lift Out fun k=>D.W k a
noncomputable def T0 (a1:Arg) (J:(List Int)×Int):St:={ n:=22,sl:=[(0,.val (.U i64) a1.1),(3,.own (.U i64) (ao (.U i64)) [] J.1),(4,.val i64 J.2)],vr:=[],av:=[] }
noncomputable def b0 (self:((List Int)×Int)->Option Out) (e0:(List Int)->Option Out) (a1:Arg) (J:(List Int)×Int):Option Out:=bif decide (J.2 < (a1.1.length:Int)) then (if 0<=J.2 then ((a1.1[J.2.toNat]?).bind fun aB=>if 0<=J.2/\J.2 < (J.1.length:Int) then ((J.1[J.2.toNat]?).bind fun cY=>self (J.1.set J.2.toNat aB,ae (J.2+(1:Int)))) else none) else none) else e0 J.1
noncomputable abbrev B0 (_:Nat):=b0
noncomputable def q0 (a1:Arg) (bN:(List Int)):Option Out:=some (bN,())
noncomputable abbrev Q0 (_:Nat):=q0
noncomputable def s0 (k:Nat) (a1:Arg):((List Int)×Int)->Option Out:=fun J=>D.L k [1,1,0,1,0,0] [0,3,4] [] (af 0 (aq (D.N k [1,1,1]) D.K0)) (T0 a1 J)
noncomputable def r0 (k:Nat) (a1:Arg):((List Int)×Int)->Option Out:=ak (fun w v=>B0 k w (Q0 k a1) a1 v) k
theorem au (k:Nat) (a1:Arg):s0 k a1=r0 k a1:=
 funext fun J=>an _ _ _ (T0 a1) _ (fun rec v=>by kernel_rfl) k J
noncomputable def p (l0:((List Int)×Int)->Option Out) (a1:Arg):Option Out:=if 0<=(a1.1.length:Int)/\(a1.1.length:Int)<=(a1.1.length:Int)/\(a1.1.length:Int)<=(bf:Int) then (l0 (List.replicate (a1.1.length:Int).toNat (0:Int),(0:Int))) else none
theorem aa (k:Nat) (a1:Arg):@Eq (Option Out) (D.W k a1) (p (r0 k a1) a1):=
 Eq.trans (b:=p (s0 k a1) a1) (by kernel_rfl) (by rw[au])
theorem ok:Ok prog 195 D.sig:=ap func195 aA (by kernel_rfl) (al _)
end dI
namespace lg
abbrev Arg:Type:=Key×Unit
abbrev Out:Type:=Key×Unit
abbrev ps:PQ:=[(.ro,aC)]
noncomputable def D:FD:={ fn:=f264,tl:=aK,ps:=ps,rs:=[(aC,(ax aC))] }
noncomputable def ab (a:Arg):Option Out:=@lift Out fun k=>D.W k a
noncomputable def p (a1:Arg):Option Out:=some ((a1.1.1,a1.1.2.1,()),())
theorem aa (k:Nat) (a1:Arg):@Eq (Option Out) (D.W k a1) (p a1):=by kernel_rfl
theorem ok:Ok prog 264 D.sig:=ap func264 aA (by kernel_rfl) (al _)
end lg
namespace eW
abbrev Arg:Type:=(List Key)×Unit
abbrev Out:Type:=(List Key)×Unit
abbrev ps:PQ:=[(.ro,(.U aC))]
noncomputable def D:FD:={ fn:=f196,tl:=aK,ps:=ps,rs:=[((.U aC),(ao (.U aC)))],gl:=[(264,lg.D.sig)],lv:=[(3,[0,3,4])],lx:=[(0,[3])] }
noncomputable def ab (a:Arg):Option Out:=@lift Out fun k=>D.W k a
noncomputable def T0 (a1:Arg) (J:(List Key)×Int):St:={ n:=23,sl:=[(0,.val (.U aC) a1.1),(3,.own (.U aC) (ao (.U aC)) [] J.1),(4,.val i64 J.2)],vr:=[],av:=[] }
noncomputable def b0 (self:((List Key)×Int)->Option Out) (e0:(List Key)->Option Out) (a1:Arg) (J:(List Key)×Int):Option Out:=bif decide (J.2 < (a1.1.length:Int)) then (if 0<=J.2 then ((a1.1[J.2.toNat]?).bind fun aB=>(lg.ab (aB,())).bind fun bZ=>if 0<=J.2/\J.2 < (J.1.length:Int) then ((J.1[J.2.toNat]?).bind fun cE=>self (J.1.set J.2.toNat bZ.1,ae (J.2+(1:Int)))) else none) else none) else e0 J.1
noncomputable abbrev B0 (_:Nat):=b0
noncomputable def q0 (a1:Arg) (kS:(List Key)):Option Out:=some (kS,())
noncomputable abbrev Q0 (_:Nat):=q0
noncomputable def s0 (k:Nat) (a1:Arg):((List Key)×Int)->Option Out:=fun J=>D.L k [1,1,0,1,0,0] [0,3,4] [] (af 0 (aq (D.N k [1,1,1]) D.K0)) (T0 a1 J)
noncomputable def r0 (k:Nat) (a1:Arg):((List Key)×Int)->Option Out:=ak (fun w v=>B0 k w (Q0 k a1) a1 v) k
theorem au (k:Nat) (a1:Arg):s0 k a1=r0 k a1:=
 funext fun J=>an _ _ _ (T0 a1) _ (fun rec v=>by kernel_rfl) k J
noncomputable def p (l0:((List Key)×Int)->Option Out) (a1:Arg):Option Out:=if 0<=(a1.1.length:Int)/\(a1.1.length:Int)<=(a1.1.length:Int)/\(a1.1.length:Int)<=(bf:Int) then (l0 (List.replicate (a1.1.length:Int).toNat ((0:Int),(0:Int),()),(0:Int))) else none
theorem aa (k:Nat) (a1:Arg):@Eq (Option Out) (D.W k a1) (p (r0 k a1) a1):=
 Eq.trans (b:=p (s0 k a1) a1) (by kernel_rfl) (by rw[au])
theorem ok:Ok prog 196 D.sig:=ap func196 aA (by kernel_rfl) (fc lg.ok (al _))
end eW
namespace lW
abbrev Arg:Type:=Tx×Unit
abbrev Out:Type:=Tx×Unit
abbrev ps:PQ:=[(.ro,aR)]
noncomputable def D:FD:={ fn:=f123,tl:=aK,ps:=ps,rs:=[(aR,(ao aR))],gl:=[(194,de.D.sig),(195,dI.D.sig),(196,eW.D.sig)] }
noncomputable def ab (a:Arg):Option Out:=@lift Out fun k=>D.W k a
noncomputable def p (a1:Arg):Option Out:=(de.ab (a1.1.2.1,())).bind fun r2=>(dI.ab (a1.1.2.2.1,())).bind fun r3=>(eW.ab (a1.1.2.2.2.1,())).bind fun r4=>some ((a1.1.1,r2.1,r3.1,r4.1,()),())
theorem aa (k:Nat) (a1:Arg):@Eq (Option Out) (D.W k a1) (p a1):=by kernel_rfl
theorem ok:Ok prog 123 D.sig:=ap func123 aA (by kernel_rfl) (fc de.ok (fc dI.ok (fc eW.ok (al _))))
end lW
namespace fI
abbrev Arg:Type:=(List Tx)×Unit
abbrev Out:Type:=(List Tx)×Unit
abbrev ps:PQ:=[(.ro,(.U aR))]
noncomputable def D:FD:={ fn:=f59,tl:=aK,ps:=ps,rs:=[((.U aR),(ao (.U aR)))],gl:=[(123,lW.D.sig)],lv:=[(3,[0,3,4])],lx:=[(0,[3])] }
noncomputable def ab (a:Arg):Option Out:=@lift Out fun k=>D.W k a
noncomputable def T0 (a1:Arg) (J:(List Tx)×Int):St:={ n:=23,sl:=[(0,.val (.U aR) a1.1),(3,.own (.U aR) (ao (.U aR)) [] J.1),(4,.val i64 J.2)],vr:=[],av:=[] }
noncomputable def b0 (self:((List Tx)×Int)->Option Out) (e0:(List Tx)->Option Out) (a1:Arg) (J:(List Tx)×Int):Option Out:=bif decide (J.2 < (a1.1.length:Int)) then (if 0<=J.2 then ((a1.1[J.2.toNat]?).bind fun aB=>(lW.ab (aB,())).bind fun bZ=>if 0<=J.2/\J.2 < (J.1.length:Int) then ((J.1[J.2.toNat]?).bind fun cE=>self (J.1.set J.2.toNat bZ.1,ae (J.2+(1:Int)))) else none) else none) else e0 J.1
noncomputable abbrev B0 (_:Nat):=b0
noncomputable def q0 (a1:Arg) (kS:(List Tx)):Option Out:=some (kS,())
noncomputable abbrev Q0 (_:Nat):=q0
noncomputable def s0 (k:Nat) (a1:Arg):((List Tx)×Int)->Option Out:=fun J=>D.L k [1,1,0,1,0,0] [0,3,4] [] (af 0 (aq (D.N k [1,1,1]) D.K0)) (T0 a1 J)
noncomputable def r0 (k:Nat) (a1:Arg):((List Tx)×Int)->Option Out:=ak (fun w v=>B0 k w (Q0 k a1) a1 v) k
theorem au (k:Nat) (a1:Arg):s0 k a1=r0 k a1:=
 funext fun J=>an _ _ _ (T0 a1) _ (fun rec v=>by kernel_rfl) k J
noncomputable def p (l0:((List Tx)×Int)->Option Out) (a1:Arg):Option Out:=if 0<=(a1.1.length:Int)/\(a1.1.length:Int)<=(a1.1.length:Int)/\(a1.1.length:Int)<=(bf:Int) then (l0 (List.replicate (a1.1.length:Int).toNat ((0:Int),([]:List Change),([]:List Int),([]:List Key),()),(0:Int))) else none
theorem aa (k:Nat) (a1:Arg):@Eq (Option Out) (D.W k a1) (p (r0 k a1) a1):=
 Eq.trans (b:=p (s0 k a1) a1) (by kernel_rfl) (by rw[au])
theorem ok:Ok prog 59 D.sig:=ap func59 aA (by kernel_rfl) (fc lW.ok (al _))
end fI
namespace gu
abbrev Arg:Type:=eZ×Unit
abbrev Out:Type:=eZ×Unit
abbrev ps:PQ:=[(.ro,co)]
noncomputable def D:FD:={ fn:=f13,tl:=aK,ps:=ps,rs:=[(co,(ao co))],gl:=[(57,dH.D.sig),(58,ld.D.sig),(59,fI.D.sig)] }
noncomputable def ab (a:Arg):Option Out:=@lift Out fun k=>D.W k a
noncomputable def p (a1:Arg):Option Out:=(dH.ab (a1.1.2.1,())).bind fun r2=>(ld.ab (a1.1.2.2.1,())).bind fun r3=>(fI.ab (a1.1.2.2.2.1,())).bind fun r4=>some ((a1.1.1,r2.1,r3.1,r4.1,a1.1.2.2.2.2.1,()),())
theorem aa (k:Nat) (a1:Arg):@Eq (Option Out) (D.W k a1) (p a1):=by kernel_rfl
theorem ok:Ok prog 13 D.sig:=ap func13 aA (by kernel_rfl) (fc dH.ok (fc ld.ok (fc fI.ok (al _))))
end gu
namespace iZ
abbrev Arg:Type:=Log×Unit
abbrev Out:Type:=Int×Unit
abbrev ps:PQ:=[(.ro,cD)]
noncomputable def D:FD:={ fn:=f124,tl:=aK,ps:=ps,rs:=[(i64,(ax i64))] }
noncomputable def ab (a:Arg):Option Out:=@lift Out fun k=>D.W k a
noncomputable def p (a1:Arg):Option Out:=some (ae ((a1.1.1.length:Int)+(a1.1.2.1.length:Int)),())
theorem aa (k:Nat) (a1:Arg):@Eq (Option Out) (D.W k a1) (p a1):=by kernel_rfl
theorem ok:Ok prog 124 D.sig:=ap func124 aA (by kernel_rfl) (al _)
end iZ
namespace b_
abbrev Arg:Type:=Int×Int×Int×Unit
abbrev Out:Type:=Bool×Unit
abbrev ps:PQ:=[(.ro,i64),(.ro,i64),(.ro,i64)]
noncomputable def D:FD:={ fn:=f61,tl:=aK,ps:=ps,rs:=[(.bool,(ax .bool))] }
noncomputable def ab (a:Arg):Option Out:=@lift Out fun k=>D.W k a
noncomputable def p (a1:Arg):Option Out:=bif decide (a1.2.1<=a1.1) then (some (decide (a1.1<=a1.2.2.1),())) else some (false,())
theorem aa (k:Nat) (a1:Arg):@Eq (Option Out) (D.W k a1) (p a1):=by kernel_rfl
theorem ok:Ok prog 61 D.sig:=ap func61 aA (by kernel_rfl) (al _)
end b_
namespace jC
abbrev Arg:Type:=Int×Unit
abbrev Out:Type:=Bool×Unit
abbrev ps:PQ:=[(.ro,i64)]
noncomputable def D:FD:={ fn:=f203,tl:=aK,ps:=ps,rs:=[(.bool,(ax .bool))],gl:=[(61,b_.D.sig)] }
noncomputable def ab (a:Arg):Option Out:=@lift Out fun k=>D.W k a
noncomputable def p (a1:Arg):Option Out:=(b_.ab (a1.1,(1:Int),(99:Int),())).bind fun r2=>some (r2.1,())
theorem aa (k:Nat) (a1:Arg):@Eq (Option Out) (D.W k a1) (p a1):=by kernel_rfl
theorem ok:Ok prog 203 D.sig:=ap func203 aA (by kernel_rfl) (fc b_.ok (al _))
end jC
namespace gU
abbrev Arg:Type:=Int×Unit
abbrev Out:Type:=Bool×Unit
abbrev ps:PQ:=[(.ro,i64)]
noncomputable def D:FD:={ fn:=f206,tl:=aK,ps:=ps,rs:=[(.bool,(ax .bool))] }
noncomputable def ab (a:Arg):Option Out:=@lift Out fun k=>D.W k a
noncomputable def p (a1:Arg):Option Out:=bif decide (a1.1=(2:Int)) then (some (true,())) else bif decide (a1.1=(3:Int)) then (some (true,())) else some (decide (a1.1=(4:Int)),())
theorem aa (k:Nat) (a1:Arg):@Eq (Option Out) (D.W k a1) (p a1):=by kernel_rfl
theorem ok:Ok prog 206 D.sig:=ap func206 aA (by kernel_rfl) (al _)
end gU
namespace df
abbrev Arg:Type:=(List cP)×Unit
abbrev Out:Type:=Int×Unit
abbrev ps:PQ:=[(.ro,(.U pE))]
noncomputable def D:FD:={ fn:=f207,tl:=aK,ps:=ps,rs:=[(i64,(ax i64))],gl:=[(61,b_.D.sig)],lv:=[(5,[3,10,11,12])],lx:=[(0,[])] }
noncomputable def ab (a:Arg):Option Out:=@lift Out fun k=>D.W k a
noncomputable def T0 (a1:Arg) (J:Int×Int):St:={ n:=45,sl:=[(3,.val i64 J.1),(10,.val (.U pE) a1.1),(11,.val i64 (a1.1.length:Int)),(12,.val i64 J.2)],vr:=[],av:=[] }
noncomputable def b0 (self:(Int×Int)->Option Out) (e0:(Unit)->Option Out) (a1:Arg) (J:Int×Int):Option Out:=bif decide (J.2 < (a1.1.length:Int)) then (if 0<=J.2 then ((a1.1[J.2.toNat]?).bind fun aB=>(b_.ab (aB.1,(0:Int),(63:Int),())).bind fun bZ=>bif !bZ.1 then (some ((3:Int),())) else (b_.ab ((aB.2.1.length:Int),(1:Int),(64:Int),())).bind fun gQ=>bif !gQ.1 then (some ((3:Int),())) else bif decide ((64:Int) < ae (aB.1+(aB.2.1.length:Int))) then (some ((3:Int),())) else bif decide (aB.1 < J.1) then (some ((1:Int),())) else self (ae ((ae (aB.1+(aB.2.1.length:Int)))+(1:Int)),ae (J.2+(1:Int)))) else none) else e0 ()
noncomputable abbrev B0 (_:Nat):=b0
noncomputable def q0 (a1:Arg) (kS:(Unit)):Option Out:=some ((0:Int),())
noncomputable abbrev Q0 (_:Nat):=q0
noncomputable def s0 (k:Nat) (a1:Arg):(Int×Int)->Option Out:=fun J=>D.L k [1,1,1,0,1,0,0] [3,10,11,12] [] (af 0 (aq (D.N k [1,1,1,1]) D.K0)) (T0 a1 J)
noncomputable def r0 (k:Nat) (a1:Arg):(Int×Int)->Option Out:=ak (fun w v=>B0 k w (Q0 k a1) a1 v) k
theorem au (k:Nat) (a1:Arg):s0 k a1=r0 k a1:=
 funext fun J=>an _ _ _ (T0 a1) _ (fun rec v=>by kernel_rfl) k J
noncomputable def p (l0:(Int×Int)->Option Out) (a1:Arg):Option Out:=bif decide ((64:Int) < (a1.1.length:Int)) then (some ((2:Int),())) else l0 ((0:Int),(0:Int))
theorem aa (k:Nat) (a1:Arg):@Eq (Option Out) (D.W k a1) (p (r0 k a1) a1):=
 Eq.trans (b:=p (s0 k a1) a1) (by kernel_rfl) (by rw[au])
theorem ok:Ok prog 207 D.sig:=ap func207 aA (by kernel_rfl) (fc b_.ok (al _))
end df
namespace eh
abbrev Arg:Type:=aM×Unit
abbrev Out:Type:=Int×Unit
abbrev ps:PQ:=[(.ro,bV)]
noncomputable def D:FD:={ fn:=f135,tl:=aK,ps:=ps,rs:=[(i64,(ax i64))],gl:=[(61,b_.D.sig),(203,jC.D.sig),(206,gU.D.sig),(207,df.D.sig)] }
noncomputable def ab (a:Arg):Option Out:=@lift Out fun k=>D.W k a
noncomputable def p (a1:Arg):Option Out:=let L2:Option Out:=let QM:Option Out:=(df.ab (a1.1.2.2.2.1,())).bind fun QN=>bif !decide (QN.1=(0:Int)) then (some (QN.1,())) else (gU.ab (a1.1.1,())).bind fun TC=>bif TC.1 then (bif decide ((a1.1.2.2.2.1.length:Int)=(0:Int)) then (some ((1:Int),())) else bif decide (a1.1.1=(4:Int)) then (bif !decide ((a1.1.2.2.2.1.length:Int)=(1:Int)) then (some ((1:Int),())) else (a1.1.2.2.2.1[0]?).bind fun Ou=>bif !decide ((Ou.2.1.length:Int)=(64:Int)) then (some ((1:Int),())) else some ((0:Int),())) else some ((0:Int),())) else bif decide (a1.1.1=(4:Int)) then (bif !decide ((a1.1.2.2.2.1.length:Int)=(1:Int)) then (some ((1:Int),())) else (a1.1.2.2.2.1[0]?).bind fun Ov=>bif !decide ((Ov.2.1.length:Int)=(64:Int)) then (some ((1:Int),())) else some ((0:Int),())) else some ((0:Int),());bif !decide (a1.1.1=(4:Int)) then ((jC.ab (a1.1.2.1,())).bind fun IS=>bif !IS.1 then (some ((3:Int),())) else (b_.ab (a1.1.2.2.1,(0:Int),(11:Int),())).bind fun L3=>bif !L3.1 then (some ((3:Int),())) else QM) else (b_.ab (a1.1.2.2.1,(0:Int),(11:Int),())).bind fun TD=>bif !TD.1 then (some ((3:Int),())) else QM;(b_.ab (a1.1.1,(1:Int),(6:Int),())).bind fun r2=>bif !r2.1 then (some ((1:Int),())) else (gU.ab (a1.1.1,())).bind fun r3=>bif !r3.1 then (bif !decide (a1.1.2.2.1=(0:Int)) then (some ((1:Int),())) else bif decide ((0:Int) < (a1.1.2.2.2.1.length:Int)) then (some ((1:Int),())) else bif decide (a1.1.1=(4:Int)) then (bif !decide (a1.1.2.1=(0:Int)) then (some ((1:Int),())) else L2) else L2) else bif decide (a1.1.1=(4:Int)) then (bif !decide (a1.1.2.1=(0:Int)) then (some ((1:Int),())) else L2) else L2
theorem aa (k:Nat) (a1:Arg):@Eq (Option Out) (D.W k a1) (p a1):=by kernel_rfl
theorem ok:Ok prog 135 D.sig:=ap func135 aA (by kernel_rfl) (fc b_.ok (fc jC.ok (fc gU.ok (fc df.ok (al _)))))
end eh
namespace bG
abbrev Arg:Type:=(List UInt8)×(List UInt8)×Unit
abbrev Out:Type:=Bool×Unit
abbrev ps:PQ:=[(.ro,(.U u8)),(.ro,(.U u8))]
noncomputable def D:FD:={ fn:=f138,tl:=aK,ps:=ps,rs:=[(.bool,(ax .bool))],lv:=[(4,[0,1,12,13])],lx:=[(0,[])],od:=[(6,[0,1,2,3,4,5,6,7,8])] }
noncomputable def ab (a:Arg):Option Out:=@lift Out fun k=>D.W k a
noncomputable def T0 (a1:Arg) (J:Int):St:={ n:=26,sl:=[(0,.val (.U u8) a1.1),(1,.val (.U u8) a1.2.1),(12,.val i64 (a1.1.length:Int)),(13,.val i64 J)],vr:=[],av:=[] }
noncomputable def b0 (self:Int->Option Out) (e0:(Unit)->Option Out) (a1:Arg) (J:Int):Option Out:=bif decide (J < (a1.1.length:Int)) then (if 0<=J then ((a1.1[J.toNat]?).bind fun aB=>if 0<=J then ((a1.2.1[J.toNat]?).bind fun cY=>bif !decide ((aB.toNat:Int)=(cY.toNat:Int)) then (some (false,())) else self (ae (J+(1:Int)))) else none) else none) else e0 ()
noncomputable abbrev B0 (_:Nat):=b0
noncomputable def q0 (a1:Arg) (bN:(Unit)):Option Out:=some (true,())
noncomputable abbrev Q0 (_:Nat):=q0
noncomputable def s0 (k:Nat) (a1:Arg):(Int)->Option Out:=fun J=>D.L k [1,1,0,1,0,0] [0,1,12,13] [] (af 0 (aq (D.N k [1,1,1]) D.K0)) (T0 a1 J)
noncomputable def r0 (k:Nat) (a1:Arg):(Int)->Option Out:=ak (fun w v=>B0 k w (Q0 k a1) a1 v) k
theorem au (k:Nat) (a1:Arg):s0 k a1=r0 k a1:=
 funext fun J=>an _ _ _ (T0 a1) _ (fun rec v=>by kernel_rfl) k J
noncomputable def p (l0:(Int)->Option Out) (a1:Arg):Option Out:=bif !decide ((a1.1.length:Int)=(a1.2.1.length:Int)) then (some (false,())) else l0 (0:Int)
theorem aa (k:Nat) (a1:Arg):@Eq (Option Out) (D.W k a1) (p (r0 k a1) a1):=
 Eq.trans (b:=p (s0 k a1) a1) (by kernel_rfl) (by rw[au])
theorem ok:Ok prog 138 D.sig:=ap func138 aA (by kernel_rfl) (al _)
end bG
namespace eX
abbrev Arg:Type:=(List UInt8)×Unit
abbrev Out:Type:=(List UInt8)×Unit
abbrev ps:PQ:=[(.ro,(.U u8))]
noncomputable def D:FD:={ fn:=f159,tl:=aK,ps:=ps,rs:=[((.U u8),(ao (.U u8)))] }
noncomputable def ab (a:Arg):Option Out:=@lift Out fun k=>D.W k a
noncomputable def p (a1:Arg):Option Out:=if ([]:List UInt8).length+a1.1.length<=bf then (some (([]:List UInt8)++a1.1,())) else none
theorem aa (k:Nat) (a1:Arg):@Eq (Option Out) (D.W k a1) (p a1):=by kernel_rfl
theorem ok:Ok prog 159 D.sig:=ap func159 aA (by kernel_rfl) (al _)
end eX
namespace cr
abbrev Arg:Type:=aM×Unit
abbrev Out:Type:=(List UInt8)×Unit
abbrev ps:PQ:=[(.ro,bV)]
noncomputable def D:FD:={ fn:=f238,tl:=aK,ps:=ps,rs:=[((.U u8),(ao (.U u8)))],lv:=[(3,[3,24,25,26]),(11,[3,6,51,52,53])],lx:=[(0,[3]),(2,[3,6])] }
noncomputable def ab (a:Arg):Option Out:=@lift Out fun k=>D.W k a
noncomputable def T0 (a1:Arg) (J:(List UInt8)×Int):St:={ n:=72,sl:=[(3,.own (.U u8) (ao (.U u8)) [] J.1),(24,.val (.U pE) a1.1.2.2.2.1),(25,.val i64 (a1.1.2.2.2.1.length:Int)),(26,.val i64 J.2)],vr:=[],av:=[] }
noncomputable def S0 (rec:RT Out) (a1:Arg):((List UInt8)×Int)->Option Out:=fun J=>rec (T0 a1 J)
noncomputable def bt (K:KT Out) (a1:Arg):(List UInt8)->Option Out:=fun z=>K (.exit 0) ({ n:=72,sl:=[(3,.own (.U u8) (ao (.U u8)) [] z)],vr:=[],av:=[] })
noncomputable def b0 (self:((List UInt8)×Int)->Option Out) (e0:(List UInt8)->Option Out) (a1:Arg) (J:(List UInt8)×Int):Option Out:=bif decide (J.2 < (a1.1.2.2.2.1.length:Int)) then (if 0<=J.2 then ((a1.1.2.2.2.1[J.2.toNat]?).bind fun aB=>if J.1.length+[UInt8.ofInt aB.1,UInt8.ofInt (aB.2.1.length:Int)].length<=bf then (let jP:=J.1++[UInt8.ofInt aB.1,UInt8.ofInt (aB.2.1.length:Int)];if jP.length+aB.2.1.length<=bf then (self (jP++aB.2.1,ae (J.2+(1:Int)))) else none) else none) else none) else e0 J.1
noncomputable abbrev B0 (_:Nat):=b0
theorem f9 (k:Nat) (rec:RT Out) (K:KT Out) (a1:Arg) (J:(List UInt8)×Int):D.N k [1,1,0,1,0,0] (T0 a1 J) (dw rec (cj [3,24,25,26] []) K)=b0 (S0 rec a1) (bt K a1) a1 J:=by kernel_rfl
noncomputable def T1 (a1:Arg) (bS:List UInt8) (eM:Int) (bd:Int×Int):St:={ n:=72,sl:=[(3,.own (.U u8) (ao (.U u8)) [] bS),(6,.val i64 bd.1),(51,.ref 3 [] [0,0]),(52,.val i64 eM),(53,.val i64 bd.2)],vr:=[],av:=[] }
noncomputable def b1 (self:(Int×Int)->Option Out) (e2:Int->Option Out) (a1:Arg) (bS:List UInt8) (eM:Int) (bd:Int×Int):Option Out:=bif decide (bd.2 < eM) then (if 0<=bd.2/\bd.2 < (bS.length:Int) then ((bS[bd.2.toNat]?).bind fun wA=>self ((ae ((ae (bd.1*(31:Int)))+(ae (wA.toNat:Int)))).tmod (65521:Int),ae (bd.2+(1:Int)))) else none) else e2 bd.1
noncomputable abbrev B1 (_:Nat):=b1
noncomputable def q1 (a1:Arg) (bS:List UInt8) (eM:Int) (sr:Int):Option Out:=if bS.length+[UInt8.ofInt (sr.fdiv (2 ^ 8)),UInt8.ofInt sr].length<=bf then (let GK:=bS++[UInt8.ofInt (sr.fdiv (2 ^ 8)),UInt8.ofInt sr];some (GK,())) else none
noncomputable abbrev Q1 (_:Nat):=q1
noncomputable def s1 (k:Nat) (a1:Arg):(List UInt8)->Int->(Int×Int)->Option Out:=fun bS eM=>fun bd=>D.L k [1,1,1,1,1,0,1,0,0] [3,6,51,52,53] [] (af 2 (aq (D.N k [1,1,1,1,1,1]) D.K0)) (T1 a1 bS eM bd)
noncomputable def r1 (k:Nat) (a1:Arg):(List UInt8)->Int->(Int×Int)->Option Out:=fun bS eM=>ak (fun w v=>B1 k w (Q1 k a1 bS eM) a1 bS eM v) k
theorem f_ (k:Nat) (a1:Arg):s1 k a1=r1 k a1:=
 funext fun bS=>funext fun eM=>funext fun bd=>an _ _ _ (T1 a1 bS eM) _ (fun rec v=>by kernel_rfl) k bd
noncomputable def q0 (l1:(List UInt8)->Int->(Int×Int)->Option Out) (a1:Arg) (bN:(List UInt8)):Option Out:=if 0<=(0:Int)/\(0:Int) < (bN.length:Int) then ((bN[0]?).bind fun ne=>let vM:=bN.set 0 (UInt8.ofInt (ae ((bN.length:Int)+(2:Int))));l1 vM (vM.length:Int) ((1:Int),(0:Int))) else none
noncomputable def Q0 (k:Nat) (a1:Arg) (bN:(List UInt8)):Option Out:=q0 (r1 k a1) a1 bN
theorem k_ (k:Nat) (a1:Arg) (bN:(List UInt8)):bt (af 0 (aq (D.N k [1,1,1]) D.K0)) a1 bN=Q0 k a1 bN:=
 Eq.trans (b:=q0 (s1 k a1) a1 bN) (by kernel_rfl) (by rw[f_];rfl)
noncomputable def s0 (k:Nat) (a1:Arg):((List UInt8)×Int)->Option Out:=fun J=>D.L k [1,1,0,1,0,0] [3,24,25,26] [] (af 0 (aq (D.N k [1,1,1]) D.K0)) (T0 a1 J)
noncomputable def r0 (k:Nat) (a1:Arg):((List UInt8)×Int)->Option Out:=ak (fun w v=>B0 k w (Q0 k a1) a1 v) k
theorem au (k:Nat) (a1:Arg):s0 k a1=r0 k a1:=by
 funext J;
 have h0:bt (af 0 (aq (D.N k [1,1,1]) D.K0)) a1=Q0 k a1:=funext fun z=>k_ k a1 z
 refine (an _ _ _ (T0 a1) (fun self v=>B0 k self (bt (af 0 (aq (D.N k [1,1,1]) D.K0)) a1) a1 v) (fun rec v=>f9 k rec (af 0 (aq (D.N k [1,1,1]) D.K0)) a1 v) k J).trans ?_
 rw[h0]
 rfl
noncomputable def p (l0:((List UInt8)×Int)->Option Out) (a1:Arg):Option Out:=l0 ([(0:UInt8),UInt8.ofInt a1.1.1,UInt8.ofInt a1.1.2.1,UInt8.ofInt a1.1.2.2.1,UInt8.ofInt (a1.1.2.2.2.1.length:Int)],(0:Int))
theorem aa (k:Nat) (a1:Arg):@Eq (Option Out) (D.W k a1) (p (r0 k a1) a1):=
 Eq.trans (b:=p (s0 k a1) a1) (by kernel_rfl) (by rw[au])
theorem ok:Ok prog 238 D.sig:=ap func238 aA (by kernel_rfl) (al _)
end cr
end OT
