/- The proof's parts, merged: Printed by gen.py, a program of this claim  what each Go function computes.. No conditions but those that each states. -/
import Derived.Test.YtledflocbohofaaGreatSd
import Derived.Test.YtledflocbohofaaGreatProg
import Derived.KernelRfl
set_option maxRecDepth 100000
set_option linter.unusedVariables false
namespace OT
open Go Go.Proofs.Tryz
abbrev Log:Type:=((List UInt8)×(List UInt8)×Unit)
abbrev eS:Ty:=(bz [(.U u8),(.U u8)])
abbrev Row:Type:=(Int×Int×Int×(List UInt8)×Unit)
abbrev aw:Ty:=(bz [i64,i64,i64,.str])
abbrev Change:Type:=(Bool×Row×Bool×Row×Unit)
abbrev au:Ty:=(bz [.bool,aw,.bool,aw])
abbrev Key:Type:=(Int×Int×Unit)
abbrev aF:Ty:=(bz [i64,i64])
abbrev Tx:Type:=(Int×(List Change)×(List Int)×(List Key)×Unit)
abbrev aX:Ty:=(bz [i64,(.U au),(.U i64),(.U aF)])
abbrev fN:Type:=(Bool×(List (List UInt8))×Log×(List Tx)×Int×Unit)
abbrev co:Ty:=(bz [.bool,(.U (.U u8)),eS,(.U aX),i64])
abbrev Plain:Type:=((List Row)×(List Tx)×Int×Unit)
abbrev dI:Ty:=(bz [(.U aw),(.U aX),i64])
abbrev kM:Type:=(Int×Int×Int×Int×Row×Unit)
abbrev j9:Ty:=(bz [i64,i64,i64,i64,aw])
abbrev ax:Type:=(Int×Int×kM×Unit)
abbrev dR:Ty:=(bz [i64,i64,j9])
abbrev cE:Type:=(Int×(List UInt8)×Unit)
abbrev pe:Ty:=(bz [i64,(.U u8)])
abbrev aL:Type:=(Int×Int×Int×(List cE)×Unit)
abbrev bQ:Ty:=(bz [i64,i64,i64,(.U pe)])
abbrev CA:Type:=(Int×Int×aL×Unit)
abbrev pT:Ty:=(bz [i64,i64,bQ])
abbrev sk:Type:=(Int×(List cE)×(List (List UInt8))×Unit)
abbrev ko:Ty:=(bz [i64,(.U pe),(.U (.U u8))])
abbrev Seen:Type:=(Row×Int×Int×Bool×Int×Int×Unit)
abbrev cN:Ty:=(bz [aw,i64,i64,.bool,i64,i64])
abbrev qj:Type:=(Int×(List Row)×Unit)
abbrev nA:Ty:=(bz [i64,(.U aw)])
abbrev Oc:Type:=(Int×Int×fN×Unit)
abbrev NF:Ty:=(bz [i64,i64,co])
abbrev PL:Type:=(Int×Log×Unit)
abbrev OB:Ty:=(bz [i64,eS])
abbrev Buffer:Type:=(Int×(List Change)×Unit)
abbrev Mb:Ty:=(bz [i64,(.U au)])
abbrev F9:Type:=((List (List UInt8))×(List Buffer)×Unit)
abbrev CB:Ty:=(bz [(.U (.U u8)),(.U Mb)])
abbrev Ab:Type:=(F9×Int×F9×Int×Unit)
abbrev yo:Ty:=(bz [CB,i64,CB,i64])
abbrev NG:Type:=(Int×Int×(List Change)×Unit)
abbrev Li:Ty:=(bz [i64,i64,(.U au)])
abbrev Lk:Type:=(Int×Bool×NG×Ab×Unit)
abbrev JV:Ty:=(bz [i64,.bool,Li,yo])
abbrev Od:Type:=(Int×Bool×Bool×Int×(List Change)×F9×Unit)
abbrev NH:Ty:=(bz [i64,.bool,.bool,i64,(.U au),CB])
abbrev OC:Type:=(Int×(List NG)×Ab×Unit)
abbrev Oe:Ty:=(bz [i64,(.U Li),yo])
noncomputable def aK:TL:=[(2,i64),(23,(.U u8)),(129,aw),(43,(.U aw)),(22,(.U (.U u8))),(32,(.U aX)),(124,aX),(4,.bool),(5,u8),(199,aF),(209,au),(67,(.U au)),(3,i64),(122,(.U aF)),(190,bQ),(188,(.U pe)),(31,eS),(121,(.U i64)),(179,j9),(9,.str),(272,pe),(45,dI),(34,co),(26,(.U aX)),(111,(.U bQ)),(196,aw),(201,(.U dR)),(205,dR),(25,eS),(38,(.U aw)),(163,(.U au)),(164,(.U aF)),(166,aX),(313,au),(28,co),(40,dI),(104,(.U cN)),(184,(.map aF .bool)),(187,cN),(250,ko),(50,nA),(222,pT),(319,aF),(257,(.arr 64 .bool)),(258,(.int .u64)),(260,(.map (.arr 2 i64) aw)),(261,(.arr 2 i64)),(263,(.map (.arr 2 i64) .bool))]
theorem aB:(F5 prog aK&&A5 prog aK)=true:=by kernel_rfl
namespace fG
abbrev Arg:Type:=(List UInt8)×Int×Unit
abbrev Out:Type:=Int×Unit
abbrev ps:PQ:=[(.ro,(.U u8)),(.ro,i64)]
noncomputable def D:FD:={ fn:=f115,tl:=aK,ps:=ps,rs:=[(i64,(ay i64))] }
noncomputable def ab (a:Arg):Option Out:=@lift Out fun k=>D.W k a
noncomputable def p (a1:Arg):Option Out:=bif decide (ae (a1.2.1 - (a1.1.length:Int)) < (0:Int)) then (some ((-1:Int),())) else some (ae (a1.2.1 - (a1.1.length:Int)),())
theorem aa (k:Nat) (a1:Arg):@Eq (Option Out) (D.W k a1) (p a1):=by kernel_rfl
theorem ok:Ok prog 115 D.sig:=ao func115 aB (by kernel_rfl) (ak _)
end fG
namespace cL
abbrev Arg:Type:=(List (List UInt8))×Int×Unit
abbrev Out:Type:=Int×Unit
abbrev ps:PQ:=[(.ro,(.U (.U u8))),(.ro,i64)]
noncomputable def D:FD:={ fn:=f53,tl:=aK,ps:=ps,rs:=[(i64,(ay i64))],gl:=[(115,fG.D.sig)],lv:=[(5,[0,1,5])],lx:=[(0,[1])] }
noncomputable def ab (a:Arg):Option Out:=@lift Out fun k=>D.W k a
noncomputable def T0 (a1:Arg) (J:Int×Int):St:={ n:=27,sl:=[(0,.val (.U (.U u8)) a1.1),(1,.val i64 J.1),(5,.val i64 J.2)],vr:=[],av:=[] }
noncomputable def b0 (self:(Int×Int)->Option Out) (e0:Int->Option Out) (a1:Arg) (J:Int×Int):Option Out:=bif decide (J.2 < (a1.1.length:Int)) then (if 0<=J.2 then ((a1.1[J.2.toNat]?).bind fun aC=>(fG.ab (aC,J.1,())).bind fun bS=>bif decide (bS.1 < (0:Int)) then (some ((-1:Int),())) else self (bS.1,ae (J.2+(1:Int)))) else none) else e0 J.1
noncomputable abbrev B0 (_:Nat):=b0
noncomputable def q0 (a1:Arg) (bG:Int):Option Out:=some (bG,())
noncomputable abbrev Q0 (_:Nat):=q0
noncomputable def s0 (k:Nat) (a1:Arg):(Int×Int)->Option Out:=fun J=>D.L k [1,1,1,0,1,0,0] [0,1,5] [] (af 0 (an (D.N k [1,1,1,1]) D.K0)) (T0 a1 J)
noncomputable def r0 (k:Nat) (a1:Arg):(Int×Int)->Option Out:=al (fun w v=>B0 k w (Q0 k a1) a1 v) k
theorem ap (k:Nat) (a1:Arg):s0 k a1=r0 k a1:=
 funext fun J=>am _ _ _ (T0 a1) _ (fun rec v=>by kernel_rfl) k J
noncomputable def p (l0:(Int×Int)->Option Out) (a1:Arg):Option Out:=bif decide (ae (a1.2.1 - (a1.1.length:Int)) < (0:Int)) then (some ((-1:Int),())) else l0 (ae (a1.2.1 - (a1.1.length:Int)),(0:Int))
theorem aa (k:Nat) (a1:Arg):@Eq (Option Out) (D.W k a1) (p (r0 k a1) a1):=
 Eq.trans (b:=p (s0 k a1) a1) (by kernel_rfl) (by rw[ap])
theorem ok:Ok prog 53 D.sig:=ao func53 aB (by kernel_rfl) (fc fG.ok (ak _))
end cL
namespace kN
abbrev Arg:Type:=Log×Int×Unit
abbrev Out:Type:=Int×Unit
abbrev ps:PQ:=[(.ro,eS),(.ro,i64)]
noncomputable def D:FD:={ fn:=f54,tl:=aK,ps:=ps,rs:=[(i64,(ay i64))],gl:=[(115,fG.D.sig)] }
noncomputable def ab (a:Arg):Option Out:=@lift Out fun k=>D.W k a
noncomputable def p (a1:Arg):Option Out:=(fG.ab (a1.1.1,a1.2.1,())).bind fun r2=>bif decide (r2.1 < (0:Int)) then (some ((-1:Int),())) else (fG.ab (a1.1.2.1,r2.1,())).bind fun r3=>bif decide (r3.1 < (0:Int)) then (some ((-1:Int),())) else some (r3.1,())
theorem aa (k:Nat) (a1:Arg):@Eq (Option Out) (D.W k a1) (p a1):=by kernel_rfl
theorem ok:Ok prog 54 D.sig:=ao func54 aB (by kernel_rfl) (fc fG.ok (ak _))
end kN
namespace gN
abbrev Arg:Type:=Row×Int×Unit
abbrev Out:Type:=Int×Unit
abbrev ps:PQ:=[(.ro,aw),(.ro,i64)]
noncomputable def D:FD:={ fn:=f140,tl:=aK,ps:=ps,rs:=[(i64,(ay i64))] }
noncomputable def ab (a:Arg):Option Out:=@lift Out fun k=>D.W k a
noncomputable def p (a1:Arg):Option Out:=bif decide (ae (a1.2.1 - (a1.1.2.2.2.1.length:Int)) < (0:Int)) then (some ((-1:Int),())) else some (ae (a1.2.1 - (a1.1.2.2.2.1.length:Int)),())
theorem aa (k:Nat) (a1:Arg):@Eq (Option Out) (D.W k a1) (p a1):=by kernel_rfl
theorem ok:Ok prog 140 D.sig:=ao func140 aB (by kernel_rfl) (ak _)
end gN
namespace iF
abbrev Arg:Type:=Change×Int×Unit
abbrev Out:Type:=Int×Unit
abbrev ps:PQ:=[(.ro,au),(.ro,i64)]
noncomputable def D:FD:={ fn:=f253,tl:=aK,ps:=ps,rs:=[(i64,(ay i64))],gl:=[(140,gN.D.sig)] }
noncomputable def ab (a:Arg):Option Out:=@lift Out fun k=>D.W k a
noncomputable def p (a1:Arg):Option Out:=(gN.ab (a1.1.2.1,a1.2.1,())).bind fun r2=>bif decide (r2.1 < (0:Int)) then (some ((-1:Int),())) else (gN.ab (a1.1.2.2.2.1,r2.1,())).bind fun r3=>bif decide (r3.1 < (0:Int)) then (some ((-1:Int),())) else some (r3.1,())
theorem aa (k:Nat) (a1:Arg):@Eq (Option Out) (D.W k a1) (p a1):=by kernel_rfl
theorem ok:Ok prog 253 D.sig:=ao func253 aB (by kernel_rfl) (fc gN.ok (ak _))
end iF
namespace cq
abbrev Arg:Type:=(List Change)×Int×Unit
abbrev Out:Type:=Int×Unit
abbrev ps:PQ:=[(.ro,(.U au)),(.ro,i64)]
noncomputable def D:FD:={ fn:=f186,tl:=aK,ps:=ps,rs:=[(i64,(ay i64))],gl:=[(253,iF.D.sig)],lv:=[(5,[0,1,5])],lx:=[(0,[1])] }
noncomputable def ab (a:Arg):Option Out:=@lift Out fun k=>D.W k a
noncomputable def T0 (a1:Arg) (J:Int×Int):St:={ n:=27,sl:=[(0,.val (.U au) a1.1),(1,.val i64 J.1),(5,.val i64 J.2)],vr:=[],av:=[] }
noncomputable def b0 (self:(Int×Int)->Option Out) (e0:Int->Option Out) (a1:Arg) (J:Int×Int):Option Out:=bif decide (J.2 < (a1.1.length:Int)) then (if 0<=J.2 then ((a1.1[J.2.toNat]?).bind fun aC=>(iF.ab (aC,J.1,())).bind fun bS=>bif decide (bS.1 < (0:Int)) then (some ((-1:Int),())) else self (bS.1,ae (J.2+(1:Int)))) else none) else e0 J.1
noncomputable abbrev B0 (_:Nat):=b0
noncomputable def q0 (a1:Arg) (bG:Int):Option Out:=some (bG,())
noncomputable abbrev Q0 (_:Nat):=q0
noncomputable def s0 (k:Nat) (a1:Arg):(Int×Int)->Option Out:=fun J=>D.L k [1,1,1,0,1,0,0] [0,1,5] [] (af 0 (an (D.N k [1,1,1,1]) D.K0)) (T0 a1 J)
noncomputable def r0 (k:Nat) (a1:Arg):(Int×Int)->Option Out:=al (fun w v=>B0 k w (Q0 k a1) a1 v) k
theorem ap (k:Nat) (a1:Arg):s0 k a1=r0 k a1:=
 funext fun J=>am _ _ _ (T0 a1) _ (fun rec v=>by kernel_rfl) k J
noncomputable def p (l0:(Int×Int)->Option Out) (a1:Arg):Option Out:=bif decide (ae (a1.2.1 - (a1.1.length:Int)) < (0:Int)) then (some ((-1:Int),())) else l0 (ae (a1.2.1 - (a1.1.length:Int)),(0:Int))
theorem aa (k:Nat) (a1:Arg):@Eq (Option Out) (D.W k a1) (p (r0 k a1) a1):=
 Eq.trans (b:=p (s0 k a1) a1) (by kernel_rfl) (by rw[ap])
theorem ok:Ok prog 186 D.sig:=ao func186 aB (by kernel_rfl) (fc iF.ok (ak _))
end cq
namespace iG
abbrev Arg:Type:=(List Int)×Int×Unit
abbrev Out:Type:=Int×Unit
abbrev ps:PQ:=[(.ro,(.U i64)),(.ro,i64)]
noncomputable def D:FD:={ fn:=f187,tl:=aK,ps:=ps,rs:=[(i64,(ay i64))] }
noncomputable def ab (a:Arg):Option Out:=@lift Out fun k=>D.W k a
noncomputable def p (a1:Arg):Option Out:=bif decide (ae (a1.2.1 - (a1.1.length:Int)) < (0:Int)) then (some ((-1:Int),())) else some (ae (a1.2.1 - (a1.1.length:Int)),())
theorem aa (k:Nat) (a1:Arg):@Eq (Option Out) (D.W k a1) (p a1):=by kernel_rfl
theorem ok:Ok prog 187 D.sig:=ao func187 aB (by kernel_rfl) (ak _)
end iG
namespace j_
abbrev Arg:Type:=(List Key)×Int×Unit
abbrev Out:Type:=Int×Unit
abbrev ps:PQ:=[(.ro,(.U aF)),(.ro,i64)]
noncomputable def D:FD:={ fn:=f188,tl:=aK,ps:=ps,rs:=[(i64,(ay i64))] }
noncomputable def ab (a:Arg):Option Out:=@lift Out fun k=>D.W k a
noncomputable def p (a1:Arg):Option Out:=bif decide (ae (a1.2.1 - (a1.1.length:Int)) < (0:Int)) then (some ((-1:Int),())) else some (ae (a1.2.1 - (a1.1.length:Int)),())
theorem aa (k:Nat) (a1:Arg):@Eq (Option Out) (D.W k a1) (p a1):=by kernel_rfl
theorem ok:Ok prog 188 D.sig:=ao func188 aB (by kernel_rfl) (ak _)
end j_
namespace lI
abbrev Arg:Type:=Tx×Int×Unit
abbrev Out:Type:=Int×Unit
abbrev ps:PQ:=[(.ro,aX),(.ro,i64)]
noncomputable def D:FD:={ fn:=f116,tl:=aK,ps:=ps,rs:=[(i64,(ay i64))],gl:=[(186,cq.D.sig),(187,iG.D.sig),(188,j_.D.sig)] }
noncomputable def ab (a:Arg):Option Out:=@lift Out fun k=>D.W k a
noncomputable def p (a1:Arg):Option Out:=(cq.ab (a1.1.2.1,a1.2.1,())).bind fun r2=>bif decide (r2.1 < (0:Int)) then (some ((-1:Int),())) else (iG.ab (a1.1.2.2.1,r2.1,())).bind fun r3=>bif decide (r3.1 < (0:Int)) then (some ((-1:Int),())) else (j_.ab (a1.1.2.2.2.1,r3.1,())).bind fun r4=>bif decide (r4.1 < (0:Int)) then (some ((-1:Int),())) else some (r4.1,())
theorem aa (k:Nat) (a1:Arg):@Eq (Option Out) (D.W k a1) (p a1):=by kernel_rfl
theorem ok:Ok prog 116 D.sig:=ao func116 aB (by kernel_rfl) (fc cq.ok (fc iG.ok (fc j_.ok (ak _))))
end lI
namespace dr
abbrev Arg:Type:=(List Tx)×Int×Unit
abbrev Out:Type:=Int×Unit
abbrev ps:PQ:=[(.ro,(.U aX)),(.ro,i64)]
noncomputable def D:FD:={ fn:=f55,tl:=aK,ps:=ps,rs:=[(i64,(ay i64))],gl:=[(116,lI.D.sig)],lv:=[(5,[0,1,5])],lx:=[(0,[1])] }
noncomputable def ab (a:Arg):Option Out:=@lift Out fun k=>D.W k a
noncomputable def T0 (a1:Arg) (J:Int×Int):St:={ n:=27,sl:=[(0,.val (.U aX) a1.1),(1,.val i64 J.1),(5,.val i64 J.2)],vr:=[],av:=[] }
noncomputable def b0 (self:(Int×Int)->Option Out) (e0:Int->Option Out) (a1:Arg) (J:Int×Int):Option Out:=bif decide (J.2 < (a1.1.length:Int)) then (if 0<=J.2 then ((a1.1[J.2.toNat]?).bind fun aC=>(lI.ab (aC,J.1,())).bind fun bS=>bif decide (bS.1 < (0:Int)) then (some ((-1:Int),())) else self (bS.1,ae (J.2+(1:Int)))) else none) else e0 J.1
noncomputable abbrev B0 (_:Nat):=b0
noncomputable def q0 (a1:Arg) (bG:Int):Option Out:=some (bG,())
noncomputable abbrev Q0 (_:Nat):=q0
noncomputable def s0 (k:Nat) (a1:Arg):(Int×Int)->Option Out:=fun J=>D.L k [1,1,1,0,1,0,0] [0,1,5] [] (af 0 (an (D.N k [1,1,1,1]) D.K0)) (T0 a1 J)
noncomputable def r0 (k:Nat) (a1:Arg):(Int×Int)->Option Out:=al (fun w v=>B0 k w (Q0 k a1) a1 v) k
theorem ap (k:Nat) (a1:Arg):s0 k a1=r0 k a1:=
 funext fun J=>am _ _ _ (T0 a1) _ (fun rec v=>by kernel_rfl) k J
noncomputable def p (l0:(Int×Int)->Option Out) (a1:Arg):Option Out:=bif decide (ae (a1.2.1 - (a1.1.length:Int)) < (0:Int)) then (some ((-1:Int),())) else l0 (ae (a1.2.1 - (a1.1.length:Int)),(0:Int))
theorem aa (k:Nat) (a1:Arg):@Eq (Option Out) (D.W k a1) (p (r0 k a1) a1):=
 Eq.trans (b:=p (s0 k a1) a1) (by kernel_rfl) (by rw[ap])
theorem ok:Ok prog 55 D.sig:=ao func55 aB (by kernel_rfl) (fc lI.ok (ak _))
end dr
namespace jo
abbrev Arg:Type:=fN×Int×Unit
abbrev Out:Type:=Int×Unit
abbrev ps:PQ:=[(.ro,co),(.ro,i64)]
noncomputable def D:FD:={ fn:=f11,tl:=aK,ps:=ps,rs:=[(i64,(ay i64))],gl:=[(53,cL.D.sig),(54,kN.D.sig),(55,dr.D.sig)] }
noncomputable def ab (a:Arg):Option Out:=@lift Out fun k=>D.W k a
noncomputable def p (a1:Arg):Option Out:=(cL.ab (a1.1.2.1,a1.2.1,())).bind fun r2=>bif decide (r2.1 < (0:Int)) then (some ((-1:Int),())) else (kN.ab (a1.1.2.2.1,r2.1,())).bind fun r3=>bif decide (r3.1 < (0:Int)) then (some ((-1:Int),())) else (dr.ab (a1.1.2.2.2.1,r3.1,())).bind fun r4=>bif decide (r4.1 < (0:Int)) then (some ((-1:Int),())) else some (r4.1,())
theorem aa (k:Nat) (a1:Arg):@Eq (Option Out) (D.W k a1) (p a1):=by kernel_rfl
theorem ok:Ok prog 11 D.sig:=ao func11 aB (by kernel_rfl) (fc cL.ok (fc kN.ok (fc dr.ok (ak _))))
end jo
namespace fH
abbrev Arg:Type:=Row×Row×Unit
abbrev Out:Type:=Bool×Unit
abbrev ps:PQ:=[(.ro,(.ptr aw)),(.ro,(.ptr aw))]
noncomputable def D:FD:={ fn:=f214,tl:=aK,ps:=ps,rs:=[(.bool,(ay .bool))],od:=[(1,[0,1,2,3,4,5,6,7,8,9,10,11,12,13,14,15,16,17,18,19,20,21,22,23,24,25,26,27,28,29,30,31])] }
noncomputable def ab (a:Arg):Option Out:=@lift Out fun k=>D.W k a
noncomputable def p (a1:Arg):Option Out:=bif decide (a1.1.1 < a1.2.1.1) then (some (true,())) else bif decide (a1.1.1=a1.2.1.1) then (some (decide (a1.1.2.1 < a1.2.1.2.1),())) else some (false,())
theorem aa (k:Nat) (a1:Arg):@Eq (Option Out) (D.W k a1) (p a1):=by kernel_rfl
theorem ok:Ok prog 214 D.sig:=ao func214 aB (by kernel_rfl) (ak _)
end fH
namespace d_
abbrev Arg:Type:=(List Row)×Row×Unit
abbrev Out:Type:=(List Row)×Unit
abbrev ps:PQ:=[(.ro,(.U aw)),(.ro,aw)]
noncomputable def D:FD:={ fn:=f146,tl:=aK,ps:=ps,rs:=[((.U aw),(aq (.U aw)))],gl:=[(214,fH.D.sig)],lv:=[(2,[0,3,5])],lx:=[(0,[0,3,5])],od:=[(5,[0,1,4,5,6,2,3,7,8])] }
noncomputable def ab (a:Arg):Option Out:=@lift Out fun k=>D.W k a
noncomputable def T0 (a1:Arg) (J:Int):St:={ n:=32,sl:=[(0,.val (.U aw) a1.1),(3,.box aw (ay aw) [] a1.2.1),(5,.val i64 J)],vr:=[],av:=[] }
noncomputable def b0 (self:Int->Option Out) (e0:Int->Option Out) (a1:Arg) (J:Int):Option Out:=bif decide (J < (a1.1.length:Int)) then (if 0<=J then ((a1.1[J.toNat]?).bind fun aC=>(fH.ab (aC,a1.2.1,())).bind fun bS=>bif bS.1 then (self (ae (J+(1:Int)))) else e0 J) else none) else e0 J
noncomputable abbrev B0 (_:Nat):=b0
noncomputable def q0 (a1:Arg) (bG:Int):Option Out:=if 0<=bG/\bG<=(a1.1.length:Int) then (if ([]:List Row).length+((a1.1.take bG.toNat).drop 0).length<=bm then (let vt:=([]:List Row)++((a1.1.take bG.toNat).drop 0);if 0<=bG/\bG<=(a1.1.length:Int) then (if vt.length+[a1.2.1].length<=bm then (if (vt++[a1.2.1]).length+((a1.1.take a1.1.length).drop bG.toNat).length<=bm then (let vu:=(vt++[a1.2.1])++((a1.1.take a1.1.length).drop bG.toNat);some (vu,())) else none) else none) else none) else none) else none
noncomputable abbrev Q0 (_:Nat):=q0
noncomputable def s0 (k:Nat) (a1:Arg):(Int)->Option Out:=fun J=>D.L k [1,1,0,0,0] [0,3,5] [] (af 0 (an (D.N k [1,1,1]) D.K0)) (T0 a1 J)
noncomputable def r0 (k:Nat) (a1:Arg):(Int)->Option Out:=al (fun w v=>B0 k w (Q0 k a1) a1 v) k
theorem ap (k:Nat) (a1:Arg):s0 k a1=r0 k a1:=
 funext fun J=>am _ _ _ (T0 a1) _ (fun rec v=>by kernel_rfl) k J
noncomputable def p (l0:(Int)->Option Out) (a1:Arg):Option Out:=l0 (0:Int)
theorem aa (k:Nat) (a1:Arg):@Eq (Option Out) (D.W k a1) (p (r0 k a1) a1):=
 Eq.trans (b:=p (s0 k a1) a1) (by kernel_rfl) (by rw[ap])
theorem ok:Ok prog 146 D.sig:=ao func146 aB (by kernel_rfl) (fc fH.ok (ak _))
end d_
namespace il
abbrev Arg:Type:=Change×Unit
abbrev Out:Type:=Int×Int×Unit
abbrev ps:PQ:=[(.ro,(.ptr au))]
noncomputable def D:FD:={ fn:=f292,tl:=aK,ps:=ps,rs:=[(i64,(ay i64)),(i64,(ay i64))],od:=[(2,[0,1,2,3,4,5,6,7,8,9,10,11]),(3,[0,1,2,3,4,5,6,7,8,9,10,11])] }
noncomputable def ab (a:Arg):Option Out:=@lift Out fun k=>D.W k a
noncomputable def p (a1:Arg):Option Out:=bif a1.1.2.2.1 then (some (a1.1.2.2.2.1.1,a1.1.2.2.2.1.2.1,())) else some (a1.1.2.1.1,a1.1.2.1.2.1,())
theorem aa (k:Nat) (a1:Arg):@Eq (Option Out) (D.W k a1) (p a1):=by kernel_rfl
theorem ok:Ok prog 292 D.sig:=ao func292 aB (by kernel_rfl) (ak _)
end il
namespace fQ
abbrev Arg:Type:=(List Row)×Int×Int×Unit
abbrev Out:Type:=Int×Unit
abbrev ps:PQ:=[(.ro,(.U aw)),(.ro,i64),(.ro,i64)]
noncomputable def D:FD:={ fn:=f293,tl:=aK,ps:=ps,rs:=[(i64,(ay i64))],lv:=[(2,[0,1,2,7])],lx:=[(0,[])] }
noncomputable def ab (a:Arg):Option Out:=@lift Out fun k=>D.W k a
noncomputable def T0 (a1:Arg) (J:Int):St:={ n:=31,sl:=[(0,.val (.U aw) a1.1),(1,.val i64 a1.2.1),(2,.val i64 a1.2.2.1),(7,.val i64 J)],vr:=[],av:=[] }
noncomputable def b0 (self:Int->Option Out) (e0:(Unit)->Option Out) (a1:Arg) (J:Int):Option Out:=bif decide (J < (a1.1.length:Int)) then (if 0<=J then ((a1.1[J.toNat]?).bind fun aC=>bif decide (aC.1=a1.2.1) then (if 0<=J then ((a1.1[J.toNat]?).bind fun bU=>bif decide (bU.2.1=a1.2.2.1) then (some (J,())) else self (ae (J+(1:Int)))) else none) else self (ae (J+(1:Int)))) else none) else e0 ()
noncomputable abbrev B0 (_:Nat):=b0
noncomputable def q0 (a1:Arg) (bG:(Unit)):Option Out:=some ((-1:Int),())
noncomputable abbrev Q0 (_:Nat):=q0
noncomputable def s0 (k:Nat) (a1:Arg):(Int)->Option Out:=fun J=>D.L k [1,0,1,0,0] [0,1,2,7] [] (af 0 (an (D.N k [1,1]) D.K0)) (T0 a1 J)
noncomputable def r0 (k:Nat) (a1:Arg):(Int)->Option Out:=al (fun w v=>B0 k w (Q0 k a1) a1 v) k
theorem ap (k:Nat) (a1:Arg):s0 k a1=r0 k a1:=
 funext fun J=>am _ _ _ (T0 a1) _ (fun rec v=>by kernel_rfl) k J
noncomputable def p (l0:(Int)->Option Out) (a1:Arg):Option Out:=l0 (0:Int)
theorem aa (k:Nat) (a1:Arg):@Eq (Option Out) (D.W k a1) (p (r0 k a1) a1):=
 Eq.trans (b:=p (s0 k a1) a1) (by kernel_rfl) (by rw[ap])
theorem ok:Ok prog 293 D.sig:=ao func293 aB (by kernel_rfl) (ak _)
end fQ
namespace fR
abbrev Arg:Type:=(List Row)×Change×Unit
abbrev Out:Type:=(List Row)×Bool×Unit
abbrev ps:PQ:=[(.ro,(.U aw)),(.ro,(.ptr au))]
noncomputable def D:FD:={ fn:=f248,tl:=aK,ps:=ps,rs:=[((.U aw),(aq (.U aw))),(.bool,(ay .bool))],gl:=[(146,d_.D.sig),(292,il.D.sig),(293,fQ.D.sig)],lv:=[(7,[0,1,8,9,10])],lx:=[(0,[1,9])],od:=[(3,[0,1,2,3,4,5,6,7,8,9,10,11,12,13,14,15,16,17,18,19,20,21])] }
noncomputable def ab (a:Arg):Option Out:=@lift Out fun k=>D.W k a
noncomputable def T0 (a1:Arg) (im:Int) (cG:(List Row)×Int):St:={ n:=70,sl:=[(0,.val (.U aw) a1.1),(1,.cp au a1.2.1),(8,.val i64 im),(9,.own (.U aw) (aq (.U aw)) [] cG.1),(10,.val i64 cG.2)],vr:=[],av:=[] }
noncomputable def b0 (self:((List Row)×Int)->Option Out) (e0:(List Row)->Option Out) (a1:Arg) (im:Int) (cG:(List Row)×Int):Option Out:=bif decide (cG.2 < (a1.1.length:Int)) then (bif !decide (cG.2=im) then (if 0<=cG.2 then ((a1.1[cG.2.toNat]?).bind fun we=>if cG.1.length+[we].length<=bm then (self (cG.1++[we],ae (cG.2+(1:Int)))) else none) else none) else self (cG.1,ae (cG.2+(1:Int)))) else e0 cG.1
noncomputable abbrev B0 (_:Nat):=b0
noncomputable def q0 (a1:Arg) (im:Int) (Ll:(List Row)):Option Out:=bif a1.2.1.2.2.1 then ((d_.ab (Ll,a1.2.1.2.2.2.1,())).bind fun yp=>some (yp.1,true,())) else some (Ll,true,())
noncomputable abbrev Q0 (_:Nat):=q0
noncomputable def s0 (k:Nat) (a1:Arg):Int->((List Row)×Int)->Option Out:=fun im=>fun cG=>D.L k [1,1,1,1,1,0,1,0,0] [0,1,8,9,10] [] (af 0 (an (D.N k [1,1,1,1,1,1]) D.K0)) (T0 a1 im cG)
noncomputable def r0 (k:Nat) (a1:Arg):Int->((List Row)×Int)->Option Out:=fun im=>al (fun w v=>B0 k w (Q0 k a1 im) a1 im v) k
theorem ap (k:Nat) (a1:Arg):s0 k a1=r0 k a1:=
 funext fun im=>funext fun cG=>am _ _ _ (T0 a1 im) _ (fun rec v=>by kernel_rfl) k cG
noncomputable def p (l0:Int->((List Row)×Int)->Option Out) (a1:Arg):Option Out:=(il.ab (a1.2.1,())).bind fun r2=>(fQ.ab (a1.1,r2.1,r2.2.1,())).bind fun r3=>let CC:Option Out:=l0 r3.1 (([]:List Row),(0:Int));bif !(a1.2.1.1 == (decide ((0:Int)<=r3.1))) then (some (([]:List Row),false,())) else bif decide ((0:Int)<=r3.1) then (if 0<=r3.1 then ((a1.1[r3.1.toNat]?).bind fun x4=>bif !(Ty.eq aw x4 a1.2.1.2.1) then (some (([]:List Row),false,())) else CC) else none) else CC
theorem aa (k:Nat) (a1:Arg):@Eq (Option Out) (D.W k a1) (p (r0 k a1) a1):=
 Eq.trans (b:=p (s0 k a1) a1) (by kernel_rfl) (by rw[ap])
theorem ok:Ok prog 248 D.sig:=ao func248 aB (by kernel_rfl) (fc d_.ok (fc il.ok (fc fQ.ok (ak _))))
end fR
namespace dU
abbrev Arg:Type:=(List Change)×Unit
abbrev Out:Type:=(List Change)×Unit
abbrev ps:PQ:=[(.ro,(.U au))]
noncomputable def D:FD:={ fn:=f249,tl:=aK,ps:=ps,rs:=[((.U au),(aq (.U au)))],lv:=[(3,[0,3,4])],lx:=[(0,[3])] }
noncomputable def ab (a:Arg):Option Out:=@lift Out fun k=>D.W k a
noncomputable def T0 (a1:Arg) (J:(List Change)×Int):St:={ n:=31,sl:=[(0,.val (.U au) a1.1),(3,.own (.U au) (aq (.U au)) [] J.1),(4,.val i64 J.2)],vr:=[],av:=[] }
noncomputable def b0 (self:((List Change)×Int)->Option Out) (e0:(List Change)->Option Out) (a1:Arg) (J:(List Change)×Int):Option Out:=bif decide ((0:Int)<=J.2) then (if 0<=J.2 then ((a1.1[J.2.toNat]?).bind fun aC=>if J.1.length+[(aC.2.2.1,aC.2.2.2.1,aC.1,aC.2.1,())].length<=bm then (let vv:=J.1++[(aC.2.2.1,aC.2.2.2.1,aC.1,aC.2.1,())];self (vv,ae (J.2 - (1:Int)))) else none) else none) else e0 J.1
noncomputable abbrev B0 (_:Nat):=b0
noncomputable def q0 (a1:Arg) (bG:(List Change)):Option Out:=some (bG,())
noncomputable abbrev Q0 (_:Nat):=q0
noncomputable def s0 (k:Nat) (a1:Arg):((List Change)×Int)->Option Out:=fun J=>D.L k [1,1,0,1,0,0] [0,3,4] [] (af 0 (an (D.N k [1,1,1]) D.K0)) (T0 a1 J)
noncomputable def r0 (k:Nat) (a1:Arg):((List Change)×Int)->Option Out:=al (fun w v=>B0 k w (Q0 k a1) a1 v) k
theorem ap (k:Nat) (a1:Arg):s0 k a1=r0 k a1:=
 funext fun J=>am _ _ _ (T0 a1) _ (fun rec v=>by kernel_rfl) k J
noncomputable def p (l0:((List Change)×Int)->Option Out) (a1:Arg):Option Out:=l0 (([]:List Change),ae ((a1.1.length:Int) - (1:Int)))
theorem aa (k:Nat) (a1:Arg):@Eq (Option Out) (D.W k a1) (p (r0 k a1) a1):=
 Eq.trans (b:=p (s0 k a1) a1) (by kernel_rfl) (by rw[ap])
theorem ok:Ok prog 249 D.sig:=ao func249 aB (by kernel_rfl) (ak _)
end dU
namespace e_
abbrev Arg:Type:=(List Row)×(List Change)×Unit
abbrev Out:Type:=(List Row)×Bool×Unit
abbrev ps:PQ:=[(.ro,(.U aw)),(.ro,(.U au))]
noncomputable def D:FD:={ fn:=f181,tl:=aK,ps:=ps,rs:=[((.U aw),(ay (.U aw))),(.bool,(ay .bool))],gl:=[(248,fR.D.sig),(249,dU.D.sig)],lv:=[(3,[0,6,7])],lx:=[(0,[0])],lf:=[(3,[(0,(.U false (.pair .leaf (.pair .leaf (.pair .leaf (.pair .leaf .leaf))))))])] }
noncomputable def ab (a:Arg):Option Out:=@lift Out fun k=>D.W k a
noncomputable def T0 (a1:Arg) (fa:List Change) (aN:(List Row)×Int):St:={ n:=30,sl:=[(0,.val (.U aw) aN.1),(6,.own (.U au) (aq (.U au)) [] fa),(7,.val i64 aN.2)],vr:=[],av:=[] }
noncomputable def b0 (self:((List Row)×Int)->Option Out) (e0:(List Row)->Option Out) (a1:Arg) (fa:List Change) (aN:(List Row)×Int):Option Out:=bif decide (aN.2 < (fa.length:Int)) then (if 0<=aN.2/\aN.2 < (fa.length:Int) then ((fa[aN.2.toNat]?).bind fun db=>(fR.ab (aN.1,db,())).bind fun lC=>bif !lC.2.1 then (some (([]:List Row),false,())) else self (lC.1,ae (aN.2+(1:Int)))) else none) else e0 aN.1
noncomputable abbrev B0 (_:Nat):=b0
noncomputable def q0 (a1:Arg) (fa:List Change) (gI:(List Row)):Option Out:=some (gI,true,())
noncomputable abbrev Q0 (_:Nat):=q0
noncomputable def s0 (k:Nat) (a1:Arg):(List Change)->((List Row)×Int)->Option Out:=fun fa=>fun aN=>D.L k [1,1,0,1,0,0] [0,6,7] [(0,(.U false (.pair .leaf (.pair .leaf (.pair .leaf (.pair .leaf .leaf))))))] (af 0 (an (D.N k [1,1,1]) D.K0)) (T0 a1 fa aN)
noncomputable def r0 (k:Nat) (a1:Arg):(List Change)->((List Row)×Int)->Option Out:=fun fa=>al (fun w v=>B0 k w (Q0 k a1 fa) a1 fa v) k
theorem ap (k:Nat) (a1:Arg):s0 k a1=r0 k a1:=
 funext fun fa=>funext fun aN=>am _ _ _ (T0 a1 fa) _ (fun rec v=>by kernel_rfl) k aN
noncomputable def p (l0:(List Change)->((List Row)×Int)->Option Out) (a1:Arg):Option Out:=(dU.ab (a1.2.1,())).bind fun r2=>l0 r2.1 (a1.1,(0:Int))
theorem aa (k:Nat) (a1:Arg):@Eq (Option Out) (D.W k a1) (p (r0 k a1) a1):=
 Eq.trans (b:=p (s0 k a1) a1) (by kernel_rfl) (by rw[ap])
theorem ok:Ok prog 181 D.sig:=ao func181 aB (by kernel_rfl) (fc fR.ok (fc dU.ok (ak _)))
end e_
namespace fb
abbrev Arg:Type:=(List Row)×(List Tx)×Unit
abbrev Out:Type:=(List Row)×Bool×Unit
abbrev ps:PQ:=[(.ro,(.U aw)),(.ro,(.U aX))]
noncomputable def D:FD:={ fn:=f112,tl:=aK,ps:=ps,rs:=[((.U aw),(ay (.U aw))),(.bool,(ay .bool))],gl:=[(181,e_.D.sig)],lv:=[(3,[1,6,7])],lx:=[(0,[6])],lf:=[(3,[(6,(.U false (.pair .leaf (.pair .leaf (.pair .leaf (.pair .leaf .leaf))))))])] }
noncomputable def ab (a:Arg):Option Out:=@lift Out fun k=>D.W k a
noncomputable def T0 (a1:Arg) (J:(List Row)×Int):St:={ n:=33,sl:=[(1,.val (.U aX) a1.2.1),(6,.val (.U aw) J.1),(7,.val i64 J.2)],vr:=[],av:=[] }
noncomputable def b0 (self:((List Row)×Int)->Option Out) (e0:(List Row)->Option Out) (a1:Arg) (J:(List Row)×Int):Option Out:=bif decide (J.2 < (a1.2.1.length:Int)) then (if 0<=J.2 then ((a1.2.1[J.2.toNat]?).bind fun aC=>(e_.ab (J.1,aC.2.1,())).bind fun bS=>bif !bS.2.1 then (some (([]:List Row),false,())) else self (bS.1,ae (J.2+(1:Int)))) else none) else e0 J.1
noncomputable abbrev B0 (_:Nat):=b0
noncomputable def q0 (a1:Arg) (bG:(List Row)):Option Out:=some (bG,true,())
noncomputable abbrev Q0 (_:Nat):=q0
noncomputable def s0 (k:Nat) (a1:Arg):((List Row)×Int)->Option Out:=fun J=>D.L k [1,1,0,1,0,0] [1,6,7] [(6,(.U false (.pair .leaf (.pair .leaf (.pair .leaf (.pair .leaf .leaf))))))] (af 0 (an (D.N k [1,1,1]) D.K0)) (T0 a1 J)
noncomputable def r0 (k:Nat) (a1:Arg):((List Row)×Int)->Option Out:=al (fun w v=>B0 k w (Q0 k a1) a1 v) k
theorem ap (k:Nat) (a1:Arg):s0 k a1=r0 k a1:=
 funext fun J=>am _ _ _ (T0 a1) _ (fun rec v=>by kernel_rfl) k J
noncomputable def p (l0:((List Row)×Int)->Option Out) (a1:Arg):Option Out:=if ([]:List Row).length+a1.1.length<=bm then (l0 (([]:List Row)++a1.1,(0:Int))) else none
theorem aa (k:Nat) (a1:Arg):@Eq (Option Out) (D.W k a1) (p (r0 k a1) a1):=
 Eq.trans (b:=p (s0 k a1) a1) (by kernel_rfl) (by rw[ap])
theorem ok:Ok prog 112 D.sig:=ao func112 aB (by kernel_rfl) (fc e_.ok (ak _))
end fb
namespace aT
abbrev Arg:Type:=Int×Int×Int×Unit
abbrev Out:Type:=Bool×Unit
abbrev ps:PQ:=[(.ro,i64),(.ro,i64),(.ro,i64)]
noncomputable def D:FD:={ fn:=f118,tl:=aK,ps:=ps,rs:=[(.bool,(ay .bool))] }
noncomputable def ab (a:Arg):Option Out:=@lift Out fun k=>D.W k a
noncomputable def p (a1:Arg):Option Out:=bif decide (a1.2.1<=a1.1) then (some (decide (a1.1<=a1.2.2.1),())) else some (false,())
theorem aa (k:Nat) (a1:Arg):@Eq (Option Out) (D.W k a1) (p a1):=by kernel_rfl
theorem ok:Ok prog 118 D.sig:=ao func118 aB (by kernel_rfl) (ak _)
end aT
namespace fj
abbrev Arg:Type:=(List UInt8)×Unit
abbrev Out:Type:=Bool×Unit
abbrev ps:PQ:=[(.ro,.str)]
noncomputable def D:FD:={ fn:=f272,tl:=aK,ps:=ps,rs:=[(.bool,(ay .bool))],lv:=[(2,[0,3])],lx:=[(0,[0])] }
noncomputable def ab (a:Arg):Option Out:=@lift Out fun k=>D.W k a
noncomputable def T0 (a1:Arg) (J:Int):St:={ n:=23,sl:=[(0,.val .str a1.1),(3,.val i64 J)],vr:=[],av:=[] }
noncomputable def b0 (self:Int->Option Out) (e0:(Unit)->Option Out) (a1:Arg) (J:Int):Option Out:=bif decide (J < (a1.1.length:Int)) then (if 0<=J then ((a1.1[J.toNat]?).bind fun aC=>bif decide ((aC.toNat:Int) < (97:Int)) then (some (false,())) else if 0<=J then ((a1.1[J.toNat]?).bind fun bU=>bif decide ((122:Int) < (bU.toNat:Int)) then (some (false,())) else self (ae (J+(1:Int)))) else none) else none) else e0 ()
noncomputable abbrev B0 (_:Nat):=b0
noncomputable def q0 (a1:Arg) (bG:(Unit)):Option Out:=some (decide ((a1.1.length:Int)<=(8:Int)),())
noncomputable abbrev Q0 (_:Nat):=q0
noncomputable def s0 (k:Nat) (a1:Arg):(Int)->Option Out:=fun J=>D.L k [1,0,1,0,0] [0,3] [] (af 0 (an (D.N k [1,1]) D.K0)) (T0 a1 J)
noncomputable def r0 (k:Nat) (a1:Arg):(Int)->Option Out:=al (fun w v=>B0 k w (Q0 k a1) a1 v) k
theorem ap (k:Nat) (a1:Arg):s0 k a1=r0 k a1:=
 funext fun J=>am _ _ _ (T0 a1) _ (fun rec v=>by kernel_rfl) k J
noncomputable def p (l0:(Int)->Option Out) (a1:Arg):Option Out:=l0 (0:Int)
theorem aa (k:Nat) (a1:Arg):@Eq (Option Out) (D.W k a1) (p (r0 k a1) a1):=
 Eq.trans (b:=p (s0 k a1) a1) (by kernel_rfl) (by rw[ap])
theorem ok:Ok prog 272 D.sig:=ao func272 aB (by kernel_rfl) (ak _)
end fj
namespace dg
abbrev Arg:Type:=Row×Unit
abbrev Out:Type:=Int×Unit
abbrev ps:PQ:=[(.ro,(.ptr aw))]
noncomputable def D:FD:={ fn:=f213,tl:=aK,ps:=ps,rs:=[(i64,(ay i64))],gl:=[(118,aT.D.sig),(272,fj.D.sig)] }
noncomputable def ab (a:Arg):Option Out:=@lift Out fun k=>D.W k a
noncomputable def p (a1:Arg):Option Out:=(aT.ab (a1.1.1,(0:Int),(3:Int),())).bind fun r2=>bif !r2.1 then (some ((3:Int),())) else (aT.ab (a1.1.2.1,(1:Int),(99:Int),())).bind fun r3=>bif !r3.1 then (some ((3:Int),())) else (aT.ab (a1.1.2.2.1,(0:Int),(999:Int),())).bind fun r4=>bif !r4.1 then (some ((3:Int),())) else (fj.ab (a1.1.2.2.2.1,())).bind fun r5=>bif !r5.1 then (some ((5:Int),())) else some ((0:Int),())
theorem aa (k:Nat) (a1:Arg):@Eq (Option Out) (D.W k a1) (p a1):=by kernel_rfl
theorem ok:Ok prog 213 D.sig:=ao func213 aB (by kernel_rfl) (fc aT.ok (fc fj.ok (ak _)))
end dg
namespace ej
abbrev Arg:Type:=(List Row)×Unit
abbrev Out:Type:=Int×Unit
abbrev ps:PQ:=[(.ro,(.U aw))]
noncomputable def D:FD:={ fn:=f141,tl:=aK,ps:=ps,rs:=[(i64,(ay i64))],gl:=[(213,dg.D.sig),(214,fH.D.sig)],lv:=[(4,[0,3])],lx:=[(0,[])],od:=[(9,[0,1,2,3,4,5,6,7,8,9,10,11,12])] }
noncomputable def ab (a:Arg):Option Out:=@lift Out fun k=>D.W k a
noncomputable def T0 (a1:Arg) (J:Int):St:={ n:=34,sl:=[(0,.val (.U aw) a1.1),(3,.val i64 J)],vr:=[],av:=[] }
noncomputable def b0 (self:Int->Option Out) (e0:(Unit)->Option Out) (a1:Arg) (J:Int):Option Out:=bif decide (J < (a1.1.length:Int)) then (if 0<=J then ((a1.1[J.toNat]?).bind fun aC=>(dg.ab (aC,())).bind fun bS=>bif !decide (bS.1=(0:Int)) then (some (bS.1,())) else bif decide ((0:Int) < J) then (if 0<=ae (J - (1:Int)) then ((a1.1[(ae (J - (1:Int))).toNat]?).bind fun db=>if 0<=J then ((a1.1[J.toNat]?).bind fun oJ=>(fH.ab (db,oJ,())).bind fun iS=>bif !iS.1 then (some ((1:Int),())) else self (ae (J+(1:Int)))) else none) else none) else self (ae (J+(1:Int)))) else none) else e0 ()
noncomputable abbrev B0 (_:Nat):=b0
noncomputable def q0 (a1:Arg) (mR:(Unit)):Option Out:=some ((0:Int),())
noncomputable abbrev Q0 (_:Nat):=q0
noncomputable def s0 (k:Nat) (a1:Arg):(Int)->Option Out:=fun J=>D.L k [1,1,0,1,0,0] [0,3] [] (af 0 (an (D.N k [1,1,1]) D.K0)) (T0 a1 J)
noncomputable def r0 (k:Nat) (a1:Arg):(Int)->Option Out:=al (fun w v=>B0 k w (Q0 k a1) a1 v) k
theorem ap (k:Nat) (a1:Arg):s0 k a1=r0 k a1:=
 funext fun J=>am _ _ _ (T0 a1) _ (fun rec v=>by kernel_rfl) k J
noncomputable def p (l0:(Int)->Option Out) (a1:Arg):Option Out:=bif decide ((60:Int) < (a1.1.length:Int)) then (some ((2:Int),())) else l0 (0:Int)
theorem aa (k:Nat) (a1:Arg):@Eq (Option Out) (D.W k a1) (p (r0 k a1) a1):=
 Eq.trans (b:=p (s0 k a1) a1) (by kernel_rfl) (by rw[ap])
theorem ok:Ok prog 141 D.sig:=ao func141 aB (by kernel_rfl) (fc dg.ok (fc fH.ok (ak _)))
end ej
namespace iH
abbrev Arg:Type:=Change×Unit
abbrev Out:Type:=Int×Unit
abbrev ps:PQ:=[(.ro,(.ptr au))]
noncomputable def D:FD:={ fn:=f247,tl:=aK,ps:=ps,rs:=[(i64,(ay i64))],gl:=[(213,dg.D.sig)],od:=[(1,[0,1,2,3,4,5,6,7,8,9,10,11,12,13,14,15,16,17,18,19,20,21,22,23,24,25,26,27,28,29,30,31,32,33,34,35,36,37,38,39,40,41,42,43,44,45,46,47,48,49])] }
noncomputable def ab (a:Arg):Option Out:=@lift Out fun k=>D.W k a
noncomputable def p (a1:Arg):Option Out:=let j5:Option Out:=bif a1.1.1 then ((dg.ab (a1.1.2.1,())).bind fun r6=>bif !decide (r6.1=(0:Int)) then (some (r6.1,())) else bif a1.1.2.2.1 then ((dg.ab (a1.1.2.2.2.1,())).bind fun r8=>some (r8.1,())) else some ((0:Int),())) else bif a1.1.2.2.1 then ((dg.ab (a1.1.2.2.2.1,())).bind fun r9=>some (r9.1,())) else some ((0:Int),());bif !a1.1.1 then (bif !a1.1.2.2.1 then (some ((1:Int),())) else bif a1.1.1 then (bif a1.1.2.2.1 then (bif !decide (a1.1.2.1.1=a1.1.2.2.2.1.1) then (some ((1:Int),())) else bif !decide (a1.1.2.1.2.1=a1.1.2.2.2.1.2.1) then (some ((1:Int),())) else j5) else j5) else j5) else bif a1.1.1 then (bif a1.1.2.2.1 then (bif !decide (a1.1.2.1.1=a1.1.2.2.2.1.1) then (some ((1:Int),())) else bif !decide (a1.1.2.1.2.1=a1.1.2.2.2.1.2.1) then (some ((1:Int),())) else j5) else j5) else j5
theorem aa (k:Nat) (a1:Arg):@Eq (Option Out) (D.W k a1) (p a1):=by kernel_rfl
theorem ok:Ok prog 247 D.sig:=ao func247 aB (by kernel_rfl) (fc dg.ok (ak _))
end iH
namespace iI
abbrev Arg:Type:=Change×Unit
abbrev Out:Type:=Int×Unit
abbrev ps:PQ:=[(.ro,(.ptr au))]
noncomputable def D:FD:={ fn:=f273,tl:=aK,ps:=ps,rs:=[(i64,(ay i64))],gl:=[(247,iH.D.sig)],od:=[(4,[0,1,2,3,4,5,6,7,8,9,10,11,12,13,14,15,16,17,18,19,20])] }
noncomputable def ab (a:Arg):Option Out:=@lift Out fun k=>D.W k a
noncomputable def p (a1:Arg):Option Out:=(iH.ab (a1.1,())).bind fun r2=>bif !decide (r2.1=(0:Int)) then (some (r2.1,())) else bif a1.1.1 then (bif a1.1.2.2.1 then (bif (Ty.eq aw a1.1.2.1 a1.1.2.2.2.1) then (some ((1:Int),())) else some ((0:Int),())) else some ((0:Int),())) else some ((0:Int),())
theorem aa (k:Nat) (a1:Arg):@Eq (Option Out) (D.W k a1) (p a1):=by kernel_rfl
theorem ok:Ok prog 273 D.sig:=ao func273 aB (by kernel_rfl) (fc iH.ok (ak _))
end iI
namespace dz
abbrev Arg:Type:=Tx×Key×Unit
abbrev Out:Type:=Bool×Unit
abbrev ps:PQ:=[(.ro,(.ptr aX)),(.ro,aF)]
noncomputable def D:FD:={ fn:=f274,tl:=aK,ps:=ps,rs:=[(.bool,(ay .bool))],lv:=[(2,[0,3,5])],lx:=[(0,[])],od:=[(4,[0,1,2,3,4,5,6,7,8])] }
noncomputable def ab (a:Arg):Option Out:=@lift Out fun k=>D.W k a
noncomputable def T0 (a1:Arg) (J:Int):St:={ n:=24,sl:=[(0,.cp aX a1.1),(3,.box aF (ay aF) [] a1.2.1),(5,.val i64 J)],vr:=[],av:=[] }
noncomputable def b0 (self:Int->Option Out) (e0:(Unit)->Option Out) (a1:Arg) (J:Int):Option Out:=bif decide (J < (a1.1.2.2.2.1.length:Int)) then (if 0<=J then ((a1.1.2.2.2.1[J.toNat]?).bind fun aC=>bif (Ty.eq aF aC a1.2.1) then (some (true,())) else self (ae (J+(1:Int)))) else none) else e0 ()
noncomputable abbrev B0 (_:Nat):=b0
noncomputable def q0 (a1:Arg) (jR:(Unit)):Option Out:=some (false,())
noncomputable abbrev Q0 (_:Nat):=q0
noncomputable def s0 (k:Nat) (a1:Arg):(Int)->Option Out:=fun J=>D.L k [1,0,1,0,0] [0,3,5] [] (af 0 (an (D.N k [1,1]) D.K0)) (T0 a1 J)
noncomputable def r0 (k:Nat) (a1:Arg):(Int)->Option Out:=al (fun w v=>B0 k w (Q0 k a1) a1 v) k
theorem ap (k:Nat) (a1:Arg):s0 k a1=r0 k a1:=
 funext fun J=>am _ _ _ (T0 a1) _ (fun rec v=>by kernel_rfl) k J
noncomputable def p (l0:(Int)->Option Out) (a1:Arg):Option Out:=l0 (0:Int)
theorem aa (k:Nat) (a1:Arg):@Eq (Option Out) (D.W k a1) (p (r0 k a1) a1):=
 Eq.trans (b:=p (s0 k a1) a1) (by kernel_rfl) (by rw[ap])
theorem ok:Ok prog 274 D.sig:=ao func274 aB (by kernel_rfl) (ak _)
end dz
namespace iJ
abbrev Arg:Type:=Change×Unit
abbrev Out:Type:=Key×Unit
abbrev ps:PQ:=[(.ro,(.ptr au))]
noncomputable def D:FD:={ fn:=f275,tl:=aK,ps:=ps,rs:=[(aF,(ay aF))],gl:=[(292,il.D.sig)] }
noncomputable def ab (a:Arg):Option Out:=@lift Out fun k=>D.W k a
noncomputable def p (a1:Arg):Option Out:=(il.ab (a1.1,())).bind fun r2=>some ((r2.1,r2.2.1,()),())
theorem aa (k:Nat) (a1:Arg):@Eq (Option Out) (D.W k a1) (p a1):=by kernel_rfl
theorem ok:Ok prog 275 D.sig:=ao func275 aB (by kernel_rfl) (fc il.ok (ak _))
end iJ
namespace fI
abbrev Arg:Type:=Tx×Unit
abbrev Out:Type:=Int×Unit
abbrev ps:PQ:=[(.ro,(.ptr aX))]
noncomputable def D:FD:={ fn:=f215,tl:=aK,ps:=ps,rs:=[(i64,(ay i64))],gl:=[(273,iI.D.sig),(274,dz.D.sig),(275,iJ.D.sig)],lv:=[(2,[0,3])],lx:=[(0,[])] }
noncomputable def ab (a:Arg):Option Out:=@lift Out fun k=>D.W k a
noncomputable def T0 (a1:Arg) (J:Int):St:={ n:=34,sl:=[(0,.cp aX a1.1),(3,.val i64 J)],vr:=[],av:=[] }
noncomputable def b0 (self:Int->Option Out) (e0:(Unit)->Option Out) (a1:Arg) (J:Int):Option Out:=bif decide (J < (a1.1.2.1.length:Int)) then (if 0<=J then ((a1.1.2.1[J.toNat]?).bind fun aC=>(iI.ab (aC,())).bind fun bS=>bif !decide (bS.1=(0:Int)) then (some (bS.1,())) else if 0<=J then ((a1.1.2.1[J.toNat]?).bind fun db=>(iJ.ab (db,())).bind fun lC=>(dz.ab (a1.1,lC.1,())).bind fun iS=>bif !iS.1 then (some ((8:Int),())) else self (ae (J+(1:Int)))) else none) else none) else e0 ()
noncomputable abbrev B0 (_:Nat):=b0
noncomputable def q0 (a1:Arg) (mR:(Unit)):Option Out:=some ((0:Int),())
noncomputable abbrev Q0 (_:Nat):=q0
noncomputable def s0 (k:Nat) (a1:Arg):(Int)->Option Out:=fun J=>D.L k [1,0,1,0,0] [0,3] [] (af 0 (an (D.N k [1,1]) D.K0)) (T0 a1 J)
noncomputable def r0 (k:Nat) (a1:Arg):(Int)->Option Out:=al (fun w v=>B0 k w (Q0 k a1) a1 v) k
theorem ap (k:Nat) (a1:Arg):s0 k a1=r0 k a1:=
 funext fun J=>am _ _ _ (T0 a1) _ (fun rec v=>by kernel_rfl) k J
noncomputable def p (l0:(Int)->Option Out) (a1:Arg):Option Out:=l0 (0:Int)
theorem aa (k:Nat) (a1:Arg):@Eq (Option Out) (D.W k a1) (p (r0 k a1) a1):=
 Eq.trans (b:=p (s0 k a1) a1) (by kernel_rfl) (by rw[ap])
theorem ok:Ok prog 215 D.sig:=ao func215 aB (by kernel_rfl) (fc iI.ok (fc dz.ok (fc iJ.ok (ak _))))
end fI
namespace ka
abbrev Arg:Type:=Key×Unit
abbrev Out:Type:=Bool×Unit
abbrev ps:PQ:=[(.ro,(.ptr aF))]
noncomputable def D:FD:={ fn:=f276,tl:=aK,ps:=ps,rs:=[(.bool,(ay .bool))],gl:=[(118,aT.D.sig)] }
noncomputable def ab (a:Arg):Option Out:=@lift Out fun k=>D.W k a
noncomputable def p (a1:Arg):Option Out:=(aT.ab (a1.1.1,(0:Int),(3:Int),())).bind fun r2=>bif r2.1 then ((aT.ab (a1.1.2.1,(1:Int),(99:Int),())).bind fun r3=>some (r3.1,())) else some (false,())
theorem aa (k:Nat) (a1:Arg):@Eq (Option Out) (D.W k a1) (p a1):=by kernel_rfl
theorem ok:Ok prog 276 D.sig:=ao func276 aB (by kernel_rfl) (fc aT.ok (ak _))
end ka
namespace a_
abbrev Arg:Type:=Tx×Unit
abbrev Out:Type:=Int×Unit
abbrev ps:PQ:=[(.ro,(.ptr aX))]
noncomputable def D:FD:={ fn:=f216,tl:=aK,ps:=ps,rs:=[(i64,(ay i64))],gl:=[(118,aT.D.sig),(276,ka.D.sig)],lv:=[(4,[0,3]),(9,[0,4]),(14,[0,4,5])],lx:=[(0,[0]),(2,[]),(4,[0,4])],od:=[(6,[0,1,2,3,4,5,6,7,8,9,10,11,12,13,14,15,16,17,18,19,20,21,22,23,24,25,26,27,28,29,30,31,32,33,34,35]),(16,[0,1,2,3,4,5,6,7,8,9,10,11,12,13,14])],ar:=[(6,[3,6,10,21,24,28,32])] }
noncomputable def ab (a:Arg):Option Out:=@lift Out fun k=>D.W k a
noncomputable def T0 (a1:Arg) (J:Int):St:={ n:=102,sl:=[(0,.cp aX a1.1),(3,.val i64 J)],vr:=[],av:=[] }
noncomputable def S0 (rec:RT Out) (a1:Arg):(Int)->Option Out:=fun J=>rec (T0 a1 J)
noncomputable def bg (K:KT Out) (a1:Arg):(Unit)->Option Out:=fun z=>K (.exit 0) ({ n:=102,sl:=[(0,.cp aX a1.1)],vr:=[],av:=[] })
noncomputable def b0 (self:Int->Option Out) (e0:(Unit)->Option Out) (a1:Arg) (J:Int):Option Out:=bif decide (J < (a1.1.2.2.1.length:Int)) then (if 0<=J then ((a1.1.2.2.1[J.toNat]?).bind fun aC=>(aT.ab (aC,(0:Int),(a1.1.2.1.length:Int),())).bind fun bS=>bif !bS.1 then (some ((3:Int),())) else bif decide ((0:Int) < J) then (if 0<=J then ((a1.1.2.2.1[J.toNat]?).bind fun db=>if 0<=ae (J - (1:Int)) then ((a1.1.2.2.1[(ae (J - (1:Int))).toNat]?).bind fun oJ=>bif decide (db < oJ) then (some ((3:Int),())) else self (ae (J+(1:Int)))) else none) else none) else self (ae (J+(1:Int)))) else none) else e0 ()
noncomputable abbrev B0 (_:Nat):=b0
theorem fA (k:Nat) (rec:RT Out) (K:KT Out) (a1:Arg) (J:Int):D.N k [1,1,0,1,0,0] (T0 a1 J) (c9 rec (bY [0,3] []) K)=b0 (S0 rec a1) (bg K a1) a1 J:=by kernel_rfl
noncomputable def T1 (a1:Arg) (ba:Tx×Int):St:={ n:=102,sl:=[(0,.cp aX ba.1),(4,.val i64 ba.2)],vr:=[],av:=[] }
noncomputable def S1 (rec:RT Out) (a1:Arg):(Tx×Int)->Option Out:=fun ba=>rec (T1 a1 ba)
noncomputable def dA (K:KT Out) (a1:Arg):(Unit)->Option Out:=fun z=>K (.exit 2) ({ n:=102,sl:=[],vr:=[],av:=[] })
noncomputable def T2 (a1:Arg) (cu:Tx) (bA:Int) (eV:Int):St:={ n:=102,sl:=[(0,.cp aX cu),(4,.val i64 bA),(5,.val i64 eV)],vr:=[],av:=[] }
noncomputable def b2 (self:Int->Option Out) (e4:(Unit)->Option Out) (a1:Arg) (cu:Tx) (bA:Int) (eV:Int):Option Out:=bif decide (eV < bA) then (if 0<=eV then ((cu.2.2.2.1[eV.toNat]?).bind fun F_=>if 0<=bA then ((cu.2.2.2.1[bA.toNat]?).bind fun OD=>bif (Ty.eq aF F_ OD) then (some ((6:Int),())) else self (ae (eV+(1:Int)))) else none) else none) else e4 ()
noncomputable abbrev B2 (_:Nat):=b2
noncomputable def q1 (self:(Tx×Int)->Option Out) (e2:(Unit)->Option Out) (a1:Arg) (cu:Tx) (bA:Int) (nf:(Unit)):Option Out:=self (cu,ae (bA+(1:Int)))
noncomputable abbrev Q1 (_:Nat):=q1
noncomputable def s2 (k:Nat) (rec:RT Out) (K:KT Out) (a1:Arg):Tx->Int->(Int)->Option Out:=fun cu bA=>fun eV=>D.L k [1,1,1,0,1,0,0,1,0,0,1,1,0,0] [0,4,5] [] (af 4 (af 3 (an (D.N k [1,1,1,0,1,0,0,1,1]) (c9 rec (bY [0,4] []) K)))) (T2 a1 cu bA eV)
noncomputable def r2 (k:Nat) (self:(Tx×Int)->Option Out) (e2:(Unit)->Option Out) (a1:Arg):Tx->Int->(Int)->Option Out:=fun cu bA=>al (fun w v=>B2 k w (Q1 k self e2 a1 cu bA) a1 cu bA v) k
theorem kO (k:Nat) (rec:RT Out) (K:KT Out) (a1:Arg):s2 k rec K a1=r2 k (S1 rec a1) (dA K a1) a1:=
 funext fun cu=>funext fun bA=>funext fun eV=>am _ _ _ (T2 a1 cu bA) _ (fun rec v=>by kernel_rfl) k eV
noncomputable def b1 (self:(Tx×Int)->Option Out) (e2:(Unit)->Option Out) (l2:Tx->Int->(Int)->Option Out) (a1:Arg) (ba:Tx×Int):Option Out:=bif decide (ba.2 < (ba.1.2.2.2.1.length:Int)) then (if 0<=ba.2 then ((ba.1.2.2.2.1[ba.2.toNat]?).bind fun rQ=>(ka.ab (rQ,())).bind fun qk=>bif !qk.1 then (some ((3:Int),())) else l2 ba.1 ba.2 (0:Int)) else none) else e2 ()
noncomputable def B1 (k:Nat) (self:(Tx×Int)->Option Out) (e2:(Unit)->Option Out) (a1:Arg) (ba:Tx×Int):Option Out:=b1 self e2 (r2 k self e2 a1) a1 ba
theorem lR (k:Nat) (rec:RT Out) (K:KT Out) (a1:Arg) (ba:Tx×Int):D.N k [1,1,1,0,1,0,0] (T1 a1 ba) (c9 rec (bY [0,4] []) K)=B1 k (S1 rec a1) (dA K a1) a1 ba:=
 Eq.trans (b:=b1 (S1 rec a1) (dA K a1) (s2 k rec K a1) a1 ba) (by kernel_rfl) (by rw[kO];rfl)
noncomputable def q2 (a1:Arg) (Ga:(Unit)):Option Out:=some ((0:Int),())
noncomputable abbrev Q2 (_:Nat):=q2
theorem ng (k:Nat) (a1:Arg) (Ga:(Unit)):dA (af 2 (an (D.N k [1,1,1,1]) D.K0)) a1 Ga=q2 a1 Ga:=by kernel_rfl
noncomputable def s1 (k:Nat) (a1:Arg):(Tx×Int)->Option Out:=fun ba=>D.L k [1,1,1,0,1,0,0] [0,4] [] (af 2 (an (D.N k [1,1,1,1]) D.K0)) (T1 a1 ba)
noncomputable def r1 (k:Nat) (a1:Arg):(Tx×Int)->Option Out:=al (fun w v=>B1 k w (Q2 k a1) a1 v) k
theorem fB (k:Nat) (a1:Arg):s1 k a1=r1 k a1:=by
 funext ba;
 have Y:dA (af 2 (an (D.N k [1,1,1,1]) D.K0)) a1=Q2 k a1:=funext fun z=>ng k a1 z
 refine (am _ _ _ (T1 a1) (fun self v=>B1 k self (dA (af 2 (an (D.N k [1,1,1,1]) D.K0)) a1) a1 v) (fun rec v=>lR k rec (af 2 (an (D.N k [1,1,1,1]) D.K0)) a1 v) k ba).trans ?_
 rw[Y]
 rfl
noncomputable def q0 (l1:(Tx×Int)->Option Out) (a1:Arg) (gI:(Unit)):Option Out:=l1 (a1.1,(0:Int))
noncomputable def Q0 (k:Nat) (a1:Arg) (gI:(Unit)):Option Out:=q0 (r1 k a1) a1 gI
theorem jS (k:Nat) (a1:Arg) (gI:(Unit)):bg (af 0 (an (D.N k [1,1,1]) D.K0)) a1 gI=Q0 k a1 gI:=
 Eq.trans (b:=q0 (s1 k a1) a1 gI) (by kernel_rfl) (by rw[fB];rfl)
noncomputable def s0 (k:Nat) (a1:Arg):(Int)->Option Out:=fun J=>D.L k [1,1,0,1,0,0] [0,3] [] (af 0 (an (D.N k [1,1,1]) D.K0)) (T0 a1 J)
noncomputable def r0 (k:Nat) (a1:Arg):(Int)->Option Out:=al (fun w v=>B0 k w (Q0 k a1) a1 v) k
theorem ap (k:Nat) (a1:Arg):s0 k a1=r0 k a1:=by
 funext J;
 have h0:bg (af 0 (an (D.N k [1,1,1]) D.K0)) a1=Q0 k a1:=funext fun z=>jS k a1 z
 refine (am _ _ _ (T0 a1) (fun self v=>B0 k self (bg (af 0 (an (D.N k [1,1,1]) D.K0)) a1) a1 v) (fun rec v=>fA k rec (af 0 (an (D.N k [1,1,1]) D.K0)) a1 v) k J).trans ?_
 rw[h0]
 rfl
noncomputable def p (l0:(Int)->Option Out) (a1:Arg):Option Out:=bif decide ((8:Int) < (a1.1.2.2.1.length:Int)) then (some ((2:Int),())) else bif decide ((12:Int) < (a1.1.2.2.2.1.length:Int)) then (some ((2:Int),())) else l0 (0:Int)
theorem aa (k:Nat) (a1:Arg):@Eq (Option Out) (D.W k a1) (p (r0 k a1) a1):=
 Eq.trans (b:=p (s0 k a1) a1) (by kernel_rfl) (by rw[ap])
theorem ok:Ok prog 216 D.sig:=ao func216 aB (by kernel_rfl) (fc aT.ok (fc ka.ok (ak _)))
end a_
namespace fJ
abbrev Arg:Type:=(List Tx)×Key×Unit
abbrev Out:Type:=Int×Unit
abbrev ps:PQ:=[(.ro,(.U aX)),(.ro,aF)]
noncomputable def D:FD:={ fn:=f277,tl:=aK,ps:=ps,rs:=[(i64,(ay i64))],gl:=[(274,dz.D.sig)],lv:=[(2,[0,3,5])],lx:=[(0,[])],od:=[(4,[0,1,2,3,4])] }
noncomputable def ab (a:Arg):Option Out:=@lift Out fun k=>D.W k a
noncomputable def T0 (a1:Arg) (J:Int):St:={ n:=22,sl:=[(0,.val (.U aX) a1.1),(3,.box aF (ay aF) [] a1.2.1),(5,.val i64 J)],vr:=[],av:=[] }
noncomputable def b0 (self:Int->Option Out) (e0:(Unit)->Option Out) (a1:Arg) (J:Int):Option Out:=bif decide (J < (a1.1.length:Int)) then (if 0<=J then ((a1.1[J.toNat]?).bind fun aC=>(dz.ab (aC,a1.2.1,())).bind fun bS=>bif bS.1 then (if 0<=J then ((a1.1[J.toNat]?).bind fun db=>some (db.1,())) else none) else self (ae (J+(1:Int)))) else none) else e0 ()
noncomputable abbrev B0 (_:Nat):=b0
noncomputable def q0 (a1:Arg) (gz:(Unit)):Option Out:=some ((0:Int),())
noncomputable abbrev Q0 (_:Nat):=q0
noncomputable def s0 (k:Nat) (a1:Arg):(Int)->Option Out:=fun J=>D.L k [1,0,1,0,0] [0,3,5] [] (af 0 (an (D.N k [1,1]) D.K0)) (T0 a1 J)
noncomputable def r0 (k:Nat) (a1:Arg):(Int)->Option Out:=al (fun w v=>B0 k w (Q0 k a1) a1 v) k
theorem ap (k:Nat) (a1:Arg):s0 k a1=r0 k a1:=
 funext fun J=>am _ _ _ (T0 a1) _ (fun rec v=>by kernel_rfl) k J
noncomputable def p (l0:(Int)->Option Out) (a1:Arg):Option Out:=l0 (0:Int)
theorem aa (k:Nat) (a1:Arg):@Eq (Option Out) (D.W k a1) (p (r0 k a1) a1):=
 Eq.trans (b:=p (s0 k a1) a1) (by kernel_rfl) (by rw[ap])
theorem ok:Ok prog 277 D.sig:=ao func277 aB (by kernel_rfl) (fc dz.ok (ak _))
end fJ
namespace bR
abbrev Arg:Type:=(List Tx)×Unit
abbrev Out:Type:=Bool×Unit
abbrev ps:PQ:=[(.ro,(.U aX))]
noncomputable def D:FD:={ fn:=f217,tl:=aK,ps:=ps,rs:=[(.bool,(ay .bool))],gl:=[(277,fJ.D.sig)],lv:=[(2,[0,3]),(5,[0,3,4])],lx:=[(0,[]),(2,[0,3])],od:=[(7,[0,1,2,3,4,5,6,7,8,10,11,12,13,14,9,15])] }
noncomputable def ab (a:Arg):Option Out:=@lift Out fun k=>D.W k a
noncomputable def T0 (a1:Arg) (J:(List Tx)×Int):St:={ n:=37,sl:=[(0,.val (.U aX) J.1),(3,.val i64 J.2)],vr:=[],av:=[] }
noncomputable def S0 (rec:RT Out) (a1:Arg):((List Tx)×Int)->Option Out:=fun J=>rec (T0 a1 J)
noncomputable def bg (K:KT Out) (a1:Arg):(Unit)->Option Out:=fun z=>K (.exit 0) ({ n:=37,sl:=[],vr:=[],av:=[] })
noncomputable def T1 (a1:Arg) (fO:List Tx) (eb:Int) (fW:Int):St:={ n:=37,sl:=[(0,.val (.U aX) fO),(3,.val i64 eb),(4,.val i64 fW)],vr:=[],av:=[] }
noncomputable def b1 (self:Int->Option Out) (e2:(Unit)->Option Out) (a1:Arg) (fO:List Tx) (eb:Int) (fW:Int):Option Out:=if 0<=eb then ((fO[eb.toNat]?).bind fun Gb=>bif decide (fW < (Gb.2.2.2.1.length:Int)) then (if 0<=eb then ((fO[eb.toNat]?).bind fun tE=>if 0<=fW then ((tE.2.2.2.1[fW.toNat]?).bind fun tF=>if 0<=eb then ((fO[eb.toNat]?).bind fun rQ=>(fJ.ab (fO,tF,())).bind fun qk=>bif !decide (qk.1=rQ.1) then (some (false,())) else self (ae (fW+(1:Int)))) else none) else none) else none) else e2 ()) else none
noncomputable abbrev B1 (_:Nat):=b1
noncomputable def q0 (self:((List Tx)×Int)->Option Out) (e0:(Unit)->Option Out) (a1:Arg) (fO:List Tx) (eb:Int) (tG:(Unit)):Option Out:=self (fO,ae (eb+(1:Int)))
noncomputable abbrev Q0 (_:Nat):=q0
noncomputable def s1 (k:Nat) (rec:RT Out) (K:KT Out) (a1:Arg):(List Tx)->Int->(Int)->Option Out:=fun fO eb=>fun fW=>D.L k [1,0,1,0,0,1,0,0,1,0,0] [0,3,4] [] (af 2 (af 1 (an (D.N k [1,0,1,0,0,1,1]) (c9 rec (bY [0,3] []) K)))) (T1 a1 fO eb fW)
noncomputable def r1 (k:Nat) (self:((List Tx)×Int)->Option Out) (e0:(Unit)->Option Out) (a1:Arg):(List Tx)->Int->(Int)->Option Out:=fun fO eb=>al (fun w v=>B1 k w (Q0 k self e0 a1 fO eb) a1 fO eb v) k
theorem fB (k:Nat) (rec:RT Out) (K:KT Out) (a1:Arg):s1 k rec K a1=r1 k (S0 rec a1) (bg K a1) a1:=
 funext fun fO=>funext fun eb=>funext fun fW=>am _ _ _ (T1 a1 fO eb) _ (fun rec v=>by kernel_rfl) k fW
noncomputable def b0 (self:((List Tx)×Int)->Option Out) (e0:(Unit)->Option Out) (l1:(List Tx)->Int->(Int)->Option Out) (a1:Arg) (J:(List Tx)×Int):Option Out:=bif decide (J.2 < (J.1.length:Int)) then (l1 J.1 J.2 (0:Int)) else e0 ()
noncomputable def B0 (k:Nat) (self:((List Tx)×Int)->Option Out) (e0:(Unit)->Option Out) (a1:Arg) (J:(List Tx)×Int):Option Out:=b0 self e0 (r1 k self e0 a1) a1 J
theorem fA (k:Nat) (rec:RT Out) (K:KT Out) (a1:Arg) (J:(List Tx)×Int):D.N k [1,0,1,0,0] (T0 a1 J) (c9 rec (bY [0,3] []) K)=B0 k (S0 rec a1) (bg K a1) a1 J:=
 Eq.trans (b:=b0 (S0 rec a1) (bg K a1) (s1 k rec K a1) a1 J) (by kernel_rfl) (by rw[fB];rfl)
noncomputable def q1 (a1:Arg) (rR:(Unit)):Option Out:=some (true,())
noncomputable abbrev Q1 (_:Nat):=q1
theorem lS (k:Nat) (a1:Arg) (rR:(Unit)):bg (af 0 (an (D.N k [1,1]) D.K0)) a1 rR=q1 a1 rR:=by kernel_rfl
noncomputable def s0 (k:Nat) (a1:Arg):((List Tx)×Int)->Option Out:=fun J=>D.L k [1,0,1,0,0] [0,3] [] (af 0 (an (D.N k [1,1]) D.K0)) (T0 a1 J)
noncomputable def r0 (k:Nat) (a1:Arg):((List Tx)×Int)->Option Out:=al (fun w v=>B0 k w (Q1 k a1) a1 v) k
theorem ap (k:Nat) (a1:Arg):s0 k a1=r0 k a1:=by
 funext J;
 have h0:bg (af 0 (an (D.N k [1,1]) D.K0)) a1=Q1 k a1:=funext fun z=>lS k a1 z
 refine (am _ _ _ (T0 a1) (fun self v=>B0 k self (bg (af 0 (an (D.N k [1,1]) D.K0)) a1) a1 v) (fun rec v=>fA k rec (af 0 (an (D.N k [1,1]) D.K0)) a1 v) k J).trans ?_
 rw[h0]
 rfl
noncomputable def p (l0:((List Tx)×Int)->Option Out) (a1:Arg):Option Out:=l0 (a1.1,(0:Int))
theorem aa (k:Nat) (a1:Arg):@Eq (Option Out) (D.W k a1) (p (r0 k a1) a1):=
 Eq.trans (b:=p (s0 k a1) a1) (by kernel_rfl) (by rw[ap])
theorem ok:Ok prog 217 D.sig:=ao func217 aB (by kernel_rfl) (fc fJ.ok (ak _))
end bR
namespace eX
abbrev Arg:Type:=(List Tx)×Unit
abbrev Out:Type:=Int×Unit
abbrev ps:PQ:=[(.ro,(.U aX))]
noncomputable def D:FD:={ fn:=f218,tl:=aK,ps:=ps,rs:=[(i64,(ay i64))],lv:=[(3,[0,3,4])],lx:=[(0,[3])] }
noncomputable def ab (a:Arg):Option Out:=@lift Out fun k=>D.W k a
noncomputable def T0 (a1:Arg) (J:Int×Int):St:={ n:=20,sl:=[(0,.val (.U aX) a1.1),(3,.val i64 J.1),(4,.val i64 J.2)],vr:=[],av:=[] }
noncomputable def b0 (self:(Int×Int)->Option Out) (e0:Int->Option Out) (a1:Arg) (J:Int×Int):Option Out:=bif decide (J.2 < (a1.1.length:Int)) then (if 0<=J.2 then ((a1.1[J.2.toNat]?).bind fun aC=>self (ae (J.1+(aC.2.1.length:Int)),ae (J.2+(1:Int)))) else none) else e0 J.1
noncomputable abbrev B0 (_:Nat):=b0
noncomputable def q0 (a1:Arg) (jR:Int):Option Out:=some (jR,())
noncomputable abbrev Q0 (_:Nat):=q0
noncomputable def s0 (k:Nat) (a1:Arg):(Int×Int)->Option Out:=fun J=>D.L k [1,1,0,1,0,0] [0,3,4] [] (af 0 (an (D.N k [1,1,1]) D.K0)) (T0 a1 J)
noncomputable def r0 (k:Nat) (a1:Arg):(Int×Int)->Option Out:=al (fun w v=>B0 k w (Q0 k a1) a1 v) k
theorem ap (k:Nat) (a1:Arg):s0 k a1=r0 k a1:=
 funext fun J=>am _ _ _ (T0 a1) _ (fun rec v=>by kernel_rfl) k J
noncomputable def p (l0:(Int×Int)->Option Out) (a1:Arg):Option Out:=l0 ((0:Int),(0:Int))
theorem aa (k:Nat) (a1:Arg):@Eq (Option Out) (D.W k a1) (p (r0 k a1) a1):=
 Eq.trans (b:=p (s0 k a1) a1) (by kernel_rfl) (by rw[ap])
theorem ok:Ok prog 218 D.sig:=ao func218 aB (by kernel_rfl) (ak _)
end eX
namespace c6
abbrev Arg:Type:=(List Tx)×Unit
abbrev Out:Type:=Int×Unit
abbrev ps:PQ:=[(.ro,(.U aX))]
noncomputable def D:FD:={ fn:=f142,tl:=aK,ps:=ps,rs:=[(i64,(ay i64))],gl:=[(118,aT.D.sig),(215,fI.D.sig),(216,a_.D.sig),(217,bR.D.sig),(218,eX.D.sig)],lv:=[(4,[0,3])],lx:=[(0,[0])],od:=[(9,[0,1,2,3,4,5,6,7,8,9,10,11,12,13,14])] }
noncomputable def ab (a:Arg):Option Out:=@lift Out fun k=>D.W k a
noncomputable def T0 (a1:Arg) (J:Int):St:={ n:=56,sl:=[(0,.val (.U aX) a1.1),(3,.val i64 J)],vr:=[],av:=[] }
noncomputable def b0 (self:Int->Option Out) (e0:(Unit)->Option Out) (a1:Arg) (J:Int):Option Out:=bif decide (J < (a1.1.length:Int)) then (if 0<=J then ((a1.1[J.toNat]?).bind fun aC=>(aT.ab (aC.1,(1:Int),(99:Int),())).bind fun bS=>bif !bS.1 then (some ((3:Int),())) else let NI:Option Out:=(fI.ab (aC,())).bind fun pU=>bif !decide (pU.1=(0:Int)) then (some (pU.1,())) else (a_.ab (aC,())).bind fun rq=>bif !decide (rq.1=(0:Int)) then (some (rq.1,())) else self (ae (J+(1:Int)));bif decide ((0:Int) < J) then (if 0<=ae (J - (1:Int)) then ((a1.1[(ae (J - (1:Int))).toNat]?).bind fun db=>bif decide (aC.1<=db.1) then (some ((1:Int),())) else NI) else none) else NI) else none) else e0 ()
noncomputable abbrev B0 (_:Nat):=b0
noncomputable def q0 (a1:Arg) (JW:(Unit)):Option Out:=(bR.ab (a1.1,())).bind fun JX=>bif !JX.1 then (some ((7:Int),())) else (eX.ab (a1.1,())).bind fun Gc=>bif decide ((12:Int) < Gc.1) then (some ((2:Int),())) else some ((0:Int),())
noncomputable abbrev Q0 (_:Nat):=q0
noncomputable def s0 (k:Nat) (a1:Arg):(Int)->Option Out:=fun J=>D.L k [1,1,0,1,0,0] [0,3] [] (af 0 (an (D.N k [1,1,1]) D.K0)) (T0 a1 J)
noncomputable def r0 (k:Nat) (a1:Arg):(Int)->Option Out:=al (fun w v=>B0 k w (Q0 k a1) a1 v) k
theorem ap (k:Nat) (a1:Arg):s0 k a1=r0 k a1:=
 funext fun J=>am _ _ _ (T0 a1) _ (fun rec v=>by kernel_rfl) k J
noncomputable def p (l0:(Int)->Option Out) (a1:Arg):Option Out:=bif decide ((4:Int) < (a1.1.length:Int)) then (some ((2:Int),())) else l0 (0:Int)
theorem aa (k:Nat) (a1:Arg):@Eq (Option Out) (D.W k a1) (p (r0 k a1) a1):=
 Eq.trans (b:=p (s0 k a1) a1) (by kernel_rfl) (by rw[ap])
theorem ok:Ok prog 142 D.sig:=ao func142 aB (by kernel_rfl) (fc aT.ok (fc fI.ok (fc a_.ok (fc bR.ok (fc eX.ok (ak _))))))
end c6
namespace aO
abbrev Arg:Type:=(List Row)×(List Tx)×Key×Unit
abbrev Out:Type:=Int×Unit
abbrev ps:PQ:=[(.ro,(.U aw)),(.ro,(.U aX)),(.ro,aF)]
noncomputable def D:FD:={ fn:=f143,tl:=aK,ps:=ps,rs:=[(i64,(ay i64))],lv:=[(3,[0,1,5,7,8]),(7,[1,5,7,9]),(14,[7,10,11]),(18,[7,10,11,12,13])],lx:=[(0,[1,5,7]),(2,[5,7]),(4,[10]),(6,[7,10,11,12])],od:=[(5,[0,1,2,3,4,5,6,7,8,9,10,11,12,13,14]),(20,[0,1,2,3,4,5,6,7,8,9])] }
noncomputable def ab (a:Arg):Option Out:=@lift Out fun k=>D.W k a
noncomputable def T0 (a1:Arg) (J:(List Key)×Int):St:={ n:=82,sl:=[(0,.val (.U aw) a1.1),(1,.val (.U aX) a1.2.1),(5,.box aF (ay aF) [] a1.2.2.1),(7,.own (.U aF) (aq (.U aF)) [] J.1),(8,.val i64 J.2)],vr:=[],av:=[] }
noncomputable def S0 (rec:RT Out) (a1:Arg):((List Key)×Int)->Option Out:=fun J=>rec (T0 a1 J)
noncomputable def bg (K:KT Out) (a1:Arg):(List Key)->Option Out:=fun z=>K (.exit 0) ({ n:=82,sl:=[(1,.val (.U aX) a1.2.1),(5,.box aF (ay aF) [] a1.2.2.1),(7,.own (.U aF) (aq (.U aF)) [] z)],vr:=[],av:=[] })
noncomputable def b0 (self:((List Key)×Int)->Option Out) (e0:(List Key)->Option Out) (a1:Arg) (J:(List Key)×Int):Option Out:=bif decide (J.2 < (a1.1.length:Int)) then (if 0<=J.2 then ((a1.1[J.2.toNat]?).bind fun aC=>if 0<=J.2 then ((a1.1[J.2.toNat]?).bind fun bU=>if J.1.length+[(aC.1,bU.2.1,())].length<=bm then (self (J.1++[(aC.1,bU.2.1,())],ae (J.2+(1:Int)))) else none) else none) else none) else e0 J.1
noncomputable abbrev B0 (_:Nat):=b0
theorem fA (k:Nat) (rec:RT Out) (K:KT Out) (a1:Arg) (J:(List Key)×Int):D.N k [1,1,0,1,0,0] (T0 a1 J) (c9 rec (bY [0,1,5,7,8] []) K)=b0 (S0 rec a1) (bg K a1) a1 J:=by kernel_rfl
noncomputable def T1 (a1:Arg) (bI:(List Key)×Int):St:={ n:=82,sl:=[(1,.val (.U aX) a1.2.1),(5,.box aF (ay aF) [] a1.2.2.1),(7,.own (.U aF) (aq (.U aF)) [] bI.1),(9,.val i64 bI.2)],vr:=[],av:=[] }
noncomputable def S1 (rec:RT Out) (a1:Arg):((List Key)×Int)->Option Out:=fun bI=>rec (T1 a1 bI)
noncomputable def dA (K:KT Out) (a1:Arg):(List Key)->Option Out:=fun z=>K (.exit 2) ({ n:=82,sl:=[(5,.box aF (ay aF) [] a1.2.2.1),(7,.own (.U aF) (aq (.U aF)) [] z)],vr:=[],av:=[] })
noncomputable def b1 (self:((List Key)×Int)->Option Out) (e2:(List Key)->Option Out) (a1:Arg) (bI:(List Key)×Int):Option Out:=bif decide (bI.2 < (a1.2.1.length:Int)) then (if 0<=bI.2 then ((a1.2.1[bI.2.toNat]?).bind fun tE=>if bI.1.length+tE.2.2.2.1.length<=bm then (self (bI.1++tE.2.2.2.1,ae (bI.2+(1:Int)))) else none) else none) else e2 bI.1
noncomputable abbrev B1 (_:Nat):=b1
theorem lR (k:Nat) (rec:RT Out) (K:KT Out) (a1:Arg) (bI:(List Key)×Int):D.N k [1,1,1,0,1,0,0] (T1 a1 bI) (c9 rec (bY [1,5,7,9] []) K)=b1 (S1 rec a1) (dA K a1) a1 bI:=by kernel_rfl
noncomputable def T2 (a1:Arg) (iT:(List Key)×Int×Int):St:={ n:=82,sl:=[(7,.own (.U aF) (aq (.U aF)) [] iT.1),(10,.val i64 iT.2.1),(11,.val i64 iT.2.2)],vr:=[],av:=[] }
noncomputable def S2 (rec:RT Out) (a1:Arg):((List Key)×Int×Int)->Option Out:=fun iT=>rec (T2 a1 iT)
noncomputable def zx (K:KT Out) (a1:Arg):Int->Option Out:=fun z=>K (.exit 4) ({ n:=82,sl:=[(10,.val i64 z)],vr:=[],av:=[] })
noncomputable def T3 (a1:Arg) (lk:List Key) (nE:Int) (ll:Int) (lT:Bool×Int):St:={ n:=82,sl:=[(7,.own (.U aF) (aq (.U aF)) [] lk),(10,.val i64 nE),(11,.val i64 ll),(12,.val .bool lT.1),(13,.val i64 lT.2)],vr:=[],av:=[] }
noncomputable def b3 (self:(Bool×Int)->Option Out) (e6:Bool->Option Out) (a1:Arg) (lk:List Key) (nE:Int) (ll:Int) (lT:Bool×Int):Option Out:=bif decide (lT.2 < ll) then (bif lT.1 then (if 0<=lT.2/\lT.2 < (lk.length:Int) then ((lk[lT.2.toNat]?).bind fun OE=>if 0<=ll/\ll < (lk.length:Int) then ((lk[ll.toNat]?).bind fun OF=>self (!(Ty.eq aF OE OF),ae (lT.2+(1:Int)))) else none) else none) else e6 lT.1) else e6 lT.1
noncomputable abbrev B3 (_:Nat):=b3
noncomputable def q2 (self:((List Key)×Int×Int)->Option Out) (e4:Int->Option Out) (a1:Arg) (lk:List Key) (nE:Int) (ll:Int) (OG:Bool):Option Out:=bif OG then (self (lk,ae (nE+(1:Int)),ae (ll+(1:Int)))) else self (lk,nE,ae (ll+(1:Int)))
noncomputable abbrev Q2 (_:Nat):=q2
noncomputable def s3 (k:Nat) (rec:RT Out) (K:KT Out) (a1:Arg):(List Key)->Int->Int->(Bool×Int)->Option Out:=fun lk nE ll=>fun lT=>D.L k [1,1,1,1,1,1,0,1,0,0,1,0,0,1,0,1,0,0] [7,10,11,12,13] [] (af 6 (an (D.N k [1,1,1,1,1,1,0,1,0,0,1,0,0,1,1]) (af 5 (an (D.N k [1,1,1,1,1,1,0,1,0,0,1,1]) (c9 rec (bY [7,10,11] []) K))))) (T3 a1 lk nE ll lT)
noncomputable def r3 (k:Nat) (self:((List Key)×Int×Int)->Option Out) (e4:Int->Option Out) (a1:Arg):(List Key)->Int->Int->(Bool×Int)->Option Out:=fun lk nE ll=>al (fun w v=>B3 k w (Q2 k self e4 a1 lk nE ll) a1 lk nE ll v) k
theorem Gd (k:Nat) (rec:RT Out) (K:KT Out) (a1:Arg):s3 k rec K a1=r3 k (S2 rec a1) (zx K a1) a1:=
 funext fun lk=>funext fun nE=>funext fun ll=>funext fun lT=>am _ _ _ (T3 a1 lk nE ll) _ (fun rec v=>by kernel_rfl) k lT
noncomputable def b2 (self:((List Key)×Int×Int)->Option Out) (e4:Int->Option Out) (l3:(List Key)->Int->Int->(Bool×Int)->Option Out) (a1:Arg) (iT:(List Key)×Int×Int):Option Out:=bif decide (iT.2.2 < (iT.1.length:Int)) then (l3 iT.1 iT.2.1 iT.2.2 (true,(0:Int))) else e4 iT.2.1
noncomputable def B2 (k:Nat) (self:((List Key)×Int×Int)->Option Out) (e4:Int->Option Out) (a1:Arg) (iT:(List Key)×Int×Int):Option Out:=b2 self e4 (r3 k self e4 a1) a1 iT
theorem Ge (k:Nat) (rec:RT Out) (K:KT Out) (a1:Arg) (iT:(List Key)×Int×Int):D.N k [1,1,1,1,1,1,0,1,0,0] (T2 a1 iT) (c9 rec (bY [7,10,11] []) K)=B2 k (S2 rec a1) (zx K a1) a1 iT:=
 Eq.trans (b:=b2 (S2 rec a1) (zx K a1) (s3 k rec K a1) a1 iT) (by kernel_rfl) (by rw[Gd];rfl)
noncomputable def q3 (a1:Arg) (A6:Int):Option Out:=some (A6,())
noncomputable abbrev Q3 (_:Nat):=q3
theorem Gf (k:Nat) (a1:Arg) (A6:Int):zx (af 4 (an (D.N k [1,1,1,1,1,1,1]) D.K0)) a1 A6=q3 a1 A6:=by kernel_rfl
noncomputable def s2 (k:Nat) (a1:Arg):((List Key)×Int×Int)->Option Out:=fun iT=>D.L k [1,1,1,1,1,1,0,1,0,0] [7,10,11] [] (af 4 (an (D.N k [1,1,1,1,1,1,1]) D.K0)) (T2 a1 iT)
noncomputable def r2 (k:Nat) (a1:Arg):((List Key)×Int×Int)->Option Out:=al (fun w v=>B2 k w (Q3 k a1) a1 v) k
theorem kO (k:Nat) (a1:Arg):s2 k a1=r2 k a1:=by
 funext iT;
 have h4:zx (af 4 (an (D.N k [1,1,1,1,1,1,1]) D.K0)) a1=Q3 k a1:=funext fun z=>Gf k a1 z
 refine (am _ _ _ (T2 a1) (fun self v=>B2 k self (zx (af 4 (an (D.N k [1,1,1,1,1,1,1]) D.K0)) a1) a1 v) (fun rec v=>Ge k rec (af 4 (an (D.N k [1,1,1,1,1,1,1]) D.K0)) a1 v) k iT).trans ?_
 rw[h4]
 rfl
noncomputable def q1 (l2:((List Key)×Int×Int)->Option Out) (a1:Arg) (ql:(List Key)):Option Out:=let Lm:=fun (OH:List Key)=>(l2 (OH,(0:Int),(0:Int)):Option Out);bif !decide (a1.2.2.1.2.1=(0:Int)) then (if ql.length+[a1.2.2.1].length<=bm then (Lm (ql++[a1.2.2.1])) else none) else Lm ql
noncomputable def Q1 (k:Nat) (a1:Arg) (ql:(List Key)):Option Out:=q1 (r2 k a1) a1 ql
theorem lS (k:Nat) (a1:Arg) (ql:(List Key)):dA (af 2 (an (D.N k [1,1,1,1]) D.K0)) a1 ql=Q1 k a1 ql:=
 Eq.trans (b:=q1 (s2 k a1) a1 ql) (by kernel_rfl) (by rw[kO];rfl)
noncomputable def s1 (k:Nat) (a1:Arg):((List Key)×Int)->Option Out:=fun bI=>D.L k [1,1,1,0,1,0,0] [1,5,7,9] [] (af 2 (an (D.N k [1,1,1,1]) D.K0)) (T1 a1 bI)
noncomputable def r1 (k:Nat) (a1:Arg):((List Key)×Int)->Option Out:=al (fun w v=>B1 k w (Q1 k a1) a1 v) k
theorem fB (k:Nat) (a1:Arg):s1 k a1=r1 k a1:=by
 funext bI;
 have Y:dA (af 2 (an (D.N k [1,1,1,1]) D.K0)) a1=Q1 k a1:=funext fun z=>lS k a1 z
 refine (am _ _ _ (T1 a1) (fun self v=>B1 k self (dA (af 2 (an (D.N k [1,1,1,1]) D.K0)) a1) a1 v) (fun rec v=>lR k rec (af 2 (an (D.N k [1,1,1,1]) D.K0)) a1 v) k bI).trans ?_
 rw[Y]
 rfl
noncomputable def q0 (l1:((List Key)×Int)->Option Out) (a1:Arg) (bG:(List Key)):Option Out:=l1 (bG,(0:Int))
noncomputable def Q0 (k:Nat) (a1:Arg) (bG:(List Key)):Option Out:=q0 (r1 k a1) a1 bG
theorem jS (k:Nat) (a1:Arg) (bG:(List Key)):bg (af 0 (an (D.N k [1,1,1]) D.K0)) a1 bG=Q0 k a1 bG:=
 Eq.trans (b:=q0 (s1 k a1) a1 bG) (by kernel_rfl) (by rw[fB];rfl)
noncomputable def s0 (k:Nat) (a1:Arg):((List Key)×Int)->Option Out:=fun J=>D.L k [1,1,0,1,0,0] [0,1,5,7,8] [] (af 0 (an (D.N k [1,1,1]) D.K0)) (T0 a1 J)
noncomputable def r0 (k:Nat) (a1:Arg):((List Key)×Int)->Option Out:=al (fun w v=>B0 k w (Q0 k a1) a1 v) k
theorem ap (k:Nat) (a1:Arg):s0 k a1=r0 k a1:=by
 funext J;
 have h0:bg (af 0 (an (D.N k [1,1,1]) D.K0)) a1=Q0 k a1:=funext fun z=>jS k a1 z
 refine (am _ _ _ (T0 a1) (fun self v=>B0 k self (bg (af 0 (an (D.N k [1,1,1]) D.K0)) a1) a1 v) (fun rec v=>fA k rec (af 0 (an (D.N k [1,1,1]) D.K0)) a1 v) k J).trans ?_
 rw[h0]
 rfl
noncomputable def p (l0:((List Key)×Int)->Option Out) (a1:Arg):Option Out:=l0 (([]:List Key),(0:Int))
theorem aa (k:Nat) (a1:Arg):@Eq (Option Out) (D.W k a1) (p (r0 k a1) a1):=
 Eq.trans (b:=p (s0 k a1) a1) (by kernel_rfl) (by rw[ap])
theorem ok:Ok prog 143 D.sig:=ao func143 aB (by kernel_rfl) (ak _)
end aO
namespace fK
abbrev Arg:Type:=Plain×Unit
abbrev Out:Type:=Int×Unit
abbrev ps:PQ:=[(.ro,(.ptr dI))]
noncomputable def D:FD:={ fn:=f72,tl:=aK,ps:=ps,rs:=[(i64,(ay i64))],gl:=[(112,fb.D.sig),(118,aT.D.sig),(141,ej.D.sig),(142,c6.D.sig),(143,aO.D.sig)],od:=[(8,[0,1,2,3,4,5,6,7,8,9,10,11,12,13,14,15,16,17,18,19,20,21,22,23,24,25]),(10,[0,1,2,3,4,5,6,7,8,9,10]),(12,[0,1,2,3,4,5,6,7,8,9,10,11,12,13])],ar:=[(8,[3,13,18,22])] }
noncomputable def ab (a:Arg):Option Out:=@lift Out fun k=>D.W k a
noncomputable def p (a1:Arg):Option Out:=(ej.ab (a1.1.1,())).bind fun r2=>bif !decide (r2.1=(0:Int)) then (some (r2.1,())) else (c6.ab (a1.1.2.1,())).bind fun r3=>bif !decide (r3.1=(0:Int)) then (some (r3.1,())) else let j8:Option Out:=(aO.ab (a1.1.1,a1.1.2.1,((0:Int),(0:Int),()),())).bind fun r9=>bif decide ((12:Int) < r9.1) then (some ((2:Int),())) else (fb.ab (a1.1.1,a1.1.2.1,())).bind fun CD=>bif !CD.2.1 then (some ((8:Int),())) else some ((0:Int),());(aT.ab (a1.1.2.2.1,(1:Int),(100:Int),())).bind fun r4=>bif !r4.1 then (some ((3:Int),())) else bif decide ((0:Int) < (a1.1.2.1.length:Int)) then (if 0<=ae ((a1.1.2.1.length:Int) - (1:Int)) then ((a1.1.2.1[(ae ((a1.1.2.1.length:Int) - (1:Int))).toNat]?).bind fun x5=>bif decide (a1.1.2.2.1<=x5.1) then (some ((3:Int),())) else j8) else none) else j8
theorem aa (k:Nat) (a1:Arg):@Eq (Option Out) (D.W k a1) (p a1):=by kernel_rfl
theorem ok:Ok prog 72 D.sig:=ao func72 aB (by kernel_rfl) (fc fb.ok (fc aT.ok (fc ej.ok (fc c6.ok (fc aO.ok (ak _))))))
end fK
namespace dh
abbrev Arg:Type:=(List UInt8)×Unit
abbrev Out:Type:=Int×Unit
abbrev ps:PQ:=[(.ro,(.U u8))]
noncomputable def D:FD:={ fn:=f255,tl:=aK,ps:=ps,rs:=[(i64,(ay i64))] }
noncomputable def ab (a:Arg):Option Out:=@lift Out fun k=>D.W k a
noncomputable def p (a1:Arg):Option Out:=(a1.1[0]?).bind fun x2=>some (ae (x2.toNat:Int),())
theorem aa (k:Nat) (a1:Arg):@Eq (Option Out) (D.W k a1) (p a1):=by kernel_rfl
theorem ok:Ok prog 255 D.sig:=ao func255 aB (by kernel_rfl) (ak _)
end dh
namespace bv
abbrev Arg:Type:=(List UInt8)×Int×Unit
abbrev Out:Type:=Int×Unit
abbrev ps:PQ:=[(.ro,(.U u8)),(.ro,i64)]
noncomputable def D:FD:={ fn:=f256,tl:=aK,ps:=ps,rs:=[(i64,(ay i64))] }
noncomputable def ab (a:Arg):Option Out:=@lift Out fun k=>D.W k a
noncomputable def p (a1:Arg):Option Out:=if 0<=ae ((3:Int)+(ae ((2:Int)*a1.2.1))) then ((a1.1[(ae ((3:Int)+(ae ((2:Int)*a1.2.1)))).toNat]?).bind fun x2=>some (ae (x2.toNat:Int),())) else none
theorem aa (k:Nat) (a1:Arg):@Eq (Option Out) (D.W k a1) (p a1):=by kernel_rfl
theorem ok:Ok prog 256 D.sig:=ao func256 aB (by kernel_rfl) (ak _)
end bv
namespace jp
abbrev Arg:Type:=Int×Int×Unit
abbrev Out:Type:=Bool×Unit
abbrev ps:PQ:=[(.ro,i64),(.ro,i64)]
noncomputable def D:FD:={ fn:=f298,tl:=aK,ps:=ps,rs:=[(.bool,(ay .bool))],gl:=[(118,aT.D.sig)] }
noncomputable def ab (a:Arg):Option Out:=@lift Out fun k=>D.W k a
noncomputable def p (a1:Arg):Option Out:=(aT.ab (a1.1,(0:Int),(11:Int),())).bind fun r2=>bif r2.1 then ((aT.ab (a1.2.1,(0:Int),(15:Int),())).bind fun r3=>some (r3.1,())) else some (false,())
theorem aa (k:Nat) (a1:Arg):@Eq (Option Out) (D.W k a1) (p a1):=by kernel_rfl
theorem ok:Ok prog 298 D.sig:=ao func298 aB (by kernel_rfl) (fc aT.ok (ak _))
end jp
namespace fk
abbrev Arg:Type:=(List UInt8)×Unit
abbrev Out:Type:=kM×Bool×Unit
abbrev ps:PQ:=[(.ro,(.U u8))]
noncomputable def D:FD:={ fn:=f257,tl:=aK,ps:=ps,rs:=[(j9,(ay j9)),(.bool,(ay .bool))],gl:=[(213,dg.D.sig),(298,jp.D.sig)],od:=[(2,[0,1,2,3,4,5,6,7,8,9,10]),(3,[0,1,2,3,4,5,6,7]),(6,[0,1,2,3,4,5,6,7,8,9,10,11,12,13,14,15,16,17,18,19,20,21,22,23]),(7,[0,1,2,3,4,5,6,7,8,9])] }
noncomputable def ab (a:Arg):Option Out:=@lift Out fun k=>D.W k a
noncomputable def p (a1:Arg):Option Out:=let PN:Option Out:=bif decide ((a1.1.length:Int) < (6:Int)) then (some (((0:Int),(0:Int),(0:Int),(0:Int),((0:Int),(0:Int),(0:Int),([]:List UInt8),()),()),false,())) else (a1.1[0]?).bind fun Sv=>bif decide ((Sv.toNat:Int)=(1:Int)) then (some (((0:Int),(0:Int),(0:Int),(0:Int),((0:Int),(0:Int),(0:Int),([]:List UInt8),()),()),false,())) else (a1.1[0]?).bind fun Sw=>bif decide ((2:Int) < (Sw.toNat:Int)) then (some (((0:Int),(0:Int),(0:Int),(0:Int),((0:Int),(0:Int),(0:Int),([]:List UInt8),()),()),false,())) else (a1.1[5]?).bind fun Sx=>bif !decide ((a1.1.length:Int)=ae ((6:Int)+(ae (Sx.toNat:Int)))) then (some (((0:Int),(0:Int),(0:Int),(0:Int),((0:Int),(0:Int),(0:Int),([]:List UInt8),()),()),false,())) else (a1.1[1]?).bind fun PO=>(a1.1[2]?).bind fun PP=>(a1.1[3]?).bind fun Sy=>(a1.1[4]?).bind fun CE=>if 0<=(6:Int)/\(6:Int)<=(a1.1.length:Int) then (let PR:=ae ((ae ((ae (Sy.toNat:Int))*(256:Int)))+(ae (CE.toNat:Int)));(a1.1[0]?).bind fun Sz=>(dg.ab ((ae (PO.toNat:Int),ae (PP.toNat:Int),PR,(a1.1.take a1.1.length).drop 6,()),())).bind fun SA=>some (((0:Int),ae (Sz.toNat:Int),(0:Int),(0:Int),(ae (PO.toNat:Int),ae (PP.toNat:Int),PR,(a1.1.take a1.1.length).drop 6,()),()),decide (SA.1=(0:Int)),())) else none;bif decide ((a1.1.length:Int)=(3:Int)) then ((a1.1[0]?).bind fun x2=>bif decide ((x2.toNat:Int)=(1:Int)) then ((a1.1[1]?).bind fun x3=>(a1.1[2]?).bind fun x4=>(jp.ab (ae (x3.toNat:Int),ae (x4.toNat:Int),())).bind fun r5=>some (((0:Int),(1:Int),ae (x3.toNat:Int),ae (x4.toNat:Int),((0:Int),(0:Int),(0:Int),([]:List UInt8),()),()),r5.1,())) else PN) else PN
theorem aa (k:Nat) (a1:Arg):@Eq (Option Out) (D.W k a1) (p a1):=by kernel_rfl
theorem ok:Ok prog 257 D.sig:=ao func257 aB (by kernel_rfl) (fc dg.ok (fc jp.ok (ak _)))
end fk
namespace di
abbrev Arg:Type:=(List UInt8)×Int×Unit
abbrev Out:Type:=Int×Unit
abbrev ps:PQ:=[(.ro,(.U u8)),(.ro,i64)]
noncomputable def D:FD:={ fn:=f299,tl:=aK,ps:=ps,rs:=[(i64,(ay i64))] }
noncomputable def ab (a:Arg):Option Out:=@lift Out fun k=>D.W k a
noncomputable def p (a1:Arg):Option Out:=if 0<=ae ((2:Int)+(ae ((2:Int)*a1.2.1))) then ((a1.1[(ae ((2:Int)+(ae ((2:Int)*a1.2.1)))).toNat]?).bind fun x2=>some (ae (x2.toNat:Int),())) else none
theorem aa (k:Nat) (a1:Arg):@Eq (Option Out) (D.W k a1) (p a1):=by kernel_rfl
theorem ok:Ok prog 299 D.sig:=ao func299 aB (by kernel_rfl) (ak _)
end di
namespace fl
abbrev Arg:Type:=(List UInt8)×Int×Unit
abbrev Out:Type:=(List UInt8)×Unit
abbrev ps:PQ:=[(.ro,(.U u8)),(.ro,i64)]
noncomputable def D:FD:={ fn:=f258,tl:=aK,ps:=ps,rs:=[((.U u8),(aq (.U u8)))],gl:=[(256,bv.D.sig),(299,di.D.sig)] }
noncomputable def ab (a:Arg):Option Out:=@lift Out fun k=>D.W k a
noncomputable def p (a1:Arg):Option Out:=(di.ab (a1.1,a1.2.1,())).bind fun r2=>(bv.ab (a1.1,a1.2.1,())).bind fun r3=>if 0<=r2.1/\r2.1<=ae (r2.1+r3.1)/\ae (r2.1+r3.1)<=(a1.1.length:Int) then (if ([]:List UInt8).length+((a1.1.take (ae (r2.1+r3.1)).toNat).drop r2.1.toNat).length<=bm then (let y4:=([]:List UInt8)++((a1.1.take (ae (r2.1+r3.1)).toNat).drop r2.1.toNat);some (y4,())) else none) else none
theorem aa (k:Nat) (a1:Arg):@Eq (Option Out) (D.W k a1) (p a1):=by kernel_rfl
theorem ok:Ok prog 258 D.sig:=ao func258 aB (by kernel_rfl) (fc bv.ok (fc di.ok (ak _)))
end fl
namespace bJ
abbrev Arg:Type:=(List (List UInt8))×Unit
abbrev Out:Type:=(List ax)×Unit
abbrev ps:PQ:=[(.ro,(.U (.U u8)))]
noncomputable def D:FD:={ fn:=f192,tl:=aK,ps:=ps,rs:=[((.U dR),(aq (.U dR)))],gl:=[(255,dh.D.sig),(256,bv.D.sig),(257,fk.D.sig),(258,fl.D.sig)],lv:=[(3,[0,3,4]),(6,[0,3,4,5])],lx:=[(0,[3]),(2,[0,3,4])] }
noncomputable def ab (a:Arg):Option Out:=@lift Out fun k=>D.W k a
noncomputable def T0 (a1:Arg) (J:(List (List UInt8))×(List ax)×Int):St:={ n:=49,sl:=[(0,.val (.U (.U u8)) J.1),(3,.own (.U dR) (aq (.U dR)) [] J.2.1),(4,.val i64 J.2.2)],vr:=[],av:=[] }
noncomputable def S0 (rec:RT Out) (a1:Arg):((List (List UInt8))×(List ax)×Int)->Option Out:=fun J=>rec (T0 a1 J)
noncomputable def bg (K:KT Out) (a1:Arg):(List ax)->Option Out:=fun z=>K (.exit 0) ({ n:=49,sl:=[(3,.own (.U dR) (aq (.U dR)) [] z)],vr:=[],av:=[] })
noncomputable def T1 (a1:Arg) (fO:List (List UInt8)) (eb:Int) (fW:(List ax)×Int):St:={ n:=49,sl:=[(0,.val (.U (.U u8)) fO),(3,.own (.U dR) (aq (.U dR)) [] fW.1),(4,.val i64 eb),(5,.val i64 fW.2)],vr:=[],av:=[] }
noncomputable def b1 (self:((List ax)×Int)->Option Out) (e2:(List ax)->Option Out) (a1:Arg) (fO:List (List UInt8)) (eb:Int) (fW:(List ax)×Int):Option Out:=if 0<=eb then ((fO[eb.toNat]?).bind fun Gb=>(dh.ab (Gb,())).bind fun OI=>bif decide (fW.2 < OI.1) then (if 0<=eb then ((fO[eb.toNat]?).bind fun tF=>(bv.ab (tF,fW.2,())).bind fun Gg=>bif decide ((0:Int) < Gg.1) then (if 0<=eb then ((fO[eb.toNat]?).bind fun yq=>(fl.ab (yq,fW.2,())).bind fun yr=>(fk.ab (yr.1,())).bind fun A7=>if fW.1.length+[(eb,fW.2,A7.1,())].length<=bm then (let Gh:=fW.1++[(eb,fW.2,A7.1,())];self (Gh,ae (fW.2+(1:Int)))) else none) else none) else self (fW.1,ae (fW.2+(1:Int)))) else none) else e2 fW.1) else none
noncomputable abbrev B1 (_:Nat):=b1
noncomputable def q0 (self:((List (List UInt8))×(List ax)×Int)->Option Out) (e0:(List ax)->Option Out) (a1:Arg) (fO:List (List UInt8)) (eb:Int) (Ln:(List ax)):Option Out:=self (fO,Ln,ae (eb+(1:Int)))
noncomputable abbrev Q0 (_:Nat):=q0
noncomputable def s1 (k:Nat) (rec:RT Out) (K:KT Out) (a1:Arg):(List (List UInt8))->Int->((List ax)×Int)->Option Out:=fun fO eb=>fun fW=>D.L k [1,1,0,1,0,0,1,0,0,1,0,0] [0,3,4,5] [] (af 2 (af 1 (an (D.N k [1,1,0,1,0,0,1,1]) (c9 rec (bY [0,3,4] []) K)))) (T1 a1 fO eb fW)
noncomputable def r1 (k:Nat) (self:((List (List UInt8))×(List ax)×Int)->Option Out) (e0:(List ax)->Option Out) (a1:Arg):(List (List UInt8))->Int->((List ax)×Int)->Option Out:=fun fO eb=>al (fun w v=>B1 k w (Q0 k self e0 a1 fO eb) a1 fO eb v) k
theorem fB (k:Nat) (rec:RT Out) (K:KT Out) (a1:Arg):s1 k rec K a1=r1 k (S0 rec a1) (bg K a1) a1:=
 funext fun fO=>funext fun eb=>funext fun fW=>am _ _ _ (T1 a1 fO eb) _ (fun rec v=>by kernel_rfl) k fW
noncomputable def b0 (self:((List (List UInt8))×(List ax)×Int)->Option Out) (e0:(List ax)->Option Out) (l1:(List (List UInt8))->Int->((List ax)×Int)->Option Out) (a1:Arg) (J:(List (List UInt8))×(List ax)×Int):Option Out:=bif decide (J.2.2 < (J.1.length:Int)) then (l1 J.1 J.2.2 (J.2.1,(0:Int))) else e0 J.2.1
noncomputable def B0 (k:Nat) (self:((List (List UInt8))×(List ax)×Int)->Option Out) (e0:(List ax)->Option Out) (a1:Arg) (J:(List (List UInt8))×(List ax)×Int):Option Out:=b0 self e0 (r1 k self e0 a1) a1 J
theorem fA (k:Nat) (rec:RT Out) (K:KT Out) (a1:Arg) (J:(List (List UInt8))×(List ax)×Int):D.N k [1,1,0,1,0,0] (T0 a1 J) (c9 rec (bY [0,3,4] []) K)=B0 k (S0 rec a1) (bg K a1) a1 J:=
 Eq.trans (b:=b0 (S0 rec a1) (bg K a1) (s1 k rec K a1) a1 J) (by kernel_rfl) (by rw[fB];rfl)
noncomputable def q1 (a1:Arg) (qm:(List ax)):Option Out:=some (qm,())
noncomputable abbrev Q1 (_:Nat):=q1
theorem lS (k:Nat) (a1:Arg) (qm:(List ax)):bg (af 0 (an (D.N k [1,1,1]) D.K0)) a1 qm=q1 a1 qm:=by kernel_rfl
noncomputable def s0 (k:Nat) (a1:Arg):((List (List UInt8))×(List ax)×Int)->Option Out:=fun J=>D.L k [1,1,0,1,0,0] [0,3,4] [] (af 0 (an (D.N k [1,1,1]) D.K0)) (T0 a1 J)
noncomputable def r0 (k:Nat) (a1:Arg):((List (List UInt8))×(List ax)×Int)->Option Out:=al (fun w v=>B0 k w (Q1 k a1) a1 v) k
theorem ap (k:Nat) (a1:Arg):s0 k a1=r0 k a1:=by
 funext J;
 have h0:bg (af 0 (an (D.N k [1,1,1]) D.K0)) a1=Q1 k a1:=funext fun z=>lS k a1 z
 refine (am _ _ _ (T0 a1) (fun self v=>B0 k self (bg (af 0 (an (D.N k [1,1,1]) D.K0)) a1) a1 v) (fun rec v=>fA k rec (af 0 (an (D.N k [1,1,1]) D.K0)) a1 v) k J).trans ?_
 rw[h0]
 rfl
noncomputable def p (l0:((List (List UInt8))×(List ax)×Int)->Option Out) (a1:Arg):Option Out:=l0 (a1.1,([]:List ax),(0:Int))
theorem aa (k:Nat) (a1:Arg):@Eq (Option Out) (D.W k a1) (p (r0 k a1) a1):=
 Eq.trans (b:=p (s0 k a1) a1) (by kernel_rfl) (by rw[ap])
theorem ok:Ok prog 192 D.sig:=ao func192 aB (by kernel_rfl) (fc dh.ok (fc bv.ok (fc fk.ok (fc fl.ok (ak _)))))
end bJ
namespace kP
abbrev Arg:Type:=(List UInt8)×Int×Unit
abbrev Out:Type:=Bool×Unit
abbrev ps:PQ:=[(.ro,(.U u8)),(.ro,i64)]
noncomputable def D:FD:={ fn:=f278,tl:=aK,ps:=ps,rs:=[(.bool,(ay .bool))],gl:=[(118,aT.D.sig),(255,dh.D.sig),(256,bv.D.sig)] }
noncomputable def ab (a:Arg):Option Out:=@lift Out fun k=>D.W k a
noncomputable def p (a1:Arg):Option Out:=(dh.ab (a1.1,())).bind fun r2=>(aT.ab (a1.2.1,(0:Int),ae (r2.1 - (1:Int)),())).bind fun r3=>bif r3.1 then ((bv.ab (a1.1,a1.2.1,())).bind fun r4=>some (decide ((0:Int) < r4.1),())) else some (false,())
theorem aa (k:Nat) (a1:Arg):@Eq (Option Out) (D.W k a1) (p a1):=by kernel_rfl
theorem ok:Ok prog 278 D.sig:=ao func278 aB (by kernel_rfl) (fc aT.ok (fc dh.ok (fc bv.ok (ak _))))
end kP
namespace fP
abbrev Arg:Type:=(List (List UInt8))×Int×Int×Unit
abbrev Out:Type:=kM×Bool×Unit
abbrev ps:PQ:=[(.ro,(.U (.U u8))),(.ro,i64),(.ro,i64)]
noncomputable def D:FD:={ fn:=f219,tl:=aK,ps:=ps,rs:=[(j9,(ay j9)),(.bool,(ay .bool))],gl:=[(118,aT.D.sig),(257,fk.D.sig),(258,fl.D.sig),(278,kP.D.sig)] }
noncomputable def ab (a:Arg):Option Out:=@lift Out fun k=>D.W k a
noncomputable def p (a1:Arg):Option Out:=(aT.ab (a1.2.1,(0:Int),ae ((a1.1.length:Int) - (1:Int)),())).bind fun r2=>bif !r2.1 then (some (((0:Int),(0:Int),(0:Int),(0:Int),((0:Int),(0:Int),(0:Int),([]:List UInt8),()),()),false,())) else if 0<=a1.2.1 then ((a1.1[a1.2.1.toNat]?).bind fun x3=>(kP.ab (x3,a1.2.2.1,())).bind fun r4=>bif !r4.1 then (some (((0:Int),(0:Int),(0:Int),(0:Int),((0:Int),(0:Int),(0:Int),([]:List UInt8),()),()),false,())) else if 0<=a1.2.1 then ((a1.1[a1.2.1.toNat]?).bind fun x5=>(fl.ab (x5,a1.2.2.1,())).bind fun r6=>(fk.ab (r6.1,())).bind fun r7=>some (r7.1,r7.2.1,())) else none) else none
theorem aa (k:Nat) (a1:Arg):@Eq (Option Out) (D.W k a1) (p a1):=by kernel_rfl
theorem ok:Ok prog 219 D.sig:=ao func219 aB (by kernel_rfl) (fc aT.ok (fc fk.ok (fc fl.ok (fc kP.ok (ak _)))))
end fP
namespace ek
abbrev Arg:Type:=(List (List UInt8))×Unit
abbrev Out:Type:=(List ax)×Unit
abbrev ps:PQ:=[(.ro,(.U (.U u8)))]
noncomputable def D:FD:={ fn:=f145,tl:=aK,ps:=ps,rs:=[((.U dR),(aq (.U dR)))],gl:=[(192,bJ.D.sig),(219,fP.D.sig)],lv:=[(4,[0,3,4,5])],lx:=[(0,[3]),(1,[0,3,4,5])] }
noncomputable def ab (a:Arg):Option Out:=@lift Out fun k=>D.W k a
noncomputable def T0 (a1:Arg) (fa:List ax) (aN:(List ax)×Int):St:={ n:=50,sl:=[(0,.val (.U (.U u8)) a1.1),(3,.own (.U dR) (aq (.U dR)) [] aN.1),(4,.own (.U dR) (aq (.U dR)) [] fa),(5,.val i64 aN.2)],vr:=[],av:=[] }
noncomputable def b0 (self:((List ax)×Int)->Option Out) (e0:(List ax)->Option Out) (a1:Arg) (fa:List ax) (aN:(List ax)×Int):Option Out:=bif decide (aN.2 < (fa.length:Int)) then (if 0<=aN.2/\aN.2 < (fa.length:Int) then ((fa[aN.2.toNat]?).bind fun db=>bif decide (db.2.2.1.2.1=(2:Int)) then (self (aN.1,ae (aN.2+(1:Int)))) else let CC:=fun (NJ:ax)=>(if aN.1.length+[NJ].length<=bm then (self (aN.1++[NJ],ae (aN.2+(1:Int)))) else none:Option Out);bif decide (db.2.2.1.2.1=(1:Int)) then ((fP.ab (a1.1,db.2.2.1.2.2.1,db.2.2.1.2.2.2.1,())).bind fun lC=>CC (db.1,db.2.1,(db.2.2.1.1,db.2.2.1.2.1,db.2.2.1.2.2.1,db.2.2.1.2.2.2.1,lC.1.2.2.2.2.1,db.2.2.1.2.2.2.2.2),db.2.2.2)) else CC db) else none) else e0 aN.1
noncomputable abbrev B0 (_:Nat):=b0
noncomputable def q0 (a1:Arg) (fa:List ax) (QE:(List ax)):Option Out:=some (QE,())
noncomputable abbrev Q0 (_:Nat):=q0
noncomputable def s0 (k:Nat) (a1:Arg):(List ax)->((List ax)×Int)->Option Out:=fun fa=>fun aN=>D.L k [1,1,1,0,1,0,0] [0,3,4,5] [] (af 0 (an (D.N k [1,1,1,1]) D.K0)) (T0 a1 fa aN)
noncomputable def r0 (k:Nat) (a1:Arg):(List ax)->((List ax)×Int)->Option Out:=fun fa=>al (fun w v=>B0 k w (Q0 k a1 fa) a1 fa v) k
theorem ap (k:Nat) (a1:Arg):s0 k a1=r0 k a1:=
 funext fun fa=>funext fun aN=>am _ _ _ (T0 a1 fa) _ (fun rec v=>by kernel_rfl) k aN
noncomputable def p (l0:(List ax)->((List ax)×Int)->Option Out) (a1:Arg):Option Out:=(bJ.ab (a1.1,())).bind fun r2=>l0 r2.1 (([]:List ax),(0:Int))
theorem aa (k:Nat) (a1:Arg):@Eq (Option Out) (D.W k a1) (p (r0 k a1) a1):=
 Eq.trans (b:=p (s0 k a1) a1) (by kernel_rfl) (by rw[ap])
theorem ok:Ok prog 145 D.sig:=ao func145 aB (by kernel_rfl) (fc bJ.ok (fc fP.ok (ak _)))
end ek
namespace c7
abbrev Arg:Type:=(List (List UInt8))×Unit
abbrev Out:Type:=(List Row)×Unit
abbrev ps:PQ:=[(.ro,(.U (.U u8)))]
noncomputable def D:FD:={ fn:=f75,tl:=aK,ps:=ps,rs:=[((.U aw),(aq (.U aw)))],gl:=[(145,ek.D.sig),(146,d_.D.sig)],lv:=[(4,[3,4,5])],lx:=[(0,[3])] }
noncomputable def ab (a:Arg):Option Out:=@lift Out fun k=>D.W k a
noncomputable def T0 (a1:Arg) (fa:List ax) (aN:(List Row)×Int):St:={ n:=24,sl:=[(3,.own (.U aw) (aq (.U aw)) [] aN.1),(4,.own (.U dR) (aq (.U dR)) [] fa),(5,.val i64 aN.2)],vr:=[],av:=[] }
noncomputable def b0 (self:((List Row)×Int)->Option Out) (e0:(List Row)->Option Out) (a1:Arg) (fa:List ax) (aN:(List Row)×Int):Option Out:=bif decide (aN.2 < (fa.length:Int)) then (if 0<=aN.2/\aN.2 < (fa.length:Int) then ((fa[aN.2.toNat]?).bind fun db=>(d_.ab (aN.1,db.2.2.1.2.2.2.2.1,())).bind fun lC=>self (lC.1,ae (aN.2+(1:Int)))) else none) else e0 aN.1
noncomputable abbrev B0 (_:Nat):=b0
noncomputable def q0 (a1:Arg) (fa:List ax) (gI:(List Row)):Option Out:=some (gI,())
noncomputable abbrev Q0 (_:Nat):=q0
noncomputable def s0 (k:Nat) (a1:Arg):(List ax)->((List Row)×Int)->Option Out:=fun fa=>fun aN=>D.L k [1,1,1,0,1,0,0] [3,4,5] [] (af 0 (an (D.N k [1,1,1,1]) D.K0)) (T0 a1 fa aN)
noncomputable def r0 (k:Nat) (a1:Arg):(List ax)->((List Row)×Int)->Option Out:=fun fa=>al (fun w v=>B0 k w (Q0 k a1 fa) a1 fa v) k
theorem ap (k:Nat) (a1:Arg):s0 k a1=r0 k a1:=
 funext fun fa=>funext fun aN=>am _ _ _ (T0 a1 fa) _ (fun rec v=>by kernel_rfl) k aN
noncomputable def p (l0:(List ax)->((List Row)×Int)->Option Out) (a1:Arg):Option Out:=(ek.ab (a1.1,())).bind fun r2=>l0 r2.1 (([]:List Row),(0:Int))
theorem aa (k:Nat) (a1:Arg):@Eq (Option Out) (D.W k a1) (p (r0 k a1) a1):=
 Eq.trans (b:=p (s0 k a1) a1) (by kernel_rfl) (by rw[ap])
theorem ok:Ok prog 75 D.sig:=ao func75 aB (by kernel_rfl) (fc ek.ok (fc d_.ok (ak _)))
end c7
namespace dw
abbrev Arg:Type:=(List UInt8)×Unit
abbrev Out:Type:=(List UInt8)×Unit
abbrev ps:PQ:=[(.ro,(.U u8))]
noncomputable def D:FD:={ fn:=f109,tl:=aK,ps:=ps,rs:=[((.U u8),(aq (.U u8)))] }
noncomputable def ab (a:Arg):Option Out:=@lift Out fun k=>D.W k a
noncomputable def p (a1:Arg):Option Out:=if ([]:List UInt8).length+a1.1.length<=bm then (some (([]:List UInt8)++a1.1,())) else none
theorem aa (k:Nat) (a1:Arg):@Eq (Option Out) (D.W k a1) (p a1):=by kernel_rfl
theorem ok:Ok prog 109 D.sig:=ao func109 aB (by kernel_rfl) (ak _)
end dw
namespace fm
abbrev Arg:Type:=(List UInt8)×Unit
abbrev Out:Type:=aL×Unit
abbrev ps:PQ:=[(.ro,(.U u8))]
noncomputable def D:FD:={ fn:=f226,tl:=aK,ps:=ps,rs:=[(bQ,(aq bQ))],gl:=[(109,dw.D.sig)],lv:=[(4,[0,2,3,4,5])],lx:=[(0,[2,3])],od:=[(1,[0,1,2,3,4,5,6,7,8,9,10,11,12,13,14]),(8,[0,1,2,3,4,5,6,7,8,9,10,11,12,13,14,15,16,17,18,19,20])] }
noncomputable def ab (a:Arg):Option Out:=@lift Out fun k=>D.W k a
noncomputable def T0 (a1:Arg) (cz:aL×Int×Int):St:={ n:=73,sl:=[(0,.val (.U u8) a1.1),(2,.box bQ (aq bQ) [] ((0:Int),(0:Int),(0:Int),([]:List cE),())),(3,.box bQ (aq bQ) [] cz.1),(4,.val i64 cz.2.1),(5,.val i64 cz.2.2)],vr:=[],av:=[] }
noncomputable def b0 (self:(aL×Int×Int)->Option Out) (e0:aL->Option Out) (a1:Arg) (cz:aL×Int×Int):Option Out:=(a1.1[4]?).bind fun oJ=>bif decide (cz.2.2 < ae (oJ.toNat:Int)) then (bif decide (ae (cz.2.1+(2:Int))<=(a1.1.length:Int)) then (if 0<=ae (cz.2.1+(1:Int)) then ((a1.1[(ae (cz.2.1+(1:Int))).toNat]?).bind fun tH=>bif decide ((a1.1.length:Int) < ae ((ae (cz.2.1+(2:Int)))+(ae (tH.toNat:Int)))) then (e0 cz.1) else if 0<=cz.2.1 then ((a1.1[cz.2.1.toNat]?).bind fun CF=>if 0<=ae (cz.2.1+(2:Int))/\ae (cz.2.1+(2:Int))<=ae ((ae (cz.2.1+(2:Int)))+(ae (tH.toNat:Int)))/\ae ((ae (cz.2.1+(2:Int)))+(ae (tH.toNat:Int)))<=(a1.1.length:Int) then ((dw.ab ((a1.1.take (ae ((ae (cz.2.1+(2:Int)))+(ae (tH.toNat:Int)))).toNat).drop (ae (cz.2.1+(2:Int))).toNat,())).bind fun pU=>if cz.1.2.2.2.1.length+[(ae (CF.toNat:Int),pU.1,())].length<=bm then (let QF:=cz.1.2.2.2.1++[(ae (CF.toNat:Int),pU.1,())];self ((cz.1.1,cz.1.2.1,cz.1.2.2.1,QF,cz.1.2.2.2.2),ae ((ae (cz.2.1+(2:Int)))+(ae (tH.toNat:Int))),ae (cz.2.2+(1:Int)))) else none) else none) else none) else none) else e0 cz.1) else e0 cz.1
noncomputable abbrev B0 (_:Nat):=b0
noncomputable def q0 (a1:Arg) (JW:aL):Option Out:=some (JW,())
noncomputable abbrev Q0 (_:Nat):=q0
noncomputable def s0 (k:Nat) (a1:Arg):(aL×Int×Int)->Option Out:=fun cz=>D.L k [1,1,1,0,1,0,0] [0,2,3,4,5] [] (af 0 (an (D.N k [1,1,1,1]) D.K0)) (T0 a1 cz)
noncomputable def r0 (k:Nat) (a1:Arg):(aL×Int×Int)->Option Out:=al (fun w v=>B0 k w (Q0 k a1) a1 v) k
theorem ap (k:Nat) (a1:Arg):s0 k a1=r0 k a1:=
 funext fun cz=>am _ _ _ (T0 a1) _ (fun rec v=>by kernel_rfl) k cz
noncomputable def p (l0:(aL×Int×Int)->Option Out) (a1:Arg):Option Out:=(a1.1[1]?).bind fun x2=>(a1.1[2]?).bind fun x3=>(a1.1[3]?).bind fun x4=>l0 ((ae (x2.toNat:Int),ae (x3.toNat:Int),ae (x4.toNat:Int),([]:List cE),()),(5:Int),(0:Int))
theorem aa (k:Nat) (a1:Arg):@Eq (Option Out) (D.W k a1) (p (r0 k a1) a1):=
 Eq.trans (b:=p (s0 k a1) a1) (by kernel_rfl) (by rw[ap])
theorem ok:Ok prog 226 D.sig:=ao func226 aB (by kernel_rfl) (fc dw.ok (ak _))
end fm
namespace gm
abbrev Arg:Type:=Int×Unit
abbrev Out:Type:=Bool×Unit
abbrev ps:PQ:=[(.ro,i64)]
noncomputable def D:FD:={ fn:=f260,tl:=aK,ps:=ps,rs:=[(.bool,(ay .bool))],gl:=[(118,aT.D.sig)] }
noncomputable def ab (a:Arg):Option Out:=@lift Out fun k=>D.W k a
noncomputable def p (a1:Arg):Option Out:=(aT.ab (a1.1,(2:Int),(4:Int),())).bind fun r2=>some (r2.1,())
theorem aa (k:Nat) (a1:Arg):@Eq (Option Out) (D.W k a1) (p a1):=by kernel_rfl
theorem ok:Ok prog 260 D.sig:=ao func260 aB (by kernel_rfl) (fc aT.ok (ak _))
end gm
namespace dJ
abbrev Arg:Type:=(List cE)×Unit
abbrev Out:Type:=Int×Unit
abbrev ps:PQ:=[(.ro,(.U pe))]
noncomputable def D:FD:={ fn:=f280,tl:=aK,ps:=ps,rs:=[(i64,(ay i64))],gl:=[(118,aT.D.sig)],lv:=[(4,[0,3])],lx:=[(0,[])],od:=[(9,[0,1,2,3,4,5,6,7,8,9,10,11,12,13,14,15,16,17,18,19,20,21,22,23])] }
noncomputable def ab (a:Arg):Option Out:=@lift Out fun k=>D.W k a
noncomputable def T0 (a1:Arg) (J:Int):St:={ n:=66,sl:=[(0,.val (.U pe) a1.1),(3,.val i64 J)],vr:=[],av:=[] }
noncomputable def b0 (self:Int->Option Out) (e0:(Unit)->Option Out) (a1:Arg) (J:Int):Option Out:=bif decide (J < (a1.1.length:Int)) then (if 0<=J then ((a1.1[J.toNat]?).bind fun aC=>if 0<=J then ((a1.1[J.toNat]?).bind fun bU=>(aT.ab (bU.1,(0:Int),(63:Int),())).bind fun gA=>bif !gA.1 then (some ((3:Int),())) else (aT.ab ((aC.2.1.length:Int),(1:Int),(64:Int),())).bind fun lC=>bif !lC.1 then (some ((3:Int),())) else if 0<=J then ((a1.1[J.toNat]?).bind fun tH=>bif decide ((64:Int) < ae (tH.1+(aC.2.1.length:Int))) then (some ((3:Int),())) else bif decide ((0:Int) < J) then (if 0<=J then ((a1.1[J.toNat]?).bind fun CF=>if 0<=ae (J - (1:Int)) then ((a1.1[(ae (J - (1:Int))).toNat]?).bind fun QG=>if 0<=ae (J - (1:Int)) then ((a1.1[(ae (J - (1:Int))).toNat]?).bind fun QH=>bif decide (CF.1<=ae (QG.1+(QH.2.1.length:Int))) then (some ((1:Int),())) else self (ae (J+(1:Int)))) else none) else none) else none) else self (ae (J+(1:Int)))) else none) else none) else none) else e0 ()
noncomputable abbrev B0 (_:Nat):=b0
noncomputable def q0 (a1:Arg) (JW:(Unit)):Option Out:=some ((0:Int),())
noncomputable abbrev Q0 (_:Nat):=q0
noncomputable def s0 (k:Nat) (a1:Arg):(Int)->Option Out:=fun J=>D.L k [1,1,0,1,0,0] [0,3] [] (af 0 (an (D.N k [1,1,1]) D.K0)) (T0 a1 J)
noncomputable def r0 (k:Nat) (a1:Arg):(Int)->Option Out:=al (fun w v=>B0 k w (Q0 k a1) a1 v) k
theorem ap (k:Nat) (a1:Arg):s0 k a1=r0 k a1:=
 funext fun J=>am _ _ _ (T0 a1) _ (fun rec v=>by kernel_rfl) k J
noncomputable def p (l0:(Int)->Option Out) (a1:Arg):Option Out:=bif decide ((64:Int) < (a1.1.length:Int)) then (some ((2:Int),())) else l0 (0:Int)
theorem aa (k:Nat) (a1:Arg):@Eq (Option Out) (D.W k a1) (p (r0 k a1) a1):=
 Eq.trans (b:=p (s0 k a1) a1) (by kernel_rfl) (by rw[ap])
theorem ok:Ok prog 280 D.sig:=ao func280 aB (by kernel_rfl) (fc aT.ok (ak _))
end dJ
namespace gf
abbrev Arg:Type:=aL×Unit
abbrev Out:Type:=Int×Unit
abbrev ps:PQ:=[(.ro,(.ptr bQ))]
noncomputable def D:FD:={ fn:=f227,tl:=aK,ps:=ps,rs:=[(i64,(ay i64))],gl:=[(118,aT.D.sig),(260,gm.D.sig),(280,dJ.D.sig)] }
noncomputable def ab (a:Arg):Option Out:=@lift Out fun k=>D.W k a
noncomputable def p (a1:Arg):Option Out:=let Lo:Option Out:=let PT:Option Out:=(gm.ab (a1.1.1,())).bind fun SB=>bif !SB.1 then (some ((0:Int),())) else (dJ.ab (a1.1.2.2.2.1,())).bind fun PU=>bif !decide (PU.1=(0:Int)) then (some (PU.1,())) else bif decide ((a1.1.2.2.2.1.length:Int)=(0:Int)) then (some ((1:Int),())) else bif decide (a1.1.1=(4:Int)) then ((a1.1.2.2.2.1[0]?).bind fun CE=>bif !decide ((CE.2.1.length:Int)=(64:Int)) then (some ((1:Int),())) else some ((0:Int),())) else some ((0:Int),());bif !decide (a1.1.1=(4:Int)) then ((aT.ab (a1.1.2.1,(1:Int),(99:Int),())).bind fun SC=>bif !SC.1 then (some ((3:Int),())) else (aT.ab (a1.1.2.2.1,(0:Int),(11:Int),())).bind fun SE=>bif !SE.1 then (some ((3:Int),())) else PT) else (aT.ab (a1.1.2.2.1,(0:Int),(11:Int),())).bind fun NK=>bif !NK.1 then (some ((3:Int),())) else PT;(aT.ab (a1.1.1,(1:Int),(6:Int),())).bind fun r2=>bif !r2.1 then (some ((1:Int),())) else (gm.ab (a1.1.1,())).bind fun r3=>bif !r3.1 then (bif !decide (a1.1.2.2.1=(0:Int)) then (some ((1:Int),())) else bif decide ((0:Int) < (a1.1.2.2.2.1.length:Int)) then (some ((1:Int),())) else bif decide (a1.1.1=(4:Int)) then (bif !decide (a1.1.2.1=(0:Int)) then (some ((1:Int),())) else Lo) else Lo) else bif decide (a1.1.1=(4:Int)) then (bif !decide (a1.1.2.1=(0:Int)) then (some ((1:Int),())) else Lo) else Lo
theorem aa (k:Nat) (a1:Arg):@Eq (Option Out) (D.W k a1) (p a1):=by kernel_rfl
theorem ok:Ok prog 227 D.sig:=ao func227 aB (by kernel_rfl) (fc aT.ok (fc gm.ok (fc dJ.ok (ak _))))
end gf
namespace fX
abbrev Arg:Type:=(List UInt8)×Unit
abbrev Out:Type:=Int×Unit
abbrev ps:PQ:=[(.ro,(.U u8))]
noncomputable def D:FD:={ fn:=f281,tl:=aK,ps:=ps,rs:=[(i64,(ay i64))],lv:=[(3,[0,3,4])],lx:=[(0,[3])] }
noncomputable def ab (a:Arg):Option Out:=@lift Out fun k=>D.W k a
noncomputable def T0 (a1:Arg) (J:Int×Int):St:={ n:=21,sl:=[(0,.val (.U u8) a1.1),(3,.val i64 J.1),(4,.val i64 J.2)],vr:=[],av:=[] }
noncomputable def b0 (self:(Int×Int)->Option Out) (e0:Int->Option Out) (a1:Arg) (J:Int×Int):Option Out:=bif decide (J.2 < (a1.1.length:Int)) then (if 0<=J.2 then ((a1.1[J.2.toNat]?).bind fun aC=>self ((ae ((ae (J.1*(31:Int)))+(ae (aC.toNat:Int)))).tmod (65521:Int),ae (J.2+(1:Int)))) else none) else e0 J.1
noncomputable abbrev B0 (_:Nat):=b0
noncomputable def q0 (a1:Arg) (jR:Int):Option Out:=some (jR,())
noncomputable abbrev Q0 (_:Nat):=q0
noncomputable def s0 (k:Nat) (a1:Arg):(Int×Int)->Option Out:=fun J=>D.L k [1,1,0,1,0,0] [0,3,4] [] (af 0 (an (D.N k [1,1,1]) D.K0)) (T0 a1 J)
noncomputable def r0 (k:Nat) (a1:Arg):(Int×Int)->Option Out:=al (fun w v=>B0 k w (Q0 k a1) a1 v) k
theorem ap (k:Nat) (a1:Arg):s0 k a1=r0 k a1:=
 funext fun J=>am _ _ _ (T0 a1) _ (fun rec v=>by kernel_rfl) k J
noncomputable def p (l0:(Int×Int)->Option Out) (a1:Arg):Option Out:=l0 ((1:Int),(0:Int))
theorem aa (k:Nat) (a1:Arg):@Eq (Option Out) (D.W k a1) (p (r0 k a1) a1):=
 Eq.trans (b:=p (s0 k a1) a1) (by kernel_rfl) (by rw[ap])
theorem ok:Ok prog 281 D.sig:=ao func281 aB (by kernel_rfl) (ak _)
end fX
namespace fq
abbrev Arg:Type:=aL×Unit
abbrev Out:Type:=(List UInt8)×Unit
abbrev ps:PQ:=[(.ro,(.ptr bQ))]
noncomputable def D:FD:={ fn:=f228,tl:=aK,ps:=ps,rs:=[((.U u8),(aq (.U u8)))],gl:=[(281,fX.D.sig)],lv:=[(3,[0,3,4])],lx:=[(0,[3])],od:=[(1,[0,1,2,3,4,5,6,7,8,9,10,11,12,13,14,15,16,17,18,19,20,21,22]),(5,[0,1,2,3,4,5,6,7,8,9,10,11,12,13,14,15,16,17,18,19,22,23,24,25,26,27,28,29,20,21,30,31])],ar:=[(5,[4,8,9,13,17,19,25,29])] }
noncomputable def ab (a:Arg):Option Out:=@lift Out fun k=>D.W k a
noncomputable def T0 (a1:Arg) (J:(List UInt8)×Int):St:={ n:=85,sl:=[(0,.cp bQ a1.1),(3,.own (.U u8) (aq (.U u8)) [] J.1),(4,.val i64 J.2)],vr:=[],av:=[] }
noncomputable def b0 (self:((List UInt8)×Int)->Option Out) (e0:(List UInt8)->Option Out) (a1:Arg) (J:(List UInt8)×Int):Option Out:=bif decide (J.2 < (a1.1.2.2.2.1.length:Int)) then (if 0<=J.2 then ((a1.1.2.2.2.1[J.2.toNat]?).bind fun aC=>if 0<=J.2 then ((a1.1.2.2.2.1[J.2.toNat]?).bind fun bU=>if 0<=J.2 then ((a1.1.2.2.2.1[J.2.toNat]?).bind fun db=>if J.1.length+[UInt8.ofInt aC.1,UInt8.ofInt (bU.2.1.length:Int)].length<=bm then (let vt:=J.1++[UInt8.ofInt aC.1,UInt8.ofInt (bU.2.1.length:Int)];if vt.length+db.2.1.length<=bm then (self (vt++db.2.1,ae (J.2+(1:Int)))) else none) else none) else none) else none) else none) else e0 J.1
noncomputable abbrev B0 (_:Nat):=b0
noncomputable def q0 (a1:Arg) (gI:(List UInt8)):Option Out:=if 0<=(0:Int)/\(0:Int) < (gI.length:Int) then ((gI[0]?).bind fun CF=>let JY:=gI.set 0 (UInt8.ofInt (ae ((gI.length:Int)+(2:Int))));(fX.ab (JY,())).bind fun rq=>if JY.length+[UInt8.ofInt (ae (rq.1.tdiv (256:Int))),UInt8.ofInt (rq.1.tmod (256:Int))].length<=bm then (let QI:=JY++[UInt8.ofInt (ae (rq.1.tdiv (256:Int))),UInt8.ofInt (rq.1.tmod (256:Int))];some (QI,())) else none) else none
noncomputable abbrev Q0 (_:Nat):=q0
noncomputable def s0 (k:Nat) (a1:Arg):((List UInt8)×Int)->Option Out:=fun J=>D.L k [1,1,0,1,0,0] [0,3,4] [] (af 0 (an (D.N k [1,1,1]) D.K0)) (T0 a1 J)
noncomputable def r0 (k:Nat) (a1:Arg):((List UInt8)×Int)->Option Out:=al (fun w v=>B0 k w (Q0 k a1) a1 v) k
theorem ap (k:Nat) (a1:Arg):s0 k a1=r0 k a1:=
 funext fun J=>am _ _ _ (T0 a1) _ (fun rec v=>by kernel_rfl) k J
noncomputable def p (l0:((List UInt8)×Int)->Option Out) (a1:Arg):Option Out:=l0 ([(0:UInt8),UInt8.ofInt a1.1.1,UInt8.ofInt a1.1.2.1,UInt8.ofInt a1.1.2.2.1,UInt8.ofInt (a1.1.2.2.2.1.length:Int)],(0:Int))
theorem aa (k:Nat) (a1:Arg):@Eq (Option Out) (D.W k a1) (p (r0 k a1) a1):=
 Eq.trans (b:=p (s0 k a1) a1) (by kernel_rfl) (by rw[ap])
theorem ok:Ok prog 228 D.sig:=ao func228 aB (by kernel_rfl) (fc fX.ok (ak _))
end fq
namespace gF
abbrev Arg:Type:=(List UInt8)×Unit
abbrev Out:Type:=CA×Unit
abbrev ps:PQ:=[(.ro,(.U u8))]
noncomputable def D:FD:={ fn:=f165,tl:=aK,ps:=ps,rs:=[(pT,(aq pT))],gl:=[(226,fm.D.sig),(227,gf.D.sig),(228,fq.D.sig)],od:=[(5,[0,1,2,5,6,7,8,3,4,9,10])],ar:=[(5,[8])] }
noncomputable def ab (a:Arg):Option Out:=@lift Out fun k=>D.W k a
noncomputable def p (a1:Arg):Option Out:=bif decide ((a1.1.length:Int) < (7:Int)) then (some (((5:Int),(0:Int),((0:Int),(0:Int),(0:Int),([]:List cE),()),()),())) else (a1.1[0]?).bind fun x2=>bif decide (ae (x2.toNat:Int) < (7:Int)) then (some (((5:Int),(0:Int),((0:Int),(0:Int),(0:Int),([]:List cE),()),()),())) else (a1.1[0]?).bind fun x3=>bif decide ((a1.1.length:Int) < ae (x3.toNat:Int)) then (some (((5:Int),(0:Int),((0:Int),(0:Int),(0:Int),([]:List cE),()),()),())) else (a1.1[0]?).bind fun x4=>if 0<=ae (x4.toNat:Int)/\ae (x4.toNat:Int)<=(a1.1.length:Int) then ((fm.ab ((a1.1.take (ae (x4.toNat:Int)).toNat).drop 0,())).bind fun r5=>(gf.ab (r5.1,())).bind fun r6=>bif !decide (r6.1=(0:Int)) then (some (((5:Int),(0:Int),((0:Int),(0:Int),(0:Int),([]:List cE),()),()),())) else if 0<=ae (x4.toNat:Int)/\ae (x4.toNat:Int)<=(a1.1.length:Int) then ((fq.ab (r5.1,())).bind fun r7=>bif !decide (r7.1=(a1.1.take (ae (x4.toNat:Int)).toNat).drop 0) then (some (((5:Int),(0:Int),((0:Int),(0:Int),(0:Int),([]:List cE),()),()),())) else some (((0:Int),ae (x4.toNat:Int),r5.1,()),())) else none) else none
theorem aa (k:Nat) (a1:Arg):@Eq (Option Out) (D.W k a1) (p a1):=by kernel_rfl
theorem ok:Ok prog 165 D.sig:=ao func165 aB (by kernel_rfl) (fc fm.ok (fc gf.ok (fc fq.ok (ak _))))
end gF
namespace dx
abbrev Arg:Type:=(List UInt8)×Unit
abbrev Out:Type:=(List aL)×Int×Unit
abbrev ps:PQ:=[(.ro,(.U u8))]
noncomputable def D:FD:={ fn:=f189,tl:=aK,ps:=ps,rs:=[((.U bQ),(aq (.U bQ))),(i64,(ay i64))],gl:=[(165,gF.D.sig)],lv:=[(3,[0,4,5])],lx:=[(0,[4,5])] }
noncomputable def ab (a:Arg):Option Out:=@lift Out fun k=>D.W k a
noncomputable def T0 (a1:Arg) (J:(List aL)×Int):St:={ n:=30,sl:=[(0,.val (.U u8) a1.1),(4,.own (.U bQ) (aq (.U bQ)) [] J.1),(5,.val i64 J.2)],vr:=[],av:=[] }
noncomputable def b0 (self:((List aL)×Int)->Option Out) (e0:((List aL)×Int)->Option Out) (a1:Arg) (J:(List aL)×Int):Option Out:=bif decide (J.2 < (a1.1.length:Int)) then (if 0<=J.2/\J.2<=(a1.1.length:Int) then ((gF.ab ((a1.1.take a1.1.length).drop J.2.toNat,())).bind fun tI=>bif !decide (tI.1.1=(0:Int)) then (e0 (J.1,J.2)) else if J.1.length+[tI.1.2.2.1].length<=bm then (self (J.1++[tI.1.2.2.1],ae (J.2+tI.1.2.1))) else none) else none) else e0 (J.1,J.2)
noncomputable abbrev B0 (_:Nat):=b0
noncomputable def q0 (a1:Arg) (jR:((List aL)×Int)):Option Out:=some (jR.1,jR.2,())
noncomputable abbrev Q0 (_:Nat):=q0
noncomputable def s0 (k:Nat) (a1:Arg):((List aL)×Int)->Option Out:=fun J=>D.L k [1,1,1,0,0,0] [0,4,5] [] (af 0 (an (D.N k [1,1,1,1]) D.K0)) (T0 a1 J)
noncomputable def r0 (k:Nat) (a1:Arg):((List aL)×Int)->Option Out:=al (fun w v=>B0 k w (Q0 k a1) a1 v) k
theorem ap (k:Nat) (a1:Arg):s0 k a1=r0 k a1:=
 funext fun J=>am _ _ _ (T0 a1) _ (fun rec v=>by kernel_rfl) k J
noncomputable def p (l0:((List aL)×Int)->Option Out) (a1:Arg):Option Out:=l0 (([]:List aL),(0:Int))
theorem aa (k:Nat) (a1:Arg):@Eq (Option Out) (D.W k a1) (p (r0 k a1) a1):=
 Eq.trans (b:=p (s0 k a1) a1) (by kernel_rfl) (by rw[ap])
theorem ok:Ok prog 189 D.sig:=ao func189 aB (by kernel_rfl) (fc gF.ok (ak _))
end dx
namespace jq
abbrev Arg:Type:=Log×Unit
abbrev Out:Type:=Int×Unit
abbrev ps:PQ:=[(.ro,(.ptr eS))]
noncomputable def D:FD:={ fn:=f117,tl:=aK,ps:=ps,rs:=[(i64,(ay i64))],gl:=[(189,dx.D.sig)],od:=[(1,[0,1,2,3,4,5,6,7,8,9,10,11])] }
noncomputable def ab (a:Arg):Option Out:=@lift Out fun k=>D.W k a
noncomputable def p (a1:Arg):Option Out:=bif decide ((16000:Int) < ae ((a1.1.1.length:Int)+(a1.1.2.1.length:Int))) then (some ((2:Int),())) else (dx.ab (a1.1.1,())).bind fun r2=>bif !decide (r2.2.1=(a1.1.1.length:Int)) then (some ((5:Int),())) else (dx.ab (a1.1.2.1,())).bind fun r3=>bif !decide (r3.2.1=(a1.1.2.1.length:Int)) then (some ((5:Int),())) else some ((0:Int),())
theorem aa (k:Nat) (a1:Arg):@Eq (Option Out) (D.W k a1) (p a1):=by kernel_rfl
theorem ok:Ok prog 117 D.sig:=ao func117 aB (by kernel_rfl) (fc dx.ok (ak _))
end jq
namespace gO
abbrev Arg:Type:=(List UInt8)×Unit
abbrev Out:Type:=Int×Unit
abbrev ps:PQ:=[(.ro,(.U u8))]
noncomputable def D:FD:={ fn:=f295,tl:=aK,ps:=ps,rs:=[(i64,(ay i64))] }
noncomputable def ab (a:Arg):Option Out:=@lift Out fun k=>D.W k a
noncomputable def p (a1:Arg):Option Out:=(a1.1[1]?).bind fun x2=>some (ae (x2.toNat:Int),())
theorem aa (k:Nat) (a1:Arg):@Eq (Option Out) (D.W k a1) (p a1):=by kernel_rfl
theorem ok:Ok prog 295 D.sig:=ao func295 aB (by kernel_rfl) (ak _)
end gO
namespace kb
abbrev Arg:Type:=(List UInt8)×Int×Unit
abbrev Out:Type:=Bool×Unit
abbrev ps:PQ:=[(.ro,(.U u8)),(.ro,i64)]
noncomputable def D:FD:={ fn:=f296,tl:=aK,ps:=ps,rs:=[(.bool,(ay .bool))],gl:=[(256,bv.D.sig),(295,gO.D.sig),(299,di.D.sig)] }
noncomputable def ab (a:Arg):Option Out:=@lift Out fun k=>D.W k a
noncomputable def p (a1:Arg):Option Out:=(di.ab (a1.1,a1.2.1,())).bind fun r2=>(bv.ab (a1.1,a1.2.1,())).bind fun r3=>bif decide (r2.1=(0:Int)) then (some (decide (r2.1=r3.1),())) else bif decide (r3.1=(0:Int)) then (some (decide (r2.1=r3.1),())) else (gO.ab (a1.1,())).bind fun r4=>bif decide (r4.1<=r2.1) then (some (decide (ae (r2.1+r3.1)<=(64:Int)),())) else some (false,())
theorem aa (k:Nat) (a1:Arg):@Eq (Option Out) (D.W k a1) (p a1):=by kernel_rfl
theorem ok:Ok prog 296 D.sig:=ao func296 aB (by kernel_rfl) (fc bv.ok (fc gO.ok (fc di.ok (ak _))))
end kb
namespace jr
abbrev Arg:Type:=(List UInt8)×Int×Int×Unit
abbrev Out:Type:=Bool×Unit
abbrev ps:PQ:=[(.ro,(.U u8)),(.ro,i64),(.ro,i64)]
noncomputable def D:FD:={ fn:=f297,tl:=aK,ps:=ps,rs:=[(.bool,(ay .bool))],gl:=[(256,bv.D.sig),(299,di.D.sig)] }
noncomputable def ab (a:Arg):Option Out:=@lift Out fun k=>D.W k a
noncomputable def p (a1:Arg):Option Out:=(bv.ab (a1.1,a1.2.1,())).bind fun r2=>bif decide (r2.1=(0:Int)) then (some (true,())) else (bv.ab (a1.1,a1.2.2.1,())).bind fun r3=>bif decide (r3.1=(0:Int)) then (some (true,())) else (di.ab (a1.1,a1.2.1,())).bind fun r4=>(bv.ab (a1.1,a1.2.1,())).bind fun r5=>(di.ab (a1.1,a1.2.2.1,())).bind fun r6=>bif decide (ae (r4.1+r5.1)<=r6.1) then (some (true,())) else (di.ab (a1.1,a1.2.2.1,())).bind fun r7=>(bv.ab (a1.1,a1.2.2.1,())).bind fun r8=>(di.ab (a1.1,a1.2.1,())).bind fun r9=>some (decide (ae (r7.1+r8.1)<=r9.1),())
theorem aa (k:Nat) (a1:Arg):@Eq (Option Out) (D.W k a1) (p a1):=by kernel_rfl
theorem ok:Ok prog 297 D.sig:=ao func297 aB (by kernel_rfl) (fc bv.ok (fc di.ok (ak _)))
end jr
namespace aV
abbrev Arg:Type:=(List UInt8)×Unit
abbrev Out:Type:=Int×Unit
abbrev ps:PQ:=[(.ro,(.U u8))]
noncomputable def D:FD:={ fn:=f254,tl:=aK,ps:=ps,rs:=[(i64,(ay i64))],gl:=[(255,dh.D.sig),(256,bv.D.sig),(295,gO.D.sig),(296,kb.D.sig),(297,jr.D.sig)],lv:=[(7,[0,3,4]),(12,[0,3,5]),(15,[0,3,5,6])],lx:=[(0,[0,3]),(2,[0,3]),(4,[0,3,5])] }
noncomputable def ab (a:Arg):Option Out:=@lift Out fun k=>D.W k a
noncomputable def T0 (a1:Arg) (bC:Int) (cz:Int):St:={ n:=60,sl:=[(0,.val (.U u8) a1.1),(3,.val i64 bC),(4,.val i64 cz)],vr:=[],av:=[] }
noncomputable def S0 (rec:RT Out) (a1:Arg) (bC:Int):(Int)->Option Out:=fun cz=>rec (T0 a1 bC cz)
noncomputable def bg (K:KT Out) (a1:Arg) (bC:Int):(Unit)->Option Out:=fun z=>K (.exit 0) ({ n:=60,sl:=[(0,.val (.U u8) a1.1),(3,.val i64 bC)],vr:=[],av:=[] })
noncomputable def b0 (self:Int->Option Out) (e0:(Unit)->Option Out) (a1:Arg) (bC:Int) (cz:Int):Option Out:=bif decide (cz < bC) then ((kb.ab (a1.1,cz,())).bind fun iS=>bif !iS.1 then (some ((3:Int),())) else self (ae (cz+(1:Int)))) else e0 ()
noncomputable abbrev B0 (_:Nat):=b0
theorem fA (k:Nat) (rec:RT Out) (K:KT Out) (a1:Arg) (bC:Int) (cz:Int):D.N k [1,1,1,1,0,1,0,0] (T0 a1 bC cz) (c9 rec (bY [0,3,4] []) K)=b0 (S0 rec a1 bC) (bg K a1 bC) a1 bC cz:=by kernel_rfl
noncomputable def T1 (a1:Arg) (b_:(List UInt8)×Int×Int):St:={ n:=60,sl:=[(0,.val (.U u8) b_.1),(3,.val i64 b_.2.1),(5,.val i64 b_.2.2)],vr:=[],av:=[] }
noncomputable def S1 (rec:RT Out) (a1:Arg):((List UInt8)×Int×Int)->Option Out:=fun b_=>rec (T1 a1 b_)
noncomputable def dA (K:KT Out) (a1:Arg):((List UInt8)×Int)->Option Out:=fun z=>K (.exit 2) ({ n:=60,sl:=[(0,.val (.U u8) z.1),(3,.val i64 z.2)],vr:=[],av:=[] })
noncomputable def T2 (a1:Arg) (dL:List UInt8) (cu:Int) (bA:Int) (qn:Int):St:={ n:=60,sl:=[(0,.val (.U u8) dL),(3,.val i64 cu),(5,.val i64 bA),(6,.val i64 qn)],vr:=[],av:=[] }
noncomputable def b2 (self:Int->Option Out) (e4:(Unit)->Option Out) (a1:Arg) (dL:List UInt8) (cu:Int) (bA:Int) (qn:Int):Option Out:=bif decide (qn < bA) then ((jr.ab (dL,bA,qn,())).bind fun Gj=>bif !Gj.1 then (some ((8:Int),())) else self (ae (qn+(1:Int)))) else e4 ()
noncomputable abbrev B2 (_:Nat):=b2
noncomputable def q1 (self:((List UInt8)×Int×Int)->Option Out) (e2:((List UInt8)×Int)->Option Out) (a1:Arg) (dL:List UInt8) (cu:Int) (bA:Int) (wg:(Unit)):Option Out:=self (dL,cu,ae (bA+(1:Int)))
noncomputable abbrev Q1 (_:Nat):=q1
noncomputable def s2 (k:Nat) (rec:RT Out) (K:KT Out) (a1:Arg):(List UInt8)->Int->Int->(Int)->Option Out:=fun dL cu bA=>fun qn=>D.L k [1,1,1,1,1,0,1,0,0,1,0,0,1,0,0] [0,3,5,6] [] (af 4 (af 3 (an (D.N k [1,1,1,1,1,0,1,0,0,1,1]) (c9 rec (bY [0,3,5] []) K)))) (T2 a1 dL cu bA qn)
noncomputable def r2 (k:Nat) (self:((List UInt8)×Int×Int)->Option Out) (e2:((List UInt8)×Int)->Option Out) (a1:Arg):(List UInt8)->Int->Int->(Int)->Option Out:=fun dL cu bA=>al (fun w v=>B2 k w (Q1 k self e2 a1 dL cu bA) a1 dL cu bA v) k
theorem kO (k:Nat) (rec:RT Out) (K:KT Out) (a1:Arg):s2 k rec K a1=r2 k (S1 rec a1) (dA K a1) a1:=
 funext fun dL=>funext fun cu=>funext fun bA=>funext fun qn=>am _ _ _ (T2 a1 dL cu bA) _ (fun rec v=>by kernel_rfl) k qn
noncomputable def b1 (self:((List UInt8)×Int×Int)->Option Out) (e2:((List UInt8)×Int)->Option Out) (l2:(List UInt8)->Int->Int->(Int)->Option Out) (a1:Arg) (b_:(List UInt8)×Int×Int):Option Out:=bif decide (b_.2.2 < b_.2.1) then (l2 b_.1 b_.2.1 b_.2.2 (0:Int)) else e2 (b_.1,b_.2.1)
noncomputable def B1 (k:Nat) (self:((List UInt8)×Int×Int)->Option Out) (e2:((List UInt8)×Int)->Option Out) (a1:Arg) (b_:(List UInt8)×Int×Int):Option Out:=b1 self e2 (r2 k self e2 a1) a1 b_
theorem lR (k:Nat) (rec:RT Out) (K:KT Out) (a1:Arg) (b_:(List UInt8)×Int×Int):D.N k [1,1,1,1,1,0,1,0,0] (T1 a1 b_) (c9 rec (bY [0,3,5] []) K)=B1 k (S1 rec a1) (dA K a1) a1 b_:=
 Eq.trans (b:=b1 (S1 rec a1) (dA K a1) (s2 k rec K a1) a1 b_) (by kernel_rfl) (by rw[kO];rfl)
noncomputable def q2 (a1:Arg) (nf:((List UInt8)×Int)):Option Out:=bif decide ((0:Int) < nf.2) then ((bv.ab (nf.1,ae (nf.2 - (1:Int)),())).bind fun OJ=>bif decide (OJ.1=(0:Int)) then (some ((8:Int),())) else some ((0:Int),())) else some ((0:Int),())
noncomputable abbrev Q2 (_:Nat):=q2
theorem ng (k:Nat) (a1:Arg) (nf:((List UInt8)×Int)):dA (af 2 (an (D.N k [1,1,1,1,1,1]) D.K0)) a1 nf=q2 a1 nf:=by kernel_rfl
noncomputable def s1 (k:Nat) (a1:Arg) (bC:Int):((List UInt8)×Int×Int)->Option Out:=fun b_=>D.L k [1,1,1,1,1,0,1,0,0] [0,3,5] [] (af 2 (an (D.N k [1,1,1,1,1,1]) D.K0)) (T1 a1 b_)
noncomputable def r1 (k:Nat) (a1:Arg) (bC:Int):((List UInt8)×Int×Int)->Option Out:=al (fun w v=>B1 k w (Q2 k a1) a1 v) k
theorem fB (k:Nat) (a1:Arg) (bC:Int):s1 k a1 bC=r1 k a1 bC:=by
 funext b_;
 have Y:dA (af 2 (an (D.N k [1,1,1,1,1,1]) D.K0)) a1=Q2 k a1:=funext fun z=>ng k a1 z
 refine (am _ _ _ (T1 a1) (fun self v=>B1 k self (dA (af 2 (an (D.N k [1,1,1,1,1,1]) D.K0)) a1) a1 v) (fun rec v=>lR k rec (af 2 (an (D.N k [1,1,1,1,1,1]) D.K0)) a1 v) k b_).trans ?_
 rw[Y]
 rfl
noncomputable def q0 (l1:((List UInt8)×Int×Int)->Option Out) (a1:Arg) (bC:Int) (mR:(Unit)):Option Out:=l1 (a1.1,bC,(0:Int))
noncomputable def Q0 (k:Nat) (a1:Arg) (bC:Int) (mR:(Unit)):Option Out:=q0 (r1 k a1 bC) a1 bC mR
theorem jS (k:Nat) (a1:Arg) (bC:Int) (mR:(Unit)):bg (af 0 (an (D.N k [1,1,1,1,1]) D.K0)) a1 bC mR=Q0 k a1 bC mR:=
 Eq.trans (b:=q0 (s1 k a1 bC) a1 bC mR) (by kernel_rfl) (by rw[fB];rfl)
noncomputable def s0 (k:Nat) (a1:Arg):Int->(Int)->Option Out:=fun bC=>fun cz=>D.L k [1,1,1,1,0,1,0,0] [0,3,4] [] (af 0 (an (D.N k [1,1,1,1,1]) D.K0)) (T0 a1 bC cz)
noncomputable def r0 (k:Nat) (a1:Arg):Int->(Int)->Option Out:=fun bC=>al (fun w v=>B0 k w (Q0 k a1 bC) a1 bC v) k
theorem ap (k:Nat) (a1:Arg):s0 k a1=r0 k a1:=by
 funext bC;funext cz;
 have h0:bg (af 0 (an (D.N k [1,1,1,1,1]) D.K0)) a1 bC=Q0 k a1 bC:=funext fun z=>jS k a1 bC z
 refine (am _ _ _ (T0 a1 bC) (fun self v=>B0 k self (bg (af 0 (an (D.N k [1,1,1,1,1]) D.K0)) a1 bC) a1 bC v) (fun rec v=>fA k rec (af 0 (an (D.N k [1,1,1,1,1]) D.K0)) a1 bC v) k cz).trans ?_
 rw[h0]
 rfl
noncomputable def p (l0:Int->(Int)->Option Out) (a1:Arg):Option Out:=bif !decide ((a1.1.length:Int)=(64:Int)) then (some ((1:Int),())) else (dh.ab (a1.1,())).bind fun r2=>bif decide ((16:Int) < r2.1) then (some ((3:Int),())) else (gO.ab (a1.1,())).bind fun r3=>bif decide (r3.1 < ae ((2:Int)+(ae ((2:Int)*r2.1)))) then (some ((3:Int),())) else (gO.ab (a1.1,())).bind fun r4=>bif decide ((64:Int) < r4.1) then (some ((3:Int),())) else l0 r2.1 (0:Int)
theorem aa (k:Nat) (a1:Arg):@Eq (Option Out) (D.W k a1) (p (r0 k a1) a1):=
 Eq.trans (b:=p (s0 k a1) a1) (by kernel_rfl) (by rw[ap])
theorem ok:Ok prog 254 D.sig:=ao func254 aB (by kernel_rfl) (fc dh.ok (fc bv.ok (fc gO.ok (fc kb.ok (fc jr.ok (ak _))))))
end aV
namespace ci
abbrev Arg:Type:=(List (List UInt8))×Unit
abbrev Out:Type:=Int×Unit
abbrev ps:PQ:=[(.ro,(.U (.U u8)))]
noncomputable def D:FD:={ fn:=f190,tl:=aK,ps:=ps,rs:=[(i64,(ay i64))],gl:=[(254,aV.D.sig),(255,dh.D.sig),(256,bv.D.sig),(257,fk.D.sig),(258,fl.D.sig)],lv:=[(2,[0,3]),(8,[0,3,5])],lx:=[(0,[]),(2,[0,3])] }
noncomputable def ab (a:Arg):Option Out:=@lift Out fun k=>D.W k a
noncomputable def T0 (a1:Arg) (J:(List (List UInt8))×Int):St:={ n:=50,sl:=[(0,.val (.U (.U u8)) J.1),(3,.val i64 J.2)],vr:=[],av:=[] }
noncomputable def S0 (rec:RT Out) (a1:Arg):((List (List UInt8))×Int)->Option Out:=fun J=>rec (T0 a1 J)
noncomputable def bg (K:KT Out) (a1:Arg):(Unit)->Option Out:=fun z=>K (.exit 0) ({ n:=50,sl:=[],vr:=[],av:=[] })
noncomputable def T1 (a1:Arg) (eA:List (List UInt8)) (dn:Int) (cd:Int):St:={ n:=50,sl:=[(0,.val (.U (.U u8)) eA),(3,.val i64 dn),(5,.val i64 cd)],vr:=[],av:=[] }
noncomputable def b1 (self:Int->Option Out) (e2:(Unit)->Option Out) (a1:Arg) (eA:List (List UInt8)) (dn:Int) (cd:Int):Option Out:=if 0<=dn then ((eA[dn.toNat]?).bind fun tF=>(dh.ab (tF,())).bind fun Gg=>bif decide (cd < Gg.1) then (if 0<=dn then ((eA[dn.toNat]?).bind fun yq=>(bv.ab (yq,cd,())).bind fun yr=>bif decide ((0:Int) < yr.1) then (if 0<=dn then ((eA[dn.toNat]?).bind fun we=>(fl.ab (we,cd,())).bind fun mt=>(fk.ab (mt.1,())).bind fun yp=>bif !yp.2.1 then (some ((5:Int),())) else self (ae (cd+(1:Int)))) else none) else self (ae (cd+(1:Int)))) else none) else e2 ()) else none
noncomputable abbrev B1 (_:Nat):=b1
noncomputable def q0 (self:((List (List UInt8))×Int)->Option Out) (e0:(Unit)->Option Out) (a1:Arg) (eA:List (List UInt8)) (dn:Int) (qm:(Unit)):Option Out:=self (eA,ae (dn+(1:Int)))
noncomputable abbrev Q0 (_:Nat):=q0
noncomputable def s1 (k:Nat) (rec:RT Out) (K:KT Out) (a1:Arg):(List (List UInt8))->Int->(Int)->Option Out:=fun eA dn=>fun cd=>D.L k [1,0,1,0,0,1,0,0,1,1,0,0] [0,3,5] [] (af 2 (af 1 (an (D.N k [1,0,1,0,0,1,1]) (c9 rec (bY [0,3] []) K)))) (T1 a1 eA dn cd)
noncomputable def r1 (k:Nat) (self:((List (List UInt8))×Int)->Option Out) (e0:(Unit)->Option Out) (a1:Arg):(List (List UInt8))->Int->(Int)->Option Out:=fun eA dn=>al (fun w v=>B1 k w (Q0 k self e0 a1 eA dn) a1 eA dn v) k
theorem fB (k:Nat) (rec:RT Out) (K:KT Out) (a1:Arg):s1 k rec K a1=r1 k (S0 rec a1) (bg K a1) a1:=
 funext fun eA=>funext fun dn=>funext fun cd=>am _ _ _ (T1 a1 eA dn) _ (fun rec v=>by kernel_rfl) k cd
noncomputable def b0 (self:((List (List UInt8))×Int)->Option Out) (e0:(Unit)->Option Out) (l1:(List (List UInt8))->Int->(Int)->Option Out) (a1:Arg) (J:(List (List UInt8))×Int):Option Out:=bif decide (J.2 < (J.1.length:Int)) then (if 0<=J.2 then ((J.1[J.2.toNat]?).bind fun aC=>(aV.ab (aC,())).bind fun bS=>bif !decide (bS.1=(0:Int)) then (some (bS.1,())) else l1 J.1 J.2 (0:Int)) else none) else e0 ()
noncomputable def B0 (k:Nat) (self:((List (List UInt8))×Int)->Option Out) (e0:(Unit)->Option Out) (a1:Arg) (J:(List (List UInt8))×Int):Option Out:=b0 self e0 (r1 k self e0 a1) a1 J
theorem fA (k:Nat) (rec:RT Out) (K:KT Out) (a1:Arg) (J:(List (List UInt8))×Int):D.N k [1,0,1,0,0] (T0 a1 J) (c9 rec (bY [0,3] []) K)=B0 k (S0 rec a1) (bg K a1) a1 J:=
 Eq.trans (b:=b0 (S0 rec a1) (bg K a1) (s1 k rec K a1) a1 J) (by kernel_rfl) (by rw[fB];rfl)
noncomputable def q1 (a1:Arg) (A8:(Unit)):Option Out:=some ((0:Int),())
noncomputable abbrev Q1 (_:Nat):=q1
theorem lS (k:Nat) (a1:Arg) (A8:(Unit)):bg (af 0 (an (D.N k [1,1]) D.K0)) a1 A8=q1 a1 A8:=by kernel_rfl
noncomputable def s0 (k:Nat) (a1:Arg):((List (List UInt8))×Int)->Option Out:=fun J=>D.L k [1,0,1,0,0] [0,3] [] (af 0 (an (D.N k [1,1]) D.K0)) (T0 a1 J)
noncomputable def r0 (k:Nat) (a1:Arg):((List (List UInt8))×Int)->Option Out:=al (fun w v=>B0 k w (Q1 k a1) a1 v) k
theorem ap (k:Nat) (a1:Arg):s0 k a1=r0 k a1:=by
 funext J;
 have h0:bg (af 0 (an (D.N k [1,1]) D.K0)) a1=Q1 k a1:=funext fun z=>lS k a1 z
 refine (am _ _ _ (T0 a1) (fun self v=>B0 k self (bg (af 0 (an (D.N k [1,1]) D.K0)) a1) a1 v) (fun rec v=>fA k rec (af 0 (an (D.N k [1,1]) D.K0)) a1 v) k J).trans ?_
 rw[h0]
 rfl
noncomputable def p (l0:((List (List UInt8))×Int)->Option Out) (a1:Arg):Option Out:=l0 (a1.1,(0:Int))
theorem aa (k:Nat) (a1:Arg):@Eq (Option Out) (D.W k a1) (p (r0 k a1) a1):=
 Eq.trans (b:=p (s0 k a1) a1) (by kernel_rfl) (by rw[ap])
theorem ok:Ok prog 190 D.sig:=ao func190 aB (by kernel_rfl) (fc aV.ok (fc dh.ok (fc bv.ok (fc fk.ok (fc fl.ok (ak _))))))
end ci
namespace bc
abbrev Arg:Type:=(List ax)×(List (List UInt8))×Unit
abbrev Out:Type:=Int×Unit
abbrev ps:PQ:=[(.ro,(.U dR)),(.ro,(.U (.U u8)))]
noncomputable def D:FD:={ fn:=f191,tl:=aK,ps:=ps,rs:=[(i64,(ay i64))],gl:=[(219,fP.D.sig)],lv:=[(2,[0,1,5]),(9,[0,8]),(12,[0,8,9])],lx:=[(0,[0]),(1,[0,1,5]),(2,[]),(4,[0,8])],od:=[(5,[0,1,2,3,4,5,6,7,8,9,10,11,12,13,14,15,16,17,18,19]),(16,[0,1,2,3,4,5,6,7,8,9,10,11,12,13,14,15,16,17,18,19,20,21,22,23,24,25,26,27,28,29,30,31,32,33])],ar:=[(5,[6,12])],pd:=[(5,[17])] }
noncomputable def ab (a:Arg):Option Out:=@lift Out fun k=>D.W k a
noncomputable def T0 (a1:Arg) (J:Int):St:={ n:=102,sl:=[(0,.val (.U dR) a1.1),(1,.val (.U (.U u8)) a1.2.1),(5,.val i64 J)],vr:=[],av:=[] }
noncomputable def S0 (rec:RT Out) (a1:Arg):(Int)->Option Out:=fun J=>rec (T0 a1 J)
noncomputable def bg (K:KT Out) (a1:Arg):(Unit)->Option Out:=fun z=>K (.exit 0) ({ n:=102,sl:=[(0,.val (.U dR) a1.1)],vr:=[],av:=[] })
noncomputable def b0 (self:Int->Option Out) (e0:(Unit)->Option Out) (a1:Arg) (J:Int):Option Out:=bif decide (J < (a1.1.length:Int)) then (if 0<=J then ((a1.1[J.toNat]?).bind fun aC=>bif !decide (aC.2.2.1.2.1=(1:Int)) then (self (ae (J+(1:Int)))) else if 0<=J then ((a1.1[J.toNat]?).bind fun bU=>if 0<=J then ((a1.1[J.toNat]?).bind fun db=>(fP.ab (a1.2.1,bU.2.2.1.2.2.1,db.2.2.1.2.2.2.1,())).bind fun lC=>bif !lC.2.1 then (some ((4:Int),())) else bif !decide (lC.1.2.1=(2:Int)) then (some ((4:Int),())) else self (ae (J+(1:Int)))) else none) else none) else none) else e0 ()
noncomputable abbrev B0 (_:Nat):=b0
theorem fA (k:Nat) (rec:RT Out) (K:KT Out) (a1:Arg) (J:Int):D.N k [1,0,1,0,0] (T0 a1 J) (c9 rec (bY [0,1,5] []) K)=b0 (S0 rec a1) (bg K a1) a1 J:=by kernel_rfl
noncomputable def T1 (a1:Arg) (ba:(List ax)×Int):St:={ n:=102,sl:=[(0,.val (.U dR) ba.1),(8,.val i64 ba.2)],vr:=[],av:=[] }
noncomputable def S1 (rec:RT Out) (a1:Arg):((List ax)×Int)->Option Out:=fun ba=>rec (T1 a1 ba)
noncomputable def dA (K:KT Out) (a1:Arg):(Unit)->Option Out:=fun z=>K (.exit 2) ({ n:=102,sl:=[],vr:=[],av:=[] })
noncomputable def T2 (a1:Arg) (gP:List ax) (dL:Int) (ni:Int):St:={ n:=102,sl:=[(0,.val (.U dR) gP),(8,.val i64 dL),(9,.val i64 ni)],vr:=[],av:=[] }
noncomputable def b2 (self:Int->Option Out) (e4:(Unit)->Option Out) (a1:Arg) (gP:List ax) (dL:Int) (ni:Int):Option Out:=bif decide (ni < dL) then (if 0<=dL then ((gP[dL.toNat]?).bind fun Gk=>if 0<=ni then ((gP[ni.toNat]?).bind fun tJ=>bif decide (Gk.2.2.1.2.1=(1:Int)) then (bif decide (tJ.2.2.1.2.1=(1:Int)) then (bif decide (Gk.2.2.1.2.2.1=tJ.2.2.1.2.2.1) then (bif decide (Gk.2.2.1.2.2.2.1=tJ.2.2.1.2.2.2.1) then (some ((6:Int),())) else self (ae (ni+(1:Int)))) else self (ae (ni+(1:Int)))) else self (ae (ni+(1:Int)))) else self (ae (ni+(1:Int)))) else none) else none) else e4 ()
noncomputable abbrev B2 (_:Nat):=b2
noncomputable def q1 (self:((List ax)×Int)->Option Out) (e2:(Unit)->Option Out) (a1:Arg) (gP:List ax) (dL:Int) (Te:(Unit)):Option Out:=self (gP,ae (dL+(1:Int)))
noncomputable abbrev Q1 (_:Nat):=q1
noncomputable def s2 (k:Nat) (rec:RT Out) (K:KT Out) (a1:Arg):(List ax)->Int->(Int)->Option Out:=fun gP dL=>fun ni=>D.L k [1,1,0,1,0,0,1,0,0,1,0,0] [0,8,9] [] (af 4 (af 3 (an (D.N k [1,1,0,1,0,0,1,1]) (c9 rec (bY [0,8] []) K)))) (T2 a1 gP dL ni)
noncomputable def r2 (k:Nat) (self:((List ax)×Int)->Option Out) (e2:(Unit)->Option Out) (a1:Arg):(List ax)->Int->(Int)->Option Out:=fun gP dL=>al (fun w v=>B2 k w (Q1 k self e2 a1 gP dL) a1 gP dL v) k
theorem kO (k:Nat) (rec:RT Out) (K:KT Out) (a1:Arg):s2 k rec K a1=r2 k (S1 rec a1) (dA K a1) a1:=
 funext fun gP=>funext fun dL=>funext fun ni=>am _ _ _ (T2 a1 gP dL) _ (fun rec v=>by kernel_rfl) k ni
noncomputable def b1 (self:((List ax)×Int)->Option Out) (e2:(Unit)->Option Out) (l2:(List ax)->Int->(Int)->Option Out) (a1:Arg) (ba:(List ax)×Int):Option Out:=bif decide (ba.2 < (ba.1.length:Int)) then (l2 ba.1 ba.2 (0:Int)) else e2 ()
noncomputable def B1 (k:Nat) (self:((List ax)×Int)->Option Out) (e2:(Unit)->Option Out) (a1:Arg) (ba:(List ax)×Int):Option Out:=b1 self e2 (r2 k self e2 a1) a1 ba
theorem lR (k:Nat) (rec:RT Out) (K:KT Out) (a1:Arg) (ba:(List ax)×Int):D.N k [1,1,0,1,0,0] (T1 a1 ba) (c9 rec (bY [0,8] []) K)=B1 k (S1 rec a1) (dA K a1) a1 ba:=
 Eq.trans (b:=b1 (S1 rec a1) (dA K a1) (s2 k rec K a1) a1 ba) (by kernel_rfl) (by rw[kO];rfl)
noncomputable def q2 (a1:Arg) (wg:(Unit)):Option Out:=some ((0:Int),())
noncomputable abbrev Q2 (_:Nat):=q2
theorem ng (k:Nat) (a1:Arg) (wg:(Unit)):dA (af 2 (an (D.N k [1,1,1]) D.K0)) a1 wg=q2 a1 wg:=by kernel_rfl
noncomputable def s1 (k:Nat) (a1:Arg):((List ax)×Int)->Option Out:=fun ba=>D.L k [1,1,0,1,0,0] [0,8] [] (af 2 (an (D.N k [1,1,1]) D.K0)) (T1 a1 ba)
noncomputable def r1 (k:Nat) (a1:Arg):((List ax)×Int)->Option Out:=al (fun w v=>B1 k w (Q2 k a1) a1 v) k
theorem fB (k:Nat) (a1:Arg):s1 k a1=r1 k a1:=by
 funext ba;
 have Y:dA (af 2 (an (D.N k [1,1,1]) D.K0)) a1=Q2 k a1:=funext fun z=>ng k a1 z
 refine (am _ _ _ (T1 a1) (fun self v=>B1 k self (dA (af 2 (an (D.N k [1,1,1]) D.K0)) a1) a1 v) (fun rec v=>lR k rec (af 2 (an (D.N k [1,1,1]) D.K0)) a1 v) k ba).trans ?_
 rw[Y]
 rfl
noncomputable def q0 (l1:((List ax)×Int)->Option Out) (a1:Arg) (gI:(Unit)):Option Out:=l1 (a1.1,(0:Int))
noncomputable def Q0 (k:Nat) (a1:Arg) (gI:(Unit)):Option Out:=q0 (r1 k a1) a1 gI
theorem jS (k:Nat) (a1:Arg) (gI:(Unit)):bg (af 0 (an (D.N k [1,1]) D.K0)) a1 gI=Q0 k a1 gI:=
 Eq.trans (b:=q0 (s1 k a1) a1 gI) (by kernel_rfl) (by rw[fB];rfl)
noncomputable def s0 (k:Nat) (a1:Arg):(Int)->Option Out:=fun J=>D.L k [1,0,1,0,0] [0,1,5] [] (af 0 (an (D.N k [1,1]) D.K0)) (T0 a1 J)
noncomputable def r0 (k:Nat) (a1:Arg):(Int)->Option Out:=al (fun w v=>B0 k w (Q0 k a1) a1 v) k
theorem ap (k:Nat) (a1:Arg):s0 k a1=r0 k a1:=by
 funext J;
 have h0:bg (af 0 (an (D.N k [1,1]) D.K0)) a1=Q0 k a1:=funext fun z=>jS k a1 z
 refine (am _ _ _ (T0 a1) (fun self v=>B0 k self (bg (af 0 (an (D.N k [1,1]) D.K0)) a1) a1 v) (fun rec v=>fA k rec (af 0 (an (D.N k [1,1]) D.K0)) a1 v) k J).trans ?_
 rw[h0]
 rfl
noncomputable def p (l0:(Int)->Option Out) (a1:Arg):Option Out:=l0 (0:Int)
theorem aa (k:Nat) (a1:Arg):@Eq (Option Out) (D.W k a1) (p (r0 k a1) a1):=
 Eq.trans (b:=p (s0 k a1) a1) (by kernel_rfl) (by rw[ap])
theorem ok:Ok prog 191 D.sig:=ao func191 aB (by kernel_rfl) (fc fP.ok (ak _))
end bc
namespace bV
abbrev Arg:Type:=(List (List UInt8))×Unit
abbrev Out:Type:=Int×Unit
abbrev ps:PQ:=[(.ro,(.U (.U u8)))]
noncomputable def D:FD:={ fn:=f119,tl:=aK,ps:=ps,rs:=[(i64,(ay i64))],gl:=[(145,ek.D.sig),(190,ci.D.sig),(191,bc.D.sig),(192,bJ.D.sig)],lv:=[(11,[5,6]),(14,[5,6,7])],lx:=[(0,[]),(2,[5,6])],od:=[(16,[0,1,2,3,4,5,6,7,8,9,10,11,12,13,14,15,16,17,18,19,20,21,22,23,24,25,26,27,28,29,30,31])] }
noncomputable def ab (a:Arg):Option Out:=@lift Out fun k=>D.W k a
noncomputable def T0 (a1:Arg) (lU:(List ax)×Int):St:={ n:=68,sl:=[(5,.own (.U dR) (aq (.U dR)) [] lU.1),(6,.val i64 lU.2)],vr:=[],av:=[] }
noncomputable def S0 (rec:RT Out) (a1:Arg):((List ax)×Int)->Option Out:=fun lU=>rec (T0 a1 lU)
noncomputable def bg (K:KT Out) (a1:Arg):(Unit)->Option Out:=fun z=>K (.exit 0) ({ n:=68,sl:=[],vr:=[],av:=[] })
noncomputable def T1 (a1:Arg) (cQ:List ax) (bM:Int) (f7:Int):St:={ n:=68,sl:=[(5,.own (.U dR) (aq (.U dR)) [] cQ),(6,.val i64 bM),(7,.val i64 f7)],vr:=[],av:=[] }
noncomputable def b1 (self:Int->Option Out) (e2:(Unit)->Option Out) (a1:Arg) (cQ:List ax) (bM:Int) (f7:Int):Option Out:=bif decide (f7 < bM) then (if 0<=bM/\bM < (cQ.length:Int) then ((cQ[bM.toNat]?).bind fun yq=>if 0<=f7/\f7 < (cQ.length:Int) then ((cQ[f7.toNat]?).bind fun wh=>bif decide (yq.2.2.1.2.2.2.2.1.1=wh.2.2.1.2.2.2.2.1.1) then (if 0<=bM/\bM < (cQ.length:Int) then ((cQ[bM.toNat]?).bind fun we=>if 0<=f7/\f7 < (cQ.length:Int) then ((cQ[f7.toNat]?).bind fun OK=>bif decide (we.2.2.1.2.2.2.2.1.2.1=OK.2.2.1.2.2.2.2.1.2.1) then (some ((8:Int),())) else self (ae (f7+(1:Int)))) else none) else none) else self (ae (f7+(1:Int)))) else none) else none) else e2 ()
noncomputable abbrev B1 (_:Nat):=b1
noncomputable def q0 (self:((List ax)×Int)->Option Out) (e0:(Unit)->Option Out) (a1:Arg) (cQ:List ax) (bM:Int) (Ln:(Unit)):Option Out:=self (cQ,ae (bM+(1:Int)))
noncomputable abbrev Q0 (_:Nat):=q0
noncomputable def s1 (k:Nat) (rec:RT Out) (K:KT Out) (a1:Arg):(List ax)->Int->(Int)->Option Out:=fun cQ bM=>fun f7=>D.L k [1,1,1,1,1,0,1,0,0,1,0,0,1,0,0] [5,6,7] [] (af 2 (af 1 (an (D.N k [1,1,1,1,1,0,1,0,0,1,1]) (c9 rec (bY [5,6] []) K)))) (T1 a1 cQ bM f7)
noncomputable def r1 (k:Nat) (self:((List ax)×Int)->Option Out) (e0:(Unit)->Option Out) (a1:Arg):(List ax)->Int->(Int)->Option Out:=fun cQ bM=>al (fun w v=>B1 k w (Q0 k self e0 a1 cQ bM) a1 cQ bM v) k
theorem fB (k:Nat) (rec:RT Out) (K:KT Out) (a1:Arg):s1 k rec K a1=r1 k (S0 rec a1) (bg K a1) a1:=
 funext fun cQ=>funext fun bM=>funext fun f7=>am _ _ _ (T1 a1 cQ bM) _ (fun rec v=>by kernel_rfl) k f7
noncomputable def b0 (self:((List ax)×Int)->Option Out) (e0:(Unit)->Option Out) (l1:(List ax)->Int->(Int)->Option Out) (a1:Arg) (lU:(List ax)×Int):Option Out:=bif decide (lU.2 < (lU.1.length:Int)) then (l1 lU.1 lU.2 (0:Int)) else e0 ()
noncomputable def B0 (k:Nat) (self:((List ax)×Int)->Option Out) (e0:(Unit)->Option Out) (a1:Arg) (lU:(List ax)×Int):Option Out:=b0 self e0 (r1 k self e0 a1) a1 lU
theorem fA (k:Nat) (rec:RT Out) (K:KT Out) (a1:Arg) (lU:(List ax)×Int):D.N k [1,1,1,1,1,0,1,0,0] (T0 a1 lU) (c9 rec (bY [5,6] []) K)=B0 k (S0 rec a1) (bg K a1) a1 lU:=
 Eq.trans (b:=b0 (S0 rec a1) (bg K a1) (s1 k rec K a1) a1 lU) (by kernel_rfl) (by rw[fB];rfl)
noncomputable def q1 (a1:Arg) (qm:(Unit)):Option Out:=some ((0:Int),())
noncomputable abbrev Q1 (_:Nat):=q1
theorem lS (k:Nat) (a1:Arg) (qm:(Unit)):bg (af 0 (an (D.N k [1,1,1,1,1,1]) D.K0)) a1 qm=q1 a1 qm:=by kernel_rfl
noncomputable def s0 (k:Nat) (a1:Arg):((List ax)×Int)->Option Out:=fun lU=>D.L k [1,1,1,1,1,0,1,0,0] [5,6] [] (af 0 (an (D.N k [1,1,1,1,1,1]) D.K0)) (T0 a1 lU)
noncomputable def r0 (k:Nat) (a1:Arg):((List ax)×Int)->Option Out:=al (fun w v=>B0 k w (Q1 k a1) a1 v) k
theorem ap (k:Nat) (a1:Arg):s0 k a1=r0 k a1:=by
 funext lU;
 have h0:bg (af 0 (an (D.N k [1,1,1,1,1,1]) D.K0)) a1=Q1 k a1:=funext fun z=>lS k a1 z
 refine (am _ _ _ (T0 a1) (fun self v=>B0 k self (bg (af 0 (an (D.N k [1,1,1,1,1,1]) D.K0)) a1) a1 v) (fun rec v=>fA k rec (af 0 (an (D.N k [1,1,1,1,1,1]) D.K0)) a1 v) k lU).trans ?_
 rw[h0]
 rfl
noncomputable def p (l0:((List ax)×Int)->Option Out) (a1:Arg):Option Out:=bif decide ((12:Int) < (a1.1.length:Int)) then (some ((2:Int),())) else (ci.ab (a1.1,())).bind fun r2=>bif !decide (r2.1=(0:Int)) then (some (r2.1,())) else (bJ.ab (a1.1,())).bind fun r3=>(bc.ab (r3.1,a1.1,())).bind fun r4=>bif !decide (r4.1=(0:Int)) then (some (r4.1,())) else (ek.ab (a1.1,())).bind fun r5=>l0 (r5.1,(0:Int))
theorem aa (k:Nat) (a1:Arg):@Eq (Option Out) (D.W k a1) (p (r0 k a1) a1):=
 Eq.trans (b:=p (s0 k a1) a1) (by kernel_rfl) (by rw[ap])
theorem ok:Ok prog 119 D.sig:=ao func119 aB (by kernel_rfl) (fc ek.ok (fc ci.ok (fc bc.ok (fc bJ.ok (ak _)))))
end bV
namespace gn
abbrev Arg:Type:=(List (List UInt8))×Unit
abbrev Out:Type:=(List (List UInt8))×Unit
abbrev ps:PQ:=[(.ro,(.U (.U u8)))]
noncomputable def D:FD:={ fn:=f232,tl:=aK,ps:=ps,rs:=[((.U (.U u8)),(aq (.U (.U u8))))],gl:=[(109,dw.D.sig)],lv:=[(3,[0,3,4])],lx:=[(0,[3])] }
noncomputable def ab (a:Arg):Option Out:=@lift Out fun k=>D.W k a
noncomputable def T0 (a1:Arg) (J:(List (List UInt8))×Int):St:={ n:=21,sl:=[(0,.val (.U (.U u8)) a1.1),(3,.own (.U (.U u8)) (aq (.U (.U u8))) [] J.1),(4,.val i64 J.2)],vr:=[],av:=[] }
noncomputable def b0 (self:((List (List UInt8))×Int)->Option Out) (e0:(List (List UInt8))->Option Out) (a1:Arg) (J:(List (List UInt8))×Int):Option Out:=bif decide (J.2 < (a1.1.length:Int)) then (if 0<=J.2 then ((a1.1[J.2.toNat]?).bind fun aC=>(dw.ab (aC,())).bind fun bS=>if J.1.length+[bS.1].length<=bm then (self (J.1++[bS.1],ae (J.2+(1:Int)))) else none) else none) else e0 J.1
noncomputable abbrev B0 (_:Nat):=b0
noncomputable def q0 (a1:Arg) (bG:(List (List UInt8))):Option Out:=some (bG,())
noncomputable abbrev Q0 (_:Nat):=q0
noncomputable def s0 (k:Nat) (a1:Arg):((List (List UInt8))×Int)->Option Out:=fun J=>D.L k [1,1,0,1,0,0] [0,3,4] [] (af 0 (an (D.N k [1,1,1]) D.K0)) (T0 a1 J)
noncomputable def r0 (k:Nat) (a1:Arg):((List (List UInt8))×Int)->Option Out:=al (fun w v=>B0 k w (Q0 k a1) a1 v) k
theorem ap (k:Nat) (a1:Arg):s0 k a1=r0 k a1:=
 funext fun J=>am _ _ _ (T0 a1) _ (fun rec v=>by kernel_rfl) k J
noncomputable def p (l0:((List (List UInt8))×Int)->Option Out) (a1:Arg):Option Out:=l0 (([]:List (List UInt8)),(0:Int))
theorem aa (k:Nat) (a1:Arg):@Eq (Option Out) (D.W k a1) (p (r0 k a1) a1):=
 Eq.trans (b:=p (s0 k a1) a1) (by kernel_rfl) (by rw[ap])
theorem ok:Ok prog 232 D.sig:=ao func232 aB (by kernel_rfl) (fc dw.ok (ak _))
end gn
namespace jl
abbrev Arg:Type:=Int×Unit
abbrev Out:Type:=sk×Unit
abbrev ps:PQ:=[(.ro,i64)]
noncomputable def D:FD:={ fn:=f259,tl:=aK,ps:=ps,rs:=[(ko,(aq ko))] }
noncomputable def ab (a:Arg):Option Out:=@lift Out fun k=>D.W k a
noncomputable def p (a1:Arg):Option Out:=some ((a1.1,([]:List cE),([]:List (List UInt8)),()),())
theorem aa (k:Nat) (a1:Arg):@Eq (Option Out) (D.W k a1) (p a1):=by kernel_rfl
theorem ok:Ok prog 259 D.sig:=ao func259 aB (by kernel_rfl) (ak _)
end jl
namespace gu
abbrev Arg:Type:=UInt8×Unit
abbrev Out:Type:=(List UInt8)×Unit
abbrev ps:PQ:=[(.ro,u8)]
noncomputable def D:FD:={ fn:=f261,tl:=aK,ps:=ps,rs:=[((.U u8),(aq (.U u8)))],lv:=[(3,[0,3,4])],lx:=[(0,[3])] }
noncomputable def ab (a:Arg):Option Out:=@lift Out fun k=>D.W k a
noncomputable def T0 (a1:Arg) (J:(List UInt8)×Int):St:={ n:=19,sl:=[(0,.val u8 a1.1),(3,.own (.U u8) (aq (.U u8)) [] J.1),(4,.val i64 J.2)],vr:=[],av:=[] }
noncomputable def b0 (self:((List UInt8)×Int)->Option Out) (e0:(List UInt8)->Option Out) (a1:Arg) (J:(List UInt8)×Int):Option Out:=bif decide (J.2 < (64:Int)) then (if 0<=J.2/\J.2 < (J.1.length:Int) then ((J.1[J.2.toNat]?).bind fun aC=>self (J.1.set J.2.toNat a1.1,ae (J.2+(1:Int)))) else none) else e0 J.1
noncomputable abbrev B0 (_:Nat):=b0
noncomputable def q0 (a1:Arg) (jR:(List UInt8)):Option Out:=if 0<=(0:Int)/\(0:Int) < (jR.length:Int) then ((jR[0]?).bind fun db=>if 0<=(1:Int)/\(1:Int) < ((jR.set 0 (0:UInt8)).length:Int) then (((jR.set 0 (0:UInt8))[1]?).bind fun oJ=>let vu:=(jR.set 0 (0:UInt8)).set 1 (64:UInt8);some (vu,())) else none) else none
noncomputable abbrev Q0 (_:Nat):=q0
noncomputable def s0 (k:Nat) (a1:Arg):((List UInt8)×Int)->Option Out:=fun J=>D.L k [1,1,0,1,0,0] [0,3,4] [] (af 0 (an (D.N k [1,1,1]) D.K0)) (T0 a1 J)
noncomputable def r0 (k:Nat) (a1:Arg):((List UInt8)×Int)->Option Out:=al (fun w v=>B0 k w (Q0 k a1) a1 v) k
theorem ap (k:Nat) (a1:Arg):s0 k a1=r0 k a1:=
 funext fun J=>am _ _ _ (T0 a1) _ (fun rec v=>by kernel_rfl) k J
noncomputable def p (l0:((List UInt8)×Int)->Option Out) (a1:Arg):Option Out:=if 0<=(64:Int)/\(64:Int)<=(64:Int)/\(64:Int)<=(bm:Int) then (l0 (List.replicate 64 (0:UInt8),(0:Int))) else none
theorem aa (k:Nat) (a1:Arg):@Eq (Option Out) (D.W k a1) (p (r0 k a1) a1):=
 Eq.trans (b:=p (s0 k a1) a1) (by kernel_rfl) (by rw[ap])
theorem ok:Ok prog 261 D.sig:=ao func261 aB (by kernel_rfl) (ak _)
end gu
namespace eB
abbrev Arg:Type:=(List UInt8)×(List cE)×Unit
abbrev Out:Type:=(List UInt8)×Unit
abbrev ps:PQ:=[(.ro,(.U u8)),(.ro,(.U pe))]
noncomputable def D:FD:={ fn:=f262,tl:=aK,ps:=ps,rs:=[((.U u8),(aq (.U u8)))],gl:=[(109,dw.D.sig)],lv:=[(3,[1,5,6])],lx:=[(0,[5])],od:=[(5,[0,1,2,3,4,5,6,7,8,9,10,11,12])] }
noncomputable def ab (a:Arg):Option Out:=@lift Out fun k=>D.W k a
noncomputable def T0 (a1:Arg) (aN:(List UInt8)×Int):St:={ n:=29,sl:=[(1,.val (.U pe) a1.2.1),(5,.own (.U u8) (aq (.U u8)) [] aN.1),(6,.val i64 aN.2)],vr:=[],av:=[] }
noncomputable def b0 (self:((List UInt8)×Int)->Option Out) (e0:(List UInt8)->Option Out) (a1:Arg) (aN:(List UInt8)×Int):Option Out:=bif decide (aN.2 < (a1.2.1.length:Int)) then (if 0<=aN.2 then ((a1.2.1[aN.2.toNat]?).bind fun bU=>if 0<=bU.1/\bU.1<=(aN.1.length:Int) then (if 0<=aN.2 then ((a1.2.1[aN.2.toNat]?).bind fun db=>let vt:=lc aN.1 bU.1.toNat (min db.2.1.length (aN.1.length - bU.1.toNat)) db.2.1;self (vt,ae (aN.2+(1:Int)))) else none) else none) else none) else e0 aN.1
noncomputable abbrev B0 (_:Nat):=b0
noncomputable def q0 (a1:Arg) (gI:(List UInt8)):Option Out:=some (gI,())
noncomputable abbrev Q0 (_:Nat):=q0
noncomputable def s0 (k:Nat) (a1:Arg):((List UInt8)×Int)->Option Out:=fun aN=>D.L k [1,1,0,1,0,0] [1,5,6] [] (af 0 (an (D.N k [1,1,1]) D.K0)) (T0 a1 aN)
noncomputable def r0 (k:Nat) (a1:Arg):((List UInt8)×Int)->Option Out:=al (fun w v=>B0 k w (Q0 k a1) a1 v) k
theorem ap (k:Nat) (a1:Arg):s0 k a1=r0 k a1:=
 funext fun aN=>am _ _ _ (T0 a1) _ (fun rec v=>by kernel_rfl) k aN
noncomputable def p (l0:((List UInt8)×Int)->Option Out) (a1:Arg):Option Out:=(dw.ab (a1.1,())).bind fun r2=>l0 (r2.1,(0:Int))
theorem aa (k:Nat) (a1:Arg):@Eq (Option Out) (D.W k a1) (p (r0 k a1) a1):=
 Eq.trans (b:=p (s0 k a1) a1) (by kernel_rfl) (by rw[ap])
theorem ok:Ok prog 262 D.sig:=ao func262 aB (by kernel_rfl) (fc dw.ok (ak _))
end eB
namespace bN
abbrev Arg:Type:=(List (List UInt8))×aL×Unit
abbrev Out:Type:=sk×Unit
abbrev ps:PQ:=[(.ro,(.U (.U u8))),(.ro,bQ)]
noncomputable def D:FD:={ fn:=f193,tl:=aK,ps:=ps,rs:=[(ko,(aq ko))],gl:=[(227,gf.D.sig),(232,gn.D.sig),(259,jl.D.sig),(260,gm.D.sig),(261,gu.D.sig),(262,eB.D.sig)],lv:=[(4,[0,3,4,5])],lx:=[(0,[0,3,4])],od:=[(20,[0,1,2,3,4,5,6]),(21,[0,1,2,3,4,5,6,7,8,9,10,11,12,13,14])] }
noncomputable def ab (a:Arg):Option Out:=@lift Out fun k=>D.W k a
noncomputable def T0 (a1:Arg) (aN:Int):St:={ n:=75,sl:=[(0,.val (.U (.U u8)) a1.1),(3,.box bQ (ay bQ) [] a1.2.1),(4,.box ko (aq ko) [] ((0:Int),([]:List cE),([]:List (List UInt8)),())),(5,.val i64 aN)],vr:=[],av:=[] }
noncomputable def b0 (self:Int->Option Out) (e0:(Unit)->Option Out) (a1:Arg) (aN:Int):Option Out:=bif decide (aN < (a1.1.length:Int)) then (if 0<=aN then ((a1.1[aN.toNat]?).bind fun bU=>bif !decide ((bU.length:Int)=(64:Int)) then ((jl.ab ((1:Int),())).bind fun gA=>some (gA.1,())) else self (ae (aN+(1:Int)))) else none) else e0 ()
noncomputable abbrev B0 (_:Nat):=b0
noncomputable def q0 (a1:Arg) (gz:(Unit)):Option Out:=(gf.ab (a1.2.1,())).bind fun iS=>bif !decide (iS.1=(0:Int)) then ((jl.ab (iS.1,())).bind fun zy=>some (zy.1,())) else (gn.ab (a1.1,())).bind fun pU=>(gm.ab (a1.2.1.1,())).bind fun rq=>bif !rq.1 then (some (((0:Int),([]:List cE),pU.1,()),())) else bif decide ((a1.1.length:Int) < a1.2.1.2.2.1) then ((jl.ab ((1:Int),())).bind fun QJ=>some (QJ.1,())) else bif decide (a1.2.1.2.2.1=(12:Int)) then ((jl.ab ((2:Int),())).bind fun JX=>some (JX.1,())) else let NL:=fun (tK:sk)=>(if 0<=a1.2.1.2.2.1/\a1.2.1.2.2.1 < (tK.2.2.1.length:Int) then ((tK.2.2.1[a1.2.1.2.2.1.toNat]?).bind fun QL=>(tK.2.2.1[a1.2.1.2.2.1.toNat]?).bind fun JZ=>(eB.ab (JZ,a1.2.1.2.2.2.1,())).bind fun J0=>if 0<=a1.2.1.2.2.1/\a1.2.1.2.2.1 < (tK.2.2.1.length:Int) then ((tK.2.2.1[a1.2.1.2.2.1.toNat]?).bind fun QM=>some ((tK.1,tK.2.1,tK.2.2.1.set a1.2.1.2.2.1.toNat J0.1,tK.2.2.2),())) else none) else none:Option Out);bif decide (a1.2.1.2.2.1=(a1.1.length:Int)) then ((gu.ab ((0:UInt8),())).bind fun Gc=>if pU.1.length+[Gc.1].length<=bm then (NL ((0:Int),([]:List cE),pU.1++[Gc.1],())) else none) else NL ((0:Int),([]:List cE),pU.1,())
noncomputable abbrev Q0 (_:Nat):=q0
noncomputable def s0 (k:Nat) (a1:Arg):(Int)->Option Out:=fun aN=>D.L k [1,1,0,1,0,0] [0,3,4,5] [] (af 0 (an (D.N k [1,1,1]) D.K0)) (T0 a1 aN)
noncomputable def r0 (k:Nat) (a1:Arg):(Int)->Option Out:=al (fun w v=>B0 k w (Q0 k a1) a1 v) k
theorem ap (k:Nat) (a1:Arg):s0 k a1=r0 k a1:=
 funext fun aN=>am _ _ _ (T0 a1) _ (fun rec v=>by kernel_rfl) k aN
noncomputable def p (l0:(Int)->Option Out) (a1:Arg):Option Out:=bif decide ((12:Int) < (a1.1.length:Int)) then ((jl.ab ((2:Int),())).bind fun r2=>some (r2.1,())) else l0 (0:Int)
theorem aa (k:Nat) (a1:Arg):@Eq (Option Out) (D.W k a1) (p (r0 k a1) a1):=
 Eq.trans (b:=p (s0 k a1) a1) (by kernel_rfl) (by rw[ap])
theorem ok:Ok prog 193 D.sig:=ao func193 aB (by kernel_rfl) (fc gf.ok (fc gn.ok (fc jl.ok (fc gm.ok (fc gu.ok (fc eB.ok (ak _)))))))
end bN
namespace fL
abbrev Arg:Type:=(List aL)×Unit
abbrev Out:Type:=(List (List UInt8))×Int×Unit
abbrev ps:PQ:=[(.ro,(.U bQ))]
noncomputable def D:FD:={ fn:=f120,tl:=aK,ps:=ps,rs:=[((.U (.U u8)),(aq (.U (.U u8)))),(i64,(ay i64))],gl:=[(193,bN.D.sig)],lv:=[(3,[0,4,5])],lx:=[(0,[4])],od:=[(7,[0,1,2,3])] }
noncomputable def ab (a:Arg):Option Out:=@lift Out fun k=>D.W k a
noncomputable def T0 (a1:Arg) (J:(List (List UInt8))×Int):St:={ n:=28,sl:=[(0,.val (.U bQ) a1.1),(4,.own (.U (.U u8)) (aq (.U (.U u8))) [] J.1),(5,.val i64 J.2)],vr:=[],av:=[] }
noncomputable def b0 (self:((List (List UInt8))×Int)->Option Out) (e0:(List (List UInt8))->Option Out) (a1:Arg) (J:(List (List UInt8))×Int):Option Out:=bif decide (J.2 < (a1.1.length:Int)) then (if 0<=J.2 then ((a1.1[J.2.toNat]?).bind fun aC=>(bN.ab (J.1,aC,())).bind fun bS=>bif !decide (bS.1.1=(0:Int)) then (some (([]:List (List UInt8)),bS.1.1,())) else self (bS.1.2.2.1,ae (J.2+(1:Int)))) else none) else e0 J.1
noncomputable abbrev B0 (_:Nat):=b0
noncomputable def q0 (a1:Arg) (bG:(List (List UInt8))):Option Out:=some (bG,(0:Int),())
noncomputable abbrev Q0 (_:Nat):=q0
noncomputable def s0 (k:Nat) (a1:Arg):((List (List UInt8))×Int)->Option Out:=fun J=>D.L k [1,1,0,1,0,0] [0,4,5] [] (af 0 (an (D.N k [1,1,1]) D.K0)) (T0 a1 J)
noncomputable def r0 (k:Nat) (a1:Arg):((List (List UInt8))×Int)->Option Out:=al (fun w v=>B0 k w (Q0 k a1) a1 v) k
theorem ap (k:Nat) (a1:Arg):s0 k a1=r0 k a1:=
 funext fun J=>am _ _ _ (T0 a1) _ (fun rec v=>by kernel_rfl) k J
noncomputable def p (l0:((List (List UInt8))×Int)->Option Out) (a1:Arg):Option Out:=l0 (([]:List (List UInt8)),(0:Int))
theorem aa (k:Nat) (a1:Arg):@Eq (Option Out) (D.W k a1) (p (r0 k a1) a1):=
 Eq.trans (b:=p (s0 k a1) a1) (by kernel_rfl) (by rw[ap])
theorem ok:Ok prog 120 D.sig:=ao func120 aB (by kernel_rfl) (fc bN.ok (ak _))
end fL
namespace ip
abbrev Arg:Type:=Log×Unit
abbrev Out:Type:=(List aL)×Unit
abbrev ps:PQ:=[(.ro,(.ptr eS))]
noncomputable def D:FD:={ fn:=f121,tl:=aK,ps:=ps,rs:=[((.U bQ),(aq (.U bQ)))],gl:=[(109,dw.D.sig),(189,dx.D.sig)],od:=[(1,[0,1,2,3,5,6,7,8,4,9,10,11,12,13,14,15])] }
noncomputable def ab (a:Arg):Option Out:=@lift Out fun k=>D.W k a
noncomputable def p (a1:Arg):Option Out:=(dw.ab (a1.1.1,())).bind fun r2=>if r2.1.length+a1.1.2.1.length<=bm then ((dx.ab (r2.1++a1.1.2.1,())).bind fun r3=>some (r3.1,())) else none
theorem aa (k:Nat) (a1:Arg):@Eq (Option Out) (D.W k a1) (p a1):=by kernel_rfl
theorem ok:Ok prog 121 D.sig:=ao func121 aB (by kernel_rfl) (fc dw.ok (fc dx.ok (ak _)))
end ip
namespace fd
abbrev Arg:Type:=(List (List UInt8))×(List (List UInt8))×Unit
abbrev Out:Type:=Bool×Unit
abbrev ps:PQ:=[(.ro,(.U (.U u8))),(.ro,(.U (.U u8)))]
noncomputable def D:FD:={ fn:=f122,tl:=aK,ps:=ps,rs:=[(.bool,(ay .bool))],lv:=[(4,[0,1,5])],lx:=[(0,[])],od:=[(6,[0,1,2,3,4,5,6,7,8,9,10])] }
noncomputable def ab (a:Arg):Option Out:=@lift Out fun k=>D.W k a
noncomputable def T0 (a1:Arg) (J:Int):St:={ n:=28,sl:=[(0,.val (.U (.U u8)) a1.1),(1,.val (.U (.U u8)) a1.2.1),(5,.val i64 J)],vr:=[],av:=[] }
noncomputable def b0 (self:Int->Option Out) (e0:(Unit)->Option Out) (a1:Arg) (J:Int):Option Out:=bif decide (J < (a1.1.length:Int)) then (if 0<=J then ((a1.1[J.toNat]?).bind fun aC=>if 0<=J then ((a1.2.1[J.toNat]?).bind fun bU=>bif !decide (aC=bU) then (some (false,())) else self (ae (J+(1:Int)))) else none) else none) else e0 ()
noncomputable abbrev B0 (_:Nat):=b0
noncomputable def q0 (a1:Arg) (bG:(Unit)):Option Out:=some (true,())
noncomputable abbrev Q0 (_:Nat):=q0
noncomputable def s0 (k:Nat) (a1:Arg):(Int)->Option Out:=fun J=>D.L k [1,1,0,1,0,0] [0,1,5] [] (af 0 (an (D.N k [1,1,1]) D.K0)) (T0 a1 J)
noncomputable def r0 (k:Nat) (a1:Arg):(Int)->Option Out:=al (fun w v=>B0 k w (Q0 k a1) a1 v) k
theorem ap (k:Nat) (a1:Arg):s0 k a1=r0 k a1:=
 funext fun J=>am _ _ _ (T0 a1) _ (fun rec v=>by kernel_rfl) k J
noncomputable def p (l0:(Int)->Option Out) (a1:Arg):Option Out:=bif !decide ((a1.1.length:Int)=(a1.2.1.length:Int)) then (some (false,())) else l0 (0:Int)
theorem aa (k:Nat) (a1:Arg):@Eq (Option Out) (D.W k a1) (p (r0 k a1) a1):=
 Eq.trans (b:=p (s0 k a1) a1) (by kernel_rfl) (by rw[ap])
theorem ok:Ok prog 122 D.sig:=ao func122 aB (by kernel_rfl) (ak _)
end fd
namespace jI
abbrev Arg:Type:=fN×Unit
abbrev Out:Type:=Int×Unit
abbrev ps:PQ:=[(.ro,(.ptr co))]
noncomputable def D:FD:={ fn:=f56,tl:=aK,ps:=ps,rs:=[(i64,(ay i64))],gl:=[(72,fK.D.sig),(75,c7.D.sig),(117,jq.D.sig),(118,aT.D.sig),(119,bV.D.sig),(120,fL.D.sig),(121,ip.D.sig),(122,fd.D.sig)],od:=[(13,[0,1,2,3,5,6,7,8,9,10,11,12,4,13,14,15])],ar:=[(13,[3,8,12])],pd:=[(13,[14])] }
noncomputable def ab (a:Arg):Option Out:=@lift Out fun k=>D.W k a
noncomputable def p (a1:Arg):Option Out:=(jq.ab (a1.1.2.2.1,())).bind fun r2=>bif !decide (r2.1=(0:Int)) then (some (r2.1,())) else bif !a1.1.1 then (bif decide ((0:Int) < (a1.1.2.1.length:Int)) then (some ((1:Int),())) else bif decide ((0:Int) < (a1.1.2.2.2.1.length:Int)) then (some ((1:Int),())) else bif decide ((0:Int) < (a1.1.2.2.1.2.1.length:Int)) then (some ((1:Int),())) else (aT.ab (a1.1.2.2.2.2.1,(1:Int),(100:Int),())).bind fun r3=>bif !r3.1 then (some ((3:Int),())) else some ((0:Int),())) else (bV.ab (a1.1.2.1,())).bind fun r4=>bif !decide (r4.1=(0:Int)) then (some (r4.1,())) else (c7.ab (a1.1.2.1,())).bind fun r5=>(fK.ab ((r5.1,a1.1.2.2.2.1,a1.1.2.2.2.2.1,()),())).bind fun r6=>bif !decide (r6.1=(0:Int)) then (some (r6.1,())) else (ip.ab (a1.1.2.2.1,())).bind fun r7=>(fL.ab (r7.1,())).bind fun r8=>bif !decide (r8.2.1=(0:Int)) then (some ((8:Int),())) else (fd.ab (r8.1,a1.1.2.1,())).bind fun r9=>bif !r9.1 then (some ((8:Int),())) else some ((0:Int),())
theorem aa (k:Nat) (a1:Arg):@Eq (Option Out) (D.W k a1) (p a1):=by kernel_rfl
theorem ok:Ok prog 56 D.sig:=ao func56 aB (by kernel_rfl) (fc fK.ok (fc c7.ok (fc jq.ok (fc aT.ok (fc bV.ok (fc fL.ok (fc ip.ok (fc fd.ok (ak _)))))))))
end jI
namespace cH
abbrev Arg:Type:=(List UInt8)×Unit
abbrev Out:Type:=(List UInt8)×Unit
abbrev ps:PQ:=[(.ro,(.U u8))]
noncomputable def D:FD:={ fn:=f35,tl:=aK,ps:=ps,rs:=[((.U u8),(aq (.U u8)))],lv:=[(3,[0,3,4])],lx:=[(0,[3])] }
noncomputable def ab (a:Arg):Option Out:=@lift Out fun k=>D.W k a
noncomputable def T0 (a1:Arg) (J:(List UInt8)×Int):St:={ n:=22,sl:=[(0,.val (.U u8) a1.1),(3,.own (.U u8) (aq (.U u8)) [] J.1),(4,.val i64 J.2)],vr:=[],av:=[] }
noncomputable def b0 (self:((List UInt8)×Int)->Option Out) (e0:(List UInt8)->Option Out) (a1:Arg) (J:(List UInt8)×Int):Option Out:=bif decide (J.2 < (a1.1.length:Int)) then (if 0<=J.2 then ((a1.1[J.2.toNat]?).bind fun aC=>if 0<=J.2/\J.2 < (J.1.length:Int) then ((J.1[J.2.toNat]?).bind fun bU=>self (J.1.set J.2.toNat aC,ae (J.2+(1:Int)))) else none) else none) else e0 J.1
noncomputable abbrev B0 (_:Nat):=b0
noncomputable def q0 (a1:Arg) (bG:(List UInt8)):Option Out:=some (bG,())
noncomputable abbrev Q0 (_:Nat):=q0
noncomputable def s0 (k:Nat) (a1:Arg):((List UInt8)×Int)->Option Out:=fun J=>D.L k [1,1,0,1,0,0] [0,3,4] [] (af 0 (an (D.N k [1,1,1]) D.K0)) (T0 a1 J)
noncomputable def r0 (k:Nat) (a1:Arg):((List UInt8)×Int)->Option Out:=al (fun w v=>B0 k w (Q0 k a1) a1 v) k
theorem ap (k:Nat) (a1:Arg):s0 k a1=r0 k a1:=
 funext fun J=>am _ _ _ (T0 a1) _ (fun rec v=>by kernel_rfl) k J
noncomputable def p (l0:((List UInt8)×Int)->Option Out) (a1:Arg):Option Out:=if 0<=(a1.1.length:Int)/\(a1.1.length:Int)<=(a1.1.length:Int)/\(a1.1.length:Int)<=(bm:Int) then (l0 (List.replicate (a1.1.length:Int).toNat (0:UInt8),(0:Int))) else none
theorem aa (k:Nat) (a1:Arg):@Eq (Option Out) (D.W k a1) (p (r0 k a1) a1):=
 Eq.trans (b:=p (s0 k a1) a1) (by kernel_rfl) (by rw[ap])
theorem ok:Ok prog 35 D.sig:=ao func35 aB (by kernel_rfl) (ak _)
end cH
namespace dB
abbrev Arg:Type:=(List (List UInt8))×Unit
abbrev Out:Type:=(List (List UInt8))×Unit
abbrev ps:PQ:=[(.ro,(.U (.U u8)))]
noncomputable def D:FD:={ fn:=f57,tl:=aK,ps:=ps,rs:=[((.U (.U u8)),(aq (.U (.U u8))))],gl:=[(35,cH.D.sig)],lv:=[(3,[0,3,4])],lx:=[(0,[3])] }
noncomputable def ab (a:Arg):Option Out:=@lift Out fun k=>D.W k a
noncomputable def T0 (a1:Arg) (J:(List (List UInt8))×Int):St:={ n:=23,sl:=[(0,.val (.U (.U u8)) a1.1),(3,.own (.U (.U u8)) (aq (.U (.U u8))) [] J.1),(4,.val i64 J.2)],vr:=[],av:=[] }
noncomputable def b0 (self:((List (List UInt8))×Int)->Option Out) (e0:(List (List UInt8))->Option Out) (a1:Arg) (J:(List (List UInt8))×Int):Option Out:=bif decide (J.2 < (a1.1.length:Int)) then (if 0<=J.2 then ((a1.1[J.2.toNat]?).bind fun aC=>(cH.ab (aC,())).bind fun bS=>if 0<=J.2/\J.2 < (J.1.length:Int) then ((J.1[J.2.toNat]?).bind fun db=>self (J.1.set J.2.toNat bS.1,ae (J.2+(1:Int)))) else none) else none) else e0 J.1
noncomputable abbrev B0 (_:Nat):=b0
noncomputable def q0 (a1:Arg) (gz:(List (List UInt8))):Option Out:=some (gz,())
noncomputable abbrev Q0 (_:Nat):=q0
noncomputable def s0 (k:Nat) (a1:Arg):((List (List UInt8))×Int)->Option Out:=fun J=>D.L k [1,1,0,1,0,0] [0,3,4] [] (af 0 (an (D.N k [1,1,1]) D.K0)) (T0 a1 J)
noncomputable def r0 (k:Nat) (a1:Arg):((List (List UInt8))×Int)->Option Out:=al (fun w v=>B0 k w (Q0 k a1) a1 v) k
theorem ap (k:Nat) (a1:Arg):s0 k a1=r0 k a1:=
 funext fun J=>am _ _ _ (T0 a1) _ (fun rec v=>by kernel_rfl) k J
noncomputable def p (l0:((List (List UInt8))×Int)->Option Out) (a1:Arg):Option Out:=if 0<=(a1.1.length:Int)/\(a1.1.length:Int)<=(a1.1.length:Int)/\(a1.1.length:Int)<=(bm:Int) then (l0 (List.replicate (a1.1.length:Int).toNat ([]:List UInt8),(0:Int))) else none
theorem aa (k:Nat) (a1:Arg):@Eq (Option Out) (D.W k a1) (p (r0 k a1) a1):=
 Eq.trans (b:=p (s0 k a1) a1) (by kernel_rfl) (by rw[ap])
theorem ok:Ok prog 57 D.sig:=ao func57 aB (by kernel_rfl) (fc cH.ok (ak _))
end dB
namespace kQ
abbrev Arg:Type:=Log×Unit
abbrev Out:Type:=Log×Unit
abbrev ps:PQ:=[(.ro,eS)]
noncomputable def D:FD:={ fn:=f58,tl:=aK,ps:=ps,rs:=[(eS,(aq eS))],gl:=[(35,cH.D.sig)] }
noncomputable def ab (a:Arg):Option Out:=@lift Out fun k=>D.W k a
noncomputable def p (a1:Arg):Option Out:=(cH.ab (a1.1.1,())).bind fun r2=>(cH.ab (a1.1.2.1,())).bind fun r3=>some ((r2.1,r3.1,()),())
theorem aa (k:Nat) (a1:Arg):@Eq (Option Out) (D.W k a1) (p a1):=by kernel_rfl
theorem ok:Ok prog 58 D.sig:=ao func58 aB (by kernel_rfl) (fc cH.ok (ak _))
end kQ
namespace gQ
abbrev Arg:Type:=Row×Unit
abbrev Out:Type:=Row×Unit
abbrev ps:PQ:=[(.ro,aw)]
noncomputable def D:FD:={ fn:=f147,tl:=aK,ps:=ps,rs:=[(aw,(ay aw))] }
noncomputable def ab (a:Arg):Option Out:=@lift Out fun k=>D.W k a
noncomputable def p (a1:Arg):Option Out:=some ((a1.1.1,a1.1.2.1,a1.1.2.2.1,a1.1.2.2.2.1,()),())
theorem aa (k:Nat) (a1:Arg):@Eq (Option Out) (D.W k a1) (p a1):=by kernel_rfl
theorem ok:Ok prog 147 D.sig:=ao func147 aB (by kernel_rfl) (ak _)
end gQ
namespace iK
abbrev Arg:Type:=Change×Unit
abbrev Out:Type:=Change×Unit
abbrev ps:PQ:=[(.ro,au)]
noncomputable def D:FD:={ fn:=f263,tl:=aK,ps:=ps,rs:=[(au,(ay au))],gl:=[(147,gQ.D.sig)] }
noncomputable def ab (a:Arg):Option Out:=@lift Out fun k=>D.W k a
noncomputable def p (a1:Arg):Option Out:=(gQ.ab (a1.1.2.1,())).bind fun r2=>(gQ.ab (a1.1.2.2.2.1,())).bind fun r3=>some ((a1.1.1,r2.1,a1.1.2.2.1,r3.1,()),())
theorem aa (k:Nat) (a1:Arg):@Eq (Option Out) (D.W k a1) (p a1):=by kernel_rfl
theorem ok:Ok prog 263 D.sig:=ao func263 aB (by kernel_rfl) (fc gQ.ok (ak _))
end iK
namespace cT
abbrev Arg:Type:=(List Change)×Unit
abbrev Out:Type:=(List Change)×Unit
abbrev ps:PQ:=[(.ro,(.U au))]
noncomputable def D:FD:={ fn:=f194,tl:=aK,ps:=ps,rs:=[((.U au),(aq (.U au)))],gl:=[(263,iK.D.sig)],lv:=[(3,[0,3,4])],lx:=[(0,[3])] }
noncomputable def ab (a:Arg):Option Out:=@lift Out fun k=>D.W k a
noncomputable def T0 (a1:Arg) (J:(List Change)×Int):St:={ n:=23,sl:=[(0,.val (.U au) a1.1),(3,.own (.U au) (aq (.U au)) [] J.1),(4,.val i64 J.2)],vr:=[],av:=[] }
noncomputable def b0 (self:((List Change)×Int)->Option Out) (e0:(List Change)->Option Out) (a1:Arg) (J:(List Change)×Int):Option Out:=bif decide (J.2 < (a1.1.length:Int)) then (if 0<=J.2 then ((a1.1[J.2.toNat]?).bind fun aC=>(iK.ab (aC,())).bind fun bS=>if 0<=J.2/\J.2 < (J.1.length:Int) then ((J.1[J.2.toNat]?).bind fun db=>self (J.1.set J.2.toNat bS.1,ae (J.2+(1:Int)))) else none) else none) else e0 J.1
noncomputable abbrev B0 (_:Nat):=b0
noncomputable def q0 (a1:Arg) (gz:(List Change)):Option Out:=some (gz,())
noncomputable abbrev Q0 (_:Nat):=q0
noncomputable def s0 (k:Nat) (a1:Arg):((List Change)×Int)->Option Out:=fun J=>D.L k [1,1,0,1,0,0] [0,3,4] [] (af 0 (an (D.N k [1,1,1]) D.K0)) (T0 a1 J)
noncomputable def r0 (k:Nat) (a1:Arg):((List Change)×Int)->Option Out:=al (fun w v=>B0 k w (Q0 k a1) a1 v) k
theorem ap (k:Nat) (a1:Arg):s0 k a1=r0 k a1:=
 funext fun J=>am _ _ _ (T0 a1) _ (fun rec v=>by kernel_rfl) k J
noncomputable def p (l0:((List Change)×Int)->Option Out) (a1:Arg):Option Out:=if 0<=(a1.1.length:Int)/\(a1.1.length:Int)<=(a1.1.length:Int)/\(a1.1.length:Int)<=(bm:Int) then (l0 (List.replicate (a1.1.length:Int).toNat (false,((0:Int),(0:Int),(0:Int),([]:List UInt8),()),false,((0:Int),(0:Int),(0:Int),([]:List UInt8),()),()),(0:Int))) else none
theorem aa (k:Nat) (a1:Arg):@Eq (Option Out) (D.W k a1) (p (r0 k a1) a1):=
 Eq.trans (b:=p (s0 k a1) a1) (by kernel_rfl) (by rw[ap])
theorem ok:Ok prog 194 D.sig:=ao func194 aB (by kernel_rfl) (fc iK.ok (ak _))
end cT
namespace dC
abbrev Arg:Type:=(List Int)×Unit
abbrev Out:Type:=(List Int)×Unit
abbrev ps:PQ:=[(.ro,(.U i64))]
noncomputable def D:FD:={ fn:=f195,tl:=aK,ps:=ps,rs:=[((.U i64),(aq (.U i64)))],lv:=[(3,[0,3,4])],lx:=[(0,[3])] }
noncomputable def ab (a:Arg):Option Out:=@lift Out fun k=>D.W k a
noncomputable def T0 (a1:Arg) (J:(List Int)×Int):St:={ n:=22,sl:=[(0,.val (.U i64) a1.1),(3,.own (.U i64) (aq (.U i64)) [] J.1),(4,.val i64 J.2)],vr:=[],av:=[] }
noncomputable def b0 (self:((List Int)×Int)->Option Out) (e0:(List Int)->Option Out) (a1:Arg) (J:(List Int)×Int):Option Out:=bif decide (J.2 < (a1.1.length:Int)) then (if 0<=J.2 then ((a1.1[J.2.toNat]?).bind fun aC=>if 0<=J.2/\J.2 < (J.1.length:Int) then ((J.1[J.2.toNat]?).bind fun bU=>self (J.1.set J.2.toNat aC,ae (J.2+(1:Int)))) else none) else none) else e0 J.1
noncomputable abbrev B0 (_:Nat):=b0
noncomputable def q0 (a1:Arg) (bG:(List Int)):Option Out:=some (bG,())
noncomputable abbrev Q0 (_:Nat):=q0
noncomputable def s0 (k:Nat) (a1:Arg):((List Int)×Int)->Option Out:=fun J=>D.L k [1,1,0,1,0,0] [0,3,4] [] (af 0 (an (D.N k [1,1,1]) D.K0)) (T0 a1 J)
noncomputable def r0 (k:Nat) (a1:Arg):((List Int)×Int)->Option Out:=al (fun w v=>B0 k w (Q0 k a1) a1 v) k
theorem ap (k:Nat) (a1:Arg):s0 k a1=r0 k a1:=
 funext fun J=>am _ _ _ (T0 a1) _ (fun rec v=>by kernel_rfl) k J
noncomputable def p (l0:((List Int)×Int)->Option Out) (a1:Arg):Option Out:=if 0<=(a1.1.length:Int)/\(a1.1.length:Int)<=(a1.1.length:Int)/\(a1.1.length:Int)<=(bm:Int) then (l0 (List.replicate (a1.1.length:Int).toNat (0:Int),(0:Int))) else none
theorem aa (k:Nat) (a1:Arg):@Eq (Option Out) (D.W k a1) (p (r0 k a1) a1):=
 Eq.trans (b:=p (s0 k a1) a1) (by kernel_rfl) (by rw[ap])
theorem ok:Ok prog 195 D.sig:=ao func195 aB (by kernel_rfl) (ak _)
end dC
namespace kR
abbrev Arg:Type:=Key×Unit
abbrev Out:Type:=Key×Unit
abbrev ps:PQ:=[(.ro,aF)]
noncomputable def D:FD:={ fn:=f264,tl:=aK,ps:=ps,rs:=[(aF,(ay aF))] }
noncomputable def ab (a:Arg):Option Out:=@lift Out fun k=>D.W k a
noncomputable def p (a1:Arg):Option Out:=some ((a1.1.1,a1.1.2.1,()),())
theorem aa (k:Nat) (a1:Arg):@Eq (Option Out) (D.W k a1) (p a1):=by kernel_rfl
theorem ok:Ok prog 264 D.sig:=ao func264 aB (by kernel_rfl) (ak _)
end kR
namespace eK
abbrev Arg:Type:=(List Key)×Unit
abbrev Out:Type:=(List Key)×Unit
abbrev ps:PQ:=[(.ro,(.U aF))]
noncomputable def D:FD:={ fn:=f196,tl:=aK,ps:=ps,rs:=[((.U aF),(aq (.U aF)))],gl:=[(264,kR.D.sig)],lv:=[(3,[0,3,4])],lx:=[(0,[3])] }
noncomputable def ab (a:Arg):Option Out:=@lift Out fun k=>D.W k a
noncomputable def T0 (a1:Arg) (J:(List Key)×Int):St:={ n:=23,sl:=[(0,.val (.U aF) a1.1),(3,.own (.U aF) (aq (.U aF)) [] J.1),(4,.val i64 J.2)],vr:=[],av:=[] }
noncomputable def b0 (self:((List Key)×Int)->Option Out) (e0:(List Key)->Option Out) (a1:Arg) (J:(List Key)×Int):Option Out:=bif decide (J.2 < (a1.1.length:Int)) then (if 0<=J.2 then ((a1.1[J.2.toNat]?).bind fun aC=>(kR.ab (aC,())).bind fun bS=>if 0<=J.2/\J.2 < (J.1.length:Int) then ((J.1[J.2.toNat]?).bind fun db=>self (J.1.set J.2.toNat bS.1,ae (J.2+(1:Int)))) else none) else none) else e0 J.1
noncomputable abbrev B0 (_:Nat):=b0
noncomputable def q0 (a1:Arg) (gz:(List Key)):Option Out:=some (gz,())
noncomputable abbrev Q0 (_:Nat):=q0
noncomputable def s0 (k:Nat) (a1:Arg):((List Key)×Int)->Option Out:=fun J=>D.L k [1,1,0,1,0,0] [0,3,4] [] (af 0 (an (D.N k [1,1,1]) D.K0)) (T0 a1 J)
noncomputable def r0 (k:Nat) (a1:Arg):((List Key)×Int)->Option Out:=al (fun w v=>B0 k w (Q0 k a1) a1 v) k
theorem ap (k:Nat) (a1:Arg):s0 k a1=r0 k a1:=
 funext fun J=>am _ _ _ (T0 a1) _ (fun rec v=>by kernel_rfl) k J
noncomputable def p (l0:((List Key)×Int)->Option Out) (a1:Arg):Option Out:=if 0<=(a1.1.length:Int)/\(a1.1.length:Int)<=(a1.1.length:Int)/\(a1.1.length:Int)<=(bm:Int) then (l0 (List.replicate (a1.1.length:Int).toNat ((0:Int),(0:Int),()),(0:Int))) else none
theorem aa (k:Nat) (a1:Arg):@Eq (Option Out) (D.W k a1) (p (r0 k a1) a1):=
 Eq.trans (b:=p (s0 k a1) a1) (by kernel_rfl) (by rw[ap])
theorem ok:Ok prog 196 D.sig:=ao func196 aB (by kernel_rfl) (fc kR.ok (ak _))
end eK
namespace lJ
abbrev Arg:Type:=Tx×Unit
abbrev Out:Type:=Tx×Unit
abbrev ps:PQ:=[(.ro,aX)]
noncomputable def D:FD:={ fn:=f123,tl:=aK,ps:=ps,rs:=[(aX,(aq aX))],gl:=[(194,cT.D.sig),(195,dC.D.sig),(196,eK.D.sig)] }
noncomputable def ab (a:Arg):Option Out:=@lift Out fun k=>D.W k a
noncomputable def p (a1:Arg):Option Out:=(cT.ab (a1.1.2.1,())).bind fun r2=>(dC.ab (a1.1.2.2.1,())).bind fun r3=>(eK.ab (a1.1.2.2.2.1,())).bind fun r4=>some ((a1.1.1,r2.1,r3.1,r4.1,()),())
theorem aa (k:Nat) (a1:Arg):@Eq (Option Out) (D.W k a1) (p a1):=by kernel_rfl
theorem ok:Ok prog 123 D.sig:=ao func123 aB (by kernel_rfl) (fc cT.ok (fc dC.ok (fc eK.ok (ak _))))
end lJ
namespace ec
abbrev Arg:Type:=(List Tx)×Unit
abbrev Out:Type:=(List Tx)×Unit
abbrev ps:PQ:=[(.ro,(.U aX))]
noncomputable def D:FD:={ fn:=f59,tl:=aK,ps:=ps,rs:=[((.U aX),(aq (.U aX)))],gl:=[(123,lJ.D.sig)],lv:=[(3,[0,3,4])],lx:=[(0,[3])] }
noncomputable def ab (a:Arg):Option Out:=@lift Out fun k=>D.W k a
noncomputable def T0 (a1:Arg) (J:(List Tx)×Int):St:={ n:=23,sl:=[(0,.val (.U aX) a1.1),(3,.own (.U aX) (aq (.U aX)) [] J.1),(4,.val i64 J.2)],vr:=[],av:=[] }
noncomputable def b0 (self:((List Tx)×Int)->Option Out) (e0:(List Tx)->Option Out) (a1:Arg) (J:(List Tx)×Int):Option Out:=bif decide (J.2 < (a1.1.length:Int)) then (if 0<=J.2 then ((a1.1[J.2.toNat]?).bind fun aC=>(lJ.ab (aC,())).bind fun bS=>if 0<=J.2/\J.2 < (J.1.length:Int) then ((J.1[J.2.toNat]?).bind fun db=>self (J.1.set J.2.toNat bS.1,ae (J.2+(1:Int)))) else none) else none) else e0 J.1
noncomputable abbrev B0 (_:Nat):=b0
noncomputable def q0 (a1:Arg) (gz:(List Tx)):Option Out:=some (gz,())
noncomputable abbrev Q0 (_:Nat):=q0
noncomputable def s0 (k:Nat) (a1:Arg):((List Tx)×Int)->Option Out:=fun J=>D.L k [1,1,0,1,0,0] [0,3,4] [] (af 0 (an (D.N k [1,1,1]) D.K0)) (T0 a1 J)
noncomputable def r0 (k:Nat) (a1:Arg):((List Tx)×Int)->Option Out:=al (fun w v=>B0 k w (Q0 k a1) a1 v) k
theorem ap (k:Nat) (a1:Arg):s0 k a1=r0 k a1:=
 funext fun J=>am _ _ _ (T0 a1) _ (fun rec v=>by kernel_rfl) k J
noncomputable def p (l0:((List Tx)×Int)->Option Out) (a1:Arg):Option Out:=if 0<=(a1.1.length:Int)/\(a1.1.length:Int)<=(a1.1.length:Int)/\(a1.1.length:Int)<=(bm:Int) then (l0 (List.replicate (a1.1.length:Int).toNat ((0:Int),([]:List Change),([]:List Int),([]:List Key),()),(0:Int))) else none
theorem aa (k:Nat) (a1:Arg):@Eq (Option Out) (D.W k a1) (p (r0 k a1) a1):=
 Eq.trans (b:=p (s0 k a1) a1) (by kernel_rfl) (by rw[ap])
theorem ok:Ok prog 59 D.sig:=ao func59 aB (by kernel_rfl) (fc lJ.ok (ak _))
end ec
namespace gJ
abbrev Arg:Type:=fN×Unit
abbrev Out:Type:=fN×Unit
abbrev ps:PQ:=[(.ro,co)]
noncomputable def D:FD:={ fn:=f13,tl:=aK,ps:=ps,rs:=[(co,(aq co))],gl:=[(57,dB.D.sig),(58,kQ.D.sig),(59,ec.D.sig)] }
noncomputable def ab (a:Arg):Option Out:=@lift Out fun k=>D.W k a
noncomputable def p (a1:Arg):Option Out:=(dB.ab (a1.1.2.1,())).bind fun r2=>(kQ.ab (a1.1.2.2.1,())).bind fun r3=>(ec.ab (a1.1.2.2.2.1,())).bind fun r4=>some ((a1.1.1,r2.1,r3.1,r4.1,a1.1.2.2.2.2.1,()),())
theorem aa (k:Nat) (a1:Arg):@Eq (Option Out) (D.W k a1) (p a1):=by kernel_rfl
theorem ok:Ok prog 13 D.sig:=ao func13 aB (by kernel_rfl) (fc dB.ok (fc kQ.ok (fc ec.ok (ak _))))
end gJ
namespace iL
abbrev Arg:Type:=Log×Unit
abbrev Out:Type:=Int×Unit
abbrev ps:PQ:=[(.ro,eS)]
noncomputable def D:FD:={ fn:=f124,tl:=aK,ps:=ps,rs:=[(i64,(ay i64))] }
noncomputable def ab (a:Arg):Option Out:=@lift Out fun k=>D.W k a
noncomputable def p (a1:Arg):Option Out:=some (ae ((a1.1.1.length:Int)+(a1.1.2.1.length:Int)),())
theorem aa (k:Nat) (a1:Arg):@Eq (Option Out) (D.W k a1) (p a1):=by kernel_rfl
theorem ok:Ok prog 124 D.sig:=ao func124 aB (by kernel_rfl) (ak _)
end iL
namespace cr
abbrev Arg:Type:=Int×Int×Int×Unit
abbrev Out:Type:=Bool×Unit
abbrev ps:PQ:=[(.ro,i64),(.ro,i64),(.ro,i64)]
noncomputable def D:FD:={ fn:=f61,tl:=aK,ps:=ps,rs:=[(.bool,(ay .bool))] }
noncomputable def ab (a:Arg):Option Out:=@lift Out fun k=>D.W k a
noncomputable def p (a1:Arg):Option Out:=bif decide (a1.2.1<=a1.1) then (some (decide (a1.1<=a1.2.2.1),())) else some (false,())
theorem aa (k:Nat) (a1:Arg):@Eq (Option Out) (D.W k a1) (p a1):=by kernel_rfl
theorem ok:Ok prog 61 D.sig:=ao func61 aB (by kernel_rfl) (ak _)
end cr
namespace jt
abbrev Arg:Type:=Int×Unit
abbrev Out:Type:=Bool×Unit
abbrev ps:PQ:=[(.ro,i64)]
noncomputable def D:FD:={ fn:=f203,tl:=aK,ps:=ps,rs:=[(.bool,(ay .bool))],gl:=[(61,cr.D.sig)] }
noncomputable def ab (a:Arg):Option Out:=@lift Out fun k=>D.W k a
noncomputable def p (a1:Arg):Option Out:=(cr.ab (a1.1,(1:Int),(99:Int),())).bind fun r2=>some (r2.1,())
theorem aa (k:Nat) (a1:Arg):@Eq (Option Out) (D.W k a1) (p a1):=by kernel_rfl
theorem ok:Ok prog 203 D.sig:=ao func203 aB (by kernel_rfl) (fc cr.ok (ak _))
end jt
namespace gR
abbrev Arg:Type:=Int×Unit
abbrev Out:Type:=Bool×Unit
abbrev ps:PQ:=[(.ro,i64)]
noncomputable def D:FD:={ fn:=f206,tl:=aK,ps:=ps,rs:=[(.bool,(ay .bool))] }
noncomputable def ab (a:Arg):Option Out:=@lift Out fun k=>D.W k a
noncomputable def p (a1:Arg):Option Out:=bif decide (a1.1=(2:Int)) then (some (true,())) else bif decide (a1.1=(3:Int)) then (some (true,())) else some (decide (a1.1=(4:Int)),())
theorem aa (k:Nat) (a1:Arg):@Eq (Option Out) (D.W k a1) (p a1):=by kernel_rfl
theorem ok:Ok prog 206 D.sig:=ao func206 aB (by kernel_rfl) (ak _)
end gR
namespace cU
abbrev Arg:Type:=(List cE)×Unit
abbrev Out:Type:=Int×Unit
abbrev ps:PQ:=[(.ro,(.U pe))]
noncomputable def D:FD:={ fn:=f207,tl:=aK,ps:=ps,rs:=[(i64,(ay i64))],gl:=[(61,cr.D.sig)],lv:=[(5,[3,10,11,12])],lx:=[(0,[])] }
noncomputable def ab (a:Arg):Option Out:=@lift Out fun k=>D.W k a
noncomputable def T0 (a1:Arg) (J:Int×Int):St:={ n:=45,sl:=[(3,.val i64 J.1),(10,.val (.U pe) a1.1),(11,.val i64 (a1.1.length:Int)),(12,.val i64 J.2)],vr:=[],av:=[] }
noncomputable def b0 (self:(Int×Int)->Option Out) (e0:(Unit)->Option Out) (a1:Arg) (J:Int×Int):Option Out:=bif decide (J.2 < (a1.1.length:Int)) then (if 0<=J.2 then ((a1.1[J.2.toNat]?).bind fun aC=>(cr.ab (aC.1,(0:Int),(63:Int),())).bind fun bS=>bif !bS.1 then (some ((3:Int),())) else (cr.ab ((aC.2.1.length:Int),(1:Int),(64:Int),())).bind fun gA=>bif !gA.1 then (some ((3:Int),())) else bif decide ((64:Int) < ae (aC.1+(aC.2.1.length:Int))) then (some ((3:Int),())) else bif decide (aC.1 < J.1) then (some ((1:Int),())) else self (ae ((ae (aC.1+(aC.2.1.length:Int)))+(1:Int)),ae (J.2+(1:Int)))) else none) else e0 ()
noncomputable abbrev B0 (_:Nat):=b0
noncomputable def q0 (a1:Arg) (gz:(Unit)):Option Out:=some ((0:Int),())
noncomputable abbrev Q0 (_:Nat):=q0
noncomputable def s0 (k:Nat) (a1:Arg):(Int×Int)->Option Out:=fun J=>D.L k [1,1,1,0,1,0,0] [3,10,11,12] [] (af 0 (an (D.N k [1,1,1,1]) D.K0)) (T0 a1 J)
noncomputable def r0 (k:Nat) (a1:Arg):(Int×Int)->Option Out:=al (fun w v=>B0 k w (Q0 k a1) a1 v) k
theorem ap (k:Nat) (a1:Arg):s0 k a1=r0 k a1:=
 funext fun J=>am _ _ _ (T0 a1) _ (fun rec v=>by kernel_rfl) k J
noncomputable def p (l0:(Int×Int)->Option Out) (a1:Arg):Option Out:=bif decide ((64:Int) < (a1.1.length:Int)) then (some ((2:Int),())) else l0 ((0:Int),(0:Int))
theorem aa (k:Nat) (a1:Arg):@Eq (Option Out) (D.W k a1) (p (r0 k a1) a1):=
 Eq.trans (b:=p (s0 k a1) a1) (by kernel_rfl) (by rw[ap])
theorem ok:Ok prog 207 D.sig:=ao func207 aB (by kernel_rfl) (fc cr.ok (ak _))
end cU
namespace d0
abbrev Arg:Type:=aL×Unit
abbrev Out:Type:=Int×Unit
abbrev ps:PQ:=[(.ro,bQ)]
noncomputable def D:FD:={ fn:=f135,tl:=aK,ps:=ps,rs:=[(i64,(ay i64))],gl:=[(61,cr.D.sig),(203,jt.D.sig),(206,gR.D.sig),(207,cU.D.sig)] }
noncomputable def ab (a:Arg):Option Out:=@lift Out fun k=>D.W k a
noncomputable def p (a1:Arg):Option Out:=let Lp:Option Out:=let PV:Option Out:=(cU.ab (a1.1.2.2.2.1,())).bind fun PW=>bif !decide (PW.1=(0:Int)) then (some (PW.1,())) else (gR.ab (a1.1.1,())).bind fun SF=>bif SF.1 then (bif decide ((a1.1.2.2.2.1.length:Int)=(0:Int)) then (some ((1:Int),())) else bif decide (a1.1.1=(4:Int)) then (bif !decide ((a1.1.2.2.2.1.length:Int)=(1:Int)) then (some ((1:Int),())) else (a1.1.2.2.2.1[0]?).bind fun NM=>bif !decide ((NM.2.1.length:Int)=(64:Int)) then (some ((1:Int),())) else some ((0:Int),())) else some ((0:Int),())) else bif decide (a1.1.1=(4:Int)) then (bif !decide ((a1.1.2.2.2.1.length:Int)=(1:Int)) then (some ((1:Int),())) else (a1.1.2.2.2.1[0]?).bind fun NN=>bif !decide ((NN.2.1.length:Int)=(64:Int)) then (some ((1:Int),())) else some ((0:Int),())) else some ((0:Int),());bif !decide (a1.1.1=(4:Int)) then ((jt.ab (a1.1.2.1,())).bind fun NK=>bif !NK.1 then (some ((3:Int),())) else (cr.ab (a1.1.2.2.1,(0:Int),(11:Int),())).bind fun SG=>bif !SG.1 then (some ((3:Int),())) else PV) else (cr.ab (a1.1.2.2.1,(0:Int),(11:Int),())).bind fun SH=>bif !SH.1 then (some ((3:Int),())) else PV;(cr.ab (a1.1.1,(1:Int),(6:Int),())).bind fun r2=>bif !r2.1 then (some ((1:Int),())) else (gR.ab (a1.1.1,())).bind fun r3=>bif !r3.1 then (bif !decide (a1.1.2.2.1=(0:Int)) then (some ((1:Int),())) else bif decide ((0:Int) < (a1.1.2.2.2.1.length:Int)) then (some ((1:Int),())) else bif decide (a1.1.1=(4:Int)) then (bif !decide (a1.1.2.1=(0:Int)) then (some ((1:Int),())) else Lp) else Lp) else bif decide (a1.1.1=(4:Int)) then (bif !decide (a1.1.2.1=(0:Int)) then (some ((1:Int),())) else Lp) else Lp
theorem aa (k:Nat) (a1:Arg):@Eq (Option Out) (D.W k a1) (p a1):=by kernel_rfl
theorem ok:Ok prog 135 D.sig:=ao func135 aB (by kernel_rfl) (fc cr.ok (fc jt.ok (fc gR.ok (fc cU.ok (ak _)))))
end d0
namespace bB
abbrev Arg:Type:=(List UInt8)×(List UInt8)×Unit
abbrev Out:Type:=Bool×Unit
abbrev ps:PQ:=[(.ro,(.U u8)),(.ro,(.U u8))]
noncomputable def D:FD:={ fn:=f138,tl:=aK,ps:=ps,rs:=[(.bool,(ay .bool))],lv:=[(4,[0,1,12,13])],lx:=[(0,[])],od:=[(6,[0,1,2,3,4,5,6,7,8])] }
noncomputable def ab (a:Arg):Option Out:=@lift Out fun k=>D.W k a
noncomputable def T0 (a1:Arg) (J:Int):St:={ n:=26,sl:=[(0,.val (.U u8) a1.1),(1,.val (.U u8) a1.2.1),(12,.val i64 (a1.1.length:Int)),(13,.val i64 J)],vr:=[],av:=[] }
noncomputable def b0 (self:Int->Option Out) (e0:(Unit)->Option Out) (a1:Arg) (J:Int):Option Out:=bif decide (J < (a1.1.length:Int)) then (if 0<=J then ((a1.1[J.toNat]?).bind fun aC=>if 0<=J then ((a1.2.1[J.toNat]?).bind fun bU=>bif !decide ((aC.toNat:Int)=(bU.toNat:Int)) then (some (false,())) else self (ae (J+(1:Int)))) else none) else none) else e0 ()
noncomputable abbrev B0 (_:Nat):=b0
noncomputable def q0 (a1:Arg) (bG:(Unit)):Option Out:=some (true,())
noncomputable abbrev Q0 (_:Nat):=q0
noncomputable def s0 (k:Nat) (a1:Arg):(Int)->Option Out:=fun J=>D.L k [1,1,0,1,0,0] [0,1,12,13] [] (af 0 (an (D.N k [1,1,1]) D.K0)) (T0 a1 J)
noncomputable def r0 (k:Nat) (a1:Arg):(Int)->Option Out:=al (fun w v=>B0 k w (Q0 k a1) a1 v) k
theorem ap (k:Nat) (a1:Arg):s0 k a1=r0 k a1:=
 funext fun J=>am _ _ _ (T0 a1) _ (fun rec v=>by kernel_rfl) k J
noncomputable def p (l0:(Int)->Option Out) (a1:Arg):Option Out:=bif !decide ((a1.1.length:Int)=(a1.2.1.length:Int)) then (some (false,())) else l0 (0:Int)
theorem aa (k:Nat) (a1:Arg):@Eq (Option Out) (D.W k a1) (p (r0 k a1) a1):=
 Eq.trans (b:=p (s0 k a1) a1) (by kernel_rfl) (by rw[ap])
theorem ok:Ok prog 138 D.sig:=ao func138 aB (by kernel_rfl) (ak _)
end bB
namespace gK
abbrev Arg:Type:=(List UInt8)×Unit
abbrev Out:Type:=(List UInt8)×Unit
abbrev ps:PQ:=[(.ro,(.U u8))]
noncomputable def D:FD:={ fn:=f159,tl:=aK,ps:=ps,rs:=[((.U u8),(aq (.U u8)))] }
noncomputable def ab (a:Arg):Option Out:=@lift Out fun k=>D.W k a
noncomputable def p (a1:Arg):Option Out:=if ([]:List UInt8).length+a1.1.length<=bm then (some (([]:List UInt8)++a1.1,())) else none
theorem aa (k:Nat) (a1:Arg):@Eq (Option Out) (D.W k a1) (p a1):=by kernel_rfl
theorem ok:Ok prog 159 D.sig:=ao func159 aB (by kernel_rfl) (ak _)
end gK
end OT
