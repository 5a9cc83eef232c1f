/- The proof's parts, merged: Printed by gen.py, a program of this claim  what each Go function computes.. No conditions but those that each states. -/
import Derived.Test.YtachfnbfagcplaaGreatSe
set_option maxRecDepth 100000
set_option linter.unusedVariables false
namespace OT
open Go Go.Proofs.Tryz
namespace fH
abbrev Arg:Type:=(List Tx)×Unit
abbrev Out:Type:=(List Tx)×Unit
abbrev ps:PQ:=[(.ro,(.U bd))]
noncomputable def D:FD:={ fn:=f32,tl:=aE,ps:=ps,rs:=[((.U bd),(au (.U bd)))],gl:=[(65,mn.D.sig)],lv:=[(3,[0,3,4])],lx:=[(0,[3])] }
noncomputable def ab (a:Arg):Option Out:=@lift Out fun k=>D.W k a
noncomputable def T0 (a1:Arg) (J:(List Tx)×Int):St:={ n:=23,sl:=[(0,.val (.U bd) a1.1),(3,.own (.U bd) (au (.U bd)) [] J.1),(4,.val i64 J.2)],vr:=[],aw:=[] }
noncomputable def b0 (self:((List Tx)×Int)->Option Out) (e0:(List Tx)->Option Out) (a1:Arg) (J:(List Tx)×Int):Option Out:=bif decide (J.2 < (a1.1.length:Int)) then (if 0<=J.2 then ((a1.1[J.2.toNat]?).bind fun aB=>(mn.ab (aB,())).bind fun bs=>if 0<=J.2/\J.2 < (J.1.length:Int) then ((J.1[J.2.toNat]?).bind fun cW=>self (J.1.set J.2.toNat bs.1,ae (J.2+(1:Int)))) else none) else none) else e0 J.1
noncomputable abbrev B0 (_:Nat):=b0
noncomputable def q0 (a1:Arg) (jl:(List Tx)):Option Out:=some (jl,())
noncomputable abbrev Q0 (_:Nat):=q0
noncomputable def s0 (k:Nat) (a1:Arg):((List Tx)×Int)->Option Out:=fun J=>D.L k [1,1,0,1,0,0] [0,3,4] [] (af 0 (ap (D.N k [1,1,1]) D.K0)) (T0 a1 J)
noncomputable def r0 (k:Nat) (a1:Arg):((List Tx)×Int)->Option Out:=al (fun w v=>B0 k w (Q0 k a1) a1 v) k
theorem aq (k:Nat) (a1:Arg):s0 k a1=r0 k a1:=
 funext fun J=>ao _ _ _ (T0 a1) _ (fun rec v=>by kernel_rfl) k J
noncomputable def p (l0:((List Tx)×Int)->Option Out) (a1:Arg):Option Out:=if 0<=(a1.1.length:Int)/\(a1.1.length:Int)<=(a1.1.length:Int)/\(a1.1.length:Int)<=(bk:Int) then (l0 (List.replicate (a1.1.length:Int).toNat ((0:Int),([]:List Change),([]:List Int),([]:List Key),()),(0:Int))) else none
theorem aa (k:Nat) (a1:Arg):@Eq (Option Out) (D.W k a1) (p (r0 k a1) a1):=
 Eq.trans (b:=p (s0 k a1) a1) (by kernel_rfl) (by rw[aq])
theorem ok:Ok prog 32 D.sig:=am func32 ay (by kernel_rfl) (fc mn.ok (ai _))
end fH
namespace jT
abbrev Arg:Type:=kb×Unit
abbrev Out:Type:=kb×Unit
abbrev ps:PQ:=[(.ro,cd)]
noncomputable def D:FD:={ fn:=f13,tl:=aE,ps:=ps,rs:=[(cd,(au cd))],gl:=[(30,cE.D.sig),(31,lB.D.sig),(32,fH.D.sig)] }
noncomputable def ab (a:Arg):Option Out:=@lift Out fun k=>D.W k a
noncomputable def p (a1:Arg):Option Out:=(cE.ab (a1.1.2.1,())).bind fun r2=>(lB.ab (a1.1.2.2.1,())).bind fun r3=>(fH.ab (a1.1.2.2.2.1,())).bind fun r4=>some ((a1.1.1,r2.1,r3.1,r4.1,a1.1.2.2.2.2.1,()),())
theorem aa (k:Nat) (a1:Arg):@Eq (Option Out) (D.W k a1) (p a1):=by kernel_rfl
theorem ok:Ok prog 13 D.sig:=am func13 ay (by kernel_rfl) (fc cE.ok (fc lB.ok (fc fH.ok (ai _))))
end jT
namespace jd
abbrev Arg:Type:=Buffer×Unit
abbrev Out:Type:=Buffer×Unit
abbrev ps:PQ:=[(.ro,aC)]
noncomputable def D:FD:={ fn:=f113,tl:=aE,ps:=ps,rs:=[(aC,(au aC))],gl:=[(67,bO.D.sig)] }
noncomputable def ab (a:Arg):Option Out:=@lift Out fun k=>D.W k a
noncomputable def p (a1:Arg):Option Out:=(bO.ab (a1.1.2.1,())).bind fun r2=>some ((a1.1.1,r2.1,()),())
theorem aa (k:Nat) (a1:Arg):@Eq (Option Out) (D.W k a1) (p a1):=by kernel_rfl
theorem ok:Ok prog 113 D.sig:=am func113 ay (by kernel_rfl) (fc bO.ok (ai _))
end jd
namespace da
abbrev Arg:Type:=(List Buffer)×Unit
abbrev Out:Type:=(List Buffer)×Unit
abbrev ps:PQ:=[(.ro,(.U aC))]
noncomputable def D:FD:={ fn:=f66,tl:=aE,ps:=ps,rs:=[((.U aC),(au (.U aC)))],gl:=[(113,jd.D.sig)],lv:=[(3,[0,3,4])],lx:=[(0,[3])] }
noncomputable def ab (a:Arg):Option Out:=@lift Out fun k=>D.W k a
noncomputable def T0 (a1:Arg) (J:(List Buffer)×Int):St:={ n:=23,sl:=[(0,.val (.U aC) a1.1),(3,.own (.U aC) (au (.U aC)) [] J.1),(4,.val i64 J.2)],vr:=[],aw:=[] }
noncomputable def b0 (self:((List Buffer)×Int)->Option Out) (e0:(List Buffer)->Option Out) (a1:Arg) (J:(List Buffer)×Int):Option Out:=bif decide (J.2 < (a1.1.length:Int)) then (if 0<=J.2 then ((a1.1[J.2.toNat]?).bind fun aB=>(jd.ab (aB,())).bind fun bs=>if 0<=J.2/\J.2 < (J.1.length:Int) then ((J.1[J.2.toNat]?).bind fun cW=>self (J.1.set J.2.toNat bs.1,ae (J.2+(1:Int)))) else none) else none) else e0 J.1
noncomputable abbrev B0 (_:Nat):=b0
noncomputable def q0 (a1:Arg) (jl:(List Buffer)):Option Out:=some (jl,())
noncomputable abbrev Q0 (_:Nat):=q0
noncomputable def s0 (k:Nat) (a1:Arg):((List Buffer)×Int)->Option Out:=fun J=>D.L k [1,1,0,1,0,0] [0,3,4] [] (af 0 (ap (D.N k [1,1,1]) D.K0)) (T0 a1 J)
noncomputable def r0 (k:Nat) (a1:Arg):((List Buffer)×Int)->Option Out:=al (fun w v=>B0 k w (Q0 k a1) a1 v) k
theorem aq (k:Nat) (a1:Arg):s0 k a1=r0 k a1:=
 funext fun J=>ao _ _ _ (T0 a1) _ (fun rec v=>by kernel_rfl) k J
noncomputable def p (l0:((List Buffer)×Int)->Option Out) (a1:Arg):Option Out:=if 0<=(a1.1.length:Int)/\(a1.1.length:Int)<=(a1.1.length:Int)/\(a1.1.length:Int)<=(bk:Int) then (l0 (List.replicate (a1.1.length:Int).toNat ((0:Int),([]:List Change),()),(0:Int))) else none
theorem aa (k:Nat) (a1:Arg):@Eq (Option Out) (D.W k a1) (p (r0 k a1) a1):=
 Eq.trans (b:=p (s0 k a1) a1) (by kernel_rfl) (by rw[aq])
theorem ok:Ok prog 66 D.sig:=am func66 ay (by kernel_rfl) (fc jd.ok (ai _))
end da
namespace iH
abbrev Arg:Type:=jm×Unit
abbrev Out:Type:=jm×Unit
abbrev ps:PQ:=[(.ro,br)]
noncomputable def D:FD:={ fn:=f33,tl:=aE,ps:=ps,rs:=[(br,(au br))],gl:=[(30,cE.D.sig),(66,da.D.sig)] }
noncomputable def ab (a:Arg):Option Out:=@lift Out fun k=>D.W k a
noncomputable def p (a1:Arg):Option Out:=(cE.ab (a1.1.1,())).bind fun r2=>(da.ab (a1.1.2.1,())).bind fun r3=>some ((r2.1,r3.1,()),())
theorem aa (k:Nat) (a1:Arg):@Eq (Option Out) (D.W k a1) (p a1):=by kernel_rfl
theorem ok:Ok prog 33 D.sig:=am func33 ay (by kernel_rfl) (fc cE.ok (fc da.ok (ai _)))
end iH
namespace gy
abbrev Arg:Type:=gT×Unit
abbrev Out:Type:=gT×Unit
abbrev ps:PQ:=[(.ro,ba)]
noncomputable def D:FD:={ fn:=f14,tl:=aE,ps:=ps,rs:=[(ba,(au ba))],gl:=[(33,iH.D.sig)] }
noncomputable def ab (a:Arg):Option Out:=@lift Out fun k=>D.W k a
noncomputable def p (a1:Arg):Option Out:=(iH.ab (a1.1.1,())).bind fun r2=>(iH.ab (a1.1.2.2.1,())).bind fun r3=>some ((r2.1,a1.1.2.1,r3.1,a1.1.2.2.2.1,()),())
theorem aa (k:Nat) (a1:Arg):@Eq (Option Out) (D.W k a1) (p a1):=by kernel_rfl
theorem ok:Ok prog 14 D.sig:=am func14 ay (by kernel_rfl) (fc iH.ok (ai _))
end gy
namespace kR
abbrev Arg:Type:=gg×Unit
abbrev Out:Type:=gg×Unit
abbrev ps:PQ:=[(.ro,bK)]
noncomputable def D:FD:={ fn:=f34,tl:=aE,ps:=ps,rs:=[(bK,(au bK))],gl:=[(67,bO.D.sig)] }
noncomputable def ab (a:Arg):Option Out:=@lift Out fun k=>D.W k a
noncomputable def p (a1:Arg):Option Out:=(bO.ab (a1.1.2.2.1,())).bind fun r2=>some ((a1.1.1,a1.1.2.1,r2.1,()),())
theorem aa (k:Nat) (a1:Arg):@Eq (Option Out) (D.W k a1) (p a1):=by kernel_rfl
theorem ok:Ok prog 34 D.sig:=am func34 ay (by kernel_rfl) (fc bO.ok (ai _))
end kR
namespace d7
abbrev Arg:Type:=(List gg)×Unit
abbrev Out:Type:=(List gg)×Unit
abbrev ps:PQ:=[(.ro,(.U bK))]
noncomputable def D:FD:={ fn:=f15,tl:=aE,ps:=ps,rs:=[((.U bK),(au (.U bK)))],gl:=[(34,kR.D.sig)],lv:=[(3,[0,3,4])],lx:=[(0,[3])] }
noncomputable def ab (a:Arg):Option Out:=@lift Out fun k=>D.W k a
noncomputable def T0 (a1:Arg) (J:(List gg)×Int):St:={ n:=23,sl:=[(0,.val (.U bK) a1.1),(3,.own (.U bK) (au (.U bK)) [] J.1),(4,.val i64 J.2)],vr:=[],aw:=[] }
noncomputable def b0 (self:((List gg)×Int)->Option Out) (e0:(List gg)->Option Out) (a1:Arg) (J:(List gg)×Int):Option Out:=bif decide (J.2 < (a1.1.length:Int)) then (if 0<=J.2 then ((a1.1[J.2.toNat]?).bind fun aB=>(kR.ab (aB,())).bind fun bs=>if 0<=J.2/\J.2 < (J.1.length:Int) then ((J.1[J.2.toNat]?).bind fun cW=>self (J.1.set J.2.toNat bs.1,ae (J.2+(1:Int)))) else none) else none) else e0 J.1
noncomputable abbrev B0 (_:Nat):=b0
noncomputable def q0 (a1:Arg) (jl:(List gg)):Option Out:=some (jl,())
noncomputable abbrev Q0 (_:Nat):=q0
noncomputable def s0 (k:Nat) (a1:Arg):((List gg)×Int)->Option Out:=fun J=>D.L k [1,1,0,1,0,0] [0,3,4] [] (af 0 (ap (D.N k [1,1,1]) D.K0)) (T0 a1 J)
noncomputable def r0 (k:Nat) (a1:Arg):((List gg)×Int)->Option Out:=al (fun w v=>B0 k w (Q0 k a1) a1 v) k
theorem aq (k:Nat) (a1:Arg):s0 k a1=r0 k a1:=
 funext fun J=>ao _ _ _ (T0 a1) _ (fun rec v=>by kernel_rfl) k J
noncomputable def p (l0:((List gg)×Int)->Option Out) (a1:Arg):Option Out:=if 0<=(a1.1.length:Int)/\(a1.1.length:Int)<=(a1.1.length:Int)/\(a1.1.length:Int)<=(bk:Int) then (l0 (List.replicate (a1.1.length:Int).toNat ((0:Int),(0:Int),([]:List Change),()),(0:Int))) else none
theorem aa (k:Nat) (a1:Arg):@Eq (Option Out) (D.W k a1) (p (r0 k a1) a1):=
 Eq.trans (b:=p (s0 k a1) a1) (by kernel_rfl) (by rw[aq])
theorem ok:Ok prog 15 D.sig:=am func15 ay (by kernel_rfl) (fc kR.ok (ai _))
end d7
namespace g_
abbrev Arg:Type:=World×Unit
abbrev Out:Type:=World×Unit
abbrev ps:PQ:=[(.ro,dR)]
noncomputable def D:FD:={ fn:=f6,tl:=aE,ps:=ps,rs:=[(dR,(au dR))],gl:=[(13,jT.D.sig),(14,gy.D.sig),(15,d7.D.sig)] }
noncomputable def ab (a:Arg):Option Out:=@lift Out fun k=>D.W k a
noncomputable def p (a1:Arg):Option Out:=(jT.ab (a1.1.1,())).bind fun r2=>(gy.ab (a1.1.2.1,())).bind fun r3=>(d7.ab (a1.1.2.2.1,())).bind fun r4=>some ((r2.1,r3.1,r4.1,()),())
theorem aa (k:Nat) (a1:Arg):@Eq (Option Out) (D.W k a1) (p a1):=by kernel_rfl
theorem ok:Ok prog 6 D.sig:=am func6 ay (by kernel_rfl) (fc jT.ok (fc gy.ok (fc d7.ok (ai _))))
end g_
namespace je
abbrev Arg:Type:=Log×Unit
abbrev Out:Type:=Int×Unit
abbrev ps:PQ:=[(.ro,fe)]
noncomputable def D:FD:={ fn:=f68,tl:=aE,ps:=ps,rs:=[(i64,(av i64))] }
noncomputable def ab (a:Arg):Option Out:=@lift Out fun k=>D.W k a
noncomputable def p (a1:Arg):Option Out:=some (ae ((a1.1.1.length:Int)+(a1.1.2.1.length:Int)),())
theorem aa (k:Nat) (a1:Arg):@Eq (Option Out) (D.W k a1) (p a1):=by kernel_rfl
theorem ok:Ok prog 68 D.sig:=am func68 ay (by kernel_rfl) (ai _)
end je
namespace bT
abbrev Arg:Type:=Int×Int×Int×Unit
abbrev Out:Type:=Bool×Unit
abbrev ps:PQ:=[(.ro,i64),(.ro,i64),(.ro,i64)]
noncomputable def D:FD:={ fn:=f36,tl:=aE,ps:=ps,rs:=[(.bool,(av .bool))] }
noncomputable def ab (a:Arg):Option Out:=@lift Out fun k=>D.W k a
noncomputable def p (a1:Arg):Option Out:=bif decide (a1.2.1<=a1.1) then (some (decide (a1.1<=a1.2.2.1),())) else some (false,())
theorem aa (k:Nat) (a1:Arg):@Eq (Option Out) (D.W k a1) (p a1):=by kernel_rfl
theorem ok:Ok prog 36 D.sig:=am func36 ay (by kernel_rfl) (ai _)
end bT
namespace fC
abbrev Arg:Type:=Int×Unit
abbrev Out:Type:=Bool×Unit
abbrev ps:PQ:=[(.ro,i64)]
noncomputable def D:FD:={ fn:=f85,tl:=aE,ps:=ps,rs:=[(.bool,(av .bool))],gl:=[(36,bT.D.sig)] }
noncomputable def ab (a:Arg):Option Out:=@lift Out fun k=>D.W k a
noncomputable def p (a1:Arg):Option Out:=(bT.ab (a1.1,(1:Int),(99:Int),())).bind fun r2=>some (r2.1,())
theorem aa (k:Nat) (a1:Arg):@Eq (Option Out) (D.W k a1) (p a1):=by kernel_rfl
theorem ok:Ok prog 85 D.sig:=am func85 ay (by kernel_rfl) (fc bT.ok (ai _))
end fC
namespace hY
abbrev Arg:Type:=Int×Unit
abbrev Out:Type:=Bool×Unit
abbrev ps:PQ:=[(.ro,i64)]
noncomputable def D:FD:={ fn:=f127,tl:=aE,ps:=ps,rs:=[(.bool,(av .bool))] }
noncomputable def ab (a:Arg):Option Out:=@lift Out fun k=>D.W k a
noncomputable def p (a1:Arg):Option Out:=bif decide (a1.1=(2:Int)) then (some (true,())) else bif decide (a1.1=(3:Int)) then (some (true,())) else some (decide (a1.1=(4:Int)),())
theorem aa (k:Nat) (a1:Arg):@Eq (Option Out) (D.W k a1) (p a1):=by kernel_rfl
theorem ok:Ok prog 127 D.sig:=am func127 ay (by kernel_rfl) (ai _)
end hY
namespace db
abbrev Arg:Type:=(List cR)×Unit
abbrev Out:Type:=Int×Unit
abbrev ps:PQ:=[(.ro,(.U pP))]
noncomputable def D:FD:={ fn:=f128,tl:=aE,ps:=ps,rs:=[(i64,(av i64))],gl:=[(36,bT.D.sig)],lv:=[(5,[3,10,11,12])],lx:=[(0,[])] }
noncomputable def ab (a:Arg):Option Out:=@lift Out fun k=>D.W k a
noncomputable def T0 (a1:Arg) (J:Int×Int):St:={ n:=45,sl:=[(3,.val i64 J.1),(10,.val (.U pP) a1.1),(11,.val i64 (a1.1.length:Int)),(12,.val i64 J.2)],vr:=[],aw:=[] }
noncomputable def b0 (self:(Int×Int)->Option Out) (e0:(Unit)->Option Out) (a1:Arg) (J:Int×Int):Option Out:=bif decide (J.2 < (a1.1.length:Int)) then (if 0<=J.2 then ((a1.1[J.2.toNat]?).bind fun aB=>(bT.ab (aB.1,(0:Int),(63:Int),())).bind fun bs=>bif !bs.1 then (some ((3:Int),())) else (bT.ab ((aB.2.1.length:Int),(1:Int),(64:Int),())).bind fun fY=>bif !fY.1 then (some ((3:Int),())) else bif decide ((64:Int) < ae (aB.1+(aB.2.1.length:Int))) then (some ((3:Int),())) else bif decide (aB.1 < J.1) then (some ((1:Int),())) else self (ae ((ae (aB.1+(aB.2.1.length:Int)))+(1:Int)),ae (J.2+(1:Int)))) else none) else e0 ()
noncomputable abbrev B0 (_:Nat):=b0
noncomputable def q0 (a1:Arg) (jl:(Unit)):Option Out:=some ((0:Int),())
noncomputable abbrev Q0 (_:Nat):=q0
noncomputable def s0 (k:Nat) (a1:Arg):(Int×Int)->Option Out:=fun J=>D.L k [1,1,1,0,1,0,0] [3,10,11,12] [] (af 0 (ap (D.N k [1,1,1,1]) D.K0)) (T0 a1 J)
noncomputable def r0 (k:Nat) (a1:Arg):(Int×Int)->Option Out:=al (fun w v=>B0 k w (Q0 k a1) a1 v) k
theorem aq (k:Nat) (a1:Arg):s0 k a1=r0 k a1:=
 funext fun J=>ao _ _ _ (T0 a1) _ (fun rec v=>by kernel_rfl) k J
noncomputable def p (l0:(Int×Int)->Option Out) (a1:Arg):Option Out:=bif decide ((64:Int) < (a1.1.length:Int)) then (some ((2:Int),())) else l0 ((0:Int),(0:Int))
theorem aa (k:Nat) (a1:Arg):@Eq (Option Out) (D.W k a1) (p (r0 k a1) a1):=
 Eq.trans (b:=p (s0 k a1) a1) (by kernel_rfl) (by rw[aq])
theorem ok:Ok prog 128 D.sig:=am func128 ay (by kernel_rfl) (fc bT.ok (ai _))
end db
namespace d8
abbrev Arg:Type:=aO×Unit
abbrev Out:Type:=Int×Unit
abbrev ps:PQ:=[(.ro,cb)]
noncomputable def D:FD:={ fn:=f80,tl:=aE,ps:=ps,rs:=[(i64,(av i64))],gl:=[(36,bT.D.sig),(85,fC.D.sig),(127,hY.D.sig),(128,db.D.sig)] }
noncomputable def ab (a:Arg):Option Out:=@lift Out fun k=>D.W k a
noncomputable def p (a1:Arg):Option Out:=let Ma:Option Out:=let Qw:Option Out:=(db.ab (a1.1.2.2.2.1,())).bind fun Qx=>bif !decide (Qx.1=(0:Int)) then (some (Qx.1,())) else (hY.ab (a1.1.1,())).bind fun Tj=>bif Tj.1 then (bif decide ((a1.1.2.2.2.1.length:Int)=(0:Int)) then (some ((1:Int),())) else bif decide (a1.1.1=(4:Int)) then (bif !decide ((a1.1.2.2.2.1.length:Int)=(1:Int)) then (some ((1:Int),())) else (a1.1.2.2.2.1[0]?).bind fun Ot=>bif !decide ((Ot.2.1.length:Int)=(64:Int)) then (some ((1:Int),())) else some ((0:Int),())) else some ((0:Int),())) else bif decide (a1.1.1=(4:Int)) then (bif !decide ((a1.1.2.2.2.1.length:Int)=(1:Int)) then (some ((1:Int),())) else (a1.1.2.2.2.1[0]?).bind fun Ou=>bif !decide ((Ou.2.1.length:Int)=(64:Int)) then (some ((1:Int),())) else some ((0:Int),())) else some ((0:Int),());bif !decide (a1.1.1=(4:Int)) then ((fC.ab (a1.1.2.1,())).bind fun Ol=>bif !Ol.1 then (some ((3:Int),())) else (bT.ab (a1.1.2.2.1,(0:Int),(11:Int),())).bind fun Tl=>bif !Tl.1 then (some ((3:Int),())) else Qw) else (bT.ab (a1.1.2.2.1,(0:Int),(11:Int),())).bind fun Tm=>bif !Tm.1 then (some ((3:Int),())) else Qw;(bT.ab (a1.1.1,(1:Int),(6:Int),())).bind fun r2=>bif !r2.1 then (some ((1:Int),())) else (hY.ab (a1.1.1,())).bind fun r3=>bif !r3.1 then (bif !decide (a1.1.2.2.1=(0:Int)) then (some ((1:Int),())) else bif decide ((0:Int) < (a1.1.2.2.2.1.length:Int)) then (some ((1:Int),())) else bif decide (a1.1.1=(4:Int)) then (bif !decide (a1.1.2.1=(0:Int)) then (some ((1:Int),())) else Ma) else Ma) else bif decide (a1.1.1=(4:Int)) then (bif !decide (a1.1.2.1=(0:Int)) then (some ((1:Int),())) else Ma) else Ma
theorem aa (k:Nat) (a1:Arg):@Eq (Option Out) (D.W k a1) (p a1):=by kernel_rfl
theorem ok:Ok prog 80 D.sig:=am func80 ay (by kernel_rfl) (fc bT.ok (fc fC.ok (fc hY.ok (fc db.ok (ai _)))))
end d8
namespace bG
abbrev Arg:Type:=(List UInt8)×(List UInt8)×Unit
abbrev Out:Type:=Bool×Unit
abbrev ps:PQ:=[(.ro,(.U u8)),(.ro,(.U u8))]
noncomputable def D:FD:={ fn:=f83,tl:=aE,ps:=ps,rs:=[(.bool,(av .bool))],lv:=[(4,[0,1,12,13])],lx:=[(0,[])],od:=[(6,[0,1,2,3,4,5,6,7,8])] }
noncomputable def ab (a:Arg):Option Out:=@lift Out fun k=>D.W k a
noncomputable def T0 (a1:Arg) (J:Int):St:={ n:=26,sl:=[(0,.val (.U u8) a1.1),(1,.val (.U u8) a1.2.1),(12,.val i64 (a1.1.length:Int)),(13,.val i64 J)],vr:=[],aw:=[] }
noncomputable def b0 (self:Int->Option Out) (e0:(Unit)->Option Out) (a1:Arg) (J:Int):Option Out:=bif decide (J < (a1.1.length:Int)) then (if 0<=J then ((a1.1[J.toNat]?).bind fun aB=>if 0<=J then ((a1.2.1[J.toNat]?).bind fun cM=>bif !decide ((aB.toNat:Int)=(cM.toNat:Int)) then (some (false,())) else self (ae (J+(1:Int)))) else none) else none) else e0 ()
noncomputable abbrev B0 (_:Nat):=b0
noncomputable def q0 (a1:Arg) (bY:(Unit)):Option Out:=some (true,())
noncomputable abbrev Q0 (_:Nat):=q0
noncomputable def s0 (k:Nat) (a1:Arg):(Int)->Option Out:=fun J=>D.L k [1,1,0,1,0,0] [0,1,12,13] [] (af 0 (ap (D.N k [1,1,1]) D.K0)) (T0 a1 J)
noncomputable def r0 (k:Nat) (a1:Arg):(Int)->Option Out:=al (fun w v=>B0 k w (Q0 k a1) a1 v) k
theorem aq (k:Nat) (a1:Arg):s0 k a1=r0 k a1:=
 funext fun J=>ao _ _ _ (T0 a1) _ (fun rec v=>by kernel_rfl) k J
noncomputable def p (l0:(Int)->Option Out) (a1:Arg):Option Out:=bif !decide ((a1.1.length:Int)=(a1.2.1.length:Int)) then (some (false,())) else l0 (0:Int)
theorem aa (k:Nat) (a1:Arg):@Eq (Option Out) (D.W k a1) (p (r0 k a1) a1):=
 Eq.trans (b:=p (s0 k a1) a1) (by kernel_rfl) (by rw[aq])
theorem ok:Ok prog 83 D.sig:=am func83 ay (by kernel_rfl) (ai _)
end bG
namespace hB
abbrev Arg:Type:=(List UInt8)×Unit
abbrev Out:Type:=(List UInt8)×Unit
abbrev ps:PQ:=[(.ro,(.U u8))]
noncomputable def D:FD:={ fn:=f165,tl:=aE,ps:=ps,rs:=[((.U u8),(au (.U u8)))] }
noncomputable def ab (a:Arg):Option Out:=@lift Out fun k=>D.W k a
noncomputable def p (a1:Arg):Option Out:=if ([]:List UInt8).length+a1.1.length<=bk then (some (([]:List UInt8)++a1.1,())) else none
theorem aa (k:Nat) (a1:Arg):@Eq (Option Out) (D.W k a1) (p a1):=by kernel_rfl
theorem ok:Ok prog 165 D.sig:=am func165 ay (by kernel_rfl) (ai _)
end hB
namespace cy
abbrev Arg:Type:=aO×Unit
abbrev Out:Type:=(List UInt8)×Unit
abbrev ps:PQ:=[(.ro,cb)]
noncomputable def D:FD:={ fn:=f166,tl:=aE,ps:=ps,rs:=[((.U u8),(au (.U u8)))],lv:=[(3,[3,24,25,26]),(11,[3,6,51,52,53])],lx:=[(0,[3]),(2,[3,6])] }
noncomputable def ab (a:Arg):Option Out:=@lift Out fun k=>D.W k a
noncomputable def T0 (a1:Arg) (J:(List UInt8)×Int):St:={ n:=72,sl:=[(3,.own (.U u8) (au (.U u8)) [] J.1),(24,.val (.U pP) a1.1.2.2.2.1),(25,.val i64 (a1.1.2.2.2.1.length:Int)),(26,.val i64 J.2)],vr:=[],aw:=[] }
noncomputable def S0 (rec:RT Out) (a1:Arg):((List UInt8)×Int)->Option Out:=fun J=>rec (T0 a1 J)
noncomputable def bt (K:KT Out) (a1:Arg):(List UInt8)->Option Out:=fun z=>K (.exit 0) ({ n:=72,sl:=[(3,.own (.U u8) (au (.U u8)) [] z)],vr:=[],aw:=[] })
noncomputable def b0 (self:((List UInt8)×Int)->Option Out) (e0:(List UInt8)->Option Out) (a1:Arg) (J:(List UInt8)×Int):Option Out:=bif decide (J.2 < (a1.1.2.2.2.1.length:Int)) then (if 0<=J.2 then ((a1.1.2.2.2.1[J.2.toNat]?).bind fun aB=>if J.1.length+[UInt8.ofInt aB.1,UInt8.ofInt (aB.2.1.length:Int)].length<=bk then (let we:=J.1++[UInt8.ofInt aB.1,UInt8.ofInt (aB.2.1.length:Int)];if we.length+aB.2.1.length<=bk then (self (we++aB.2.1,ae (J.2+(1:Int)))) else none) else none) else none) else e0 J.1
noncomputable abbrev B0 (_:Nat):=b0
theorem gc (k:Nat) (rec:RT Out) (K:KT Out) (a1:Arg) (J:(List UInt8)×Int):D.N k [1,1,0,1,0,0] (T0 a1 J) (dv rec (cu [3,24,25,26] []) K)=b0 (S0 rec a1) (bt K a1) a1 J:=by kernel_rfl
noncomputable def T1 (a1:Arg) (b9:List UInt8) (eK:Int) (be:Int×Int):St:={ n:=72,sl:=[(3,.own (.U u8) (au (.U u8)) [] b9),(6,.val i64 be.1),(51,.ref 3 [] [0,0]),(52,.val i64 eK),(53,.val i64 be.2)],vr:=[],aw:=[] }
noncomputable def b1 (self:(Int×Int)->Option Out) (e2:Int->Option Out) (a1:Arg) (b9:List UInt8) (eK:Int) (be:Int×Int):Option Out:=bif decide (be.2 < eK) then (if 0<=be.2/\be.2 < (b9.length:Int) then ((b9[be.2.toNat]?).bind fun wY=>self ((ae ((ae (be.1*(31:Int)))+(ae (wY.toNat:Int)))).tmod (65521:Int),ae (be.2+(1:Int)))) else none) else e2 be.1
noncomputable abbrev B1 (_:Nat):=b1
noncomputable def q1 (a1:Arg) (b9:List UInt8) (eK:Int) (sE:Int):Option Out:=if b9.length+[UInt8.ofInt (sE.fdiv (2 ^ 8)),UInt8.ofInt sE].length<=bk then (let GY:=b9++[UInt8.ofInt (sE.fdiv (2 ^ 8)),UInt8.ofInt sE];some (GY,())) else none
noncomputable abbrev Q1 (_:Nat):=q1
noncomputable def s1 (k:Nat) (a1:Arg):(List UInt8)->Int->(Int×Int)->Option Out:=fun b9 eK=>fun be=>D.L k [1,1,1,1,1,0,1,0,0] [3,6,51,52,53] [] (af 2 (ap (D.N k [1,1,1,1,1,1]) D.K0)) (T1 a1 b9 eK be)
noncomputable def r1 (k:Nat) (a1:Arg):(List UInt8)->Int->(Int×Int)->Option Out:=fun b9 eK=>al (fun w v=>B1 k w (Q1 k a1 b9 eK) a1 b9 eK v) k
theorem gd (k:Nat) (a1:Arg):s1 k a1=r1 k a1:=
 funext fun b9=>funext fun eK=>funext fun be=>ao _ _ _ (T1 a1 b9 eK) _ (fun rec v=>by kernel_rfl) k be
noncomputable def q0 (l1:(List UInt8)->Int->(Int×Int)->Option Out) (a1:Arg) (bY:(List UInt8)):Option Out:=if 0<=(0:Int)/\(0:Int) < (bY.length:Int) then ((bY[0]?).bind fun n7=>let wd:=bY.set 0 (UInt8.ofInt (ae ((bY.length:Int)+(2:Int))));l1 wd (wd.length:Int) ((1:Int),(0:Int))) else none
noncomputable def Q0 (k:Nat) (a1:Arg) (bY:(List UInt8)):Option Out:=q0 (r1 k a1) a1 bY
theorem lz (k:Nat) (a1:Arg) (bY:(List UInt8)):bt (af 0 (ap (D.N k [1,1,1]) D.K0)) a1 bY=Q0 k a1 bY:=
 Eq.trans (b:=q0 (s1 k a1) a1 bY) (by kernel_rfl) (by rw[gd];rfl)
noncomputable def s0 (k:Nat) (a1:Arg):((List UInt8)×Int)->Option Out:=fun J=>D.L k [1,1,0,1,0,0] [3,24,25,26] [] (af 0 (ap (D.N k [1,1,1]) D.K0)) (T0 a1 J)
noncomputable def r0 (k:Nat) (a1:Arg):((List UInt8)×Int)->Option Out:=al (fun w v=>B0 k w (Q0 k a1) a1 v) k
theorem aq (k:Nat) (a1:Arg):s0 k a1=r0 k a1:=by
 funext J;
 have h0:bt (af 0 (ap (D.N k [1,1,1]) D.K0)) a1=Q0 k a1:=funext fun z=>lz k a1 z
 refine (ao _ _ _ (T0 a1) (fun self v=>B0 k self (bt (af 0 (ap (D.N k [1,1,1]) D.K0)) a1) a1 v) (fun rec v=>gc k rec (af 0 (ap (D.N k [1,1,1]) D.K0)) a1 v) k J).trans ?_
 rw[h0]
 rfl
noncomputable def p (l0:((List UInt8)×Int)->Option Out) (a1:Arg):Option Out:=l0 ([(0:UInt8),UInt8.ofInt a1.1.1,UInt8.ofInt a1.1.2.1,UInt8.ofInt a1.1.2.2.1,UInt8.ofInt (a1.1.2.2.2.1.length:Int)],(0:Int))
theorem aa (k:Nat) (a1:Arg):@Eq (Option Out) (D.W k a1) (p (r0 k a1) a1):=
 Eq.trans (b:=p (s0 k a1) a1) (by kernel_rfl) (by rw[aq])
theorem ok:Ok prog 166 D.sig:=am func166 ay (by kernel_rfl) (ai _)
end cy
namespace fD
abbrev Arg:Type:=(List UInt8)×Unit
abbrev Out:Type:=aO×Int×Unit
abbrev ps:PQ:=[(.ro,(.U u8))]
noncomputable def D:FD:={ fn:=f115,tl:=aE,ps:=ps,rs:=[(cb,(au cb)),(i64,(av i64))],gl:=[(80,d8.D.sig),(83,bG.D.sig),(165,hB.D.sig),(166,cy.D.sig)],lv:=[(7,[2,4,5,6,7,52,53])],lx:=[(0,[2,4,5,6,7])],od:=[(4,[0,1,2,3,4,5,6,7,8,9,10,11,12,13,14]),(11,[0,1,2,3,4,5,6,7,8,9,10,11,12,13,14,15,16,17,18,19,20])] }
noncomputable def ab (a:Arg):Option Out:=@lift Out fun k=>D.W k a
noncomputable def T0 (a1:Arg) (nA:List UInt8) (pQ:Int) (sc:Int) (gQ:aO×Int×Int):St:={ n:=123,sl:=[(2,.box cb (au cb) [] ((0:Int),(0:Int),(0:Int),([]:List cR),())),(4,.val (.U u8) nA),(5,.box cb (au cb) [] gQ.1),(6,.val i64 gQ.2.1),(7,.val i64 pQ),(52,.val i64 sc),(53,.val i64 gQ.2.2)],vr:=[],aw:=[] }
noncomputable def b0 (self:(aO×Int×Int)->Option Out) (e0:(aO×Int)->Option Out) (a1:Arg) (nA:List UInt8) (pQ:Int) (sc:Int) (gQ:aO×Int×Int):Option Out:=bif decide (gQ.2.2 < sc) then (bif decide (pQ < ae (gQ.2.1+(2:Int))) then (some (((0:Int),(0:Int),(0:Int),([]:List cR),()),(0:Int),())) else if 0<=ae (gQ.2.1+(1:Int)) then ((nA[(ae (gQ.2.1+(1:Int))).toNat]?).bind fun Rs=>bif decide (pQ < ae ((ae (gQ.2.1+(2:Int)))+(ae (Rs.toNat:Int)))) then (some (((0:Int),(0:Int),(0:Int),([]:List cR),()),(0:Int),())) else if 0<=ae (gQ.2.1+(1:Int)) then ((nA[(ae (gQ.2.1+(1:Int))).toNat]?).bind fun G7=>if 0<=gQ.2.1 then ((nA[gQ.2.1.toNat]?).bind fun Ov=>if 0<=ae (gQ.2.1+(2:Int))/\ae (gQ.2.1+(2:Int))<=ae ((ae (gQ.2.1+(2:Int)))+(ae (G7.toNat:Int)))/\ae ((ae (gQ.2.1+(2:Int)))+(ae (G7.toNat:Int)))<=(nA.length:Int) then ((hB.ab ((nA.take (ae ((ae (gQ.2.1+(2:Int)))+(ae (G7.toNat:Int)))).toNat).drop (ae (gQ.2.1+(2:Int))).toNat,())).bind fun Ow=>if gQ.1.2.2.2.1.length+[(ae (Ov.toNat:Int),Ow.1,())].length<=bk then (let Rt:=gQ.1.2.2.2.1++[(ae (Ov.toNat:Int),Ow.1,())];self ((gQ.1.1,gQ.1.2.1,gQ.1.2.2.1,Rt,gQ.1.2.2.2.2),ae (gQ.2.1+(ae ((2:Int)+(ae (G7.toNat:Int))))),ae (gQ.2.2+(1:Int)))) else none) else none) else none) else none) else none) else e0 (gQ.1,gQ.2.1)
noncomputable abbrev B0 (_:Nat):=b0
noncomputable def q0 (a1:Arg) (nA:List UInt8) (pQ:Int) (sc:Int) (G8:(aO×Int)):Option Out:=bif !decide (G8.2=pQ) then (some (((0:Int),(0:Int),(0:Int),([]:List cR),()),(0:Int),())) else (d8.ab (G8.1,())).bind fun Ru=>bif !decide (Ru.1=(0:Int)) then (some (((0:Int),(0:Int),(0:Int),([]:List cR),()),(0:Int),())) else (cy.ab (G8.1,())).bind fun Rv=>(bG.ab (Rv.1,nA,())).bind fun Rw=>bif !Rw.1 then (some (((0:Int),(0:Int),(0:Int),([]:List cR),()),(0:Int),())) else some (G8.1,(nA.length:Int),())
noncomputable abbrev Q0 (_:Nat):=q0
noncomputable def s0 (k:Nat) (a1:Arg):(List UInt8)->Int->Int->(aO×Int×Int)->Option Out:=fun nA pQ sc=>fun gQ=>D.L k [1,1,1,1,1,0,1,0,0] [2,4,5,6,7,52,53] [] (af 0 (ap (D.N k [1,1,1,1,1,1]) D.K0)) (T0 a1 nA pQ sc gQ)
noncomputable def r0 (k:Nat) (a1:Arg):(List UInt8)->Int->Int->(aO×Int×Int)->Option Out:=fun nA pQ sc=>al (fun w v=>B0 k w (Q0 k a1 nA pQ sc) a1 nA pQ sc v) k
theorem aq (k:Nat) (a1:Arg):s0 k a1=r0 k a1:=
 funext fun nA=>funext fun pQ=>funext fun sc=>funext fun gQ=>ao _ _ _ (T0 a1 nA pQ sc) _ (fun rec v=>by kernel_rfl) k gQ
noncomputable def p (l0:(List UInt8)->Int->Int->(aO×Int×Int)->Option Out) (a1:Arg):Option Out:=bif decide ((a1.1.length:Int) < (7:Int)) then (some (((0:Int),(0:Int),(0:Int),([]:List cR),()),(0:Int),())) else (a1.1[0]?).bind fun x2=>bif decide ((a1.1.length:Int) < ae (x2.toNat:Int)) then (some (((0:Int),(0:Int),(0:Int),([]:List cR),()),(0:Int),())) else (a1.1[0]?).bind fun x3=>bif decide ((x3.toNat:Int) < (7:Int)) then (some (((0:Int),(0:Int),(0:Int),([]:List cR),()),(0:Int),())) else (a1.1[0]?).bind fun x4=>if 0<=(x4.toNat:Int)/\(x4.toNat:Int)<=(a1.1.length:Int) then ((((a1.1.take (x4.toNat:Int).toNat).drop 0)[1]?).bind fun x5=>(((a1.1.take (x4.toNat:Int).toNat).drop 0)[2]?).bind fun x6=>(((a1.1.take (x4.toNat:Int).toNat).drop 0)[3]?).bind fun x7=>(((a1.1.take (x4.toNat:Int).toNat).drop 0)[4]?).bind fun x8=>l0 ((a1.1.take (x4.toNat:Int).toNat).drop 0) (ae ((((a1.1.take (x4.toNat:Int).toNat).drop 0).length:Int) - (2:Int))) (ae (x8.toNat:Int)) ((ae (x5.toNat:Int),ae (x6.toNat:Int),ae (x7.toNat:Int),([]:List cR),()),(5:Int),(0:Int))) else none
theorem aa (k:Nat) (a1:Arg):@Eq (Option Out) (D.W k a1) (p (r0 k a1) a1):=
 Eq.trans (b:=p (s0 k a1) a1) (by kernel_rfl) (by rw[aq])
theorem ok:Ok prog 115 D.sig:=am func115 ay (by kernel_rfl) (fc d8.ok (fc bG.ok (fc hB.ok (fc cy.ok (ai _)))))
end fD
namespace fl
abbrev Arg:Type:=(List UInt8)×Unit
abbrev Out:Type:=(List aO)×Int×Unit
abbrev ps:PQ:=[(.ro,(.U u8))]
noncomputable def D:FD:={ fn:=f69,tl:=aE,ps:=ps,rs:=[((.U cb),(au (.U cb))),(i64,(av i64))],gl:=[(115,fD.D.sig)],lv:=[(3,[0,4,5])] }
noncomputable def ab (a:Arg):Option Out:=@lift Out fun k=>D.W k a
noncomputable def T0 (a1:Arg) (J:(List aO)×Int):St:={ n:=26,sl:=[(0,.val (.U u8) a1.1),(4,.own (.U cb) (au (.U cb)) [] J.1),(5,.val i64 J.2)],vr:=[],aw:=[] }
noncomputable def b0 (self:((List aO)×Int)->Option Out) (a1:Arg) (J:(List aO)×Int):Option Out:=if 0<=J.2/\J.2<=(a1.1.length:Int) then ((fD.ab ((a1.1.take a1.1.length).drop J.2.toNat,())).bind fun ur=>bif decide (ur.2.1=(0:Int)) then (some (J.1,J.2,())) else if J.1.length+[ur.1].length<=bk then (self (J.1++[ur.1],ae (J.2+ur.2.1))) else none) else none
noncomputable abbrev B0 (_:Nat):=b0
noncomputable def s0 (k:Nat) (a1:Arg):((List aO)×Int)->Option Out:=fun J=>D.L k [1,1,1,0,0] [0,4,5] [] (af 0 D.K0) (T0 a1 J)
noncomputable def r0 (k:Nat) (a1:Arg):((List aO)×Int)->Option Out:=al (fun w v=>B0 k w a1 v) k
theorem aq (k:Nat) (a1:Arg):s0 k a1=r0 k a1:=
 funext fun J=>ao _ _ _ (T0 a1) _ (fun rec v=>by kernel_rfl) k J
noncomputable def p (l0:((List aO)×Int)->Option Out) (a1:Arg):Option Out:=l0 (([]:List aO),(0:Int))
theorem aa (k:Nat) (a1:Arg):@Eq (Option Out) (D.W k a1) (p (r0 k a1) a1):=
 Eq.trans (b:=p (s0 k a1) a1) (by kernel_rfl) (by rw[aq])
theorem ok:Ok prog 69 D.sig:=am func69 ay (by kernel_rfl) (fc fD.ok (ai _))
end fl
namespace dg
abbrev Arg:Type:=Log×Unit
abbrev Out:Type:=Int×Unit
abbrev ps:PQ:=[(.ro,fe)]
noncomputable def D:FD:={ fn:=f35,tl:=aE,ps:=ps,rs:=[(i64,(av i64))],gl:=[(68,je.D.sig),(69,fl.D.sig)],lv:=[(4,[14,15,16])],lx:=[(0,[])] }
noncomputable def ab (a:Arg):Option Out:=@lift Out fun k=>D.W k a
noncomputable def T0 (a1:Arg) (aN:Int):St:={ n:=30,sl:=[(14,.own (.U (.U u8)) (.U true (av (.U u8))) [] [a1.1.1,a1.1.2.1]),(15,.val i64 ([a1.1.1,a1.1.2.1].length:Int)),(16,.val i64 aN)],vr:=[],aw:=[] }
noncomputable def b0 (self:Int->Option Out) (e0:(Unit)->Option Out) (a1:Arg) (aN:Int):Option Out:=bif decide (aN < ([a1.1.1,a1.1.2.1].length:Int)) then (if 0<=aN/\aN < ([a1.1.1,a1.1.2.1].length:Int) then (([a1.1.1,a1.1.2.1][aN.toNat]?).bind fun cM=>(fl.ab (cM,())).bind fun fY=>bif !decide (fY.2.1=(cM.length:Int)) then (some ((5:Int),())) else self (ae (aN+(1:Int)))) else none) else e0 ()
noncomputable abbrev B0 (_:Nat):=b0
noncomputable def q0 (a1:Arg) (jl:(Unit)):Option Out:=some ((0:Int),())
noncomputable abbrev Q0 (_:Nat):=q0
noncomputable def s0 (k:Nat) (a1:Arg):(Int)->Option Out:=fun aN=>D.L k [1,1,0,1,0,0] [14,15,16] [] (af 0 (ap (D.N k [1,1,1]) D.K0)) (T0 a1 aN)
noncomputable def r0 (k:Nat) (a1:Arg):(Int)->Option Out:=al (fun w v=>B0 k w (Q0 k a1) a1 v) k
theorem aq (k:Nat) (a1:Arg):s0 k a1=r0 k a1:=
 funext fun aN=>ao _ _ _ (T0 a1) _ (fun rec v=>by kernel_rfl) k aN
noncomputable def p (l0:(Int)->Option Out) (a1:Arg):Option Out:=(je.ab (a1.1,())).bind fun r2=>bif decide ((16000:Int) < r2.1) then (some ((2:Int),())) else l0 (0:Int)
theorem aa (k:Nat) (a1:Arg):@Eq (Option Out) (D.W k a1) (p (r0 k a1) a1):=
 Eq.trans (b:=p (s0 k a1) a1) (by kernel_rfl) (by rw[aq])
theorem ok:Ok prog 35 D.sig:=am func35 ay (by kernel_rfl) (fc je.ok (fc fl.ok (ai _)))
end dg
namespace eL
abbrev Arg:Type:=(List UInt8)×Unit
abbrev Out:Type:=Int×Unit
abbrev ps:PQ:=[(.ro,(.U u8))]
noncomputable def D:FD:={ fn:=f71,tl:=aE,ps:=ps,rs:=[(i64,(av i64))] }
noncomputable def ab (a:Arg):Option Out:=@lift Out fun k=>D.W k a
noncomputable def p (a1:Arg):Option Out:=(a1.1[0]?).bind fun x2=>some (ae (x2.toNat:Int),())
theorem aa (k:Nat) (a1:Arg):@Eq (Option Out) (D.W k a1) (p a1):=by kernel_rfl
theorem ok:Ok prog 71 D.sig:=am func71 ay (by kernel_rfl) (ai _)
end eL
namespace jf
abbrev Arg:Type:=(List UInt8)×Int×Unit
abbrev Out:Type:=Int×Int×Unit
abbrev ps:PQ:=[(.ro,(.U u8)),(.ro,i64)]
noncomputable def D:FD:={ fn:=f116,tl:=aE,ps:=ps,rs:=[(i64,(av i64)),(i64,(av i64))],od:=[(1,[0,1,2,3,4,5,6,7,8,9,10,11,12,13,14,15])] }
noncomputable def ab (a:Arg):Option Out:=@lift Out fun k=>D.W k a
noncomputable def p (a1:Arg):Option Out:=if 0<=ae ((2:Int)+(ae ((2:Int)*a1.2.1))) then ((a1.1[(ae ((2:Int)+(ae ((2:Int)*a1.2.1)))).toNat]?).bind fun x2=>if 0<=ae ((3:Int)+(ae ((2:Int)*a1.2.1))) then ((a1.1[(ae ((3:Int)+(ae ((2:Int)*a1.2.1)))).toNat]?).bind fun x3=>some (ae (x2.toNat:Int),ae (x3.toNat:Int),())) else none) else none
theorem aa (k:Nat) (a1:Arg):@Eq (Option Out) (D.W k a1) (p a1):=by kernel_rfl
theorem ok:Ok prog 116 D.sig:=am func116 ay (by kernel_rfl) (ai _)
end jf
namespace aK
abbrev Arg:Type:=(List UInt8)×Unit
abbrev Out:Type:=Int×Unit
abbrev ps:PQ:=[(.ro,(.U u8))]
noncomputable def D:FD:={ fn:=f70,tl:=aE,ps:=ps,rs:=[(i64,(av i64))],gl:=[(71,eL.D.sig),(116,jf.D.sig)],lv:=[(7,[0,3,4,35,36]),(15,[0,3,8,66,67]),(19,[0,3,8,10,11,12,66,67])],lx:=[(0,[0,3]),(2,[0,3]),(4,[0,3,8,66,67])],od:=[(3,[0,2,3,4,5,1,6,7])] }
noncomputable def ab (a:Arg):Option Out:=@lift Out fun k=>D.W k a
noncomputable def T0 (a1:Arg) (eY:Int) (bH:Int) (fk:Int):St:={ n:=101,sl:=[(0,.val (.U u8) a1.1),(3,.val i64 eY),(4,.val i64 bH),(35,.val i64 eY),(36,.val i64 fk)],vr:=[],aw:=[] }
noncomputable def S0 (rec:RT Out) (a1:Arg) (eY:Int) (bH:Int):(Int)->Option Out:=fun fk=>rec (T0 a1 eY bH fk)
noncomputable def bt (K:KT Out) (a1:Arg) (eY:Int) (bH:Int):(Unit)->Option Out:=fun z=>K (.exit 0) ({ n:=101,sl:=[(0,.val (.U u8) a1.1),(3,.val i64 eY)],vr:=[],aw:=[] })
noncomputable def b0 (self:Int->Option Out) (e0:(Unit)->Option Out) (a1:Arg) (eY:Int) (bH:Int) (fk:Int):Option Out:=bif decide (fk < eY) then ((jf.ab (a1.1,fk,())).bind fun gx=>bif !((decide (gx.1=(0:Int))) == (decide (gx.2.1=(0:Int)))) then (some ((3:Int),())) else bif !decide (gx.1=(0:Int)) then (bif decide (gx.1 < bH) then (some ((3:Int),())) else bif decide ((64:Int) < ae (gx.1+gx.2.1)) then (some ((3:Int),())) else self (ae (fk+(1:Int)))) else bif decide ((64:Int) < ae (gx.1+gx.2.1)) then (some ((3:Int),())) else self (ae (fk+(1:Int)))) else e0 ()
noncomputable abbrev B0 (_:Nat):=b0
theorem gc (k:Nat) (rec:RT Out) (K:KT Out) (a1:Arg) (eY:Int) (bH:Int) (fk:Int):D.N k [1,1,1,1,0,1,0,0] (T0 a1 eY bH fk) (dv rec (cu [0,3,4,35,36] []) K)=b0 (S0 rec a1 eY bH) (bt K a1 eY bH) a1 eY bH fk:=by kernel_rfl
noncomputable def T1 (a1:Arg) (cr:(List UInt8)×Int×(List Bool)×Int×Int):St:={ n:=101,sl:=[(0,.val (.U u8) cr.1),(3,.val i64 cr.2.1),(8,.box (.arr 64 .bool) (av (.arr 64 .bool)) [] cr.2.2.1),(66,.val i64 cr.2.2.2.1),(67,.val i64 cr.2.2.2.2)],vr:=[],aw:=[] }
noncomputable def S1 (rec:RT Out) (a1:Arg):((List UInt8)×Int×(List Bool)×Int×Int)->Option Out:=fun cr=>rec (T1 a1 cr)
noncomputable def dF (K:KT Out) (a1:Arg):((List UInt8)×Int)->Option Out:=fun z=>K (.exit 2) ({ n:=101,sl:=[(0,.val (.U u8) z.1),(3,.val i64 z.2)],vr:=[],aw:=[] })
noncomputable def T2 (a1:Arg) (cD:List UInt8) (bF:Int) (iI:Int) (iJ:Int) (iK:Int) (iL:Int) (e8:(List Bool)×Int):St:={ n:=101,sl:=[(0,.val (.U u8) cD),(3,.val i64 bF),(8,.box (.arr 64 .bool) (av (.arr 64 .bool)) [] e8.1),(10,.val i64 iI),(11,.val i64 iJ),(12,.val i64 e8.2),(66,.val i64 iK),(67,.val i64 iL)],vr:=[],aw:=[] }
noncomputable def b2 (self:((List Bool)×Int)->Option Out) (e4:(List Bool)->Option Out) (a1:Arg) (cD:List UInt8) (bF:Int) (iI:Int) (iJ:Int) (iK:Int) (iL:Int) (e8:(List Bool)×Int):Option Out:=bif decide (e8.2 < ae (iI+iJ)) then (if 0<=e8.2/\e8.2 < (e8.1.length:Int) then ((e8.1[e8.2.toNat]?).bind fun Pn=>bif Pn then (some ((8:Int),())) else if 0<=e8.2/\e8.2 < (e8.1.length:Int) then ((e8.1[e8.2.toNat]?).bind fun G9=>self (e8.1.set e8.2.toNat true,ae (e8.2+(1:Int)))) else none) else none) else e4 e8.1
noncomputable abbrev B2 (_:Nat):=b2
noncomputable def q1 (self:((List UInt8)×Int×(List Bool)×Int×Int)->Option Out) (e2:((List UInt8)×Int)->Option Out) (a1:Arg) (cD:List UInt8) (bF:Int) (iI:Int) (iJ:Int) (iK:Int) (iL:Int) (G_:(List Bool)):Option Out:=self (cD,bF,G_,iK,ae (iL+(1:Int)))
noncomputable abbrev Q1 (_:Nat):=q1
noncomputable def s2 (k:Nat) (rec:RT Out) (K:KT Out) (a1:Arg):(List UInt8)->Int->Int->Int->Int->Int->((List Bool)×Int)->Option Out:=fun cD bF iI iJ iK iL=>fun e8=>D.L k [1,1,1,1,1,1,0,1,0,0,1,1,0,0,1,1,1,0,0] [0,3,8,10,11,12,66,67] [] (af 4 (af 3 (ap (D.N k [1,1,1,1,1,1,0,1,0,0,1,1,1]) (dv rec (cu [0,3,8,66,67] []) K)))) (T2 a1 cD bF iI iJ iK iL e8)
noncomputable def r2 (k:Nat) (self:((List UInt8)×Int×(List Bool)×Int×Int)->Option Out) (e2:((List UInt8)×Int)->Option Out) (a1:Arg):(List UInt8)->Int->Int->Int->Int->Int->((List Bool)×Int)->Option Out:=fun cD bF iI iJ iK iL=>al (fun w v=>B2 k w (Q1 k self e2 a1 cD bF iI iJ iK iL) a1 cD bF iI iJ iK iL v) k
theorem ly (k:Nat) (rec:RT Out) (K:KT Out) (a1:Arg):s2 k rec K a1=r2 k (S1 rec a1) (dF K a1) a1:=
 funext fun cD=>funext fun bF=>funext fun iI=>funext fun iJ=>funext fun iK=>funext fun iL=>funext fun e8=>ao _ _ _ (T2 a1 cD bF iI iJ iK iL) _ (fun rec v=>by kernel_rfl) k e8
noncomputable def b1 (self:((List UInt8)×Int×(List Bool)×Int×Int)->Option Out) (e2:((List UInt8)×Int)->Option Out) (l2:(List UInt8)->Int->Int->Int->Int->Int->((List Bool)×Int)->Option Out) (a1:Arg) (cr:(List UInt8)×Int×(List Bool)×Int×Int):Option Out:=bif decide (cr.2.2.2.2 < cr.2.2.2.1) then ((jf.ab (cr.1,cr.2.2.2.2,())).bind fun qV=>l2 cr.1 cr.2.1 qV.1 qV.2.1 cr.2.2.2.1 cr.2.2.2.2 (cr.2.2.1,qV.1)) else e2 (cr.1,cr.2.1)
noncomputable def B1 (k:Nat) (self:((List UInt8)×Int×(List Bool)×Int×Int)->Option Out) (e2:((List UInt8)×Int)->Option Out) (a1:Arg) (cr:(List UInt8)×Int×(List Bool)×Int×Int):Option Out:=b1 self e2 (r2 k self e2 a1) a1 cr
theorem mw (k:Nat) (rec:RT Out) (K:KT Out) (a1:Arg) (cr:(List UInt8)×Int×(List Bool)×Int×Int):D.N k [1,1,1,1,1,1,0,1,0,0] (T1 a1 cr) (dv rec (cu [0,3,8,66,67] []) K)=B1 k (S1 rec a1) (dF K a1) a1 cr:=
 Eq.trans (b:=b1 (S1 rec a1) (dF K a1) (s2 k rec K a1) a1 cr) (by kernel_rfl) (by rw[ly];rfl)
noncomputable def q2 (a1:Arg) (ox:((List UInt8)×Int)):Option Out:=bif decide ((0:Int) < ox.2) then (if 0<=ae ((ae ((2:Int)*ox.2))+(1:Int)) then ((ox.1[(ae ((ae ((2:Int)*ox.2))+(1:Int))).toNat]?).bind fun Po=>bif decide ((Po.toNat:Int)=(0:Int)) then (some ((8:Int),())) else some ((0:Int),())) else none) else some ((0:Int),())
noncomputable abbrev Q2 (_:Nat):=q2
theorem nP (k:Nat) (a1:Arg) (ox:((List UInt8)×Int)):dF (af 2 (ap (D.N k [1,1,1,1,1,1,1]) D.K0)) a1 ox=q2 a1 ox:=by kernel_rfl
noncomputable def s1 (k:Nat) (a1:Arg) (eY:Int) (bH:Int):((List UInt8)×Int×(List Bool)×Int×Int)->Option Out:=fun cr=>D.L k [1,1,1,1,1,1,0,1,0,0] [0,3,8,66,67] [] (af 2 (ap (D.N k [1,1,1,1,1,1,1]) D.K0)) (T1 a1 cr)
noncomputable def r1 (k:Nat) (a1:Arg) (eY:Int) (bH:Int):((List UInt8)×Int×(List Bool)×Int×Int)->Option Out:=al (fun w v=>B1 k w (Q2 k a1) a1 v) k
theorem gd (k:Nat) (a1:Arg) (eY:Int) (bH:Int):s1 k a1 eY bH=r1 k a1 eY bH:=by
 funext cr;
 have Y:dF (af 2 (ap (D.N k [1,1,1,1,1,1,1]) D.K0)) a1=Q2 k a1:=funext fun z=>nP k a1 z
 refine (ao _ _ _ (T1 a1) (fun self v=>B1 k self (dF (af 2 (ap (D.N k [1,1,1,1,1,1,1]) D.K0)) a1) a1 v) (fun rec v=>mw k rec (af 2 (ap (D.N k [1,1,1,1,1,1,1]) D.K0)) a1 v) k cr).trans ?_
 rw[Y]
 rfl
noncomputable def q0 (l1:((List UInt8)×Int×(List Bool)×Int×Int)->Option Out) (a1:Arg) (eY:Int) (bH:Int) (mZ:(Unit)):Option Out:=l1 (a1.1,eY,List.replicate 64 false,eY,(0:Int))
noncomputable def Q0 (k:Nat) (a1:Arg) (eY:Int) (bH:Int) (mZ:(Unit)):Option Out:=q0 (r1 k a1 eY bH) a1 eY bH mZ
theorem lz (k:Nat) (a1:Arg) (eY:Int) (bH:Int) (mZ:(Unit)):bt (af 0 (ap (D.N k [1,1,1,1,1]) D.K0)) a1 eY bH mZ=Q0 k a1 eY bH mZ:=
 Eq.trans (b:=q0 (s1 k a1 eY bH) a1 eY bH mZ) (by kernel_rfl) (by rw[gd];rfl)
noncomputable def s0 (k:Nat) (a1:Arg):Int->Int->(Int)->Option Out:=fun eY bH=>fun fk=>D.L k [1,1,1,1,0,1,0,0] [0,3,4,35,36] [] (af 0 (ap (D.N k [1,1,1,1,1]) D.K0)) (T0 a1 eY bH fk)
noncomputable def r0 (k:Nat) (a1:Arg):Int->Int->(Int)->Option Out:=fun eY bH=>al (fun w v=>B0 k w (Q0 k a1 eY bH) a1 eY bH v) k
theorem aq (k:Nat) (a1:Arg):s0 k a1=r0 k a1:=by
 funext eY;funext bH;funext fk;
 have h0:bt (af 0 (ap (D.N k [1,1,1,1,1]) D.K0)) a1 eY bH=Q0 k a1 eY bH:=funext fun z=>lz k a1 eY bH z
 refine (ao _ _ _ (T0 a1 eY bH) (fun self v=>B0 k self (bt (af 0 (ap (D.N k [1,1,1,1,1]) D.K0)) a1 eY bH) a1 eY bH v) (fun rec v=>gc k rec (af 0 (ap (D.N k [1,1,1,1,1]) D.K0)) a1 eY bH v) k fk).trans ?_
 rw[h0]
 rfl
noncomputable def p (l0:Int->Int->(Int)->Option Out) (a1:Arg):Option Out:=bif !decide ((a1.1.length:Int)=(64:Int)) then (some ((1:Int),())) else (a1.1[1]?).bind fun x2=>(eL.ab (a1.1,())).bind fun r3=>bif decide ((16:Int) < r3.1) then (some ((3:Int),())) else bif decide (ae (x2.toNat:Int) < ae ((2:Int)+(ae ((2:Int)*r3.1)))) then (some ((3:Int),())) else bif decide ((64:Int) < ae (x2.toNat:Int)) then (some ((3:Int),())) else l0 r3.1 (ae (x2.toNat:Int)) (0:Int)
theorem aa (k:Nat) (a1:Arg):@Eq (Option Out) (D.W k a1) (p (r0 k a1) a1):=
 Eq.trans (b:=p (s0 k a1) a1) (by kernel_rfl) (by rw[aq])
theorem ok:Ok prog 70 D.sig:=am func70 ay (by kernel_rfl) (fc eL.ok (fc jf.ok (ai _)))
end aK
namespace gz
abbrev Arg:Type:=(List UInt8)×Int×Unit
abbrev Out:Type:=Bool×Unit
abbrev ps:PQ:=[(.ro,(.U u8)),(.ro,i64)]
noncomputable def D:FD:={ fn:=f72,tl:=aE,ps:=ps,rs:=[(.bool,(av .bool))],gl:=[(71,eL.D.sig)] }
noncomputable def ab (a:Arg):Option Out:=@lift Out fun k=>D.W k a
noncomputable def p (a1:Arg):Option Out:=bif decide ((0:Int)<=a1.2.1) then ((eL.ab (a1.1,())).bind fun r2=>bif decide (a1.2.1 < r2.1) then (if 0<=ae ((3:Int)+(ae ((2:Int)*a1.2.1))) then ((a1.1[(ae ((3:Int)+(ae ((2:Int)*a1.2.1)))).toNat]?).bind fun x3=>some (!decide ((x3.toNat:Int)=(0:Int)),())) else none) else some (false,())) else some (false,())
theorem aa (k:Nat) (a1:Arg):@Eq (Option Out) (D.W k a1) (p a1):=by kernel_rfl
theorem ok:Ok prog 72 D.sig:=am func72 ay (by kernel_rfl) (fc eL.ok (ai _))
end gz
namespace bv
abbrev Arg:Type:=Row×Unit
abbrev Out:Type:=Int×Unit
abbrev ps:PQ:=[(.ro,aF)]
noncomputable def D:FD:={ fn:=f117,tl:=aE,ps:=ps,rs:=[(i64,(av i64))],gl:=[(36,bT.D.sig)],lv:=[(6,[1,26,27])],lx:=[(0,[])] }
noncomputable def ab (a:Arg):Option Out:=@lift Out fun k=>D.W k a
noncomputable def T0 (a1:Arg) (cN:Int):St:={ n:=43,sl:=[(1,.box aF (av aF) [] a1.1),(26,.val i64 (a1.1.2.2.2.1.length:Int)),(27,.val i64 cN)],vr:=[],aw:=[] }
noncomputable def b0 (self:Int->Option Out) (e0:(Unit)->Option Out) (a1:Arg) (cN:Int):Option Out:=bif decide (cN < (a1.1.2.2.2.1.length:Int)) then (if 0<=cN then ((a1.1.2.2.2.1[cN.toNat]?).bind fun n7=>bif decide ((n7.toNat:Int) < (97:Int)) then (some ((5:Int),())) else if 0<=cN then ((a1.1.2.2.2.1[cN.toNat]?).bind fun uo=>bif decide ((122:Int) < (uo.toNat:Int)) then (some ((5:Int),())) else self (ae (cN+(1:Int)))) else none) else none) else e0 ()
noncomputable abbrev B0 (_:Nat):=b0
noncomputable def q0 (a1:Arg) (mZ:(Unit)):Option Out:=some ((0:Int),())
noncomputable abbrev Q0 (_:Nat):=q0
noncomputable def s0 (k:Nat) (a1:Arg):(Int)->Option Out:=fun cN=>D.L k [1,1,1,0,1,0,0] [1,26,27] [] (af 0 (ap (D.N k [1,1,1,1]) D.K0)) (T0 a1 cN)
noncomputable def r0 (k:Nat) (a1:Arg):(Int)->Option Out:=al (fun w v=>B0 k w (Q0 k a1) a1 v) k
theorem aq (k:Nat) (a1:Arg):s0 k a1=r0 k a1:=
 funext fun cN=>ao _ _ _ (T0 a1) _ (fun rec v=>by kernel_rfl) k cN
noncomputable def p (l0:(Int)->Option Out) (a1:Arg):Option Out:=(bT.ab (a1.1.1,(0:Int),(3:Int),())).bind fun r2=>bif !r2.1 then (some ((3:Int),())) else (bT.ab (a1.1.2.1,(1:Int),(99:Int),())).bind fun r3=>bif !r3.1 then (some ((3:Int),())) else (bT.ab (a1.1.2.2.1,(0:Int),(999:Int),())).bind fun r4=>bif !r4.1 then (some ((3:Int),())) else bif decide ((8:Int) < (a1.1.2.2.2.1.length:Int)) then (some ((5:Int),())) else l0 (0:Int)
theorem aa (k:Nat) (a1:Arg):@Eq (Option Out) (D.W k a1) (p (r0 k a1) a1):=
 Eq.trans (b:=p (s0 k a1) a1) (by kernel_rfl) (by rw[aq])
theorem ok:Ok prog 117 D.sig:=am func117 ay (by kernel_rfl) (fc bT.ok (ai _))
end bv
namespace dX
abbrev Arg:Type:=(List UInt8)×Unit
abbrev Out:Type:=lu×Unit
abbrev ps:PQ:=[(.ro,(.U u8))]
noncomputable def D:FD:={ fn:=f73,tl:=aE,ps:=ps,rs:=[(kM,(av kM))],gl:=[(117,bv.D.sig)],od:=[(2,[0,1,2,3,4,5,6,7,8,9]),(5,[0,1,2,3,4,5,6,7,8,9,10,11,12,13,14,15,16,17,18,19,20,21,22,23]),(8,[0,1,2,3,4,5,6])] }
noncomputable def ab (a:Arg):Option Out:=@lift Out fun k=>D.W k a
noncomputable def p (a1:Arg):Option Out:=let Mb:Option Out:=let Qy:Option Out:=(a1.1[1]?).bind fun Qz=>(a1.1[2]?).bind fun QA=>(a1.1[3]?).bind fun Tn=>(a1.1[4]?).bind fun To=>if 0<=(6:Int)/\(6:Int)<=(a1.1.length:Int) then (let QB:=ae ((BitVec.ofInt 64 (ae ((ae (Tn.toNat:Int))*2 ^ 8)) ||| BitVec.ofInt 64 (ae (To.toNat:Int))).toNat:Int);(bv.ab ((ae (Qz.toNat:Int),ae (QA.toNat:Int),QB,(a1.1.take a1.1.length).drop 6,()),())).bind fun Tp=>bif !decide (Tp.1=(0:Int)) then (some (((5:Int),(0:Int),(0:Int),(0:Int),((0:Int),(0:Int),(0:Int),([]:List UInt8),()),()),())) else (a1.1[0]?).bind fun Tq=>some (((0:Int),ae (Tq.toNat:Int),(0:Int),(0:Int),(ae (Qz.toNat:Int),ae (QA.toNat:Int),QB,(a1.1.take a1.1.length).drop 6,()),()),())) else none;bif decide ((a1.1.length:Int) < (6:Int)) then (some (((5:Int),(0:Int),(0:Int),(0:Int),((0:Int),(0:Int),(0:Int),([]:List UInt8),()),()),())) else (a1.1[0]?).bind fun Ot=>bif !decide ((Ot.toNat:Int)=(0:Int)) then ((a1.1[0]?).bind fun Ou=>bif !decide ((Ou.toNat:Int)=(2:Int)) then (some (((5:Int),(0:Int),(0:Int),(0:Int),((0:Int),(0:Int),(0:Int),([]:List UInt8),()),()),())) else (a1.1[5]?).bind fun Tr=>bif !decide ((a1.1.length:Int)=ae ((6:Int)+(ae (Tr.toNat:Int)))) then (some (((5:Int),(0:Int),(0:Int),(0:Int),((0:Int),(0:Int),(0:Int),([]:List UInt8),()),()),())) else Qy) else (a1.1[5]?).bind fun Ts=>bif !decide ((a1.1.length:Int)=ae ((6:Int)+(ae (Ts.toNat:Int)))) then (some (((5:Int),(0:Int),(0:Int),(0:Int),((0:Int),(0:Int),(0:Int),([]:List UInt8),()),()),())) else Qy;bif decide ((a1.1.length:Int)=(3:Int)) then ((a1.1[0]?).bind fun x2=>bif decide ((x2.toNat:Int)=(1:Int)) then ((a1.1[1]?).bind fun x3=>bif decide ((x3.toNat:Int) < (12:Int)) then ((a1.1[2]?).bind fun x4=>bif decide ((x4.toNat:Int) < (16:Int)) then ((a1.1[1]?).bind fun x5=>(a1.1[2]?).bind fun x6=>some (((0:Int),(1:Int),ae (x5.toNat:Int),ae (x6.toNat:Int),((0:Int),(0:Int),(0:Int),([]:List UInt8),()),()),())) else Mb) else Mb) else Mb) else Mb
theorem aa (k:Nat) (a1:Arg):@Eq (Option Out) (D.W k a1) (p a1):=by kernel_rfl
theorem ok:Ok prog 73 D.sig:=am func73 ay (by kernel_rfl) (fc bv.ok (ai _))
end dX
namespace hJ
abbrev Arg:Type:=(List UInt8)×Int×Unit
abbrev Out:Type:=(List UInt8)×Unit
abbrev ps:PQ:=[(.ro,(.U u8)),(.ro,i64)]
noncomputable def D:FD:={ fn:=f74,tl:=aE,ps:=ps,rs:=[((.U u8),(av (.U u8)))],gl:=[(116,jf.D.sig)] }
noncomputable def ab (a:Arg):Option Out:=@lift Out fun k=>D.W k a
noncomputable def p (a1:Arg):Option Out:=(jf.ab (a1.1,a1.2.1,())).bind fun r2=>if 0<=r2.1/\r2.1<=ae (r2.1+r2.2.1)/\ae (r2.1+r2.2.1)<=(a1.1.length:Int) then (some ((a1.1.take (ae (r2.1+r2.2.1)).toNat).drop r2.1.toNat,())) else none
theorem aa (k:Nat) (a1:Arg):@Eq (Option Out) (D.W k a1) (p a1):=by kernel_rfl
theorem ok:Ok prog 74 D.sig:=am func74 ay (by kernel_rfl) (fc jf.ok (ai _))
end hJ
namespace cG
abbrev Arg:Type:=Row×Row×Unit
abbrev Out:Type:=Bool×Unit
abbrev ps:PQ:=[(.ro,aF),(.ro,aF)]
noncomputable def D:FD:={ fn:=f121,tl:=aE,ps:=ps,rs:=[(.bool,(av .bool))] }
noncomputable def ab (a:Arg):Option Out:=@lift Out fun k=>D.W k a
noncomputable def p (a1:Arg):Option Out:=bif decide (a1.1.1 < a1.2.1.1) then (some (true,())) else bif decide (a1.1.1=a1.2.1.1) then (some (decide (a1.1.2.1 < a1.2.1.2.1),())) else some (false,())
theorem aa (k:Nat) (a1:Arg):@Eq (Option Out) (D.W k a1) (p a1):=by kernel_rfl
theorem ok:Ok prog 121 D.sig:=am func121 ay (by kernel_rfl) (ai _)
end cG
namespace e_
abbrev Arg:Type:=Row×Row×Unit
abbrev Out:Type:=Int×Unit
abbrev ps:PQ:=[(.ro,aF),(.ro,aF)]
noncomputable def D:FD:={ fn:=f120,tl:=aE,ps:=ps,rs:=[(i64,(av i64))],gl:=[(121,cG.D.sig)] }
noncomputable def ab (a:Arg):Option Out:=@lift Out fun k=>D.W k a
noncomputable def p (a1:Arg):Option Out:=(cG.ab (a1.1,a1.2.1,())).bind fun r2=>bif r2.1 then (some ((-1:Int),())) else (cG.ab (a1.2.1,a1.1,())).bind fun r3=>bif r3.1 then (some ((1:Int),())) else some ((0:Int),())
theorem aa (k:Nat) (a1:Arg):@Eq (Option Out) (D.W k a1) (p a1):=by kernel_rfl
theorem ok:Ok prog 120 D.sig:=am func120 ay (by kernel_rfl) (fc cG.ok (ai _))
end e_
namespace iB
abbrev Arg:Type:=Seen×Seen×Unit
abbrev Out:Type:=Int×Unit
abbrev ps:PQ:=[(.ro,cY),(.ro,cY)]
noncomputable def D:FD:={ fn:=f119,tl:=aE,ps:=ps,rs:=[(i64,(av i64))],gl:=[(120,e_.D.sig)] }
noncomputable def ab (a:Arg):Option Out:=@lift Out fun k=>D.W k a
noncomputable def p (a1:Arg):Option Out:=(e_.ab (a1.1.1,a1.2.1.1,())).bind fun r2=>some (r2.1,())
theorem aa (k:Nat) (a1:Arg):@Eq (Option Out) (D.W k a1) (p a1):=by kernel_rfl
theorem ok:Ok prog 119 D.sig:=am func119 ay (by kernel_rfl) (fc e_.ok (ai _))
end iB
namespace iM
open Go.Proofs
abbrev Arg:Type:=(List Seen)×(Nat×Int)×Unit
abbrev Out:Type:=(List Seen)×Unit
noncomputable def ab (a:Arg):Option Out:=(p_ cY iB.ab a.1).map fun r=>(r,())
noncomputable def sig:ni:={ ps:=[(.gY (au (.U cY)),.U cY),(.fix 119,.fn)],rs:=[],F:=ab }
def Ep:Go.Shelf.Ren:=⟨fun | 6=>118 | 15=>168 | 14=>167 | 28=>201 | 29=>202 | 20=>193 | 21=>194 | 22=>195 | 23=>196 | 24=>197 | 25=>198 | 26=>199 | 27=>200 | 46=>207 | 47=>208 | 48=>209 | 49=>210 | 50=>211 | 57=>212 | n=>n,fun | 22=>92 | 24=>155 | 25=>217 | 3=>3 | 39=>209 | 0=>0 | 53=>291 | 55=>293 | 4=>4 | 46=>284 | 45=>283 | 50=>288 | 5=>5 | 9=>9 | 66=>297 | 70=>301 | 76=>303 | 77=>206 | n=>n,fun | n=>n⟩
theorem MV:Go.Proofs.SlLaysF0.n6 Tryz.prog Ep:={
 mixed:=by kernel_rfl
 f6:=⟨Tryz.f118.name,by decide,Tryz.func118.trans (congrArg some (by kernel_rfl))⟩
 f14:=⟨Tryz.f167.name,by decide,Tryz.func167.trans (congrArg some (by kernel_rfl))⟩
 f15:=Tryz.func168.trans (congrArg some (by kernel_rfl))
 f20:=⟨Tryz.f193.name,by decide,Tryz.func193.trans (congrArg some (by kernel_rfl))⟩
 f21:=⟨Tryz.f194.name,by decide,Tryz.func194.trans (congrArg some (by kernel_rfl))⟩
 f22:=⟨Tryz.f195.name,by decide,Tryz.func195.trans (congrArg some (by kernel_rfl))⟩
 f23:=⟨Tryz.f196.name,by decide,Tryz.func196.trans (congrArg some (by kernel_rfl))⟩
 f24:=⟨Tryz.f197.name,by decide,Tryz.func197.trans (congrArg some (by kernel_rfl))⟩
 f25:=⟨Tryz.f198.name,by decide,Tryz.func198.trans (congrArg some (by kernel_rfl))⟩
 f26:=⟨Tryz.f199.name,by decide,Tryz.func199.trans (congrArg some (by kernel_rfl))⟩
 f27:=⟨Tryz.f200.name,by decide,Tryz.func200.trans (congrArg some (by kernel_rfl))⟩
 f28:=Tryz.func201.trans (congrArg some (by kernel_rfl))
 f29:=Tryz.func202.trans (congrArg some (by kernel_rfl))
 f46:=⟨Tryz.f207.name,by decide,Tryz.func207.trans (congrArg some (by kernel_rfl))⟩
 f47:=Tryz.func208.trans (congrArg some (by kernel_rfl))
 f48:=Tryz.func209.trans (congrArg some (by kernel_rfl))
 f49:=⟨Tryz.f210.name,by decide,Tryz.func210.trans (congrArg some (by kernel_rfl))⟩
 f50:=⟨Tryz.f211.name,by decide,Tryz.func211.trans (congrArg some (by kernel_rfl))⟩
 f57:=⟨Tryz.f212.name,by decide,Tryz.func212.trans (congrArg some (by kernel_rfl))⟩
 t0:=Tryz.underlying0
 a0:=Tryz.isAgg0
 z0:=Tryz.sizeOf0
 v0:=Tryz.zeroValue0
 t3:=Tryz.underlying3
 a3:=Tryz.isAgg3
 z3:=Tryz.sizeOf3
 v3:=Tryz.zeroValue3
 t4:=Tryz.underlying4
 a4:=Tryz.isAgg4
 z4:=Tryz.sizeOf4
 v4:=Tryz.zeroValue4
 t5:=Tryz.underlying5
 a5:=Tryz.isAgg5
 z5:=Tryz.sizeOf5
 v5:=Tryz.zeroValue5
 t9:=Tryz.underlying9
 a9:=Tryz.isAgg9
 z9:=Tryz.sizeOf9
 v9:=Tryz.zeroValue9
 t22:=Tryz.underlying92
 a22:=Tryz.isAgg92
 z22:=Tryz.sizeOf92
 v22:=Tryz.zeroValue92
 t25:=Tryz.underlying217
 a25:=Tryz.isAgg217
 z25:=Tryz.sizeOf217
 v25:=Tryz.zeroValue217
 t39:=Tryz.underlying209
 a39:=Tryz.isAgg209
 z39:=Tryz.sizeOf209
 v39:=Tryz.zeroValue209
 t45:=Tryz.underlying283
 a45:=Tryz.isAgg283
 z45:=Tryz.sizeOf283
 v45:=Tryz.zeroValue283
 t46:=Tryz.underlying284
 a46:=Tryz.isAgg284
 z46:=Tryz.sizeOf284
 v46:=Tryz.zeroValue284
 t50:=Tryz.underlying288
 a50:=Tryz.isAgg288
 z50:=Tryz.sizeOf288
 v50:=Tryz.zeroValue288
 t53:=Tryz.underlying291
 a53:=Tryz.isAgg291
 z53:=Tryz.sizeOf291
 v53:=Tryz.zeroValue291
 t55:=Tryz.underlying293
 a55:=Tryz.isAgg293
 z55:=Tryz.sizeOf293
 v55:=Tryz.zeroValue293
 t66:=Tryz.underlying297
 a66:=Tryz.isAgg297
 z66:=Tryz.sizeOf297
 v66:=Tryz.zeroValue297
 t70:=Tryz.underlying301
 a70:=Tryz.isAgg301
 z70:=Tryz.sizeOf301
 v70:=Tryz.zeroValue301
 t76:=Tryz.underlying303
 a76:=Tryz.isAgg303
 z76:=Tryz.sizeOf303
 v76:=Tryz.zeroValue303
 t77:=Tryz.underlying206
 a77:=Tryz.isAgg206
 z77:=Tryz.sizeOf206
 v77:=Tryz.zeroValue206 }
theorem ok:Ok prog 118 sig:=MU (e:=cY) MV rfl rfl (by kernel_rfl) (by decide) (g:=119) (cF:=iB.ab) iB.ok ⟨f118,func118,by kernel_rfl,by kernel_rfl,by kernel_rfl⟩
end iM
namespace aJ
abbrev Arg:Type:=(List (List UInt8))×Unit
abbrev Out:Type:=(List Seen)×Int×Unit
abbrev ps:PQ:=[(.ro,(.U (.U u8)))]
noncomputable def D:FD:={ fn:=f75,tl:=aE,ps:=ps,rs:=[((.U cY),(au (.U cY))),(i64,(av i64))],gl:=[(71,eL.D.sig),(72,gz.D.sig),(73,dX.D.sig),(74,hJ.D.sig),(118,iM.sig),(121,cG.D.sig)],lv:=[(4,[4,5,6,21,22,23]),(7,[4,5,6,7,8,21,22,23,29,30]),(21,[4,5,6,81,82,83]),(29,[4,5,6,15,101,102,103]),(40,[4,19])],lx:=[(0,[4,5,6]),(2,[4,5,6,21,22,23]),(3,[4,5,6,7,8,21,22,23,29,30]),(5,[4,5,6]),(7,[4]),(9,[4])],od:=[(42,[0,1,2,3,4,5,6,7,8,9,10,11,12])] }
noncomputable def ab (a:Arg):Option Out:=@lift Out fun k=>D.W k a
noncomputable def T0 (a1:Arg) (J:(List Seen)×(List Seen)×(List ((List Int)×Row))×(List (List UInt8))×Int×Int):St:={ n:=148,sl:=[(4,.own (.U cY) (au (.U cY)) [] J.1),(5,.own (.U cY) (au (.U cY)) [] J.2.1),(6,.own (.map (.arr 2 i64) aF) (au (.map (.arr 2 i64) aF)) [] J.2.2.1),(21,.val (.U (.U u8)) J.2.2.2.1),(22,.val i64 J.2.2.2.2.1),(23,.val i64 J.2.2.2.2.2)],vr:=[],aw:=[] }
noncomputable def S0 (rec:RT Out) (a1:Arg):((List Seen)×(List Seen)×(List ((List Int)×Row))×(List (List UInt8))×Int×Int)->Option Out:=fun J=>rec (T0 a1 J)
noncomputable def bt (K:KT Out) (a1:Arg):((List Seen)×(List Seen)×(List ((List Int)×Row)))->Option Out:=fun z=>K (.exit 0) ({ n:=148,sl:=[(4,.own (.U cY) (au (.U cY)) [] z.1),(5,.own (.U cY) (au (.U cY)) [] z.2.1),(6,.own (.map (.arr 2 i64) aF) (au (.map (.arr 2 i64) aF)) [] z.2.2)],vr:=[],aw:=[] })
noncomputable def T1 (a1:Arg) (eH:Int) (dy:List UInt8) (c7:List (List UInt8)) (b9:Int) (eK:Int) (cv:(List Seen)×(List Seen)×(List ((List Int)×Row))×Int):St:={ n:=148,sl:=[(4,.own (.U cY) (au (.U cY)) [] cv.1),(5,.own (.U cY) (au (.U cY)) [] cv.2.1),(6,.own (.map (.arr 2 i64) aF) (au (.map (.arr 2 i64) aF)) [] cv.2.2.1),(7,.val i64 eH),(8,.val (.U u8) dy),(21,.val (.U (.U u8)) c7),(22,.val i64 b9),(23,.val i64 eH),(29,.val i64 eK),(30,.val i64 cv.2.2.2)],vr:=[],aw:=[] }
noncomputable def b1 (self:((List Seen)×(List Seen)×(List ((List Int)×Row))×Int)->Option Out) (e2:((List Seen)×(List Seen)×(List ((List Int)×Row)))->Option Out) (a1:Arg) (eH:Int) (dy:List UInt8) (c7:List (List UInt8)) (b9:Int) (eK:Int) (cv:(List Seen)×(List Seen)×(List ((List Int)×Row))×Int):Option Out:=bif decide (cv.2.2.2 < eK) then ((gz.ab (dy,cv.2.2.2,())).bind fun zg=>bif !zg.1 then (self (cv.1,cv.2.1,cv.2.2.1,ae (cv.2.2.2+(1:Int)))) else (hJ.ab (dy,cv.2.2.2,())).bind fun BL=>(dX.ab (BL.1,())).bind fun m9=>bif !decide (m9.1.1=(0:Int)) then (some (([]:List Seen),(5:Int),())) else bif decide (m9.1.2.1=(0:Int)) then (if cv.1.length+[(m9.1.2.2.2.2.1,eH,cv.2.2.2,false,eH,cv.2.2.2,())].length<=bk then (let Pp:=cv.1++[(m9.1.2.2.2.2.1,eH,cv.2.2.2,false,eH,cv.2.2.2,())];self (Pp,cv.2.1,cv.2.2.1,ae (cv.2.2.2+(1:Int)))) else none) else bif decide (m9.1.2.1=(2:Int)) then (if 0 < (List.replicate 2 (0:Int)).length then (if 1 < ((List.replicate 2 (0:Int)).set 0 eH).length then (let Pq:=gZ (.arr 2 i64) cv.2.2.1 (((List.replicate 2 (0:Int)).set 0 eH).set 1 cv.2.2.2) m9.1.2.2.2.2.1;self (cv.1,cv.2.1,Pq,ae (cv.2.2.2+(1:Int)))) else none) else none) else if cv.2.1.length+[(((0:Int),(0:Int),(0:Int),([]:List UInt8),()),eH,cv.2.2.2,true,m9.1.2.2.1,m9.1.2.2.2.1,())].length<=bk then (let Pr:=cv.2.1++[(((0:Int),(0:Int),(0:Int),([]:List UInt8),()),eH,cv.2.2.2,true,m9.1.2.2.1,m9.1.2.2.2.1,())];self (cv.1,Pr,cv.2.2.1,ae (cv.2.2.2+(1:Int)))) else none) else e2 (cv.1,cv.2.1,cv.2.2.1)
noncomputable abbrev B1 (_:Nat):=b1
noncomputable def q0 (self:((List Seen)×(List Seen)×(List ((List Int)×Row))×(List (List UInt8))×Int×Int)->Option Out) (e0:((List Seen)×(List Seen)×(List ((List Int)×Row)))->Option Out) (a1:Arg) (eH:Int) (dy:List UInt8) (c7:List (List UInt8)) (b9:Int) (eK:Int) (sF:((List Seen)×(List Seen)×(List ((List Int)×Row)))):Option Out:=self (sF.1,sF.2.1,sF.2.2,c7,b9,ae (eH+(1:Int)))
noncomputable abbrev Q0 (_:Nat):=q0
noncomputable def s1 (k:Nat) (rec:RT Out) (K:KT Out) (a1:Arg):Int->(List UInt8)->(List (List UInt8))->Int->Int->((List Seen)×(List Seen)×(List ((List Int)×Row))×Int)->Option Out:=fun eH dy c7 b9 eK=>fun cv=>D.L k [1,1,1,0,1,0,0,1,1,0,0,1,1,0,0] [4,5,6,7,8,21,22,23,29,30] [] (af 2 (af 1 (ap (D.N k [1,1,1,0,1,0,0,1,1,1]) (dv rec (cu [4,5,6,21,22,23] []) K)))) (T1 a1 eH dy c7 b9 eK cv)
noncomputable def r1 (k:Nat) (self:((List Seen)×(List Seen)×(List ((List Int)×Row))×(List (List UInt8))×Int×Int)->Option Out) (e0:((List Seen)×(List Seen)×(List ((List Int)×Row)))->Option Out) (a1:Arg):Int->(List UInt8)->(List (List UInt8))->Int->Int->((List Seen)×(List Seen)×(List ((List Int)×Row))×Int)->Option Out:=fun eH dy c7 b9 eK=>al (fun w v=>B1 k w (Q0 k self e0 a1 eH dy c7 b9 eK) a1 eH dy c7 b9 eK v) k
theorem gd (k:Nat) (rec:RT Out) (K:KT Out) (a1:Arg):s1 k rec K a1=r1 k (S0 rec a1) (bt K a1) a1:=
 funext fun eH=>funext fun dy=>funext fun c7=>funext fun b9=>funext fun eK=>funext fun cv=>ao _ _ _ (T1 a1 eH dy c7 b9 eK) _ (fun rec v=>by kernel_rfl) k cv
noncomputable def b0 (self:((List Seen)×(List Seen)×(List ((List Int)×Row))×(List (List UInt8))×Int×Int)->Option Out) (e0:((List Seen)×(List Seen)×(List ((List Int)×Row)))->Option Out) (l1:Int->(List UInt8)->(List (List UInt8))->Int->Int->((List Seen)×(List Seen)×(List ((List Int)×Row))×Int)->Option Out) (a1:Arg) (J:(List Seen)×(List Seen)×(List ((List Int)×Row))×(List (List UInt8))×Int×Int):Option Out:=bif decide (J.2.2.2.2.2 < J.2.2.2.2.1) then (if 0<=J.2.2.2.2.2 then ((J.2.2.2.1[J.2.2.2.2.2.toNat]?).bind fun aB=>(eL.ab (aB,())).bind fun bs=>l1 J.2.2.2.2.2 aB J.2.2.2.1 J.2.2.2.2.1 bs.1 (J.1,J.2.1,J.2.2.1,(0:Int))) else none) else e0 (J.1,J.2.1,J.2.2.1)
noncomputable def B0 (k:Nat) (self:((List Seen)×(List Seen)×(List ((List Int)×Row))×(List (List UInt8))×Int×Int)->Option Out) (e0:((List Seen)×(List Seen)×(List ((List Int)×Row)))->Option Out) (a1:Arg) (J:(List Seen)×(List Seen)×(List ((List Int)×Row))×(List (List UInt8))×Int×Int):Option Out:=b0 self e0 (r1 k self e0 a1) a1 J
theorem gc (k:Nat) (rec:RT Out) (K:KT Out) (a1:Arg) (J:(List Seen)×(List Seen)×(List ((List Int)×Row))×(List (List UInt8))×Int×Int):D.N k [1,1,1,0,1,0,0] (T0 a1 J) (dv rec (cu [4,5,6,21,22,23] []) K)=B0 k (S0 rec a1) (bt K a1) a1 J:=
 Eq.trans (b:=b0 (S0 rec a1) (bt K a1) (s1 k rec K a1) a1 J) (by kernel_rfl) (by rw[gd];rfl)
noncomputable def T2 (a1:Arg) (dO:List Seen) (dz:List Seen) (dB:List ((List Int)×Row)) (dY:Int) (lX:Int):St:={ n:=148,sl:=[(4,.own (.U cY) (au (.U cY)) [] dO),(5,.own (.U cY) (au (.U cY)) [] dz),(6,.own (.map (.arr 2 i64) aF) (au (.map (.arr 2 i64) aF)) [] dB),(81,.ref 5 [] [0,0]),(82,.val i64 dY),(83,.val i64 lX)],vr:=[],aw:=[] }
noncomputable def S2 (rec:RT Out) (a1:Arg) (dO:List Seen) (dz:List Seen) (dB:List ((List Int)×Row)) (dY:Int):(Int)->Option Out:=fun lX=>rec (T2 a1 dO dz dB dY lX)
noncomputable def Ha (K:KT Out) (a1:Arg) (dO:List Seen) (dz:List Seen) (dB:List ((List Int)×Row)) (dY:Int):(Unit)->Option Out:=fun z=>K (.exit 5) ({ n:=148,sl:=[(4,.own (.U cY) (au (.U cY)) [] dO),(5,.own (.U cY) (au (.U cY)) [] dz),(6,.own (.map (.arr 2 i64) aF) (au (.map (.arr 2 i64) aF)) [] dB)],vr:=[],aw:=[] })
noncomputable def b2 (self:Int->Option Out) (e5:(Unit)->Option Out) (a1:Arg) (dO:List Seen) (dz:List Seen) (dB:List ((List Int)×Row)) (dY:Int) (lX:Int):Option Out:=bif decide (lX < dY) then (if 0<=lX/\lX < (dz.length:Int) then ((dz[lX.toNat]?).bind fun zi=>if 0 < (List.replicate 2 (0:Int)).length then (if 1 < ((List.replicate 2 (0:Int)).set 0 zi.2.2.2.2.1).length then (let TU:=rA (dA (.arr 2 i64) dB (((List.replicate 2 (0:Int)).set 0 zi.2.2.2.2.1).set 1 zi.2.2.2.2.2.1)) ((0:Int),(0:Int),(0:Int),([]:List UInt8),());bif !(dA (.arr 2 i64) dB (((List.replicate 2 (0:Int)).set 0 zi.2.2.2.2.1).set 1 zi.2.2.2.2.2.1)).isSome then (some (([]:List Seen),(4:Int),())) else self (ae (lX+(1:Int)))) else none) else none) else none) else e5 ()
noncomputable abbrev B2 (_:Nat):=b2
theorem G5 (k:Nat) (rec:RT Out) (K:KT Out) (a1:Arg) (dO:List Seen) (dz:List Seen) (dB:List ((List Int)×Row)) (dY:Int) (lX:Int):D.N k [1,1,1,1,0,1,0,0] (T2 a1 dO dz dB dY lX) (dv rec (cu [4,5,6,81,82,83] []) K)=b2 (S2 rec a1 dO dz dB dY) (Ha K a1 dO dz dB dY) a1 dO dz dB dY lX:=by kernel_rfl
noncomputable def T3 (a1:Arg) (dP:List Seen) (dZ:List ((List Int)×Row)) (d0:Int) (iN:(List Seen)×(List ((List Int)×Bool))×Int):St:={ n:=148,sl:=[(4,.own (.U cY) (au (.U cY)) [] iN.1),(5,.own (.U cY) (au (.U cY)) [] dP),(6,.own (.map (.arr 2 i64) aF) (au (.map (.arr 2 i64) aF)) [] dZ),(15,.own (.map (.arr 2 i64) .bool) (au (.map (.arr 2 i64) .bool)) [] iN.2.1),(101,.ref 5 [] [0,0]),(102,.val i64 d0),(103,.val i64 iN.2.2)],vr:=[],aw:=[] }
noncomputable def S3 (rec:RT Out) (a1:Arg) (dP:List Seen) (dZ:List ((List Int)×Row)) (d0:Int):((List Seen)×(List ((List Int)×Bool))×Int)->Option Out:=fun iN=>rec (T3 a1 dP dZ d0 iN)
noncomputable def Hb (K:KT Out) (a1:Arg) (dP:List Seen) (dZ:List ((List Int)×Row)) (d0:Int):(List Seen)->Option Out:=fun z=>K (.exit 7) ({ n:=148,sl:=[(4,.own (.U cY) (au (.U cY)) [] z)],vr:=[],aw:=[] })
noncomputable def b3 (self:((List Seen)×(List ((List Int)×Bool))×Int)->Option Out) (e7:(List Seen)->Option Out) (a1:Arg) (dP:List Seen) (dZ:List ((List Int)×Row)) (d0:Int) (iN:(List Seen)×(List ((List Int)×Bool))×Int):Option Out:=bif decide (iN.2.2 < d0) then (if 0<=iN.2.2/\iN.2.2 < (dP.length:Int) then ((dP[iN.2.2.toNat]?).bind fun zj=>if 0 < (List.replicate 2 (0:Int)).length then (if 1 < ((List.replicate 2 (0:Int)).set 0 zj.2.2.2.2.1).length then (let Hc:=((List.replicate 2 (0:Int)).set 0 zj.2.2.2.2.1).set 1 zj.2.2.2.2.2.1;bif rA (dA (.arr 2 i64) iN.2.1 Hc) false then (some (([]:List Seen),(6:Int),())) else let Mc:=rA (dA (.arr 2 i64) dZ Hc) ((0:Int),(0:Int),(0:Int),([]:List UInt8),());if iN.1.length+[(Mc,zj.2)].length<=bk then (self (iN.1++[(Mc,zj.2)],gZ (.arr 2 i64) iN.2.1 Hc true,ae (iN.2.2+(1:Int)))) else none) else none) else none) else none) else e7 iN.1
noncomputable abbrev B3 (_:Nat):=b3
theorem Ps (k:Nat) (rec:RT Out) (K:KT Out) (a1:Arg) (dP:List Seen) (dZ:List ((List Int)×Row)) (d0:Int) (iN:(List Seen)×(List ((List Int)×Bool))×Int):D.N k [1,1,1,1,1,1,0,1,0,0] (T3 a1 dP dZ d0 iN) (dv rec (cu [4,5,6,15,101,102,103] []) K)=b3 (S3 rec a1 dP dZ d0) (Hb K a1 dP dZ d0) a1 dP dZ d0 iN:=by kernel_rfl
noncomputable def T4 (a1:Arg) (lY:List Seen) (m_:Int):St:={ n:=148,sl:=[(4,.own (.U cY) (au (.U cY)) [] lY),(19,.val i64 m_)],vr:=[],aw:=[] }
noncomputable def b4 (self:Int->Option Out) (e9:(Unit)->Option Out) (a1:Arg) (lY:List Seen) (m_:Int):Option Out:=bif decide (m_ < (lY.length:Int)) then (if 0<=ae (m_ - (1:Int))/\ae (m_ - (1:Int)) < (lY.length:Int) then ((lY[(ae (m_ - (1:Int))).toNat]?).bind fun Pt=>if 0<=m_/\m_ < (lY.length:Int) then ((lY[m_.toNat]?).bind fun Pu=>(cG.ab (Pt.1,Pu.1,())).bind fun Pv=>bif !Pv.1 then (some (([]:List Seen),(8:Int),())) else self (ae (m_+(1:Int)))) else none) else none) else e9 ()
noncomputable abbrev B4 (_:Nat):=b4
noncomputable def q4 (a1:Arg) (lY:List Seen) (TV:(Unit)):Option Out:=some (lY,(0:Int),())
noncomputable abbrev Q4 (_:Nat):=q4
noncomputable def s4 (k:Nat) (a1:Arg) (dP:List Seen) (dZ:List ((List Int)×Row)) (d0:Int):(List Seen)->(Int)->Option Out:=fun lY=>fun m_=>D.L k [1,1,1,1,1,1,1,1,0,1,0,0] [4,19] [] (af 9 (ap (D.N k [1,1,1,1,1,1,1,1,1]) D.K0)) (T4 a1 lY m_)
noncomputable def r4 (k:Nat) (a1:Arg) (dP:List Seen) (dZ:List ((List Int)×Row)) (d0:Int):(List Seen)->(Int)->Option Out:=fun lY=>al (fun w v=>B4 k w (Q4 k a1 lY) a1 lY v) k
theorem Pw (k:Nat) (a1:Arg) (dP:List Seen) (dZ:List ((List Int)×Row)) (d0:Int):s4 k a1 dP dZ d0=r4 k a1 dP dZ d0:=
 funext fun lY=>funext fun m_=>ao _ _ _ (T4 a1 lY) _ (fun rec v=>by kernel_rfl) k m_
noncomputable def q3 (l4:(List Seen)->(Int)->Option Out) (a1:Arg) (dP:List Seen) (dZ:List ((List Int)×Row)) (d0:Int) (uy:(List Seen)):Option Out:=(iM.ab (uy,((119,0):Nat×Int),())).bind fun Px=>l4 Px.1 (1:Int)
noncomputable def Q3 (k:Nat) (a1:Arg) (dP:List Seen) (dZ:List ((List Int)×Row)) (d0:Int) (uy:(List Seen)):Option Out:=q3 (r4 k a1 dP dZ d0) a1 dP dZ d0 uy
theorem G6 (k:Nat) (a1:Arg) (dP:List Seen) (dZ:List ((List Int)×Row)) (d0:Int) (uy:(List Seen)):Hb (af 7 (ap (D.N k [1,1,1,1,1,1,1]) D.K0)) a1 dP dZ d0 uy=Q3 k a1 dP dZ d0 uy:=
 Eq.trans (b:=q3 (s4 k a1 dP dZ d0) a1 dP dZ d0 uy) (by kernel_rfl) (by rw[Pw];rfl)
noncomputable def s3 (k:Nat) (a1:Arg) (dO:List Seen) (dz:List Seen) (dB:List ((List Int)×Row)) (dY:Int):(List Seen)->(List ((List Int)×Row))->Int->((List Seen)×(List ((List Int)×Bool))×Int)->Option Out:=fun dP dZ d0=>fun iN=>D.L k [1,1,1,1,1,1,0,1,0,0] [4,5,6,15,101,102,103] [] (af 7 (ap (D.N k [1,1,1,1,1,1,1]) D.K0)) (T3 a1 dP dZ d0 iN)
noncomputable def r3 (k:Nat) (a1:Arg) (dO:List Seen) (dz:List Seen) (dB:List ((List Int)×Row)) (dY:Int):(List Seen)->(List ((List Int)×Row))->Int->((List Seen)×(List ((List Int)×Bool))×Int)->Option Out:=fun dP dZ d0=>al (fun w v=>B3 k w (Q3 k a1 dP dZ d0) a1 dP dZ d0 v) k
theorem G4 (k:Nat) (a1:Arg) (dO:List Seen) (dz:List Seen) (dB:List ((List Int)×Row)) (dY:Int):s3 k a1 dO dz dB dY=r3 k a1 dO dz dB dY:=by
 funext dP;funext dZ;funext d0;funext iN;
 have h7:Hb (af 7 (ap (D.N k [1,1,1,1,1,1,1]) D.K0)) a1 dP dZ d0=Q3 k a1 dP dZ d0:=funext fun z=>G6 k a1 dP dZ d0 z
 refine (ao _ _ _ (T3 a1 dP dZ d0) (fun self v=>B3 k self (Hb (af 7 (ap (D.N k [1,1,1,1,1,1,1]) D.K0)) a1 dP dZ d0) a1 dP dZ d0 v) (fun rec v=>Ps k rec (af 7 (ap (D.N k [1,1,1,1,1,1,1]) D.K0)) a1 dP dZ d0 v) k iN).trans ?_
 rw[h7]
 rfl
noncomputable def q2 (l3:(List Seen)->(List ((List Int)×Row))->Int->((List Seen)×(List ((List Int)×Bool))×Int)->Option Out) (a1:Arg) (dO:List Seen) (dz:List Seen) (dB:List ((List Int)×Row)) (dY:Int) (w4:(Unit)):Option Out:=l3 dz dB (dz.length:Int) (dO,([]:List ((List Int)×Bool)),(0:Int))
noncomputable def Q2 (k:Nat) (a1:Arg) (dO:List Seen) (dz:List Seen) (dB:List ((List Int)×Row)) (dY:Int) (w4:(Unit)):Option Out:=q2 (r3 k a1 dO dz dB dY) a1 dO dz dB dY w4
theorem nP (k:Nat) (a1:Arg) (dO:List Seen) (dz:List Seen) (dB:List ((List Int)×Row)) (dY:Int) (w4:(Unit)):Ha (af 5 (ap (D.N k [1,1,1,1,1]) D.K0)) a1 dO dz dB dY w4=Q2 k a1 dO dz dB dY w4:=
 Eq.trans (b:=q2 (s3 k a1 dO dz dB dY) a1 dO dz dB dY w4) (by kernel_rfl) (by rw[G4];rfl)
noncomputable def s2 (k:Nat) (a1:Arg):(List Seen)->(List Seen)->(List ((List Int)×Row))->Int->(Int)->Option Out:=fun dO dz dB dY=>fun lX=>D.L k [1,1,1,1,0,1,0,0] [4,5,6,81,82,83] [] (af 5 (ap (D.N k [1,1,1,1,1]) D.K0)) (T2 a1 dO dz dB dY lX)
noncomputable def r2 (k:Nat) (a1:Arg):(List Seen)->(List Seen)->(List ((List Int)×Row))->Int->(Int)->Option Out:=fun dO dz dB dY=>al (fun w v=>B2 k w (Q2 k a1 dO dz dB dY) a1 dO dz dB dY v) k
theorem ly (k:Nat) (a1:Arg):s2 k a1=r2 k a1:=by
 funext dO;funext dz;funext dB;funext dY;funext lX;
 have h5:Ha (af 5 (ap (D.N k [1,1,1,1,1]) D.K0)) a1 dO dz dB dY=Q2 k a1 dO dz dB dY:=funext fun z=>nP k a1 dO dz dB dY z
 refine (ao _ _ _ (T2 a1 dO dz dB dY) (fun self v=>B2 k self (Ha (af 5 (ap (D.N k [1,1,1,1,1]) D.K0)) a1 dO dz dB dY) a1 dO dz dB dY v) (fun rec v=>G5 k rec (af 5 (ap (D.N k [1,1,1,1,1]) D.K0)) a1 dO dz dB dY v) k lX).trans ?_
 rw[h5]
 rfl
noncomputable def q1 (l2:(List Seen)->(List Seen)->(List ((List Int)×Row))->Int->(Int)->Option Out) (a1:Arg) (qa:((List Seen)×(List Seen)×(List ((List Int)×Row)))):Option Out:=l2 qa.1 qa.2.1 qa.2.2 (qa.2.1.length:Int) (0:Int)
noncomputable def Q1 (k:Nat) (a1:Arg) (qa:((List Seen)×(List Seen)×(List ((List Int)×Row)))):Option Out:=q1 (r2 k a1) a1 qa
theorem my (k:Nat) (a1:Arg) (qa:((List Seen)×(List Seen)×(List ((List Int)×Row)))):bt (af 0 (ap (D.N k [1,1,1,1]) D.K0)) a1 qa=Q1 k a1 qa:=
 Eq.trans (b:=q1 (s2 k a1) a1 qa) (by kernel_rfl) (by rw[ly];rfl)
noncomputable def s0 (k:Nat) (a1:Arg):((List Seen)×(List Seen)×(List ((List Int)×Row))×(List (List UInt8))×Int×Int)->Option Out:=fun J=>D.L k [1,1,1,0,1,0,0] [4,5,6,21,22,23] [] (af 0 (ap (D.N k [1,1,1,1]) D.K0)) (T0 a1 J)
noncomputable def r0 (k:Nat) (a1:Arg):((List Seen)×(List Seen)×(List ((List Int)×Row))×(List (List UInt8))×Int×Int)->Option Out:=al (fun w v=>B0 k w (Q1 k a1) a1 v) k
theorem aq (k:Nat) (a1:Arg):s0 k a1=r0 k a1:=by
 funext J;
 have h0:bt (af 0 (ap (D.N k [1,1,1,1]) D.K0)) a1=Q1 k a1:=funext fun z=>my k a1 z
 refine (ao _ _ _ (T0 a1) (fun self v=>B0 k self (bt (af 0 (ap (D.N k [1,1,1,1]) D.K0)) a1) a1 v) (fun rec v=>gc k rec (af 0 (ap (D.N k [1,1,1,1]) D.K0)) a1 v) k J).trans ?_
 rw[h0]
 rfl
noncomputable def p (l0:((List Seen)×(List Seen)×(List ((List Int)×Row))×(List (List UInt8))×Int×Int)->Option Out) (a1:Arg):Option Out:=l0 (([]:List Seen),([]:List Seen),([]:List ((List Int)×Row)),a1.1,(a1.1.length:Int),(0:Int))
theorem aa (k:Nat) (a1:Arg):@Eq (Option Out) (D.W k a1) (p (r0 k a1) a1):=
 Eq.trans (b:=p (s0 k a1) a1) (by kernel_rfl) (by rw[aq])
theorem ok:Ok prog 75 D.sig:=am func75 ay (by kernel_rfl) (fc eL.ok (fc gz.ok (fc dX.ok (fc hJ.ok (fc iM.ok (fc cG.ok (ai _)))))))
end aJ
namespace ca
abbrev Arg:Type:=(List (List UInt8))×Unit
abbrev Out:Type:=(List Seen)×Int×Unit
abbrev ps:PQ:=[(.ro,(.U (.U u8)))]
noncomputable def D:FD:={ fn:=f37,tl:=aE,ps:=ps,rs:=[((.U cY),(au (.U cY))),(i64,(av i64))],gl:=[(70,aK.D.sig),(71,eL.D.sig),(72,gz.D.sig),(73,dX.D.sig),(74,hJ.D.sig),(75,aJ.D.sig)],lv:=[(4,[0,11,12,13]),(10,[0,5,11,12,13,23,24])],lx:=[(0,[0]),(2,[0,11,12,13])] }
noncomputable def ab (a:Arg):Option Out:=@lift Out fun k=>D.W k a
noncomputable def T0 (a1:Arg) (J:(List (List UInt8))×(List (List UInt8))×Int×Int):St:={ n:=44,sl:=[(0,.val (.U (.U u8)) J.1),(11,.val (.U (.U u8)) J.2.1),(12,.val i64 J.2.2.1),(13,.val i64 J.2.2.2)],vr:=[],aw:=[] }
noncomputable def S0 (rec:RT Out) (a1:Arg):((List (List UInt8))×(List (List UInt8))×Int×Int)->Option Out:=fun J=>rec (T0 a1 J)
noncomputable def bt (K:KT Out) (a1:Arg):(List (List UInt8))->Option Out:=fun z=>K (.exit 0) ({ n:=44,sl:=[(0,.val (.U (.U u8)) z)],vr:=[],aw:=[] })
noncomputable def T1 (a1:Arg) (dy:List (List UInt8)) (c7:List UInt8) (b9:List (List UInt8)) (eK:Int) (iE:Int) (pq:Int) (bV:Int):St:={ n:=44,sl:=[(0,.val (.U (.U u8)) dy),(5,.val (.U u8) c7),(11,.val (.U (.U u8)) b9),(12,.val i64 eK),(13,.val i64 iE),(23,.val i64 pq),(24,.val i64 bV)],vr:=[],aw:=[] }
noncomputable def b1 (self:Int->Option Out) (e2:(Unit)->Option Out) (a1:Arg) (dy:List (List UInt8)) (c7:List UInt8) (b9:List (List UInt8)) (eK:Int) (iE:Int) (pq:Int) (bV:Int):Option Out:=bif decide (bV < pq) then ((gz.ab (c7,bV,())).bind fun m9=>bif m9.1 then ((hJ.ab (c7,bV,())).bind fun zh=>(dX.ab (zh.1,())).bind fun Py=>bif !decide (Py.1.1=(0:Int)) then (some (([]:List Seen),(5:Int),())) else self (ae (bV+(1:Int)))) else self (ae (bV+(1:Int)))) else e2 ()
noncomputable abbrev B1 (_:Nat):=b1
noncomputable def q0 (self:((List (List UInt8))×(List (List UInt8))×Int×Int)->Option Out) (e0:(List (List UInt8))->Option Out) (a1:Arg) (dy:List (List UInt8)) (c7:List UInt8) (b9:List (List UInt8)) (eK:Int) (iE:Int) (pq:Int) (BK:(Unit)):Option Out:=self (dy,b9,eK,ae (iE+(1:Int)))
noncomputable abbrev Q0 (_:Nat):=q0
noncomputable def s1 (k:Nat) (rec:RT Out) (K:KT Out) (a1:Arg):(List (List UInt8))->(List UInt8)->(List (List UInt8))->Int->Int->Int->(Int)->Option Out:=fun dy c7 b9 eK iE pq=>fun bV=>D.L k [1,1,0,1,0,0,1,1,0,0,1,1,1,0,0] [0,5,11,12,13,23,24] [] (af 2 (af 1 (ap (D.N k [1,1,0,1,0,0,1,1,1]) (dv rec (cu [0,11,12,13] []) K)))) (T1 a1 dy c7 b9 eK iE pq bV)
noncomputable def r1 (k:Nat) (self:((List (List UInt8))×(List (List UInt8))×Int×Int)->Option Out) (e0:(List (List UInt8))->Option Out) (a1:Arg):(List (List UInt8))->(List UInt8)->(List (List UInt8))->Int->Int->Int->(Int)->Option Out:=fun dy c7 b9 eK iE pq=>al (fun w v=>B1 k w (Q0 k self e0 a1 dy c7 b9 eK iE pq) a1 dy c7 b9 eK iE pq v) k
theorem gd (k:Nat) (rec:RT Out) (K:KT Out) (a1:Arg):s1 k rec K a1=r1 k (S0 rec a1) (bt K a1) a1:=
 funext fun dy=>funext fun c7=>funext fun b9=>funext fun eK=>funext fun iE=>funext fun pq=>funext fun bV=>ao _ _ _ (T1 a1 dy c7 b9 eK iE pq) _ (fun rec v=>by kernel_rfl) k bV
noncomputable def b0 (self:((List (List UInt8))×(List (List UInt8))×Int×Int)->Option Out) (e0:(List (List UInt8))->Option Out) (l1:(List (List UInt8))->(List UInt8)->(List (List UInt8))->Int->Int->Int->(Int)->Option Out) (a1:Arg) (J:(List (List UInt8))×(List (List UInt8))×Int×Int):Option Out:=bif decide (J.2.2.2 < J.2.2.1) then (if 0<=J.2.2.2 then ((J.2.1[J.2.2.2.toNat]?).bind fun aB=>(aK.ab (aB,())).bind fun bs=>bif !decide (bs.1=(0:Int)) then (some (([]:List Seen),bs.1,())) else (eL.ab (aB,())).bind fun fY=>l1 J.1 aB J.2.1 J.2.2.1 J.2.2.2 fY.1 (0:Int)) else none) else e0 J.1
noncomputable def B0 (k:Nat) (self:((List (List UInt8))×(List (List UInt8))×Int×Int)->Option Out) (e0:(List (List UInt8))->Option Out) (a1:Arg) (J:(List (List UInt8))×(List (List UInt8))×Int×Int):Option Out:=b0 self e0 (r1 k self e0 a1) a1 J
theorem gc (k:Nat) (rec:RT Out) (K:KT Out) (a1:Arg) (J:(List (List UInt8))×(List (List UInt8))×Int×Int):D.N k [1,1,0,1,0,0] (T0 a1 J) (dv rec (cu [0,11,12,13] []) K)=B0 k (S0 rec a1) (bt K a1) a1 J:=
 Eq.trans (b:=b0 (S0 rec a1) (bt K a1) (s1 k rec K a1) a1 J) (by kernel_rfl) (by rw[gd];rfl)
noncomputable def q1 (a1:Arg) (sF:(List (List UInt8))):Option Out:=(aJ.ab (sF,())).bind fun Me=>some (Me.1,Me.2.1,())
noncomputable abbrev Q1 (_:Nat):=q1
theorem my (k:Nat) (a1:Arg) (sF:(List (List UInt8))):bt (af 0 (ap (D.N k [1,1,1]) D.K0)) a1 sF=q1 a1 sF:=by kernel_rfl
noncomputable def s0 (k:Nat) (a1:Arg):((List (List UInt8))×(List (List UInt8))×Int×Int)->Option Out:=fun J=>D.L k [1,1,0,1,0,0] [0,11,12,13] [] (af 0 (ap (D.N k [1,1,1]) D.K0)) (T0 a1 J)
noncomputable def r0 (k:Nat) (a1:Arg):((List (List UInt8))×(List (List UInt8))×Int×Int)->Option Out:=al (fun w v=>B0 k w (Q1 k a1) a1 v) k
theorem aq (k:Nat) (a1:Arg):s0 k a1=r0 k a1:=by
 funext J;
 have h0:bt (af 0 (ap (D.N k [1,1,1]) D.K0)) a1=Q1 k a1:=funext fun z=>my k a1 z
 refine (ao _ _ _ (T0 a1) (fun self v=>B0 k self (bt (af 0 (ap (D.N k [1,1,1]) D.K0)) a1) a1 v) (fun rec v=>gc k rec (af 0 (ap (D.N k [1,1,1]) D.K0)) a1 v) k J).trans ?_
 rw[h0]
 rfl
noncomputable def p (l0:((List (List UInt8))×(List (List UInt8))×Int×Int)->Option Out) (a1:Arg):Option Out:=bif decide ((12:Int) < (a1.1.length:Int)) then (some (([]:List Seen),(2:Int),())) else l0 (a1.1,a1.1,(a1.1.length:Int),(0:Int))
theorem aa (k:Nat) (a1:Arg):@Eq (Option Out) (D.W k a1) (p (r0 k a1) a1):=
 Eq.trans (b:=p (s0 k a1) a1) (by kernel_rfl) (by rw[aq])
theorem ok:Ok prog 37 D.sig:=am func37 ay (by kernel_rfl) (fc aK.ok (fc eL.ok (fc gz.ok (fc dX.ok (fc hJ.ok (fc aJ.ok (ai _)))))))
end ca
namespace cg
abbrev Arg:Type:=(List Row)×Unit
abbrev Out:Type:=Int×Unit
abbrev ps:PQ:=[(.ro,(.U aF))]
noncomputable def D:FD:={ fn:=f76,tl:=aE,ps:=ps,rs:=[(i64,(av i64))],gl:=[(117,bv.D.sig),(121,cG.D.sig)],lv:=[(4,[0,9,10,11])],lx:=[(0,[])],od:=[(9,[0,1,2,3,4,5,6,7,8,9,10,11])] }
noncomputable def ab (a:Arg):Option Out:=@lift Out fun k=>D.W k a
noncomputable def T0 (a1:Arg) (J:Int):St:={ n:=34,sl:=[(0,.val (.U aF) a1.1),(9,.val (.U aF) a1.1),(10,.val i64 (a1.1.length:Int)),(11,.val i64 J)],vr:=[],aw:=[] }
noncomputable def b0 (self:Int->Option Out) (e0:(Unit)->Option Out) (a1:Arg) (J:Int):Option Out:=bif decide (J < (a1.1.length:Int)) then (if 0<=J then ((a1.1[J.toNat]?).bind fun aB=>(bv.ab (aB,())).bind fun bs=>bif !decide (bs.1=(0:Int)) then (some (bs.1,())) else bif decide ((0:Int) < J) then (if 0<=ae (J - (1:Int)) then ((a1.1[(ae (J - (1:Int))).toNat]?).bind fun cW=>(cG.ab (cW,aB,())).bind fun jk=>bif !jk.1 then (some ((1:Int),())) else self (ae (J+(1:Int)))) else none) else self (ae (J+(1:Int)))) else none) else e0 ()
noncomputable abbrev B0 (_:Nat):=b0
noncomputable def q0 (a1:Arg) (gP:(Unit)):Option Out:=some ((0:Int),())
noncomputable abbrev Q0 (_:Nat):=q0
noncomputable def s0 (k:Nat) (a1:Arg):(Int)->Option Out:=fun J=>D.L k [1,1,0,1,0,0] [0,9,10,11] [] (af 0 (ap (D.N k [1,1,1]) D.K0)) (T0 a1 J)
noncomputable def r0 (k:Nat) (a1:Arg):(Int)->Option Out:=al (fun w v=>B0 k w (Q0 k a1) a1 v) k
theorem aq (k:Nat) (a1:Arg):s0 k a1=r0 k a1:=
 funext fun J=>ao _ _ _ (T0 a1) _ (fun rec v=>by kernel_rfl) k J
noncomputable def p (l0:(Int)->Option Out) (a1:Arg):Option Out:=bif decide ((60:Int) < (a1.1.length:Int)) then (some ((2:Int),())) else l0 (0:Int)
theorem aa (k:Nat) (a1:Arg):@Eq (Option Out) (D.W k a1) (p (r0 k a1) a1):=
 Eq.trans (b:=p (s0 k a1) a1) (by kernel_rfl) (by rw[aq])
theorem ok:Ok prog 76 D.sig:=am func76 ay (by kernel_rfl) (fc bv.ok (fc cG.ok (ai _)))
end cg
namespace d9
abbrev Arg:Type:=Change×Unit
abbrev Out:Type:=Int×Unit
abbrev ps:PQ:=[(.ro,an)]
noncomputable def D:FD:={ fn:=f172,tl:=aE,ps:=ps,rs:=[(i64,(av i64))],gl:=[(117,bv.D.sig),(120,e_.D.sig)] }
noncomputable def ab (a:Arg):Option Out:=@lift Out fun k=>D.W k a
noncomputable def p (a1:Arg):Option Out:=let j7:Option Out:=bif a1.1.1 then ((bv.ab (a1.1.2.1,())).bind fun r8=>bif !decide (r8.1=(0:Int)) then (some (r8.1,())) else bif a1.1.2.2.1 then ((bv.ab (a1.1.2.2.2.1,())).bind fun Jd=>some (Jd.1,())) else some ((0:Int),())) else bif a1.1.2.2.1 then ((bv.ab (a1.1.2.2.2.1,())).bind fun Tt=>some (Tt.1,())) else some ((0:Int),());bif !a1.1.1 then (bif !a1.1.2.2.1 then (some ((1:Int),())) else bif a1.1.1 then (bif a1.1.2.2.1 then ((e_.ab (a1.1.2.1,a1.1.2.2.2.1,())).bind fun r2=>bif !decide (r2.1=(0:Int)) then (some ((1:Int),())) else j7) else j7) else j7) else bif a1.1.1 then (bif a1.1.2.2.1 then ((e_.ab (a1.1.2.1,a1.1.2.2.2.1,())).bind fun r3=>bif !decide (r3.1=(0:Int)) then (some ((1:Int),())) else j7) else j7) else j7
theorem aa (k:Nat) (a1:Arg):@Eq (Option Out) (D.W k a1) (p a1):=by kernel_rfl
theorem ok:Ok prog 172 D.sig:=am func172 ay (by kernel_rfl) (fc bv.ok (fc e_.ok (ai _)))
end d9
namespace d_
abbrev Arg:Type:=Change×Unit
abbrev Out:Type:=Int×Unit
abbrev ps:PQ:=[(.ro,an)]
noncomputable def D:FD:={ fn:=f132,tl:=aE,ps:=ps,rs:=[(i64,(av i64))],gl:=[(172,d9.D.sig)] }
noncomputable def ab (a:Arg):Option Out:=@lift Out fun k=>D.W k a
noncomputable def p (a1:Arg):Option Out:=(d9.ab (a1.1,())).bind fun r2=>bif !decide (r2.1=(0:Int)) then (some (r2.1,())) else bif a1.1.1 then (bif a1.1.2.2.1 then (bif (Ty.eq aF a1.1.2.1 a1.1.2.2.2.1) then (some ((1:Int),())) else some ((0:Int),())) else some ((0:Int),())) else some ((0:Int),())
theorem aa (k:Nat) (a1:Arg):@Eq (Option Out) (D.W k a1) (p a1):=by kernel_rfl
theorem ok:Ok prog 132 D.sig:=am func132 ay (by kernel_rfl) (fc d9.ok (ai _))
end d_
namespace dI
abbrev Arg:Type:=(List Key)×Key×Unit
abbrev Out:Type:=Int×Unit
abbrev ps:PQ:=[(.ro,(.U aL)),(.ro,aL)]
noncomputable def D:FD:={ fn:=f203,tl:=aE,ps:=ps,rs:=[(i64,(av i64))],lv:=[(2,[0,3,7,8])],lx:=[(0,[])],od:=[(4,[0,1,2,3,4,5])] }
noncomputable def ab (a:Arg):Option Out:=@lift Out fun k=>D.W k a
noncomputable def T0 (a1:Arg) (J:Int):St:={ n:=19,sl:=[(0,.val (.U aL) a1.1),(3,.box aL (av aL) [] a1.2.1),(7,.val i64 (a1.1.length:Int)),(8,.val i64 J)],vr:=[],aw:=[] }
noncomputable def b0 (self:Int->Option Out) (e0:(Unit)->Option Out) (a1:Arg) (J:Int):Option Out:=bif decide (J < (a1.1.length:Int)) then (if 0<=J then ((a1.1[J.toNat]?).bind fun aB=>bif (Ty.eq aL a1.2.1 aB) then (some (J,())) else self (ae (J+(1:Int)))) else none) else e0 ()
noncomputable abbrev B0 (_:Nat):=b0
noncomputable def q0 (a1:Arg) (kj:(Unit)):Option Out:=some ((-1:Int),())
noncomputable abbrev Q0 (_:Nat):=q0
noncomputable def s0 (k:Nat) (a1:Arg):(Int)->Option Out:=fun J=>D.L k [1,0,1,0,0] [0,3,7,8] [] (af 0 (ap (D.N k [1,1]) D.K0)) (T0 a1 J)
noncomputable def r0 (k:Nat) (a1:Arg):(Int)->Option Out:=al (fun w v=>B0 k w (Q0 k a1) a1 v) k
theorem aq (k:Nat) (a1:Arg):s0 k a1=r0 k a1:=
 funext fun J=>ao _ _ _ (T0 a1) _ (fun rec v=>by kernel_rfl) k J
noncomputable def p (l0:(Int)->Option Out) (a1:Arg):Option Out:=l0 (0:Int)
theorem aa (k:Nat) (a1:Arg):@Eq (Option Out) (D.W k a1) (p (r0 k a1) a1):=
 Eq.trans (b:=p (s0 k a1) a1) (by kernel_rfl) (by rw[aq])
theorem ok:Ok prog 203 D.sig:=am func203 ay (by kernel_rfl) (ai _)
end dI
namespace eh
abbrev Arg:Type:=(List Key)×Key×Unit
abbrev Out:Type:=Bool×Unit
abbrev ps:PQ:=[(.ro,(.U aL)),(.ro,aL)]
noncomputable def D:FD:={ fn:=f169,tl:=aE,ps:=ps,rs:=[(.bool,(av .bool))],gl:=[(203,dI.D.sig)] }
noncomputable def ab (a:Arg):Option Out:=@lift Out fun k=>D.W k a
noncomputable def p (a1:Arg):Option Out:=(dI.ab (a1.1,a1.2.1,())).bind fun r2=>some (decide ((0:Int)<=r2.1),())
theorem aa (k:Nat) (a1:Arg):@Eq (Option Out) (D.W k a1) (p a1):=by kernel_rfl
theorem ok:Ok prog 169 D.sig:=am func169 ay (by kernel_rfl) (fc dI.ok (ai _))
end eh
namespace bW
abbrev Arg:Type:=Change×Unit
abbrev Out:Type:=Row×Unit
abbrev ps:PQ:=[(.ro,an)]
noncomputable def D:FD:={ fn:=f133,tl:=aE,ps:=ps,rs:=[(aF,(av aF))] }
noncomputable def ab (a:Arg):Option Out:=@lift Out fun k=>D.W k a
noncomputable def p (a1:Arg):Option Out:=bif a1.1.2.2.1 then (some (a1.1.2.2.2.1,())) else some (a1.1.2.1,())
theorem aa (k:Nat) (a1:Arg):@Eq (Option Out) (D.W k a1) (p a1):=by kernel_rfl
theorem ok:Ok prog 133 D.sig:=am func133 ay (by kernel_rfl) (ai _)
end bW
namespace gA
abbrev Arg:Type:=Change×Unit
abbrev Out:Type:=Key×Unit
abbrev ps:PQ:=[(.ro,an)]
noncomputable def D:FD:={ fn:=f170,tl:=aE,ps:=ps,rs:=[(aL,(av aL))],gl:=[(133,bW.D.sig)],od:=[(1,[0,3,1,2,4,5,6,7])] }
noncomputable def ab (a:Arg):Option Out:=@lift Out fun k=>D.W k a
noncomputable def p (a1:Arg):Option Out:=(bW.ab (a1.1,())).bind fun r2=>(bW.ab (a1.1,())).bind fun r3=>some ((r2.1.1,r3.1.2.1,()),())
theorem aa (k:Nat) (a1:Arg):@Eq (Option Out) (D.W k a1) (p a1):=by kernel_rfl
theorem ok:Ok prog 170 D.sig:=am func170 ay (by kernel_rfl) (fc bW.ok (ai _))
end gA
namespace lD
abbrev Arg:Type:=Int×Int×Unit
abbrev Out:Type:=Bool×Unit
abbrev ps:PQ:=[(.ro,i64),(.ro,i64)]
noncomputable def D:FD:={ fn:=f171,tl:=aE,ps:=ps,rs:=[(.bool,(av .bool))],gl:=[(36,bT.D.sig)] }
noncomputable def ab (a:Arg):Option Out:=@lift Out fun k=>D.W k a
noncomputable def p (a1:Arg):Option Out:=(bT.ab (a1.1,(0:Int),(3:Int),())).bind fun r2=>bif r2.1 then ((bT.ab (a1.2.1,(1:Int),(99:Int),())).bind fun r3=>some (r3.1,())) else some (false,())
theorem aa (k:Nat) (a1:Arg):@Eq (Option Out) (D.W k a1) (p a1):=by kernel_rfl
theorem ok:Ok prog 171 D.sig:=am func171 ay (by kernel_rfl) (fc bT.ok (ai _))
end lD
namespace bh
abbrev Arg:Type:=Tx×Unit
abbrev Out:Type:=Int×Unit
abbrev ps:PQ:=[(.ro,bd)]
noncomputable def D:FD:={ fn:=f122,tl:=aE,ps:=ps,rs:=[(i64,(av i64))],gl:=[(36,bT.D.sig),(132,d_.D.sig),(169,eh.D.sig),(170,gA.D.sig),(171,lD.D.sig)],lv:=[(2,[1,12,13,14]),(14,[1,6,41,42,43]),(21,[1,57,58,59])],lx:=[(0,[1]),(2,[1]),(4,[])],od:=[(7,[0,1,2,3,4,5]),(25,[0,1,2,3,4,5])] }
noncomputable def ab (a:Arg):Option Out:=@lift Out fun k=>D.W k a
noncomputable def T0 (a1:Arg) (J:Int):St:={ n:=77,sl:=[(1,.box bd (av bd) [] a1.1),(12,.val (.U an) a1.1.2.1),(13,.val i64 (a1.1.2.1.length:Int)),(14,.val i64 J)],vr:=[],aw:=[] }
noncomputable def S0 (rec:RT Out) (a1:Arg):(Int)->Option Out:=fun J=>rec (T0 a1 J)
noncomputable def bt (K:KT Out) (a1:Arg):(Unit)->Option Out:=fun z=>K (.exit 0) ({ n:=77,sl:=[(1,.box bd (av bd) [] a1.1)],vr:=[],aw:=[] })
noncomputable def b0 (self:Int->Option Out) (e0:(Unit)->Option Out) (a1:Arg) (J:Int):Option Out:=bif decide (J < (a1.1.2.1.length:Int)) then (if 0<=J then ((a1.1.2.1[J.toNat]?).bind fun aB=>(d_.ab (aB,())).bind fun bs=>bif !decide (bs.1=(0:Int)) then (some (bs.1,())) else (gA.ab (aB,())).bind fun fY=>(eh.ab (a1.1.2.2.2.1,fY.1,())).bind fun jk=>bif !jk.1 then (some ((8:Int),())) else self (ae (J+(1:Int)))) else none) else e0 ()
noncomputable abbrev B0 (_:Nat):=b0
theorem gc (k:Nat) (rec:RT Out) (K:KT Out) (a1:Arg) (J:Int):D.N k [1,0,1,0,0] (T0 a1 J) (dv rec (cu [1,12,13,14] []) K)=b0 (S0 rec a1) (bt K a1) a1 J:=by kernel_rfl
noncomputable def T1 (a1:Arg) (be:Int×Int):St:={ n:=77,sl:=[(1,.box bd (av bd) [] a1.1),(6,.val i64 be.1),(41,.val (.U i64) a1.1.2.2.1),(42,.val i64 (a1.1.2.2.1.length:Int)),(43,.val i64 be.2)],vr:=[],aw:=[] }
noncomputable def S1 (rec:RT Out) (a1:Arg):(Int×Int)->Option Out:=fun be=>rec (T1 a1 be)
noncomputable def dF (K:KT Out) (a1:Arg):(Unit)->Option Out:=fun z=>K (.exit 2) ({ n:=77,sl:=[(1,.box bd (av bd) [] a1.1)],vr:=[],aw:=[] })
noncomputable def b1 (self:(Int×Int)->Option Out) (e2:(Unit)->Option Out) (a1:Arg) (be:Int×Int):Option Out:=bif decide (be.2 < (a1.1.2.2.1.length:Int)) then (if 0<=be.2 then ((a1.1.2.2.1[be.2.toNat]?).bind fun wZ=>(bT.ab (wZ,be.1,(a1.1.2.1.length:Int),())).bind fun qV=>bif !qV.1 then (some ((3:Int),())) else self (wZ,ae (be.2+(1:Int)))) else none) else e2 ()
noncomputable abbrev B1 (_:Nat):=b1
theorem mw (k:Nat) (rec:RT Out) (K:KT Out) (a1:Arg) (be:Int×Int):D.N k [1,1,1,1,0,1,0,0] (T1 a1 be) (dv rec (cu [1,6,41,42,43] []) K)=b1 (S1 rec a1) (dF K a1) a1 be:=by kernel_rfl
noncomputable def T2 (a1:Arg) (gn:Int):St:={ n:=77,sl:=[(1,.box bd (av bd) [] a1.1),(57,.val (.U aL) a1.1.2.2.2.1),(58,.val i64 (a1.1.2.2.2.1.length:Int)),(59,.val i64 gn)],vr:=[],aw:=[] }
noncomputable def b2 (self:Int->Option Out) (e4:(Unit)->Option Out) (a1:Arg) (gn:Int):Option Out:=bif decide (gn < (a1.1.2.2.2.1.length:Int)) then (if 0<=gn then ((a1.1.2.2.2.1[gn.toNat]?).bind fun ut=>(lD.ab (ut.1,ut.2.1,())).bind fun GU=>bif !GU.1 then (some ((3:Int),())) else if 0<=gn/\gn<=(a1.1.2.2.2.1.length:Int) then ((eh.ab ((a1.1.2.2.2.1.take gn.toNat).drop 0,ut,())).bind fun Pz=>bif Pz.1 then (some ((6:Int),())) else self (ae (gn+(1:Int)))) else none) else none) else e4 ()
noncomputable abbrev B2 (_:Nat):=b2
noncomputable def q2 (a1:Arg) (nO:(Unit)):Option Out:=some ((0:Int),())
noncomputable abbrev Q2 (_:Nat):=q2
noncomputable def s2 (k:Nat) (a1:Arg):(Int)->Option Out:=fun gn=>D.L k [1,1,1,1,1,0,1,0,0] [1,57,58,59] [] (af 4 (ap (D.N k [1,1,1,1,1,1]) D.K0)) (T2 a1 gn)
noncomputable def r2 (k:Nat) (a1:Arg):(Int)->Option Out:=al (fun w v=>B2 k w (Q2 k a1) a1 v) k
theorem ly (k:Nat) (a1:Arg):s2 k a1=r2 k a1:=
 funext fun gn=>ao _ _ _ (T2 a1) _ (fun rec v=>by kernel_rfl) k gn
noncomputable def q1 (l2:(Int)->Option Out) (a1:Arg) (uw:(Unit)):Option Out:=l2 (0:Int)
noncomputable def Q1 (k:Nat) (a1:Arg) (uw:(Unit)):Option Out:=q1 (r2 k a1) a1 uw
theorem my (k:Nat) (a1:Arg) (uw:(Unit)):dF (af 2 (ap (D.N k [1,1,1,1,1]) D.K0)) a1 uw=Q1 k a1 uw:=
 Eq.trans (b:=q1 (s2 k a1) a1 uw) (by kernel_rfl) (by rw[ly];rfl)
noncomputable def s1 (k:Nat) (a1:Arg):(Int×Int)->Option Out:=fun be=>D.L k [1,1,1,1,0,1,0,0] [1,6,41,42,43] [] (af 2 (ap (D.N k [1,1,1,1,1]) D.K0)) (T1 a1 be)
noncomputable def r1 (k:Nat) (a1:Arg):(Int×Int)->Option Out:=al (fun w v=>B1 k w (Q1 k a1) a1 v) k
theorem gd (k:Nat) (a1:Arg):s1 k a1=r1 k a1:=by
 funext be;
 have Y:dF (af 2 (ap (D.N k [1,1,1,1,1]) D.K0)) a1=Q1 k a1:=funext fun z=>my k a1 z
 refine (ao _ _ _ (T1 a1) (fun self v=>B1 k self (dF (af 2 (ap (D.N k [1,1,1,1,1]) D.K0)) a1) a1 v) (fun rec v=>mw k rec (af 2 (ap (D.N k [1,1,1,1,1]) D.K0)) a1 v) k be).trans ?_
 rw[Y]
 rfl
noncomputable def q0 (l1:(Int×Int)->Option Out) (a1:Arg) (gP:(Unit)):Option Out:=bif decide ((8:Int) < (a1.1.2.2.1.length:Int)) then (some ((2:Int),())) else bif decide ((12:Int) < (a1.1.2.2.2.1.length:Int)) then (some ((2:Int),())) else l1 ((0:Int),(0:Int))
noncomputable def Q0 (k:Nat) (a1:Arg) (gP:(Unit)):Option Out:=q0 (r1 k a1) a1 gP
theorem lz (k:Nat) (a1:Arg) (gP:(Unit)):bt (af 0 (ap (D.N k [1,1]) D.K0)) a1 gP=Q0 k a1 gP:=
 Eq.trans (b:=q0 (s1 k a1) a1 gP) (by kernel_rfl) (by rw[gd];rfl)
noncomputable def s0 (k:Nat) (a1:Arg):(Int)->Option Out:=fun J=>D.L k [1,0,1,0,0] [1,12,13,14] [] (af 0 (ap (D.N k [1,1]) D.K0)) (T0 a1 J)
noncomputable def r0 (k:Nat) (a1:Arg):(Int)->Option Out:=al (fun w v=>B0 k w (Q0 k a1) a1 v) k
theorem aq (k:Nat) (a1:Arg):s0 k a1=r0 k a1:=by
 funext J;
 have h0:bt (af 0 (ap (D.N k [1,1]) D.K0)) a1=Q0 k a1:=funext fun z=>lz k a1 z
 refine (ao _ _ _ (T0 a1) (fun self v=>B0 k self (bt (af 0 (ap (D.N k [1,1]) D.K0)) a1) a1 v) (fun rec v=>gc k rec (af 0 (ap (D.N k [1,1]) D.K0)) a1 v) k J).trans ?_
 rw[h0]
 rfl
noncomputable def p (l0:(Int)->Option Out) (a1:Arg):Option Out:=l0 (0:Int)
theorem aa (k:Nat) (a1:Arg):@Eq (Option Out) (D.W k a1) (p (r0 k a1) a1):=
 Eq.trans (b:=p (s0 k a1) a1) (by kernel_rfl) (by rw[aq])
theorem ok:Ok prog 122 D.sig:=am func122 ay (by kernel_rfl) (fc bT.ok (fc d_.ok (fc eh.ok (fc gA.ok (fc lD.ok (ai _))))))
end bh
namespace gG
abbrev Arg:Type:=(List Tx)×Unit
abbrev Out:Type:=Int×Unit
abbrev ps:PQ:=[(.ro,(.U bd))]
noncomputable def D:FD:={ fn:=f123,tl:=aE,ps:=ps,rs:=[(i64,(av i64))],lv:=[(3,[3,6,7,8])],lx:=[(0,[3])] }
noncomputable def ab (a:Arg):Option Out:=@lift Out fun k=>D.W k a
noncomputable def T0 (a1:Arg) (J:Int×Int):St:={ n:=19,sl:=[(3,.val i64 J.1),(6,.val (.U bd) a1.1),(7,.val i64 (a1.1.length:Int)),(8,.val i64 J.2)],vr:=[],aw:=[] }
noncomputable def b0 (self:(Int×Int)->Option Out) (e0:Int->Option Out) (a1:Arg) (J:Int×Int):Option Out:=bif decide (J.2 < (a1.1.length:Int)) then (if 0<=J.2 then ((a1.1[J.2.toNat]?).bind fun aB=>self (ae (J.1+(aB.2.1.length:Int)),ae (J.2+(1:Int)))) else none) else e0 J.1
noncomputable abbrev B0 (_:Nat):=b0
noncomputable def q0 (a1:Arg) (kj:Int):Option Out:=some (kj,())
noncomputable abbrev Q0 (_:Nat):=q0
noncomputable def s0 (k:Nat) (a1:Arg):(Int×Int)->Option Out:=fun J=>D.L k [1,1,0,1,0,0] [3,6,7,8] [] (af 0 (ap (D.N k [1,1,1]) D.K0)) (T0 a1 J)
noncomputable def r0 (k:Nat) (a1:Arg):(Int×Int)->Option Out:=al (fun w v=>B0 k w (Q0 k a1) a1 v) k
theorem aq (k:Nat) (a1:Arg):s0 k a1=r0 k a1:=
 funext fun J=>ao _ _ _ (T0 a1) _ (fun rec v=>by kernel_rfl) k J
noncomputable def p (l0:(Int×Int)->Option Out) (a1:Arg):Option Out:=l0 ((0:Int),(0:Int))
theorem aa (k:Nat) (a1:Arg):@Eq (Option Out) (D.W k a1) (p (r0 k a1) a1):=
 Eq.trans (b:=p (s0 k a1) a1) (by kernel_rfl) (by rw[aq])
theorem ok:Ok prog 123 D.sig:=am func123 ay (by kernel_rfl) (ai _)
end gG
namespace aY
abbrev Arg:Type:=(List Tx)×Unit
abbrev Out:Type:=Int×Unit
abbrev ps:PQ:=[(.ro,(.U bd))]
noncomputable def D:FD:={ fn:=f77,tl:=aE,ps:=ps,rs:=[(i64,(av i64))],gl:=[(85,fC.D.sig),(122,bh.D.sig),(123,gG.D.sig)],lv:=[(4,[0,14,15,16]),(16,[0,6,45,46,47]),(19,[0,6,45,46,47,52,53,54])],lx:=[(0,[0]),(2,[0]),(4,[0,6,45,46,47])],od:=[(8,[0,1,2,3,4,5,6,7,8,9,10,11,12])] }
noncomputable def ab (a:Arg):Option Out:=@lift Out fun k=>D.W k a
noncomputable def T0 (a1:Arg) (J:Int):St:={ n:=68,sl:=[(0,.val (.U bd) a1.1),(14,.val (.U bd) a1.1),(15,.val i64 (a1.1.length:Int)),(16,.val i64 J)],vr:=[],aw:=[] }
noncomputable def S0 (rec:RT Out) (a1:Arg):(Int)->Option Out:=fun J=>rec (T0 a1 J)
noncomputable def bt (K:KT Out) (a1:Arg):(Unit)->Option Out:=fun z=>K (.exit 0) ({ n:=68,sl:=[(0,.val (.U bd) a1.1)],vr:=[],aw:=[] })
noncomputable def b0 (self:Int->Option Out) (e0:(Unit)->Option Out) (a1:Arg) (J:Int):Option Out:=bif decide (J < (a1.1.length:Int)) then (if 0<=J then ((a1.1[J.toNat]?).bind fun aB=>(fC.ab (aB.1,())).bind fun bs=>bif !bs.1 then (some ((3:Int),())) else bif decide ((0:Int) < J) then (if 0<=ae (J - (1:Int)) then ((a1.1[(ae (J - (1:Int))).toNat]?).bind fun cW=>bif decide (aB.1<=cW.1) then (some ((1:Int),())) else (bh.ab (aB,())).bind fun gx=>bif !decide (gx.1=(0:Int)) then (some (gx.1,())) else self (ae (J+(1:Int)))) else none) else (bh.ab (aB,())).bind fun wg=>bif !decide (wg.1=(0:Int)) then (some (wg.1,())) else self (ae (J+(1:Int)))) else none) else e0 ()
noncomputable abbrev B0 (_:Nat):=b0
theorem gc (k:Nat) (rec:RT Out) (K:KT Out) (a1:Arg) (J:Int):D.N k [1,1,0,1,0,0] (T0 a1 J) (dv rec (cu [0,14,15,16] []) K)=b0 (S0 rec a1) (bt K a1) a1 J:=by kernel_rfl
noncomputable def T1 (a1:Arg) (cS:(List Tx)×(List (Key×Bool))×(List Tx)×Int×Int):St:={ n:=68,sl:=[(0,.val (.U bd) cS.1),(6,.own (.map aL .bool) (au (.map aL .bool)) [] cS.2.1),(45,.val (.U bd) cS.2.2.1),(46,.val i64 cS.2.2.2.1),(47,.val i64 cS.2.2.2.2)],vr:=[],aw:=[] }
noncomputable def S1 (rec:RT Out) (a1:Arg):((List Tx)×(List (Key×Bool))×(List Tx)×Int×Int)->Option Out:=fun cS=>rec (T1 a1 cS)
noncomputable def dF (K:KT Out) (a1:Arg):(List Tx)->Option Out:=fun z=>K (.exit 2) ({ n:=68,sl:=[(0,.val (.U bd) z)],vr:=[],aw:=[] })
noncomputable def T2 (a1:Arg) (bF:List Tx) (iI:List Tx) (iJ:Int) (iK:Int) (iL:List Key) (pr:Int) (gn:(List (Key×Bool))×Int):St:={ n:=68,sl:=[(0,.val (.U bd) bF),(6,.own (.map aL .bool) (au (.map aL .bool)) [] gn.1),(45,.val (.U bd) iI),(46,.val i64 iJ),(47,.val i64 iK),(52,.val (.U aL) iL),(53,.val i64 pr),(54,.val i64 gn.2)],vr:=[],aw:=[] }
noncomputable def b2 (self:((List (Key×Bool))×Int)->Option Out) (e4:(List (Key×Bool))->Option Out) (a1:Arg) (bF:List Tx) (iI:List Tx) (iJ:Int) (iK:Int) (iL:List Key) (pr:Int) (gn:(List (Key×Bool))×Int):Option Out:=bif decide (gn.2 < pr) then (if 0<=gn.2 then ((iL[gn.2.toNat]?).bind fun G9=>bif rA (dA aL gn.1 G9) false then (some ((7:Int),())) else self (gZ aL gn.1 G9 true,ae (gn.2+(1:Int)))) else none) else e4 gn.1
noncomputable abbrev B2 (_:Nat):=b2
noncomputable def q1 (self:((List Tx)×(List (Key×Bool))×(List Tx)×Int×Int)->Option Out) (e2:(List Tx)->Option Out) (a1:Arg) (bF:List Tx) (iI:List Tx) (iJ:Int) (iK:Int) (iL:List Key) (pr:Int) (G_:(List (Key×Bool))):Option Out:=self (bF,G_,iI,iJ,ae (iK+(1:Int)))
noncomputable abbrev Q1 (_:Nat):=q1
noncomputable def s2 (k:Nat) (rec:RT Out) (K:KT Out) (a1:Arg):(List Tx)->(List Tx)->Int->Int->(List Key)->Int->((List (Key×Bool))×Int)->Option Out:=fun bF iI iJ iK iL pr=>fun gn=>D.L k [1,1,1,1,0,1,0,0,1,1,0,0,1,1,0,0] [0,6,45,46,47,52,53,54] [] (af 4 (af 3 (ap (D.N k [1,1,1,1,0,1,0,0,1,1,1]) (dv rec (cu [0,6,45,46,47] []) K)))) (T2 a1 bF iI iJ iK iL pr gn)
noncomputable def r2 (k:Nat) (self:((List Tx)×(List (Key×Bool))×(List Tx)×Int×Int)->Option Out) (e2:(List Tx)->Option Out) (a1:Arg):(List Tx)->(List Tx)->Int->Int->(List Key)->Int->((List (Key×Bool))×Int)->Option Out:=fun bF iI iJ iK iL pr=>al (fun w v=>B2 k w (Q1 k self e2 a1 bF iI iJ iK iL pr) a1 bF iI iJ iK iL pr v) k
theorem ly (k:Nat) (rec:RT Out) (K:KT Out) (a1:Arg):s2 k rec K a1=r2 k (S1 rec a1) (dF K a1) a1:=
 funext fun bF=>funext fun iI=>funext fun iJ=>funext fun iK=>funext fun iL=>funext fun pr=>funext fun gn=>ao _ _ _ (T2 a1 bF iI iJ iK iL pr) _ (fun rec v=>by kernel_rfl) k gn
noncomputable def b1 (self:((List Tx)×(List (Key×Bool))×(List Tx)×Int×Int)->Option Out) (e2:(List Tx)->Option Out) (l2:(List Tx)->(List Tx)->Int->Int->(List Key)->Int->((List (Key×Bool))×Int)->Option Out) (a1:Arg) (cS:(List Tx)×(List (Key×Bool))×(List Tx)×Int×Int):Option Out:=bif decide (cS.2.2.2.2 < cS.2.2.2.1) then (if 0<=cS.2.2.2.2 then ((cS.2.2.1[cS.2.2.2.2.toNat]?).bind fun wY=>l2 cS.1 cS.2.2.1 cS.2.2.2.1 cS.2.2.2.2 wY.2.2.2.1 (wY.2.2.2.1.length:Int) (cS.2.1,(0:Int))) else none) else e2 cS.1
noncomputable def B1 (k:Nat) (self:((List Tx)×(List (Key×Bool))×(List Tx)×Int×Int)->Option Out) (e2:(List Tx)->Option Out) (a1:Arg) (cS:(List Tx)×(List (Key×Bool))×(List Tx)×Int×Int):Option Out:=b1 self e2 (r2 k self e2 a1) a1 cS
theorem mw (k:Nat) (rec:RT Out) (K:KT Out) (a1:Arg) (cS:(List Tx)×(List (Key×Bool))×(List Tx)×Int×Int):D.N k [1,1,1,1,0,1,0,0] (T1 a1 cS) (dv rec (cu [0,6,45,46,47] []) K)=B1 k (S1 rec a1) (dF K a1) a1 cS:=
 Eq.trans (b:=b1 (S1 rec a1) (dF K a1) (s2 k rec K a1) a1 cS) (by kernel_rfl) (by rw[ly];rfl)
noncomputable def q2 (a1:Arg) (ox:(List Tx)):Option Out:=(gG.ab (ox,())).bind fun PA=>bif decide ((12:Int) < PA.1) then (some ((2:Int),())) else some ((0:Int),())
noncomputable abbrev Q2 (_:Nat):=q2
theorem nP (k:Nat) (a1:Arg) (ox:(List Tx)):dF (af 2 (ap (D.N k [1,1,1,1,1]) D.K0)) a1 ox=q2 a1 ox:=by kernel_rfl
noncomputable def s1 (k:Nat) (a1:Arg):((List Tx)×(List (Key×Bool))×(List Tx)×Int×Int)->Option Out:=fun cS=>D.L k [1,1,1,1,0,1,0,0] [0,6,45,46,47] [] (af 2 (ap (D.N k [1,1,1,1,1]) D.K0)) (T1 a1 cS)
noncomputable def r1 (k:Nat) (a1:Arg):((List Tx)×(List (Key×Bool))×(List Tx)×Int×Int)->Option Out:=al (fun w v=>B1 k w (Q2 k a1) a1 v) k
theorem gd (k:Nat) (a1:Arg):s1 k a1=r1 k a1:=by
 funext cS;
 have Y:dF (af 2 (ap (D.N k [1,1,1,1,1]) D.K0)) a1=Q2 k a1:=funext fun z=>nP k a1 z
 refine (ao _ _ _ (T1 a1) (fun self v=>B1 k self (dF (af 2 (ap (D.N k [1,1,1,1,1]) D.K0)) a1) a1 v) (fun rec v=>mw k rec (af 2 (ap (D.N k [1,1,1,1,1]) D.K0)) a1 v) k cS).trans ?_
 rw[Y]
 rfl
noncomputable def q0 (l1:((List Tx)×(List (Key×Bool))×(List Tx)×Int×Int)->Option Out) (a1:Arg) (s7:(Unit)):Option Out:=l1 (a1.1,([]:List (Key×Bool)),a1.1,(a1.1.length:Int),(0:Int))
noncomputable def Q0 (k:Nat) (a1:Arg) (s7:(Unit)):Option Out:=q0 (r1 k a1) a1 s7
theorem lz (k:Nat) (a1:Arg) (s7:(Unit)):bt (af 0 (ap (D.N k [1,1,1]) D.K0)) a1 s7=Q0 k a1 s7:=
 Eq.trans (b:=q0 (s1 k a1) a1 s7) (by kernel_rfl) (by rw[gd];rfl)
noncomputable def s0 (k:Nat) (a1:Arg):(Int)->Option Out:=fun J=>D.L k [1,1,0,1,0,0] [0,14,15,16] [] (af 0 (ap (D.N k [1,1,1]) D.K0)) (T0 a1 J)
noncomputable def r0 (k:Nat) (a1:Arg):(Int)->Option Out:=al (fun w v=>B0 k w (Q0 k a1) a1 v) k
theorem aq (k:Nat) (a1:Arg):s0 k a1=r0 k a1:=by
 funext J;
 have h0:bt (af 0 (ap (D.N k [1,1,1]) D.K0)) a1=Q0 k a1:=funext fun z=>lz k a1 z
 refine (ao _ _ _ (T0 a1) (fun self v=>B0 k self (bt (af 0 (ap (D.N k [1,1,1]) D.K0)) a1) a1 v) (fun rec v=>gc k rec (af 0 (ap (D.N k [1,1,1]) D.K0)) a1 v) k J).trans ?_
 rw[h0]
 rfl
noncomputable def p (l0:(Int)->Option Out) (a1:Arg):Option Out:=bif decide ((4:Int) < (a1.1.length:Int)) then (some ((2:Int),())) else l0 (0:Int)
theorem aa (k:Nat) (a1:Arg):@Eq (Option Out) (D.W k a1) (p (r0 k a1) a1):=
 Eq.trans (b:=p (s0 k a1) a1) (by kernel_rfl) (by rw[aq])
theorem ok:Ok prog 77 D.sig:=am func77 ay (by kernel_rfl) (fc fC.ok (fc bh.ok (fc gG.ok (ai _))))
end aY
namespace bJ
abbrev Arg:Type:=(List Row)×(List Tx)×Unit
abbrev Out:Type:=(List (Key×Bool))×Unit
abbrev ps:PQ:=[(.ro,(.U aF)),(.ro,(.U bd))]
noncomputable def D:FD:={ fn:=f78,tl:=aE,ps:=ps,rs:=[((.map aL .bool),(au (.map aL .bool)))],lv:=[(3,[1,5,13,14,15]),(8,[5,26,27,28]),(11,[5,26,27,28,33,34,35])],lx:=[(0,[1,5]),(2,[5]),(4,[5,26,27,28])] }
noncomputable def ab (a:Arg):Option Out:=@lift Out fun k=>D.W k a
noncomputable def T0 (a1:Arg) (J:(List (Key×Bool))×Int):St:={ n:=44,sl:=[(1,.val (.U bd) a1.2.1),(5,.own (.map aL .bool) (au (.map aL .bool)) [] J.1),(13,.val (.U aF) a1.1),(14,.val i64 (a1.1.length:Int)),(15,.val i64 J.2)],vr:=[],aw:=[] }
noncomputable def S0 (rec:RT Out) (a1:Arg):((List (Key×Bool))×Int)->Option Out:=fun J=>rec (T0 a1 J)
noncomputable def bt (K:KT Out) (a1:Arg):(List (Key×Bool))->Option Out:=fun z=>K (.exit 0) ({ n:=44,sl:=[(1,.val (.U bd) a1.2.1),(5,.own (.map aL .bool) (au (.map aL .bool)) [] z)],vr:=[],aw:=[] })
noncomputable def b0 (self:((List (Key×Bool))×Int)->Option Out) (e0:(List (Key×Bool))->Option Out) (a1:Arg) (J:(List (Key×Bool))×Int):Option Out:=bif decide (J.2 < (a1.1.length:Int)) then (if 0<=J.2 then ((a1.1[J.2.toNat]?).bind fun aB=>let we:=gZ aL J.1 (aB.1,aB.2.1,()) true;self (we,ae (J.2+(1:Int)))) else none) else e0 J.1
noncomputable abbrev B0 (_:Nat):=b0
theorem gc (k:Nat) (rec:RT Out) (K:KT Out) (a1:Arg) (J:(List (Key×Bool))×Int):D.N k [1,1,0,1,0,0] (T0 a1 J) (dv rec (cu [1,5,13,14,15] []) K)=b0 (S0 rec a1) (bt K a1) a1 J:=by kernel_rfl
noncomputable def T1 (a1:Arg) (bV:(List (Key×Bool))×(List Tx)×Int×Int):St:={ n:=44,sl:=[(5,.own (.map aL .bool) (au (.map aL .bool)) [] bV.1),(26,.val (.U bd) bV.2.1),(27,.val i64 bV.2.2.1),(28,.val i64 bV.2.2.2)],vr:=[],aw:=[] }
noncomputable def S1 (rec:RT Out) (a1:Arg):((List (Key×Bool))×(List Tx)×Int×Int)->Option Out:=fun bV=>rec (T1 a1 bV)
noncomputable def dF (K:KT Out) (a1:Arg):(List (Key×Bool))->Option Out:=fun z=>K (.exit 2) ({ n:=44,sl:=[(5,.own (.map aL .bool) (au (.map aL .bool)) [] z)],vr:=[],aw:=[] })
noncomputable def T2 (a1:Arg) (pt:List Tx) (hU:Int) (dN:Int) (cD:List Key) (bF:Int) (nR:(List (Key×Bool))×Int):St:={ n:=44,sl:=[(5,.own (.map aL .bool) (au (.map aL .bool)) [] nR.1),(26,.val (.U bd) pt),(27,.val i64 hU),(28,.val i64 dN),(33,.val (.U aL) cD),(34,.val i64 bF),(35,.val i64 nR.2)],vr:=[],aw:=[] }
noncomputable def b2 (self:((List (Key×Bool))×Int)->Option Out) (e4:(List (Key×Bool))->Option Out) (a1:Arg) (pt:List Tx) (hU:Int) (dN:Int) (cD:List Key) (bF:Int) (nR:(List (Key×Bool))×Int):Option Out:=bif decide (nR.2 < bF) then (if 0<=nR.2 then ((cD[nR.2.toNat]?).bind fun GZ=>self (gZ aL nR.1 GZ true,ae (nR.2+(1:Int)))) else none) else e4 nR.1
noncomputable abbrev B2 (_:Nat):=b2
noncomputable def q1 (self:((List (Key×Bool))×(List Tx)×Int×Int)->Option Out) (e2:(List (Key×Bool))->Option Out) (a1:Arg) (pt:List Tx) (hU:Int) (dN:Int) (cD:List Key) (bF:Int) (wW:(List (Key×Bool))):Option Out:=self (wW,pt,hU,ae (dN+(1:Int)))
noncomputable abbrev Q1 (_:Nat):=q1
noncomputable def s2 (k:Nat) (rec:RT Out) (K:KT Out) (a1:Arg):(List Tx)->Int->Int->(List Key)->Int->((List (Key×Bool))×Int)->Option Out:=fun pt hU dN cD bF=>fun nR=>D.L k [1,1,1,0,1,0,0,1,1,0,0,1,1,0,0] [5,26,27,28,33,34,35] [] (af 4 (af 3 (ap (D.N k [1,1,1,0,1,0,0,1,1,1]) (dv rec (cu [5,26,27,28] []) K)))) (T2 a1 pt hU dN cD bF nR)
noncomputable def r2 (k:Nat) (self:((List (Key×Bool))×(List Tx)×Int×Int)->Option Out) (e2:(List (Key×Bool))->Option Out) (a1:Arg):(List Tx)->Int->Int->(List Key)->Int->((List (Key×Bool))×Int)->Option Out:=fun pt hU dN cD bF=>al (fun w v=>B2 k w (Q1 k self e2 a1 pt hU dN cD bF) a1 pt hU dN cD bF v) k
theorem ly (k:Nat) (rec:RT Out) (K:KT Out) (a1:Arg):s2 k rec K a1=r2 k (S1 rec a1) (dF K a1) a1:=
 funext fun pt=>funext fun hU=>funext fun dN=>funext fun cD=>funext fun bF=>funext fun nR=>ao _ _ _ (T2 a1 pt hU dN cD bF) _ (fun rec v=>by kernel_rfl) k nR
noncomputable def b1 (self:((List (Key×Bool))×(List Tx)×Int×Int)->Option Out) (e2:(List (Key×Bool))->Option Out) (l2:(List Tx)->Int->Int->(List Key)->Int->((List (Key×Bool))×Int)->Option Out) (a1:Arg) (bV:(List (Key×Bool))×(List Tx)×Int×Int):Option Out:=bif decide (bV.2.2.2 < bV.2.2.1) then (if 0<=bV.2.2.2 then ((bV.2.1[bV.2.2.2.toNat]?).bind fun uu=>l2 bV.2.1 bV.2.2.1 bV.2.2.2 uu.2.2.2.1 (uu.2.2.2.1.length:Int) (bV.1,(0:Int))) else none) else e2 bV.1
noncomputable def B1 (k:Nat) (self:((List (Key×Bool))×(List Tx)×Int×Int)->Option Out) (e2:(List (Key×Bool))->Option Out) (a1:Arg) (bV:(List (Key×Bool))×(List Tx)×Int×Int):Option Out:=b1 self e2 (r2 k self e2 a1) a1 bV
theorem mw (k:Nat) (rec:RT Out) (K:KT Out) (a1:Arg) (bV:(List (Key×Bool))×(List Tx)×Int×Int):D.N k [1,1,1,0,1,0,0] (T1 a1 bV) (dv rec (cu [5,26,27,28] []) K)=B1 k (S1 rec a1) (dF K a1) a1 bV:=
 Eq.trans (b:=b1 (S1 rec a1) (dF K a1) (s2 k rec K a1) a1 bV) (by kernel_rfl) (by rw[ly];rfl)
noncomputable def q2 (a1:Arg) (nO:(List (Key×Bool))):Option Out:=some (nO,())
noncomputable abbrev Q2 (_:Nat):=q2
theorem nP (k:Nat) (a1:Arg) (nO:(List (Key×Bool))):dF (af 2 (ap (D.N k [1,1,1,1]) D.K0)) a1 nO=q2 a1 nO:=by kernel_rfl
noncomputable def s1 (k:Nat) (a1:Arg):((List (Key×Bool))×(List Tx)×Int×Int)->Option Out:=fun bV=>D.L k [1,1,1,0,1,0,0] [5,26,27,28] [] (af 2 (ap (D.N k [1,1,1,1]) D.K0)) (T1 a1 bV)
noncomputable def r1 (k:Nat) (a1:Arg):((List (Key×Bool))×(List Tx)×Int×Int)->Option Out:=al (fun w v=>B1 k w (Q2 k a1) a1 v) k
theorem gd (k:Nat) (a1:Arg):s1 k a1=r1 k a1:=by
 funext bV;
 have Y:dF (af 2 (ap (D.N k [1,1,1,1]) D.K0)) a1=Q2 k a1:=funext fun z=>nP k a1 z
 refine (ao _ _ _ (T1 a1) (fun self v=>B1 k self (dF (af 2 (ap (D.N k [1,1,1,1]) D.K0)) a1) a1 v) (fun rec v=>mw k rec (af 2 (ap (D.N k [1,1,1,1]) D.K0)) a1 v) k bV).trans ?_
 rw[Y]
 rfl
noncomputable def q0 (l1:((List (Key×Bool))×(List Tx)×Int×Int)->Option Out) (a1:Arg) (bY:(List (Key×Bool))):Option Out:=l1 (bY,a1.2.1,(a1.2.1.length:Int),(0:Int))
noncomputable def Q0 (k:Nat) (a1:Arg) (bY:(List (Key×Bool))):Option Out:=q0 (r1 k a1) a1 bY
theorem lz (k:Nat) (a1:Arg) (bY:(List (Key×Bool))):bt (af 0 (ap (D.N k [1,1,1]) D.K0)) a1 bY=Q0 k a1 bY:=
 Eq.trans (b:=q0 (s1 k a1) a1 bY) (by kernel_rfl) (by rw[gd];rfl)
noncomputable def s0 (k:Nat) (a1:Arg):((List (Key×Bool))×Int)->Option Out:=fun J=>D.L k [1,1,0,1,0,0] [1,5,13,14,15] [] (af 0 (ap (D.N k [1,1,1]) D.K0)) (T0 a1 J)
noncomputable def r0 (k:Nat) (a1:Arg):((List (Key×Bool))×Int)->Option Out:=al (fun w v=>B0 k w (Q0 k a1) a1 v) k
theorem aq (k:Nat) (a1:Arg):s0 k a1=r0 k a1:=by
 funext J;
 have h0:bt (af 0 (ap (D.N k [1,1,1]) D.K0)) a1=Q0 k a1:=funext fun z=>lz k a1 z
 refine (ao _ _ _ (T0 a1) (fun self v=>B0 k self (bt (af 0 (ap (D.N k [1,1,1]) D.K0)) a1) a1 v) (fun rec v=>gc k rec (af 0 (ap (D.N k [1,1,1]) D.K0)) a1 v) k J).trans ?_
 rw[h0]
 rfl
noncomputable def p (l0:((List (Key×Bool))×Int)->Option Out) (a1:Arg):Option Out:=l0 (([]:List (Key×Bool)),(0:Int))
theorem aa (k:Nat) (a1:Arg):@Eq (Option Out) (D.W k a1) (p (r0 k a1) a1):=
 Eq.trans (b:=p (s0 k a1) a1) (by kernel_rfl) (by rw[aq])
theorem ok:Ok prog 78 D.sig:=am func78 ay (by kernel_rfl) (ai _)
end bJ
namespace eb
abbrev Arg:Type:=(List Row)×Unit
abbrev Out:Type:=(List Row)×Unit
abbrev ps:PQ:=[(.ro,(.U aF))]
noncomputable def D:FD:={ fn:=f126,tl:=aE,ps:=ps,rs:=[((.U aF),(au (.U aF)))] }
noncomputable def ab (a:Arg):Option Out:=@lift Out fun k=>D.W k a
noncomputable def p (a1:Arg):Option Out:=vp a1.1 (some (([]:List Row),())) (if ([]:List Row).length+a1.1.length<=bk then (some (([]:List Row)++a1.1,())) else none)
theorem aa (k:Nat) (a1:Arg):@Eq (Option Out) (D.W k a1) (p a1):=by kernel_rfl
theorem ok:Ok prog 126 D.sig:=am func126 ay (by kernel_rfl) (ai _)
end eb
namespace aG
abbrev Arg:Type:=(List Row)×Row×(Nat×Int)×Unit
abbrev Out:Type:=Int×Bool×Unit
abbrev ps:PQ:=[(.ro,(.U aF)),(.ro,aF),(.fix 120,.fn)]
noncomputable def D:FD:={ fn:=f204,tl:=aE,ps:=ps,rs:=[(i64,(av i64)),(.bool,(av .bool))],gl:=[(120,e_.D.sig)],lv:=[(3,[0,2,4,8,9,10])],lx:=[(0,[0,2,4,8,9])],od:=[(5,[0,1,2,3,4,5,6,7]),(8,[0,1,2,3,4,5,6,7,8,9,10,11,12,13,14,15])] }
noncomputable def ab (a:Arg):Option Out:=@lift Out fun k=>D.W k a
noncomputable def T0 (a1:Arg) (J:Int×Int):St:={ n:=49,sl:=[(0,.val (.U aF) a1.1),(2,.val .fn ((120,a1.2.2.1.2):Nat×Int)),(4,.box aF (av aF) [] a1.2.1),(8,.val i64 (a1.1.length:Int)),(9,.val i64 J.1),(10,.val i64 J.2)],vr:=[],aw:=[] }
noncomputable def b0 (self:(Int×Int)->Option Out) (e0:Int->Option Out) (a1:Arg) (J:Int×Int):Option Out:=bif decide (J.1 < J.2) then (if 0<=ae ((IntKind.wrap .u64 (ae (J.1+J.2))).fdiv (2 ^ 1)) then ((a1.1[(ae ((IntKind.wrap .u64 (ae (J.1+J.2))).fdiv (2 ^ 1))).toNat]?).bind fun aB=>(e_.ab (aB,a1.2.1,())).bind fun bs=>bif decide (bs.1 < (0:Int)) then (self (ae ((ae ((IntKind.wrap .u64 (ae (J.1+J.2))).fdiv (2 ^ 1)))+(1:Int)),J.2)) else self (J.1,ae ((IntKind.wrap .u64 (ae (J.1+J.2))).fdiv (2 ^ 1)))) else none) else e0 J.1
noncomputable abbrev B0 (_:Nat):=b0
noncomputable def q0 (a1:Arg) (bY:Int):Option Out:=bif decide (bY < (a1.1.length:Int)) then (if 0<=bY then ((a1.1[bY.toNat]?).bind fun n7=>(e_.ab (n7,a1.2.1,())).bind fun gx=>some (bY,decide (gx.1=(0:Int)),())) else none) else some (bY,false,())
noncomputable abbrev Q0 (_:Nat):=q0
noncomputable def s0 (k:Nat) (a1:Arg):(Int×Int)->Option Out:=fun J=>D.L k [1,1,1,0,0,0] [0,2,4,8,9,10] [] (af 0 (ap (D.N k [1,1,1,1]) D.K0)) (T0 a1 J)
noncomputable def r0 (k:Nat) (a1:Arg):(Int×Int)->Option Out:=al (fun w v=>B0 k w (Q0 k a1) a1 v) k
theorem aq (k:Nat) (a1:Arg):s0 k a1=r0 k a1:=
 funext fun J=>ao _ _ _ (T0 a1) _ (fun rec v=>by kernel_rfl) k J
noncomputable def p (l0:(Int×Int)->Option Out) (a1:Arg):Option Out:=l0 ((0:Int),(a1.1.length:Int))
theorem aa (k:Nat) (a1:Arg):@Eq (Option Out) (D.W k a1) (p (r0 k a1) a1):=
 Eq.trans (b:=p (s0 k a1) a1) (by kernel_rfl) (by rw[aq])
theorem ok:Ok prog 204 D.sig:=am func204 ay (by kernel_rfl) (fc e_.ok (ai _))
end aG
namespace fE
abbrev Arg:Type:=Change×(List Row)×Unit
abbrev Out:Type:=Bool×Unit
abbrev ps:PQ:=[(.ro,an),(.ro,(.U aF))]
noncomputable def D:FD:={ fn:=f173,tl:=aE,ps:=ps,rs:=[(.bool,(av .bool))],gl:=[(133,bW.D.sig),(204,aG.D.sig)],od:=[(2,[0,1,2,3,4,5,6,7,8,9,10,11,12,13,14,15,16,17])] }
noncomputable def ab (a:Arg):Option Out:=@lift Out fun k=>D.W k a
noncomputable def p (a1:Arg):Option Out:=(bW.ab (a1.1,())).bind fun r2=>(aG.ab (a1.2.1,r2.1,((120,0):Nat×Int),())).bind fun r3=>bif (r3.2.1 == a1.1.1) then (bif !r3.2.1 then (some (true,())) else if 0<=r3.1 then ((a1.2.1[r3.1.toNat]?).bind fun x4=>some ((Ty.eq aF x4 a1.1.2.1),())) else none) else some (false,())
theorem aa (k:Nat) (a1:Arg):@Eq (Option Out) (D.W k a1) (p a1):=by kernel_rfl
theorem ok:Ok prog 173 D.sig:=am func173 ay (by kernel_rfl) (fc bW.ok (fc aG.ok (ai _)))
end fE
namespace jU
abbrev Arg:Type:=(List Row)×Change×Unit
abbrev Out:Type:=(List Row)×Unit
abbrev ps:PQ:=[(.ro,(.U aF)),(.ro,an)]
noncomputable def D:FD:={ fn:=f174,tl:=aE,ps:=ps,rs:=[((.U aF),(au (.U aF)))],gl:=[(133,bW.D.sig),(204,aG.D.sig)] }
noncomputable def ab (a:Arg):Option Out:=@lift Out fun k=>D.W k a
noncomputable def p (a1:Arg):Option Out:=(bW.ab (a1.2.1,())).bind fun r2=>(aG.ab (a1.1,r2.1,((120,0):Nat×Int),())).bind fun r3=>if 0<=r3.1/\r3.1<=(a1.1.length:Int) then (if ([]:List Row).length+((a1.1.take r3.1.toNat).drop 0).length<=bk then (let y4:=([]:List Row)++((a1.1.take r3.1.toNat).drop 0);let j8:=fun (p7:List Row)=>(let QC:=fun (Mf:Int)=>(if 0<=Mf/\Mf<=(a1.1.length:Int) then (if p7.length+((a1.1.take a1.1.length).drop Mf.toNat).length<=bk then (let Tu:=p7++((a1.1.take a1.1.length).drop Mf.toNat);some (Tu,())) else none) else none:Option Out);bif r3.2.1 then (QC (ae (r3.1+(1:Int)))) else QC r3.1:Option Out);bif a1.2.1.2.2.1 then (if y4.length+[a1.2.1.2.2.2.1].length<=bk then (j8 (y4++[a1.2.1.2.2.2.1])) else none) else j8 y4) else none) else none
theorem aa (k:Nat) (a1:Arg):@Eq (Option Out) (D.W k a1) (p a1):=by kernel_rfl
theorem ok:Ok prog 174 D.sig:=am func174 ay (by kernel_rfl) (fc bW.ok (fc aG.ok (ai _)))
end jU
namespace cn
abbrev Arg:Type:=(List Row)×(List Change)×Unit
abbrev Out:Type:=qS×Unit
abbrev ps:PQ:=[(.ro,(.U aF)),(.ro,(.U an))]
noncomputable def D:FD:={ fn:=f124,tl:=aE,ps:=ps,rs:=[(om,(au om))],gl:=[(76,cg.D.sig),(126,eb.D.sig),(172,d9.D.sig),(173,fE.D.sig),(174,jU.D.sig)],lv:=[(6,[4,6,18,19,20])],lx:=[(0,[4,6])] }
noncomputable def ab (a:Arg):Option Out:=@lift Out fun k=>D.W k a
noncomputable def T0 (a1:Arg) (fk:(List Row)×Int):St:={ n:=45,sl:=[(4,.box om (au om) [] ((0:Int),([]:List Row),())),(6,.own (.U aF) (au (.U aF)) [] fk.1),(18,.val (.U an) a1.2.1),(19,.val i64 (a1.2.1.length:Int)),(20,.val i64 fk.2)],vr:=[],aw:=[] }
noncomputable def b0 (self:((List Row)×Int)->Option Out) (e0:(List Row)->Option Out) (a1:Arg) (fk:(List Row)×Int):Option Out:=bif decide (fk.2 < (a1.2.1.length:Int)) then (if 0<=fk.2 then ((a1.2.1[fk.2.toNat]?).bind fun cW=>(d9.ab (cW,())).bind fun jk=>bif !decide (jk.1=(0:Int)) then (some ((jk.1,([]:List Row),()),())) else (fE.ab (cW,fk.1,())).bind fun gx=>bif !gx.1 then (some (((8:Int),([]:List Row),()),())) else (jU.ab (fk.1,cW,())).bind fun wg=>self (wg.1,ae (fk.2+(1:Int)))) else none) else e0 fk.1
noncomputable abbrev B0 (_:Nat):=b0
noncomputable def q0 (a1:Arg) (s7:(List Row)):Option Out:=bif decide ((60:Int) < (s7.length:Int)) then (some (((2:Int),([]:List Row),()),())) else some (((0:Int),s7,()),())
noncomputable abbrev Q0 (_:Nat):=q0
noncomputable def s0 (k:Nat) (a1:Arg):((List Row)×Int)->Option Out:=fun fk=>D.L k [1,1,1,0,1,0,0] [4,6,18,19,20] [] (af 0 (ap (D.N k [1,1,1,1]) D.K0)) (T0 a1 fk)
noncomputable def r0 (k:Nat) (a1:Arg):((List Row)×Int)->Option Out:=al (fun w v=>B0 k w (Q0 k a1) a1 v) k
theorem aq (k:Nat) (a1:Arg):s0 k a1=r0 k a1:=
 funext fun fk=>ao _ _ _ (T0 a1) _ (fun rec v=>by kernel_rfl) k fk
noncomputable def p (l0:((List Row)×Int)->Option Out) (a1:Arg):Option Out:=(cg.ab (a1.1,())).bind fun r2=>bif !decide (r2.1=(0:Int)) then (some ((r2.1,([]:List Row),()),())) else (eb.ab (a1.1,())).bind fun r3=>l0 (r3.1,(0:Int))
theorem aa (k:Nat) (a1:Arg):@Eq (Option Out) (D.W k a1) (p (r0 k a1) a1):=
 Eq.trans (b:=p (s0 k a1) a1) (by kernel_rfl) (by rw[aq])
theorem ok:Ok prog 124 D.sig:=am func124 ay (by kernel_rfl) (fc cg.ok (fc eb.ok (fc d9.ok (fc fE.ok (fc jU.ok (ai _))))))
end cn
namespace fT
abbrev Arg:Type:=(List Change)×Unit
abbrev Out:Type:=(List Change)×Unit
abbrev ps:PQ:=[(.ro,(.U an))]
noncomputable def D:FD:={ fn:=f125,tl:=aE,ps:=ps,rs:=[((.U an),(au (.U an)))],lv:=[(3,[0,3,4])],lx:=[(0,[3])] }
noncomputable def ab (a:Arg):Option Out:=@lift Out fun k=>D.W k a
noncomputable def T0 (a1:Arg) (J:(List Change)×Int):St:={ n:=30,sl:=[(0,.val (.U an) a1.1),(3,.own (.U an) (au (.U an)) [] J.1),(4,.val i64 J.2)],vr:=[],aw:=[] }
noncomputable def b0 (self:((List Change)×Int)->Option Out) (e0:(List Change)->Option Out) (a1:Arg) (J:(List Change)×Int):Option Out:=bif decide ((0:Int)<=J.2) then (if 0<=J.2 then ((a1.1[J.2.toNat]?).bind fun aB=>if J.1.length+[(aB.2.2.1,aB.2.2.2.1,aB.1,aB.2.1,())].length<=bk then (let we:=J.1++[(aB.2.2.1,aB.2.2.2.1,aB.1,aB.2.1,())];self (we,ae (J.2 - (1:Int)))) else none) else none) else e0 J.1
noncomputable abbrev B0 (_:Nat):=b0
noncomputable def q0 (a1:Arg) (bY:(List Change)):Option Out:=some (bY,())
noncomputable abbrev Q0 (_:Nat):=q0
noncomputable def s0 (k:Nat) (a1:Arg):((List Change)×Int)->Option Out:=fun J=>D.L k [1,1,0,1,0,0] [0,3,4] [] (af 0 (ap (D.N k [1,1,1]) D.K0)) (T0 a1 J)
noncomputable def r0 (k:Nat) (a1:Arg):((List Change)×Int)->Option Out:=al (fun w v=>B0 k w (Q0 k a1) a1 v) k
theorem aq (k:Nat) (a1:Arg):s0 k a1=r0 k a1:=
 funext fun J=>ao _ _ _ (T0 a1) _ (fun rec v=>by kernel_rfl) k J
noncomputable def p (l0:((List Change)×Int)->Option Out) (a1:Arg):Option Out:=l0 (([]:List Change),ae ((a1.1.length:Int) - (1:Int)))
theorem aa (k:Nat) (a1:Arg):@Eq (Option Out) (D.W k a1) (p (r0 k a1) a1):=
 Eq.trans (b:=p (s0 k a1) a1) (by kernel_rfl) (by rw[aq])
theorem ok:Ok prog 125 D.sig:=am func125 ay (by kernel_rfl) (ai _)
end fT
namespace dc
abbrev Arg:Type:=(List Row)×(List Tx)×Unit
abbrev Out:Type:=(List Row)×Int×Unit
abbrev ps:PQ:=[(.ro,(.U aF)),(.ro,(.U bd))]
noncomputable def D:FD:={ fn:=f79,tl:=aE,ps:=ps,rs:=[((.U aF),(au (.U aF))),(i64,(av i64))],gl:=[(124,cn.D.sig),(125,fT.D.sig),(126,eb.D.sig)],lv:=[(2,[0,9,10,11])],lx:=[(0,[0])],lf:=[(2,[(0,(.U false (.pair .leaf (.pair .leaf (.pair .leaf (.pair .leaf .leaf))))))])],od:=[(6,[0,1,2,3])] }
noncomputable def ab (a:Arg):Option Out:=@lift Out fun k=>D.W k a
noncomputable def T0 (a1:Arg) (J:(List Row)×Int):St:={ n:=30,sl:=[(0,.val (.U aF) J.1),(9,.val (.U bd) a1.2.1),(10,.val i64 (a1.2.1.length:Int)),(11,.val i64 J.2)],vr:=[],aw:=[] }
noncomputable def b0 (self:((List Row)×Int)->Option Out) (e0:(List Row)->Option Out) (a1:Arg) (J:(List Row)×Int):Option Out:=bif decide (J.2 < (a1.2.1.length:Int)) then (if 0<=J.2 then ((a1.2.1[J.2.toNat]?).bind fun aB=>(fT.ab (aB.2.1,())).bind fun bs=>(cn.ab (J.1,bs.1,())).bind fun fY=>bif !decide (fY.1.1=(0:Int)) then (some (([]:List Row),fY.1.1,())) else self (fY.1.2.1,ae (J.2+(1:Int)))) else none) else e0 J.1
noncomputable abbrev B0 (_:Nat):=b0
noncomputable def q0 (a1:Arg) (jl:(List Row)):Option Out:=(eb.ab (jl,())).bind fun gx=>some (gx.1,(0:Int),())
noncomputable abbrev Q0 (_:Nat):=q0
noncomputable def s0 (k:Nat) (a1:Arg):((List Row)×Int)->Option Out:=fun J=>D.L k [1,0,1,0,0] [0,9,10,11] [(0,(.U false (.pair .leaf (.pair .leaf (.pair .leaf (.pair .leaf .leaf))))))] (af 0 (ap (D.N k [1,1]) D.K0)) (T0 a1 J)
noncomputable def r0 (k:Nat) (a1:Arg):((List Row)×Int)->Option Out:=al (fun w v=>B0 k w (Q0 k a1) a1 v) k
theorem aq (k:Nat) (a1:Arg):s0 k a1=r0 k a1:=
 funext fun J=>ao _ _ _ (T0 a1) _ (fun rec v=>by kernel_rfl) k J
noncomputable def p (l0:((List Row)×Int)->Option Out) (a1:Arg):Option Out:=l0 (a1.1,(0:Int))
theorem aa (k:Nat) (a1:Arg):@Eq (Option Out) (D.W k a1) (p (r0 k a1) a1):=
 Eq.trans (b:=p (s0 k a1) a1) (by kernel_rfl) (by rw[aq])
theorem ok:Ok prog 79 D.sig:=am func79 ay (by kernel_rfl) (fc cn.ok (fc fT.ok (fc eb.ok (ai _))))
end dc
namespace gV
abbrev Arg:Type:=Plain×Unit
abbrev Out:Type:=Int×Unit
abbrev ps:PQ:=[(.ro,tu)]
noncomputable def D:FD:={ fn:=f38,tl:=aE,ps:=ps,rs:=[(i64,(av i64))],gl:=[(36,bT.D.sig),(76,cg.D.sig),(77,aY.D.sig),(78,bJ.D.sig),(79,dc.D.sig)],od:=[(7,[0,1,2,3,4,5,6,7,8,9,10,11,12,13,14,15,16,17,18,19,20,21,22,23])],ar:=[(7,[1,6,11,13,18,20])],bx:=[(7,[1])] }
noncomputable def ab (a:Arg):Option Out:=@lift Out fun k=>D.W k a
noncomputable def p (a1:Arg):Option Out:=(cg.ab (a1.1.1,())).bind fun r2=>bif !decide (r2.1=(0:Int)) then (some (r2.1,())) else (aY.ab (a1.1.2.1,())).bind fun r3=>bif !decide (r3.1=(0:Int)) then (some (r3.1,())) else let j8:Option Out:=(bJ.ab (a1.1.1,a1.1.2.1,())).bind fun r9=>bif decide ((12:Int) < (r9.1.length:Int)) then (some ((2:Int),())) else (dc.ab (a1.1.1,a1.1.2.1,())).bind fun Jd=>bif !decide (Jd.2.1=(0:Int)) then (some ((8:Int),())) else some ((0:Int),());(bT.ab (a1.1.2.2.1,(1:Int),(100:Int),())).bind fun r4=>bif !r4.1 then (some ((3:Int),())) else bif decide ((0:Int) < (a1.1.2.1.length:Int)) then (if 0<=ae ((a1.1.2.1.length:Int) - (1:Int)) then ((a1.1.2.1[(ae ((a1.1.2.1.length:Int) - (1:Int))).toNat]?).bind fun x5=>bif decide (a1.1.2.2.1<=x5.1) then (some ((3:Int),())) else j8) else none) else j8
theorem aa (k:Nat) (a1:Arg):@Eq (Option Out) (D.W k a1) (p a1):=by kernel_rfl
theorem ok:Ok prog 38 D.sig:=am func38 ay (by kernel_rfl) (fc bT.ok (fc cg.ok (fc aY.ok (fc bJ.ok (fc dc.ok (ai _))))))
end gV
namespace h_
abbrev Arg:Type:=(List Seen)×Unit
abbrev Out:Type:=(List Row)×Unit
abbrev ps:PQ:=[(.ro,(.U cY))]
noncomputable def D:FD:={ fn:=f39,tl:=aE,ps:=ps,rs:=[((.U aF),(au (.U aF)))],lv:=[(3,[3,6,7,8])],lx:=[(0,[3])] }
noncomputable def ab (a:Arg):Option Out:=@lift Out fun k=>D.W k a
noncomputable def T0 (a1:Arg) (J:(List Row)×Int):St:={ n:=19,sl:=[(3,.own (.U aF) (au (.U aF)) [] J.1),(6,.val (.U cY) a1.1),(7,.val i64 (a1.1.length:Int)),(8,.val i64 J.2)],vr:=[],aw:=[] }
noncomputable def b0 (self:((List Row)×Int)->Option Out) (e0:(List Row)->Option Out) (a1:Arg) (J:(List Row)×Int):Option Out:=bif decide (J.2 < (a1.1.length:Int)) then (if 0<=J.2 then ((a1.1[J.2.toNat]?).bind fun aB=>if J.1.length+[aB.1].length<=bk then (self (J.1++[aB.1],ae (J.2+(1:Int)))) else none) else none) else e0 J.1
noncomputable abbrev B0 (_:Nat):=b0
noncomputable def q0 (a1:Arg) (kj:(List Row)):Option Out:=some (kj,())
noncomputable abbrev Q0 (_:Nat):=q0
noncomputable def s0 (k:Nat) (a1:Arg):((List Row)×Int)->Option Out:=fun J=>D.L k [1,1,0,1,0,0] [3,6,7,8] [] (af 0 (ap (D.N k [1,1,1]) D.K0)) (T0 a1 J)
noncomputable def r0 (k:Nat) (a1:Arg):((List Row)×Int)->Option Out:=al (fun w v=>B0 k w (Q0 k a1) a1 v) k
theorem aq (k:Nat) (a1:Arg):s0 k a1=r0 k a1:=
 funext fun J=>ao _ _ _ (T0 a1) _ (fun rec v=>by kernel_rfl) k J
noncomputable def p (l0:((List Row)×Int)->Option Out) (a1:Arg):Option Out:=l0 (([]:List Row),(0:Int))
theorem aa (k:Nat) (a1:Arg):@Eq (Option Out) (D.W k a1) (p (r0 k a1) a1):=
 Eq.trans (b:=p (s0 k a1) a1) (by kernel_rfl) (by rw[aq])
theorem ok:Ok prog 39 D.sig:=am func39 ay (by kernel_rfl) (ai _)
end h_
namespace fF
abbrev Arg:Type:=(List (List UInt8))×Unit
abbrev Out:Type:=(List (List UInt8))×Unit
abbrev ps:PQ:=[(.ro,(.U (.U u8)))]
noncomputable def D:FD:={ fn:=f129,tl:=aE,ps:=ps,rs:=[((.U (.U u8)),(.U true (av (.U u8))))] }
noncomputable def ab (a:Arg):Option Out:=@lift Out fun k=>D.W k a
noncomputable def p (a1:Arg):Option Out:=vp a1.1 (some (([]:List (List UInt8)),())) (if ([]:List (List UInt8)).length+a1.1.length<=bk then (some (([]:List (List UInt8))++a1.1,())) else none)
theorem aa (k:Nat) (a1:Arg):@Eq (Option Out) (D.W k a1) (p a1):=by kernel_rfl
theorem ok:Ok prog 129 D.sig:=am func129 ay (by kernel_rfl) (ai _)
end fF
namespace fm
abbrev Arg:Type:=UInt8×Unit
abbrev Out:Type:=(List UInt8)×Unit
abbrev ps:PQ:=[(.ro,u8)]
noncomputable def D:FD:={ fn:=f130,tl:=aE,ps:=ps,rs:=[((.U u8),(au (.U u8)))],lv:=[(3,[0,3,7,8])],lx:=[(0,[3])] }
noncomputable def ab (a:Arg):Option Out:=@lift Out fun k=>D.W k a
noncomputable def T0 (a1:Arg) (J:(List UInt8)×Int):St:={ n:=21,sl:=[(0,.val u8 a1.1),(3,.own (.U u8) (au (.U u8)) [] J.1),(7,.val i64 ((List.replicate 64 (0:UInt8)).length:Int)),(8,.val i64 J.2)],vr:=[],aw:=[] }
noncomputable def b0 (self:((List UInt8)×Int)->Option Out) (e0:(List UInt8)->Option Out) (a1:Arg) (J:(List UInt8)×Int):Option Out:=bif decide (J.2 < ((List.replicate 64 (0:UInt8)).length:Int)) then (if 0<=J.2/\J.2 < (J.1.length:Int) then ((J.1[J.2.toNat]?).bind fun aB=>self (J.1.set J.2.toNat a1.1,ae (J.2+(1:Int)))) else none) else e0 J.1
noncomputable abbrev B0 (_:Nat):=b0
noncomputable def q0 (a1:Arg) (kj:(List UInt8)):Option Out:=if 0<=(0:Int)/\(0:Int) < (kj.length:Int) then ((kj[0]?).bind fun cW=>if 0<=(1:Int)/\(1:Int) < ((kj.set 0 (0:UInt8)).length:Int) then (((kj.set 0 (0:UInt8))[1]?).bind fun n7=>let wd:=(kj.set 0 (0:UInt8)).set 1 (64:UInt8);some (wd,())) else none) else none
noncomputable abbrev Q0 (_:Nat):=q0
noncomputable def s0 (k:Nat) (a1:Arg):((List UInt8)×Int)->Option Out:=fun J=>D.L k [1,1,0,1,0,0] [0,3,7,8] [] (af 0 (ap (D.N k [1,1,1]) D.K0)) (T0 a1 J)
noncomputable def r0 (k:Nat) (a1:Arg):((List UInt8)×Int)->Option Out:=al (fun w v=>B0 k w (Q0 k a1) a1 v) k
theorem aq (k:Nat) (a1:Arg):s0 k a1=r0 k a1:=
 funext fun J=>ao _ _ _ (T0 a1) _ (fun rec v=>by kernel_rfl) k J
noncomputable def p (l0:((List UInt8)×Int)->Option Out) (a1:Arg):Option Out:=if 0<=(64:Int)/\(64:Int)<=(64:Int)/\(64:Int)<=(bk:Int) then (l0 (List.replicate 64 (0:UInt8),(0:Int))) else none
theorem aa (k:Nat) (a1:Arg):@Eq (Option Out) (D.W k a1) (p (r0 k a1) a1):=
 Eq.trans (b:=p (s0 k a1) a1) (by kernel_rfl) (by rw[aq])
theorem ok:Ok prog 130 D.sig:=am func130 ay (by kernel_rfl) (ai _)
end fm
namespace eM
abbrev Arg:Type:=(List UInt8)×(List cR)×Unit
abbrev Out:Type:=(List UInt8)×Unit
abbrev ps:PQ:=[(.ro,(.U u8)),(.ro,(.U pP))]
noncomputable def D:FD:={ fn:=f131,tl:=aE,ps:=ps,rs:=[((.U u8),(au (.U u8)))],gl:=[(165,hB.D.sig)],lv:=[(3,[5,10,11,12])],lx:=[(0,[5])],od:=[(5,[0,1,2,3,4,5,6])] }
noncomputable def ab (a:Arg):Option Out:=@lift Out fun k=>D.W k a
noncomputable def T0 (a1:Arg) (aN:(List UInt8)×Int):St:={ n:=25,sl:=[(5,.own (.U u8) (au (.U u8)) [] aN.1),(10,.val (.U pP) a1.2.1),(11,.val i64 (a1.2.1.length:Int)),(12,.val i64 aN.2)],vr:=[],aw:=[] }
noncomputable def b0 (self:((List UInt8)×Int)->Option Out) (e0:(List UInt8)->Option Out) (a1:Arg) (aN:(List UInt8)×Int):Option Out:=bif decide (aN.2 < (a1.2.1.length:Int)) then (if 0<=aN.2 then ((a1.2.1[aN.2.toNat]?).bind fun cM=>if 0<=cM.1/\cM.1<=(aN.1.length:Int) then (let Rx:=lN aN.1 cM.1.toNat (min cM.2.1.length (aN.1.length - cM.1.toNat)) cM.2.1;self (Rx,ae (aN.2+(1:Int)))) else none) else none) else e0 aN.1
noncomputable abbrev B0 (_:Nat):=b0
noncomputable def q0 (a1:Arg) (jl:(List UInt8)):Option Out:=some (jl,())
noncomputable abbrev Q0 (_:Nat):=q0
noncomputable def s0 (k:Nat) (a1:Arg):((List UInt8)×Int)->Option Out:=fun aN=>D.L k [1,1,0,1,0,0] [5,10,11,12] [] (af 0 (ap (D.N k [1,1,1]) D.K0)) (T0 a1 aN)
noncomputable def r0 (k:Nat) (a1:Arg):((List UInt8)×Int)->Option Out:=al (fun w v=>B0 k w (Q0 k a1) a1 v) k
theorem aq (k:Nat) (a1:Arg):s0 k a1=r0 k a1:=
 funext fun aN=>ao _ _ _ (T0 a1) _ (fun rec v=>by kernel_rfl) k aN
noncomputable def p (l0:((List UInt8)×Int)->Option Out) (a1:Arg):Option Out:=(hB.ab (a1.1,())).bind fun r2=>l0 (r2.1,(0:Int))
theorem aa (k:Nat) (a1:Arg):@Eq (Option Out) (D.W k a1) (p (r0 k a1) a1):=
 Eq.trans (b:=p (s0 k a1) a1) (by kernel_rfl) (by rw[aq])
theorem ok:Ok prog 131 D.sig:=am func131 ay (by kernel_rfl) (fc hB.ok (ai _))
end eM
namespace ic
abbrev Arg:Type:=(List (List UInt8))×aO×Unit
abbrev Out:Type:=(List (List UInt8))×Int×Unit
abbrev ps:PQ:=[(.ro,(.U (.U u8))),(.ro,cb)]
noncomputable def D:FD:={ fn:=f81,tl:=aE,ps:=ps,rs:=[((.U (.U u8)),(av (.U (.U u8)))),(i64,(av i64))],gl:=[(127,hY.D.sig),(129,fF.D.sig),(130,fm.D.sig),(131,eM.D.sig)],od:=[(10,[0,1,2,3,4,5,6,7,8,9,10,11,12])] }
noncomputable def ab (a:Arg):Option Out:=@lift Out fun k=>D.W k a
noncomputable def p (a1:Arg):Option Out:=(hY.ab (a1.2.1.1,())).bind fun r2=>bif !r2.1 then (some (a1.1,(0:Int),())) else bif decide ((a1.1.length:Int) < a1.2.1.2.2.1) then (some (([]:List (List UInt8)),(1:Int),())) else bif decide (a1.2.1.2.2.1=(12:Int)) then (some (([]:List (List UInt8)),(2:Int),())) else (fF.ab (a1.1,())).bind fun r3=>let QD:=fun (p9:List (List UInt8))=>(if 0<=a1.2.1.2.2.1/\a1.2.1.2.2.1 < (p9.length:Int) then ((p9[a1.2.1.2.2.1.toNat]?).bind fun Ox=>(eM.ab (Ox,a1.2.1.2.2.2.1,())).bind fun Oy=>if 0<=a1.2.1.2.2.1/\a1.2.1.2.2.1 < (p9.length:Int) then ((p9[a1.2.1.2.2.1.toNat]?).bind fun Tv=>some (p9.set a1.2.1.2.2.1.toNat Oy.1,(0:Int),())) else none) else none:Option Out);bif decide (a1.2.1.2.2.1=(a1.1.length:Int)) then ((fm.ab ((0:UInt8),())).bind fun r4=>if r3.1.length+[r4.1].length<=bk then (QD (r3.1++[r4.1])) else none) else QD r3.1
theorem aa (k:Nat) (a1:Arg):@Eq (Option Out) (D.W k a1) (p a1):=by kernel_rfl
theorem ok:Ok prog 81 D.sig:=am func81 ay (by kernel_rfl) (fc hY.ok (fc fF.ok (fc fm.ok (fc eM.ok (ai _)))))
end ic
namespace jg
abbrev Arg:Type:=(List aO)×Unit
abbrev Out:Type:=(List (List UInt8))×Int×Unit
abbrev ps:PQ:=[(.ro,(.U cb))]
noncomputable def D:FD:={ fn:=f40,tl:=aE,ps:=ps,rs:=[((.U (.U u8)),(av (.U (.U u8)))),(i64,(av i64))],gl:=[(80,d8.D.sig),(81,ic.D.sig)],lv:=[(3,[4,10,11,12])],lx:=[(0,[4])],lf:=[(3,[(4,(.U false (.U false .leaf)))])] }
noncomputable def ab (a:Arg):Option Out:=@lift Out fun k=>D.W k a
noncomputable def T0 (a1:Arg) (J:(List (List UInt8))×Int):St:={ n:=33,sl:=[(4,.val (.U (.U u8)) J.1),(10,.val (.U cb) a1.1),(11,.val i64 (a1.1.length:Int)),(12,.val i64 J.2)],vr:=[],aw:=[] }
noncomputable def b0 (self:((List (List UInt8))×Int)->Option Out) (e0:(List (List UInt8))->Option Out) (a1:Arg) (J:(List (List UInt8))×Int):Option Out:=bif decide (J.2 < (a1.1.length:Int)) then (if 0<=J.2 then ((a1.1[J.2.toNat]?).bind fun aB=>(d8.ab (aB,())).bind fun bs=>bif !decide (bs.1=(0:Int)) then (some (([]:List (List UInt8)),bs.1,())) else (ic.ab (J.1,aB,())).bind fun fY=>bif !decide (fY.2.1=(0:Int)) then (some (([]:List (List UInt8)),fY.2.1,())) else self (fY.1,ae (J.2+(1:Int)))) else none) else e0 J.1
noncomputable abbrev B0 (_:Nat):=b0
noncomputable def q0 (a1:Arg) (jl:(List (List UInt8))):Option Out:=some (jl,(0:Int),())
noncomputable abbrev Q0 (_:Nat):=q0
noncomputable def s0 (k:Nat) (a1:Arg):((List (List UInt8))×Int)->Option Out:=fun J=>D.L k [1,1,0,1,0,0] [4,10,11,12] [(4,(.U false (.U false .leaf)))] (af 0 (ap (D.N k [1,1,1]) D.K0)) (T0 a1 J)
noncomputable def r0 (k:Nat) (a1:Arg):((List (List UInt8))×Int)->Option Out:=al (fun w v=>B0 k w (Q0 k a1) a1 v) k
theorem aq (k:Nat) (a1:Arg):s0 k a1=r0 k a1:=
 funext fun J=>ao _ _ _ (T0 a1) _ (fun rec v=>by kernel_rfl) k J
noncomputable def p (l0:((List (List UInt8))×Int)->Option Out) (a1:Arg):Option Out:=l0 (([]:List (List UInt8)),(0:Int))
theorem aa (k:Nat) (a1:Arg):@Eq (Option Out) (D.W k a1) (p (r0 k a1) a1):=
 Eq.trans (b:=p (s0 k a1) a1) (by kernel_rfl) (by rw[aq])
theorem ok:Ok prog 40 D.sig:=am func40 ay (by kernel_rfl) (fc d8.ok (fc ic.ok (ai _)))
end jg
namespace im
abbrev Arg:Type:=Log×Unit
abbrev Out:Type:=(List aO)×Unit
abbrev ps:PQ:=[(.ro,fe)]
noncomputable def D:FD:={ fn:=f41,tl:=aE,ps:=ps,rs:=[((.U cb),(au (.U cb)))],gl:=[(69,fl.D.sig)] }
noncomputable def ab (a:Arg):Option Out:=@lift Out fun k=>D.W k a
noncomputable def p (a1:Arg):Option Out:=(fl.ab (a1.1.1,())).bind fun r2=>(fl.ab (a1.1.2.1,())).bind fun r3=>if r2.1.length+r3.1.length<=bk then (some (r2.1++r3.1,())) else none
theorem aa (k:Nat) (a1:Arg):@Eq (Option Out) (D.W k a1) (p a1):=by kernel_rfl
theorem ok:Ok prog 41 D.sig:=am func41 ay (by kernel_rfl) (fc fl.ok (ai _))
end im
namespace bP
abbrev Arg:Type:=(List (List UInt8))×(List (List UInt8))×(Nat×Int)×Unit
abbrev Out:Type:=Bool×Unit
abbrev ps:PQ:=[(.ro,(.U (.U u8))),(.ro,(.U (.U u8))),(.fix 83,.fn)]
noncomputable def D:FD:={ fn:=f82,tl:=aE,ps:=ps,rs:=[(.bool,(av .bool))],gl:=[(83,bG.D.sig)],lv:=[(4,[1,2,15,16,17])],lx:=[(0,[])] }
noncomputable def ab (a:Arg):Option Out:=@lift Out fun k=>D.W k a
noncomputable def T0 (a1:Arg) (J:Int):St:={ n:=32,sl:=[(1,.val (.U (.U u8)) a1.2.1),(2,.val .fn ((83,a1.2.2.1.2):Nat×Int)),(15,.val (.U (.U u8)) a1.1),(16,.val i64 (a1.1.length:Int)),(17,.val i64 J)],vr:=[],aw:=[] }
noncomputable def b0 (self:Int->Option Out) (e0:(Unit)->Option Out) (a1:Arg) (J:Int):Option Out:=bif decide (J < (a1.1.length:Int)) then (if 0<=J then ((a1.1[J.toNat]?).bind fun aB=>if 0<=J then ((a1.2.1[J.toNat]?).bind fun cM=>(bG.ab (aB,cM,())).bind fun fY=>bif !fY.1 then (some (false,())) else self (ae (J+(1:Int)))) else none) else none) else e0 ()
noncomputable abbrev B0 (_:Nat):=b0
noncomputable def q0 (a1:Arg) (jl:(Unit)):Option Out:=some (true,())
noncomputable abbrev Q0 (_:Nat):=q0
noncomputable def s0 (k:Nat) (a1:Arg):(Int)->Option Out:=fun J=>D.L k [1,1,0,1,0,0] [1,2,15,16,17] [] (af 0 (ap (D.N k [1,1,1]) D.K0)) (T0 a1 J)
noncomputable def r0 (k:Nat) (a1:Arg):(Int)->Option Out:=al (fun w v=>B0 k w (Q0 k a1) a1 v) k
theorem aq (k:Nat) (a1:Arg):s0 k a1=r0 k a1:=
 funext fun J=>ao _ _ _ (T0 a1) _ (fun rec v=>by kernel_rfl) k J
noncomputable def p (l0:(Int)->Option Out) (a1:Arg):Option Out:=bif !decide ((a1.1.length:Int)=(a1.2.1.length:Int)) then (some (false,())) else l0 (0:Int)
theorem aa (k:Nat) (a1:Arg):@Eq (Option Out) (D.W k a1) (p (r0 k a1) a1):=
 Eq.trans (b:=p (s0 k a1) a1) (by kernel_rfl) (by rw[aq])
theorem ok:Ok prog 82 D.sig:=am func82 ay (by kernel_rfl) (fc bG.ok (ai _))
end bP
namespace jA
abbrev Arg:Type:=(List (List UInt8))×(List (List UInt8))×Unit
abbrev Out:Type:=Bool×Unit
abbrev ps:PQ:=[(.ro,(.U (.U u8))),(.ro,(.U (.U u8)))]
noncomputable def D:FD:={ fn:=f42,tl:=aE,ps:=ps,rs:=[(.bool,(av .bool))],gl:=[(82,bP.D.sig)] }
noncomputable def ab (a:Arg):Option Out:=@lift Out fun k=>D.W k a
noncomputable def p (a1:Arg):Option Out:=(bP.ab (a1.1,a1.2.1,((83,0):Nat×Int),())).bind fun r2=>some (r2.1,())
theorem aa (k:Nat) (a1:Arg):@Eq (Option Out) (D.W k a1) (p a1):=by kernel_rfl
theorem ok:Ok prog 42 D.sig:=am func42 ay (by kernel_rfl) (fc bP.ok (ai _))
end jA
namespace iP
abbrev Arg:Type:=kb×Unit
abbrev Out:Type:=Int×Unit
abbrev ps:PQ:=[(.ro,cd)]
noncomputable def D:FD:={ fn:=f16,tl:=aE,ps:=ps,rs:=[(i64,(av i64))],gl:=[(35,dg.D.sig),(36,bT.D.sig),(37,ca.D.sig),(38,gV.D.sig),(39,h_.D.sig),(40,jg.D.sig),(41,im.D.sig),(42,jA.D.sig)],od:=[(13,[0,2,3,4,5,1,6,7,8])] }
noncomputable def ab (a:Arg):Option Out:=@lift Out fun k=>D.W k a
noncomputable def p (a1:Arg):Option Out:=(dg.ab (a1.1.2.2.1,())).bind fun r2=>bif !decide (r2.1=(0:Int)) then (some (r2.1,())) else bif !a1.1.1 then (bif decide ((0:Int) < (a1.1.2.1.length:Int)) then (some ((1:Int),())) else bif decide ((0:Int) < (a1.1.2.2.2.1.length:Int)) then (some ((1:Int),())) else bif decide ((0:Int) < (a1.1.2.2.1.2.1.length:Int)) then (some ((1:Int),())) else (bT.ab (a1.1.2.2.2.2.1,(1:Int),(100:Int),())).bind fun r3=>bif !r3.1 then (some ((3:Int),())) else some ((0:Int),())) else (ca.ab (a1.1.2.1,())).bind fun r4=>bif !decide (r4.2.1=(0:Int)) then (some (r4.2.1,())) else (h_.ab (r4.1,())).bind fun r5=>(gV.ab ((r5.1,a1.1.2.2.2.1,a1.1.2.2.2.2.1,()),())).bind fun r6=>bif !decide (r6.1=(0:Int)) then (some (r6.1,())) else (im.ab (a1.1.2.2.1,())).bind fun r7=>(jg.ab (r7.1,())).bind fun r8=>bif !decide (r8.2.1=(0:Int)) then (some ((8:Int),())) else (jA.ab (r8.1,a1.1.2.1,())).bind fun r9=>bif !r9.1 then (some ((8:Int),())) else some ((0:Int),())
theorem aa (k:Nat) (a1:Arg):@Eq (Option Out) (D.W k a1) (p a1):=by kernel_rfl
theorem ok:Ok prog 16 D.sig:=am func16 ay (by kernel_rfl) (fc dg.ok (fc bT.ok (fc ca.ok (fc gV.ok (fc h_.ok (fc jg.ok (fc im.ok (fc jA.ok (ai _)))))))))
end iP
namespace gW
abbrev Arg:Type:=(List (List UInt8))×Unit
abbrev Out:Type:=Int×Unit
abbrev ps:PQ:=[(.ro,(.U (.U u8)))]
noncomputable def D:FD:={ fn:=f84,tl:=aE,ps:=ps,rs:=[(i64,(av i64))],gl:=[(37,ca.D.sig)] }
noncomputable def ab (a:Arg):Option Out:=@lift Out fun k=>D.W k a
noncomputable def p (a1:Arg):Option Out:=(ca.ab (a1.1,())).bind fun r2=>some (r2.2.1,())
theorem aa (k:Nat) (a1:Arg):@Eq (Option Out) (D.W k a1) (p a1):=by kernel_rfl
theorem ok:Ok prog 84 D.sig:=am func84 ay (by kernel_rfl) (fc ca.ok (ai _))
end gW
namespace bI
abbrev Arg:Type:=(List Change)×Unit
abbrev Out:Type:=Int×Unit
abbrev ps:PQ:=[(.ro,(.U an))]
noncomputable def D:FD:={ fn:=f86,tl:=aE,ps:=ps,rs:=[(i64,(av i64))],gl:=[(121,cG.D.sig),(132,d_.D.sig),(133,bW.D.sig)],lv:=[(4,[0,9,10,11])],lx:=[(0,[])],od:=[(9,[0,1,2,3,4,5,6,7,9,8,10,11,12,13])] }
noncomputable def ab (a:Arg):Option Out:=@lift Out fun k=>D.W k a
noncomputable def T0 (a1:Arg) (J:Int):St:={ n:=36,sl:=[(0,.val (.U an) a1.1),(9,.val (.U an) a1.1),(10,.val i64 (a1.1.length:Int)),(11,.val i64 J)],vr:=[],aw:=[] }
noncomputable def b0 (self:Int->Option Out) (e0:(Unit)->Option Out) (a1:Arg) (J:Int):Option Out:=bif decide (J < (a1.1.length:Int)) then (if 0<=J then ((a1.1[J.toNat]?).bind fun aB=>(d_.ab (aB,())).bind fun bs=>bif !decide (bs.1=(0:Int)) then (some (bs.1,())) else bif decide ((0:Int) < J) then (if 0<=ae (J - (1:Int)) then ((a1.1[(ae (J - (1:Int))).toNat]?).bind fun cW=>(bW.ab (cW,())).bind fun jk=>(bW.ab (aB,())).bind fun gx=>(cG.ab (jk.1,gx.1,())).bind fun wg=>bif !wg.1 then (some ((1:Int),())) else self (ae (J+(1:Int)))) else none) else self (ae (J+(1:Int)))) else none) else e0 ()
noncomputable abbrev B0 (_:Nat):=b0
noncomputable def q0 (a1:Arg) (s7:(Unit)):Option Out:=some ((0:Int),())
noncomputable abbrev Q0 (_:Nat):=q0
noncomputable def s0 (k:Nat) (a1:Arg):(Int)->Option Out:=fun J=>D.L k [1,1,0,1,0,0] [0,9,10,11] [] (af 0 (ap (D.N k [1,1,1]) D.K0)) (T0 a1 J)
noncomputable def r0 (k:Nat) (a1:Arg):(Int)->Option Out:=al (fun w v=>B0 k w (Q0 k a1) a1 v) k
theorem aq (k:Nat) (a1:Arg):s0 k a1=r0 k a1:=
 funext fun J=>ao _ _ _ (T0 a1) _ (fun rec v=>by kernel_rfl) k J
noncomputable def p (l0:(Int)->Option Out) (a1:Arg):Option Out:=bif decide ((60:Int) < (a1.1.length:Int)) then (some ((2:Int),())) else l0 (0:Int)
theorem aa (k:Nat) (a1:Arg):@Eq (Option Out) (D.W k a1) (p (r0 k a1) a1):=
 Eq.trans (b:=p (s0 k a1) a1) (by kernel_rfl) (by rw[aq])
theorem ok:Ok prog 86 D.sig:=am func86 ay (by kernel_rfl) (fc cG.ok (fc d_.ok (fc bW.ok (ai _))))
end bI
namespace iV
abbrev Arg:Type:=Buffer×Int×Unit
abbrev Out:Type:=Bool×Unit
abbrev ps:PQ:=[(.ro,aC),(.ro,(.ptr i64))]
noncomputable def D:FD:={ fn:=f135,tl:=aE,ps:=ps,rs:=[(.bool,(av .bool))],cap:=true }
noncomputable def ab (a:Arg):Option Out:=@lift Out fun k=>D.W k a
noncomputable def p (a1:Arg):Option Out:=some (decide (a1.1.1=a1.2.1),())
theorem aa (k:Nat) (a1:Arg):@Eq (Option Out) (D.W k a1) (p a1):=by kernel_rfl
theorem ok:Ok prog 135 D.sig:=am func135 ay (by kernel_rfl) (ai _)
end iV
namespace bX
abbrev Arg:Type:=(List Buffer)×(Nat×Int)×Unit
abbrev Out:Type:=Int×Unit
abbrev ps:PQ:=[(.ro,(.U aC)),(.fix 135,.fn)]
noncomputable def D:FD:={ fn:=f134,tl:=aE,ps:=ps,rs:=[(i64,(av i64))],gl:=[(135,iV.D.sig)],lv:=[(2,[0,1,7,8])],lx:=[(0,[])] }
noncomputable def ab (a:Arg):Option Out:=@lift Out fun k=>D.W k a
noncomputable def T0 (a1:Arg) (J:Int):St:={ n:=19,sl:=[(0,.val (.U aC) a1.1),(1,.val .fn ((135,a1.2.1.2):Nat×Int)),(7,.val i64 (a1.1.length:Int)),(8,.val i64 J)],vr:=[],aw:=[] }
noncomputable def b0 (self:Int->Option Out) (e0:(Unit)->Option Out) (a1:Arg) (J:Int):Option Out:=bif decide (J < (a1.1.length:Int)) then (if 0<=J then ((a1.1[J.toNat]?).bind fun aB=>(iV.ab (aB,a1.2.1.2,())).bind fun bs=>bif bs.1 then (some (J,())) else self (ae (J+(1:Int)))) else none) else e0 ()
noncomputable abbrev B0 (_:Nat):=b0
noncomputable def q0 (a1:Arg) (bY:(Unit)):Option Out:=some ((-1:Int),())
noncomputable abbrev Q0 (_:Nat):=q0
noncomputable def s0 (k:Nat) (a1:Arg):(Int)->Option Out:=fun J=>D.L k [1,0,1,0,0] [0,1,7,8] [] (af 0 (ap (D.N k [1,1]) D.K0)) (T0 a1 J)
noncomputable def r0 (k:Nat) (a1:Arg):(Int)->Option Out:=al (fun w v=>B0 k w (Q0 k a1) a1 v) k
theorem aq (k:Nat) (a1:Arg):s0 k a1=r0 k a1:=
 funext fun J=>ao _ _ _ (T0 a1) _ (fun rec v=>by kernel_rfl) k J
noncomputable def p (l0:(Int)->Option Out) (a1:Arg):Option Out:=l0 (0:Int)
theorem aa (k:Nat) (a1:Arg):@Eq (Option Out) (D.W k a1) (p (r0 k a1) a1):=
 Eq.trans (b:=p (s0 k a1) a1) (by kernel_rfl) (by rw[aq])
theorem ok:Ok prog 134 D.sig:=am func134 ay (by kernel_rfl) (fc iV.ok (ai _))
end bX
namespace gX
abbrev Arg:Type:=jm×Int×Unit
abbrev Out:Type:=Int×Unit
abbrev ps:PQ:=[(.ro,br),(.ro,i64)]
noncomputable def D:FD:={ fn:=f87,tl:=aE,ps:=ps,rs:=[(i64,(av i64))],gl:=[(134,bX.D.sig)] }
noncomputable def ab (a:Arg):Option Out:=@lift Out fun k=>D.W k a
noncomputable def p (a1:Arg):Option Out:=(bX.ab (a1.1.2.1,((135,a1.2.1):Nat×Int),())).bind fun r2=>some (r2.1,())
theorem aa (k:Nat) (a1:Arg):@Eq (Option Out) (D.W k a1) (p a1):=by kernel_rfl
theorem ok:Ok prog 87 D.sig:=am func87 ay (by kernel_rfl) (fc bX.ok (ai _))
end gX
namespace c8
abbrev Arg:Type:=jm×Unit
abbrev Out:Type:=Int×Unit
abbrev ps:PQ:=[(.ro,br)]
noncomputable def D:FD:={ fn:=f43,tl:=aE,ps:=ps,rs:=[(i64,(av i64))],gl:=[(84,gW.D.sig),(85,fC.D.sig),(86,bI.D.sig),(87,gX.D.sig)],lv:=[(7,[1,18,19,20])],lx:=[(0,[])] }
noncomputable def ab (a:Arg):Option Out:=@lift Out fun k=>D.W k a
noncomputable def T0 (a1:Arg) (aN:Int):St:={ n:=42,sl:=[(1,.box br (av br) [] a1.1),(18,.val (.U aC) a1.1.2.1),(19,.val i64 (a1.1.2.1.length:Int)),(20,.val i64 aN)],vr:=[],aw:=[] }
noncomputable def b0 (self:Int->Option Out) (e0:(Unit)->Option Out) (a1:Arg) (aN:Int):Option Out:=bif decide (aN < (a1.1.2.1.length:Int)) then (if 0<=aN then ((a1.1.2.1[aN.toNat]?).bind fun cM=>(fC.ab (cM.1,())).bind fun fY=>bif !fY.1 then (some ((3:Int),())) else (bI.ab (cM.2.1,())).bind fun jk=>bif !decide (jk.1=(0:Int)) then (some (jk.1,())) else (gX.ab (a1.1,cM.1,())).bind fun gx=>bif decide (gx.1 < aN) then (some ((6:Int),())) else self (ae (aN+(1:Int)))) else none) else e0 ()
noncomputable abbrev B0 (_:Nat):=b0
noncomputable def q0 (a1:Arg) (mZ:(Unit)):Option Out:=some ((0:Int),())
noncomputable abbrev Q0 (_:Nat):=q0
noncomputable def s0 (k:Nat) (a1:Arg):(Int)->Option Out:=fun aN=>D.L k [1,1,1,0,1,0,0] [1,18,19,20] [] (af 0 (ap (D.N k [1,1,1,1]) D.K0)) (T0 a1 aN)
noncomputable def r0 (k:Nat) (a1:Arg):(Int)->Option Out:=al (fun w v=>B0 k w (Q0 k a1) a1 v) k
theorem aq (k:Nat) (a1:Arg):s0 k a1=r0 k a1:=
 funext fun aN=>ao _ _ _ (T0 a1) _ (fun rec v=>by kernel_rfl) k aN
noncomputable def p (l0:(Int)->Option Out) (a1:Arg):Option Out:=(gW.ab (a1.1.1,())).bind fun r2=>bif !decide (r2.1=(0:Int)) then (some (r2.1,())) else bif decide ((8:Int) < (a1.1.2.1.length:Int)) then (some ((2:Int),())) else l0 (0:Int)
theorem aa (k:Nat) (a1:Arg):@Eq (Option Out) (D.W k a1) (p (r0 k a1) a1):=
 Eq.trans (b:=p (s0 k a1) a1) (by kernel_rfl) (by rw[aq])
theorem ok:Ok prog 43 D.sig:=am func43 ay (by kernel_rfl) (fc gW.ok (fc fC.ok (fc bI.ok (fc gX.ok (ai _)))))
end c8
namespace eZ
abbrev Arg:Type:=gT×Unit
abbrev Out:Type:=Int×Unit
abbrev ps:PQ:=[(.ro,ba)]
noncomputable def D:FD:={ fn:=f17,tl:=aE,ps:=ps,rs:=[(i64,(av i64))],gl:=[(36,bT.D.sig),(43,c8.D.sig)] }
noncomputable def ab (a:Arg):Option Out:=@lift Out fun k=>D.W k a
noncomputable def p (a1:Arg):Option Out:=(c8.ab (a1.1.1,())).bind fun r2=>bif !decide (r2.1=(0:Int)) then (some (r2.1,())) else (c8.ab (a1.1.2.2.1,())).bind fun r3=>bif !decide (r3.1=(0:Int)) then (some (r3.1,())) else (bT.ab (a1.1.2.1,(0:Int),(16000:Int),())).bind fun r4=>bif !r4.1 then (some ((3:Int),())) else (bT.ab (a1.1.2.2.2.1,(0:Int),a1.1.2.1,())).bind fun r5=>bif !r5.1 then (some ((3:Int),())) else some ((0:Int),())
theorem aa (k:Nat) (a1:Arg):@Eq (Option Out) (D.W k a1) (p a1):=by kernel_rfl
theorem ok:Ok prog 17 D.sig:=am func17 ay (by kernel_rfl) (fc bT.ok (fc c8.ok (ai _)))
end eZ
namespace iy
abbrev Arg:Type:=gg×Unit
abbrev Out:Type:=Int×Unit
abbrev ps:PQ:=[(.ro,bK)]
noncomputable def D:FD:={ fn:=f44,tl:=aE,ps:=ps,rs:=[(i64,(av i64))],gl:=[(36,bT.D.sig),(85,fC.D.sig),(86,bI.D.sig)] }
noncomputable def ab (a:Arg):Option Out:=@lift Out fun k=>D.W k a
noncomputable def p (a1:Arg):Option Out:=(bT.ab (a1.1.1,(0:Int),(16000:Int),())).bind fun r2=>bif !r2.1 then (some ((3:Int),())) else (fC.ab (a1.1.2.1,())).bind fun r3=>bif !r3.1 then (some ((3:Int),())) else (bI.ab (a1.1.2.2.1,())).bind fun r4=>some (r4.1,())
theorem aa (k:Nat) (a1:Arg):@Eq (Option Out) (D.W k a1) (p a1):=by kernel_rfl
theorem ok:Ok prog 44 D.sig:=am func44 ay (by kernel_rfl) (fc bT.ok (fc fC.ok (fc bI.ok (ai _))))
end iy
namespace cA
abbrev Arg:Type:=(List gg)×Unit
abbrev Out:Type:=Int×Unit
abbrev ps:PQ:=[(.ro,(.U bK))]
noncomputable def D:FD:={ fn:=f18,tl:=aE,ps:=ps,rs:=[(i64,(av i64))],gl:=[(44,iy.D.sig)],lv:=[(4,[9,10,11])],lx:=[(0,[])] }
noncomputable def ab (a:Arg):Option Out:=@lift Out fun k=>D.W k a
noncomputable def T0 (a1:Arg) (J:Int):St:={ n:=21,sl:=[(9,.val (.U bK) a1.1),(10,.val i64 (a1.1.length:Int)),(11,.val i64 J)],vr:=[],aw:=[] }
noncomputable def b0 (self:Int->Option Out) (e0:(Unit)->Option Out) (a1:Arg) (J:Int):Option Out:=bif decide (J < (a1.1.length:Int)) then (if 0<=J then ((a1.1[J.toNat]?).bind fun aB=>(iy.ab (aB,())).bind fun bs=>bif !decide (bs.1=(0:Int)) then (some (bs.1,())) else self (ae (J+(1:Int)))) else none) else e0 ()
noncomputable abbrev B0 (_:Nat):=b0
noncomputable def q0 (a1:Arg) (bY:(Unit)):Option Out:=some ((0:Int),())
noncomputable abbrev Q0 (_:Nat):=q0
noncomputable def s0 (k:Nat) (a1:Arg):(Int)->Option Out:=fun J=>D.L k [1,1,0,1,0,0] [9,10,11] [] (af 0 (ap (D.N k [1,1,1]) D.K0)) (T0 a1 J)
noncomputable def r0 (k:Nat) (a1:Arg):(Int)->Option Out:=al (fun w v=>B0 k w (Q0 k a1) a1 v) k
theorem aq (k:Nat) (a1:Arg):s0 k a1=r0 k a1:=
 funext fun J=>ao _ _ _ (T0 a1) _ (fun rec v=>by kernel_rfl) k J
noncomputable def p (l0:(Int)->Option Out) (a1:Arg):Option Out:=bif decide ((200:Int) < (a1.1.length:Int)) then (some ((2:Int),())) else l0 (0:Int)
theorem aa (k:Nat) (a1:Arg):@Eq (Option Out) (D.W k a1) (p (r0 k a1) a1):=
 Eq.trans (b:=p (s0 k a1) a1) (by kernel_rfl) (by rw[aq])
theorem ok:Ok prog 18 D.sig:=am func18 ay (by kernel_rfl) (fc iy.ok (ai _))
end cA
namespace iQ
abbrev Arg:Type:=World×Unit
abbrev Out:Type:=Int×Unit
abbrev ps:PQ:=[(.ro,dR)]
noncomputable def D:FD:={ fn:=f7,tl:=aE,ps:=ps,rs:=[(i64,(av i64))],gl:=[(16,iP.D.sig),(17,eZ.D.sig),(18,cA.D.sig)] }
noncomputable def ab (a:Arg):Option Out:=@lift Out fun k=>D.W k a
noncomputable def p (a1:Arg):Option Out:=(iP.ab (a1.1.1,())).bind fun r2=>bif !decide (r2.1=(0:Int)) then (some (r2.1,())) else (eZ.ab (a1.1.2.1,())).bind fun r3=>bif !decide (r3.1=(0:Int)) then (some (r3.1,())) else (cA.ab (a1.1.2.2.1,())).bind fun r4=>some (r4.1,())
theorem aa (k:Nat) (a1:Arg):@Eq (Option Out) (D.W k a1) (p a1):=by kernel_rfl
theorem ok:Ok prog 7 D.sig:=am func7 ay (by kernel_rfl) (fc iP.ok (fc eZ.ok (fc cA.ok (ai _))))
end iQ
namespace cU
abbrev Arg:Type:=(List UInt8)×(List UInt8)×Unit
abbrev Out:Type:=Bool×Unit
abbrev ps:PQ:=[(.ro,(.U u8)),(.ro,(.U u8))]
noncomputable def D:FD:={ fn:=f88,tl:=aE,ps:=ps,rs:=[(.bool,(av .bool))],lv:=[(4,[0,1,5])],lx:=[(0,[])],od:=[(6,[0,1,2,3,4,5,6,7,8])] }
noncomputable def ab (a:Arg):Option Out:=@lift Out fun k=>D.W k a
noncomputable def T0 (a1:Arg) (J:Int):St:={ n:=26,sl:=[(0,.val (.U u8) a1.1),(1,.val (.U u8) a1.2.1),(5,.val i64 J)],vr:=[],aw:=[] }
noncomputable def b0 (self:Int->Option Out) (e0:(Unit)->Option Out) (a1:Arg) (J:Int):Option Out:=bif decide (J < (a1.1.length:Int)) then (if 0<=J then ((a1.1[J.toNat]?).bind fun aB=>if 0<=J then ((a1.2.1[J.toNat]?).bind fun cM=>bif !decide ((aB.toNat:Int)=(cM.toNat:Int)) then (some (false,())) else self (ae (J+(1:Int)))) else none) else none) else e0 ()
noncomputable abbrev B0 (_:Nat):=b0
noncomputable def q0 (a1:Arg) (bY:(Unit)):Option Out:=some (true,())
noncomputable abbrev Q0 (_:Nat):=q0
noncomputable def s0 (k:Nat) (a1:Arg):(Int)->Option Out:=fun J=>D.L k [1,1,0,1,0,0] [0,1,5] [] (af 0 (ap (D.N k [1,1,1]) D.K0)) (T0 a1 J)
noncomputable def r0 (k:Nat) (a1:Arg):(Int)->Option Out:=al (fun w v=>B0 k w (Q0 k a1) a1 v) k
theorem aq (k:Nat) (a1:Arg):s0 k a1=r0 k a1:=
 funext fun J=>ao _ _ _ (T0 a1) _ (fun rec v=>by kernel_rfl) k J
noncomputable def p (l0:(Int)->Option Out) (a1:Arg):Option Out:=bif !decide ((a1.1.length:Int)=(a1.2.1.length:Int)) then (some (false,())) else l0 (0:Int)
theorem aa (k:Nat) (a1:Arg):@Eq (Option Out) (D.W k a1) (p (r0 k a1) a1):=
 Eq.trans (b:=p (s0 k a1) a1) (by kernel_rfl) (by rw[aq])
theorem ok:Ok prog 88 D.sig:=am func88 ay (by kernel_rfl) (ai _)
end cU
namespace cH
abbrev Arg:Type:=(List (List UInt8))×(List (List UInt8))×Unit
abbrev Out:Type:=Bool×Unit
abbrev ps:PQ:=[(.ro,(.U (.U u8))),(.ro,(.U (.U u8)))]
noncomputable def D:FD:={ fn:=f45,tl:=aE,ps:=ps,rs:=[(.bool,(av .bool))],gl:=[(88,cU.D.sig)],lv:=[(4,[0,1,5])],lx:=[(0,[])],od:=[(6,[0,1,2,3,4,5,6,7,8,9])] }
noncomputable def ab (a:Arg):Option Out:=@lift Out fun k=>D.W k a
noncomputable def T0 (a1:Arg) (J:Int):St:={ n:=27,sl:=[(0,.val (.U (.U u8)) a1.1),(1,.val (.U (.U u8)) a1.2.1),(5,.val i64 J)],vr:=[],aw:=[] }
noncomputable def b0 (self:Int->Option Out) (e0:(Unit)->Option Out) (a1:Arg) (J:Int):Option Out:=bif decide (J < (a1.1.length:Int)) then (if 0<=J then ((a1.1[J.toNat]?).bind fun aB=>if 0<=J then ((a1.2.1[J.toNat]?).bind fun cM=>(cU.ab (aB,cM,())).bind fun fY=>bif !fY.1 then (some (false,())) else self (ae (J+(1:Int)))) else none) else none) else e0 ()
noncomputable abbrev B0 (_:Nat):=b0
noncomputable def q0 (a1:Arg) (jl:(Unit)):Option Out:=some (true,())
noncomputable abbrev Q0 (_:Nat):=q0
noncomputable def s0 (k:Nat) (a1:Arg):(Int)->Option Out:=fun J=>D.L k [1,1,0,1,0,0] [0,1,5] [] (af 0 (ap (D.N k [1,1,1]) D.K0)) (T0 a1 J)
noncomputable def r0 (k:Nat) (a1:Arg):(Int)->Option Out:=al (fun w v=>B0 k w (Q0 k a1) a1 v) k
theorem aq (k:Nat) (a1:Arg):s0 k a1=r0 k a1:=
 funext fun J=>ao _ _ _ (T0 a1) _ (fun rec v=>by kernel_rfl) k J
noncomputable def p (l0:(Int)->Option Out) (a1:Arg):Option Out:=bif !decide ((a1.1.length:Int)=(a1.2.1.length:Int)) then (some (false,())) else l0 (0:Int)
theorem aa (k:Nat) (a1:Arg):@Eq (Option Out) (D.W k a1) (p (r0 k a1) a1):=
 Eq.trans (b:=p (s0 k a1) a1) (by kernel_rfl) (by rw[aq])
theorem ok:Ok prog 45 D.sig:=am func45 ay (by kernel_rfl) (fc cU.ok (ai _))
end cH
namespace lE
abbrev Arg:Type:=Log×Log×Unit
abbrev Out:Type:=Bool×Unit
abbrev ps:PQ:=[(.ro,fe),(.ro,fe)]
noncomputable def D:FD:={ fn:=f46,tl:=aE,ps:=ps,rs:=[(.bool,(av .bool))],gl:=[(88,cU.D.sig)] }
noncomputable def ab (a:Arg):Option Out:=@lift Out fun k=>D.W k a
noncomputable def p (a1:Arg):Option Out:=(cU.ab (a1.1.1,a1.2.1.1,())).bind fun r2=>bif !r2.1 then (some (false,())) else (cU.ab (a1.1.2.1,a1.2.1.2.1,())).bind fun r3=>bif !r3.1 then (some (false,())) else some (true,())
theorem aa (k:Nat) (a1:Arg):@Eq (Option Out) (D.W k a1) (p a1):=by kernel_rfl
theorem ok:Ok prog 46 D.sig:=am func46 ay (by kernel_rfl) (fc cU.ok (ai _))
end lE
namespace kD
abbrev Arg:Type:=Row×Row×Unit
abbrev Out:Type:=Bool×Unit
abbrev ps:PQ:=[(.ro,aF),(.ro,aF)]
noncomputable def D:FD:={ fn:=f176,tl:=aE,ps:=ps,rs:=[(.bool,(av .bool))] }
noncomputable def ab (a:Arg):Option Out:=@lift Out fun k=>D.W k a
noncomputable def p (a1:Arg):Option Out:=bif !decide (a1.1.1=a1.2.1.1) then (some (false,())) else bif !decide (a1.1.2.1=a1.2.1.2.1) then (some (false,())) else bif !decide (a1.1.2.2.1=a1.2.1.2.2.1) then (some (false,())) else bif !decide (a1.1.2.2.2.1=a1.2.1.2.2.2.1) then (some (false,())) else some (true,())
theorem aa (k:Nat) (a1:Arg):@Eq (Option Out) (D.W k a1) (p a1):=by kernel_rfl
theorem ok:Ok prog 176 D.sig:=am func176 ay (by kernel_rfl) (ai _)
end kD
namespace jh
abbrev Arg:Type:=Change×Change×Unit
abbrev Out:Type:=Bool×Unit
abbrev ps:PQ:=[(.ro,an),(.ro,an)]
noncomputable def D:FD:={ fn:=f139,tl:=aE,ps:=ps,rs:=[(.bool,(av .bool))],gl:=[(176,kD.D.sig)] }
noncomputable def ab (a:Arg):Option Out:=@lift Out fun k=>D.W k a
noncomputable def p (a1:Arg):Option Out:=bif !(a1.1.1 == a1.2.1.1) then (some (false,())) else (kD.ab (a1.1.2.1,a1.2.1.2.1,())).bind fun r2=>bif !r2.1 then (some (false,())) else bif !(a1.1.2.2.1 == a1.2.1.2.2.1) then (some (false,())) else (kD.ab (a1.1.2.2.2.1,a1.2.1.2.2.2.1,())).bind fun r3=>bif !r3.1 then (some (false,())) else some (true,())
theorem aa (k:Nat) (a1:Arg):@Eq (Option Out) (D.W k a1) (p a1):=by kernel_rfl
theorem ok:Ok prog 139 D.sig:=am func139 ay (by kernel_rfl) (fc kD.ok (ai _))
end jh
namespace bQ
abbrev Arg:Type:=(List Change)×(List Change)×Unit
abbrev Out:Type:=Bool×Unit
abbrev ps:PQ:=[(.ro,(.U an)),(.ro,(.U an))]
noncomputable def D:FD:={ fn:=f91,tl:=aE,ps:=ps,rs:=[(.bool,(av .bool))],gl:=[(139,jh.D.sig)],lv:=[(4,[0,1,5])],lx:=[(0,[])],od:=[(6,[0,1,2,3,4,5,6,7,8,9])] }
noncomputable def ab (a:Arg):Option Out:=@lift Out fun k=>D.W k a
noncomputable def T0 (a1:Arg) (J:Int):St:={ n:=27,sl:=[(0,.val (.U an) a1.1),(1,.val (.U an) a1.2.1),(5,.val i64 J)],vr:=[],aw:=[] }
noncomputable def b0 (self:Int->Option Out) (e0:(Unit)->Option Out) (a1:Arg) (J:Int):Option Out:=bif decide (J < (a1.1.length:Int)) then (if 0<=J then ((a1.1[J.toNat]?).bind fun aB=>if 0<=J then ((a1.2.1[J.toNat]?).bind fun cM=>(jh.ab (aB,cM,())).bind fun fY=>bif !fY.1 then (some (false,())) else self (ae (J+(1:Int)))) else none) else none) else e0 ()
noncomputable abbrev B0 (_:Nat):=b0
noncomputable def q0 (a1:Arg) (jl:(Unit)):Option Out:=some (true,())
noncomputable abbrev Q0 (_:Nat):=q0
noncomputable def s0 (k:Nat) (a1:Arg):(Int)->Option Out:=fun J=>D.L k [1,1,0,1,0,0] [0,1,5] [] (af 0 (ap (D.N k [1,1,1]) D.K0)) (T0 a1 J)
noncomputable def r0 (k:Nat) (a1:Arg):(Int)->Option Out:=al (fun w v=>B0 k w (Q0 k a1) a1 v) k
theorem aq (k:Nat) (a1:Arg):s0 k a1=r0 k a1:=
 funext fun J=>ao _ _ _ (T0 a1) _ (fun rec v=>by kernel_rfl) k J
noncomputable def p (l0:(Int)->Option Out) (a1:Arg):Option Out:=bif !decide ((a1.1.length:Int)=(a1.2.1.length:Int)) then (some (false,())) else l0 (0:Int)
theorem aa (k:Nat) (a1:Arg):@Eq (Option Out) (D.W k a1) (p (r0 k a1) a1):=
 Eq.trans (b:=p (s0 k a1) a1) (by kernel_rfl) (by rw[aq])
theorem ok:Ok prog 91 D.sig:=am func91 ay (by kernel_rfl) (fc jh.ok (ai _))
end bQ
namespace dJ
abbrev Arg:Type:=(List Int)×(List Int)×Unit
abbrev Out:Type:=Bool×Unit
abbrev ps:PQ:=[(.ro,(.U i64)),(.ro,(.U i64))]
noncomputable def D:FD:={ fn:=f136,tl:=aE,ps:=ps,rs:=[(.bool,(av .bool))],lv:=[(4,[0,1,5])],lx:=[(0,[])],od:=[(6,[0,1,2,3,4,5,6,7,8])] }
noncomputable def ab (a:Arg):Option Out:=@lift Out fun k=>D.W k a
noncomputable def T0 (a1:Arg) (J:Int):St:={ n:=26,sl:=[(0,.val (.U i64) a1.1),(1,.val (.U i64) a1.2.1),(5,.val i64 J)],vr:=[],aw:=[] }
noncomputable def b0 (self:Int->Option Out) (e0:(Unit)->Option Out) (a1:Arg) (J:Int):Option Out:=bif decide (J < (a1.1.length:Int)) then (if 0<=J then ((a1.1[J.toNat]?).bind fun aB=>if 0<=J then ((a1.2.1[J.toNat]?).bind fun cM=>bif !decide (aB=cM) then (some (false,())) else self (ae (J+(1:Int)))) else none) else none) else e0 ()
noncomputable abbrev B0 (_:Nat):=b0
noncomputable def q0 (a1:Arg) (bY:(Unit)):Option Out:=some (true,())
noncomputable abbrev Q0 (_:Nat):=q0
noncomputable def s0 (k:Nat) (a1:Arg):(Int)->Option Out:=fun J=>D.L k [1,1,0,1,0,0] [0,1,5] [] (af 0 (ap (D.N k [1,1,1]) D.K0)) (T0 a1 J)
noncomputable def r0 (k:Nat) (a1:Arg):(Int)->Option Out:=al (fun w v=>B0 k w (Q0 k a1) a1 v) k
theorem aq (k:Nat) (a1:Arg):s0 k a1=r0 k a1:=
 funext fun J=>ao _ _ _ (T0 a1) _ (fun rec v=>by kernel_rfl) k J
noncomputable def p (l0:(Int)->Option Out) (a1:Arg):Option Out:=bif !decide ((a1.1.length:Int)=(a1.2.1.length:Int)) then (some (false,())) else l0 (0:Int)
theorem aa (k:Nat) (a1:Arg):@Eq (Option Out) (D.W k a1) (p (r0 k a1) a1):=
 Eq.trans (b:=p (s0 k a1) a1) (by kernel_rfl) (by rw[aq])
theorem ok:Ok prog 136 D.sig:=am func136 ay (by kernel_rfl) (ai _)
end dJ
namespace lF
abbrev Arg:Type:=Key×Key×Unit
abbrev Out:Type:=Bool×Unit
abbrev ps:PQ:=[(.ro,aL),(.ro,aL)]
noncomputable def D:FD:={ fn:=f175,tl:=aE,ps:=ps,rs:=[(.bool,(av .bool))] }
noncomputable def ab (a:Arg):Option Out:=@lift Out fun k=>D.W k a
noncomputable def p (a1:Arg):Option Out:=bif !decide (a1.1.1=a1.2.1.1) then (some (false,())) else bif !decide (a1.1.2.1=a1.2.1.2.1) then (some (false,())) else some (true,())
theorem aa (k:Nat) (a1:Arg):@Eq (Option Out) (D.W k a1) (p a1):=by kernel_rfl
theorem ok:Ok prog 175 D.sig:=am func175 ay (by kernel_rfl) (ai _)
end lF
namespace eS
abbrev Arg:Type:=(List Key)×(List Key)×Unit
abbrev Out:Type:=Bool×Unit
abbrev ps:PQ:=[(.ro,(.U aL)),(.ro,(.U aL))]
noncomputable def D:FD:={ fn:=f137,tl:=aE,ps:=ps,rs:=[(.bool,(av .bool))],gl:=[(175,lF.D.sig)],lv:=[(4,[0,1,5])],lx:=[(0,[])],od:=[(6,[0,1,2,3,4,5,6,7,8,9])] }
noncomputable def ab (a:Arg):Option Out:=@lift Out fun k=>D.W k a
noncomputable def T0 (a1:Arg) (J:Int):St:={ n:=27,sl:=[(0,.val (.U aL) a1.1),(1,.val (.U aL) a1.2.1),(5,.val i64 J)],vr:=[],aw:=[] }
noncomputable def b0 (self:Int->Option Out) (e0:(Unit)->Option Out) (a1:Arg) (J:Int):Option Out:=bif decide (J < (a1.1.length:Int)) then (if 0<=J then ((a1.1[J.toNat]?).bind fun aB=>if 0<=J then ((a1.2.1[J.toNat]?).bind fun cM=>(lF.ab (aB,cM,())).bind fun fY=>bif !fY.1 then (some (false,())) else self (ae (J+(1:Int)))) else none) else none) else e0 ()
noncomputable abbrev B0 (_:Nat):=b0
noncomputable def q0 (a1:Arg) (jl:(Unit)):Option Out:=some (true,())
noncomputable abbrev Q0 (_:Nat):=q0
noncomputable def s0 (k:Nat) (a1:Arg):(Int)->Option Out:=fun J=>D.L k [1,1,0,1,0,0] [0,1,5] [] (af 0 (ap (D.N k [1,1,1]) D.K0)) (T0 a1 J)
noncomputable def r0 (k:Nat) (a1:Arg):(Int)->Option Out:=al (fun w v=>B0 k w (Q0 k a1) a1 v) k
theorem aq (k:Nat) (a1:Arg):s0 k a1=r0 k a1:=
 funext fun J=>ao _ _ _ (T0 a1) _ (fun rec v=>by kernel_rfl) k J
noncomputable def p (l0:(Int)->Option Out) (a1:Arg):Option Out:=bif !decide ((a1.1.length:Int)=(a1.2.1.length:Int)) then (some (false,())) else l0 (0:Int)
theorem aa (k:Nat) (a1:Arg):@Eq (Option Out) (D.W k a1) (p (r0 k a1) a1):=
 Eq.trans (b:=p (s0 k a1) a1) (by kernel_rfl) (by rw[aq])
theorem ok:Ok prog 137 D.sig:=am func137 ay (by kernel_rfl) (fc lF.ok (ai _))
end eS
namespace mo
abbrev Arg:Type:=Tx×Tx×Unit
abbrev Out:Type:=Bool×Unit
abbrev ps:PQ:=[(.ro,bd),(.ro,bd)]
noncomputable def D:FD:={ fn:=f89,tl:=aE,ps:=ps,rs:=[(.bool,(av .bool))],gl:=[(91,bQ.D.sig),(136,dJ.D.sig),(137,eS.D.sig)] }
noncomputable def ab (a:Arg):Option Out:=@lift Out fun k=>D.W k a
noncomputable def p (a1:Arg):Option Out:=bif !decide (a1.1.1=a1.2.1.1) then (some (false,())) else (bQ.ab (a1.1.2.1,a1.2.1.2.1,())).bind fun r2=>bif !r2.1 then (some (false,())) else (dJ.ab (a1.1.2.2.1,a1.2.1.2.2.1,())).bind fun r3=>bif !r3.1 then (some (false,())) else (eS.ab (a1.1.2.2.2.1,a1.2.1.2.2.2.1,())).bind fun r4=>bif !r4.1 then (some (false,())) else some (true,())
theorem aa (k:Nat) (a1:Arg):@Eq (Option Out) (D.W k a1) (p a1):=by kernel_rfl
theorem ok:Ok prog 89 D.sig:=am func89 ay (by kernel_rfl) (fc bQ.ok (fc dJ.ok (fc eS.ok (ai _))))
end mo
namespace fI
abbrev Arg:Type:=(List Tx)×(List Tx)×Unit
abbrev Out:Type:=Bool×Unit
abbrev ps:PQ:=[(.ro,(.U bd)),(.ro,(.U bd))]
noncomputable def D:FD:={ fn:=f47,tl:=aE,ps:=ps,rs:=[(.bool,(av .bool))],gl:=[(89,mo.D.sig)],lv:=[(4,[0,1,5])],lx:=[(0,[])],od:=[(6,[0,1,2,3,4,5,6,7,8,9])] }
noncomputable def ab (a:Arg):Option Out:=@lift Out fun k=>D.W k a
noncomputable def T0 (a1:Arg) (J:Int):St:={ n:=27,sl:=[(0,.val (.U bd) a1.1),(1,.val (.U bd) a1.2.1),(5,.val i64 J)],vr:=[],aw:=[] }
noncomputable def b0 (self:Int->Option Out) (e0:(Unit)->Option Out) (a1:Arg) (J:Int):Option Out:=bif decide (J < (a1.1.length:Int)) then (if 0<=J then ((a1.1[J.toNat]?).bind fun aB=>if 0<=J then ((a1.2.1[J.toNat]?).bind fun cM=>(mo.ab (aB,cM,())).bind fun fY=>bif !fY.1 then (some (false,())) else self (ae (J+(1:Int)))) else none) else none) else e0 ()
noncomputable abbrev B0 (_:Nat):=b0
noncomputable def q0 (a1:Arg) (jl:(Unit)):Option Out:=some (true,())
noncomputable abbrev Q0 (_:Nat):=q0
noncomputable def s0 (k:Nat) (a1:Arg):(Int)->Option Out:=fun J=>D.L k [1,1,0,1,0,0] [0,1,5] [] (af 0 (ap (D.N k [1,1,1]) D.K0)) (T0 a1 J)
noncomputable def r0 (k:Nat) (a1:Arg):(Int)->Option Out:=al (fun w v=>B0 k w (Q0 k a1) a1 v) k
theorem aq (k:Nat) (a1:Arg):s0 k a1=r0 k a1:=
 funext fun J=>ao _ _ _ (T0 a1) _ (fun rec v=>by kernel_rfl) k J
noncomputable def p (l0:(Int)->Option Out) (a1:Arg):Option Out:=bif !decide ((a1.1.length:Int)=(a1.2.1.length:Int)) then (some (false,())) else l0 (0:Int)
theorem aa (k:Nat) (a1:Arg):@Eq (Option Out) (D.W k a1) (p (r0 k a1) a1):=
 Eq.trans (b:=p (s0 k a1) a1) (by kernel_rfl) (by rw[aq])
theorem ok:Ok prog 47 D.sig:=am func47 ay (by kernel_rfl) (fc mo.ok (ai _))
end fI
namespace jV
abbrev Arg:Type:=kb×kb×Unit
abbrev Out:Type:=Bool×Unit
abbrev ps:PQ:=[(.ro,cd),(.ro,cd)]
noncomputable def D:FD:={ fn:=f19,tl:=aE,ps:=ps,rs:=[(.bool,(av .bool))],gl:=[(45,cH.D.sig),(46,lE.D.sig),(47,fI.D.sig)] }
noncomputable def ab (a:Arg):Option Out:=@lift Out fun k=>D.W k a
noncomputable def p (a1:Arg):Option Out:=bif !(a1.1.1 == a1.2.1.1) then (some (false,())) else (cH.ab (a1.1.2.1,a1.2.1.2.1,())).bind fun r2=>bif !r2.1 then (some (false,())) else (lE.ab (a1.1.2.2.1,a1.2.1.2.2.1,())).bind fun r3=>bif !r3.1 then (some (false,())) else (fI.ab (a1.1.2.2.2.1,a1.2.1.2.2.2.1,())).bind fun r4=>bif !r4.1 then (some (false,())) else bif !decide (a1.1.2.2.2.2.1=a1.2.1.2.2.2.2.1) then (some (false,())) else some (true,())
theorem aa (k:Nat) (a1:Arg):@Eq (Option Out) (D.W k a1) (p a1):=by kernel_rfl
theorem ok:Ok prog 19 D.sig:=am func19 ay (by kernel_rfl) (fc cH.ok (fc lE.ok (fc fI.ok (ai _))))
end jV
namespace ji
abbrev Arg:Type:=Buffer×Buffer×Unit
abbrev Out:Type:=Bool×Unit
abbrev ps:PQ:=[(.ro,aC),(.ro,aC)]
noncomputable def D:FD:={ fn:=f138,tl:=aE,ps:=ps,rs:=[(.bool,(av .bool))],gl:=[(91,bQ.D.sig)] }
noncomputable def ab (a:Arg):Option Out:=@lift Out fun k=>D.W k a
noncomputable def p (a1:Arg):Option Out:=bif !decide (a1.1.1=a1.2.1.1) then (some (false,())) else (bQ.ab (a1.1.2.1,a1.2.1.2.1,())).bind fun r2=>bif !r2.1 then (some (false,())) else some (true,())
theorem aa (k:Nat) (a1:Arg):@Eq (Option Out) (D.W k a1) (p a1):=by kernel_rfl
theorem ok:Ok prog 138 D.sig:=am func138 ay (by kernel_rfl) (fc bQ.ok (ai _))
end ji
namespace de
abbrev Arg:Type:=(List Buffer)×(List Buffer)×Unit
abbrev Out:Type:=Bool×Unit
abbrev ps:PQ:=[(.ro,(.U aC)),(.ro,(.U aC))]
noncomputable def D:FD:={ fn:=f90,tl:=aE,ps:=ps,rs:=[(.bool,(av .bool))],gl:=[(138,ji.D.sig)],lv:=[(4,[0,1,5])],lx:=[(0,[])],od:=[(6,[0,1,2,3,4,5,6,7,8,9])] }
noncomputable def ab (a:Arg):Option Out:=@lift Out fun k=>D.W k a
noncomputable def T0 (a1:Arg) (J:Int):St:={ n:=27,sl:=[(0,.val (.U aC) a1.1),(1,.val (.U aC) a1.2.1),(5,.val i64 J)],vr:=[],aw:=[] }
noncomputable def b0 (self:Int->Option Out) (e0:(Unit)->Option Out) (a1:Arg) (J:Int):Option Out:=bif decide (J < (a1.1.length:Int)) then (if 0<=J then ((a1.1[J.toNat]?).bind fun aB=>if 0<=J then ((a1.2.1[J.toNat]?).bind fun cM=>(ji.ab (aB,cM,())).bind fun fY=>bif !fY.1 then (some (false,())) else self (ae (J+(1:Int)))) else none) else none) else e0 ()
noncomputable abbrev B0 (_:Nat):=b0
noncomputable def q0 (a1:Arg) (jl:(Unit)):Option Out:=some (true,())
noncomputable abbrev Q0 (_:Nat):=q0
noncomputable def s0 (k:Nat) (a1:Arg):(Int)->Option Out:=fun J=>D.L k [1,1,0,1,0,0] [0,1,5] [] (af 0 (ap (D.N k [1,1,1]) D.K0)) (T0 a1 J)
noncomputable def r0 (k:Nat) (a1:Arg):(Int)->Option Out:=al (fun w v=>B0 k w (Q0 k a1) a1 v) k
theorem aq (k:Nat) (a1:Arg):s0 k a1=r0 k a1:=
 funext fun J=>ao _ _ _ (T0 a1) _ (fun rec v=>by kernel_rfl) k J
noncomputable def p (l0:(Int)->Option Out) (a1:Arg):Option Out:=bif !decide ((a1.1.length:Int)=(a1.2.1.length:Int)) then (some (false,())) else l0 (0:Int)
theorem aa (k:Nat) (a1:Arg):@Eq (Option Out) (D.W k a1) (p (r0 k a1) a1):=
 Eq.trans (b:=p (s0 k a1) a1) (by kernel_rfl) (by rw[aq])
theorem ok:Ok prog 90 D.sig:=am func90 ay (by kernel_rfl) (fc ji.ok (ai _))
end de
namespace iR
abbrev Arg:Type:=jm×jm×Unit
abbrev Out:Type:=Bool×Unit
abbrev ps:PQ:=[(.ro,br),(.ro,br)]
noncomputable def D:FD:={ fn:=f48,tl:=aE,ps:=ps,rs:=[(.bool,(av .bool))],gl:=[(45,cH.D.sig),(90,de.D.sig)] }
noncomputable def ab (a:Arg):Option Out:=@lift Out fun k=>D.W k a
noncomputable def p (a1:Arg):Option Out:=(cH.ab (a1.1.1,a1.2.1.1,())).bind fun r2=>bif !r2.1 then (some (false,())) else (de.ab (a1.1.2.1,a1.2.1.2.1,())).bind fun r3=>bif !r3.1 then (some (false,())) else some (true,())
theorem aa (k:Nat) (a1:Arg):@Eq (Option Out) (D.W k a1) (p a1):=by kernel_rfl
theorem ok:Ok prog 48 D.sig:=am func48 ay (by kernel_rfl) (fc cH.ok (fc de.ok (ai _)))
end iR
namespace gB
abbrev Arg:Type:=gT×gT×Unit
abbrev Out:Type:=Bool×Unit
abbrev ps:PQ:=[(.ro,ba),(.ro,ba)]
noncomputable def D:FD:={ fn:=f20,tl:=aE,ps:=ps,rs:=[(.bool,(av .bool))],gl:=[(48,iR.D.sig)] }
noncomputable def ab (a:Arg):Option Out:=@lift Out fun k=>D.W k a
noncomputable def p (a1:Arg):Option Out:=(iR.ab (a1.1.1,a1.2.1.1,())).bind fun r2=>bif !r2.1 then (some (false,())) else bif !decide (a1.1.2.1=a1.2.1.2.1) then (some (false,())) else (iR.ab (a1.1.2.2.1,a1.2.1.2.2.1,())).bind fun r3=>bif !r3.1 then (some (false,())) else bif !decide (a1.1.2.2.2.1=a1.2.1.2.2.2.1) then (some (false,())) else some (true,())
theorem aa (k:Nat) (a1:Arg):@Eq (Option Out) (D.W k a1) (p a1):=by kernel_rfl
theorem ok:Ok prog 20 D.sig:=am func20 ay (by kernel_rfl) (fc iR.ok (ai _))
end gB
namespace kS
abbrev Arg:Type:=gg×gg×Unit
abbrev Out:Type:=Bool×Unit
abbrev ps:PQ:=[(.ro,bK),(.ro,bK)]
noncomputable def D:FD:={ fn:=f49,tl:=aE,ps:=ps,rs:=[(.bool,(av .bool))],gl:=[(91,bQ.D.sig)] }
noncomputable def ab (a:Arg):Option Out:=@lift Out fun k=>D.W k a
noncomputable def p (a1:Arg):Option Out:=bif !decide (a1.1.1=a1.2.1.1) then (some (false,())) else bif !decide (a1.1.2.1=a1.2.1.2.1) then (some (false,())) else (bQ.ab (a1.1.2.2.1,a1.2.1.2.2.1,())).bind fun r2=>bif !r2.1 then (some (false,())) else some (true,())
theorem aa (k:Nat) (a1:Arg):@Eq (Option Out) (D.W k a1) (p a1):=by kernel_rfl
theorem ok:Ok prog 49 D.sig:=am func49 ay (by kernel_rfl) (fc bQ.ok (ai _))
end kS
namespace ec
abbrev Arg:Type:=(List gg)×(List gg)×Unit
abbrev Out:Type:=Bool×Unit
abbrev ps:PQ:=[(.ro,(.U bK)),(.ro,(.U bK))]
noncomputable def D:FD:={ fn:=f21,tl:=aE,ps:=ps,rs:=[(.bool,(av .bool))],gl:=[(49,kS.D.sig)],lv:=[(4,[0,1,5])],lx:=[(0,[])],od:=[(6,[0,1,2,3,4,5,6,7,8,9])] }
noncomputable def ab (a:Arg):Option Out:=@lift Out fun k=>D.W k a
noncomputable def T0 (a1:Arg) (J:Int):St:={ n:=27,sl:=[(0,.val (.U bK) a1.1),(1,.val (.U bK) a1.2.1),(5,.val i64 J)],vr:=[],aw:=[] }
noncomputable def b0 (self:Int->Option Out) (e0:(Unit)->Option Out) (a1:Arg) (J:Int):Option Out:=bif decide (J < (a1.1.length:Int)) then (if 0<=J then ((a1.1[J.toNat]?).bind fun aB=>if 0<=J then ((a1.2.1[J.toNat]?).bind fun cM=>(kS.ab (aB,cM,())).bind fun fY=>bif !fY.1 then (some (false,())) else self (ae (J+(1:Int)))) else none) else none) else e0 ()
noncomputable abbrev B0 (_:Nat):=b0
noncomputable def q0 (a1:Arg) (jl:(Unit)):Option Out:=some (true,())
noncomputable abbrev Q0 (_:Nat):=q0
noncomputable def s0 (k:Nat) (a1:Arg):(Int)->Option Out:=fun J=>D.L k [1,1,0,1,0,0] [0,1,5] [] (af 0 (ap (D.N k [1,1,1]) D.K0)) (T0 a1 J)
noncomputable def r0 (k:Nat) (a1:Arg):(Int)->Option Out:=al (fun w v=>B0 k w (Q0 k a1) a1 v) k
theorem aq (k:Nat) (a1:Arg):s0 k a1=r0 k a1:=
 funext fun J=>ao _ _ _ (T0 a1) _ (fun rec v=>by kernel_rfl) k J
noncomputable def p (l0:(Int)->Option Out) (a1:Arg):Option Out:=bif !decide ((a1.1.length:Int)=(a1.2.1.length:Int)) then (some (false,())) else l0 (0:Int)
theorem aa (k:Nat) (a1:Arg):@Eq (Option Out) (D.W k a1) (p (r0 k a1) a1):=
 Eq.trans (b:=p (s0 k a1) a1) (by kernel_rfl) (by rw[aq])
theorem ok:Ok prog 21 D.sig:=am func21 ay (by kernel_rfl) (fc kS.ok (ai _))
end ec
namespace jW
abbrev Arg:Type:=World×World×Unit
abbrev Out:Type:=Bool×Unit
abbrev ps:PQ:=[(.ro,dR),(.ro,dR)]
noncomputable def D:FD:={ fn:=f8,tl:=aE,ps:=ps,rs:=[(.bool,(av .bool))],gl:=[(19,jV.D.sig),(20,gB.D.sig),(21,ec.D.sig)] }
noncomputable def ab (a:Arg):Option Out:=@lift Out fun k=>D.W k a
noncomputable def p (a1:Arg):Option Out:=(jV.ab (a1.1.1,a1.2.1.1,())).bind fun r2=>bif !r2.1 then (some (false,())) else (gB.ab (a1.1.2.1,a1.2.1.2.1,())).bind fun r3=>bif !r3.1 then (some (false,())) else (ec.ab (a1.1.2.2.1,a1.2.1.2.2.1,())).bind fun r4=>bif !r4.1 then (some (false,())) else some (true,())
theorem aa (k:Nat) (a1:Arg):@Eq (Option Out) (D.W k a1) (p a1):=by kernel_rfl
theorem ok:Ok prog 8 D.sig:=am func8 ay (by kernel_rfl) (fc jV.ok (fc gB.ok (fc ec.ok (ai _))))
end jW
namespace bR
abbrev Arg:Type:=World×Unit
abbrev Out:Type:=Bool×Unit
abbrev ps:PQ:=[(.ro,dR)]
noncomputable def D:FD:={ fn:=f3,tl:=aE,ps:=ps,rs:=[(.bool,(av .bool))],gl:=[(4,jN.D.sig),(5,iG.D.sig),(6,g_.D.sig),(7,iQ.D.sig),(8,jW.D.sig)],od:=[(10,[0,1,2,3,4])] }
noncomputable def ab (a:Arg):Option Out:=@lift Out fun k=>D.W k a
noncomputable def p (a1:Arg):Option Out:=(jN.ab (a1.1,(1048576:Int),())).bind fun r2=>bif decide (r2.1 < (0:Int)) then (some (true,())) else (g_.ab (a1.1,())).bind fun r3=>(iG.ab (r3.1,())).bind fun r4=>(g_.ab (a1.1,())).bind fun r5=>(iQ.ab (r5.1,())).bind fun r6=>bif !decide (r6.1=r4.1) then (some (false,())) else (g_.ab (a1.1,())).bind fun r7=>(jW.ab (r5.1,r7.1,())).bind fun r8=>bif !r8.1 then (some (false,())) else some (true,())
theorem aa (k:Nat) (a1:Arg):@Eq (Option Out) (D.W k a1) (p a1):=by kernel_rfl
theorem ok:Ok prog 3 D.sig:=am func3 ay (by kernel_rfl) (fc jN.ok (fc iG.ok (fc g_.ok (fc iQ.ok (fc jW.ok (ai _))))))
end bR
end OT
