/- The proof's parts, merged: Printed by gen.py, a program of this claim  what each Go function computes.. No conditions but those that each states. -/
import Derived.Test.YtmkdchoeffoafaaGreatXe
set_option maxRecDepth 100000
set_option linter.unusedVariables false
namespace OT
open Go Go.Proofs.Tryz
namespace kQ
abbrev Arg:Type:=(List UInt8)×Unit
abbrev Out:Type:=bg×Int×Unit
abbrev Y:=Option Out
noncomputable def D:FD:={ fn:=f150,tl:=bd,ps:=[(.ro,(.U u8))],rs:=[(d9,(an d9)),(i64,(ax i64))],gl:=[(106,gx.D.sig),(109,d0.D.sig),(111,kb.D.sig),(194,fm.D.sig)],lv:=[(7,[2,4,5,6,7,52,53])],lx:=[(0,[2,4,5,6,7])],od:=[(4,[0,1,2,3,4,5,6,7,8,9,10,11,12,13,14]),(11,[0,1,2,3,4,5,6,7,8,9,10,11,12,13,14,15,16,17,18,19,20])] }
noncomputable def aa (a:Arg):Y:=@lift Out λk=>D.W k a
noncomputable def T0 (a1:Arg) (uF:List UInt8) (xC:Int) (Ad:Int) (nE:bg×Int×Int):St:={ n:=123,sl:=[(2,.box d9 (an d9) [] ((0:Int),(0:Int),(0:Int),([]:List gu),())),(4,.val (.U u8) uF),(5,.box d9 (an d9) [] nE.1),(6,.val i64 nE.2.1),(7,.val i64 xC),(52,.val i64 Ad),(53,.val i64 nE.2.2)],vr:=[],az:=[] }
noncomputable def b0 (self:(bg×Int×Int)->Y) (e0:(bg×Int)->Y) (a1:Arg) (uF:List UInt8) (xC:Int) (Ad:Int) (nE:bg×Int×Int):Y:=bif decide (nE.2.2 < Ad) then (bif decide (xC < af (nE.2.1+(2:Int))) then (some (((0:Int),(0:Int),(0:Int),([]:List gu),()),(0:Int),())) else if 0<=af (nE.2.1+(1:Int)) then ((uF[(af (nE.2.1+(1:Int))).toNat]?).bind λLW=>bif decide (xC < af ((af (nE.2.1+(2:Int)))+(af (LW.toNat:Int)))) then (some (((0:Int),(0:Int),(0:Int),([]:List gu),()),(0:Int),())) else if 0<=af (nE.2.1+(1:Int)) then ((uF[(af (nE.2.1+(1:Int))).toNat]?).bind λD0=>if 0<=nE.2.1 then ((uF[nE.2.1.toNat]?).bind λIE=>if 0<=af (nE.2.1+(2:Int))/\af (nE.2.1+(2:Int))<=af ((af (nE.2.1+(2:Int)))+(af (D0.toNat:Int)))/\af ((af (nE.2.1+(2:Int)))+(af (D0.toNat:Int)))<=(uF.length:Int) then ((kb.aa ((uF.take (af ((af (nE.2.1+(2:Int)))+(af (D0.toNat:Int)))).toNat).drop (af (nE.2.1+(2:Int))).toNat,())).bind λZm=>if nE.1.2.2.2.1.length+[(af (IE.toNat:Int),Zm.1,())].length<=cc then (let LX:=nE.1.2.2.2.1++[(af (IE.toNat:Int),Zm.1,())];self ((nE.1.1,nE.1.2.1,nE.1.2.2.1,LX,nE.1.2.2.2.2),af (nE.2.1+(af ((2:Int)+(af (D0.toNat:Int))))),af (nE.2.2+(1:Int)))) else none) else none) else none) else none) else none) else e0 (nE.1,nE.2.1)
noncomputable abbrev B0 (_:Nat):=b0
noncomputable def q0 (a1:Arg) (uF:List UInt8) (xC:Int) (Ad:Int) (Qc:(bg×Int)):Y:=bif !decide (Qc.2=xC) then (some (((0:Int),(0:Int),(0:Int),([]:List gu),()),(0:Int),())) else (gx.aa (Qc.1,())).bind λLV=>bif !decide (LV.1=(0:Int)) then (some (((0:Int),(0:Int),(0:Int),([]:List gu),()),(0:Int),())) else (fm.aa (Qc.1,())).bind λDZ=>(d0.aa (DZ.1,uF,())).bind λabC=>bif !abC.1 then (some (((0:Int),(0:Int),(0:Int),([]:List gu),()),(0:Int),())) else some (Qc.1,(uF.length:Int),())
noncomputable abbrev Q0 (_:Nat):=q0
noncomputable def s0 (k:Nat) (a1:Arg):(List UInt8)->Int->Int->(bg×Int×Int)->Y:=λuF xC Ad=>λnE=>D.L k [1,1,1,1,1,0,1,0,0] [2,4,5,6,7,52,53] [] (ag 0 (ay (D.N k [1,1,1,1,1,1]) D.K0)) (T0 a1 uF xC Ad nE)
noncomputable def r0 (k:Nat) (a1:Arg):(List UInt8)->Int->Int->(bg×Int×Int)->Y:=λuF xC Ad=>ak (λw v=>B0 k w (Q0 k a1 uF xC Ad) a1 uF xC Ad v) k
theorem aw (k:Nat) (a1:Arg):s0 k a1=r0 k a1:=
 funext λuF=>funext λxC=>funext λAd=>funext λnE=>av _ _ _ (T0 a1 uF xC Ad) _ (λrec v=>by kernel_rfl) k nE
noncomputable def p (l0:(List UInt8)->Int->Int->(bg×Int×Int)->Y) (a1:Arg):Y:=bif decide ((a1.1.length:Int) < (7:Int)) then (some (((0:Int),(0:Int),(0:Int),([]:List gu),()),(0:Int),())) else (a1.1[0]?).bind λx2=>bif decide ((a1.1.length:Int) < af (x2.toNat:Int)) then (some (((0:Int),(0:Int),(0:Int),([]:List gu),()),(0:Int),())) else (a1.1[0]?).bind λx3=>bif decide ((x3.toNat:Int) < (7:Int)) then (some (((0:Int),(0:Int),(0:Int),([]:List gu),()),(0:Int),())) else (a1.1[0]?).bind λx4=>if 0<=(x4.toNat:Int)/\(x4.toNat:Int)<=(a1.1.length:Int) then ((((a1.1.take (x4.toNat:Int).toNat).drop 0)[1]?).bind λx5=>(((a1.1.take (x4.toNat:Int).toNat).drop 0)[2]?).bind λx6=>(((a1.1.take (x4.toNat:Int).toNat).drop 0)[3]?).bind λx7=>(((a1.1.take (x4.toNat:Int).toNat).drop 0)[4]?).bind λx8=>l0 ((a1.1.take (x4.toNat:Int).toNat).drop 0) (af ((((a1.1.take (x4.toNat:Int).toNat).drop 0).length:Int) - (2:Int))) (af (x8.toNat:Int)) ((af (x5.toNat:Int),af (x6.toNat:Int),af (x7.toNat:Int),([]:List gu),()),(5:Int),(0:Int))) else none
theorem ae (k:Nat) (a1:Arg):@Eq Y (D.W k a1) (p (r0 k a1) a1):=
 aU (b:=p (s0 k a1) a1) (by kernel_rfl) (by rw[aw])
theorem ok:Ok prog 150 D.sig:=au func150 aT (by kernel_rfl) (fc gx.ok (fc d0.ok (fc kb.ok (fc fm.ok (aj _)))))
end kQ
namespace lX
abbrev Arg:Type:=(List UInt8)×Unit
abbrev Out:Type:=(List bg)×Int×Unit
abbrev Y:=Option Out
noncomputable def D:FD:={ fn:=f95,tl:=bd,ps:=[(.ro,(.U u8))],rs:=[((.U d9),(an (.U d9))),(i64,(ax i64))],gl:=[(150,kQ.D.sig)],lv:=[(3,[0,4,5])] }
noncomputable def aa (a:Arg):Y:=@lift Out λk=>D.W k a
noncomputable def T0 (a1:Arg) (J:(List bg)×Int):St:={ n:=26,sl:=[(0,.val (.U u8) a1.1),(4,.own (.U d9) (an (.U d9)) [] J.1),(5,.val i64 J.2)],vr:=[],az:=[] }
noncomputable def b0 (self:((List bg)×Int)->Y) (a1:Arg) (J:(List bg)×Int):Y:=if 0<=J.2/\J.2<=(a1.1.length:Int) then ((kQ.aa ((a1.1.take a1.1.length).drop J.2.toNat,())).bind λvm=>bif decide (vm.2.1=(0:Int)) then (some (J.1,J.2,())) else if J.1.length+[vm.1].length<=cc then (self (J.1++[vm.1],af (J.2+vm.2.1))) else none) else none
noncomputable abbrev B0 (_:Nat):=b0
noncomputable def s0 (k:Nat) (a1:Arg):((List bg)×Int)->Y:=λJ=>D.L k [1,1,1,0,0] [0,4,5] [] (ag 0 D.K0) (T0 a1 J)
noncomputable def r0 (k:Nat) (a1:Arg):((List bg)×Int)->Y:=ak (λw v=>B0 k w a1 v) k
theorem aw (k:Nat) (a1:Arg):s0 k a1=r0 k a1:=
 funext λJ=>av _ _ _ (T0 a1) _ (λrec v=>by kernel_rfl) k J
noncomputable def p (l0:((List bg)×Int)->Y) (a1:Arg):Y:=l0 (([]:List bg),(0:Int))
theorem ae (k:Nat) (a1:Arg):@Eq Y (D.W k a1) (p (r0 k a1) a1):=
 aU (b:=p (s0 k a1) a1) (by kernel_rfl) (by rw[aw])
theorem ok:Ok prog 95 D.sig:=au func95 aT (by kernel_rfl) (fc kQ.ok (aj _))
end lX
namespace iN
abbrev Arg:Type:=Log×Unit
abbrev Out:Type:=Int×Unit
abbrev Y:=Option Out
noncomputable def D:FD:={ fn:=f51,tl:=bd,ps:=[(.ro,kg)],rs:=[(i64,(ax i64))],gl:=[(94,o_.D.sig),(95,lX.D.sig)],lv:=[(4,[14,15,16])],lx:=[(0,[])] }
noncomputable def aa (a:Arg):Y:=@lift Out λk=>D.W k a
noncomputable def T0 (a1:Arg) (bn:Int):St:={ n:=30,sl:=[(14,.own (.U (.U u8)) (.U true (ax (.U u8))) [] [a1.1.1,a1.1.2.1]),(15,.val i64 ([a1.1.1,a1.1.2.1].length:Int)),(16,.val i64 bn)],vr:=[],az:=[] }
noncomputable def b0 (self:Int->Y) (e0:(Unit)->Y) (a1:Arg) (bn:Int):Y:=bif decide (bn < ([a1.1.1,a1.1.2.1].length:Int)) then (if 0<=bn/\bn < ([a1.1.1,a1.1.2.1].length:Int) then (([a1.1.1,a1.1.2.1][bn.toNat]?).bind λen=>(lX.aa (en,())).bind λjZ=>bif !decide (jZ.2.1=(en.length:Int)) then (some ((5:Int),())) else self (af (bn+(1:Int)))) else none) else e0 ()
noncomputable def q0 (a1:Arg) (oD:(Unit)):Y:=some ((0:Int),())
noncomputable def s0 (k:Nat) (a1:Arg):(Int)->Y:=λbn=>D.L k [1,1,0,1,0,0] [14,15,16] [] (ag 0 (ay (D.N k [1,1,1]) D.K0)) (T0 a1 bn)
noncomputable def r0 (k:Nat) (a1:Arg):(Int)->Y:=ak (λw v=>b0 w (q0 a1) a1 v) k
theorem aw (k:Nat) (a1:Arg):s0 k a1=r0 k a1:=
 funext λbn=>av _ _ _ (T0 a1) _ (λrec v=>by kernel_rfl) k bn
noncomputable def p (l0:(Int)->Y) (a1:Arg):Y:=(o_.aa (a1.1,())).bind λr2=>bif decide ((16000:Int) < r2.1) then (some ((2:Int),())) else l0 (0:Int)
theorem ae (k:Nat) (a1:Arg):@Eq Y (D.W k a1) (p (r0 k a1) a1):=
 aU (b:=p (s0 k a1) a1) (by kernel_rfl) (by rw[aw])
theorem ok:Ok prog 51 D.sig:=au func51 aT (by kernel_rfl) (fc o_.ok (fc lX.ok (aj _)))
end iN
namespace lp
abbrev Arg:Type:=(List UInt8)×Unit
abbrev Out:Type:=Int×Unit
noncomputable def D:FD:={ fn:=f97,tl:=bd,ps:=[(.ro,(.U u8))],rs:=[(i64,(ax i64))] }
noncomputable def aa (a:Arg):Option Out:=@lift Out λk=>D.W k a
noncomputable def p (a1:Arg):Option Out:=(a1.1[0]?).bind λx2=>some (af (x2.toNat:Int),())
theorem ae (k:Nat) (a1:Arg):@Eq (Option Out) (D.W k a1) (p a1):=by kernel_rfl
theorem ok:Ok prog 97 D.sig:=au func97 aT (by kernel_rfl) (aj _)
end lp
namespace pa
abbrev Arg:Type:=(List UInt8)×Int×Unit
abbrev Out:Type:=Int×Int×Unit
noncomputable def D:FD:={ fn:=f151,tl:=bd,ps:=[(.ro,(.U u8)),(.ro,i64)],rs:=[(i64,(ax i64)),(i64,(ax i64))],od:=[(1,[0,1,2,3,4,5,6,7,8,9,10,11,12,13,14,15])] }
noncomputable def aa (a:Arg):Option Out:=@lift Out λk=>D.W k a
noncomputable def p (a1:Arg):Option Out:=if 0<=af ((2:Int)+(af ((2:Int)*a1.2.1))) then ((a1.1[(af ((2:Int)+(af ((2:Int)*a1.2.1)))).toNat]?).bind λx2=>if 0<=af ((3:Int)+(af ((2:Int)*a1.2.1))) then ((a1.1[(af ((3:Int)+(af ((2:Int)*a1.2.1)))).toNat]?).bind λx3=>some (af (x2.toNat:Int),af (x3.toNat:Int),())) else none) else none
theorem ae (k:Nat) (a1:Arg):@Eq (Option Out) (D.W k a1) (p a1):=by kernel_rfl
theorem ok:Ok prog 151 D.sig:=au func151 aT (by kernel_rfl) (aj _)
end pa
namespace bq
abbrev Arg:Type:=(List UInt8)×Unit
abbrev Out:Type:=Int×Unit
abbrev Y:=Option Out
noncomputable def D:FD:={ fn:=f96,tl:=bd,ps:=[(.ro,(.U u8))],rs:=[(i64,(ax i64))],gl:=[(97,lp.D.sig),(151,pa.D.sig)],lv:=[(7,[0,3,4,35,36]),(15,[0,3,8,66,67]),(19,[0,3,8,10,11,12,66,67])],lx:=[(0,[0,3]),(2,[0,3]),(4,[0,3,8,66,67])],od:=[(3,[0,2,3,4,5,1,6,7])] }
noncomputable def aa (a:Arg):Y:=@lift Out λk=>D.W k a
noncomputable def T0 (a1:Arg) (lG:Int) (d7:Int) (kR:Int):St:={ n:=101,sl:=[(0,.val (.U u8) a1.1),(3,.val i64 lG),(4,.val i64 d7),(35,.val i64 lG),(36,.val i64 kR)],vr:=[],az:=[] }
noncomputable def S0 (rec:RT Out) (a1:Arg) (lG:Int) (d7:Int):(Int)->Y:=λkR=>rec (T0 a1 lG d7 kR)
noncomputable def df (K:KT Out) (a1:Arg) (lG:Int) (d7:Int):(Unit)->Y:=λz=>K (.exit 0) ({ n:=101,sl:=[(0,.val (.U u8) a1.1),(3,.val i64 lG)],vr:=[],az:=[] })
noncomputable def b0 (self:Int->Y) (e0:(Unit)->Y) (a1:Arg) (lG:Int) (d7:Int) (kR:Int):Y:=bif decide (kR < lG) then ((pa.aa (a1.1,kR,())).bind λmP=>bif !((decide (mP.1=(0:Int))) == (decide (mP.2.1=(0:Int)))) then (some ((3:Int),())) else bif !decide (mP.1=(0:Int)) then (bif decide (mP.1 < d7) then (some ((3:Int),())) else bif decide ((64:Int) < af (mP.1+mP.2.1)) then (some ((3:Int),())) else self (af (kR+(1:Int)))) else bif decide ((64:Int) < af (mP.1+mP.2.1)) then (some ((3:Int),())) else self (af (kR+(1:Int)))) else e0 ()
theorem ml (k:Nat) (rec:RT Out) (K:KT Out) (a1:Arg) (lG:Int) (d7:Int) (kR:Int):D.N k [1,1,1,1,0,1,0,0] (T0 a1 lG d7 kR) (i7 rec (ff [0,3,4,35,36] []) K)=b0 (S0 rec a1 lG d7) (df K a1 lG d7) a1 lG d7 kR:=by kernel_rfl
noncomputable def T1 (a1:Arg) (cq:(List UInt8)×Int×(List Bool)×Int×Int):St:={ n:=101,sl:=[(0,.val (.U u8) cq.1),(3,.val i64 cq.2.1),(8,.box (.arr 64 .bool) (ax (.arr 64 .bool)) [] cq.2.2.1),(66,.val i64 cq.2.2.2.1),(67,.val i64 cq.2.2.2.2)],vr:=[],az:=[] }
noncomputable def S1 (rec:RT Out) (a1:Arg):((List UInt8)×Int×(List Bool)×Int×Int)->Y:=λcq=>rec (T1 a1 cq)
noncomputable def jq (K:KT Out) (a1:Arg):((List UInt8)×Int)->Y:=λz=>K (.exit 2) ({ n:=101,sl:=[(0,.val (.U u8) z.1),(3,.val i64 z.2)],vr:=[],az:=[] })
noncomputable def T2 (a1:Arg) (gb:List UInt8) (dO:Int) (oM:Int) (oN:Int) (oO:Int) (oP:Int) (lL:(List Bool)×Int):St:={ n:=101,sl:=[(0,.val (.U u8) gb),(3,.val i64 dO),(8,.box (.arr 64 .bool) (ax (.arr 64 .bool)) [] lL.1),(10,.val i64 oM),(11,.val i64 oN),(12,.val i64 lL.2),(66,.val i64 oO),(67,.val i64 oP)],vr:=[],az:=[] }
noncomputable def b2 (self:((List Bool)×Int)->Y) (e4:(List Bool)->Y) (a1:Arg) (gb:List UInt8) (dO:Int) (oM:Int) (oN:Int) (oO:Int) (oP:Int) (lL:(List Bool)×Int):Y:=bif decide (lL.2 < af (oM+oN)) then (if 0<=lL.2/\lL.2 < (lL.1.length:Int) then ((lL.1[lL.2.toNat]?).bind λaaw=>bif aaw then (some ((8:Int),())) else if 0<=lL.2/\lL.2 < (lL.1.length:Int) then ((lL.1[lL.2.toNat]?).bind λQd=>self (lL.1.set lL.2.toNat true,af (lL.2+(1:Int)))) else none) else none) else e4 lL.1
noncomputable def q1 (self:((List UInt8)×Int×(List Bool)×Int×Int)->Y) (e2:((List UInt8)×Int)->Y) (a1:Arg) (gb:List UInt8) (dO:Int) (oM:Int) (oN:Int) (oO:Int) (oP:Int) (Qe:(List Bool)):Y:=self (gb,dO,Qe,oO,af (oP+(1:Int)))
noncomputable def s2 (k:Nat) (rec:RT Out) (K:KT Out) (a1:Arg):(List UInt8)->Int->Int->Int->Int->Int->((List Bool)×Int)->Y:=λgb dO oM oN oO oP=>λlL=>D.L k [1,1,1,1,1,1,0,1,0,0,1,1,0,0,1,1,1,0,0] [0,3,8,10,11,12,66,67] [] (ag 4 (ag 3 (ay (D.N k [1,1,1,1,1,1,0,1,0,0,1,1,1]) (i7 rec (ff [0,3,8,66,67] []) K)))) (T2 a1 gb dO oM oN oO oP lL)
noncomputable def r2 (k:Nat) (self:((List UInt8)×Int×(List Bool)×Int×Int)->Y) (e2:((List UInt8)×Int)->Y) (a1:Arg):(List UInt8)->Int->Int->Int->Int->Int->((List Bool)×Int)->Y:=λgb dO oM oN oO oP=>ak (λw v=>b2 w (q1 self e2 a1 gb dO oM oN oO oP) a1 gb dO oM oN oO oP v) k
theorem rT (k:Nat) (rec:RT Out) (K:KT Out) (a1:Arg):s2 k rec K a1=r2 k (S1 rec a1) (jq K a1) a1:=
 funext λgb=>funext λdO=>funext λoM=>funext λoN=>funext λoO=>funext λoP=>funext λlL=>av _ _ _ (T2 a1 gb dO oM oN oO oP) _ (λrec v=>by kernel_rfl) k lL
noncomputable def b1 (self:((List UInt8)×Int×(List Bool)×Int×Int)->Y) (e2:((List UInt8)×Int)->Y) (l2:(List UInt8)->Int->Int->Int->Int->Int->((List Bool)×Int)->Y) (a1:Arg) (cq:(List UInt8)×Int×(List Bool)×Int×Int):Y:=bif decide (cq.2.2.2.2 < cq.2.2.2.1) then ((pa.aa (cq.1,cq.2.2.2.2,())).bind λyZ=>l2 cq.1 cq.2.1 yZ.1 yZ.2.1 cq.2.2.2.1 cq.2.2.2.2 (cq.2.2.1,yZ.1)) else e2 (cq.1,cq.2.1)
noncomputable def B1 (k:Nat) (self:((List UInt8)×Int×(List Bool)×Int×Int)->Y) (e2:((List UInt8)×Int)->Y) (a1:Arg) (cq:(List UInt8)×Int×(List Bool)×Int×Int):Y:=b1 self e2 (r2 k self e2 a1) a1 cq
theorem tc (k:Nat) (rec:RT Out) (K:KT Out) (a1:Arg) (cq:(List UInt8)×Int×(List Bool)×Int×Int):D.N k [1,1,1,1,1,1,0,1,0,0] (T1 a1 cq) (i7 rec (ff [0,3,8,66,67] []) K)=B1 k (S1 rec a1) (jq K a1) a1 cq:=
 aU (b:=b1 (S1 rec a1) (jq K a1) (s2 k rec K a1) a1 cq) (by kernel_rfl) (by rw[rT];rfl)
noncomputable def q2 (a1:Arg) (vI:((List UInt8)×Int)):Y:=bif decide ((0:Int) < vI.2) then (if 0<=af ((af ((2:Int)*vI.2))+(1:Int)) then ((vI.1[(af ((af ((2:Int)*vI.2))+(1:Int))).toNat]?).bind λaax=>bif decide ((aax.toNat:Int)=(0:Int)) then (some ((8:Int),())) else some ((0:Int),())) else none) else some ((0:Int),())
theorem uX (k:Nat) (a1:Arg) (vI:((List UInt8)×Int)):jq (ag 2 (ay (D.N k [1,1,1,1,1,1,1]) D.K0)) a1 vI=q2 a1 vI:=by kernel_rfl
noncomputable def s1 (k:Nat) (a1:Arg) (lG:Int) (d7:Int):((List UInt8)×Int×(List Bool)×Int×Int)->Y:=λcq=>D.L k [1,1,1,1,1,1,0,1,0,0] [0,3,8,66,67] [] (ag 2 (ay (D.N k [1,1,1,1,1,1,1]) D.K0)) (T1 a1 cq)
noncomputable def r1 (k:Nat) (a1:Arg) (lG:Int) (d7:Int):((List UInt8)×Int×(List Bool)×Int×Int)->Y:=ak (λw v=>B1 k w (q2 a1) a1 v) k
theorem mm (k:Nat) (a1:Arg) (lG:Int) (d7:Int):s1 k a1 lG d7=r1 k a1 lG d7:=by
 funext cq;have h2:jq (ag 2 (ay (D.N k [1,1,1,1,1,1,1]) D.K0)) a1=q2 a1:=funext λz=>uX k a1 z;refine (av _ _ _ (T1 a1) (λself v=>B1 k self (jq (ag 2 (ay (D.N k [1,1,1,1,1,1,1]) D.K0)) a1) a1 v) (λrec v=>tc k rec (ag 2 (ay (D.N k [1,1,1,1,1,1,1]) D.K0)) a1 v) k cq).trans ?_;rw[h2];rfl
noncomputable def q0 (l1:((List UInt8)×Int×(List Bool)×Int×Int)->Y) (a1:Arg) (lG:Int) (d7:Int) (pi:(Unit)):Y:=l1 (a1.1,lG,List.replicate 64 false,lG,(0:Int))
noncomputable def Q0 (k:Nat) (a1:Arg) (lG:Int) (d7:Int) (pi:(Unit)):Y:=q0 (r1 k a1 lG d7) a1 lG d7 pi
theorem qA (k:Nat) (a1:Arg) (lG:Int) (d7:Int) (pi:(Unit)):df (ag 0 (ay (D.N k [1,1,1,1,1]) D.K0)) a1 lG d7 pi=Q0 k a1 lG d7 pi:=
 aU (b:=q0 (s1 k a1 lG d7) a1 lG d7 pi) (by kernel_rfl) (by rw[mm];rfl)
noncomputable def s0 (k:Nat) (a1:Arg):Int->Int->(Int)->Y:=λlG d7=>λkR=>D.L k [1,1,1,1,0,1,0,0] [0,3,4,35,36] [] (ag 0 (ay (D.N k [1,1,1,1,1]) D.K0)) (T0 a1 lG d7 kR)
noncomputable def r0 (k:Nat) (a1:Arg):Int->Int->(Int)->Y:=λlG d7=>ak (λw v=>b0 w (Q0 k a1 lG d7) a1 lG d7 v) k
theorem aw (k:Nat) (a1:Arg):s0 k a1=r0 k a1:=by
 funext lG;funext d7;funext kR;have h0:df (ag 0 (ay (D.N k [1,1,1,1,1]) D.K0)) a1 lG d7=Q0 k a1 lG d7:=funext λz=>qA k a1 lG d7 z;refine (av _ _ _ (T0 a1 lG d7) (λself v=>b0 self (df (ag 0 (ay (D.N k [1,1,1,1,1]) D.K0)) a1 lG d7) a1 lG d7 v) (λrec v=>ml k rec (ag 0 (ay (D.N k [1,1,1,1,1]) D.K0)) a1 lG d7 v) k kR).trans ?_;rw[h0];rfl
noncomputable def p (l0:Int->Int->(Int)->Y) (a1:Arg):Y:=bif !decide ((a1.1.length:Int)=(64:Int)) then (some ((1:Int),())) else (a1.1[1]?).bind λx2=>(lp.aa (a1.1,())).bind λr3=>bif decide ((16:Int) < r3.1) then (some ((3:Int),())) else bif decide (af (x2.toNat:Int) < af ((2:Int)+(af ((2:Int)*r3.1)))) then (some ((3:Int),())) else bif decide ((64:Int) < af (x2.toNat:Int)) then (some ((3:Int),())) else l0 r3.1 (af (x2.toNat:Int)) (0:Int)
theorem ae (k:Nat) (a1:Arg):@Eq Y (D.W k a1) (p (r0 k a1) a1):=
 aU (b:=p (s0 k a1) a1) (by kernel_rfl) (by rw[aw])
theorem ok:Ok prog 96 D.sig:=au func96 aT (by kernel_rfl) (fc lp.ok (fc pa.ok (aj _)))
end bq
namespace nq
abbrev Arg:Type:=(List UInt8)×Int×Unit
abbrev Out:Type:=Bool×Unit
noncomputable def D:FD:={ fn:=f98,tl:=bd,ps:=[(.ro,(.U u8)),(.ro,i64)],rs:=[(.bool,(ax .bool))],gl:=[(97,lp.D.sig)] }
noncomputable def aa (a:Arg):Option Out:=@lift Out λk=>D.W k a
noncomputable def p (a1:Arg):Option Out:=bif decide ((0:Int)<=a1.2.1) then ((lp.aa (a1.1,())).bind λr2=>bif decide (a1.2.1 < r2.1) then (if 0<=af ((3:Int)+(af ((2:Int)*a1.2.1))) then ((a1.1[(af ((3:Int)+(af ((2:Int)*a1.2.1)))).toNat]?).bind λx3=>some (!decide ((x3.toNat:Int)=(0:Int)),())) else none) else some (false,())) else some (false,())
theorem ae (k:Nat) (a1:Arg):@Eq (Option Out) (D.W k a1) (p a1):=by kernel_rfl
theorem ok:Ok prog 98 D.sig:=au func98 aT (by kernel_rfl) (fc lp.ok (aj _))
end nq
namespace du
abbrev Arg:Type:=Row×Unit
abbrev Out:Type:=Int×Unit
abbrev Y:=Option Out
noncomputable def D:FD:={ fn:=f152,tl:=bd,ps:=[(.ro,ba)],rs:=[(i64,(ax i64))],gl:=[(52,fy.D.sig)],lv:=[(6,[1,26,27])],lx:=[(0,[])] }
noncomputable def aa (a:Arg):Y:=@lift Out λk=>D.W k a
noncomputable def T0 (a1:Arg) (gm:Int):St:={ n:=43,sl:=[(1,.box ba (ax ba) [] a1.1),(26,.val i64 (a1.1.2.2.2.1.length:Int)),(27,.val i64 gm)],vr:=[],az:=[] }
noncomputable def b0 (self:Int->Y) (e0:(Unit)->Y) (a1:Arg) (gm:Int):Y:=bif decide (gm < (a1.1.2.2.2.1.length:Int)) then (if 0<=gm then ((a1.1.2.2.2.1[gm.toNat]?).bind λqz=>bif decide ((qz.toNat:Int) < (97:Int)) then (some ((5:Int),())) else if 0<=gm then ((a1.1.2.2.2.1[gm.toNat]?).bind λrE=>bif decide ((122:Int) < (rE.toNat:Int)) then (some ((5:Int),())) else self (af (gm+(1:Int)))) else none) else none) else e0 ()
noncomputable def q0 (a1:Arg) (pi:(Unit)):Y:=some ((0:Int),())
noncomputable def s0 (k:Nat) (a1:Arg):(Int)->Y:=λgm=>D.L k [1,1,1,0,1,0,0] [1,26,27] [] (ag 0 (ay (D.N k [1,1,1,1]) D.K0)) (T0 a1 gm)
noncomputable def r0 (k:Nat) (a1:Arg):(Int)->Y:=ak (λw v=>b0 w (q0 a1) a1 v) k
theorem aw (k:Nat) (a1:Arg):s0 k a1=r0 k a1:=
 funext λgm=>av _ _ _ (T0 a1) _ (λrec v=>by kernel_rfl) k gm
noncomputable def p (l0:(Int)->Y) (a1:Arg):Y:=(fy.aa (a1.1.1,(0:Int),(3:Int),())).bind λr2=>bif !r2.1 then (some ((3:Int),())) else (fy.aa (a1.1.2.1,(1:Int),(99:Int),())).bind λr3=>bif !r3.1 then (some ((3:Int),())) else (fy.aa (a1.1.2.2.1,(0:Int),(999:Int),())).bind λr4=>bif !r4.1 then (some ((3:Int),())) else bif decide ((8:Int) < (a1.1.2.2.2.1.length:Int)) then (some ((5:Int),())) else l0 (0:Int)
theorem ae (k:Nat) (a1:Arg):@Eq Y (D.W k a1) (p (r0 k a1) a1):=
 aU (b:=p (s0 k a1) a1) (by kernel_rfl) (by rw[aw])
theorem ok:Ok prog 152 D.sig:=au func152 aT (by kernel_rfl) (fc fy.ok (aj _))
end du
namespace kw
abbrev Arg:Type:=(List UInt8)×Unit
abbrev Out:Type:=rQ×Unit
abbrev Y:=Option Out
noncomputable def D:FD:={ fn:=f99,tl:=bd,ps:=[(.ro,(.U u8))],rs:=[(qP,(ax qP))],gl:=[(152,du.D.sig)],od:=[(2,[0,1,2,3,4,5,6,7,8,9]),(5,[0,1,2,3,4,5,6,7,8,9,10,11,12,13,14,15,16,17,18,19,20,21,22,23]),(8,[0,1,2,3,4,5,6])] }
noncomputable def aa (a:Arg):Y:=@lift Out λk=>D.W k a
noncomputable def p (a1:Arg):Y:=let Wz:Y:=let j37:Y:=(a1.1[1]?).bind λx38=>(a1.1[2]?).bind λx39=>(a1.1[3]?).bind λx40=>(a1.1[4]?).bind λx41=>if 0<=(6:Int)/\(6:Int)<=(a1.1.length:Int) then (let y42:=af ((BitVec.ofInt 64 (af ((af (x40.toNat:Int))*2 ^ 8)) ||| BitVec.ofInt 64 (af (x41.toNat:Int))).toNat:Int);(du.aa ((af (x38.toNat:Int),af (x39.toNat:Int),y42,(a1.1.take a1.1.length).drop 6,()),())).bind λr43=>bif !decide (r43.1=(0:Int)) then (some (((5:Int),(0:Int),(0:Int),(0:Int),((0:Int),(0:Int),(0:Int),([]:List UInt8),()),()),())) else (a1.1[0]?).bind λx44=>some (((0:Int),af (x44.toNat:Int),(0:Int),(0:Int),(af (x38.toNat:Int),af (x39.toNat:Int),y42,(a1.1.take a1.1.length).drop 6,()),()),())) else none;bif decide ((a1.1.length:Int) < (6:Int)) then (some (((5:Int),(0:Int),(0:Int),(0:Int),((0:Int),(0:Int),(0:Int),([]:List UInt8),()),()),())) else (a1.1[0]?).bind λZk=>bif !decide ((Zk.toNat:Int)=(0:Int)) then ((a1.1[0]?).bind λZl=>bif !decide ((Zl.toNat:Int)=(2:Int)) then (some (((5:Int),(0:Int),(0:Int),(0:Int),((0:Int),(0:Int),(0:Int),([]:List UInt8),()),()),())) else (a1.1[5]?).bind λx28=>bif !decide ((a1.1.length:Int)=af ((6:Int)+(af (x28.toNat:Int)))) then (some (((5:Int),(0:Int),(0:Int),(0:Int),((0:Int),(0:Int),(0:Int),([]:List UInt8),()),()),())) else j37) else (a1.1[5]?).bind λx29=>bif !decide ((a1.1.length:Int)=af ((6:Int)+(af (x29.toNat:Int)))) then (some (((5:Int),(0:Int),(0:Int),(0:Int),((0:Int),(0:Int),(0:Int),([]:List UInt8),()),()),())) else j37;bif decide ((a1.1.length:Int)=(3:Int)) then ((a1.1[0]?).bind λx2=>bif decide ((x2.toNat:Int)=(1:Int)) then ((a1.1[1]?).bind λx3=>bif decide ((x3.toNat:Int) < (12:Int)) then ((a1.1[2]?).bind λx4=>bif decide ((x4.toNat:Int) < (16:Int)) then ((a1.1[1]?).bind λx5=>(a1.1[2]?).bind λx6=>some (((0:Int),(1:Int),af (x5.toNat:Int),af (x6.toNat:Int),((0:Int),(0:Int),(0:Int),([]:List UInt8),()),()),())) else Wz) else Wz) else Wz) else Wz
theorem ae (k:Nat) (a1:Arg):@Eq Y (D.W k a1) (p a1):=by kernel_rfl
theorem ok:Ok prog 99 D.sig:=au func99 aT (by kernel_rfl) (fc du.ok (aj _))
end kw
namespace nO
abbrev Arg:Type:=(List UInt8)×Int×Unit
abbrev Out:Type:=(List UInt8)×Unit
noncomputable def D:FD:={ fn:=f100,tl:=bd,ps:=[(.ro,(.U u8)),(.ro,i64)],rs:=[((.U u8),(ax (.U u8)))],gl:=[(151,pa.D.sig)] }
noncomputable def aa (a:Arg):Option Out:=@lift Out λk=>D.W k a
noncomputable def p (a1:Arg):Option Out:=(pa.aa (a1.1,a1.2.1,())).bind λr2=>if 0<=r2.1/\r2.1<=af (r2.1+r2.2.1)/\af (r2.1+r2.2.1)<=(a1.1.length:Int) then (some ((a1.1.take (af (r2.1+r2.2.1)).toNat).drop r2.1.toNat,())) else none
theorem ae (k:Nat) (a1:Arg):@Eq (Option Out) (D.W k a1) (p a1):=by kernel_rfl
theorem ok:Ok prog 100 D.sig:=au func100 aT (by kernel_rfl) (fc pa.ok (aj _))
end nO
namespace gd
abbrev Arg:Type:=Row×Row×Unit
abbrev Out:Type:=Bool×Unit
noncomputable def D:FD:={ fn:=f156,tl:=bd,ps:=[(.ro,ba),(.ro,ba)],rs:=[(.bool,(ax .bool))] }
noncomputable def aa (a:Arg):Option Out:=@lift Out λk=>D.W k a
noncomputable def p (a1:Arg):Option Out:=bif decide (a1.1.1 < a1.2.1.1) then (some (true,())) else bif decide (a1.1.1=a1.2.1.1) then (some (decide (a1.1.2.1 < a1.2.1.2.1),())) else some (false,())
theorem ae (k:Nat) (a1:Arg):@Eq (Option Out) (D.W k a1) (p a1):=by kernel_rfl
theorem ok:Ok prog 156 D.sig:=au func156 aT (by kernel_rfl) (aj _)
end gd
namespace ij
abbrev Arg:Type:=Row×Row×Unit
abbrev Out:Type:=Int×Unit
noncomputable def D:FD:={ fn:=f155,tl:=bd,ps:=[(.ro,ba),(.ro,ba)],rs:=[(i64,(ax i64))],gl:=[(156,gd.D.sig)] }
noncomputable def aa (a:Arg):Option Out:=@lift Out λk=>D.W k a
noncomputable def p (a1:Arg):Option Out:=(gd.aa (a1.1,a1.2.1,())).bind λr2=>bif r2.1 then (some ((-1:Int),())) else (gd.aa (a1.2.1,a1.1,())).bind λr3=>bif r3.1 then (some ((1:Int),())) else some ((0:Int),())
theorem ae (k:Nat) (a1:Arg):@Eq (Option Out) (D.W k a1) (p a1):=by kernel_rfl
theorem ok:Ok prog 155 D.sig:=au func155 aT (by kernel_rfl) (fc gd.ok (aj _))
end ij
namespace oG
abbrev Arg:Type:=Seen×Seen×Unit
abbrev Out:Type:=Int×Unit
noncomputable def D:FD:={ fn:=f154,tl:=bd,ps:=[(.ro,ii),(.ro,ii)],rs:=[(i64,(ax i64))],gl:=[(155,ij.D.sig)] }
noncomputable def aa (a:Arg):Option Out:=@lift Out λk=>D.W k a
noncomputable def p (a1:Arg):Option Out:=(ij.aa (a1.1.1,a1.2.1.1,())).bind λr2=>some (r2.1,())
theorem ae (k:Nat) (a1:Arg):@Eq (Option Out) (D.W k a1) (p a1):=by kernel_rfl
theorem ok:Ok prog 154 D.sig:=au func154 aT (by kernel_rfl) (fc ij.ok (aj _))
end oG
namespace oQ
open Go.Proofs
abbrev Arg:Type:=(List Seen)×(Nat×Int)×Unit
abbrev Out:Type:=(List Seen)×Unit
noncomputable def aa (a:Arg):Option Out:=(xM ii oG.aa a.1).map λr=>(r,())
noncomputable def sig:sQ:={ ps:=[(.kY (an (.U ii)),.U ii),(.fix 154,.fn)],rs:=[],F:=aa }
def Ni:Go.Shelf.Ren:=⟨λ| 6=>153 | 15=>196 | 14=>195 | 28=>223 | 29=>224 | 20=>215 | 21=>216 | 22=>217 | 23=>218 | 24=>219 | 25=>220 | 26=>221 | 27=>222 | 46=>237 | 47=>238 | 48=>239 | 49=>240 | 50=>241 | 57=>244 | n=>n,λ| 22=>106 | 24=>176 | 25=>234 | 3=>3 | 39=>226 | 0=>0 | 53=>293 | 55=>295 | 4=>4 | 46=>286 | 45=>285 | 50=>290 | 5=>5 | 9=>9 | 66=>306 | 70=>310 | 76=>313 | 77=>223 | n=>n,λ| n=>n⟩
theorem Xu:Go.Proofs.SlLaysF0.n6 Tryz.prog Ni:={
 mixed:=by kernel_rfl
 f6:=⟨Tryz.f153.name,by decide,Tryz.func153.trans (dE some (by kernel_rfl))⟩
 f14:=⟨Tryz.f195.name,by decide,Tryz.func195.trans (dE some (by kernel_rfl))⟩
 f15:=Tryz.func196.trans (dE some (by kernel_rfl))
 f20:=⟨Tryz.f215.name,by decide,Tryz.func215.trans (dE some (by kernel_rfl))⟩
 f21:=⟨Tryz.f216.name,by decide,Tryz.func216.trans (dE some (by kernel_rfl))⟩
 f22:=⟨Tryz.f217.name,by decide,Tryz.func217.trans (dE some (by kernel_rfl))⟩
 f23:=⟨Tryz.f218.name,by decide,Tryz.func218.trans (dE some (by kernel_rfl))⟩
 f24:=⟨Tryz.f219.name,by decide,Tryz.func219.trans (dE some (by kernel_rfl))⟩
 f25:=⟨Tryz.f220.name,by decide,Tryz.func220.trans (dE some (by kernel_rfl))⟩
 f26:=⟨Tryz.f221.name,by decide,Tryz.func221.trans (dE some (by kernel_rfl))⟩
 f27:=⟨Tryz.f222.name,by decide,Tryz.func222.trans (dE some (by kernel_rfl))⟩
 f28:=Tryz.func223.trans (dE some (by kernel_rfl))
 f29:=Tryz.func224.trans (dE some (by kernel_rfl))
 f46:=⟨Tryz.f237.name,by decide,Tryz.func237.trans (dE some (by kernel_rfl))⟩
 f47:=Tryz.func238.trans (dE some (by kernel_rfl))
 f48:=Tryz.func239.trans (dE some (by kernel_rfl))
 f49:=⟨Tryz.f240.name,by decide,Tryz.func240.trans (dE some (by kernel_rfl))⟩
 f50:=⟨Tryz.f241.name,by decide,Tryz.func241.trans (dE some (by kernel_rfl))⟩
 f57:=⟨Tryz.f244.name,by decide,Tryz.func244.trans (dE some (by kernel_rfl))⟩
 t0:=Tryz.underlying0
 a0:=Tryz.isAgg0
 z0:=Tryz.sizeOf0
 v0:=Tryz.zeroValue0
 t3:=Tryz.underlying3
 a3:=Tryz.isAgg3
 z3:=Tryz.sizeOf3
 v3:=Tryz.zeroValue3
 t4:=Tryz.underlying4
 a4:=Tryz.isAgg4
 z4:=Tryz.sizeOf4
 v4:=Tryz.zeroValue4
 t5:=Tryz.underlying5
 a5:=Tryz.isAgg5
 z5:=Tryz.sizeOf5
 v5:=Tryz.zeroValue5
 t9:=Tryz.underlying9
 a9:=Tryz.isAgg9
 z9:=Tryz.sizeOf9
 v9:=Tryz.zeroValue9
 t22:=Tryz.underlying106
 a22:=Tryz.isAgg106
 z22:=Tryz.sizeOf106
 v22:=Tryz.zeroValue106
 t25:=Tryz.underlying234
 a25:=Tryz.isAgg234
 z25:=Tryz.sizeOf234
 v25:=Tryz.zeroValue234
 t39:=Tryz.underlying226
 a39:=Tryz.isAgg226
 z39:=Tryz.sizeOf226
 v39:=Tryz.zeroValue226
 t45:=Tryz.underlying285
 a45:=Tryz.isAgg285
 z45:=Tryz.sizeOf285
 v45:=Tryz.zeroValue285
 t46:=Tryz.underlying286
 a46:=Tryz.isAgg286
 z46:=Tryz.sizeOf286
 v46:=Tryz.zeroValue286
 t50:=Tryz.underlying290
 a50:=Tryz.isAgg290
 z50:=Tryz.sizeOf290
 v50:=Tryz.zeroValue290
 t53:=Tryz.underlying293
 a53:=Tryz.isAgg293
 z53:=Tryz.sizeOf293
 v53:=Tryz.zeroValue293
 t55:=Tryz.underlying295
 a55:=Tryz.isAgg295
 z55:=Tryz.sizeOf295
 v55:=Tryz.zeroValue295
 t66:=Tryz.underlying306
 a66:=Tryz.isAgg306
 z66:=Tryz.sizeOf306
 v66:=Tryz.zeroValue306
 t70:=Tryz.underlying310
 a70:=Tryz.isAgg310
 z70:=Tryz.sizeOf310
 v70:=Tryz.zeroValue310
 t76:=Tryz.underlying313
 a76:=Tryz.isAgg313
 z76:=Tryz.sizeOf313
 v76:=Tryz.zeroValue313
 t77:=Tryz.underlying223
 a77:=Tryz.isAgg223
 z77:=Tryz.sizeOf223
 v77:=Tryz.zeroValue223 }
theorem ok:Ok prog 153 sig:=Xt (e:=ii) Xu rfl rfl (by kernel_rfl) (by decide) (g:=154) (cF:=oG.aa) oG.ok ⟨f153,func153,by kernel_rfl,by kernel_rfl,by kernel_rfl⟩
end oQ
namespace bp
abbrev Arg:Type:=(List (List UInt8))×Unit
abbrev Out:Type:=(List Seen)×Int×Unit
abbrev Y:=Option Out
noncomputable def D:FD:={ fn:=f101,tl:=bd,ps:=[(.ro,(.U (.U u8)))],rs:=[((.U ii),(an (.U ii))),(i64,(ax i64))],gl:=[(97,lp.D.sig),(98,nq.D.sig),(99,kw.D.sig),(100,nO.D.sig),(153,oQ.sig),(156,gd.D.sig)],lv:=[(4,[4,5,6,21,22,23]),(7,[4,5,6,7,8,21,22,23,29,30]),(21,[4,5,6,81,82,83]),(29,[4,5,6,15,101,102,103]),(40,[4,19])],lx:=[(0,[4,5,6]),(2,[4,5,6,21,22,23]),(3,[4,5,6,7,8,21,22,23,29,30]),(5,[4,5,6]),(7,[4]),(9,[4])],od:=[(42,[0,1,2,3,4,5,6,7,8,9,10,11,12])] }
noncomputable def aa (a:Arg):Y:=@lift Out λk=>D.W k a
noncomputable def T0 (a1:Arg) (J:(List Seen)×(List Seen)×(List ((List Int)×Row))×(List (List UInt8))×Int×Int):St:={ n:=148,sl:=[(4,.own (.U ii) (an (.U ii)) [] J.1),(5,.own (.U ii) (an (.U ii)) [] J.2.1),(6,.own (.map (.arr 2 i64) ba) (an (.map (.arr 2 i64) ba)) [] J.2.2.1),(21,.val (.U (.U u8)) J.2.2.2.1),(22,.val i64 J.2.2.2.2.1),(23,.val i64 J.2.2.2.2.2)],vr:=[],az:=[] }
noncomputable def S0 (rec:RT Out) (a1:Arg):((List Seen)×(List Seen)×(List ((List Int)×Row))×(List (List UInt8))×Int×Int)->Y:=λJ=>rec (T0 a1 J)
noncomputable def df (K:KT Out) (a1:Arg):((List Seen)×(List Seen)×(List ((List Int)×Row)))->Y:=λz=>K (.exit 0) ({ n:=148,sl:=[(4,.own (.U ii) (an (.U ii)) [] z.1),(5,.own (.U ii) (an (.U ii)) [] z.2.1),(6,.own (.map (.arr 2 i64) ba) (an (.map (.arr 2 i64) ba)) [] z.2.2)],vr:=[],az:=[] })
noncomputable def T1 (a1:Arg) (ll:Int) (ji:List UInt8) (it:List (List UInt8)) (ek:Int) (ez:Int) (fi:(List Seen)×(List Seen)×(List ((List Int)×Row))×Int):St:={ n:=148,sl:=[(4,.own (.U ii) (an (.U ii)) [] fi.1),(5,.own (.U ii) (an (.U ii)) [] fi.2.1),(6,.own (.map (.arr 2 i64) ba) (an (.map (.arr 2 i64) ba)) [] fi.2.2.1),(7,.val i64 ll),(8,.val (.U u8) ji),(21,.val (.U (.U u8)) it),(22,.val i64 ek),(23,.val i64 ll),(29,.val i64 ez),(30,.val i64 fi.2.2.2)],vr:=[],az:=[] }
noncomputable def b1 (self:((List Seen)×(List Seen)×(List ((List Int)×Row))×Int)->Y) (e2:((List Seen)×(List Seen)×(List ((List Int)×Row)))->Y) (a1:Arg) (ll:Int) (ji:List UInt8) (it:List (List UInt8)) (ek:Int) (ez:Int) (fi:(List Seen)×(List Seen)×(List ((List Int)×Row))×Int):Y:=bif decide (fi.2.2.2 < ez) then ((nq.aa (ji,fi.2.2.2,())).bind λHk=>bif !Hk.1 then (self (fi.1,fi.2.1,fi.2.2.1,af (fi.2.2.2+(1:Int)))) else (nO.aa (ji,fi.2.2.2,())).bind λKc=>(kw.aa (Kc.1,())).bind λoJ=>bif !decide (oJ.1.1=(0:Int)) then (some (([]:List Seen),(5:Int),())) else bif decide (oJ.1.2.1=(0:Int)) then (if fi.1.length+[(oJ.1.2.2.2.2.1,ll,fi.2.2.2,false,ll,fi.2.2.2,())].length<=cc then (let aay:=fi.1++[(oJ.1.2.2.2.2.1,ll,fi.2.2.2,false,ll,fi.2.2.2,())];self (aay,fi.2.1,fi.2.2.1,af (fi.2.2.2+(1:Int)))) else none) else bif decide (oJ.1.2.1=(2:Int)) then (if 0 < (List.replicate 2 (0:Int)).length then (if 1 < ((List.replicate 2 (0:Int)).set 0 ll).length then (let aaz:=nN (.arr 2 i64) fi.2.2.1 (((List.replicate 2 (0:Int)).set 0 ll).set 1 fi.2.2.2) oJ.1.2.2.2.2.1;self (fi.1,fi.2.1,aaz,af (fi.2.2.2+(1:Int)))) else none) else none) else if fi.2.1.length+[(((0:Int),(0:Int),(0:Int),([]:List UInt8),()),ll,fi.2.2.2,true,oJ.1.2.2.1,oJ.1.2.2.2.1,())].length<=cc then (let aaA:=fi.2.1++[(((0:Int),(0:Int),(0:Int),([]:List UInt8),()),ll,fi.2.2.2,true,oJ.1.2.2.1,oJ.1.2.2.2.1,())];self (fi.1,aaA,fi.2.2.1,af (fi.2.2.2+(1:Int)))) else none) else e2 (fi.1,fi.2.1,fi.2.2.1)
noncomputable abbrev B1 (_:Nat):=b1
noncomputable def q0 (self:((List Seen)×(List Seen)×(List ((List Int)×Row))×(List (List UInt8))×Int×Int)->Y) (e0:((List Seen)×(List Seen)×(List ((List Int)×Row)))->Y) (a1:Arg) (ll:Int) (ji:List UInt8) (it:List (List UInt8)) (ek:Int) (ez:Int) (AP:((List Seen)×(List Seen)×(List ((List Int)×Row)))):Y:=self (AP.1,AP.2.1,AP.2.2,it,ek,af (ll+(1:Int)))
noncomputable abbrev Q0 (_:Nat):=q0
noncomputable def s1 (k:Nat) (rec:RT Out) (K:KT Out) (a1:Arg):Int->(List UInt8)->(List (List UInt8))->Int->Int->((List Seen)×(List Seen)×(List ((List Int)×Row))×Int)->Y:=λll ji it ek ez=>λfi=>D.L k [1,1,1,0,1,0,0,1,1,0,0,1,1,0,0] [4,5,6,7,8,21,22,23,29,30] [] (ag 2 (ag 1 (ay (D.N k [1,1,1,0,1,0,0,1,1,1]) (i7 rec (ff [4,5,6,21,22,23] []) K)))) (T1 a1 ll ji it ek ez fi)
noncomputable def r1 (k:Nat) (self:((List Seen)×(List Seen)×(List ((List Int)×Row))×(List (List UInt8))×Int×Int)->Y) (e0:((List Seen)×(List Seen)×(List ((List Int)×Row)))->Y) (a1:Arg):Int->(List UInt8)->(List (List UInt8))->Int->Int->((List Seen)×(List Seen)×(List ((List Int)×Row))×Int)->Y:=λll ji it ek ez=>ak (λw v=>B1 k w (Q0 k self e0 a1 ll ji it ek ez) a1 ll ji it ek ez v) k
theorem mm (k:Nat) (rec:RT Out) (K:KT Out) (a1:Arg):s1 k rec K a1=r1 k (S0 rec a1) (df K a1) a1:=
 funext λll=>funext λji=>funext λit=>funext λek=>funext λez=>funext λfi=>av _ _ _ (T1 a1 ll ji it ek ez) _ (λrec v=>by kernel_rfl) k fi
noncomputable def b0 (self:((List Seen)×(List Seen)×(List ((List Int)×Row))×(List (List UInt8))×Int×Int)->Y) (e0:((List Seen)×(List Seen)×(List ((List Int)×Row)))->Y) (l1:Int->(List UInt8)->(List (List UInt8))->Int->Int->((List Seen)×(List Seen)×(List ((List Int)×Row))×Int)->Y) (a1:Arg) (J:(List Seen)×(List Seen)×(List ((List Int)×Row))×(List (List UInt8))×Int×Int):Y:=bif decide (J.2.2.2.2.2 < J.2.2.2.2.1) then (if 0<=J.2.2.2.2.2 then ((J.2.2.2.1[J.2.2.2.2.2.toNat]?).bind λa7=>(lp.aa (a7,())).bind λdv=>l1 J.2.2.2.2.2 a7 J.2.2.2.1 J.2.2.2.2.1 dv.1 (J.1,J.2.1,J.2.2.1,(0:Int))) else none) else e0 (J.1,J.2.1,J.2.2.1)
noncomputable def B0 (k:Nat) (self:((List Seen)×(List Seen)×(List ((List Int)×Row))×(List (List UInt8))×Int×Int)->Y) (e0:((List Seen)×(List Seen)×(List ((List Int)×Row)))->Y) (a1:Arg) (J:(List Seen)×(List Seen)×(List ((List Int)×Row))×(List (List UInt8))×Int×Int):Y:=b0 self e0 (r1 k self e0 a1) a1 J
theorem ml (k:Nat) (rec:RT Out) (K:KT Out) (a1:Arg) (J:(List Seen)×(List Seen)×(List ((List Int)×Row))×(List (List UInt8))×Int×Int):D.N k [1,1,1,0,1,0,0] (T0 a1 J) (i7 rec (ff [4,5,6,21,22,23] []) K)=B0 k (S0 rec a1) (df K a1) a1 J:=
 aU (b:=b0 (S0 rec a1) (df K a1) (s1 k rec K a1) a1 J) (by kernel_rfl) (by rw[mm];rfl)
noncomputable def T2 (a1:Arg) (j_:List Seen) (jj:List Seen) (jl:List ((List Int)×Row)) (kx:Int) (su:Int):St:={ n:=148,sl:=[(4,.own (.U ii) (an (.U ii)) [] j_),(5,.own (.U ii) (an (.U ii)) [] jj),(6,.own (.map (.arr 2 i64) ba) (an (.map (.arr 2 i64) ba)) [] jl),(81,.ref 5 [] [0,0]),(82,.val i64 kx),(83,.val i64 su)],vr:=[],az:=[] }
noncomputable def S2 (rec:RT Out) (a1:Arg) (j_:List Seen) (jj:List Seen) (jl:List ((List Int)×Row)) (kx:Int):(Int)->Y:=λsu=>rec (T2 a1 j_ jj jl kx su)
noncomputable def Qf (K:KT Out) (a1:Arg) (j_:List Seen) (jj:List Seen) (jl:List ((List Int)×Row)) (kx:Int):(Unit)->Y:=λz=>K (.exit 5) ({ n:=148,sl:=[(4,.own (.U ii) (an (.U ii)) [] j_),(5,.own (.U ii) (an (.U ii)) [] jj),(6,.own (.map (.arr 2 i64) ba) (an (.map (.arr 2 i64) ba)) [] jl)],vr:=[],az:=[] })
noncomputable def b2 (self:Int->Y) (e5:(Unit)->Y) (a1:Arg) (j_:List Seen) (jj:List Seen) (jl:List ((List Int)×Row)) (kx:Int) (su:Int):Y:=bif decide (su < kx) then (if 0<=su/\su < (jj.length:Int) then ((jj[su.toNat]?).bind λHo=>if 0 < (List.replicate 2 (0:Int)).length then (if 1 < ((List.replicate 2 (0:Int)).set 0 Ho.2.2.2.2.1).length then (let ab0:=zx (jk (.arr 2 i64) jl (((List.replicate 2 (0:Int)).set 0 Ho.2.2.2.2.1).set 1 Ho.2.2.2.2.2.1)) ((0:Int),(0:Int),(0:Int),([]:List UInt8),());bif !(jk (.arr 2 i64) jl (((List.replicate 2 (0:Int)).set 0 Ho.2.2.2.2.1).set 1 Ho.2.2.2.2.2.1)).isSome then (some (([]:List Seen),(4:Int),())) else self (af (su+(1:Int)))) else none) else none) else none) else e5 ()
noncomputable abbrev B2 (_:Nat):=b2
theorem P8 (k:Nat) (rec:RT Out) (K:KT Out) (a1:Arg) (j_:List Seen) (jj:List Seen) (jl:List ((List Int)×Row)) (kx:Int) (su:Int):D.N k [1,1,1,1,0,1,0,0] (T2 a1 j_ jj jl kx su) (i7 rec (ff [4,5,6,81,82,83] []) K)=b2 (S2 rec a1 j_ jj jl kx) (Qf K a1 j_ jj jl kx) a1 j_ jj jl kx su:=by kernel_rfl
noncomputable def T3 (a1:Arg) (ka:List Seen) (ky:List ((List Int)×Row)) (kC:Int) (oR:(List Seen)×(List ((List Int)×Bool))×Int):St:={ n:=148,sl:=[(4,.own (.U ii) (an (.U ii)) [] oR.1),(5,.own (.U ii) (an (.U ii)) [] ka),(6,.own (.map (.arr 2 i64) ba) (an (.map (.arr 2 i64) ba)) [] ky),(15,.own (.map (.arr 2 i64) .bool) (an (.map (.arr 2 i64) .bool)) [] oR.2.1),(101,.ref 5 [] [0,0]),(102,.val i64 kC),(103,.val i64 oR.2.2)],vr:=[],az:=[] }
noncomputable def S3 (rec:RT Out) (a1:Arg) (ka:List Seen) (ky:List ((List Int)×Row)) (kC:Int):((List Seen)×(List ((List Int)×Bool))×Int)->Y:=λoR=>rec (T3 a1 ka ky kC oR)
noncomputable def Qg (K:KT Out) (a1:Arg) (ka:List Seen) (ky:List ((List Int)×Row)) (kC:Int):(List Seen)->Y:=λz=>K (.exit 7) ({ n:=148,sl:=[(4,.own (.U ii) (an (.U ii)) [] z)],vr:=[],az:=[] })
noncomputable def b3 (self:((List Seen)×(List ((List Int)×Bool))×Int)->Y) (e7:(List Seen)->Y) (a1:Arg) (ka:List Seen) (ky:List ((List Int)×Row)) (kC:Int) (oR:(List Seen)×(List ((List Int)×Bool))×Int):Y:=bif decide (oR.2.2 < kC) then (if 0<=oR.2.2/\oR.2.2 < (ka.length:Int) then ((ka[oR.2.2.toNat]?).bind λHq=>if 0 < (List.replicate 2 (0:Int)).length then (if 1 < ((List.replicate 2 (0:Int)).set 0 Hq.2.2.2.2.1).length then (let Qh:=((List.replicate 2 (0:Int)).set 0 Hq.2.2.2.2.1).set 1 Hq.2.2.2.2.2.1;bif zx (jk (.arr 2 i64) oR.2.1 Qh) false then (some (([]:List Seen),(6:Int),())) else let WA:=zx (jk (.arr 2 i64) ky Qh) ((0:Int),(0:Int),(0:Int),([]:List UInt8),());if oR.1.length+[(WA,Hq.2)].length<=cc then (self (oR.1++[(WA,Hq.2)],nN (.arr 2 i64) oR.2.1 Qh true,af (oR.2.2+(1:Int)))) else none) else none) else none) else none) else e7 oR.1
noncomputable abbrev B3 (_:Nat):=b3
theorem aaB (k:Nat) (rec:RT Out) (K:KT Out) (a1:Arg) (ka:List Seen) (ky:List ((List Int)×Row)) (kC:Int) (oR:(List Seen)×(List ((List Int)×Bool))×Int):D.N k [1,1,1,1,1,1,0,1,0,0] (T3 a1 ka ky kC oR) (i7 rec (ff [4,5,6,15,101,102,103] []) K)=b3 (S3 rec a1 ka ky kC) (Qg K a1 ka ky kC) a1 ka ky kC oR:=by kernel_rfl
noncomputable def T4 (a1:Arg) (sv:List Seen) (uf:Int):St:={ n:=148,sl:=[(4,.own (.U ii) (an (.U ii)) [] sv),(19,.val i64 uf)],vr:=[],az:=[] }
noncomputable def b4 (self:Int->Y) (e9:(Unit)->Y) (a1:Arg) (sv:List Seen) (uf:Int):Y:=bif decide (uf < (sv.length:Int)) then (if 0<=af (uf - (1:Int))/\af (uf - (1:Int)) < (sv.length:Int) then ((sv[(af (uf - (1:Int))).toNat]?).bind λaaC=>if 0<=uf/\uf < (sv.length:Int) then ((sv[uf.toNat]?).bind λaaD=>(gd.aa (aaC.1,aaD.1,())).bind λaaE=>bif !aaE.1 then (some (([]:List Seen),(8:Int),())) else self (af (uf+(1:Int)))) else none) else none) else e9 ()
noncomputable abbrev B4 (_:Nat):=b4
noncomputable def q4 (a1:Arg) (sv:List Seen) (ab1:(Unit)):Y:=some (sv,(0:Int),())
noncomputable abbrev Q4 (_:Nat):=q4
noncomputable def s4 (k:Nat) (a1:Arg) (ka:List Seen) (ky:List ((List Int)×Row)) (kC:Int):(List Seen)->(Int)->Y:=λsv=>λuf=>D.L k [1,1,1,1,1,1,1,1,0,1,0,0] [4,19] [] (ag 9 (ay (D.N k [1,1,1,1,1,1,1,1,1]) D.K0)) (T4 a1 sv uf)
noncomputable def r4 (k:Nat) (a1:Arg) (ka:List Seen) (ky:List ((List Int)×Row)) (kC:Int):(List Seen)->(Int)->Y:=λsv=>ak (λw v=>B4 k w (Q4 k a1 sv) a1 sv v) k
theorem aaF (k:Nat) (a1:Arg) (ka:List Seen) (ky:List ((List Int)×Row)) (kC:Int):s4 k a1 ka ky kC=r4 k a1 ka ky kC:=
 funext λsv=>funext λuf=>av _ _ _ (T4 a1 sv) _ (λrec v=>by kernel_rfl) k uf
noncomputable def q3 (l4:(List Seen)->(Int)->Y) (a1:Arg) (ka:List Seen) (ky:List ((List Int)×Row)) (kC:Int) (Cs:(List Seen)):Y:=(oQ.aa (Cs,((154,0):Nat×Int),())).bind λaaG=>l4 aaG.1 (1:Int)
noncomputable def Q3 (k:Nat) (a1:Arg) (ka:List Seen) (ky:List ((List Int)×Row)) (kC:Int) (Cs:(List Seen)):Y:=q3 (r4 k a1 ka ky kC) a1 ka ky kC Cs
theorem P9 (k:Nat) (a1:Arg) (ka:List Seen) (ky:List ((List Int)×Row)) (kC:Int) (Cs:(List Seen)):Qg (ag 7 (ay (D.N k [1,1,1,1,1,1,1]) D.K0)) a1 ka ky kC Cs=Q3 k a1 ka ky kC Cs:=
 aU (b:=q3 (s4 k a1 ka ky kC) a1 ka ky kC Cs) (by kernel_rfl) (by rw[aaF];rfl)
noncomputable def s3 (k:Nat) (a1:Arg) (j_:List Seen) (jj:List Seen) (jl:List ((List Int)×Row)) (kx:Int):(List Seen)->(List ((List Int)×Row))->Int->((List Seen)×(List ((List Int)×Bool))×Int)->Y:=λka ky kC=>λoR=>D.L k [1,1,1,1,1,1,0,1,0,0] [4,5,6,15,101,102,103] [] (ag 7 (ay (D.N k [1,1,1,1,1,1,1]) D.K0)) (T3 a1 ka ky kC oR)
noncomputable def r3 (k:Nat) (a1:Arg) (j_:List Seen) (jj:List Seen) (jl:List ((List Int)×Row)) (kx:Int):(List Seen)->(List ((List Int)×Row))->Int->((List Seen)×(List ((List Int)×Bool))×Int)->Y:=λka ky kC=>ak (λw v=>B3 k w (Q3 k a1 ka ky kC) a1 ka ky kC v) k
theorem P7 (k:Nat) (a1:Arg) (j_:List Seen) (jj:List Seen) (jl:List ((List Int)×Row)) (kx:Int):s3 k a1 j_ jj jl kx=r3 k a1 j_ jj jl kx:=by
 funext ka;funext ky;funext kC;funext oR;have h7:Qg (ag 7 (ay (D.N k [1,1,1,1,1,1,1]) D.K0)) a1 ka ky kC=Q3 k a1 ka ky kC:=funext λz=>P9 k a1 ka ky kC z;refine (av _ _ _ (T3 a1 ka ky kC) (λself v=>B3 k self (Qg (ag 7 (ay (D.N k [1,1,1,1,1,1,1]) D.K0)) a1 ka ky kC) a1 ka ky kC v) (λrec v=>aaB k rec (ag 7 (ay (D.N k [1,1,1,1,1,1,1]) D.K0)) a1 ka ky kC v) k oR).trans ?_;rw[h7];rfl
noncomputable def q2 (l3:(List Seen)->(List ((List Int)×Row))->Int->((List Seen)×(List ((List Int)×Bool))×Int)->Y) (a1:Arg) (j_:List Seen) (jj:List Seen) (jl:List ((List Int)×Row)) (kx:Int) (EJ:(Unit)):Y:=l3 jj jl (jj.length:Int) (j_,([]:List ((List Int)×Bool)),(0:Int))
noncomputable def Q2 (k:Nat) (a1:Arg) (j_:List Seen) (jj:List Seen) (jl:List ((List Int)×Row)) (kx:Int) (EJ:(Unit)):Y:=q2 (r3 k a1 j_ jj jl kx) a1 j_ jj jl kx EJ
theorem uX (k:Nat) (a1:Arg) (j_:List Seen) (jj:List Seen) (jl:List ((List Int)×Row)) (kx:Int) (EJ:(Unit)):Qf (ag 5 (ay (D.N k [1,1,1,1,1]) D.K0)) a1 j_ jj jl kx EJ=Q2 k a1 j_ jj jl kx EJ:=
 aU (b:=q2 (s3 k a1 j_ jj jl kx) a1 j_ jj jl kx EJ) (by kernel_rfl) (by rw[P7];rfl)
noncomputable def s2 (k:Nat) (a1:Arg):(List Seen)->(List Seen)->(List ((List Int)×Row))->Int->(Int)->Y:=λj_ jj jl kx=>λsu=>D.L k [1,1,1,1,0,1,0,0] [4,5,6,81,82,83] [] (ag 5 (ay (D.N k [1,1,1,1,1]) D.K0)) (T2 a1 j_ jj jl kx su)
noncomputable def r2 (k:Nat) (a1:Arg):(List Seen)->(List Seen)->(List ((List Int)×Row))->Int->(Int)->Y:=λj_ jj jl kx=>ak (λw v=>B2 k w (Q2 k a1 j_ jj jl kx) a1 j_ jj jl kx v) k
theorem rT (k:Nat) (a1:Arg):s2 k a1=r2 k a1:=by
 funext j_;funext jj;funext jl;funext kx;funext su;have h5:Qf (ag 5 (ay (D.N k [1,1,1,1,1]) D.K0)) a1 j_ jj jl kx=Q2 k a1 j_ jj jl kx:=funext λz=>uX k a1 j_ jj jl kx z;refine (av _ _ _ (T2 a1 j_ jj jl kx) (λself v=>B2 k self (Qf (ag 5 (ay (D.N k [1,1,1,1,1]) D.K0)) a1 j_ jj jl kx) a1 j_ jj jl kx v) (λrec v=>P8 k rec (ag 5 (ay (D.N k [1,1,1,1,1]) D.K0)) a1 j_ jj jl kx v) k su).trans ?_;rw[h5];rfl
noncomputable def q1 (l2:(List Seen)->(List Seen)->(List ((List Int)×Row))->Int->(Int)->Y) (a1:Arg) (xN:((List Seen)×(List Seen)×(List ((List Int)×Row)))):Y:=l2 xN.1 xN.2.1 xN.2.2 (xN.2.1.length:Int) (0:Int)
noncomputable def Q1 (k:Nat) (a1:Arg) (xN:((List Seen)×(List Seen)×(List ((List Int)×Row)))):Y:=q1 (r2 k a1) a1 xN
theorem td (k:Nat) (a1:Arg) (xN:((List Seen)×(List Seen)×(List ((List Int)×Row)))):df (ag 0 (ay (D.N k [1,1,1,1]) D.K0)) a1 xN=Q1 k a1 xN:=
 aU (b:=q1 (s2 k a1) a1 xN) (by kernel_rfl) (by rw[rT];rfl)
noncomputable def s0 (k:Nat) (a1:Arg):((List Seen)×(List Seen)×(List ((List Int)×Row))×(List (List UInt8))×Int×Int)->Y:=λJ=>D.L k [1,1,1,0,1,0,0] [4,5,6,21,22,23] [] (ag 0 (ay (D.N k [1,1,1,1]) D.K0)) (T0 a1 J)
noncomputable def r0 (k:Nat) (a1:Arg):((List Seen)×(List Seen)×(List ((List Int)×Row))×(List (List UInt8))×Int×Int)->Y:=ak (λw v=>B0 k w (Q1 k a1) a1 v) k
theorem aw (k:Nat) (a1:Arg):s0 k a1=r0 k a1:=by
 funext J;have h0:df (ag 0 (ay (D.N k [1,1,1,1]) D.K0)) a1=Q1 k a1:=funext λz=>td k a1 z;refine (av _ _ _ (T0 a1) (λself v=>B0 k self (df (ag 0 (ay (D.N k [1,1,1,1]) D.K0)) a1) a1 v) (λrec v=>ml k rec (ag 0 (ay (D.N k [1,1,1,1]) D.K0)) a1 v) k J).trans ?_;rw[h0];rfl
noncomputable def p (l0:((List Seen)×(List Seen)×(List ((List Int)×Row))×(List (List UInt8))×Int×Int)->Y) (a1:Arg):Y:=l0 (([]:List Seen),([]:List Seen),([]:List ((List Int)×Row)),a1.1,(a1.1.length:Int),(0:Int))
theorem ae (k:Nat) (a1:Arg):@Eq Y (D.W k a1) (p (r0 k a1) a1):=
 aU (b:=p (s0 k a1) a1) (by kernel_rfl) (by rw[aw])
theorem ok:Ok prog 101 D.sig:=au func101 aT (by kernel_rfl) (fc lp.ok (fc nq.ok (fc kw.ok (fc nO.ok (fc oQ.ok (fc gd.ok (aj _)))))))
end bp
namespace eh
abbrev Arg:Type:=(List (List UInt8))×Unit
abbrev Out:Type:=(List Seen)×Int×Unit
abbrev Y:=Option Out
noncomputable def D:FD:={ fn:=f53,tl:=bd,ps:=[(.ro,(.U (.U u8)))],rs:=[((.U ii),(an (.U ii))),(i64,(ax i64))],gl:=[(96,bq.D.sig),(97,lp.D.sig),(98,nq.D.sig),(99,kw.D.sig),(100,nO.D.sig),(101,bp.D.sig)],lv:=[(4,[0,11,12,13]),(10,[0,5,11,12,13,23,24])],lx:=[(0,[0]),(2,[0,11,12,13])] }
noncomputable def aa (a:Arg):Y:=@lift Out λk=>D.W k a
noncomputable def T0 (a1:Arg) (J:(List (List UInt8))×(List (List UInt8))×Int×Int):St:={ n:=44,sl:=[(0,.val (.U (.U u8)) J.1),(11,.val (.U (.U u8)) J.2.1),(12,.val i64 J.2.2.1),(13,.val i64 J.2.2.2)],vr:=[],az:=[] }
noncomputable def S0 (rec:RT Out) (a1:Arg):((List (List UInt8))×(List (List UInt8))×Int×Int)->Y:=λJ=>rec (T0 a1 J)
noncomputable def df (K:KT Out) (a1:Arg):(List (List UInt8))->Y:=λz=>K (.exit 0) ({ n:=44,sl:=[(0,.val (.U (.U u8)) z)],vr:=[],az:=[] })
noncomputable def T1 (a1:Arg) (ji:List (List UInt8)) (it:List UInt8) (ek:List (List UInt8)) (ez:Int) (oK:Int) (wS:Int) (ef:Int):St:={ n:=44,sl:=[(0,.val (.U (.U u8)) ji),(5,.val (.U u8) it),(11,.val (.U (.U u8)) ek),(12,.val i64 ez),(13,.val i64 oK),(23,.val i64 wS),(24,.val i64 ef)],vr:=[],az:=[] }
noncomputable def b1 (self:Int->Y) (e2:(Unit)->Y) (a1:Arg) (ji:List (List UInt8)) (it:List UInt8) (ek:List (List UInt8)) (ez:Int) (oK:Int) (wS:Int) (ef:Int):Y:=bif decide (ef < wS) then ((nq.aa (it,ef,())).bind λoJ=>bif oJ.1 then ((nO.aa (it,ef,())).bind λHl=>(kw.aa (Hl.1,())).bind λaaH=>bif !decide (aaH.1.1=(0:Int)) then (some (([]:List Seen),(5:Int),())) else self (af (ef+(1:Int)))) else self (af (ef+(1:Int)))) else e2 ()
noncomputable def q0 (self:((List (List UInt8))×(List (List UInt8))×Int×Int)->Y) (e0:(List (List UInt8))->Y) (a1:Arg) (ji:List (List UInt8)) (it:List UInt8) (ek:List (List UInt8)) (ez:Int) (oK:Int) (wS:Int) (Kb:(Unit)):Y:=self (ji,ek,ez,af (oK+(1:Int)))
noncomputable def s1 (k:Nat) (rec:RT Out) (K:KT Out) (a1:Arg):(List (List UInt8))->(List UInt8)->(List (List UInt8))->Int->Int->Int->(Int)->Y:=λji it ek ez oK wS=>λef=>D.L k [1,1,0,1,0,0,1,1,0,0,1,1,1,0,0] [0,5,11,12,13,23,24] [] (ag 2 (ag 1 (ay (D.N k [1,1,0,1,0,0,1,1,1]) (i7 rec (ff [0,11,12,13] []) K)))) (T1 a1 ji it ek ez oK wS ef)
noncomputable def r1 (k:Nat) (self:((List (List UInt8))×(List (List UInt8))×Int×Int)->Y) (e0:(List (List UInt8))->Y) (a1:Arg):(List (List UInt8))->(List UInt8)->(List (List UInt8))->Int->Int->Int->(Int)->Y:=λji it ek ez oK wS=>ak (λw v=>b1 w (q0 self e0 a1 ji it ek ez oK wS) a1 ji it ek ez oK wS v) k
theorem mm (k:Nat) (rec:RT Out) (K:KT Out) (a1:Arg):s1 k rec K a1=r1 k (S0 rec a1) (df K a1) a1:=
 funext λji=>funext λit=>funext λek=>funext λez=>funext λoK=>funext λwS=>funext λef=>av _ _ _ (T1 a1 ji it ek ez oK wS) _ (λrec v=>by kernel_rfl) k ef
noncomputable def b0 (self:((List (List UInt8))×(List (List UInt8))×Int×Int)->Y) (e0:(List (List UInt8))->Y) (l1:(List (List UInt8))->(List UInt8)->(List (List UInt8))->Int->Int->Int->(Int)->Y) (a1:Arg) (J:(List (List UInt8))×(List (List UInt8))×Int×Int):Y:=bif decide (J.2.2.2 < J.2.2.1) then (if 0<=J.2.2.2 then ((J.2.1[J.2.2.2.toNat]?).bind λa7=>(bq.aa (a7,())).bind λdv=>bif !decide (dv.1=(0:Int)) then (some (([]:List Seen),dv.1,())) else (lp.aa (a7,())).bind λjZ=>l1 J.1 a7 J.2.1 J.2.2.1 J.2.2.2 jZ.1 (0:Int)) else none) else e0 J.1
noncomputable def B0 (k:Nat) (self:((List (List UInt8))×(List (List UInt8))×Int×Int)->Y) (e0:(List (List UInt8))->Y) (a1:Arg) (J:(List (List UInt8))×(List (List UInt8))×Int×Int):Y:=b0 self e0 (r1 k self e0 a1) a1 J
theorem ml (k:Nat) (rec:RT Out) (K:KT Out) (a1:Arg) (J:(List (List UInt8))×(List (List UInt8))×Int×Int):D.N k [1,1,0,1,0,0] (T0 a1 J) (i7 rec (ff [0,11,12,13] []) K)=B0 k (S0 rec a1) (df K a1) a1 J:=
 aU (b:=b0 (S0 rec a1) (df K a1) (s1 k rec K a1) a1 J) (by kernel_rfl) (by rw[mm];rfl)
noncomputable def q1 (a1:Arg) (AP:(List (List UInt8))):Y:=(bp.aa (AP,())).bind λWB=>some (WB.1,WB.2.1,())
theorem td (k:Nat) (a1:Arg) (AP:(List (List UInt8))):df (ag 0 (ay (D.N k [1,1,1]) D.K0)) a1 AP=q1 a1 AP:=by kernel_rfl
noncomputable def s0 (k:Nat) (a1:Arg):((List (List UInt8))×(List (List UInt8))×Int×Int)->Y:=λJ=>D.L k [1,1,0,1,0,0] [0,11,12,13] [] (ag 0 (ay (D.N k [1,1,1]) D.K0)) (T0 a1 J)
noncomputable def r0 (k:Nat) (a1:Arg):((List (List UInt8))×(List (List UInt8))×Int×Int)->Y:=ak (λw v=>B0 k w (q1 a1) a1 v) k
theorem aw (k:Nat) (a1:Arg):s0 k a1=r0 k a1:=by
 funext J;have h0:df (ag 0 (ay (D.N k [1,1,1]) D.K0)) a1=q1 a1:=funext λz=>td k a1 z;refine (av _ _ _ (T0 a1) (λself v=>B0 k self (df (ag 0 (ay (D.N k [1,1,1]) D.K0)) a1) a1 v) (λrec v=>ml k rec (ag 0 (ay (D.N k [1,1,1]) D.K0)) a1 v) k J).trans ?_;rw[h0];rfl
noncomputable def p (l0:((List (List UInt8))×(List (List UInt8))×Int×Int)->Y) (a1:Arg):Y:=bif decide ((12:Int) < (a1.1.length:Int)) then (some (([]:List Seen),(2:Int),())) else l0 (a1.1,a1.1,(a1.1.length:Int),(0:Int))
theorem ae (k:Nat) (a1:Arg):@Eq Y (D.W k a1) (p (r0 k a1) a1):=
 aU (b:=p (s0 k a1) a1) (by kernel_rfl) (by rw[aw])
theorem ok:Ok prog 53 D.sig:=au func53 aT (by kernel_rfl) (fc bq.ok (fc lp.ok (fc nq.ok (fc kw.ok (fc nO.ok (fc bp.ok (aj _)))))))
end eh
namespace e8
abbrev Arg:Type:=(List Row)×Unit
abbrev Out:Type:=Int×Unit
abbrev Y:=Option Out
noncomputable def D:FD:={ fn:=f102,tl:=bd,ps:=[(.ro,(.U ba))],rs:=[(i64,(ax i64))],gl:=[(152,du.D.sig),(156,gd.D.sig)],lv:=[(4,[0,9,10,11])],lx:=[(0,[])],od:=[(9,[0,1,2,3,4,5,6,7,8,9,10,11])] }
noncomputable def aa (a:Arg):Y:=@lift Out λk=>D.W k a
noncomputable def T0 (a1:Arg) (J:Int):St:={ n:=34,sl:=[(0,.val (.U ba) a1.1),(9,.val (.U ba) a1.1),(10,.val i64 (a1.1.length:Int)),(11,.val i64 J)],vr:=[],az:=[] }
noncomputable def b0 (self:Int->Y) (e0:(Unit)->Y) (a1:Arg) (J:Int):Y:=bif decide (J < (a1.1.length:Int)) then (if 0<=J then ((a1.1[J.toNat]?).bind λa7=>(du.aa (a7,())).bind λdv=>bif !decide (dv.1=(0:Int)) then (some (dv.1,())) else bif decide ((0:Int) < J) then (if 0<=af (J - (1:Int)) then ((a1.1[(af (J - (1:Int))).toNat]?).bind λeo=>(gd.aa (eo,a7,())).bind λph=>bif !ph.1 then (some ((1:Int),())) else self (af (J+(1:Int)))) else none) else self (af (J+(1:Int)))) else none) else e0 ()
noncomputable def q0 (a1:Arg) (mO:(Unit)):Y:=some ((0:Int),())
noncomputable def s0 (k:Nat) (a1:Arg):(Int)->Y:=λJ=>D.L k [1,1,0,1,0,0] [0,9,10,11] [] (ag 0 (ay (D.N k [1,1,1]) D.K0)) (T0 a1 J)
noncomputable def r0 (k:Nat) (a1:Arg):(Int)->Y:=ak (λw v=>b0 w (q0 a1) a1 v) k
theorem aw (k:Nat) (a1:Arg):s0 k a1=r0 k a1:=
 funext λJ=>av _ _ _ (T0 a1) _ (λrec v=>by kernel_rfl) k J
noncomputable def p (l0:(Int)->Y) (a1:Arg):Y:=bif decide ((60:Int) < (a1.1.length:Int)) then (some ((2:Int),())) else l0 (0:Int)
theorem ae (k:Nat) (a1:Arg):@Eq Y (D.W k a1) (p (r0 k a1) a1):=
 aU (b:=p (s0 k a1) a1) (by kernel_rfl) (by rw[aw])
theorem ok:Ok prog 102 D.sig:=au func102 aT (by kernel_rfl) (fc du.ok (fc gd.ok (aj _)))
end e8
namespace kE
abbrev Arg:Type:=Change×Unit
abbrev Out:Type:=Int×Unit
noncomputable def D:FD:={ fn:=f201,tl:=bd,ps:=[(.ro,ai)],rs:=[(i64,(ax i64))],gl:=[(152,du.D.sig),(155,ij.D.sig)] }
noncomputable def aa (a:Arg):Option Out:=@lift Out λk=>D.W k a
noncomputable def p (a1:Arg):Option Out:=let j7:Option Out:=bif a1.1.1 then ((du.aa (a1.1.2.1,())).bind λr8=>bif !decide (r8.1=(0:Int)) then (some (r8.1,())) else bif a1.1.2.2.1 then ((du.aa (a1.1.2.2.2.1,())).bind λDX=>some (DX.1,())) else some ((0:Int),())) else bif a1.1.2.2.1 then ((du.aa (a1.1.2.2.2.1,())).bind λJs=>some (Js.1,())) else some ((0:Int),());bif !a1.1.1 then (bif !a1.1.2.2.1 then (some ((1:Int),())) else bif a1.1.1 then (bif a1.1.2.2.1 then ((ij.aa (a1.1.2.1,a1.1.2.2.2.1,())).bind λr2=>bif !decide (r2.1=(0:Int)) then (some ((1:Int),())) else j7) else j7) else j7) else bif a1.1.1 then (bif a1.1.2.2.1 then ((ij.aa (a1.1.2.1,a1.1.2.2.2.1,())).bind λr3=>bif !decide (r3.1=(0:Int)) then (some ((1:Int),())) else j7) else j7) else j7
theorem ae (k:Nat) (a1:Arg):@Eq (Option Out) (D.W k a1) (p a1):=by kernel_rfl
theorem ok:Ok prog 201 D.sig:=au func201 aT (by kernel_rfl) (fc du.ok (fc ij.ok (aj _)))
end kE
namespace gy
abbrev Arg:Type:=Change×Unit
abbrev Out:Type:=Int×Unit
noncomputable def D:FD:={ fn:=f197,tl:=bd,ps:=[(.ro,ai)],rs:=[(i64,(ax i64))],gl:=[(201,kE.D.sig)] }
noncomputable def aa (a:Arg):Option Out:=@lift Out λk=>D.W k a
noncomputable def p (a1:Arg):Option Out:=(kE.aa (a1.1,())).bind λr2=>bif !decide (r2.1=(0:Int)) then (some (r2.1,())) else bif a1.1.1 then (bif a1.1.2.2.1 then (bif (Ty.eq ba a1.1.2.1 a1.1.2.2.2.1) then (some ((1:Int),())) else some ((0:Int),())) else some ((0:Int),())) else some ((0:Int),())
theorem ae (k:Nat) (a1:Arg):@Eq (Option Out) (D.W k a1) (p a1):=by kernel_rfl
theorem ok:Ok prog 197 D.sig:=au func197 aT (by kernel_rfl) (fc kE.ok (aj _))
end gy
namespace jt
abbrev Arg:Type:=(List Key)×Key×Unit
abbrev Out:Type:=Int×Unit
abbrev Y:=Option Out
noncomputable def D:FD:={ fn:=f225,tl:=bd,ps:=[(.ro,(.U bh)),(.ro,bh)],rs:=[(i64,(ax i64))],lv:=[(2,[0,3,7,8])],lx:=[(0,[])],od:=[(4,[0,1,2,3,4,5])] }
noncomputable def aa (a:Arg):Y:=@lift Out λk=>D.W k a
noncomputable def T0 (a1:Arg) (J:Int):St:={ n:=19,sl:=[(0,.val (.U bh) a1.1),(3,.box bh (ax bh) [] a1.2.1),(7,.val i64 (a1.1.length:Int)),(8,.val i64 J)],vr:=[],az:=[] }
noncomputable def b0 (self:Int->Y) (e0:(Unit)->Y) (a1:Arg) (J:Int):Y:=bif decide (J < (a1.1.length:Int)) then (if 0<=J then ((a1.1[J.toNat]?).bind λa7=>bif (Ty.eq bh a1.2.1 a7) then (some (J,())) else self (af (J+(1:Int)))) else none) else e0 ()
noncomputable def q0 (a1:Arg) (oC:(Unit)):Y:=some ((-1:Int),())
noncomputable def s0 (k:Nat) (a1:Arg):(Int)->Y:=λJ=>D.L k [1,0,1,0,0] [0,3,7,8] [] (ag 0 (ay (D.N k [1,1]) D.K0)) (T0 a1 J)
noncomputable def r0 (k:Nat) (a1:Arg):(Int)->Y:=ak (λw v=>b0 w (q0 a1) a1 v) k
theorem aw (k:Nat) (a1:Arg):s0 k a1=r0 k a1:=
 funext λJ=>av _ _ _ (T0 a1) _ (λrec v=>by kernel_rfl) k J
noncomputable def p (l0:(Int)->Y) (a1:Arg):Y:=l0 (0:Int)
theorem ae (k:Nat) (a1:Arg):@Eq Y (D.W k a1) (p (r0 k a1) a1):=
 aU (b:=p (s0 k a1) a1) (by kernel_rfl) (by rw[aw])
theorem ok:Ok prog 225 D.sig:=au func225 aT (by kernel_rfl) (aj _)
end jt
namespace kL
abbrev Arg:Type:=(List Key)×Key×Unit
abbrev Out:Type:=Bool×Unit
noncomputable def D:FD:={ fn:=f198,tl:=bd,ps:=[(.ro,(.U bh)),(.ro,bh)],rs:=[(.bool,(ax .bool))],gl:=[(225,jt.D.sig)] }
noncomputable def aa (a:Arg):Option Out:=@lift Out λk=>D.W k a
noncomputable def p (a1:Arg):Option Out:=(jt.aa (a1.1,a1.2.1,())).bind λr2=>some (decide ((0:Int)<=r2.1),())
theorem ae (k:Nat) (a1:Arg):@Eq (Option Out) (D.W k a1) (p a1):=by kernel_rfl
theorem ok:Ok prog 198 D.sig:=au func198 aT (by kernel_rfl) (fc jt.ok (aj _))
end kL
namespace cx
abbrev Arg:Type:=Change×Unit
abbrev Out:Type:=Row×Unit
noncomputable def D:FD:={ fn:=f226,tl:=bd,ps:=[(.ro,ai)],rs:=[(ba,(ax ba))] }
noncomputable def aa (a:Arg):Option Out:=@lift Out λk=>D.W k a
noncomputable def p (a1:Arg):Option Out:=bif a1.1.2.2.1 then (some (a1.1.2.2.2.1,())) else some (a1.1.2.1,())
theorem ae (k:Nat) (a1:Arg):@Eq (Option Out) (D.W k a1) (p a1):=by kernel_rfl
theorem ok:Ok prog 226 D.sig:=au func226 aT (by kernel_rfl) (aj _)
end cx
namespace nr
abbrev Arg:Type:=Change×Unit
abbrev Out:Type:=Key×Unit
noncomputable def D:FD:={ fn:=f199,tl:=bd,ps:=[(.ro,ai)],rs:=[(bh,(ax bh))],gl:=[(226,cx.D.sig)],od:=[(1,[0,3,1,2,4,5,6,7])] }
noncomputable def aa (a:Arg):Option Out:=@lift Out λk=>D.W k a
noncomputable def p (a1:Arg):Option Out:=(cx.aa (a1.1,())).bind λr2=>(cx.aa (a1.1,())).bind λr3=>some ((r2.1.1,r3.1.2.1,()),())
theorem ae (k:Nat) (a1:Arg):@Eq (Option Out) (D.W k a1) (p a1):=by kernel_rfl
theorem ok:Ok prog 199 D.sig:=au func199 aT (by kernel_rfl) (fc cx.ok (aj _))
end nr
namespace rX
abbrev Arg:Type:=Int×Int×Unit
abbrev Out:Type:=Bool×Unit
noncomputable def D:FD:={ fn:=f200,tl:=bd,ps:=[(.ro,i64),(.ro,i64)],rs:=[(.bool,(ax .bool))],gl:=[(52,fy.D.sig)] }
noncomputable def aa (a:Arg):Option Out:=@lift Out λk=>D.W k a
noncomputable def p (a1:Arg):Option Out:=(fy.aa (a1.1,(0:Int),(3:Int),())).bind λr2=>bif r2.1 then ((fy.aa (a1.2.1,(1:Int),(99:Int),())).bind λr3=>some (r3.1,())) else some (false,())
theorem ae (k:Nat) (a1:Arg):@Eq (Option Out) (D.W k a1) (p a1):=by kernel_rfl
theorem ok:Ok prog 200 D.sig:=au func200 aT (by kernel_rfl) (fc fy.ok (aj _))
end rX
namespace da
abbrev Arg:Type:=Tx×Unit
abbrev Out:Type:=Int×Unit
abbrev Y:=Option Out
noncomputable def D:FD:={ fn:=f158,tl:=bd,ps:=[(.ro,de)],rs:=[(i64,(ax i64))],gl:=[(52,fy.D.sig),(197,gy.D.sig),(198,kL.D.sig),(199,nr.D.sig),(200,rX.D.sig)],lv:=[(2,[1,12,13,14]),(14,[1,6,41,42,43]),(21,[1,57,58,59])],lx:=[(0,[1]),(2,[1]),(4,[])],od:=[(7,[0,1,2,3,4,5]),(25,[0,1,2,3,4,5])] }
noncomputable def aa (a:Arg):Y:=@lift Out λk=>D.W k a
noncomputable def T0 (a1:Arg) (J:Int):St:={ n:=77,sl:=[(1,.box de (ax de) [] a1.1),(12,.val (.U ai) a1.1.2.1),(13,.val i64 (a1.1.2.1.length:Int)),(14,.val i64 J)],vr:=[],az:=[] }
noncomputable def S0 (rec:RT Out) (a1:Arg):(Int)->Y:=λJ=>rec (T0 a1 J)
noncomputable def df (K:KT Out) (a1:Arg):(Unit)->Y:=λz=>K (.exit 0) ({ n:=77,sl:=[(1,.box de (ax de) [] a1.1)],vr:=[],az:=[] })
noncomputable def b0 (self:Int->Y) (e0:(Unit)->Y) (a1:Arg) (J:Int):Y:=bif decide (J < (a1.1.2.1.length:Int)) then (if 0<=J then ((a1.1.2.1[J.toNat]?).bind λa7=>(gy.aa (a7,())).bind λdv=>bif !decide (dv.1=(0:Int)) then (some (dv.1,())) else (nr.aa (a7,())).bind λjZ=>(kL.aa (a1.1.2.2.2.1,jZ.1,())).bind λph=>bif !ph.1 then (some ((8:Int),())) else self (af (J+(1:Int)))) else none) else e0 ()
theorem ml (k:Nat) (rec:RT Out) (K:KT Out) (a1:Arg) (J:Int):D.N k [1,0,1,0,0] (T0 a1 J) (i7 rec (ff [1,12,13,14] []) K)=b0 (S0 rec a1) (df K a1) a1 J:=by kernel_rfl
noncomputable def T1 (a1:Arg) (c7:Int×Int):St:={ n:=77,sl:=[(1,.box de (ax de) [] a1.1),(6,.val i64 c7.1),(41,.val (.U i64) a1.1.2.2.1),(42,.val i64 (a1.1.2.2.1.length:Int)),(43,.val i64 c7.2)],vr:=[],az:=[] }
noncomputable def S1 (rec:RT Out) (a1:Arg):(Int×Int)->Y:=λc7=>rec (T1 a1 c7)
noncomputable def jq (K:KT Out) (a1:Arg):(Unit)->Y:=λz=>K (.exit 2) ({ n:=77,sl:=[(1,.box de (ax de) [] a1.1)],vr:=[],az:=[] })
noncomputable def b1 (self:(Int×Int)->Y) (e2:(Unit)->Y) (a1:Arg) (c7:Int×Int):Y:=bif decide (c7.2 < (a1.1.2.2.1.length:Int)) then (if 0<=c7.2 then ((a1.1.2.2.1[c7.2.toNat]?).bind λEI=>(fy.aa (EI,c7.1,(a1.1.2.1.length:Int),())).bind λyZ=>bif !yZ.1 then (some ((3:Int),())) else self (EI,af (c7.2+(1:Int)))) else none) else e2 ()
theorem tc (k:Nat) (rec:RT Out) (K:KT Out) (a1:Arg) (c7:Int×Int):D.N k [1,1,1,1,0,1,0,0] (T1 a1 c7) (i7 rec (ff [1,6,41,42,43] []) K)=b1 (S1 rec a1) (jq K a1) a1 c7:=by kernel_rfl
noncomputable def T2 (a1:Arg) (m_:Int):St:={ n:=77,sl:=[(1,.box de (ax de) [] a1.1),(57,.val (.U bh) a1.1.2.2.2.1),(58,.val i64 (a1.1.2.2.2.1.length:Int)),(59,.val i64 m_)],vr:=[],az:=[] }
noncomputable def b2 (self:Int->Y) (e4:(Unit)->Y) (a1:Arg) (m_:Int):Y:=bif decide (m_ < (a1.1.2.2.2.1.length:Int)) then (if 0<=m_ then ((a1.1.2.2.2.1[m_.toNat]?).bind λCn=>(rX.aa (Cn.1,Cn.2.1,())).bind λPZ=>bif !PZ.1 then (some ((3:Int),())) else if 0<=m_/\m_<=(a1.1.2.2.2.1.length:Int) then ((kL.aa ((a1.1.2.2.2.1.take m_.toNat).drop 0,Cn,())).bind λaaI=>bif aaI.1 then (some ((6:Int),())) else self (af (m_+(1:Int)))) else none) else none) else e4 ()
noncomputable def q2 (a1:Arg) (uW:(Unit)):Y:=some ((0:Int),())
noncomputable def s2 (k:Nat) (a1:Arg):(Int)->Y:=λm_=>D.L k [1,1,1,1,1,0,1,0,0] [1,57,58,59] [] (ag 4 (ay (D.N k [1,1,1,1,1,1]) D.K0)) (T2 a1 m_)
noncomputable def r2 (k:Nat) (a1:Arg):(Int)->Y:=ak (λw v=>b2 w (q2 a1) a1 v) k
theorem rT (k:Nat) (a1:Arg):s2 k a1=r2 k a1:=
 funext λm_=>av _ _ _ (T2 a1) _ (λrec v=>by kernel_rfl) k m_
noncomputable def q1 (l2:(Int)->Y) (a1:Arg) (Cp:(Unit)):Y:=l2 (0:Int)
noncomputable def Q1 (k:Nat) (a1:Arg) (Cp:(Unit)):Y:=q1 (r2 k a1) a1 Cp
theorem td (k:Nat) (a1:Arg) (Cp:(Unit)):jq (ag 2 (ay (D.N k [1,1,1,1,1]) D.K0)) a1 Cp=Q1 k a1 Cp:=
 aU (b:=q1 (s2 k a1) a1 Cp) (by kernel_rfl) (by rw[rT];rfl)
noncomputable def s1 (k:Nat) (a1:Arg):(Int×Int)->Y:=λc7=>D.L k [1,1,1,1,0,1,0,0] [1,6,41,42,43] [] (ag 2 (ay (D.N k [1,1,1,1,1]) D.K0)) (T1 a1 c7)
noncomputable def r1 (k:Nat) (a1:Arg):(Int×Int)->Y:=ak (λw v=>b1 w (Q1 k a1) a1 v) k
theorem mm (k:Nat) (a1:Arg):s1 k a1=r1 k a1:=by
 funext c7;have h2:jq (ag 2 (ay (D.N k [1,1,1,1,1]) D.K0)) a1=Q1 k a1:=funext λz=>td k a1 z;refine (av _ _ _ (T1 a1) (λself v=>b1 self (jq (ag 2 (ay (D.N k [1,1,1,1,1]) D.K0)) a1) a1 v) (λrec v=>tc k rec (ag 2 (ay (D.N k [1,1,1,1,1]) D.K0)) a1 v) k c7).trans ?_;rw[h2];rfl
noncomputable def q0 (l1:(Int×Int)->Y) (a1:Arg) (mO:(Unit)):Y:=bif decide ((8:Int) < (a1.1.2.2.1.length:Int)) then (some ((2:Int),())) else bif decide ((12:Int) < (a1.1.2.2.2.1.length:Int)) then (some ((2:Int),())) else l1 ((0:Int),(0:Int))
noncomputable def Q0 (k:Nat) (a1:Arg) (mO:(Unit)):Y:=q0 (r1 k a1) a1 mO
theorem qA (k:Nat) (a1:Arg) (mO:(Unit)):df (ag 0 (ay (D.N k [1,1]) D.K0)) a1 mO=Q0 k a1 mO:=
 aU (b:=q0 (s1 k a1) a1 mO) (by kernel_rfl) (by rw[mm];rfl)
noncomputable def s0 (k:Nat) (a1:Arg):(Int)->Y:=λJ=>D.L k [1,0,1,0,0] [1,12,13,14] [] (ag 0 (ay (D.N k [1,1]) D.K0)) (T0 a1 J)
noncomputable def r0 (k:Nat) (a1:Arg):(Int)->Y:=ak (λw v=>b0 w (Q0 k a1) a1 v) k
theorem aw (k:Nat) (a1:Arg):s0 k a1=r0 k a1:=by
 funext J;have h0:df (ag 0 (ay (D.N k [1,1]) D.K0)) a1=Q0 k a1:=funext λz=>qA k a1 z;refine (av _ _ _ (T0 a1) (λself v=>b0 self (df (ag 0 (ay (D.N k [1,1]) D.K0)) a1) a1 v) (λrec v=>ml k rec (ag 0 (ay (D.N k [1,1]) D.K0)) a1 v) k J).trans ?_;rw[h0];rfl
noncomputable def p (l0:(Int)->Y) (a1:Arg):Y:=l0 (0:Int)
theorem ae (k:Nat) (a1:Arg):@Eq Y (D.W k a1) (p (r0 k a1) a1):=
 aU (b:=p (s0 k a1) a1) (by kernel_rfl) (by rw[aw])
theorem ok:Ok prog 158 D.sig:=au func158 aT (by kernel_rfl) (fc fy.ok (fc gy.ok (fc kL.ok (fc nr.ok (fc rX.ok (aj _))))))
end da
namespace nx
abbrev Arg:Type:=(List Tx)×Unit
abbrev Out:Type:=Int×Unit
abbrev Y:=Option Out
noncomputable def D:FD:={ fn:=f159,tl:=bd,ps:=[(.ro,(.U de))],rs:=[(i64,(ax i64))],lv:=[(3,[3,6,7,8])],lx:=[(0,[3])] }
noncomputable def aa (a:Arg):Y:=@lift Out λk=>D.W k a
noncomputable def T0 (a1:Arg) (J:Int×Int):St:={ n:=19,sl:=[(3,.val i64 J.1),(6,.val (.U de) a1.1),(7,.val i64 (a1.1.length:Int)),(8,.val i64 J.2)],vr:=[],az:=[] }
noncomputable def b0 (self:(Int×Int)->Y) (e0:Int->Y) (a1:Arg) (J:Int×Int):Y:=bif decide (J.2 < (a1.1.length:Int)) then (if 0<=J.2 then ((a1.1[J.2.toNat]?).bind λa7=>self (af (J.1+(a7.2.1.length:Int)),af (J.2+(1:Int)))) else none) else e0 J.1
noncomputable def q0 (a1:Arg) (oC:Int):Y:=some (oC,())
noncomputable def s0 (k:Nat) (a1:Arg):(Int×Int)->Y:=λJ=>D.L k [1,1,0,1,0,0] [3,6,7,8] [] (ag 0 (ay (D.N k [1,1,1]) D.K0)) (T0 a1 J)
noncomputable def r0 (k:Nat) (a1:Arg):(Int×Int)->Y:=ak (λw v=>b0 w (q0 a1) a1 v) k
theorem aw (k:Nat) (a1:Arg):s0 k a1=r0 k a1:=
 funext λJ=>av _ _ _ (T0 a1) _ (λrec v=>by kernel_rfl) k J
noncomputable def p (l0:(Int×Int)->Y) (a1:Arg):Y:=l0 ((0:Int),(0:Int))
theorem ae (k:Nat) (a1:Arg):@Eq Y (D.W k a1) (p (r0 k a1) a1):=
 aU (b:=p (s0 k a1) a1) (by kernel_rfl) (by rw[aw])
theorem ok:Ok prog 159 D.sig:=au func159 aT (by kernel_rfl) (aj _)
end nx
namespace cn
abbrev Arg:Type:=(List Tx)×Unit
abbrev Out:Type:=Int×Unit
abbrev Y:=Option Out
noncomputable def D:FD:={ fn:=f103,tl:=bd,ps:=[(.ro,(.U de))],rs:=[(i64,(ax i64))],gl:=[(157,qa.D.sig),(158,da.D.sig),(159,nx.D.sig)],lv:=[(4,[0,14,15,16]),(16,[0,6,45,46,47]),(19,[0,6,45,46,47,52,53,54])],lx:=[(0,[0]),(2,[0]),(4,[0,6,45,46,47])],od:=[(8,[0,1,2,3,4,5,6,7,8,9,10,11,12])] }
noncomputable def aa (a:Arg):Y:=@lift Out λk=>D.W k a
noncomputable def T0 (a1:Arg) (J:Int):St:={ n:=68,sl:=[(0,.val (.U de) a1.1),(14,.val (.U de) a1.1),(15,.val i64 (a1.1.length:Int)),(16,.val i64 J)],vr:=[],az:=[] }
noncomputable def S0 (rec:RT Out) (a1:Arg):(Int)->Y:=λJ=>rec (T0 a1 J)
noncomputable def df (K:KT Out) (a1:Arg):(Unit)->Y:=λz=>K (.exit 0) ({ n:=68,sl:=[(0,.val (.U de) a1.1)],vr:=[],az:=[] })
noncomputable def b0 (self:Int->Y) (e0:(Unit)->Y) (a1:Arg) (J:Int):Y:=bif decide (J < (a1.1.length:Int)) then (if 0<=J then ((a1.1[J.toNat]?).bind λa7=>(qa.aa (a7.1,())).bind λdv=>bif !dv.1 then (some ((3:Int),())) else bif decide ((0:Int) < J) then (if 0<=af (J - (1:Int)) then ((a1.1[(af (J - (1:Int))).toNat]?).bind λeo=>bif decide (a7.1<=eo.1) then (some ((1:Int),())) else (da.aa (a7,())).bind λmP=>bif !decide (mP.1=(0:Int)) then (some (mP.1,())) else self (af (J+(1:Int)))) else none) else (da.aa (a7,())).bind λvn=>bif !decide (vn.1=(0:Int)) then (some (vn.1,())) else self (af (J+(1:Int)))) else none) else e0 ()
theorem ml (k:Nat) (rec:RT Out) (K:KT Out) (a1:Arg) (J:Int):D.N k [1,1,0,1,0,0] (T0 a1 J) (i7 rec (ff [0,14,15,16] []) K)=b0 (S0 rec a1) (df K a1) a1 J:=by kernel_rfl
noncomputable def T1 (a1:Arg) (gw:(List Tx)×(List (Key×Bool))×(List Tx)×Int×Int):St:={ n:=68,sl:=[(0,.val (.U de) gw.1),(6,.own (.map bh .bool) (an (.map bh .bool)) [] gw.2.1),(45,.val (.U de) gw.2.2.1),(46,.val i64 gw.2.2.2.1),(47,.val i64 gw.2.2.2.2)],vr:=[],az:=[] }
noncomputable def S1 (rec:RT Out) (a1:Arg):((List Tx)×(List (Key×Bool))×(List Tx)×Int×Int)->Y:=λgw=>rec (T1 a1 gw)
noncomputable def jq (K:KT Out) (a1:Arg):(List Tx)->Y:=λz=>K (.exit 2) ({ n:=68,sl:=[(0,.val (.U de) z)],vr:=[],az:=[] })
noncomputable def T2 (a1:Arg) (dO:List Tx) (oM:List Tx) (oN:Int) (oO:Int) (oP:List Key) (wT:Int) (m_:(List (Key×Bool))×Int):St:={ n:=68,sl:=[(0,.val (.U de) dO),(6,.own (.map bh .bool) (an (.map bh .bool)) [] m_.1),(45,.val (.U de) oM),(46,.val i64 oN),(47,.val i64 oO),(52,.val (.U bh) oP),(53,.val i64 wT),(54,.val i64 m_.2)],vr:=[],az:=[] }
noncomputable def b2 (self:((List (Key×Bool))×Int)->Y) (e4:(List (Key×Bool))->Y) (a1:Arg) (dO:List Tx) (oM:List Tx) (oN:Int) (oO:Int) (oP:List Key) (wT:Int) (m_:(List (Key×Bool))×Int):Y:=bif decide (m_.2 < wT) then (if 0<=m_.2 then ((oP[m_.2.toNat]?).bind λQd=>bif zx (jk bh m_.1 Qd) false then (some ((7:Int),())) else self (nN bh m_.1 Qd true,af (m_.2+(1:Int)))) else none) else e4 m_.1
noncomputable def q1 (self:((List Tx)×(List (Key×Bool))×(List Tx)×Int×Int)->Y) (e2:(List Tx)->Y) (a1:Arg) (dO:List Tx) (oM:List Tx) (oN:Int) (oO:Int) (oP:List Key) (wT:Int) (Qe:(List (Key×Bool))):Y:=self (dO,Qe,oM,oN,af (oO+(1:Int)))
noncomputable def s2 (k:Nat) (rec:RT Out) (K:KT Out) (a1:Arg):(List Tx)->(List Tx)->Int->Int->(List Key)->Int->((List (Key×Bool))×Int)->Y:=λdO oM oN oO oP wT=>λm_=>D.L k [1,1,1,1,0,1,0,0,1,1,0,0,1,1,0,0] [0,6,45,46,47,52,53,54] [] (ag 4 (ag 3 (ay (D.N k [1,1,1,1,0,1,0,0,1,1,1]) (i7 rec (ff [0,6,45,46,47] []) K)))) (T2 a1 dO oM oN oO oP wT m_)
noncomputable def r2 (k:Nat) (self:((List Tx)×(List (Key×Bool))×(List Tx)×Int×Int)->Y) (e2:(List Tx)->Y) (a1:Arg):(List Tx)->(List Tx)->Int->Int->(List Key)->Int->((List (Key×Bool))×Int)->Y:=λdO oM oN oO oP wT=>ak (λw v=>b2 w (q1 self e2 a1 dO oM oN oO oP wT) a1 dO oM oN oO oP wT v) k
theorem rT (k:Nat) (rec:RT Out) (K:KT Out) (a1:Arg):s2 k rec K a1=r2 k (S1 rec a1) (jq K a1) a1:=
 funext λdO=>funext λoM=>funext λoN=>funext λoO=>funext λoP=>funext λwT=>funext λm_=>av _ _ _ (T2 a1 dO oM oN oO oP wT) _ (λrec v=>by kernel_rfl) k m_
noncomputable def b1 (self:((List Tx)×(List (Key×Bool))×(List Tx)×Int×Int)->Y) (e2:(List Tx)->Y) (l2:(List Tx)->(List Tx)->Int->Int->(List Key)->Int->((List (Key×Bool))×Int)->Y) (a1:Arg) (gw:(List Tx)×(List (Key×Bool))×(List Tx)×Int×Int):Y:=bif decide (gw.2.2.2.2 < gw.2.2.2.1) then (if 0<=gw.2.2.2.2 then ((gw.2.2.1[gw.2.2.2.2.toNat]?).bind λAL=>l2 gw.1 gw.2.2.1 gw.2.2.2.1 gw.2.2.2.2 AL.2.2.2.1 (AL.2.2.2.1.length:Int) (gw.2.1,(0:Int))) else none) else e2 gw.1
noncomputable def B1 (k:Nat) (self:((List Tx)×(List (Key×Bool))×(List Tx)×Int×Int)->Y) (e2:(List Tx)->Y) (a1:Arg) (gw:(List Tx)×(List (Key×Bool))×(List Tx)×Int×Int):Y:=b1 self e2 (r2 k self e2 a1) a1 gw
theorem tc (k:Nat) (rec:RT Out) (K:KT Out) (a1:Arg) (gw:(List Tx)×(List (Key×Bool))×(List Tx)×Int×Int):D.N k [1,1,1,1,0,1,0,0] (T1 a1 gw) (i7 rec (ff [0,6,45,46,47] []) K)=B1 k (S1 rec a1) (jq K a1) a1 gw:=
 aU (b:=b1 (S1 rec a1) (jq K a1) (s2 k rec K a1) a1 gw) (by kernel_rfl) (by rw[rT];rfl)
noncomputable def q2 (a1:Arg) (vI:(List Tx)):Y:=(nx.aa (vI,())).bind λaaJ=>bif decide ((12:Int) < aaJ.1) then (some ((2:Int),())) else some ((0:Int),())
theorem uX (k:Nat) (a1:Arg) (vI:(List Tx)):jq (ag 2 (ay (D.N k [1,1,1,1,1]) D.K0)) a1 vI=q2 a1 vI:=by kernel_rfl
noncomputable def s1 (k:Nat) (a1:Arg):((List Tx)×(List (Key×Bool))×(List Tx)×Int×Int)->Y:=λgw=>D.L k [1,1,1,1,0,1,0,0] [0,6,45,46,47] [] (ag 2 (ay (D.N k [1,1,1,1,1]) D.K0)) (T1 a1 gw)
noncomputable def r1 (k:Nat) (a1:Arg):((List Tx)×(List (Key×Bool))×(List Tx)×Int×Int)->Y:=ak (λw v=>B1 k w (q2 a1) a1 v) k
theorem mm (k:Nat) (a1:Arg):s1 k a1=r1 k a1:=by
 funext gw;have h2:jq (ag 2 (ay (D.N k [1,1,1,1,1]) D.K0)) a1=q2 a1:=funext λz=>uX k a1 z;refine (av _ _ _ (T1 a1) (λself v=>B1 k self (jq (ag 2 (ay (D.N k [1,1,1,1,1]) D.K0)) a1) a1 v) (λrec v=>tc k rec (ag 2 (ay (D.N k [1,1,1,1,1]) D.K0)) a1 v) k gw).trans ?_;rw[h2];rfl
noncomputable def q0 (l1:((List Tx)×(List (Key×Bool))×(List Tx)×Int×Int)->Y) (a1:Arg) (Bh:(Unit)):Y:=l1 (a1.1,([]:List (Key×Bool)),a1.1,(a1.1.length:Int),(0:Int))
noncomputable def Q0 (k:Nat) (a1:Arg) (Bh:(Unit)):Y:=q0 (r1 k a1) a1 Bh
theorem qA (k:Nat) (a1:Arg) (Bh:(Unit)):df (ag 0 (ay (D.N k [1,1,1]) D.K0)) a1 Bh=Q0 k a1 Bh:=
 aU (b:=q0 (s1 k a1) a1 Bh) (by kernel_rfl) (by rw[mm];rfl)
noncomputable def s0 (k:Nat) (a1:Arg):(Int)->Y:=λJ=>D.L k [1,1,0,1,0,0] [0,14,15,16] [] (ag 0 (ay (D.N k [1,1,1]) D.K0)) (T0 a1 J)
noncomputable def r0 (k:Nat) (a1:Arg):(Int)->Y:=ak (λw v=>b0 w (Q0 k a1) a1 v) k
theorem aw (k:Nat) (a1:Arg):s0 k a1=r0 k a1:=by
 funext J;have h0:df (ag 0 (ay (D.N k [1,1,1]) D.K0)) a1=Q0 k a1:=funext λz=>qA k a1 z;refine (av _ _ _ (T0 a1) (λself v=>b0 self (df (ag 0 (ay (D.N k [1,1,1]) D.K0)) a1) a1 v) (λrec v=>ml k rec (ag 0 (ay (D.N k [1,1,1]) D.K0)) a1 v) k J).trans ?_;rw[h0];rfl
noncomputable def p (l0:(Int)->Y) (a1:Arg):Y:=bif decide ((4:Int) < (a1.1.length:Int)) then (some ((2:Int),())) else l0 (0:Int)
theorem ae (k:Nat) (a1:Arg):@Eq Y (D.W k a1) (p (r0 k a1) a1):=
 aU (b:=p (s0 k a1) a1) (by kernel_rfl) (by rw[aw])
theorem ok:Ok prog 103 D.sig:=au func103 aT (by kernel_rfl) (fc qa.ok (fc da.ok (fc nx.ok (aj _))))
end cn
namespace d8
abbrev Arg:Type:=(List Row)×(List Tx)×Unit
abbrev Out:Type:=(List (Key×Bool))×Unit
abbrev Y:=Option Out
noncomputable def D:FD:={ fn:=f104,tl:=bd,ps:=[(.ro,(.U ba)),(.ro,(.U de))],rs:=[((.map bh .bool),(an (.map bh .bool)))],lv:=[(3,[1,5,13,14,15]),(8,[5,26,27,28]),(11,[5,26,27,28,33,34,35])],lx:=[(0,[1,5]),(2,[5]),(4,[5,26,27,28])] }
noncomputable def aa (a:Arg):Y:=@lift Out λk=>D.W k a
noncomputable def T0 (a1:Arg) (J:(List (Key×Bool))×Int):St:={ n:=44,sl:=[(1,.val (.U de) a1.2.1),(5,.own (.map bh .bool) (an (.map bh .bool)) [] J.1),(13,.val (.U ba) a1.1),(14,.val i64 (a1.1.length:Int)),(15,.val i64 J.2)],vr:=[],az:=[] }
noncomputable def S0 (rec:RT Out) (a1:Arg):((List (Key×Bool))×Int)->Y:=λJ=>rec (T0 a1 J)
noncomputable def df (K:KT Out) (a1:Arg):(List (Key×Bool))->Y:=λz=>K (.exit 0) ({ n:=44,sl:=[(1,.val (.U de) a1.2.1),(5,.own (.map bh .bool) (an (.map bh .bool)) [] z)],vr:=[],az:=[] })
noncomputable def b0 (self:((List (Key×Bool))×Int)->Y) (e0:(List (Key×Bool))->Y) (a1:Arg) (J:(List (Key×Bool))×Int):Y:=bif decide (J.2 < (a1.1.length:Int)) then (if 0<=J.2 then ((a1.1[J.2.toNat]?).bind λa7=>let mY:=nN bh J.1 (a7.1,a7.2.1,()) true;self (mY,af (J.2+(1:Int)))) else none) else e0 J.1
theorem ml (k:Nat) (rec:RT Out) (K:KT Out) (a1:Arg) (J:(List (Key×Bool))×Int):D.N k [1,1,0,1,0,0] (T0 a1 J) (i7 rec (ff [1,5,13,14,15] []) K)=b0 (S0 rec a1) (df K a1) a1 J:=by kernel_rfl
noncomputable def T1 (a1:Arg) (ef:(List (Key×Bool))×(List Tx)×Int×Int):St:={ n:=44,sl:=[(5,.own (.map bh .bool) (an (.map bh .bool)) [] ef.1),(26,.val (.U de) ef.2.1),(27,.val i64 ef.2.2.1),(28,.val i64 ef.2.2.2)],vr:=[],az:=[] }
noncomputable def S1 (rec:RT Out) (a1:Arg):((List (Key×Bool))×(List Tx)×Int×Int)->Y:=λef=>rec (T1 a1 ef)
noncomputable def jq (K:KT Out) (a1:Arg):(List (Key×Bool))->Y:=λz=>K (.exit 2) ({ n:=44,sl:=[(5,.own (.map bh .bool) (an (.map bh .bool)) [] z)],vr:=[],az:=[] })
noncomputable def T2 (a1:Arg) (wU:List Tx) (nR:Int) (j6:Int) (gb:List Key) (dO:Int) (u0:(List (Key×Bool))×Int):St:={ n:=44,sl:=[(5,.own (.map bh .bool) (an (.map bh .bool)) [] u0.1),(26,.val (.U de) wU),(27,.val i64 nR),(28,.val i64 j6),(33,.val (.U bh) gb),(34,.val i64 dO),(35,.val i64 u0.2)],vr:=[],az:=[] }
noncomputable def b2 (self:((List (Key×Bool))×Int)->Y) (e4:(List (Key×Bool))->Y) (a1:Arg) (wU:List Tx) (nR:Int) (j6:Int) (gb:List Key) (dO:Int) (u0:(List (Key×Bool))×Int):Y:=bif decide (u0.2 < dO) then (if 0<=u0.2 then ((gb[u0.2.toNat]?).bind λP4=>self (nN bh u0.1 P4 true,af (u0.2+(1:Int)))) else none) else e4 u0.1
noncomputable def q1 (self:((List (Key×Bool))×(List Tx)×Int×Int)->Y) (e2:(List (Key×Bool))->Y) (a1:Arg) (wU:List Tx) (nR:Int) (j6:Int) (gb:List Key) (dO:Int) (EH:(List (Key×Bool))):Y:=self (EH,wU,nR,af (j6+(1:Int)))
noncomputable def s2 (k:Nat) (rec:RT Out) (K:KT Out) (a1:Arg):(List Tx)->Int->Int->(List Key)->Int->((List (Key×Bool))×Int)->Y:=λwU nR j6 gb dO=>λu0=>D.L k [1,1,1,0,1,0,0,1,1,0,0,1,1,0,0] [5,26,27,28,33,34,35] [] (ag 4 (ag 3 (ay (D.N k [1,1,1,0,1,0,0,1,1,1]) (i7 rec (ff [5,26,27,28] []) K)))) (T2 a1 wU nR j6 gb dO u0)
noncomputable def r2 (k:Nat) (self:((List (Key×Bool))×(List Tx)×Int×Int)->Y) (e2:(List (Key×Bool))->Y) (a1:Arg):(List Tx)->Int->Int->(List Key)->Int->((List (Key×Bool))×Int)->Y:=λwU nR j6 gb dO=>ak (λw v=>b2 w (q1 self e2 a1 wU nR j6 gb dO) a1 wU nR j6 gb dO v) k
theorem rT (k:Nat) (rec:RT Out) (K:KT Out) (a1:Arg):s2 k rec K a1=r2 k (S1 rec a1) (jq K a1) a1:=
 funext λwU=>funext λnR=>funext λj6=>funext λgb=>funext λdO=>funext λu0=>av _ _ _ (T2 a1 wU nR j6 gb dO) _ (λrec v=>by kernel_rfl) k u0
noncomputable def b1 (self:((List (Key×Bool))×(List Tx)×Int×Int)->Y) (e2:(List (Key×Bool))->Y) (l2:(List Tx)->Int->Int->(List Key)->Int->((List (Key×Bool))×Int)->Y) (a1:Arg) (ef:(List (Key×Bool))×(List Tx)×Int×Int):Y:=bif decide (ef.2.2.2 < ef.2.2.1) then (if 0<=ef.2.2.2 then ((ef.2.1[ef.2.2.2.toNat]?).bind λCo=>l2 ef.2.1 ef.2.2.1 ef.2.2.2 Co.2.2.2.1 (Co.2.2.2.1.length:Int) (ef.1,(0:Int))) else none) else e2 ef.1
noncomputable def B1 (k:Nat) (self:((List (Key×Bool))×(List Tx)×Int×Int)->Y) (e2:(List (Key×Bool))->Y) (a1:Arg) (ef:(List (Key×Bool))×(List Tx)×Int×Int):Y:=b1 self e2 (r2 k self e2 a1) a1 ef
theorem tc (k:Nat) (rec:RT Out) (K:KT Out) (a1:Arg) (ef:(List (Key×Bool))×(List Tx)×Int×Int):D.N k [1,1,1,0,1,0,0] (T1 a1 ef) (i7 rec (ff [5,26,27,28] []) K)=B1 k (S1 rec a1) (jq K a1) a1 ef:=
 aU (b:=b1 (S1 rec a1) (jq K a1) (s2 k rec K a1) a1 ef) (by kernel_rfl) (by rw[rT];rfl)
noncomputable def q2 (a1:Arg) (uW:(List (Key×Bool))):Y:=some (uW,())
theorem uX (k:Nat) (a1:Arg) (uW:(List (Key×Bool))):jq (ag 2 (ay (D.N k [1,1,1,1]) D.K0)) a1 uW=q2 a1 uW:=by kernel_rfl
noncomputable def s1 (k:Nat) (a1:Arg):((List (Key×Bool))×(List Tx)×Int×Int)->Y:=λef=>D.L k [1,1,1,0,1,0,0] [5,26,27,28] [] (ag 2 (ay (D.N k [1,1,1,1]) D.K0)) (T1 a1 ef)
noncomputable def r1 (k:Nat) (a1:Arg):((List (Key×Bool))×(List Tx)×Int×Int)->Y:=ak (λw v=>B1 k w (q2 a1) a1 v) k
theorem mm (k:Nat) (a1:Arg):s1 k a1=r1 k a1:=by
 funext ef;have h2:jq (ag 2 (ay (D.N k [1,1,1,1]) D.K0)) a1=q2 a1:=funext λz=>uX k a1 z;refine (av _ _ _ (T1 a1) (λself v=>B1 k self (jq (ag 2 (ay (D.N k [1,1,1,1]) D.K0)) a1) a1 v) (λrec v=>tc k rec (ag 2 (ay (D.N k [1,1,1,1]) D.K0)) a1 v) k ef).trans ?_;rw[h2];rfl
noncomputable def q0 (l1:((List (Key×Bool))×(List Tx)×Int×Int)->Y) (a1:Arg) (dz:(List (Key×Bool))):Y:=l1 (dz,a1.2.1,(a1.2.1.length:Int),(0:Int))
noncomputable def Q0 (k:Nat) (a1:Arg) (dz:(List (Key×Bool))):Y:=q0 (r1 k a1) a1 dz
theorem qA (k:Nat) (a1:Arg) (dz:(List (Key×Bool))):df (ag 0 (ay (D.N k [1,1,1]) D.K0)) a1 dz=Q0 k a1 dz:=
 aU (b:=q0 (s1 k a1) a1 dz) (by kernel_rfl) (by rw[mm];rfl)
noncomputable def s0 (k:Nat) (a1:Arg):((List (Key×Bool))×Int)->Y:=λJ=>D.L k [1,1,0,1,0,0] [1,5,13,14,15] [] (ag 0 (ay (D.N k [1,1,1]) D.K0)) (T0 a1 J)
noncomputable def r0 (k:Nat) (a1:Arg):((List (Key×Bool))×Int)->Y:=ak (λw v=>b0 w (Q0 k a1) a1 v) k
theorem aw (k:Nat) (a1:Arg):s0 k a1=r0 k a1:=by
 funext J;have h0:df (ag 0 (ay (D.N k [1,1,1]) D.K0)) a1=Q0 k a1:=funext λz=>qA k a1 z;refine (av _ _ _ (T0 a1) (λself v=>b0 self (df (ag 0 (ay (D.N k [1,1,1]) D.K0)) a1) a1 v) (λrec v=>ml k rec (ag 0 (ay (D.N k [1,1,1]) D.K0)) a1 v) k J).trans ?_;rw[h0];rfl
noncomputable def p (l0:((List (Key×Bool))×Int)->Y) (a1:Arg):Y:=l0 (([]:List (Key×Bool)),(0:Int))
theorem ae (k:Nat) (a1:Arg):@Eq Y (D.W k a1) (p (r0 k a1) a1):=
 aU (b:=p (s0 k a1) a1) (by kernel_rfl) (by rw[aw])
theorem ok:Ok prog 104 D.sig:=au func104 aT (by kernel_rfl) (aj _)
end d8
namespace kF
abbrev Arg:Type:=(List Row)×Unit
abbrev Out:Type:=(List Row)×Unit
noncomputable def D:FD:={ fn:=f162,tl:=bd,ps:=[(.ro,(.U ba))],rs:=[((.U ba),(an (.U ba)))] }
noncomputable def aa (a:Arg):Option Out:=@lift Out λk=>D.W k a
noncomputable def p (a1:Arg):Option Out:=BO a1.1 (some (([]:List Row),())) (if ([]:List Row).length+a1.1.length<=cc then (some (([]:List Row)++a1.1,())) else none)
theorem ae (k:Nat) (a1:Arg):@Eq (Option Out) (D.W k a1) (p a1):=by kernel_rfl
theorem ok:Ok prog 162 D.sig:=au func162 aT (by kernel_rfl) (aj _)
end kF
namespace bi
abbrev Arg:Type:=(List Row)×Row×(Nat×Int)×Unit
abbrev Out:Type:=Int×Bool×Unit
abbrev Y:=Option Out
noncomputable def D:FD:={ fn:=f227,tl:=bd,ps:=[(.ro,(.U ba)),(.ro,ba),(.fix 155,.fn)],rs:=[(i64,(ax i64)),(.bool,(ax .bool))],gl:=[(155,ij.D.sig)],lv:=[(3,[0,2,4,8,9,10])],lx:=[(0,[0,2,4,8,9])],od:=[(5,[0,1,2,3,4,5,6,7]),(8,[0,1,2,3,4,5,6,7,8,9,10,11,12,13,14,15])] }
noncomputable def aa (a:Arg):Y:=@lift Out λk=>D.W k a
noncomputable def T0 (a1:Arg) (J:Int×Int):St:={ n:=49,sl:=[(0,.val (.U ba) a1.1),(2,.val .fn ((155,a1.2.2.1.2):Nat×Int)),(4,.box ba (ax ba) [] a1.2.1),(8,.val i64 (a1.1.length:Int)),(9,.val i64 J.1),(10,.val i64 J.2)],vr:=[],az:=[] }
noncomputable def b0 (self:(Int×Int)->Y) (e0:Int->Y) (a1:Arg) (J:Int×Int):Y:=bif decide (J.1 < J.2) then (if 0<=af ((IntKind.wrap .u64 (af (J.1+J.2))).fdiv (2 ^ 1)) then ((a1.1[(af ((IntKind.wrap .u64 (af (J.1+J.2))).fdiv (2 ^ 1))).toNat]?).bind λa7=>(ij.aa (a7,a1.2.1,())).bind λdv=>bif decide (dv.1 < (0:Int)) then (self (af ((af ((IntKind.wrap .u64 (af (J.1+J.2))).fdiv (2 ^ 1)))+(1:Int)),J.2)) else self (J.1,af ((IntKind.wrap .u64 (af (J.1+J.2))).fdiv (2 ^ 1)))) else none) else e0 J.1
noncomputable def q0 (a1:Arg) (dz:Int):Y:=bif decide (dz < (a1.1.length:Int)) then (if 0<=dz then ((a1.1[dz.toNat]?).bind λqz=>(ij.aa (qz,a1.2.1,())).bind λmP=>some (dz,decide (mP.1=(0:Int)),())) else none) else some (dz,false,())
noncomputable def s0 (k:Nat) (a1:Arg):(Int×Int)->Y:=λJ=>D.L k [1,1,1,0,0,0] [0,2,4,8,9,10] [] (ag 0 (ay (D.N k [1,1,1,1]) D.K0)) (T0 a1 J)
noncomputable def r0 (k:Nat) (a1:Arg):(Int×Int)->Y:=ak (λw v=>b0 w (q0 a1) a1 v) k
theorem aw (k:Nat) (a1:Arg):s0 k a1=r0 k a1:=
 funext λJ=>av _ _ _ (T0 a1) _ (λrec v=>by kernel_rfl) k J
noncomputable def p (l0:(Int×Int)->Y) (a1:Arg):Y:=l0 ((0:Int),(a1.1.length:Int))
theorem ae (k:Nat) (a1:Arg):@Eq Y (D.W k a1) (p (r0 k a1) a1):=
 aU (b:=p (s0 k a1) a1) (by kernel_rfl) (by rw[aw])
theorem ok:Ok prog 227 D.sig:=au func227 aT (by kernel_rfl) (fc ij.ok (aj _))
end bi
namespace mg
abbrev Arg:Type:=Change×(List Row)×Unit
abbrev Out:Type:=Bool×Unit
noncomputable def D:FD:={ fn:=f202,tl:=bd,ps:=[(.ro,ai),(.ro,(.U ba))],rs:=[(.bool,(ax .bool))],gl:=[(226,cx.D.sig),(227,bi.D.sig)],od:=[(2,[0,1,2,3,4,5,6,7,8,9,10,11,12,13,14,15,16,17])] }
noncomputable def aa (a:Arg):Option Out:=@lift Out λk=>D.W k a
noncomputable def p (a1:Arg):Option Out:=(cx.aa (a1.1,())).bind λr2=>(bi.aa (a1.2.1,r2.1,((155,0):Nat×Int),())).bind λr3=>bif (r3.2.1 == a1.1.1) then (bif !r3.2.1 then (some (true,())) else if 0<=r3.1 then ((a1.2.1[r3.1.toNat]?).bind λx4=>some ((Ty.eq ba x4 a1.1.2.1),())) else none) else some (false,())
theorem ae (k:Nat) (a1:Arg):@Eq (Option Out) (D.W k a1) (p a1):=by kernel_rfl
theorem ok:Ok prog 202 D.sig:=au func202 aT (by kernel_rfl) (fc cx.ok (fc bi.ok (aj _)))
end mg
namespace qb
abbrev Arg:Type:=(List Row)×Change×Unit
abbrev Out:Type:=(List Row)×Unit
abbrev Y:=Option Out
noncomputable def D:FD:={ fn:=f203,tl:=bd,ps:=[(.ro,(.U ba)),(.ro,ai)],rs:=[((.U ba),(an (.U ba)))],gl:=[(226,cx.D.sig),(227,bi.D.sig)] }
noncomputable def aa (a:Arg):Y:=@lift Out λk=>D.W k a
noncomputable def p (a1:Arg):Y:=(cx.aa (a1.2.1,())).bind λr2=>(bi.aa (a1.1,r2.1,((155,0):Nat×Int),())).bind λr3=>if 0<=r3.1/\r3.1<=(a1.1.length:Int) then (if ([]:List Row).length+((a1.1.take r3.1.toNat).drop 0).length<=cc then (let y4:=([]:List Row)++((a1.1.take r3.1.toNat).drop 0);let j8:=λ(p7:List Row)=>(let j11:=λ(WC:Int)=>(if 0<=WC/\WC<=(a1.1.length:Int) then (if p7.length+((a1.1.take a1.1.length).drop WC.toNat).length<=cc then (let y12:=p7++((a1.1.take a1.1.length).drop WC.toNat);some (y12,())) else none) else none:Y);bif r3.2.1 then (j11 (af (r3.1+(1:Int)))) else j11 r3.1:Y);bif a1.2.1.2.2.1 then (if y4.length+[a1.2.1.2.2.2.1].length<=cc then (j8 (y4++[a1.2.1.2.2.2.1])) else none) else j8 y4) else none) else none
theorem ae (k:Nat) (a1:Arg):@Eq Y (D.W k a1) (p a1):=by kernel_rfl
theorem ok:Ok prog 203 D.sig:=au func203 aT (by kernel_rfl) (fc cx.ok (fc bi.ok (aj _)))
end qb
namespace fd
abbrev Arg:Type:=(List Row)×(List Change)×Unit
abbrev Out:Type:=wQ×Unit
abbrev Y:=Option Out
noncomputable def D:FD:={ fn:=f160,tl:=bd,ps:=[(.ro,(.U ba)),(.ro,(.U ai))],rs:=[(vA,(an vA))],gl:=[(102,e8.D.sig),(162,kF.D.sig),(201,kE.D.sig),(202,mg.D.sig),(203,qb.D.sig)],lv:=[(6,[4,6,18,19,20])],lx:=[(0,[4,6])] }
noncomputable def aa (a:Arg):Y:=@lift Out λk=>D.W k a
noncomputable def T0 (a1:Arg) (kR:(List Row)×Int):St:={ n:=45,sl:=[(4,.box vA (an vA) [] ((0:Int),([]:List Row),())),(6,.own (.U ba) (an (.U ba)) [] kR.1),(18,.val (.U ai) a1.2.1),(19,.val i64 (a1.2.1.length:Int)),(20,.val i64 kR.2)],vr:=[],az:=[] }
noncomputable def b0 (self:((List Row)×Int)->Y) (e0:(List Row)->Y) (a1:Arg) (kR:(List Row)×Int):Y:=bif decide (kR.2 < (a1.2.1.length:Int)) then (if 0<=kR.2 then ((a1.2.1[kR.2.toNat]?).bind λeo=>(kE.aa (eo,())).bind λph=>bif !decide (ph.1=(0:Int)) then (some ((ph.1,([]:List Row),()),())) else (mg.aa (eo,kR.1,())).bind λmP=>bif !mP.1 then (some (((8:Int),([]:List Row),()),())) else (qb.aa (kR.1,eo,())).bind λvn=>self (vn.1,af (kR.2+(1:Int)))) else none) else e0 kR.1
noncomputable def q0 (a1:Arg) (Bh:(List Row)):Y:=bif decide ((60:Int) < (Bh.length:Int)) then (some (((2:Int),([]:List Row),()),())) else some (((0:Int),Bh,()),())
noncomputable def s0 (k:Nat) (a1:Arg):((List Row)×Int)->Y:=λkR=>D.L k [1,1,1,0,1,0,0] [4,6,18,19,20] [] (ag 0 (ay (D.N k [1,1,1,1]) D.K0)) (T0 a1 kR)
noncomputable def r0 (k:Nat) (a1:Arg):((List Row)×Int)->Y:=ak (λw v=>b0 w (q0 a1) a1 v) k
theorem aw (k:Nat) (a1:Arg):s0 k a1=r0 k a1:=
 funext λkR=>av _ _ _ (T0 a1) _ (λrec v=>by kernel_rfl) k kR
noncomputable def p (l0:((List Row)×Int)->Y) (a1:Arg):Y:=(e8.aa (a1.1,())).bind λr2=>bif !decide (r2.1=(0:Int)) then (some ((r2.1,([]:List Row),()),())) else (kF.aa (a1.1,())).bind λr3=>l0 (r3.1,(0:Int))
theorem ae (k:Nat) (a1:Arg):@Eq Y (D.W k a1) (p (r0 k a1) a1):=
 aU (b:=p (s0 k a1) a1) (by kernel_rfl) (by rw[aw])
theorem ok:Ok prog 160 D.sig:=au func160 aT (by kernel_rfl) (fc e8.ok (fc kF.ok (fc kE.ok (fc mg.ok (fc qb.ok (aj _))))))
end fd
namespace mF
abbrev Arg:Type:=(List Change)×Unit
abbrev Out:Type:=(List Change)×Unit
abbrev Y:=Option Out
noncomputable def D:FD:={ fn:=f161,tl:=bd,ps:=[(.ro,(.U ai))],rs:=[((.U ai),(an (.U ai)))],lv:=[(3,[0,3,4])],lx:=[(0,[3])] }
noncomputable def aa (a:Arg):Y:=@lift Out λk=>D.W k a
noncomputable def T0 (a1:Arg) (J:(List Change)×Int):St:={ n:=30,sl:=[(0,.val (.U ai) a1.1),(3,.own (.U ai) (an (.U ai)) [] J.1),(4,.val i64 J.2)],vr:=[],az:=[] }
noncomputable def b0 (self:((List Change)×Int)->Y) (e0:(List Change)->Y) (a1:Arg) (J:(List Change)×Int):Y:=bif decide ((0:Int)<=J.2) then (if 0<=J.2 then ((a1.1[J.2.toNat]?).bind λa7=>if J.1.length+[(a7.2.2.1,a7.2.2.2.1,a7.1,a7.2.1,())].length<=cc then (let mY:=J.1++[(a7.2.2.1,a7.2.2.2.1,a7.1,a7.2.1,())];self (mY,af (J.2 - (1:Int)))) else none) else none) else e0 J.1
noncomputable def q0 (a1:Arg) (dz:(List Change)):Y:=some (dz,())
noncomputable def s0 (k:Nat) (a1:Arg):((List Change)×Int)->Y:=λJ=>D.L k [1,1,0,1,0,0] [0,3,4] [] (ag 0 (ay (D.N k [1,1,1]) D.K0)) (T0 a1 J)
noncomputable def r0 (k:Nat) (a1:Arg):((List Change)×Int)->Y:=ak (λw v=>b0 w (q0 a1) a1 v) k
theorem aw (k:Nat) (a1:Arg):s0 k a1=r0 k a1:=
 funext λJ=>av _ _ _ (T0 a1) _ (λrec v=>by kernel_rfl) k J
noncomputable def p (l0:((List Change)×Int)->Y) (a1:Arg):Y:=l0 (([]:List Change),af ((a1.1.length:Int) - (1:Int)))
theorem ae (k:Nat) (a1:Arg):@Eq Y (D.W k a1) (p (r0 k a1) a1):=
 aU (b:=p (s0 k a1) a1) (by kernel_rfl) (by rw[aw])
theorem ok:Ok prog 161 D.sig:=au func161 aT (by kernel_rfl) (aj _)
end mF
namespace iy
abbrev Arg:Type:=(List Row)×(List Tx)×Unit
abbrev Out:Type:=(List Row)×Int×Unit
abbrev Y:=Option Out
noncomputable def D:FD:={ fn:=f105,tl:=bd,ps:=[(.ro,(.U ba)),(.ro,(.U de))],rs:=[((.U ba),(an (.U ba))),(i64,(ax i64))],gl:=[(160,fd.D.sig),(161,mF.D.sig),(162,kF.D.sig)],lv:=[(2,[0,9,10,11])],lx:=[(0,[0])],lf:=[(2,[(0,(.U false (.pair .leaf (.pair .leaf (.pair .leaf (.pair .leaf .leaf))))))])],od:=[(6,[0,1,2,3])] }
noncomputable def aa (a:Arg):Y:=@lift Out λk=>D.W k a
noncomputable def T0 (a1:Arg) (J:(List Row)×Int):St:={ n:=30,sl:=[(0,.val (.U ba) J.1),(9,.val (.U de) a1.2.1),(10,.val i64 (a1.2.1.length:Int)),(11,.val i64 J.2)],vr:=[],az:=[] }
noncomputable def b0 (self:((List Row)×Int)->Y) (e0:(List Row)->Y) (a1:Arg) (J:(List Row)×Int):Y:=bif decide (J.2 < (a1.2.1.length:Int)) then (if 0<=J.2 then ((a1.2.1[J.2.toNat]?).bind λa7=>(mF.aa (a7.2.1,())).bind λdv=>(fd.aa (J.1,dv.1,())).bind λjZ=>bif !decide (jZ.1.1=(0:Int)) then (some (([]:List Row),jZ.1.1,())) else self (jZ.1.2.1,af (J.2+(1:Int)))) else none) else e0 J.1
noncomputable def q0 (a1:Arg) (oD:(List Row)):Y:=(kF.aa (oD,())).bind λmP=>some (mP.1,(0:Int),())
noncomputable def s0 (k:Nat) (a1:Arg):((List Row)×Int)->Y:=λJ=>D.L k [1,0,1,0,0] [0,9,10,11] [(0,(.U false (.pair .leaf (.pair .leaf (.pair .leaf (.pair .leaf .leaf))))))] (ag 0 (ay (D.N k [1,1]) D.K0)) (T0 a1 J)
noncomputable def r0 (k:Nat) (a1:Arg):((List Row)×Int)->Y:=ak (λw v=>b0 w (q0 a1) a1 v) k
theorem aw (k:Nat) (a1:Arg):s0 k a1=r0 k a1:=
 funext λJ=>av _ _ _ (T0 a1) _ (λrec v=>by kernel_rfl) k J
noncomputable def p (l0:((List Row)×Int)->Y) (a1:Arg):Y:=l0 (a1.1,(0:Int))
theorem ae (k:Nat) (a1:Arg):@Eq Y (D.W k a1) (p (r0 k a1) a1):=
 aU (b:=p (s0 k a1) a1) (by kernel_rfl) (by rw[aw])
theorem ok:Ok prog 105 D.sig:=au func105 aT (by kernel_rfl) (fc fd.ok (fc mF.ok (fc kF.ok (aj _))))
end iy
namespace nI
abbrev Arg:Type:=Plain×Unit
abbrev Out:Type:=Int×Unit
noncomputable def D:FD:={ fn:=f54,tl:=bd,ps:=[(.ro,BC)],rs:=[(i64,(ax i64))],gl:=[(52,fy.D.sig),(102,e8.D.sig),(103,cn.D.sig),(104,d8.D.sig),(105,iy.D.sig)],od:=[(7,[0,1,2,3,4,5,6,7,8,9,10,11,12,13,14,15,16,17,18,19,20,21,22,23])],ar:=[(7,[1,6,11,13,18,20])],bx:=[(7,[1])] }
noncomputable def aa (a:Arg):Option Out:=@lift Out λk=>D.W k a
noncomputable def p (a1:Arg):Option Out:=(e8.aa (a1.1.1,())).bind λr2=>bif !decide (r2.1=(0:Int)) then (some (r2.1,())) else (cn.aa (a1.1.2.1,())).bind λr3=>bif !decide (r3.1=(0:Int)) then (some (r3.1,())) else let j8:Option Out:=(d8.aa (a1.1.1,a1.1.2.1,())).bind λr9=>bif decide ((12:Int) < (r9.1.length:Int)) then (some ((2:Int),())) else (iy.aa (a1.1.1,a1.1.2.1,())).bind λDX=>bif !decide (DX.2.1=(0:Int)) then (some ((8:Int),())) else some ((0:Int),());(fy.aa (a1.1.2.2.1,(1:Int),(100:Int),())).bind λr4=>bif !r4.1 then (some ((3:Int),())) else bif decide ((0:Int) < (a1.1.2.1.length:Int)) then (if 0<=af ((a1.1.2.1.length:Int) - (1:Int)) then ((a1.1.2.1[(af ((a1.1.2.1.length:Int) - (1:Int))).toNat]?).bind λx5=>bif decide (a1.1.2.2.1<=x5.1) then (some ((3:Int),())) else j8) else none) else j8
theorem ae (k:Nat) (a1:Arg):@Eq (Option Out) (D.W k a1) (p a1):=by kernel_rfl
theorem ok:Ok prog 54 D.sig:=au func54 aT (by kernel_rfl) (fc fy.ok (fc e8.ok (fc cn.ok (fc d8.ok (fc iy.ok (aj _))))))
end nI
namespace lM
abbrev Arg:Type:=(List Seen)×Unit
abbrev Out:Type:=(List Row)×Unit
abbrev Y:=Option Out
noncomputable def D:FD:={ fn:=f55,tl:=bd,ps:=[(.ro,(.U ii))],rs:=[((.U ba),(an (.U ba)))],lv:=[(3,[3,6,7,8])],lx:=[(0,[3])] }
noncomputable def aa (a:Arg):Y:=@lift Out λk=>D.W k a
noncomputable def T0 (a1:Arg) (J:(List Row)×Int):St:={ n:=19,sl:=[(3,.own (.U ba) (an (.U ba)) [] J.1),(6,.val (.U ii) a1.1),(7,.val i64 (a1.1.length:Int)),(8,.val i64 J.2)],vr:=[],az:=[] }
noncomputable def b0 (self:((List Row)×Int)->Y) (e0:(List Row)->Y) (a1:Arg) (J:(List Row)×Int):Y:=bif decide (J.2 < (a1.1.length:Int)) then (if 0<=J.2 then ((a1.1[J.2.toNat]?).bind λa7=>if J.1.length+[a7.1].length<=cc then (self (J.1++[a7.1],af (J.2+(1:Int)))) else none) else none) else e0 J.1
noncomputable def q0 (a1:Arg) (oC:(List Row)):Y:=some (oC,())
noncomputable def s0 (k:Nat) (a1:Arg):((List Row)×Int)->Y:=λJ=>D.L k [1,1,0,1,0,0] [3,6,7,8] [] (ag 0 (ay (D.N k [1,1,1]) D.K0)) (T0 a1 J)
noncomputable def r0 (k:Nat) (a1:Arg):((List Row)×Int)->Y:=ak (λw v=>b0 w (q0 a1) a1 v) k
theorem aw (k:Nat) (a1:Arg):s0 k a1=r0 k a1:=
 funext λJ=>av _ _ _ (T0 a1) _ (λrec v=>by kernel_rfl) k J
noncomputable def p (l0:((List Row)×Int)->Y) (a1:Arg):Y:=l0 (([]:List Row),(0:Int))
theorem ae (k:Nat) (a1:Arg):@Eq Y (D.W k a1) (p (r0 k a1) a1):=
 aU (b:=p (s0 k a1) a1) (by kernel_rfl) (by rw[aw])
theorem ok:Ok prog 55 D.sig:=au func55 aT (by kernel_rfl) (aj _)
end lM
namespace mh
abbrev Arg:Type:=(List (List UInt8))×Unit
abbrev Out:Type:=(List (List UInt8))×Unit
noncomputable def D:FD:={ fn:=f165,tl:=bd,ps:=[(.ro,(.U (.U u8)))],rs:=[((.U (.U u8)),(.U true (ax (.U u8))))] }
noncomputable def aa (a:Arg):Option Out:=@lift Out λk=>D.W k a
noncomputable def p (a1:Arg):Option Out:=BO a1.1 (some (([]:List (List UInt8)),())) (if ([]:List (List UInt8)).length+a1.1.length<=cc then (some (([]:List (List UInt8))++a1.1,())) else none)
theorem ae (k:Nat) (a1:Arg):@Eq (Option Out) (D.W k a1) (p a1):=by kernel_rfl
theorem ok:Ok prog 165 D.sig:=au func165 aT (by kernel_rfl) (aj _)
end mh
namespace lY
abbrev Arg:Type:=UInt8×Unit
abbrev Out:Type:=(List UInt8)×Unit
abbrev Y:=Option Out
noncomputable def D:FD:={ fn:=f166,tl:=bd,ps:=[(.ro,u8)],rs:=[((.U u8),(an (.U u8)))],lv:=[(3,[0,3,7,8])],lx:=[(0,[3])] }
noncomputable def aa (a:Arg):Y:=@lift Out λk=>D.W k a
noncomputable def T0 (a1:Arg) (J:(List UInt8)×Int):St:={ n:=21,sl:=[(0,.val u8 a1.1),(3,.own (.U u8) (an (.U u8)) [] J.1),(7,.val i64 ((List.replicate 64 (0:UInt8)).length:Int)),(8,.val i64 J.2)],vr:=[],az:=[] }
noncomputable def b0 (self:((List UInt8)×Int)->Y) (e0:(List UInt8)->Y) (a1:Arg) (J:(List UInt8)×Int):Y:=bif decide (J.2 < ((List.replicate 64 (0:UInt8)).length:Int)) then (if 0<=J.2/\J.2 < (J.1.length:Int) then ((J.1[J.2.toNat]?).bind λa7=>self (J.1.set J.2.toNat a1.1,af (J.2+(1:Int)))) else none) else e0 J.1
noncomputable def q0 (a1:Arg) (oC:(List UInt8)):Y:=if 0<=(0:Int)/\(0:Int) < (oC.length:Int) then ((oC[0]?).bind λeo=>if 0<=(1:Int)/\(1:Int) < ((oC.set 0 (0:UInt8)).length:Int) then (((oC.set 0 (0:UInt8))[1]?).bind λqz=>let DW:=(oC.set 0 (0:UInt8)).set 1 (64:UInt8);some (DW,())) else none) else none
noncomputable def s0 (k:Nat) (a1:Arg):((List UInt8)×Int)->Y:=λJ=>D.L k [1,1,0,1,0,0] [0,3,7,8] [] (ag 0 (ay (D.N k [1,1,1]) D.K0)) (T0 a1 J)
noncomputable def r0 (k:Nat) (a1:Arg):((List UInt8)×Int)->Y:=ak (λw v=>b0 w (q0 a1) a1 v) k
theorem aw (k:Nat) (a1:Arg):s0 k a1=r0 k a1:=
 funext λJ=>av _ _ _ (T0 a1) _ (λrec v=>by kernel_rfl) k J
noncomputable def p (l0:((List UInt8)×Int)->Y) (a1:Arg):Y:=if 0<=(64:Int)/\(64:Int)<=(64:Int)/\(64:Int)<=(cc:Int) then (l0 (List.replicate 64 (0:UInt8),(0:Int))) else none
theorem ae (k:Nat) (a1:Arg):@Eq Y (D.W k a1) (p (r0 k a1) a1):=
 aU (b:=p (s0 k a1) a1) (by kernel_rfl) (by rw[aw])
theorem ok:Ok prog 166 D.sig:=au func166 aT (by kernel_rfl) (aj _)
end lY
namespace lq
abbrev Arg:Type:=(List UInt8)×(List gu)×Unit
abbrev Out:Type:=(List UInt8)×Unit
abbrev Y:=Option Out
noncomputable def D:FD:={ fn:=f167,tl:=bd,ps:=[(.ro,(.U u8)),(.ro,(.U xB))],rs:=[((.U u8),(an (.U u8)))],gl:=[(111,kb.D.sig)],lv:=[(3,[5,10,11,12])],lx:=[(0,[5])],od:=[(5,[0,1,2,3,4,5,6])] }
noncomputable def aa (a:Arg):Y:=@lift Out λk=>D.W k a
noncomputable def T0 (a1:Arg) (bn:(List UInt8)×Int):St:={ n:=25,sl:=[(5,.own (.U u8) (an (.U u8)) [] bn.1),(10,.val (.U xB) a1.2.1),(11,.val i64 (a1.2.1.length:Int)),(12,.val i64 bn.2)],vr:=[],az:=[] }
noncomputable def b0 (self:((List UInt8)×Int)->Y) (e0:(List UInt8)->Y) (a1:Arg) (bn:(List UInt8)×Int):Y:=bif decide (bn.2 < (a1.2.1.length:Int)) then (if 0<=bn.2 then ((a1.2.1[bn.2.toNat]?).bind λen=>if 0<=en.1/\en.1<=(bn.1.length:Int) then (let UH:=sg bn.1 en.1.toNat (min en.2.1.length (bn.1.length - en.1.toNat)) en.2.1;self (UH,af (bn.2+(1:Int)))) else none) else none) else e0 bn.1
noncomputable def q0 (a1:Arg) (oD:(List UInt8)):Y:=some (oD,())
noncomputable def s0 (k:Nat) (a1:Arg):((List UInt8)×Int)->Y:=λbn=>D.L k [1,1,0,1,0,0] [5,10,11,12] [] (ag 0 (ay (D.N k [1,1,1]) D.K0)) (T0 a1 bn)
noncomputable def r0 (k:Nat) (a1:Arg):((List UInt8)×Int)->Y:=ak (λw v=>b0 w (q0 a1) a1 v) k
theorem aw (k:Nat) (a1:Arg):s0 k a1=r0 k a1:=
 funext λbn=>av _ _ _ (T0 a1) _ (λrec v=>by kernel_rfl) k bn
noncomputable def p (l0:((List UInt8)×Int)->Y) (a1:Arg):Y:=(kb.aa (a1.1,())).bind λr2=>l0 (r2.1,(0:Int))
theorem ae (k:Nat) (a1:Arg):@Eq Y (D.W k a1) (p (r0 k a1) a1):=
 aU (b:=p (s0 k a1) a1) (by kernel_rfl) (by rw[aw])
theorem ok:Ok prog 167 D.sig:=au func167 aT (by kernel_rfl) (fc kb.ok (aj _))
end lq
namespace lO
abbrev Arg:Type:=(List (List UInt8))×bg×Unit
abbrev Out:Type:=(List (List UInt8))×Int×Unit
noncomputable def D:FD:={ fn:=f107,tl:=bd,ps:=[(.ro,(.U (.U u8))),(.ro,d9)],rs:=[((.U (.U u8)),(ax (.U (.U u8)))),(i64,(ax i64))],gl:=[(163,nU.D.sig),(165,mh.D.sig),(166,lY.D.sig),(167,lq.D.sig)],od:=[(10,[0,1,2,3,4,5,6,7,8,9,10,11,12])] }
noncomputable def aa (a:Arg):Option Out:=@lift Out λk=>D.W k a
noncomputable def p (a1:Arg):Option Out:=(nU.aa (a1.2.1.1,())).bind λr2=>bif !r2.1 then (some (a1.1,(0:Int),())) else bif decide ((a1.1.length:Int) < a1.2.1.2.2.1) then (some (([]:List (List UInt8)),(1:Int),())) else bif decide (a1.2.1.2.2.1=(12:Int)) then (some (([]:List (List UInt8)),(2:Int),())) else (mh.aa (a1.1,())).bind λr3=>let j10:=λ(p9:List (List UInt8))=>(if 0<=a1.2.1.2.2.1/\a1.2.1.2.2.1 < (p9.length:Int) then ((p9[a1.2.1.2.2.1.toNat]?).bind λOI=>(lq.aa (OI,a1.2.1.2.2.2.1,())).bind λAc=>if 0<=a1.2.1.2.2.1/\a1.2.1.2.2.1 < (p9.length:Int) then ((p9[a1.2.1.2.2.1.toNat]?).bind λx13=>some (p9.set a1.2.1.2.2.1.toNat Ac.1,(0:Int),())) else none) else none:Option Out);bif decide (a1.2.1.2.2.1=(a1.1.length:Int)) then ((lY.aa ((0:UInt8),())).bind λr4=>if r3.1.length+[r4.1].length<=cc then (j10 (r3.1++[r4.1])) else none) else j10 r3.1
theorem ae (k:Nat) (a1:Arg):@Eq (Option Out) (D.W k a1) (p a1):=by kernel_rfl
theorem ok:Ok prog 107 D.sig:=au func107 aT (by kernel_rfl) (fc nU.ok (fc mh.ok (fc lY.ok (fc lq.ok (aj _)))))
end lO
namespace pc
abbrev Arg:Type:=(List bg)×Unit
abbrev Out:Type:=(List (List UInt8))×Int×Unit
abbrev Y:=Option Out
noncomputable def D:FD:={ fn:=f56,tl:=bd,ps:=[(.ro,(.U d9))],rs:=[((.U (.U u8)),(ax (.U (.U u8)))),(i64,(ax i64))],gl:=[(106,gx.D.sig),(107,lO.D.sig)],lv:=[(3,[4,10,11,12])],lx:=[(0,[4])],lf:=[(3,[(4,(.U false (.U false .leaf)))])] }
noncomputable def aa (a:Arg):Y:=@lift Out λk=>D.W k a
noncomputable def T0 (a1:Arg) (J:(List (List UInt8))×Int):St:={ n:=33,sl:=[(4,.val (.U (.U u8)) J.1),(10,.val (.U d9) a1.1),(11,.val i64 (a1.1.length:Int)),(12,.val i64 J.2)],vr:=[],az:=[] }
noncomputable def b0 (self:((List (List UInt8))×Int)->Y) (e0:(List (List UInt8))->Y) (a1:Arg) (J:(List (List UInt8))×Int):Y:=bif decide (J.2 < (a1.1.length:Int)) then (if 0<=J.2 then ((a1.1[J.2.toNat]?).bind λa7=>(gx.aa (a7,())).bind λdv=>bif !decide (dv.1=(0:Int)) then (some (([]:List (List UInt8)),dv.1,())) else (lO.aa (J.1,a7,())).bind λjZ=>bif !decide (jZ.2.1=(0:Int)) then (some (([]:List (List UInt8)),jZ.2.1,())) else self (jZ.1,af (J.2+(1:Int)))) else none) else e0 J.1
noncomputable def q0 (a1:Arg) (oD:(List (List UInt8))):Y:=some (oD,(0:Int),())
noncomputable def s0 (k:Nat) (a1:Arg):((List (List UInt8))×Int)->Y:=λJ=>D.L k [1,1,0,1,0,0] [4,10,11,12] [(4,(.U false (.U false .leaf)))] (ag 0 (ay (D.N k [1,1,1]) D.K0)) (T0 a1 J)
noncomputable def r0 (k:Nat) (a1:Arg):((List (List UInt8))×Int)->Y:=ak (λw v=>b0 w (q0 a1) a1 v) k
theorem aw (k:Nat) (a1:Arg):s0 k a1=r0 k a1:=
 funext λJ=>av _ _ _ (T0 a1) _ (λrec v=>by kernel_rfl) k J
noncomputable def p (l0:((List (List UInt8))×Int)->Y) (a1:Arg):Y:=l0 (([]:List (List UInt8)),(0:Int))
theorem ae (k:Nat) (a1:Arg):@Eq Y (D.W k a1) (p (r0 k a1) a1):=
 aU (b:=p (s0 k a1) a1) (by kernel_rfl) (by rw[aw])
theorem ok:Ok prog 56 D.sig:=au func56 aT (by kernel_rfl) (fc gx.ok (fc lO.ok (aj _)))
end pc
namespace og
abbrev Arg:Type:=Log×Unit
abbrev Out:Type:=(List bg)×Unit
noncomputable def D:FD:={ fn:=f57,tl:=bd,ps:=[(.ro,kg)],rs:=[((.U d9),(an (.U d9)))],gl:=[(95,lX.D.sig)] }
noncomputable def aa (a:Arg):Option Out:=@lift Out λk=>D.W k a
noncomputable def p (a1:Arg):Option Out:=(lX.aa (a1.1.1,())).bind λr2=>(lX.aa (a1.1.2.1,())).bind λr3=>if r2.1.length+r3.1.length<=cc then (some (r2.1++r3.1,())) else none
theorem ae (k:Nat) (a1:Arg):@Eq (Option Out) (D.W k a1) (p a1):=by kernel_rfl
theorem ok:Ok prog 57 D.sig:=au func57 aT (by kernel_rfl) (fc lX.ok (aj _))
end og
namespace ed
abbrev Arg:Type:=(List (List UInt8))×(List (List UInt8))×(Nat×Int)×Unit
abbrev Out:Type:=Bool×Unit
abbrev Y:=Option Out
noncomputable def D:FD:={ fn:=f108,tl:=bd,ps:=[(.ro,(.U (.U u8))),(.ro,(.U (.U u8))),(.fix 109,.fn)],rs:=[(.bool,(ax .bool))],gl:=[(109,d0.D.sig)],lv:=[(4,[1,2,15,16,17])],lx:=[(0,[])] }
noncomputable def aa (a:Arg):Y:=@lift Out λk=>D.W k a
noncomputable def T0 (a1:Arg) (J:Int):St:={ n:=32,sl:=[(1,.val (.U (.U u8)) a1.2.1),(2,.val .fn ((109,a1.2.2.1.2):Nat×Int)),(15,.val (.U (.U u8)) a1.1),(16,.val i64 (a1.1.length:Int)),(17,.val i64 J)],vr:=[],az:=[] }
noncomputable def b0 (self:Int->Y) (e0:(Unit)->Y) (a1:Arg) (J:Int):Y:=bif decide (J < (a1.1.length:Int)) then (if 0<=J then ((a1.1[J.toNat]?).bind λa7=>if 0<=J then ((a1.2.1[J.toNat]?).bind λen=>(d0.aa (a7,en,())).bind λjZ=>bif !jZ.1 then (some (false,())) else self (af (J+(1:Int)))) else none) else none) else e0 ()
noncomputable def q0 (a1:Arg) (oD:(Unit)):Y:=some (true,())
noncomputable def s0 (k:Nat) (a1:Arg):(Int)->Y:=λJ=>D.L k [1,1,0,1,0,0] [1,2,15,16,17] [] (ag 0 (ay (D.N k [1,1,1]) D.K0)) (T0 a1 J)
noncomputable def r0 (k:Nat) (a1:Arg):(Int)->Y:=ak (λw v=>b0 w (q0 a1) a1 v) k
theorem aw (k:Nat) (a1:Arg):s0 k a1=r0 k a1:=
 funext λJ=>av _ _ _ (T0 a1) _ (λrec v=>by kernel_rfl) k J
noncomputable def p (l0:(Int)->Y) (a1:Arg):Y:=bif !decide ((a1.1.length:Int)=(a1.2.1.length:Int)) then (some (false,())) else l0 (0:Int)
theorem ae (k:Nat) (a1:Arg):@Eq Y (D.W k a1) (p (r0 k a1) a1):=
 aU (b:=p (s0 k a1) a1) (by kernel_rfl) (by rw[aw])
theorem ok:Ok prog 108 D.sig:=au func108 aT (by kernel_rfl) (fc d0.ok (aj _))
end ed
namespace py
abbrev Arg:Type:=(List (List UInt8))×(List (List UInt8))×Unit
abbrev Out:Type:=Bool×Unit
noncomputable def D:FD:={ fn:=f58,tl:=bd,ps:=[(.ro,(.U (.U u8))),(.ro,(.U (.U u8)))],rs:=[(.bool,(ax .bool))],gl:=[(108,ed.D.sig)] }
noncomputable def aa (a:Arg):Option Out:=@lift Out λk=>D.W k a
noncomputable def p (a1:Arg):Option Out:=(ed.aa (a1.1,a1.2.1,((109,0):Nat×Int),())).bind λr2=>some (r2.1,())
theorem ae (k:Nat) (a1:Arg):@Eq (Option Out) (D.W k a1) (p a1):=by kernel_rfl
theorem ok:Ok prog 58 D.sig:=au func58 aT (by kernel_rfl) (fc ed.ok (aj _))
end py
namespace oS
abbrev Arg:Type:=kJ×Unit
abbrev Out:Type:=Int×Unit
noncomputable def D:FD:={ fn:=f22,tl:=bd,ps:=[(.ro,im)],rs:=[(i64,(ax i64))],gl:=[(51,iN.D.sig),(52,fy.D.sig),(53,eh.D.sig),(54,nI.D.sig),(55,lM.D.sig),(56,pc.D.sig),(57,og.D.sig),(58,py.D.sig)],od:=[(13,[0,2,3,4,5,1,6,7,8])] }
noncomputable def aa (a:Arg):Option Out:=@lift Out λk=>D.W k a
noncomputable def p (a1:Arg):Option Out:=(iN.aa (a1.1.2.2.1,())).bind λr2=>bif !decide (r2.1=(0:Int)) then (some (r2.1,())) else bif !a1.1.1 then (bif decide ((0:Int) < (a1.1.2.1.length:Int)) then (some ((1:Int),())) else bif decide ((0:Int) < (a1.1.2.2.2.1.length:Int)) then (some ((1:Int),())) else bif decide ((0:Int) < (a1.1.2.2.1.2.1.length:Int)) then (some ((1:Int),())) else (fy.aa (a1.1.2.2.2.2.1,(1:Int),(100:Int),())).bind λr3=>bif !r3.1 then (some ((3:Int),())) else some ((0:Int),())) else (eh.aa (a1.1.2.1,())).bind λr4=>bif !decide (r4.2.1=(0:Int)) then (some (r4.2.1,())) else (lM.aa (r4.1,())).bind λr5=>(nI.aa ((r5.1,a1.1.2.2.2.1,a1.1.2.2.2.2.1,()),())).bind λr6=>bif !decide (r6.1=(0:Int)) then (some (r6.1,())) else (og.aa (a1.1.2.2.1,())).bind λr7=>(pc.aa (r7.1,())).bind λr8=>bif !decide (r8.2.1=(0:Int)) then (some ((8:Int),())) else (py.aa (r8.1,a1.1.2.1,())).bind λr9=>bif !r9.1 then (some ((8:Int),())) else some ((0:Int),())
theorem ae (k:Nat) (a1:Arg):@Eq (Option Out) (D.W k a1) (p a1):=by kernel_rfl
theorem ok:Ok prog 22 D.sig:=au func22 aT (by kernel_rfl) (fc iN.ok (fc fy.ok (fc eh.ok (fc nI.ok (fc lM.ok (fc pc.ok (fc og.ok (fc py.ok (aj _)))))))))
end oS
namespace o3
abbrev Arg:Type:=Buffer×Int×Unit
abbrev Out:Type:=Bool×Unit
noncomputable def D:FD:={ fn:=f229,tl:=bd,ps:=[(.ro,bj),(.ro,(.ptr i64))],rs:=[(.bool,(ax .bool))],cap:=true }
noncomputable def aa (a:Arg):Option Out:=@lift Out λk=>D.W k a
noncomputable def p (a1:Arg):Option Out:=some (decide (a1.1.1=a1.2.1),())
theorem ae (k:Nat) (a1:Arg):@Eq (Option Out) (D.W k a1) (p a1):=by kernel_rfl
theorem ok:Ok prog 229 D.sig:=au func229 aT (by kernel_rfl) (aj _)
end o3
namespace eg
abbrev Arg:Type:=(List Buffer)×(Nat×Int)×Unit
abbrev Out:Type:=Int×Unit
abbrev Y:=Option Out
noncomputable def D:FD:={ fn:=f228,tl:=bd,ps:=[(.ro,(.U bj)),(.fix 229,.fn)],rs:=[(i64,(ax i64))],gl:=[(229,o3.D.sig)],lv:=[(2,[0,1,7,8])],lx:=[(0,[])] }
noncomputable def aa (a:Arg):Y:=@lift Out λk=>D.W k a
noncomputable def T0 (a1:Arg) (J:Int):St:={ n:=19,sl:=[(0,.val (.U bj) a1.1),(1,.val .fn ((229,a1.2.1.2):Nat×Int)),(7,.val i64 (a1.1.length:Int)),(8,.val i64 J)],vr:=[],az:=[] }
noncomputable def b0 (self:Int->Y) (e0:(Unit)->Y) (a1:Arg) (J:Int):Y:=bif decide (J < (a1.1.length:Int)) then (if 0<=J then ((a1.1[J.toNat]?).bind λa7=>(o3.aa (a7,a1.2.1.2,())).bind λdv=>bif dv.1 then (some (J,())) else self (af (J+(1:Int)))) else none) else e0 ()
noncomputable def q0 (a1:Arg) (dz:(Unit)):Y:=some ((-1:Int),())
noncomputable def s0 (k:Nat) (a1:Arg):(Int)->Y:=λJ=>D.L k [1,0,1,0,0] [0,1,7,8] [] (ag 0 (ay (D.N k [1,1]) D.K0)) (T0 a1 J)
noncomputable def r0 (k:Nat) (a1:Arg):(Int)->Y:=ak (λw v=>b0 w (q0 a1) a1 v) k
theorem aw (k:Nat) (a1:Arg):s0 k a1=r0 k a1:=
 funext λJ=>av _ _ _ (T0 a1) _ (λrec v=>by kernel_rfl) k J
noncomputable def p (l0:(Int)->Y) (a1:Arg):Y:=l0 (0:Int)
theorem ae (k:Nat) (a1:Arg):@Eq Y (D.W k a1) (p (r0 k a1) a1):=
 aU (b:=p (s0 k a1) a1) (by kernel_rfl) (by rw[aw])
theorem ok:Ok prog 228 D.sig:=au func228 aT (by kernel_rfl) (fc o3.ok (aj _))
end eg
namespace nJ
abbrev Arg:Type:=dg×Int×Unit
abbrev Out:Type:=Int×Unit
noncomputable def D:FD:={ fn:=f204,tl:=bd,ps:=[(.ro,ei),(.ro,i64)],rs:=[(i64,(ax i64))],gl:=[(228,eg.D.sig)] }
noncomputable def aa (a:Arg):Option Out:=@lift Out λk=>D.W k a
noncomputable def p (a1:Arg):Option Out:=(eg.aa (a1.1.2.1,((229,a1.2.1):Nat×Int),())).bind λr2=>some (r2.1,())
theorem ae (k:Nat) (a1:Arg):@Eq (Option Out) (D.W k a1) (p a1):=by kernel_rfl
theorem ok:Ok prog 204 D.sig:=au func204 aT (by kernel_rfl) (fc eg.ok (aj _))
end nJ
namespace lB
abbrev Arg:Type:=(List (List UInt8))×Unit
abbrev Out:Type:=(List (List UInt8))×Unit
abbrev Y:=Option Out
noncomputable def D:FD:={ fn:=f208,tl:=bd,ps:=[(.ro,(.U (.U u8)))],rs:=[((.U (.U u8)),(an (.U (.U u8))))],gl:=[(111,kb.D.sig)],lv:=[(3,[3,6,7,8])],lx:=[(0,[3])] }
noncomputable def aa (a:Arg):Y:=@lift Out λk=>D.W k a
noncomputable def T0 (a1:Arg) (J:(List (List UInt8))×Int):St:={ n:=19,sl:=[(3,.own (.U (.U u8)) (an (.U (.U u8))) [] J.1),(6,.val (.U (.U u8)) a1.1),(7,.val i64 (a1.1.length:Int)),(8,.val i64 J.2)],vr:=[],az:=[] }
noncomputable def b0 (self:((List (List UInt8))×Int)->Y) (e0:(List (List UInt8))->Y) (a1:Arg) (J:(List (List UInt8))×Int):Y:=bif decide (J.2 < (a1.1.length:Int)) then (if 0<=J.2 then ((a1.1[J.2.toNat]?).bind λa7=>(kb.aa (a7,())).bind λdv=>if J.1.length+[dv.1].length<=cc then (self (J.1++[dv.1],af (J.2+(1:Int)))) else none) else none) else e0 J.1
noncomputable def q0 (a1:Arg) (dz:(List (List UInt8))):Y:=some (dz,())
noncomputable def s0 (k:Nat) (a1:Arg):((List (List UInt8))×Int)->Y:=λJ=>D.L k [1,1,0,1,0,0] [3,6,7,8] [] (ag 0 (ay (D.N k [1,1,1]) D.K0)) (T0 a1 J)
noncomputable def r0 (k:Nat) (a1:Arg):((List (List UInt8))×Int)->Y:=ak (λw v=>b0 w (q0 a1) a1 v) k
theorem aw (k:Nat) (a1:Arg):s0 k a1=r0 k a1:=
 funext λJ=>av _ _ _ (T0 a1) _ (λrec v=>by kernel_rfl) k J
noncomputable def p (l0:((List (List UInt8))×Int)->Y) (a1:Arg):Y:=l0 (([]:List (List UInt8)),(0:Int))
theorem ae (k:Nat) (a1:Arg):@Eq Y (D.W k a1) (p (r0 k a1) a1):=
 aU (b:=p (s0 k a1) a1) (by kernel_rfl) (by rw[aw])
theorem ok:Ok prog 208 D.sig:=au func208 aT (by kernel_rfl) (fc kb.ok (aj _))
end lB
namespace ip
abbrev Arg:Type:=(List Change)×Unit
abbrev Out:Type:=(List Change)×Unit
noncomputable def D:FD:={ fn:=f234,tl:=bd,ps:=[(.ro,(.U ai))],rs:=[((.U ai),(an (.U ai)))] }
noncomputable def aa (a:Arg):Option Out:=@lift Out λk=>D.W k a
noncomputable def p (a1:Arg):Option Out:=BO a1.1 (some (([]:List Change),())) (if ([]:List Change).length+a1.1.length<=cc then (some (([]:List Change)++a1.1,())) else none)
theorem ae (k:Nat) (a1:Arg):@Eq (Option Out) (D.W k a1) (p a1):=by kernel_rfl
theorem ok:Ok prog 234 D.sig:=au func234 aT (by kernel_rfl) (aj _)
end ip
namespace oy
abbrev Arg:Type:=Buffer×Unit
abbrev Out:Type:=Buffer×Unit
noncomputable def D:FD:={ fn:=f230,tl:=bd,ps:=[(.ro,bj)],rs:=[(bj,(an bj))],gl:=[(234,ip.D.sig)],od:=[(1,[0,1,2,3,4,5,6])] }
noncomputable def aa (a:Arg):Option Out:=@lift Out λk=>D.W k a
noncomputable def p (a1:Arg):Option Out:=(ip.aa (a1.1.2.1,())).bind λr2=>some ((a1.1.1,r2.1,()),())
theorem ae (k:Nat) (a1:Arg):@Eq (Option Out) (D.W k a1) (p a1):=by kernel_rfl
theorem ok:Ok prog 230 D.sig:=au func230 aT (by kernel_rfl) (fc ip.ok (aj _))
end oy
namespace km
abbrev Arg:Type:=dg×Unit
abbrev Out:Type:=dg×Unit
abbrev Y:=Option Out
noncomputable def D:FD:={ fn:=f205,tl:=bd,ps:=[(.ro,ei)],rs:=[(ei,(an ei))],gl:=[(208,lB.D.sig),(230,oy.D.sig)],lv:=[(3,[2,3,11,12,13])],lx:=[(0,[2,3])],od:=[(5,[0,1,2,3,4,5,6,7])] }
noncomputable def aa (a:Arg):Y:=@lift Out λk=>D.W k a
noncomputable def T0 (a1:Arg) (bn:dg×Int):St:={ n:=26,sl:=[(2,.box ei (an ei) [] (([]:List (List UInt8)),([]:List Buffer),())),(3,.box ei (an ei) [] bn.1),(11,.val (.U bj) a1.1.2.1),(12,.val i64 (a1.1.2.1.length:Int)),(13,.val i64 bn.2)],vr:=[],az:=[] }
noncomputable def b0 (self:(dg×Int)->Y) (e0:dg->Y) (a1:Arg) (bn:dg×Int):Y:=bif decide (bn.2 < (a1.1.2.1.length:Int)) then (if 0<=bn.2 then ((a1.1.2.1[bn.2.toNat]?).bind λen=>(oy.aa (en,())).bind λjZ=>if bn.1.2.1.length+[jZ.1].length<=cc then (self ((bn.1.1,bn.1.2.1++[jZ.1],bn.1.2.2),af (bn.2+(1:Int)))) else none) else none) else e0 bn.1
noncomputable def q0 (a1:Arg) (oD:dg):Y:=some (oD,())
noncomputable def s0 (k:Nat) (a1:Arg):(dg×Int)->Y:=λbn=>D.L k [1,1,0,1,0,0] [2,3,11,12,13] [] (ag 0 (ay (D.N k [1,1,1]) D.K0)) (T0 a1 bn)
noncomputable def r0 (k:Nat) (a1:Arg):(dg×Int)->Y:=ak (λw v=>b0 w (q0 a1) a1 v) k
theorem aw (k:Nat) (a1:Arg):s0 k a1=r0 k a1:=
 funext λbn=>av _ _ _ (T0 a1) _ (λrec v=>by kernel_rfl) k bn
noncomputable def p (l0:(dg×Int)->Y) (a1:Arg):Y:=(lB.aa (a1.1.1,())).bind λr2=>l0 ((r2.1,([]:List Buffer),()),(0:Int))
theorem ae (k:Nat) (a1:Arg):@Eq Y (D.W k a1) (p (r0 k a1) a1):=
 aU (b:=p (s0 k a1) a1) (by kernel_rfl) (by rw[aw])
theorem ok:Ok prog 205 D.sig:=au func205 aT (by kernel_rfl) (fc lB.ok (fc oy.ok (aj _)))
end km
namespace mp
open Go.Proofs
abbrev Arg:Type:=(List Buffer)×Int×(Int)×Unit
abbrev Out:Type:=(List Buffer)×Unit
noncomputable def aa (a:Arg):Option Out:=LK bj a
noncomputable def sig:sQ:={ ps:=[(.nc (an (.U bj)),(.U bj)),(.ro,i64),(.ro,i64)],rs:=[((.U bj),an (.U bj))],F:=aa,CZ:=λv H=>Iw v.2.1 v.2.2.1 H }
def SI:Go.Shelf.Ren:=⟨λ| 45=>206 | n=>n,λ| 22=>31 | 23=>211 | 3=>3 | 4=>4 | 0=>0 | n=>n,λn=>n⟩
theorem lay:SlLaysE0.n45 prog SI:=⟨by kernel_rfl,⟨f206.name,by decide,func206.trans (dE some (by kernel_rfl))⟩,underlying0,isAgg0,sizeOf0,zeroValue0,underlying3,isAgg3,sizeOf3,zeroValue3,underlying4,isAgg4,sizeOf4,zeroValue4,underlying31,isAgg31,sizeOf31,zeroValue31⟩
theorem ok:Ok prog 206 sig:=Jq (e:=bj) lay (by kernel_rfl) (by decide) (by decide) ⟨f206,func206,by kernel_rfl,by kernel_rfl,by kernel_rfl⟩
end mp
namespace eb
abbrev Arg:Type:=(List Row)×(List Row)×Unit
abbrev Out:Type:=(List Change)×Unit
abbrev Y:=Option Out
noncomputable def D:FD:={ fn:=f207,tl:=bd,ps:=[(.ro,(.U ba)),(.ro,(.U ba))],rs:=[((.U ai),(an (.U ai)))],gl:=[(155,ij.D.sig)],lv:=[(2,[0,1,5])],lx:=[(0,[5])],od:=[(4,[0,1,2,3,4,5,6,7]),(11,[0,1,2,3,4,5,6]),(14,[0,1,2,3,4,5,6])],ar:=[(11,[2]),(14,[2])] }
noncomputable def aa (a:Arg):Y:=@lift Out λk=>D.W k a
noncomputable def T0 (a1:Arg) (J:(List Row)×(List Row)×(List Change)):St:={ n:=69,sl:=[(0,.val (.U ba) J.1),(1,.val (.U ba) J.2.1),(5,.own (.U ai) (an (.U ai)) [] J.2.2)],vr:=[],az:=[] }
noncomputable def b0 (self:((List Row)×(List Row)×(List Change))->Y) (e0:(List Change)->Y) (a1:Arg) (J:(List Row)×(List Row)×(List Change)):Y:=let Zn:Y:=let UK:=λ(Zo:Int)=>(let Zp:=λ(Qi:List Row) (Qj:Change)=>(let Zq:=λ(Qk:List Row) (Bi:Change)=>(bif !Bi.1 then (if J.2.2.length+[Bi].length<=cc then (self (Qi,Qk,J.2.2++[Bi])) else none) else bif !Bi.2.2.1 then (if J.2.2.length+[Bi].length<=cc then (self (Qi,Qk,J.2.2++[Bi])) else none) else bif !(Ty.eq ba Bi.2.1 Bi.2.2.2.1) then (if J.2.2.length+[Bi].length<=cc then (self (Qi,Qk,J.2.2++[Bi])) else none) else self (Qi,Qk,J.2.2):Y);bif decide ((0:Int)<=Zo) then ((J.2.1[0]?).bind λabD=>if 0<=(1:Int)/\(1:Int)<=(J.2.1.length:Int) then (Zq ((J.2.1.take J.2.1.length).drop 1) (Qj.1,Qj.2.1,true,abD,Qj.2.2.2.2)) else none) else Zq J.2.1 Qj:Y);bif decide (Zo<=(0:Int)) then ((J.1[0]?).bind λabE=>if 0<=(1:Int)/\(1:Int)<=(J.1.length:Int) then (Zp ((J.1.take J.1.length).drop 1) (true,abE,false,((0:Int),(0:Int),(0:Int),([]:List UInt8),()),())) else none) else Zp J.1 (false,((0:Int),(0:Int),(0:Int),([]:List UInt8),()),false,((0:Int),(0:Int),(0:Int),([]:List UInt8),()),()):Y);bif decide ((J.1.length:Int)=(0:Int)) then (UK (1:Int)) else bif decide ((J.2.1.length:Int)=(0:Int)) then (UK (-1:Int)) else (J.1[0]?).bind λAb=>(J.2.1[0]?).bind λUL=>(ij.aa (Ab,UL,())).bind λDZ=>UK DZ.1;bif decide ((0:Int) < (J.1.length:Int)) then (Zn) else bif decide ((0:Int) < (J.2.1.length:Int)) then (Zn) else e0 J.2.2
noncomputable def q0 (a1:Arg) (abF:(List Change)):Y:=some (abF,())
noncomputable def s0 (k:Nat) (a1:Arg):((List Row)×(List Row)×(List Change))->Y:=λJ=>D.L k [1,1,0,0,0] [0,1,5] [] (ag 0 (ay (D.N k [1,1,1]) D.K0)) (T0 a1 J)
noncomputable def r0 (k:Nat) (a1:Arg):((List Row)×(List Row)×(List Change))->Y:=ak (λw v=>b0 w (q0 a1) a1 v) k
theorem aw (k:Nat) (a1:Arg):s0 k a1=r0 k a1:=
 funext λJ=>av _ _ _ (T0 a1) _ (λrec v=>by kernel_rfl) k J
noncomputable def p (l0:((List Row)×(List Row)×(List Change))->Y) (a1:Arg):Y:=l0 (a1.1,a1.2.1,([]:List Change))
theorem ae (k:Nat) (a1:Arg):@Eq Y (D.W k a1) (p (r0 k a1) a1):=
 aU (b:=p (s0 k a1) a1) (by kernel_rfl) (by rw[aw])
theorem ok:Ok prog 207 D.sig:=au func207 aT (by kernel_rfl) (fc ij.ok (aj _))
end eb
namespace fe
abbrev Arg:Type:=(List Change)×Unit
abbrev Out:Type:=Int×Unit
abbrev Y:=Option Out
noncomputable def D:FD:={ fn:=f231,tl:=bd,ps:=[(.ro,(.U ai))],rs:=[(i64,(ax i64))],gl:=[(156,gd.D.sig),(197,gy.D.sig),(226,cx.D.sig)],lv:=[(4,[0,9,10,11])],lx:=[(0,[])],od:=[(9,[0,1,2,3,4,5,6,7,9,8,10,11,12,13])] }
noncomputable def aa (a:Arg):Y:=@lift Out λk=>D.W k a
noncomputable def T0 (a1:Arg) (J:Int):St:={ n:=36,sl:=[(0,.val (.U ai) a1.1),(9,.val (.U ai) a1.1),(10,.val i64 (a1.1.length:Int)),(11,.val i64 J)],vr:=[],az:=[] }
noncomputable def b0 (self:Int->Y) (e0:(Unit)->Y) (a1:Arg) (J:Int):Y:=bif decide (J < (a1.1.length:Int)) then (if 0<=J then ((a1.1[J.toNat]?).bind λa7=>(gy.aa (a7,())).bind λdv=>bif !decide (dv.1=(0:Int)) then (some (dv.1,())) else bif decide ((0:Int) < J) then (if 0<=af (J - (1:Int)) then ((a1.1[(af (J - (1:Int))).toNat]?).bind λeo=>(cx.aa (eo,())).bind λph=>(cx.aa (a7,())).bind λmP=>(gd.aa (ph.1,mP.1,())).bind λvn=>bif !vn.1 then (some ((1:Int),())) else self (af (J+(1:Int)))) else none) else self (af (J+(1:Int)))) else none) else e0 ()
noncomputable def q0 (a1:Arg) (Bh:(Unit)):Y:=some ((0:Int),())
noncomputable def s0 (k:Nat) (a1:Arg):(Int)->Y:=λJ=>D.L k [1,1,0,1,0,0] [0,9,10,11] [] (ag 0 (ay (D.N k [1,1,1]) D.K0)) (T0 a1 J)
noncomputable def r0 (k:Nat) (a1:Arg):(Int)->Y:=ak (λw v=>b0 w (q0 a1) a1 v) k
theorem aw (k:Nat) (a1:Arg):s0 k a1=r0 k a1:=
 funext λJ=>av _ _ _ (T0 a1) _ (λrec v=>by kernel_rfl) k J
noncomputable def p (l0:(Int)->Y) (a1:Arg):Y:=bif decide ((60:Int) < (a1.1.length:Int)) then (some ((2:Int),())) else l0 (0:Int)
theorem ae (k:Nat) (a1:Arg):@Eq Y (D.W k a1) (p (r0 k a1) a1):=
 aU (b:=p (s0 k a1) a1) (by kernel_rfl) (by rw[aw])
theorem ok:Ok prog 231 D.sig:=au func231 aT (by kernel_rfl) (fc gd.ok (fc gy.ok (fc cx.ok (aj _))))
end fe
namespace nV
abbrev Arg:Type:=Change×Row×Unit
abbrev Out:Type:=Int×Unit
noncomputable def D:FD:={ fn:=f233,tl:=bd,ps:=[(.ro,ai),(.ro,ba)],rs:=[(i64,(ax i64))],gl:=[(155,ij.D.sig),(226,cx.D.sig)],od:=[(1,[0,2,1,3,4])] }
noncomputable def aa (a:Arg):Option Out:=@lift Out λk=>D.W k a
noncomputable def p (a1:Arg):Option Out:=(cx.aa (a1.1,())).bind λr2=>(ij.aa (r2.1,a1.2.1,())).bind λr3=>some (r3.1,())
theorem ae (k:Nat) (a1:Arg):@Eq (Option Out) (D.W k a1) (p a1):=by kernel_rfl
theorem ok:Ok prog 233 D.sig:=au func233 aT (by kernel_rfl) (fc ij.ok (fc cx.ok (aj _)))
end nV
namespace bt
abbrev Arg:Type:=(List Change)×Row×(Nat×Int)×Unit
abbrev Out:Type:=Int×Bool×Unit
abbrev Y:=Option Out
noncomputable def D:FD:={ fn:=f232,tl:=bd,ps:=[(.ro,(.U ai)),(.ro,ba),(.fix 233,.fn)],rs:=[(i64,(ax i64)),(.bool,(ax .bool))],gl:=[(233,nV.D.sig)],lv:=[(3,[0,2,4,8,9,10])],lx:=[(0,[0,2,4,8,9])],od:=[(5,[0,1,2,3,4,5,6,7]),(8,[0,1,2,3,4,5,6,7,8,9,10,11,12,13,14,15])] }
noncomputable def aa (a:Arg):Y:=@lift Out λk=>D.W k a
noncomputable def T0 (a1:Arg) (J:Int×Int):St:={ n:=49,sl:=[(0,.val (.U ai) a1.1),(2,.val .fn ((233,a1.2.2.1.2):Nat×Int)),(4,.box ba (ax ba) [] a1.2.1),(8,.val i64 (a1.1.length:Int)),(9,.val i64 J.1),(10,.val i64 J.2)],vr:=[],az:=[] }
noncomputable def b0 (self:(Int×Int)->Y) (e0:Int->Y) (a1:Arg) (J:Int×Int):Y:=bif decide (J.1 < J.2) then (if 0<=af ((IntKind.wrap .u64 (af (J.1+J.2))).fdiv (2 ^ 1)) then ((a1.1[(af ((IntKind.wrap .u64 (af (J.1+J.2))).fdiv (2 ^ 1))).toNat]?).bind λa7=>(nV.aa (a7,a1.2.1,())).bind λdv=>bif decide (dv.1 < (0:Int)) then (self (af ((af ((IntKind.wrap .u64 (af (J.1+J.2))).fdiv (2 ^ 1)))+(1:Int)),J.2)) else self (J.1,af ((IntKind.wrap .u64 (af (J.1+J.2))).fdiv (2 ^ 1)))) else none) else e0 J.1
noncomputable def q0 (a1:Arg) (dz:Int):Y:=bif decide (dz < (a1.1.length:Int)) then (if 0<=dz then ((a1.1[dz.toNat]?).bind λqz=>(nV.aa (qz,a1.2.1,())).bind λmP=>some (dz,decide (mP.1=(0:Int)),())) else none) else some (dz,false,())
noncomputable def s0 (k:Nat) (a1:Arg):(Int×Int)->Y:=λJ=>D.L k [1,1,1,0,0,0] [0,2,4,8,9,10] [] (ag 0 (ay (D.N k [1,1,1,1]) D.K0)) (T0 a1 J)
noncomputable def r0 (k:Nat) (a1:Arg):(Int×Int)->Y:=ak (λw v=>b0 w (q0 a1) a1 v) k
theorem aw (k:Nat) (a1:Arg):s0 k a1=r0 k a1:=
 funext λJ=>av _ _ _ (T0 a1) _ (λrec v=>by kernel_rfl) k J
noncomputable def p (l0:(Int×Int)->Y) (a1:Arg):Y:=l0 ((0:Int),(a1.1.length:Int))
theorem ae (k:Nat) (a1:Arg):@Eq Y (D.W k a1) (p (r0 k a1) a1):=
 aU (b:=p (s0 k a1) a1) (by kernel_rfl) (by rw[aw])
theorem ok:Ok prog 232 D.sig:=au func232 aT (by kernel_rfl) (fc nV.ok (aj _))
end bt
namespace oT
open Go.Proofs
abbrev Arg:Type:=(List Change)×Int×(List Change)×Unit
abbrev Out:Type:=(List Change)×Unit
noncomputable def aa (a:Arg):Option Out:=PX ai a
noncomputable def sig:sQ:={ ps:=[(.nc (an (.U ai)),(.U ai)),(.ro,i64),(.ro,(.U ai))],rs:=[((.U ai),an (.U ai))],F:=aa }
def SI:Go.Shelf.Ren:=⟨λ| 22=>235 | 29=>242 | 30=>243 | n=>n,λ| 24=>95 | 9=>186 | 3=>3 | 4=>4 | n=>n,λn=>n⟩
theorem lay:Hf prog SI ai:=⟨by kernel_rfl,⟨f235.name,by decide,func235.trans (dE some (by kernel_rfl))⟩,⟨f242,func242,by kernel_rfl,by kernel_rfl,by kernel_rfl,by kernel_rfl⟩,by kernel_rfl,by kernel_rfl,by kernel_rfl,underlying95,by kernel_rfl,by kernel_rfl,by kernel_rfl,by kernel_rfl⟩
theorem ok:Ok prog 235 sig:=SE lay (by decide) (by decide) (by decide) ⟨f235,func235,by kernel_rfl,by kernel_rfl,by kernel_rfl⟩
end oT
namespace mq
open Go.Proofs
abbrev Arg:Type:=(List Change)×Int×(Int)×Unit
abbrev Out:Type:=(List Change)×Unit
noncomputable def aa (a:Arg):Option Out:=LK ai a
noncomputable def sig:sQ:={ ps:=[(.nc (an (.U ai)),(.U ai)),(.ro,i64),(.ro,i64)],rs:=[((.U ai),an (.U ai))],F:=aa,CZ:=λv H=>Iw v.2.1 v.2.2.1 H }
def SI:Go.Shelf.Ren:=⟨λ| 45=>236 | n=>n,λ| 22=>95 | 23=>186 | 3=>3 | 4=>4 | 0=>0 | n=>n,λn=>n⟩
theorem lay:SlLaysE0.n45 prog SI:=⟨by kernel_rfl,⟨f236.name,by decide,func236.trans (dE some (by kernel_rfl))⟩,underlying0,isAgg0,sizeOf0,zeroValue0,underlying3,isAgg3,sizeOf3,zeroValue3,underlying4,isAgg4,sizeOf4,zeroValue4,underlying95,isAgg95,sizeOf95,zeroValue95⟩
theorem ok:Ok prog 236 sig:=Jq (e:=ai) lay (by kernel_rfl) (by decide) (by decide) ⟨f236,func236,by kernel_rfl,by kernel_rfl,by kernel_rfl⟩
end mq
namespace nK
abbrev Arg:Type:=(List Change)×Change×Unit
abbrev Out:Type:=Buffer×Unit
abbrev Y:=Option Out
noncomputable def D:FD:={ fn:=f209,tl:=bd,ps:=[(.ro,(.U ai)),(.ro,ai)],rs:=[(bj,(an bj))],gl:=[(197,gy.D.sig),(226,cx.D.sig),(231,fe.D.sig),(232,bt.D.sig),(234,ip.D.sig),(235,oT.sig),(236,mq.sig)],od:=[(14,[0,1,2,3,4,5,6,7])],ar:=[(14,[1,3])],bx:=[(14,[3])] }
noncomputable def aa (a:Arg):Y:=@lift Out λk=>D.W k a
noncomputable def p (a1:Arg):Y:=(fe.aa (a1.1,())).bind λr2=>bif !decide (r2.1=(0:Int)) then (some ((r2.1,([]:List Change),()),())) else (gy.aa (a1.2.1,())).bind λr3=>bif !decide (r3.1=(0:Int)) then (some ((r3.1,([]:List Change),()),())) else (cx.aa (a1.2.1,())).bind λr4=>(bt.aa (a1.1,r4.1,((233,0):Nat×Int),())).bind λr5=>(ip.aa (a1.1,())).bind λr6=>bif !r5.2.1 then ((oT.aa (r6.1,r5.1,[a1.2.1],())).bind λr7=>some (((0:Int),r7.1,()),())) else if 0<=r5.1/\r5.1 < (r6.1.length:Int) then ((r6.1[r5.1.toNat]?).bind λx8=>let j24:Y:=let OJ:Y:=if 0<=r5.1/\r5.1 < (r6.1.length:Int) then ((r6.1[r5.1.toNat]?).bind λx31=>let y32:=r6.1.set r5.1.toNat (x8.1,x8.2.1,a1.2.1.2.2.1,a1.2.1.2.2.2.1,x8.2.2.2.2);some (((0:Int),y32,()),())) else none;bif !x8.1 then (bif !a1.2.1.2.2.1 then ((mq.aa (r6.1,r5.1,af (r5.1+(1:Int)),())).bind λZj=>some (((0:Int),Zj.1,()),())) else bif x8.1 then (bif a1.2.1.2.2.1 then (bif (Ty.eq ba x8.2.1 a1.2.1.2.2.2.1) then ((mq.aa (r6.1,r5.1,af (r5.1+(1:Int)),())).bind λZa=>some (((0:Int),Za.1,()),())) else OJ) else OJ) else OJ) else bif x8.1 then (bif a1.2.1.2.2.1 then (bif (Ty.eq ba x8.2.1 a1.2.1.2.2.2.1) then ((mq.aa (r6.1,r5.1,af (r5.1+(1:Int)),())).bind λr27=>some (((0:Int),r27.1,()),())) else OJ) else OJ) else OJ;bif !(a1.2.1.1 == x8.2.2.1) then (some (((8:Int),([]:List Change),()),())) else bif a1.2.1.1 then (bif !(Ty.eq ba a1.2.1.2.1 x8.2.2.2.1) then (some (((8:Int),([]:List Change),()),())) else j24) else j24) else none
theorem ae (k:Nat) (a1:Arg):@Eq Y (D.W k a1) (p a1):=by kernel_rfl
theorem ok:Ok prog 209 D.sig:=au func209 aT (by kernel_rfl) (fc gy.ok (fc cx.ok (fc fe.ok (fc bt.ok (fc ip.ok (fc oT.ok (fc mq.ok (aj _))))))))
end nK
namespace jm
abbrev Arg:Type:=dg×bg×Unit
abbrev Out:Type:=mI×Unit
abbrev Y:=Option Out
noncomputable def D:FD:={ fn:=f168,tl:=bd,ps:=[(.ro,ei),(.ro,d9)],rs:=[(lR,(an lR))],gl:=[(53,eh.D.sig),(55,lM.D.sig),(106,gx.D.sig),(107,lO.D.sig),(204,nJ.D.sig),(205,km.D.sig),(206,mp.sig),(207,eb.D.sig),(208,lB.D.sig),(209,nK.D.sig)],lv:=[(37,[4,6,7,15,131,132,133])],lx:=[(1,[4,7])],od:=[(39,[0,1,2,3,4,5,6,7,8,9])],ar:=[(39,[6])],bx:=[(39,[17])],pd:=[(39,[8])],er:=[(39,[(1,10),(5,10)])] }
noncomputable def aa (a:Arg):Y:=@lift Out λk=>D.W k a
noncomputable def T0 (a1:Arg) (oB:Int) (vJ:List Change) (wV:Int) (pO:dg×Int):St:={ n:=161,sl:=[(4,.box lR (an lR) [] ((0:Int),false,false,(0:Int),([]:List Change),(([]:List (List UInt8)),([]:List Buffer),()),())),(6,.val i64 oB),(7,.box ei (an ei) [] pO.1),(15,.own (.U ai) (an (.U ai)) [] vJ),(131,.ref 15 [] [0,0]),(132,.val i64 wV),(133,.val i64 pO.2)],vr:=[],az:=[] }
noncomputable def b0 (self:(dg×Int)->Y) (e1:dg->Y) (a1:Arg) (oB:Int) (vJ:List Change) (wV:Int) (pO:dg×Int):Y:=bif decide (pO.2 < wV) then (if 0<=pO.2/\pO.2 < (vJ.length:Int) then ((vJ[pO.2.toNat]?).bind λaaK=>if 0<=oB/\oB < (pO.1.2.1.length:Int) then ((pO.1.2.1[oB.toNat]?).bind λab2=>bif (qg [.snd,.fst,.idx oB.toNat,.snd,.fst] [.snd,.fst,.idx oB.toNat,.snd,.fst]&&true) then ((pO.1.2.1[oB.toNat]?).bind λaaL=>(nK.aa (aaL.2.1,aaK,())).bind λQl=>bif (qg [.snd,.fst,.idx oB.toNat,.snd,.fst] [.snd,.fst,.idx oB.toNat,.snd,.fst]&&true) then (bif (qg [.snd,.fst,.idx oB.toNat,.snd,.fst] [.snd,.fst,.idx oB.toNat,.snd,.fst]&&true) then (bif !decide (Ql.1.1=(0:Int)) then (some ((Ql.1.1,false,false,(0:Int),([]:List Change),(([]:List (List UInt8)),([]:List Buffer),()),()),())) else if 0<=oB/\oB < (pO.1.2.1.length:Int) then ((pO.1.2.1[oB.toNat]?).bind λWD=>let aaM:=pO.1.2.1.set oB.toNat (WD.1,Ql.1.2.1,WD.2.2);self ((pO.1.1,aaM,pO.1.2.2),af (pO.2+(1:Int)))) else none) else none) else none) else none) else none) else none) else e1 pO.1
noncomputable def q0 (a1:Arg) (oB:Int) (vJ:List Change) (wV:Int) (aaN:dg):Y:=some (((0:Int),false,false,(0:Int),([]:List Change),aaN,()),())
noncomputable def s0 (k:Nat) (a1:Arg):Int->(List Change)->Int->(dg×Int)->Y:=λoB vJ wV=>λpO=>D.L k [1,1,1,1,1,1,1,1,1,1,1,1,1,1,0,1,0,0] [4,6,7,15,131,132,133] [] (ag 1 (ay (D.N k [1,1,1,1,1,1,1,1,1,1,1,1,1,1,1]) D.K0)) (T0 a1 oB vJ wV pO)
noncomputable def r0 (k:Nat) (a1:Arg):Int->(List Change)->Int->(dg×Int)->Y:=λoB vJ wV=>ak (λw v=>b0 w (q0 a1 oB vJ wV) a1 oB vJ wV v) k
theorem aw (k:Nat) (a1:Arg):s0 k a1=r0 k a1:=
 funext λoB=>funext λvJ=>funext λwV=>funext λpO=>av _ _ _ (T0 a1 oB vJ wV) _ (λrec v=>by kernel_rfl) k pO
noncomputable def p (l0:Int->(List Change)->Int->(dg×Int)->Y) (a1:Arg):Y:=(gx.aa (a1.2.1,())).bind λr2=>bif !decide (r2.1=(0:Int)) then (some ((r2.1,false,false,(0:Int),([]:List Change),(([]:List (List UInt8)),([]:List Buffer),()),()),())) else (nJ.aa (a1.1,a1.2.1.2.1,())).bind λr3=>(km.aa (a1.1,())).bind λr4=>let Hn:Y:=(lO.aa (r4.1.1,a1.2.1,())).bind λKe=>bif !decide (Ke.2.1=(0:Int)) then (some ((Ke.2.1,false,false,(0:Int),([]:List Change),(([]:List (List UInt8)),([]:List Buffer),()),()),())) else (eh.aa (Ke.1,())).bind λQm=>bif !decide (Qm.2.1=(0:Int)) then (some ((Qm.2.1,false,false,(0:Int),([]:List Change),(([]:List (List UInt8)),([]:List Buffer),()),()),())) else let WE:Y:=(eh.aa (a1.1.1,())).bind λaaO=>(lM.aa (aaO.1,())).bind λaaP=>(lM.aa (Qm.1,())).bind λaaQ=>(eb.aa (aaP.1,aaQ.1,())).bind λQn=>(lB.aa (Ke.1,())).bind λWF=>bif decide (a1.2.1.1=(4:Int)) then (bif decide ((0:Int) < (Qn.1.length:Int)) then (some (((8:Int),false,false,(0:Int),([]:List Change),(([]:List (List UInt8)),([]:List Buffer),()),()),())) else some (((0:Int),false,false,(0:Int),([]:List Change),(WF.1,r4.1.2),()),())) else l0 r3.1 Qn.1 (Qn.1.length:Int) ((WF.1,r4.1.2),(0:Int));bif !decide (a1.2.1.1=(4:Int)) then (bif decide (r3.1 < (0:Int)) then (some (((4:Int),false,false,(0:Int),([]:List Change),(([]:List (List UInt8)),([]:List Buffer),()),()),())) else WE) else WE;bif decide (a1.2.1.1=(1:Int)) then (bif decide ((0:Int)<=r3.1) then (some (((6:Int),false,false,(0:Int),([]:List Change),(([]:List (List UInt8)),([]:List Buffer),()),()),())) else bif decide ((8:Int)<=(a1.1.2.1.length:Int)) then (some (((2:Int),false,false,(0:Int),([]:List Change),(([]:List (List UInt8)),([]:List Buffer),()),()),())) else if r4.1.2.1.length+[(a1.2.1.2.1,([]:List Change),())].length<=cc then (let y5:=r4.1.2.1++[(a1.2.1.2.1,([]:List Change),())];some (((0:Int),false,false,(0:Int),([]:List Change),(r4.1.1,y5,r4.1.2.2),()),())) else none) else bif decide (a1.2.1.1=(5:Int)) then (bif decide (a1.2.1.1=(5:Int)) then (bif decide (r3.1 < (0:Int)) then (some (((4:Int),false,false,(0:Int),([]:List Change),(([]:List (List UInt8)),([]:List Buffer),()),()),())) else if 0<=r3.1/\r3.1 < (r4.1.2.1.length:Int) then ((r4.1.2.1[r3.1.toNat]?).bind λx6=>(r4.1.2.1[r3.1.toNat]?).bind λx7=>(r4.1.2.1[r3.1.toNat]?).bind λx8=>bif Cm r3.1 (af (r3.1+(1:Int))) r3.1.toNat then ((mp.aa (r4.1.2.1.set r3.1.toNat x8,r3.1,af (r3.1+(1:Int)),())).bind λr9=>some (((0:Int),true,decide (a1.2.1.1=(5:Int)),x7.1,x7.2.1,(r4.1.1,r9.1,r4.1.2.2),()),())) else none) else none) else Hn) else bif decide (a1.2.1.1=(6:Int)) then (bif decide (r3.1 < (0:Int)) then (some (((4:Int),false,false,(0:Int),([]:List Change),(([]:List (List UInt8)),([]:List Buffer),()),()),())) else if 0<=r3.1/\r3.1 < (r4.1.2.1.length:Int) then ((r4.1.2.1[r3.1.toNat]?).bind λx10=>(r4.1.2.1[r3.1.toNat]?).bind λOI=>(r4.1.2.1[r3.1.toNat]?).bind λY8=>bif Cm r3.1 (af (r3.1+(1:Int))) r3.1.toNat then ((mp.aa (r4.1.2.1.set r3.1.toNat Y8,r3.1,af (r3.1+(1:Int)),())).bind λWG=>some (((0:Int),true,decide (a1.2.1.1=(5:Int)),OI.1,OI.2.1,(r4.1.1,WG.1,r4.1.2.2),()),())) else none) else none) else Hn
theorem ae (k:Nat) (a1:Arg):@Eq Y (D.W k a1) (p (r0 k a1) a1):=
 aU (b:=p (s0 k a1) a1) (by kernel_rfl) (by rw[aw])
theorem ok:Ok prog 168 D.sig:=au func168 aT (by kernel_rfl) (fc eh.ok (fc lM.ok (fc gx.ok (fc lO.ok (fc nJ.ok (fc km.ok (fc mp.ok (fc eb.ok (fc lB.ok (fc nK.ok (aj _)))))))))))
end jm
namespace lI
abbrev Arg:Type:=di×(List UInt8)×Unit
abbrev Out:Type:=ql×Unit
noncomputable def D:FD:={ fn:=f110,tl:=bd,ps:=[(.ro,d6),(.ro,(.U u8))],rs:=[(rn,(.pair (ax i64) (.pair (ax .bool) (.pair (an gv) (.pair (.pair (an ei) (ax (dn [i64,ei,i64]))) (ax .unit))))))],gl:=[(150,kQ.D.sig),(168,jm.D.sig)] }
noncomputable def aa (a:Arg):Option Out:=@lift Out λk=>D.W k a
noncomputable def p (a1:Arg):Option Out:=bif decide ((a1.2.1.length:Int)<=a1.1.2.1) then (some (((4:Int),false,((0:Int),(0:Int),([]:List Change),()),((([]:List (List UInt8)),([]:List Buffer),()),(0:Int),(([]:List (List UInt8)),([]:List Buffer),()),(0:Int),()),()),())) else if 0<=a1.1.2.1/\a1.1.2.1<=(a1.2.1.length:Int) then ((kQ.aa ((a1.2.1.take a1.2.1.length).drop a1.1.2.1.toNat,())).bind λr2=>bif decide (r2.2.1=(0:Int)) then (some (((5:Int),false,((0:Int),(0:Int),([]:List Change),()),((([]:List (List UInt8)),([]:List Buffer),()),(0:Int),(([]:List (List UInt8)),([]:List Buffer),()),(0:Int),()),()),())) else (jm.aa (a1.1.1,r2.1,())).bind λr3=>bif !decide (r3.1.1=(0:Int)) then (some ((r3.1.1,false,((0:Int),(0:Int),([]:List Change),()),((([]:List (List UInt8)),([]:List Buffer),()),(0:Int),(([]:List (List UInt8)),([]:List Buffer),()),(0:Int),()),()),())) else let j5:=λ(p4:ql)=>(some (p4,()):Option Out);bif r3.1.2.2.1 then (j5 ((0:Int),true,(af (a1.1.2.1+r2.2.1),r3.1.2.2.2.1,r3.1.2.2.2.2.1,()),(r3.1.2.2.2.2.2.1,af (a1.1.2.1+r2.2.1),a1.1.2.2.1,a1.1.2.2.2.1,()),())) else j5 ((0:Int),false,((0:Int),(0:Int),([]:List Change),()),(r3.1.2.2.2.2.2.1,af (a1.1.2.1+r2.2.1),a1.1.2.2.1,a1.1.2.2.2.1,()),())) else none
theorem ae (k:Nat) (a1:Arg):@Eq (Option Out) (D.W k a1) (p a1):=by kernel_rfl
theorem ok:Ok prog 110 D.sig:=au func110 aT (by kernel_rfl) (fc kQ.ok (fc jm.ok (aj _)))
end lI
namespace jb
abbrev Arg:Type:=di×(List UInt8)×Unit
abbrev Out:Type:=(List gk)×di×Int×Unit
abbrev Y:=Option Out
noncomputable def D:FD:={ fn:=f59,tl:=bd,ps:=[(.ro,d6),(.ro,(.U u8))],rs:=[((.U gv),(an (.U gv))),(d6,(ax d6)),(i64,(ax i64))],gl:=[(110,lI.D.sig)],lv:=[(4,[1,2,5,7])],lf:=[(4,[(2,(.pair (.pair (.U false (.U false .leaf)) (.pair (.U false (.pair .leaf (.pair (.U false (.pair .leaf (.pair (.pair .leaf (.pair .leaf (.pair .leaf (.pair .leaf .leaf)))) (.pair .leaf (.pair (.pair .leaf (.pair .leaf (.pair .leaf (.pair .leaf .leaf)))) .leaf))))) .leaf))) .leaf)) (.pair .leaf (.pair (.pair (.U false (.U false .leaf)) (.pair (.U false (.pair .leaf (.pair (.U false (.pair .leaf (.pair (.pair .leaf (.pair .leaf (.pair .leaf (.pair .leaf .leaf)))) (.pair .leaf (.pair (.pair .leaf (.pair .leaf (.pair .leaf (.pair .leaf .leaf)))) .leaf))))) .leaf))) .leaf)) (.pair .leaf .leaf)))))])],od:=[(6,[0,1,2,3,4])] }
noncomputable def aa (a:Arg):Y:=@lift Out λk=>D.W k a
noncomputable def T0 (a1:Arg) (J:di×(List gk)):St:={ n:=34,sl:=[(1,.val (.U u8) a1.2.1),(2,.box d6 (ax d6) [] J.1),(5,.box d6 (an d6) [] ((([]:List (List UInt8)),([]:List Buffer),()),(0:Int),(([]:List (List UInt8)),([]:List Buffer),()),(0:Int),())),(7,.own (.U gv) (an (.U gv)) [] J.2)],vr:=[],az:=[] }
noncomputable def b0 (self:(di×(List gk))->Y) (a1:Arg) (J:di×(List gk)):Y:=(lI.aa (J.1,a1.2.1,())).bind λvm=>bif !decide (vm.1.1=(0:Int)) then (some (J.2,J.1,(0:Int),())) else bif vm.1.2.1 then (bif decide ((40:Int)<=(J.2.length:Int)) then (some (([]:List gk),((([]:List (List UInt8)),([]:List Buffer),()),(0:Int),(([]:List (List UInt8)),([]:List Buffer),()),(0:Int),()),(2:Int),())) else if J.2.length+[vm.1.2.2.1].length<=cc then (self (vm.1.2.2.2.1,J.2++[vm.1.2.2.1])) else none) else self (vm.1.2.2.2.1,J.2)
noncomputable abbrev B0 (_:Nat):=b0
noncomputable def s0 (k:Nat) (a1:Arg):(di×(List gk))->Y:=λJ=>D.L k [1,1,1,0,0] [1,2,5,7] [(2,(.pair (.pair (.U false (.U false .leaf)) (.pair (.U false (.pair .leaf (.pair (.U false (.pair .leaf (.pair (.pair .leaf (.pair .leaf (.pair .leaf (.pair .leaf .leaf)))) (.pair .leaf (.pair (.pair .leaf (.pair .leaf (.pair .leaf (.pair .leaf .leaf)))) .leaf))))) .leaf))) .leaf)) (.pair .leaf (.pair (.pair (.U false (.U false .leaf)) (.pair (.U false (.pair .leaf (.pair (.U false (.pair .leaf (.pair (.pair .leaf (.pair .leaf (.pair .leaf (.pair .leaf .leaf)))) (.pair .leaf (.pair (.pair .leaf (.pair .leaf (.pair .leaf (.pair .leaf .leaf)))) .leaf))))) .leaf))) .leaf)) (.pair .leaf .leaf)))))] (ag 0 D.K0) (T0 a1 J)
noncomputable def r0 (k:Nat) (a1:Arg):(di×(List gk))->Y:=ak (λw v=>B0 k w a1 v) k
theorem aw (k:Nat) (a1:Arg):s0 k a1=r0 k a1:=
 funext λJ=>av _ _ _ (T0 a1) _ (λrec v=>by kernel_rfl) k J
noncomputable def p (l0:(di×(List gk))->Y) (a1:Arg):Y:=bif decide ((16000:Int) < (a1.2.1.length:Int)) then (some (([]:List gk),((([]:List (List UInt8)),([]:List Buffer),()),(0:Int),(([]:List (List UInt8)),([]:List Buffer),()),(0:Int),()),(2:Int),())) else l0 (a1.1,([]:List gk))
theorem ae (k:Nat) (a1:Arg):@Eq Y (D.W k a1) (p (r0 k a1) a1):=
 aU (b:=p (s0 k a1) a1) (by kernel_rfl) (by rw[aw])
theorem ok:Ok prog 59 D.sig:=au func59 aT (by kernel_rfl) (fc lI.ok (aj _))
end jb
namespace qc
abbrev Arg:Type:=Log×Unit
abbrev Out:Type:=(List UInt8)×Unit
noncomputable def D:FD:={ fn:=f60,tl:=bd,ps:=[(.ro,kg)],rs:=[((.U u8),(an (.U u8)))],gl:=[(111,kb.D.sig)],od:=[(1,[0,1,3,4,2,5,6])] }
noncomputable def aa (a:Arg):Option Out:=@lift Out λk=>D.W k a
noncomputable def p (a1:Arg):Option Out:=(kb.aa (a1.1.1,())).bind λr2=>if r2.1.length+a1.1.2.1.length<=cc then (some (r2.1++a1.1.2.1,())) else none
theorem ae (k:Nat) (a1:Arg):@Eq (Option Out) (D.W k a1) (p a1):=by kernel_rfl
theorem ok:Ok prog 60 D.sig:=au func60 aT (by kernel_rfl) (fc kb.ok (aj _))
end qc
namespace nL
abbrev Arg:Type:=kJ×Unit
abbrev Out:Type:=(List gk)×Int×Unit
noncomputable def D:FD:={ fn:=f23,tl:=bd,ps:=[(.ro,im)],rs:=[((.U gv),(an (.U gv))),(i64,(ax i64))],gl:=[(59,jb.D.sig),(60,qc.D.sig)] }
noncomputable def aa (a:Arg):Option Out:=@lift Out λk=>D.W k a
noncomputable def p (a1:Arg):Option Out:=(qc.aa (a1.1.2.2.1,())).bind λr2=>(jb.aa (((([]:List (List UInt8)),([]:List Buffer),()),(0:Int),(([]:List (List UInt8)),([]:List Buffer),()),(0:Int),()),r2.1,())).bind λr3=>some (r3.1,r3.2.2.1,())
theorem ae (k:Nat) (a1:Arg):@Eq (Option Out) (D.W k a1) (p a1):=by kernel_rfl
theorem ok:Ok prog 23 D.sig:=au func23 aT (by kernel_rfl) (fc jb.ok (fc qc.ok (aj _)))
end nL
namespace pP
abbrev Arg:Type:=kJ×Unit
abbrev Out:Type:=ig×Unit
noncomputable def D:FD:={ fn:=f7,tl:=bd,ps:=[(.ro,im)],rs:=[(gq,(an gq))],gl:=[(22,oS.D.sig),(23,nL.D.sig)] }
noncomputable def aa (a:Arg):Option Out:=@lift Out λk=>D.W k a
noncomputable def p (a1:Arg):Option Out:=(oS.aa (a1.1,())).bind λr2=>bif !decide (r2.1=(0:Int)) then (some ((r2.1,([]:List gk),((([]:List (List UInt8)),([]:List Buffer),()),(0:Int),(([]:List (List UInt8)),([]:List Buffer),()),(0:Int),()),()),())) else (nL.aa (a1.1,())).bind λr3=>some ((r3.2.1,r3.1,((([]:List (List UInt8)),([]:List Buffer),()),(0:Int),(([]:List (List UInt8)),([]:List Buffer),()),(0:Int),()),()),())
theorem ae (k:Nat) (a1:Arg):@Eq (Option Out) (D.W k a1) (p a1):=by kernel_rfl
theorem ok:Ok prog 7 D.sig:=au func7 aT (by kernel_rfl) (fc oS.ok (fc nL.ok (aj _)))
end pP
namespace qF
abbrev Arg:Type:=Row×Row×Unit
abbrev Out:Type:=Bool×Unit
noncomputable def D:FD:={ fn:=f210,tl:=bd,ps:=[(.ro,ba),(.ro,ba)],rs:=[(.bool,(ax .bool))] }
noncomputable def aa (a:Arg):Option Out:=@lift Out λk=>D.W k a
noncomputable def p (a1:Arg):Option Out:=bif !decide (a1.1.1=a1.2.1.1) then (some (false,())) else bif !decide (a1.1.2.1=a1.2.1.2.1) then (some (false,())) else bif !decide (a1.1.2.2.1=a1.2.1.2.2.1) then (some (false,())) else bif !decide (a1.1.2.2.2.1=a1.2.1.2.2.2.1) then (some (false,())) else some (true,())
theorem ae (k:Nat) (a1:Arg):@Eq (Option Out) (D.W k a1) (p a1):=by kernel_rfl
theorem ok:Ok prog 210 D.sig:=au func210 aT (by kernel_rfl) (aj _)
end qF
namespace nW
abbrev Arg:Type:=Change×Change×Unit
abbrev Out:Type:=Bool×Unit
noncomputable def D:FD:={ fn:=f169,tl:=bd,ps:=[(.ro,ai),(.ro,ai)],rs:=[(.bool,(ax .bool))],gl:=[(210,qF.D.sig)] }
noncomputable def aa (a:Arg):Option Out:=@lift Out λk=>D.W k a
noncomputable def p (a1:Arg):Option Out:=bif !(a1.1.1 == a1.2.1.1) then (some (false,())) else (qF.aa (a1.1.2.1,a1.2.1.2.1,())).bind λr2=>bif !r2.1 then (some (false,())) else bif !(a1.1.2.2.1 == a1.2.1.2.2.1) then (some (false,())) else (qF.aa (a1.1.2.2.2.1,a1.2.1.2.2.2.1,())).bind λr3=>bif !r3.1 then (some (false,())) else some (true,())
theorem ae (k:Nat) (a1:Arg):@Eq (Option Out) (D.W k a1) (p a1):=by kernel_rfl
theorem ok:Ok prog 169 D.sig:=au func169 aT (by kernel_rfl) (fc qF.ok (aj _))
end nW
namespace lc
abbrev Arg:Type:=(List Change)×(List Change)×Unit
abbrev Out:Type:=Bool×Unit
abbrev Y:=Option Out
noncomputable def D:FD:={ fn:=f112,tl:=bd,ps:=[(.ro,(.U ai)),(.ro,(.U ai))],rs:=[(.bool,(ax .bool))],gl:=[(169,nW.D.sig)],lv:=[(4,[0,1,5])],lx:=[(0,[])],od:=[(6,[0,1,2,3,4,5,6,7,8,9])] }
noncomputable def aa (a:Arg):Y:=@lift Out λk=>D.W k a
noncomputable def T0 (a1:Arg) (J:Int):St:={ n:=27,sl:=[(0,.val (.U ai) a1.1),(1,.val (.U ai) a1.2.1),(5,.val i64 J)],vr:=[],az:=[] }
noncomputable def b0 (self:Int->Y) (e0:(Unit)->Y) (a1:Arg) (J:Int):Y:=bif decide (J < (a1.1.length:Int)) then (if 0<=J then ((a1.1[J.toNat]?).bind λa7=>if 0<=J then ((a1.2.1[J.toNat]?).bind λen=>(nW.aa (a7,en,())).bind λjZ=>bif !jZ.1 then (some (false,())) else self (af (J+(1:Int)))) else none) else none) else e0 ()
noncomputable def q0 (a1:Arg) (oD:(Unit)):Y:=some (true,())
noncomputable def s0 (k:Nat) (a1:Arg):(Int)->Y:=λJ=>D.L k [1,1,0,1,0,0] [0,1,5] [] (ag 0 (ay (D.N k [1,1,1]) D.K0)) (T0 a1 J)
noncomputable def r0 (k:Nat) (a1:Arg):(Int)->Y:=ak (λw v=>b0 w (q0 a1) a1 v) k
theorem aw (k:Nat) (a1:Arg):s0 k a1=r0 k a1:=
 funext λJ=>av _ _ _ (T0 a1) _ (λrec v=>by kernel_rfl) k J
noncomputable def p (l0:(Int)->Y) (a1:Arg):Y:=bif !decide ((a1.1.length:Int)=(a1.2.1.length:Int)) then (some (false,())) else l0 (0:Int)
theorem ae (k:Nat) (a1:Arg):@Eq Y (D.W k a1) (p (r0 k a1) a1):=
 aU (b:=p (s0 k a1) a1) (by kernel_rfl) (by rw[aw])
theorem ok:Ok prog 112 D.sig:=au func112 aT (by kernel_rfl) (fc nW.ok (aj _))
end lc
namespace pQ
abbrev Arg:Type:=gk×gk×Unit
abbrev Out:Type:=Bool×Unit
noncomputable def D:FD:={ fn:=f61,tl:=bd,ps:=[(.ro,gv),(.ro,gv)],rs:=[(.bool,(ax .bool))],gl:=[(112,lc.D.sig)] }
noncomputable def aa (a:Arg):Option Out:=@lift Out λk=>D.W k a
noncomputable def p (a1:Arg):Option Out:=bif !decide (a1.1.1=a1.2.1.1) then (some (false,())) else bif !decide (a1.1.2.1=a1.2.1.2.1) then (some (false,())) else (lc.aa (a1.1.2.2.1,a1.2.1.2.2.1,())).bind λr2=>bif !r2.1 then (some (false,())) else some (true,())
theorem ae (k:Nat) (a1:Arg):@Eq (Option Out) (D.W k a1) (p a1):=by kernel_rfl
theorem ok:Ok prog 61 D.sig:=au func61 aT (by kernel_rfl) (fc lc.ok (aj _))
end pQ
namespace sK
abbrev Arg:Type:=(List gk)×(List gk)×Unit
abbrev Out:Type:=Bool×Unit
abbrev Y:=Option Out
noncomputable def D:FD:={ fn:=f24,tl:=bd,ps:=[(.ro,(.U gv)),(.ro,(.U gv))],rs:=[(.bool,(ax .bool))],gl:=[(61,pQ.D.sig)],lv:=[(4,[0,1,5])],lx:=[(0,[])],od:=[(6,[0,1,2,3,4,5,6,7,8,9])] }
noncomputable def aa (a:Arg):Y:=@lift Out λk=>D.W k a
noncomputable def T0 (a1:Arg) (J:Int):St:={ n:=27,sl:=[(0,.val (.U gv) a1.1),(1,.val (.U gv) a1.2.1),(5,.val i64 J)],vr:=[],az:=[] }
noncomputable def b0 (self:Int->Y) (e0:(Unit)->Y) (a1:Arg) (J:Int):Y:=bif decide (J < (a1.1.length:Int)) then (if 0<=J then ((a1.1[J.toNat]?).bind λa7=>if 0<=J then ((a1.2.1[J.toNat]?).bind λen=>(pQ.aa (a7,en,())).bind λjZ=>bif !jZ.1 then (some (false,())) else self (af (J+(1:Int)))) else none) else none) else e0 ()
noncomputable def q0 (a1:Arg) (oD:(Unit)):Y:=some (true,())
noncomputable def s0 (k:Nat) (a1:Arg):(Int)->Y:=λJ=>D.L k [1,1,0,1,0,0] [0,1,5] [] (ag 0 (ay (D.N k [1,1,1]) D.K0)) (T0 a1 J)
noncomputable def r0 (k:Nat) (a1:Arg):(Int)->Y:=ak (λw v=>b0 w (q0 a1) a1 v) k
theorem aw (k:Nat) (a1:Arg):s0 k a1=r0 k a1:=
 funext λJ=>av _ _ _ (T0 a1) _ (λrec v=>by kernel_rfl) k J
noncomputable def p (l0:(Int)->Y) (a1:Arg):Y:=bif !decide ((a1.1.length:Int)=(a1.2.1.length:Int)) then (some (false,())) else l0 (0:Int)
theorem ae (k:Nat) (a1:Arg):@Eq Y (D.W k a1) (p (r0 k a1) a1):=
 aU (b:=p (s0 k a1) a1) (by kernel_rfl) (by rw[aw])
theorem ok:Ok prog 24 D.sig:=au func24 aT (by kernel_rfl) (fc pQ.ok (aj _))
end sK
namespace ns
abbrev Arg:Type:=(List UInt8)×(List UInt8)×Unit
abbrev Out:Type:=Bool×Unit
abbrev Y:=Option Out
noncomputable def D:FD:={ fn:=f63,tl:=bd,ps:=[(.ro,(.U u8)),(.ro,(.U u8))],rs:=[(.bool,(ax .bool))],lv:=[(4,[0,1,5])],lx:=[(0,[])],od:=[(6,[0,1,2,3,4,5,6,7,8])] }
noncomputable def aa (a:Arg):Y:=@lift Out λk=>D.W k a
noncomputable def T0 (a1:Arg) (J:Int):St:={ n:=26,sl:=[(0,.val (.U u8) a1.1),(1,.val (.U u8) a1.2.1),(5,.val i64 J)],vr:=[],az:=[] }
noncomputable def b0 (self:Int->Y) (e0:(Unit)->Y) (a1:Arg) (J:Int):Y:=bif decide (J < (a1.1.length:Int)) then (if 0<=J then ((a1.1[J.toNat]?).bind λa7=>if 0<=J then ((a1.2.1[J.toNat]?).bind λen=>bif !decide ((a7.toNat:Int)=(en.toNat:Int)) then (some (false,())) else self (af (J+(1:Int)))) else none) else none) else e0 ()
noncomputable def q0 (a1:Arg) (dz:(Unit)):Y:=some (true,())
noncomputable def s0 (k:Nat) (a1:Arg):(Int)->Y:=λJ=>D.L k [1,1,0,1,0,0] [0,1,5] [] (ag 0 (ay (D.N k [1,1,1]) D.K0)) (T0 a1 J)
noncomputable def r0 (k:Nat) (a1:Arg):(Int)->Y:=ak (λw v=>b0 w (q0 a1) a1 v) k
theorem aw (k:Nat) (a1:Arg):s0 k a1=r0 k a1:=
 funext λJ=>av _ _ _ (T0 a1) _ (λrec v=>by kernel_rfl) k J
noncomputable def p (l0:(Int)->Y) (a1:Arg):Y:=bif !decide ((a1.1.length:Int)=(a1.2.1.length:Int)) then (some (false,())) else l0 (0:Int)
theorem ae (k:Nat) (a1:Arg):@Eq Y (D.W k a1) (p (r0 k a1) a1):=
 aU (b:=p (s0 k a1) a1) (by kernel_rfl) (by rw[aw])
theorem ok:Ok prog 63 D.sig:=au func63 aT (by kernel_rfl) (aj _)
end ns
namespace nX
abbrev Arg:Type:=(List (List UInt8))×(List (List UInt8))×Unit
abbrev Out:Type:=Bool×Unit
abbrev Y:=Option Out
noncomputable def D:FD:={ fn:=f26,tl:=bd,ps:=[(.ro,(.U (.U u8))),(.ro,(.U (.U u8)))],rs:=[(.bool,(ax .bool))],gl:=[(63,ns.D.sig)],lv:=[(4,[0,1,5])],lx:=[(0,[])],od:=[(6,[0,1,2,3,4,5,6,7,8,9])] }
noncomputable def aa (a:Arg):Y:=@lift Out λk=>D.W k a
noncomputable def T0 (a1:Arg) (J:Int):St:={ n:=27,sl:=[(0,.val (.U (.U u8)) a1.1),(1,.val (.U (.U u8)) a1.2.1),(5,.val i64 J)],vr:=[],az:=[] }
noncomputable def b0 (self:Int->Y) (e0:(Unit)->Y) (a1:Arg) (J:Int):Y:=bif decide (J < (a1.1.length:Int)) then (if 0<=J then ((a1.1[J.toNat]?).bind λa7=>if 0<=J then ((a1.2.1[J.toNat]?).bind λen=>(ns.aa (a7,en,())).bind λjZ=>bif !jZ.1 then (some (false,())) else self (af (J+(1:Int)))) else none) else none) else e0 ()
noncomputable def q0 (a1:Arg) (oD:(Unit)):Y:=some (true,())
noncomputable def s0 (k:Nat) (a1:Arg):(Int)->Y:=λJ=>D.L k [1,1,0,1,0,0] [0,1,5] [] (ag 0 (ay (D.N k [1,1,1]) D.K0)) (T0 a1 J)
noncomputable def r0 (k:Nat) (a1:Arg):(Int)->Y:=ak (λw v=>b0 w (q0 a1) a1 v) k
theorem aw (k:Nat) (a1:Arg):s0 k a1=r0 k a1:=
 funext λJ=>av _ _ _ (T0 a1) _ (λrec v=>by kernel_rfl) k J
noncomputable def p (l0:(Int)->Y) (a1:Arg):Y:=bif !decide ((a1.1.length:Int)=(a1.2.1.length:Int)) then (some (false,())) else l0 (0:Int)
theorem ae (k:Nat) (a1:Arg):@Eq Y (D.W k a1) (p (r0 k a1) a1):=
 aU (b:=p (s0 k a1) a1) (by kernel_rfl) (by rw[aw])
theorem ok:Ok prog 26 D.sig:=au func26 aT (by kernel_rfl) (fc ns.ok (aj _))
end nX
namespace nY
abbrev Arg:Type:=Buffer×Buffer×Unit
abbrev Out:Type:=Bool×Unit
noncomputable def D:FD:={ fn:=f170,tl:=bd,ps:=[(.ro,bj),(.ro,bj)],rs:=[(.bool,(ax .bool))],gl:=[(112,lc.D.sig)] }
noncomputable def aa (a:Arg):Option Out:=@lift Out λk=>D.W k a
noncomputable def p (a1:Arg):Option Out:=bif !decide (a1.1.1=a1.2.1.1) then (some (false,())) else (lc.aa (a1.1.2.1,a1.2.1.2.1,())).bind λr2=>bif !r2.1 then (some (false,())) else some (true,())
theorem ae (k:Nat) (a1:Arg):@Eq (Option Out) (D.W k a1) (p a1):=by kernel_rfl
theorem ok:Ok prog 170 D.sig:=au func170 aT (by kernel_rfl) (fc lc.ok (aj _))
end nY
namespace qX
abbrev Arg:Type:=(List Buffer)×(List Buffer)×Unit
abbrev Out:Type:=Bool×Unit
abbrev Y:=Option Out
noncomputable def D:FD:={ fn:=f113,tl:=bd,ps:=[(.ro,(.U bj)),(.ro,(.U bj))],rs:=[(.bool,(ax .bool))],gl:=[(170,nY.D.sig)],lv:=[(4,[0,1,5])],lx:=[(0,[])],od:=[(6,[0,1,2,3,4,5,6,7,8,9])] }
noncomputable def aa (a:Arg):Y:=@lift Out λk=>D.W k a
noncomputable def T0 (a1:Arg) (J:Int):St:={ n:=27,sl:=[(0,.val (.U bj) a1.1),(1,.val (.U bj) a1.2.1),(5,.val i64 J)],vr:=[],az:=[] }
noncomputable def b0 (self:Int->Y) (e0:(Unit)->Y) (a1:Arg) (J:Int):Y:=bif decide (J < (a1.1.length:Int)) then (if 0<=J then ((a1.1[J.toNat]?).bind λa7=>if 0<=J then ((a1.2.1[J.toNat]?).bind λen=>(nY.aa (a7,en,())).bind λjZ=>bif !jZ.1 then (some (false,())) else self (af (J+(1:Int)))) else none) else none) else e0 ()
noncomputable def q0 (a1:Arg) (oD:(Unit)):Y:=some (true,())
noncomputable def s0 (k:Nat) (a1:Arg):(Int)->Y:=λJ=>D.L k [1,1,0,1,0,0] [0,1,5] [] (ag 0 (ay (D.N k [1,1,1]) D.K0)) (T0 a1 J)
noncomputable def r0 (k:Nat) (a1:Arg):(Int)->Y:=ak (λw v=>b0 w (q0 a1) a1 v) k
theorem aw (k:Nat) (a1:Arg):s0 k a1=r0 k a1:=
 funext λJ=>av _ _ _ (T0 a1) _ (λrec v=>by kernel_rfl) k J
noncomputable def p (l0:(Int)->Y) (a1:Arg):Y:=bif !decide ((a1.1.length:Int)=(a1.2.1.length:Int)) then (some (false,())) else l0 (0:Int)
theorem ae (k:Nat) (a1:Arg):@Eq Y (D.W k a1) (p (r0 k a1) a1):=
 aU (b:=p (s0 k a1) a1) (by kernel_rfl) (by rw[aw])
theorem ok:Ok prog 113 D.sig:=au func113 aT (by kernel_rfl) (fc nY.ok (aj _))
end qX
namespace oU
abbrev Arg:Type:=dg×dg×Unit
abbrev Out:Type:=Bool×Unit
noncomputable def D:FD:={ fn:=f62,tl:=bd,ps:=[(.ro,ei),(.ro,ei)],rs:=[(.bool,(ax .bool))],gl:=[(26,nX.D.sig),(113,qX.D.sig)] }
noncomputable def aa (a:Arg):Option Out:=@lift Out λk=>D.W k a
noncomputable def p (a1:Arg):Option Out:=(nX.aa (a1.1.1,a1.2.1.1,())).bind λr2=>bif !r2.1 then (some (false,())) else (qX.aa (a1.1.2.1,a1.2.1.2.1,())).bind λr3=>bif !r3.1 then (some (false,())) else some (true,())
theorem ae (k:Nat) (a1:Arg):@Eq (Option Out) (D.W k a1) (p a1):=by kernel_rfl
theorem ok:Ok prog 62 D.sig:=au func62 aT (by kernel_rfl) (fc nX.ok (fc qX.ok (aj _)))
end oU
namespace nt
abbrev Arg:Type:=di×di×Unit
abbrev Out:Type:=Bool×Unit
noncomputable def D:FD:={ fn:=f25,tl:=bd,ps:=[(.ro,d6),(.ro,d6)],rs:=[(.bool,(ax .bool))],gl:=[(62,oU.D.sig)] }
noncomputable def aa (a:Arg):Option Out:=@lift Out λk=>D.W k a
noncomputable def p (a1:Arg):Option Out:=(oU.aa (a1.1.1,a1.2.1.1,())).bind λr2=>bif !r2.1 then (some (false,())) else bif !decide (a1.1.2.1=a1.2.1.2.1) then (some (false,())) else (oU.aa (a1.1.2.2.1,a1.2.1.2.2.1,())).bind λr3=>bif !r3.1 then (some (false,())) else bif !decide (a1.1.2.2.2.1=a1.2.1.2.2.2.1) then (some (false,())) else some (true,())
theorem ae (k:Nat) (a1:Arg):@Eq (Option Out) (D.W k a1) (p a1):=by kernel_rfl
theorem ok:Ok prog 25 D.sig:=au func25 aT (by kernel_rfl) (fc oU.ok (aj _))
end nt
namespace kU
abbrev Arg:Type:=ig×ig×Unit
abbrev Out:Type:=Bool×Unit
noncomputable def D:FD:={ fn:=f8,tl:=bd,ps:=[(.ro,gq),(.ro,gq)],rs:=[(.bool,(ax .bool))],gl:=[(24,sK.D.sig),(25,nt.D.sig)] }
noncomputable def aa (a:Arg):Option Out:=@lift Out λk=>D.W k a
noncomputable def p (a1:Arg):Option Out:=bif !decide (a1.1.1=a1.2.1.1) then (some (false,())) else (sK.aa (a1.1.2.1,a1.2.1.2.1,())).bind λr2=>bif !r2.1 then (some (false,())) else (nt.aa (a1.1.2.2.1,a1.2.1.2.2.1,())).bind λr3=>bif !r3.1 then (some (false,())) else some (true,())
theorem ae (k:Nat) (a1:Arg):@Eq (Option Out) (D.W k a1) (p a1):=by kernel_rfl
theorem ok:Ok prog 8 D.sig:=au func8 aT (by kernel_rfl) (fc sK.ok (fc nt.ok (aj _)))
end kU
namespace rY
abbrev Arg:Type:=Log×Log×Unit
abbrev Out:Type:=Bool×Unit
noncomputable def D:FD:={ fn:=f27,tl:=bd,ps:=[(.ro,kg),(.ro,kg)],rs:=[(.bool,(ax .bool))],gl:=[(63,ns.D.sig)] }
noncomputable def aa (a:Arg):Option Out:=@lift Out λk=>D.W k a
noncomputable def p (a1:Arg):Option Out:=(ns.aa (a1.1.1,a1.2.1.1,())).bind λr2=>bif !r2.1 then (some (false,())) else (ns.aa (a1.1.2.1,a1.2.1.2.1,())).bind λr3=>bif !r3.1 then (some (false,())) else some (true,())
theorem ae (k:Nat) (a1:Arg):@Eq (Option Out) (D.W k a1) (p a1):=by kernel_rfl
theorem ok:Ok prog 27 D.sig:=au func27 aT (by kernel_rfl) (fc ns.ok (aj _))
end rY
namespace rK
abbrev Arg:Type:=(List Int)×(List Int)×Unit
abbrev Out:Type:=Bool×Unit
abbrev Y:=Option Out
noncomputable def D:FD:={ fn:=f114,tl:=bd,ps:=[(.ro,(.U i64)),(.ro,(.U i64))],rs:=[(.bool,(ax .bool))],lv:=[(4,[0,1,5])],lx:=[(0,[])],od:=[(6,[0,1,2,3,4,5,6,7,8])] }
noncomputable def aa (a:Arg):Y:=@lift Out λk=>D.W k a
noncomputable def T0 (a1:Arg) (J:Int):St:={ n:=26,sl:=[(0,.val (.U i64) a1.1),(1,.val (.U i64) a1.2.1),(5,.val i64 J)],vr:=[],az:=[] }
noncomputable def b0 (self:Int->Y) (e0:(Unit)->Y) (a1:Arg) (J:Int):Y:=bif decide (J < (a1.1.length:Int)) then (if 0<=J then ((a1.1[J.toNat]?).bind λa7=>if 0<=J then ((a1.2.1[J.toNat]?).bind λen=>bif !decide (a7=en) then (some (false,())) else self (af (J+(1:Int)))) else none) else none) else e0 ()
noncomputable def q0 (a1:Arg) (dz:(Unit)):Y:=some (true,())
noncomputable def s0 (k:Nat) (a1:Arg):(Int)->Y:=λJ=>D.L k [1,1,0,1,0,0] [0,1,5] [] (ag 0 (ay (D.N k [1,1,1]) D.K0)) (T0 a1 J)
noncomputable def r0 (k:Nat) (a1:Arg):(Int)->Y:=ak (λw v=>b0 w (q0 a1) a1 v) k
theorem aw (k:Nat) (a1:Arg):s0 k a1=r0 k a1:=
 funext λJ=>av _ _ _ (T0 a1) _ (λrec v=>by kernel_rfl) k J
noncomputable def p (l0:(Int)->Y) (a1:Arg):Y:=bif !decide ((a1.1.length:Int)=(a1.2.1.length:Int)) then (some (false,())) else l0 (0:Int)
theorem ae (k:Nat) (a1:Arg):@Eq Y (D.W k a1) (p (r0 k a1) a1):=
 aU (b:=p (s0 k a1) a1) (by kernel_rfl) (by rw[aw])
theorem ok:Ok prog 114 D.sig:=au func114 aT (by kernel_rfl) (aj _)
end rK
namespace qG
abbrev Arg:Type:=Key×Key×Unit
abbrev Out:Type:=Bool×Unit
noncomputable def D:FD:={ fn:=f171,tl:=bd,ps:=[(.ro,bh),(.ro,bh)],rs:=[(.bool,(ax .bool))] }
noncomputable def aa (a:Arg):Option Out:=@lift Out λk=>D.W k a
noncomputable def p (a1:Arg):Option Out:=bif !decide (a1.1.1=a1.2.1.1) then (some (false,())) else bif !decide (a1.1.2.1=a1.2.1.2.1) then (some (false,())) else some (true,())
theorem ae (k:Nat) (a1:Arg):@Eq (Option Out) (D.W k a1) (p a1):=by kernel_rfl
theorem ok:Ok prog 171 D.sig:=au func171 aT (by kernel_rfl) (aj _)
end qG
namespace tX
abbrev Arg:Type:=(List Key)×(List Key)×Unit
abbrev Out:Type:=Bool×Unit
abbrev Y:=Option Out
noncomputable def D:FD:={ fn:=f115,tl:=bd,ps:=[(.ro,(.U bh)),(.ro,(.U bh))],rs:=[(.bool,(ax .bool))],gl:=[(171,qG.D.sig)],lv:=[(4,[0,1,5])],lx:=[(0,[])],od:=[(6,[0,1,2,3,4,5,6,7,8,9])] }
noncomputable def aa (a:Arg):Y:=@lift Out λk=>D.W k a
noncomputable def T0 (a1:Arg) (J:Int):St:={ n:=27,sl:=[(0,.val (.U bh) a1.1),(1,.val (.U bh) a1.2.1),(5,.val i64 J)],vr:=[],az:=[] }
noncomputable def b0 (self:Int->Y) (e0:(Unit)->Y) (a1:Arg) (J:Int):Y:=bif decide (J < (a1.1.length:Int)) then (if 0<=J then ((a1.1[J.toNat]?).bind λa7=>if 0<=J then ((a1.2.1[J.toNat]?).bind λen=>(qG.aa (a7,en,())).bind λjZ=>bif !jZ.1 then (some (false,())) else self (af (J+(1:Int)))) else none) else none) else e0 ()
noncomputable def q0 (a1:Arg) (oD:(Unit)):Y:=some (true,())
noncomputable def s0 (k:Nat) (a1:Arg):(Int)->Y:=λJ=>D.L k [1,1,0,1,0,0] [0,1,5] [] (ag 0 (ay (D.N k [1,1,1]) D.K0)) (T0 a1 J)
noncomputable def r0 (k:Nat) (a1:Arg):(Int)->Y:=ak (λw v=>b0 w (q0 a1) a1 v) k
theorem aw (k:Nat) (a1:Arg):s0 k a1=r0 k a1:=
 funext λJ=>av _ _ _ (T0 a1) _ (λrec v=>by kernel_rfl) k J
noncomputable def p (l0:(Int)->Y) (a1:Arg):Y:=bif !decide ((a1.1.length:Int)=(a1.2.1.length:Int)) then (some (false,())) else l0 (0:Int)
theorem ae (k:Nat) (a1:Arg):@Eq Y (D.W k a1) (p (r0 k a1) a1):=
 aU (b:=p (s0 k a1) a1) (by kernel_rfl) (by rw[aw])
theorem ok:Ok prog 115 D.sig:=au func115 aT (by kernel_rfl) (fc qG.ok (aj _))
end tX
namespace rZ
abbrev Arg:Type:=Tx×Tx×Unit
abbrev Out:Type:=Bool×Unit
noncomputable def D:FD:={ fn:=f64,tl:=bd,ps:=[(.ro,de),(.ro,de)],rs:=[(.bool,(ax .bool))],gl:=[(112,lc.D.sig),(114,rK.D.sig),(115,tX.D.sig)] }
noncomputable def aa (a:Arg):Option Out:=@lift Out λk=>D.W k a
noncomputable def p (a1:Arg):Option Out:=bif !decide (a1.1.1=a1.2.1.1) then (some (false,())) else (lc.aa (a1.1.2.1,a1.2.1.2.1,())).bind λr2=>bif !r2.1 then (some (false,())) else (rK.aa (a1.1.2.2.1,a1.2.1.2.2.1,())).bind λr3=>bif !r3.1 then (some (false,())) else (tX.aa (a1.1.2.2.2.1,a1.2.1.2.2.2.1,())).bind λr4=>bif !r4.1 then (some (false,())) else some (true,())
theorem ae (k:Nat) (a1:Arg):@Eq (Option Out) (D.W k a1) (p a1):=by kernel_rfl
theorem ok:Ok prog 64 D.sig:=au func64 aT (by kernel_rfl) (fc lc.ok (fc rK.ok (fc tX.ok (aj _))))
end rZ
namespace u7
abbrev Arg:Type:=(List Tx)×(List Tx)×Unit
abbrev Out:Type:=Bool×Unit
abbrev Y:=Option Out
noncomputable def D:FD:={ fn:=f28,tl:=bd,ps:=[(.ro,(.U de)),(.ro,(.U de))],rs:=[(.bool,(ax .bool))],gl:=[(64,rZ.D.sig)],lv:=[(4,[0,1,5])],lx:=[(0,[])],od:=[(6,[0,1,2,3,4,5,6,7,8,9])] }
noncomputable def aa (a:Arg):Y:=@lift Out λk=>D.W k a
noncomputable def T0 (a1:Arg) (J:Int):St:={ n:=27,sl:=[(0,.val (.U de) a1.1),(1,.val (.U de) a1.2.1),(5,.val i64 J)],vr:=[],az:=[] }
noncomputable def b0 (self:Int->Y) (e0:(Unit)->Y) (a1:Arg) (J:Int):Y:=bif decide (J < (a1.1.length:Int)) then (if 0<=J then ((a1.1[J.toNat]?).bind λa7=>if 0<=J then ((a1.2.1[J.toNat]?).bind λen=>(rZ.aa (a7,en,())).bind λjZ=>bif !jZ.1 then (some (false,())) else self (af (J+(1:Int)))) else none) else none) else e0 ()
noncomputable def q0 (a1:Arg) (oD:(Unit)):Y:=some (true,())
noncomputable def s0 (k:Nat) (a1:Arg):(Int)->Y:=λJ=>D.L k [1,1,0,1,0,0] [0,1,5] [] (ag 0 (ay (D.N k [1,1,1]) D.K0)) (T0 a1 J)
noncomputable def r0 (k:Nat) (a1:Arg):(Int)->Y:=ak (λw v=>b0 w (q0 a1) a1 v) k
theorem aw (k:Nat) (a1:Arg):s0 k a1=r0 k a1:=
 funext λJ=>av _ _ _ (T0 a1) _ (λrec v=>by kernel_rfl) k J
noncomputable def p (l0:(Int)->Y) (a1:Arg):Y:=bif !decide ((a1.1.length:Int)=(a1.2.1.length:Int)) then (some (false,())) else l0 (0:Int)
theorem ae (k:Nat) (a1:Arg):@Eq Y (D.W k a1) (p (r0 k a1) a1):=
 aU (b:=p (s0 k a1) a1) (by kernel_rfl) (by rw[aw])
theorem ok:Ok prog 28 D.sig:=au func28 aT (by kernel_rfl) (fc rZ.ok (aj _))
end u7
namespace qd
abbrev Arg:Type:=kJ×kJ×Unit
abbrev Out:Type:=Bool×Unit
noncomputable def D:FD:={ fn:=f9,tl:=bd,ps:=[(.ro,im),(.ro,im)],rs:=[(.bool,(ax .bool))],gl:=[(26,nX.D.sig),(27,rY.D.sig),(28,u7.D.sig)] }
noncomputable def aa (a:Arg):Option Out:=@lift Out λk=>D.W k a
noncomputable def p (a1:Arg):Option Out:=bif !(a1.1.1 == a1.2.1.1) then (some (false,())) else (nX.aa (a1.1.2.1,a1.2.1.2.1,())).bind λr2=>bif !r2.1 then (some (false,())) else (rY.aa (a1.1.2.2.1,a1.2.1.2.2.1,())).bind λr3=>bif !r3.1 then (some (false,())) else (u7.aa (a1.1.2.2.2.1,a1.2.1.2.2.2.1,())).bind λr4=>bif !r4.1 then (some (false,())) else bif !decide (a1.1.2.2.2.2.1=a1.2.1.2.2.2.2.1) then (some (false,())) else some (true,())
theorem ae (k:Nat) (a1:Arg):@Eq (Option Out) (D.W k a1) (p a1):=by kernel_rfl
theorem ok:Ok prog 9 D.sig:=au func9 aT (by kernel_rfl) (fc nX.ok (fc rY.ok (fc u7.ok (aj _))))
end qd
namespace jn
abbrev Arg:Type:=(List UInt8)×Int×Unit
abbrev Out:Type:=Int×(List UInt8)×Unit
abbrev Y:=Option Out
noncomputable def D:FD:={ fn:=f65,tl:=bd,ps:=[(.kY (an (.U u8)),(.U u8)),(.ro,i64)],rs:=[(i64,(ax i64))],es:=[0],lv:=[(2,[0,1,5])],lx:=[(0,[0,1])] }
noncomputable def aa (a:Arg):Y:=@lift Out λk=>D.W k a
noncomputable def T0 (a1:Arg) (J:(List UInt8)×Int×Int):St:={ n:=20,sl:=[(0,.own (.U u8) (an (.U u8)) [] J.1),(1,.val i64 J.2.1),(5,.val i64 J.2.2)],vr:=[],az:=[(0,0,true)] }
noncomputable def b0 (self:((List UInt8)×Int×Int)->Y) (e0:((List UInt8)×Int)->Y) (a1:Arg) (J:(List UInt8)×Int×Int):Y:=bif decide (J.2.2 < (J.1.length:Int)) then (if 0<=J.2.2/\J.2.2 < (J.1.length:Int) then ((J.1[J.2.2.toNat]?).bind λa7=>let mY:=J.1.set J.2.2.toNat (UInt8.ofInt J.2.1);self (mY,af (J.2.1+(1:Int)),af (J.2.2+(1:Int)))) else none) else e0 (J.1,J.2.1)
noncomputable def q0 (a1:Arg) (dz:((List UInt8)×Int)):Y:=some (dz.2,dz.1,())
noncomputable def s0 (k:Nat) (a1:Arg):((List UInt8)×Int×Int)->Y:=λJ=>D.L k [1,0,1,0,0] [0,1,5] [] (ag 0 (ay (D.N k [1,1]) D.K0)) (T0 a1 J)
noncomputable def r0 (k:Nat) (a1:Arg):((List UInt8)×Int×Int)->Y:=ak (λw v=>b0 w (q0 a1) a1 v) k
theorem aw (k:Nat) (a1:Arg):s0 k a1=r0 k a1:=
 funext λJ=>av _ _ _ (T0 a1) _ (λrec v=>by kernel_rfl) k J
noncomputable def p (l0:((List UInt8)×Int×Int)->Y) (a1:Arg):Y:=l0 (a1.1,a1.2.1,(0:Int))
theorem ae (k:Nat) (a1:Arg):@Eq Y (D.W k a1) (p (r0 k a1) a1):=
 aU (b:=p (s0 k a1) a1) (by kernel_rfl) (by rw[aw])
theorem ok:Ok prog 65 D.sig:=au func65 aT (by kernel_rfl) (aj _)
end jn
namespace lr
abbrev Arg:Type:=(List (List UInt8))×Int×Unit
abbrev Out:Type:=Int×(List (List UInt8))×Unit
abbrev Y:=Option Out
noncomputable def D:FD:={ fn:=f29,tl:=bd,ps:=[(.kY (an (.U (.U u8))),(.U (.U u8))),(.ro,i64)],rs:=[(i64,(ax i64))],gl:=[(65,jn.D.sig)],es:=[0],lv:=[(2,[0,1,5])],lx:=[(0,[0,1])] }
noncomputable def aa (a:Arg):Y:=@lift Out λk=>D.W k a
noncomputable def T0 (a1:Arg) (J:(List (List UInt8))×Int×Int):St:={ n:=19,sl:=[(0,.own (.U (.U u8)) (an (.U (.U u8))) [] J.1),(1,.val i64 J.2.1),(5,.val i64 J.2.2)],vr:=[],az:=[(0,0,true)] }
noncomputable def b0 (self:((List (List UInt8))×Int×Int)->Y) (e0:((List (List UInt8))×Int)->Y) (a1:Arg) (J:(List (List UInt8))×Int×Int):Y:=bif decide (J.2.2 < (J.1.length:Int)) then (if 0<=J.2.2/\J.2.2 < (J.1.length:Int) then ((J.1[J.2.2.toNat]?).bind λa7=>(J.1[J.2.2.toNat]?).bind λen=>(J.1[J.2.2.toNat]?).bind λeo=>(jn.aa (eo,J.2.1,())).bind λph=>(J.1[J.2.2.toNat]?).bind λrE=>self (J.1.set J.2.2.toNat ph.2.1,ph.1,af (J.2.2+(1:Int)))) else none) else e0 (J.1,J.2.1)
noncomputable def q0 (a1:Arg) (pi:((List (List UInt8))×Int)):Y:=some (pi.2,pi.1,())
noncomputable def s0 (k:Nat) (a1:Arg):((List (List UInt8))×Int×Int)->Y:=λJ=>D.L k [1,0,1,0,0] [0,1,5] [] (ag 0 (ay (D.N k [1,1]) D.K0)) (T0 a1 J)
noncomputable def r0 (k:Nat) (a1:Arg):((List (List UInt8))×Int×Int)->Y:=ak (λw v=>b0 w (q0 a1) a1 v) k
theorem aw (k:Nat) (a1:Arg):s0 k a1=r0 k a1:=
 funext λJ=>av _ _ _ (T0 a1) _ (λrec v=>by kernel_rfl) k J
noncomputable def p (l0:((List (List UInt8))×Int×Int)->Y) (a1:Arg):Y:=l0 (a1.1,a1.2.1,(0:Int))
theorem ae (k:Nat) (a1:Arg):@Eq Y (D.W k a1) (p (r0 k a1) a1):=
 aU (b:=p (s0 k a1) a1) (by kernel_rfl) (by rw[aw])
theorem ok:Ok prog 29 D.sig:=au func29 aT (by kernel_rfl) (fc jn.ok (aj _))
end lr
namespace qe
abbrev Arg:Type:=Log×Int×Unit
abbrev Out:Type:=Int×Log×Unit
noncomputable def D:FD:={ fn:=f30,tl:=bd,ps:=[(.kY (an kg),kg),(.ro,i64)],rs:=[(i64,(ax i64))],gl:=[(65,jn.D.sig)],es:=[2] }
noncomputable def aa (a:Arg):Option Out:=@lift Out λk=>D.W k a
noncomputable def p (a1:Arg):Option Out:=(jn.aa (a1.1.1,a1.2.1,())).bind λr2=>(jn.aa (a1.1.2.1,r2.1,())).bind λr3=>some (r3.1,(r2.2.1,r3.2.1,a1.1.2.2),())
theorem ae (k:Nat) (a1:Arg):@Eq (Option Out) (D.W k a1) (p a1):=by kernel_rfl
theorem ok:Ok prog 30 D.sig:=au func30 aT (by kernel_rfl) (fc jn.ok (aj _))
end qe
namespace c8
abbrev Arg:Type:=Int×Unit
abbrev Out:Type:=(List UInt8)×Unit
abbrev Y:=Option Out
noncomputable def D:FD:={ fn:=f116,tl:=bd,ps:=[(.ro,i64)],rs:=[(.str,(ax .str))],lv:=[(4,[0,3])],lx:=[(0,[3])] }
noncomputable def aa (a:Arg):Y:=@lift Out λk=>D.W k a
noncomputable def T0 (a1:Arg) (J:Int×(List UInt8)):St:={ n:=20,sl:=[(0,.val i64 J.1),(3,.val .str J.2)],vr:=[],az:=[] }
noncomputable def b0 (self:(Int×(List UInt8))->Y) (e0:(List UInt8)->Y) (a1:Arg) (J:Int×(List UInt8)):Y:=bif decide ((0:Int) < J.1) then (if [UInt8.ofInt (af ((48:Int)+(J.1.tmod (10:Int))))].length+J.2.length<=cc then (self (af (J.1.tdiv (10:Int)),[UInt8.ofInt (af ((48:Int)+(J.1.tmod (10:Int))))]++J.2)) else none) else e0 J.2
noncomputable abbrev B0 (_:Nat):=b0
noncomputable def q0 (a1:Arg) (Zr:(List UInt8)):Y:=if ([109]:List UInt8).length+Zr.length<=cc then (some (([109]:List UInt8)++Zr,())) else none
noncomputable abbrev Q0 (_:Nat):=q0
noncomputable def s0 (k:Nat) (a1:Arg):(Int×(List UInt8))->Y:=λJ=>D.L k [1,1,1,0,0,0] [0,3] [] (ag 0 (ay (D.N k [1,1,1,1]) D.K0)) (T0 a1 J)
noncomputable def r0 (k:Nat) (a1:Arg):(Int×(List UInt8))->Y:=ak (λw v=>B0 k w (Q0 k a1) a1 v) k
theorem aw (k:Nat) (a1:Arg):s0 k a1=r0 k a1:=
 funext λJ=>av _ _ _ (T0 a1) _ (λrec v=>by kernel_rfl) k J
noncomputable def p (l0:(Int×(List UInt8))->Y) (a1:Arg):Y:=bif decide (a1.1<=(0:Int)) then (some (([109,48]:List UInt8),())) else l0 (a1.1,([]:List UInt8))
theorem ae (k:Nat) (a1:Arg):@Eq Y (D.W k a1) (p (r0 k a1) a1):=
 aU (b:=p (s0 k a1) a1) (by kernel_rfl) (by rw[aw])
theorem ok:Ok prog 116 D.sig:=au func116 aT (by kernel_rfl) (aj _)
end c8
namespace ep
abbrev Arg:Type:=(List Change)×Int×Unit
abbrev Out:Type:=Int×(List Change)×Unit
abbrev Y:=Option Out
noncomputable def D:FD:={ fn:=f66,tl:=bd,ps:=[(.kY (an (.U ai)),(.U ai)),(.ro,i64)],rs:=[(i64,(ax i64))],gl:=[(116,c8.D.sig)],es:=[0],lv:=[(2,[0,1,5])],lx:=[(0,[0,1])] }
noncomputable def aa (a:Arg):Y:=@lift Out λk=>D.W k a
noncomputable def T0 (a1:Arg) (J:(List Change)×Int×Int):St:={ n:=97,sl:=[(0,.own (.U ai) (an (.U ai)) [] J.1),(1,.val i64 J.2.1),(5,.val i64 J.2.2)],vr:=[],az:=[(0,0,true)] }
noncomputable def b0 (self:((List Change)×Int×Int)->Y) (e0:((List Change)×Int)->Y) (a1:Arg) (J:(List Change)×Int×Int):Y:=bif decide (J.2.2 < (J.1.length:Int)) then (if 0<=J.2.2/\J.2.2 < (J.1.length:Int) then ((J.1[J.2.2.toNat]?).bind λa7=>let mY:=J.1.set J.2.2.toNat (decide (J.2.1.tmod (3:Int)=(0:Int)),a7.2);if 0<=J.2.2/\J.2.2 < (mY.length:Int) then ((mY[J.2.2.toNat]?).bind λeo=>let sj:=mY.set J.2.2.toNat (eo.1,(af (J.2.1+(1:Int)),eo.2.1.2),eo.2.2);if 0<=J.2.2/\J.2.2 < (sj.length:Int) then ((sj[J.2.2.toNat]?).bind λrE=>let UM:=sj.set J.2.2.toNat (rE.1,(rE.2.1.1,af ((af (J.2.1+(1:Int)))+(1:Int)),rE.2.1.2.2),rE.2.2);if 0<=J.2.2/\J.2.2 < (UM.length:Int) then ((UM[J.2.2.toNat]?).bind λuE=>let wR:=UM.set J.2.2.toNat (uE.1,(uE.2.1.1,uE.2.1.2.1,af ((af ((af (J.2.1+(1:Int)))+(1:Int)))+(1:Int)),uE.2.1.2.2.2),uE.2.2);(c8.aa (af ((af ((af ((af (J.2.1+(1:Int)))+(1:Int)))+(1:Int)))+(1:Int)),())).bind λUE=>if 0<=J.2.2/\J.2.2 < (wR.length:Int) then ((wR[J.2.2.toNat]?).bind λCt=>let UN:=wR.set J.2.2.toNat (Ct.1,(Ct.2.1.1,Ct.2.1.2.1,Ct.2.1.2.2.1,UE.1,Ct.2.1.2.2.2.2),Ct.2.2);if 0<=J.2.2/\J.2.2 < (UN.length:Int) then ((UN[J.2.2.toNat]?).bind λD0=>let UO:=UN.set J.2.2.toNat (D0.1,D0.2.1,decide ((af ((af ((af ((af ((af (J.2.1+(1:Int)))+(1:Int)))+(1:Int)))+(1:Int)))+(1:Int))).tmod (3:Int)=(0:Int)),D0.2.2.2);if 0<=J.2.2/\J.2.2 < (UO.length:Int) then ((UO[J.2.2.toNat]?).bind λID=>let LX:=UO.set J.2.2.toNat (ID.1,ID.2.1,ID.2.2.1,(af ((af ((af ((af ((af ((af (J.2.1+(1:Int)))+(1:Int)))+(1:Int)))+(1:Int)))+(1:Int)))+(1:Int)),ID.2.2.2.1.2),ID.2.2.2.2);if 0<=J.2.2/\J.2.2 < (LX.length:Int) then ((LX[J.2.2.toNat]?).bind λAb=>let UP:=LX.set J.2.2.toNat (Ab.1,Ab.2.1,Ab.2.2.1,(Ab.2.2.2.1.1,af ((af ((af ((af ((af ((af ((af (J.2.1+(1:Int)))+(1:Int)))+(1:Int)))+(1:Int)))+(1:Int)))+(1:Int)))+(1:Int)),Ab.2.2.2.1.2.2),Ab.2.2.2.2);if 0<=J.2.2/\J.2.2 < (UP.length:Int) then ((UP[J.2.2.toNat]?).bind λFW=>let LU:=UP.set J.2.2.toNat (FW.1,FW.2.1,FW.2.2.1,(FW.2.2.2.1.1,FW.2.2.2.1.2.1,af ((af ((af ((af ((af ((af ((af ((af (J.2.1+(1:Int)))+(1:Int)))+(1:Int)))+(1:Int)))+(1:Int)))+(1:Int)))+(1:Int)))+(1:Int)),FW.2.2.2.1.2.2.2),FW.2.2.2.2);(c8.aa (af ((af ((af ((af ((af ((af ((af ((af ((af (J.2.1+(1:Int)))+(1:Int)))+(1:Int)))+(1:Int)))+(1:Int)))+(1:Int)))+(1:Int)))+(1:Int)))+(1:Int)),())).bind λabG=>if 0<=J.2.2/\J.2.2 < (LU.length:Int) then ((LU[J.2.2.toNat]?).bind λD1=>let abH:=LU.set J.2.2.toNat (D1.1,D1.2.1,D1.2.2.1,(D1.2.2.2.1.1,D1.2.2.2.1.2.1,D1.2.2.2.1.2.2.1,abG.1,D1.2.2.2.1.2.2.2.2),D1.2.2.2.2);self (abH,af ((af ((af ((af ((af ((af ((af ((af ((af ((af (J.2.1+(1:Int)))+(1:Int)))+(1:Int)))+(1:Int)))+(1:Int)))+(1:Int)))+(1:Int)))+(1:Int)))+(1:Int)))+(1:Int)),af (J.2.2+(1:Int)))) else none) else none) else none) else none) else none) else none) else none) else none) else none) else none) else e0 (J.1,J.2.1)
noncomputable def q0 (a1:Arg) (Zs:((List Change)×Int)):Y:=some (Zs.2,Zs.1,())
noncomputable def s0 (k:Nat) (a1:Arg):((List Change)×Int×Int)->Y:=λJ=>D.L k [1,0,1,0,0] [0,1,5] [] (ag 0 (ay (D.N k [1,1]) D.K0)) (T0 a1 J)
noncomputable def r0 (k:Nat) (a1:Arg):((List Change)×Int×Int)->Y:=ak (λw v=>b0 w (q0 a1) a1 v) k
theorem aw (k:Nat) (a1:Arg):s0 k a1=r0 k a1:=
 funext λJ=>av _ _ _ (T0 a1) _ (λrec v=>by kernel_rfl) k J
noncomputable def p (l0:((List Change)×Int×Int)->Y) (a1:Arg):Y:=l0 (a1.1,a1.2.1,(0:Int))
theorem ae (k:Nat) (a1:Arg):@Eq Y (D.W k a1) (p (r0 k a1) a1):=
 aU (b:=p (s0 k a1) a1) (by kernel_rfl) (by rw[aw])
theorem ok:Ok prog 66 D.sig:=au func66 aT (by kernel_rfl) (fc c8.ok (aj _))
end ep
namespace oV
abbrev Arg:Type:=(List Int)×Int×Unit
abbrev Out:Type:=Int×(List Int)×Unit
abbrev Y:=Option Out
noncomputable def D:FD:={ fn:=f67,tl:=bd,ps:=[(.kY (an (.U i64)),(.U i64)),(.ro,i64)],rs:=[(i64,(ax i64))],es:=[0],lv:=[(2,[0,1,5])],lx:=[(0,[0,1])] }
noncomputable def aa (a:Arg):Y:=@lift Out λk=>D.W k a
noncomputable def T0 (a1:Arg) (J:(List Int)×Int×Int):St:={ n:=19,sl:=[(0,.own (.U i64) (an (.U i64)) [] J.1),(1,.val i64 J.2.1),(5,.val i64 J.2.2)],vr:=[],az:=[(0,0,true)] }
noncomputable def b0 (self:((List Int)×Int×Int)->Y) (e0:((List Int)×Int)->Y) (a1:Arg) (J:(List Int)×Int×Int):Y:=bif decide (J.2.2 < (J.1.length:Int)) then (if 0<=J.2.2/\J.2.2 < (J.1.length:Int) then ((J.1[J.2.2.toNat]?).bind λa7=>self (J.1.set J.2.2.toNat J.2.1,af (J.2.1+(1:Int)),af (J.2.2+(1:Int)))) else none) else e0 (J.1,J.2.1)
noncomputable def q0 (a1:Arg) (oC:((List Int)×Int)):Y:=some (oC.2,oC.1,())
noncomputable def s0 (k:Nat) (a1:Arg):((List Int)×Int×Int)->Y:=λJ=>D.L k [1,0,1,0,0] [0,1,5] [] (ag 0 (ay (D.N k [1,1]) D.K0)) (T0 a1 J)
noncomputable def r0 (k:Nat) (a1:Arg):((List Int)×Int×Int)->Y:=ak (λw v=>b0 w (q0 a1) a1 v) k
theorem aw (k:Nat) (a1:Arg):s0 k a1=r0 k a1:=
 funext λJ=>av _ _ _ (T0 a1) _ (λrec v=>by kernel_rfl) k J
noncomputable def p (l0:((List Int)×Int×Int)->Y) (a1:Arg):Y:=l0 (a1.1,a1.2.1,(0:Int))
theorem ae (k:Nat) (a1:Arg):@Eq Y (D.W k a1) (p (r0 k a1) a1):=
 aU (b:=p (s0 k a1) a1) (by kernel_rfl) (by rw[aw])
theorem ok:Ok prog 67 D.sig:=au func67 aT (by kernel_rfl) (aj _)
end oV
namespace qq
abbrev Arg:Type:=(List Key)×Int×Unit
abbrev Out:Type:=Int×(List Key)×Unit
abbrev Y:=Option Out
noncomputable def D:FD:={ fn:=f68,tl:=bd,ps:=[(.kY (an (.U bh)),(.U bh)),(.ro,i64)],rs:=[(i64,(ax i64))],es:=[0],lv:=[(2,[0,1,5])],lx:=[(0,[0,1])] }
noncomputable def aa (a:Arg):Y:=@lift Out λk=>D.W k a
noncomputable def T0 (a1:Arg) (J:(List Key)×Int×Int):St:={ n:=27,sl:=[(0,.own (.U bh) (an (.U bh)) [] J.1),(1,.val i64 J.2.1),(5,.val i64 J.2.2)],vr:=[],az:=[(0,0,true)] }
noncomputable def b0 (self:((List Key)×Int×Int)->Y) (e0:((List Key)×Int)->Y) (a1:Arg) (J:(List Key)×Int×Int):Y:=bif decide (J.2.2 < (J.1.length:Int)) then (if 0<=J.2.2/\J.2.2 < (J.1.length:Int) then ((J.1[J.2.2.toNat]?).bind λa7=>let mY:=J.1.set J.2.2.toNat (J.2.1,a7.2);if 0<=J.2.2/\J.2.2 < (mY.length:Int) then ((mY[J.2.2.toNat]?).bind λeo=>let sj:=mY.set J.2.2.toNat (eo.1,af (J.2.1+(1:Int)),eo.2.2);self (sj,af ((af (J.2.1+(1:Int)))+(1:Int)),af (J.2.2+(1:Int)))) else none) else none) else e0 (J.1,J.2.1)
noncomputable def q0 (a1:Arg) (mO:((List Key)×Int)):Y:=some (mO.2,mO.1,())
noncomputable def s0 (k:Nat) (a1:Arg):((List Key)×Int×Int)->Y:=λJ=>D.L k [1,0,1,0,0] [0,1,5] [] (ag 0 (ay (D.N k [1,1]) D.K0)) (T0 a1 J)
noncomputable def r0 (k:Nat) (a1:Arg):((List Key)×Int×Int)->Y:=ak (λw v=>b0 w (q0 a1) a1 v) k
theorem aw (k:Nat) (a1:Arg):s0 k a1=r0 k a1:=
 funext λJ=>av _ _ _ (T0 a1) _ (λrec v=>by kernel_rfl) k J
noncomputable def p (l0:((List Key)×Int×Int)->Y) (a1:Arg):Y:=l0 (a1.1,a1.2.1,(0:Int))
theorem ae (k:Nat) (a1:Arg):@Eq Y (D.W k a1) (p (r0 k a1) a1):=
 aU (b:=p (s0 k a1) a1) (by kernel_rfl) (by rw[aw])
theorem ok:Ok prog 68 D.sig:=au func68 aT (by kernel_rfl) (aj _)
end qq
namespace sL
abbrev Arg:Type:=(List Tx)×Int×Unit
abbrev Out:Type:=Int×(List Tx)×Unit
abbrev Y:=Option Out
noncomputable def D:FD:={ fn:=f31,tl:=bd,ps:=[(.kY (an (.U de)),(.U de)),(.ro,i64)],rs:=[(i64,(ax i64))],gl:=[(66,ep.D.sig),(67,oV.D.sig),(68,qq.D.sig)],es:=[0],lv:=[(2,[0,1,5])],lx:=[(0,[0,1])] }
noncomputable def aa (a:Arg):Y:=@lift Out λk=>D.W k a
noncomputable def T0 (a1:Arg) (J:(List Tx)×Int×Int):St:={ n:=41,sl:=[(0,.own (.U de) (an (.U de)) [] J.1),(1,.val i64 J.2.1),(5,.val i64 J.2.2)],vr:=[],az:=[(0,0,true)] }
noncomputable def b0 (self:((List Tx)×Int×Int)->Y) (e0:((List Tx)×Int)->Y) (a1:Arg) (J:(List Tx)×Int×Int):Y:=bif decide (J.2.2 < (J.1.length:Int)) then (if 0<=J.2.2/\J.2.2 < (J.1.length:Int) then ((J.1[J.2.2.toNat]?).bind λa7=>let mY:=J.1.set J.2.2.toNat (J.2.1,a7.2);if 0<=J.2.2/\J.2.2 < (mY.length:Int) then ((mY[J.2.2.toNat]?).bind λeo=>(mY[J.2.2.toNat]?).bind λqz=>(mY[J.2.2.toNat]?).bind λrE=>(ep.aa (rE.2.1,af (J.2.1+(1:Int)),())).bind λvn=>(mY[J.2.2.toNat]?).bind λuE=>let wR:=mY.set J.2.2.toNat (uE.1,vn.2.1,uE.2.2);if 0<=J.2.2/\J.2.2 < (wR.length:Int) then ((wR[J.2.2.toNat]?).bind λIF=>(wR[J.2.2.toNat]?).bind λCt=>(wR[J.2.2.toNat]?).bind λLW=>(oV.aa (LW.2.2.1,vn.1,())).bind λIC=>(wR[J.2.2.toNat]?).bind λIE=>let IG:=wR.set J.2.2.toNat (IE.1,IE.2.1,IC.2.1,IE.2.2.2);if 0<=J.2.2/\J.2.2 < (IG.length:Int) then ((IG[J.2.2.toNat]?).bind λZg=>(IG[J.2.2.toNat]?).bind λAb=>(IG[J.2.2.toNat]?).bind λUL=>(qq.aa (UL.2.2.2.1,IC.1,())).bind λDZ=>(IG[J.2.2.toNat]?).bind λCr=>let UJ:=IG.set J.2.2.toNat (Cr.1,Cr.2.1,Cr.2.2.1,DZ.2.1,Cr.2.2.2.2);self (UJ,DZ.1,af (J.2.2+(1:Int)))) else none) else none) else none) else none) else e0 (J.1,J.2.1)
noncomputable def q0 (a1:Arg) (Qb:((List Tx)×Int)):Y:=some (Qb.2,Qb.1,())
noncomputable def s0 (k:Nat) (a1:Arg):((List Tx)×Int×Int)->Y:=λJ=>D.L k [1,0,1,0,0] [0,1,5] [] (ag 0 (ay (D.N k [1,1]) D.K0)) (T0 a1 J)
noncomputable def r0 (k:Nat) (a1:Arg):((List Tx)×Int×Int)->Y:=ak (λw v=>b0 w (q0 a1) a1 v) k
theorem aw (k:Nat) (a1:Arg):s0 k a1=r0 k a1:=
 funext λJ=>av _ _ _ (T0 a1) _ (λrec v=>by kernel_rfl) k J
noncomputable def p (l0:((List Tx)×Int×Int)->Y) (a1:Arg):Y:=l0 (a1.1,a1.2.1,(0:Int))
theorem ae (k:Nat) (a1:Arg):@Eq Y (D.W k a1) (p (r0 k a1) a1):=
 aU (b:=p (s0 k a1) a1) (by kernel_rfl) (by rw[aw])
theorem ok:Ok prog 31 D.sig:=au func31 aT (by kernel_rfl) (fc ep.ok (fc oV.ok (fc qq.ok (aj _))))
end sL
namespace oz
abbrev Arg:Type:=kJ×Int×Unit
abbrev Out:Type:=Int×kJ×Unit
noncomputable def D:FD:={ fn:=f10,tl:=bd,ps:=[(.kY (an im),im),(.ro,i64)],rs:=[(i64,(ax i64))],gl:=[(29,lr.D.sig),(30,qe.D.sig),(31,sL.D.sig)],es:=[2] }
noncomputable def aa (a:Arg):Option Out:=@lift Out λk=>D.W k a
noncomputable def p (a1:Arg):Option Out:=(lr.aa (a1.1.2.1,a1.2.1,())).bind λr2=>(qe.aa (a1.1.2.2.1,r2.1,())).bind λr3=>(sL.aa (a1.1.2.2.2.1,r3.1,())).bind λr4=>some (r4.1,(a1.1.1,r2.2.1,r3.2.1,r4.2.1,a1.1.2.2.2.2),())
theorem ae (k:Nat) (a1:Arg):@Eq (Option Out) (D.W k a1) (p a1):=by kernel_rfl
theorem ok:Ok prog 10 D.sig:=au func10 aT (by kernel_rfl) (fc lr.ok (fc qe.ok (fc sL.ok (aj _))))
end oz
namespace qY
abbrev Arg:Type:=(List gk)×Int×Unit
abbrev Out:Type:=Int×(List gk)×Unit
abbrev Y:=Option Out
noncomputable def D:FD:={ fn:=f32,tl:=bd,ps:=[(.kY (an (.U gv)),(.U gv)),(.ro,i64)],rs:=[(i64,(ax i64))],gl:=[(66,ep.D.sig)],es:=[0],lv:=[(2,[0,1,5])],lx:=[(0,[0,1])] }
noncomputable def aa (a:Arg):Y:=@lift Out λk=>D.W k a
noncomputable def T0 (a1:Arg) (J:(List gk)×Int×Int):St:={ n:=34,sl:=[(0,.own (.U gv) (an (.U gv)) [] J.1),(1,.val i64 J.2.1),(5,.val i64 J.2.2)],vr:=[],az:=[(0,0,true)] }
noncomputable def b0 (self:((List gk)×Int×Int)->Y) (e0:((List gk)×Int)->Y) (a1:Arg) (J:(List gk)×Int×Int):Y:=bif decide (J.2.2 < (J.1.length:Int)) then (if 0<=J.2.2/\J.2.2 < (J.1.length:Int) then ((J.1[J.2.2.toNat]?).bind λa7=>let mY:=J.1.set J.2.2.toNat (J.2.1,a7.2);if 0<=J.2.2/\J.2.2 < (mY.length:Int) then ((mY[J.2.2.toNat]?).bind λeo=>let sj:=mY.set J.2.2.toNat (eo.1,af (J.2.1+(1:Int)),eo.2.2);if 0<=J.2.2/\J.2.2 < (sj.length:Int) then ((sj[J.2.2.toNat]?).bind λrE=>(sj[J.2.2.toNat]?).bind λDV=>(sj[J.2.2.toNat]?).bind λuE=>(ep.aa (uE.2.2.1,af ((af (J.2.1+(1:Int)))+(1:Int)),())).bind λyE=>(sj[J.2.2.toNat]?).bind λIF=>let abI:=sj.set J.2.2.toNat (IF.1,IF.2.1,yE.2.1,IF.2.2.2);self (abI,yE.1,af (J.2.2+(1:Int)))) else none) else none) else none) else e0 (J.1,J.2.1)
noncomputable def q0 (a1:Arg) (Zt:((List gk)×Int)):Y:=some (Zt.2,Zt.1,())
noncomputable def s0 (k:Nat) (a1:Arg):((List gk)×Int×Int)->Y:=λJ=>D.L k [1,0,1,0,0] [0,1,5] [] (ag 0 (ay (D.N k [1,1]) D.K0)) (T0 a1 J)
noncomputable def r0 (k:Nat) (a1:Arg):((List gk)×Int×Int)->Y:=ak (λw v=>b0 w (q0 a1) a1 v) k
theorem aw (k:Nat) (a1:Arg):s0 k a1=r0 k a1:=
 funext λJ=>av _ _ _ (T0 a1) _ (λrec v=>by kernel_rfl) k J
noncomputable def p (l0:((List gk)×Int×Int)->Y) (a1:Arg):Y:=l0 (a1.1,a1.2.1,(0:Int))
theorem ae (k:Nat) (a1:Arg):@Eq Y (D.W k a1) (p (r0 k a1) a1):=
 aU (b:=p (s0 k a1) a1) (by kernel_rfl) (by rw[aw])
theorem ok:Ok prog 32 D.sig:=au func32 aT (by kernel_rfl) (fc ep.ok (aj _))
end qY
namespace pz
abbrev Arg:Type:=(List Buffer)×Int×Unit
abbrev Out:Type:=Int×(List Buffer)×Unit
abbrev Y:=Option Out
noncomputable def D:FD:={ fn:=f117,tl:=bd,ps:=[(.kY (an (.U bj)),(.U bj)),(.ro,i64)],rs:=[(i64,(ax i64))],gl:=[(66,ep.D.sig)],es:=[0],lv:=[(2,[0,1,5])],lx:=[(0,[0,1])] }
noncomputable def aa (a:Arg):Y:=@lift Out λk=>D.W k a
noncomputable def T0 (a1:Arg) (J:(List Buffer)×Int×Int):St:={ n:=27,sl:=[(0,.own (.U bj) (an (.U bj)) [] J.1),(1,.val i64 J.2.1),(5,.val i64 J.2.2)],vr:=[],az:=[(0,0,true)] }
noncomputable def b0 (self:((List Buffer)×Int×Int)->Y) (e0:((List Buffer)×Int)->Y) (a1:Arg) (J:(List Buffer)×Int×Int):Y:=bif decide (J.2.2 < (J.1.length:Int)) then (if 0<=J.2.2/\J.2.2 < (J.1.length:Int) then ((J.1[J.2.2.toNat]?).bind λa7=>let mY:=J.1.set J.2.2.toNat (J.2.1,a7.2);if 0<=J.2.2/\J.2.2 < (mY.length:Int) then ((mY[J.2.2.toNat]?).bind λeo=>(mY[J.2.2.toNat]?).bind λqz=>(mY[J.2.2.toNat]?).bind λrE=>(ep.aa (rE.2.1,af (J.2.1+(1:Int)),())).bind λvn=>(mY[J.2.2.toNat]?).bind λuE=>let wR:=mY.set J.2.2.toNat (uE.1,vn.2.1,uE.2.2);self (wR,vn.1,af (J.2.2+(1:Int)))) else none) else none) else e0 (J.1,J.2.1)
noncomputable def q0 (a1:Arg) (IA:((List Buffer)×Int)):Y:=some (IA.2,IA.1,())
noncomputable def s0 (k:Nat) (a1:Arg):((List Buffer)×Int×Int)->Y:=λJ=>D.L k [1,0,1,0,0] [0,1,5] [] (ag 0 (ay (D.N k [1,1]) D.K0)) (T0 a1 J)
noncomputable def r0 (k:Nat) (a1:Arg):((List Buffer)×Int×Int)->Y:=ak (λw v=>b0 w (q0 a1) a1 v) k
theorem aw (k:Nat) (a1:Arg):s0 k a1=r0 k a1:=
 funext λJ=>av _ _ _ (T0 a1) _ (λrec v=>by kernel_rfl) k J
noncomputable def p (l0:((List Buffer)×Int×Int)->Y) (a1:Arg):Y:=l0 (a1.1,a1.2.1,(0:Int))
theorem ae (k:Nat) (a1:Arg):@Eq Y (D.W k a1) (p (r0 k a1) a1):=
 aU (b:=p (s0 k a1) a1) (by kernel_rfl) (by rw[aw])
theorem ok:Ok prog 117 D.sig:=au func117 aT (by kernel_rfl) (fc ep.ok (aj _))
end pz
namespace nA
abbrev Arg:Type:=dg×Int×Unit
abbrev Out:Type:=Int×dg×Unit
noncomputable def D:FD:={ fn:=f69,tl:=bd,ps:=[(.kY (an ei),ei),(.ro,i64)],rs:=[(i64,(ax i64))],gl:=[(29,lr.D.sig),(117,pz.D.sig)],es:=[2] }
noncomputable def aa (a:Arg):Option Out:=@lift Out λk=>D.W k a
noncomputable def p (a1:Arg):Option Out:=(lr.aa (a1.1.1,a1.2.1,())).bind λr2=>(pz.aa (a1.1.2.1,r2.1,())).bind λr3=>some (r3.1,(r2.2.1,r3.2.1,a1.1.2.2),())
theorem ae (k:Nat) (a1:Arg):@Eq (Option Out) (D.W k a1) (p a1):=by kernel_rfl
theorem ok:Ok prog 69 D.sig:=au func69 aT (by kernel_rfl) (fc lr.ok (fc pz.ok (aj _)))
end nA
namespace mi
abbrev Arg:Type:=di×Int×Unit
abbrev Out:Type:=Int×di×Unit
noncomputable def D:FD:={ fn:=f33,tl:=bd,ps:=[(.kY (an d6),d6),(.ro,i64)],rs:=[(i64,(ax i64))],gl:=[(69,nA.D.sig)],es:=[2] }
noncomputable def aa (a:Arg):Option Out:=@lift Out λk=>D.W k a
noncomputable def p (a1:Arg):Option Out:=(nA.aa (a1.1.1,a1.2.1,())).bind λr2=>(nA.aa (a1.1.2.2.1,r2.1,())).bind λr3=>some (r3.1,(r2.2.1,a1.1.2.1,r3.2.1,a1.1.2.2.2),())
theorem ae (k:Nat) (a1:Arg):@Eq (Option Out) (D.W k a1) (p a1):=by kernel_rfl
theorem ok:Ok prog 33 D.sig:=au func33 aT (by kernel_rfl) (fc nA.ok (aj _))
end mi
namespace lJ
abbrev Arg:Type:=ig×Int×Unit
abbrev Out:Type:=Int×ig×Unit
noncomputable def D:FD:={ fn:=f11,tl:=bd,ps:=[(.kY (an gq),gq),(.ro,i64)],rs:=[(i64,(ax i64))],gl:=[(32,qY.D.sig),(33,mi.D.sig)],es:=[2] }
noncomputable def aa (a:Arg):Option Out:=@lift Out λk=>D.W k a
noncomputable def p (a1:Arg):Option Out:=(qY.aa (a1.1.2.1,a1.2.1,())).bind λr2=>(mi.aa (a1.1.2.2.1,r2.1,())).bind λr3=>some (r3.1,(a1.1.1,r2.2.1,r3.2.1,a1.1.2.2.2),())
theorem ae (k:Nat) (a1:Arg):@Eq (Option Out) (D.W k a1) (p a1):=by kernel_rfl
theorem ok:Ok prog 11 D.sig:=au func11 aT (by kernel_rfl) (fc qY.ok (fc mi.ok (aj _)))
end lJ
namespace kG
abbrev Arg:Type:=(List Change)×Int×Unit
abbrev Out:Type:=Int×Unit
abbrev Y:=Option Out
noncomputable def D:FD:={ fn:=f70,tl:=bd,ps:=[(.ro,(.U ai)),(.ro,i64)],rs:=[(i64,(ax i64))],gl:=[(116,c8.D.sig)],lv:=[(2,[0,1,5])],lx:=[(0,[1])],od:=[(16,[0,1,2,3,4,5,6,7,8]),(31,[0,1,2,3,4,5,6,7,8])] }
noncomputable def aa (a:Arg):Y:=@lift Out λk=>D.W k a
noncomputable def T0 (a1:Arg) (J:Int×Int):St:={ n:=117,sl:=[(0,.val (.U ai) a1.1),(1,.val i64 J.1),(5,.val i64 J.2)],vr:=[],az:=[] }
noncomputable def b0 (self:(Int×Int)->Y) (e0:Int->Y) (a1:Arg) (J:Int×Int):Y:=bif decide (J.2 < (a1.1.length:Int)) then (if 0<=J.2 then ((a1.1[J.2.toNat]?).bind λa7=>bif !(a7.1 == (decide (J.1.tmod (3:Int)=(0:Int)))) then (some ((-1:Int),())) else if 0<=J.2 then ((a1.1[J.2.toNat]?).bind λen=>bif !decide (en.2.1.1=af (J.1+(1:Int))) then (some ((-1:Int),())) else if 0<=J.2 then ((a1.1[J.2.toNat]?).bind λeo=>bif !decide (eo.2.1.2.1=af ((af (J.1+(1:Int)))+(1:Int))) then (some ((-1:Int),())) else if 0<=J.2 then ((a1.1[J.2.toNat]?).bind λqz=>bif !decide (qz.2.1.2.2.1=af ((af ((af (J.1+(1:Int)))+(1:Int)))+(1:Int))) then (some ((-1:Int),())) else if 0<=J.2 then ((a1.1[J.2.toNat]?).bind λrE=>(c8.aa (af ((af ((af ((af (J.1+(1:Int)))+(1:Int)))+(1:Int)))+(1:Int)),())).bind λvn=>bif !decide (rE.2.1.2.2.2.1=vn.1) then (some ((-1:Int),())) else if 0<=J.2 then ((a1.1[J.2.toNat]?).bind λuE=>bif !(uE.2.2.1 == (decide ((af ((af ((af ((af ((af (J.1+(1:Int)))+(1:Int)))+(1:Int)))+(1:Int)))+(1:Int))).tmod (3:Int)=(0:Int)))) then (some ((-1:Int),())) else if 0<=J.2 then ((a1.1[J.2.toNat]?).bind λUB=>bif !decide (UB.2.2.2.1.1=af ((af ((af ((af ((af ((af (J.1+(1:Int)))+(1:Int)))+(1:Int)))+(1:Int)))+(1:Int)))+(1:Int))) then (some ((-1:Int),())) else if 0<=J.2 then ((a1.1[J.2.toNat]?).bind λIF=>bif !decide (IF.2.2.2.1.2.1=af ((af ((af ((af ((af ((af ((af (J.1+(1:Int)))+(1:Int)))+(1:Int)))+(1:Int)))+(1:Int)))+(1:Int)))+(1:Int))) then (some ((-1:Int),())) else if 0<=J.2 then ((a1.1[J.2.toNat]?).bind λCt=>bif !decide (Ct.2.2.2.1.2.2.1=af ((af ((af ((af ((af ((af ((af ((af (J.1+(1:Int)))+(1:Int)))+(1:Int)))+(1:Int)))+(1:Int)))+(1:Int)))+(1:Int)))+(1:Int))) then (some ((-1:Int),())) else if 0<=J.2 then ((a1.1[J.2.toNat]?).bind λLW=>(c8.aa (af ((af ((af ((af ((af ((af ((af ((af ((af (J.1+(1:Int)))+(1:Int)))+(1:Int)))+(1:Int)))+(1:Int)))+(1:Int)))+(1:Int)))+(1:Int)))+(1:Int)),())).bind λIC=>bif !decide (LW.2.2.2.1.2.2.2.1=IC.1) then (some ((-1:Int),())) else self (af ((af ((af ((af ((af ((af ((af ((af ((af ((af (J.1+(1:Int)))+(1:Int)))+(1:Int)))+(1:Int)))+(1:Int)))+(1:Int)))+(1:Int)))+(1:Int)))+(1:Int)))+(1:Int)),af (J.2+(1:Int)))) else none) else none) else none) else none) else none) else none) else none) else none) else none) else none) else e0 J.1
noncomputable def q0 (a1:Arg) (abJ:Int):Y:=some (abJ,())
noncomputable def s0 (k:Nat) (a1:Arg):(Int×Int)->Y:=λJ=>D.L k [1,0,1,0,0] [0,1,5] [] (ag 0 (ay (D.N k [1,1]) D.K0)) (T0 a1 J)
noncomputable def r0 (k:Nat) (a1:Arg):(Int×Int)->Y:=ak (λw v=>b0 w (q0 a1) a1 v) k
theorem aw (k:Nat) (a1:Arg):s0 k a1=r0 k a1:=
 funext λJ=>av _ _ _ (T0 a1) _ (λrec v=>by kernel_rfl) k J
noncomputable def p (l0:(Int×Int)->Y) (a1:Arg):Y:=l0 (a1.2.1,(0:Int))
theorem ae (k:Nat) (a1:Arg):@Eq Y (D.W k a1) (p (r0 k a1) a1):=
 aU (b:=p (s0 k a1) a1) (by kernel_rfl) (by rw[aw])
theorem ok:Ok prog 70 D.sig:=au func70 aT (by kernel_rfl) (fc c8.ok (aj _))
end kG
namespace qZ
abbrev Arg:Type:=(List gk)×Int×Unit
abbrev Out:Type:=Int×Unit
abbrev Y:=Option Out
noncomputable def D:FD:={ fn:=f34,tl:=bd,ps:=[(.ro,(.U gv)),(.ro,i64)],rs:=[(i64,(ax i64))],gl:=[(70,kG.D.sig)],lv:=[(2,[0,1,5])],lx:=[(0,[1])] }
noncomputable def aa (a:Arg):Y:=@lift Out λk=>D.W k a
noncomputable def T0 (a1:Arg) (J:Int×Int):St:={ n:=40,sl:=[(0,.val (.U gv) a1.1),(1,.val i64 J.1),(5,.val i64 J.2)],vr:=[],az:=[] }
noncomputable def b0 (self:(Int×Int)->Y) (e0:Int->Y) (a1:Arg) (J:Int×Int):Y:=bif decide (J.2 < (a1.1.length:Int)) then (if 0<=J.2 then ((a1.1[J.2.toNat]?).bind λa7=>bif !decide (a7.1=J.1) then (some ((-1:Int),())) else if 0<=J.2 then ((a1.1[J.2.toNat]?).bind λen=>bif !decide (en.2.1=af (J.1+(1:Int))) then (some ((-1:Int),())) else if 0<=J.2 then ((a1.1[J.2.toNat]?).bind λeo=>(kG.aa (eo.2.2.1,af ((af (J.1+(1:Int)))+(1:Int)),())).bind λph=>bif decide (ph.1 < (0:Int)) then (some ((-1:Int),())) else self (ph.1,af (J.2+(1:Int)))) else none) else none) else none) else e0 J.1
noncomputable def q0 (a1:Arg) (mO:Int):Y:=some (mO,())
noncomputable def s0 (k:Nat) (a1:Arg):(Int×Int)->Y:=λJ=>D.L k [1,0,1,0,0] [0,1,5] [] (ag 0 (ay (D.N k [1,1]) D.K0)) (T0 a1 J)
noncomputable def r0 (k:Nat) (a1:Arg):(Int×Int)->Y:=ak (λw v=>b0 w (q0 a1) a1 v) k
theorem aw (k:Nat) (a1:Arg):s0 k a1=r0 k a1:=
 funext λJ=>av _ _ _ (T0 a1) _ (λrec v=>by kernel_rfl) k J
noncomputable def p (l0:(Int×Int)->Y) (a1:Arg):Y:=l0 (a1.2.1,(0:Int))
theorem ae (k:Nat) (a1:Arg):@Eq Y (D.W k a1) (p (r0 k a1) a1):=
 aU (b:=p (s0 k a1) a1) (by kernel_rfl) (by rw[aw])
theorem ok:Ok prog 34 D.sig:=au func34 aT (by kernel_rfl) (fc kG.ok (aj _))
end qZ
namespace pA
abbrev Arg:Type:=(List UInt8)×Int×Unit
abbrev Out:Type:=Int×Unit
abbrev Y:=Option Out
noncomputable def D:FD:={ fn:=f172,tl:=bd,ps:=[(.ro,(.U u8)),(.ro,i64)],rs:=[(i64,(ax i64))],lv:=[(2,[0,1,5])],lx:=[(0,[1])] }
noncomputable def aa (a:Arg):Y:=@lift Out λk=>D.W k a
noncomputable def T0 (a1:Arg) (J:Int×Int):St:={ n:=22,sl:=[(0,.val (.U u8) a1.1),(1,.val i64 J.1),(5,.val i64 J.2)],vr:=[],az:=[] }
noncomputable def b0 (self:(Int×Int)->Y) (e0:Int->Y) (a1:Arg) (J:Int×Int):Y:=bif decide (J.2 < (a1.1.length:Int)) then (if 0<=J.2 then ((a1.1[J.2.toNat]?).bind λa7=>bif !decide ((a7.toNat:Int)=((UInt8.ofInt J.1).toNat:Int)) then (some ((-1:Int),())) else self (af (J.1+(1:Int)),af (J.2+(1:Int)))) else none) else e0 J.1
noncomputable def q0 (a1:Arg) (oC:Int):Y:=some (oC,())
noncomputable def s0 (k:Nat) (a1:Arg):(Int×Int)->Y:=λJ=>D.L k [1,0,1,0,0] [0,1,5] [] (ag 0 (ay (D.N k [1,1]) D.K0)) (T0 a1 J)
noncomputable def r0 (k:Nat) (a1:Arg):(Int×Int)->Y:=ak (λw v=>b0 w (q0 a1) a1 v) k
theorem aw (k:Nat) (a1:Arg):s0 k a1=r0 k a1:=
 funext λJ=>av _ _ _ (T0 a1) _ (λrec v=>by kernel_rfl) k J
noncomputable def p (l0:(Int×Int)->Y) (a1:Arg):Y:=l0 (a1.2.1,(0:Int))
theorem ae (k:Nat) (a1:Arg):@Eq Y (D.W k a1) (p (r0 k a1) a1):=
 aU (b:=p (s0 k a1) a1) (by kernel_rfl) (by rw[aw])
theorem ok:Ok prog 172 D.sig:=au func172 aT (by kernel_rfl) (aj _)
end pA
namespace qm
abbrev Arg:Type:=(List (List UInt8))×Int×Unit
abbrev Out:Type:=Int×Unit
abbrev Y:=Option Out
noncomputable def D:FD:={ fn:=f118,tl:=bd,ps:=[(.ro,(.U (.U u8))),(.ro,i64)],rs:=[(i64,(ax i64))],gl:=[(172,pA.D.sig)],lv:=[(2,[0,1,5])],lx:=[(0,[1])] }
noncomputable def aa (a:Arg):Y:=@lift Out λk=>D.W k a
noncomputable def T0 (a1:Arg) (J:Int×Int):St:={ n:=21,sl:=[(0,.val (.U (.U u8)) a1.1),(1,.val i64 J.1),(5,.val i64 J.2)],vr:=[],az:=[] }
noncomputable def b0 (self:(Int×Int)->Y) (e0:Int->Y) (a1:Arg) (J:Int×Int):Y:=bif decide (J.2 < (a1.1.length:Int)) then (if 0<=J.2 then ((a1.1[J.2.toNat]?).bind λa7=>(pA.aa (a7,J.1,())).bind λdv=>bif decide (dv.1 < (0:Int)) then (some ((-1:Int),())) else self (dv.1,af (J.2+(1:Int)))) else none) else e0 J.1
noncomputable def q0 (a1:Arg) (dz:Int):Y:=some (dz,())
noncomputable def s0 (k:Nat) (a1:Arg):(Int×Int)->Y:=λJ=>D.L k [1,0,1,0,0] [0,1,5] [] (ag 0 (ay (D.N k [1,1]) D.K0)) (T0 a1 J)
noncomputable def r0 (k:Nat) (a1:Arg):(Int×Int)->Y:=ak (λw v=>b0 w (q0 a1) a1 v) k
theorem aw (k:Nat) (a1:Arg):s0 k a1=r0 k a1:=
 funext λJ=>av _ _ _ (T0 a1) _ (λrec v=>by kernel_rfl) k J
noncomputable def p (l0:(Int×Int)->Y) (a1:Arg):Y:=l0 (a1.2.1,(0:Int))
theorem ae (k:Nat) (a1:Arg):@Eq Y (D.W k a1) (p (r0 k a1) a1):=
 aU (b:=p (s0 k a1) a1) (by kernel_rfl) (by rw[aw])
theorem ok:Ok prog 118 D.sig:=au func118 aT (by kernel_rfl) (fc pA.ok (aj _))
end qm
namespace pB
abbrev Arg:Type:=(List Buffer)×Int×Unit
abbrev Out:Type:=Int×Unit
abbrev Y:=Option Out
noncomputable def D:FD:={ fn:=f119,tl:=bd,ps:=[(.ro,(.U bj)),(.ro,i64)],rs:=[(i64,(ax i64))],gl:=[(70,kG.D.sig)],lv:=[(2,[0,1,5])],lx:=[(0,[1])] }
noncomputable def aa (a:Arg):Y:=@lift Out λk=>D.W k a
noncomputable def T0 (a1:Arg) (J:Int×Int):St:={ n:=31,sl:=[(0,.val (.U bj) a1.1),(1,.val i64 J.1),(5,.val i64 J.2)],vr:=[],az:=[] }
noncomputable def b0 (self:(Int×Int)->Y) (e0:Int->Y) (a1:Arg) (J:Int×Int):Y:=bif decide (J.2 < (a1.1.length:Int)) then (if 0<=J.2 then ((a1.1[J.2.toNat]?).bind λa7=>bif !decide (a7.1=J.1) then (some ((-1:Int),())) else if 0<=J.2 then ((a1.1[J.2.toNat]?).bind λen=>(kG.aa (en.2.1,af (J.1+(1:Int)),())).bind λjZ=>bif decide (jZ.1 < (0:Int)) then (some ((-1:Int),())) else self (jZ.1,af (J.2+(1:Int)))) else none) else none) else e0 J.1
noncomputable def q0 (a1:Arg) (oD:Int):Y:=some (oD,())
noncomputable def s0 (k:Nat) (a1:Arg):(Int×Int)->Y:=λJ=>D.L k [1,0,1,0,0] [0,1,5] [] (ag 0 (ay (D.N k [1,1]) D.K0)) (T0 a1 J)
noncomputable def r0 (k:Nat) (a1:Arg):(Int×Int)->Y:=ak (λw v=>b0 w (q0 a1) a1 v) k
theorem aw (k:Nat) (a1:Arg):s0 k a1=r0 k a1:=
 funext λJ=>av _ _ _ (T0 a1) _ (λrec v=>by kernel_rfl) k J
noncomputable def p (l0:(Int×Int)->Y) (a1:Arg):Y:=l0 (a1.2.1,(0:Int))
theorem ae (k:Nat) (a1:Arg):@Eq Y (D.W k a1) (p (r0 k a1) a1):=
 aU (b:=p (s0 k a1) a1) (by kernel_rfl) (by rw[aw])
theorem ok:Ok prog 119 D.sig:=au func119 aT (by kernel_rfl) (fc kG.ok (aj _))
end pB
namespace nB
abbrev Arg:Type:=dg×Int×Unit
abbrev Out:Type:=Int×Unit
noncomputable def D:FD:={ fn:=f71,tl:=bd,ps:=[(.ro,ei),(.ro,i64)],rs:=[(i64,(ax i64))],gl:=[(118,qm.D.sig),(119,pB.D.sig)] }
noncomputable def aa (a:Arg):Option Out:=@lift Out λk=>D.W k a
noncomputable def p (a1:Arg):Option Out:=(qm.aa (a1.1.1,a1.2.1,())).bind λr2=>bif decide (r2.1 < (0:Int)) then (some ((-1:Int),())) else (pB.aa (a1.1.2.1,r2.1,())).bind λr3=>bif decide (r3.1 < (0:Int)) then (some ((-1:Int),())) else some (r3.1,())
theorem ae (k:Nat) (a1:Arg):@Eq (Option Out) (D.W k a1) (p a1):=by kernel_rfl
theorem ok:Ok prog 71 D.sig:=au func71 aT (by kernel_rfl) (fc qm.ok (fc pB.ok (aj _)))
end nB
namespace mj
abbrev Arg:Type:=di×Int×Unit
abbrev Out:Type:=Int×Unit
noncomputable def D:FD:={ fn:=f35,tl:=bd,ps:=[(.ro,d6),(.ro,i64)],rs:=[(i64,(ax i64))],gl:=[(71,nB.D.sig)] }
noncomputable def aa (a:Arg):Option Out:=@lift Out λk=>D.W k a
noncomputable def p (a1:Arg):Option Out:=(nB.aa (a1.1.1,a1.2.1,())).bind λr2=>bif decide (r2.1 < (0:Int)) then (some ((-1:Int),())) else (nB.aa (a1.1.2.2.1,r2.1,())).bind λr3=>bif decide (r3.1 < (0:Int)) then (some ((-1:Int),())) else some (r3.1,())
theorem ae (k:Nat) (a1:Arg):@Eq (Option Out) (D.W k a1) (p a1):=by kernel_rfl
theorem ok:Ok prog 35 D.sig:=au func35 aT (by kernel_rfl) (fc nB.ok (aj _))
end mj
namespace kM
abbrev Arg:Type:=ig×Int×Unit
abbrev Out:Type:=Int×Unit
noncomputable def D:FD:={ fn:=f12,tl:=bd,ps:=[(.ro,gq),(.ro,i64)],rs:=[(i64,(ax i64))],gl:=[(34,qZ.D.sig),(35,mj.D.sig)] }
noncomputable def aa (a:Arg):Option Out:=@lift Out λk=>D.W k a
noncomputable def p (a1:Arg):Option Out:=(qZ.aa (a1.1.2.1,a1.2.1,())).bind λr2=>bif decide (r2.1 < (0:Int)) then (some ((-1:Int),())) else (mj.aa (a1.1.2.2.1,r2.1,())).bind λr3=>bif decide (r3.1 < (0:Int)) then (some ((-1:Int),())) else some (r3.1,())
theorem ae (k:Nat) (a1:Arg):@Eq (Option Out) (D.W k a1) (p a1):=by kernel_rfl
theorem ok:Ok prog 12 D.sig:=au func12 aT (by kernel_rfl) (fc qZ.ok (fc mj.ok (aj _)))
end kM
namespace f0
abbrev Arg:Type:=kJ×Unit
abbrev Out:Type:=Bool×Unit
abbrev ps:PQ:=[(.ro,im)]
noncomputable def D:FD:={ fn:=f3,tl:=bd,ps:=ps,rs:=[(.bool,(ax .bool))],gl:=[(4,pX.D.sig),(5,qT.D.sig),(6,np.D.sig),(7,pP.D.sig),(8,kU.D.sig),(9,qd.D.sig),(10,oz.D.sig),(11,lJ.D.sig),(12,kM.D.sig)],od:=[(10,[0,1,2,3,4])] }
noncomputable def aa (a:Arg):Option Out:=@lift Out λk=>D.W k a
noncomputable def p (a1:Arg):Option Out:=(pX.aa (a1.1,(1048576:Int),())).bind λr2=>bif decide (r2.1 < (0:Int)) then (some (true,())) else (np.aa (a1.1,())).bind λr3=>(qT.aa (r3.1,())).bind λr4=>(np.aa (a1.1,())).bind λr5=>(pP.aa (r5.1,())).bind λr6=>(kU.aa (r6.1,r4.1,())).bind λr7=>bif !r7.1 then (some (false,())) else (np.aa (a1.1,())).bind λr8=>(qd.aa (r5.1,r8.1,())).bind λr9=>bif !r9.1 then (some (false,())) else (oz.aa (r5.1,(1:Int),())).bind λDX=>bif decide (DX.1 < (0:Int)) then (some (false,())) else (kU.aa (r6.1,r4.1,())).bind λJs=>bif !Js.1 then (some (false,())) else (lJ.aa (r6.1,(1:Int),())).bind λAc=>(kM.aa (Ac.2.1,(1:Int),())).bind λWG=>bif decide (WG.1 < (0:Int)) then (some (false,())) else bif !decide (WG.1=Ac.1) then (some (false,())) else (np.aa (a1.1,())).bind λY_=>(pP.aa (Y_.1,())).bind λSH=>(kU.aa (SH.1,r4.1,())).bind λLR=>bif !LR.1 then (some (false,())) else (kM.aa (Ac.2.1,(1:Int),())).bind λWy=>bif decide (Wy.1 < (0:Int)) then (some (false,())) else bif !decide (Wy.1=Ac.1) then (some (false,())) else some (true,())
theorem ae (k:Nat) (a1:Arg):@Eq (Option Out) (D.W k a1) (p a1):=by kernel_rfl
theorem ok:Ok prog 3 D.sig:=au func3 aT (by kernel_rfl) (fc pX.ok (fc qT.ok (fc np.ok (fc pP.ok (fc kU.ok (fc qd.ok (fc oz.ok (fc lJ.ok (fc kM.ok (aj _))))))))))
end f0
end OT
