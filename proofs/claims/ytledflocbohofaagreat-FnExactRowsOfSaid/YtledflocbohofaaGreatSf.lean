/- The proof's parts, merged: Printed by gen.py, a program of this claim  what each Go function computes.. No conditions but those that each states. -/
import Derived.Test.YtledflocbohofaaGreatSe
set_option maxRecDepth 100000
set_option linter.unusedVariables false
namespace OT
open Go Go.Proofs.Tryz
namespace cd
abbrev Arg:Type:=aM×Unit
abbrev Out:Type:=(List UInt8)×Unit
abbrev ps:PQ:=[(.ro,bO)]
noncomputable def D:FD:={ fn:=f238,tl:=aL,ps:=ps,rs:=[((.U u8),(am (.U u8)))],lv:=[(3,[3,24,25,26]),(11,[3,6,51,52,53])],lx:=[(0,[3]),(2,[3,6])] }
noncomputable def ab (a:Arg):Option Out:=@lift Out fun k=>D.W k a
noncomputable def T0 (a1:Arg) (J:(List UInt8)×Int):St:={ n:=72,sl:=[(3,.own (.U u8) (am (.U u8)) [] J.1),(24,.val (.U pq) a1.1.2.2.2.1),(25,.val i64 (a1.1.2.2.2.1.length:Int)),(26,.val i64 J.2)],vr:=[],av:=[] }
noncomputable def S0 (rec:RT Out) (a1:Arg):((List UInt8)×Int)->Option Out:=fun J=>rec (T0 a1 J)
noncomputable def bn (K:KT Out) (a1:Arg):(List UInt8)->Option Out:=fun z=>K (.exit 0) ({ n:=72,sl:=[(3,.own (.U u8) (am (.U u8)) [] z)],vr:=[],av:=[] })
noncomputable def b0 (self:((List UInt8)×Int)->Option Out) (e0:(List UInt8)->Option Out) (a1:Arg) (J:(List UInt8)×Int):Option Out:=bif decide (J.2 < (a1.1.2.2.2.1.length:Int)) then (if 0<=J.2 then ((a1.1.2.2.2.1[J.2.toNat]?).bind fun aC=>if J.1.length+[UInt8.ofInt aC.1,UInt8.ofInt (aC.2.1.length:Int)].length<=bg then (let im:=J.1++[UInt8.ofInt aC.1,UInt8.ofInt (aC.2.1.length:Int)];if im.length+aC.2.1.length<=bg then (self (im++aC.2.1,ae (J.2+(1:Int)))) else none) else none) else none) else e0 J.1
noncomputable abbrev B0 (_:Nat):=b0
theorem fX (k:Nat) (rec:RT Out) (K:KT Out) (a1:Arg) (J:(List UInt8)×Int):D.N k [1,1,0,1,0,0] (T0 a1 J) (dj rec (b9 [3,24,25,26] []) K)=b0 (S0 rec a1) (bn K a1) a1 J:=by kernel_rfl
noncomputable def T1 (a1:Arg) (bK:List UInt8) (eD:Int) (bb:Int×Int):St:={ n:=72,sl:=[(3,.own (.U u8) (am (.U u8)) [] bK),(6,.val i64 bb.1),(51,.ref 3 [] [0,0]),(52,.val i64 eD),(53,.val i64 bb.2)],vr:=[],av:=[] }
noncomputable def b1 (self:(Int×Int)->Option Out) (e2:Int->Option Out) (a1:Arg) (bK:List UInt8) (eD:Int) (bb:Int×Int):Option Out:=bif decide (bb.2 < eD) then (if 0<=bb.2/\bb.2 < (bK.length:Int) then ((bK[bb.2.toNat]?).bind fun wj=>self ((ae ((ae (bb.1*(31:Int)))+(ae (wj.toNat:Int)))).tmod (65521:Int),ae (bb.2+(1:Int)))) else none) else e2 bb.1
noncomputable abbrev B1 (_:Nat):=b1
noncomputable def q1 (a1:Arg) (bK:List UInt8) (eD:Int) (rX:Int):Option Out:=if bK.length+[UInt8.ofInt (rX.fdiv (2 ^ 8)),UInt8.ofInt rX].length<=bg then (let Gw:=bK++[UInt8.ofInt (rX.fdiv (2 ^ 8)),UInt8.ofInt rX];some (Gw,())) else none
noncomputable abbrev Q1 (_:Nat):=q1
noncomputable def s1 (k:Nat) (a1:Arg):(List UInt8)->Int->(Int×Int)->Option Out:=fun bK eD=>fun bb=>D.L k [1,1,1,1,1,0,1,0,0] [3,6,51,52,53] [] (af 2 (ao (D.N k [1,1,1,1,1,1]) D.K0)) (T1 a1 bK eD bb)
noncomputable def r1 (k:Nat) (a1:Arg):(List UInt8)->Int->(Int×Int)->Option Out:=fun bK eD=>ak (fun w v=>B1 k w (Q1 k a1 bK eD) a1 bK eD v) k
theorem fY (k:Nat) (a1:Arg):s1 k a1=r1 k a1:=
 funext fun bK=>funext fun eD=>funext fun bb=>an _ _ _ (T1 a1 bK eD) _ (fun rec v=>by kernel_rfl) k bb
noncomputable def q0 (l1:(List UInt8)->Int->(Int×Int)->Option Out) (a1:Arg) (bQ:(List UInt8)):Option Out:=if 0<=(0:Int)/\(0:Int) < (bQ.length:Int) then ((bQ[0]?).bind fun nY=>let vz:=bQ.set 0 (UInt8.ofInt (ae ((bQ.length:Int)+(2:Int))));l1 vz (vz.length:Int) ((1:Int),(0:Int))) else none
noncomputable def Q0 (k:Nat) (a1:Arg) (bQ:(List UInt8)):Option Out:=q0 (r1 k a1) a1 bQ
theorem kS (k:Nat) (a1:Arg) (bQ:(List UInt8)):bn (af 0 (ao (D.N k [1,1,1]) D.K0)) a1 bQ=Q0 k a1 bQ:=
 Eq.trans (b:=q0 (s1 k a1) a1 bQ) (by kernel_rfl) (by rw[fY];rfl)
noncomputable def s0 (k:Nat) (a1:Arg):((List UInt8)×Int)->Option Out:=fun J=>D.L k [1,1,0,1,0,0] [3,24,25,26] [] (af 0 (ao (D.N k [1,1,1]) D.K0)) (T0 a1 J)
noncomputable def r0 (k:Nat) (a1:Arg):((List UInt8)×Int)->Option Out:=ak (fun w v=>B0 k w (Q0 k a1) a1 v) k
theorem au (k:Nat) (a1:Arg):s0 k a1=r0 k a1:=by
 funext J;
 have h0:bn (af 0 (ao (D.N k [1,1,1]) D.K0)) a1=Q0 k a1:=funext fun z=>kS k a1 z
 refine (an _ _ _ (T0 a1) (fun self v=>B0 k self (bn (af 0 (ao (D.N k [1,1,1]) D.K0)) a1) a1 v) (fun rec v=>fX k rec (af 0 (ao (D.N k [1,1,1]) D.K0)) a1 v) k J).trans ?_
 rw[h0]
 rfl
noncomputable def p (l0:((List UInt8)×Int)->Option Out) (a1:Arg):Option Out:=l0 ([(0:UInt8),UInt8.ofInt a1.1.1,UInt8.ofInt a1.1.2.1,UInt8.ofInt a1.1.2.2.1,UInt8.ofInt (a1.1.2.2.2.1.length:Int)],(0:Int))
theorem aa (k:Nat) (a1:Arg):@Eq (Option Out) (D.W k a1) (p (r0 k a1) a1):=
 Eq.trans (b:=p (s0 k a1) a1) (by kernel_rfl) (by rw[au])
theorem ok:Ok prog 238 D.sig:=aq func238 aB (by kernel_rfl) (al _)
end cd
namespace fy
abbrev Arg:Type:=(List UInt8)×Unit
abbrev Out:Type:=aM×Int×Unit
abbrev ps:PQ:=[(.ro,(.U u8))]
noncomputable def D:FD:={ fn:=f170,tl:=aL,ps:=ps,rs:=[(bO,(am bO)),(i64,(ax i64))],gl:=[(135,d6.D.sig),(138,bB.D.sig),(159,gH.D.sig),(238,cd.D.sig)],lv:=[(7,[2,4,5,6,7,52,53])],lx:=[(0,[2,4,5,6,7])],od:=[(4,[0,1,2,3,4,5,6,7,8,9,10,11,12,13,14]),(11,[0,1,2,3,4,5,6,7,8,9,10,11,12,13,14,15,16,17,18,19,20])] }
noncomputable def ab (a:Arg):Option Out:=@lift Out fun k=>D.W k a
noncomputable def T0 (a1:Arg) (mZ:List UInt8) (pr:Int) (rD:Int) (gB:aM×Int×Int):St:={ n:=123,sl:=[(2,.box bO (am bO) [] ((0:Int),(0:Int),(0:Int),([]:List cE),())),(4,.val (.U u8) mZ),(5,.box bO (am bO) [] gB.1),(6,.val i64 gB.2.1),(7,.val i64 pr),(52,.val i64 rD),(53,.val i64 gB.2.2)],vr:=[],av:=[] }
noncomputable def b0 (self:(aM×Int×Int)->Option Out) (e0:(aM×Int)->Option Out) (a1:Arg) (mZ:List UInt8) (pr:Int) (rD:Int) (gB:aM×Int×Int):Option Out:=bif decide (gB.2.2 < rD) then (bif decide (pr < ae (gB.2.1+(2:Int))) then (some (((0:Int),(0:Int),(0:Int),([]:List cE),()),(0:Int),())) else if 0<=ae (gB.2.1+(1:Int)) then ((mZ[(ae (gB.2.1+(1:Int))).toNat]?).bind fun J8=>bif decide (pr < ae ((ae (gB.2.1+(2:Int)))+(ae (J8.toNat:Int)))) then (some (((0:Int),(0:Int),(0:Int),([]:List cE),()),(0:Int),())) else if 0<=ae (gB.2.1+(1:Int)) then ((mZ[(ae (gB.2.1+(1:Int))).toNat]?).bind fun vA=>if 0<=gB.2.1 then ((mZ[gB.2.1.toNat]?).bind fun zF=>if 0<=ae (gB.2.1+(2:Int))/\ae (gB.2.1+(2:Int))<=ae ((ae (gB.2.1+(2:Int)))+(ae (vA.toNat:Int)))/\ae ((ae (gB.2.1+(2:Int)))+(ae (vA.toNat:Int)))<=(mZ.length:Int) then ((gH.ab ((mZ.take (ae ((ae (gB.2.1+(2:Int)))+(ae (vA.toNat:Int)))).toNat).drop (ae (gB.2.1+(2:Int))).toNat,())).bind fun N8=>if gB.1.2.2.2.1.length+[(ae (zF.toNat:Int),N8.1,())].length<=bg then (let CN:=gB.1.2.2.2.1++[(ae (zF.toNat:Int),N8.1,())];self ((gB.1.1,gB.1.2.1,gB.1.2.2.1,CN,gB.1.2.2.2.2),ae (gB.2.1+(ae ((2:Int)+(ae (vA.toNat:Int))))),ae (gB.2.2+(1:Int)))) else none) else none) else none) else none) else none) else e0 (gB.1,gB.2.1)
noncomputable abbrev B0 (_:Nat):=b0
noncomputable def q0 (a1:Arg) (mZ:List UInt8) (pr:Int) (rD:Int) (Gz:(aM×Int)):Option Out:=bif !decide (Gz.2=pr) then (some (((0:Int),(0:Int),(0:Int),([]:List cE),()),(0:Int),())) else (d6.ab (Gz.1,())).bind fun Ri=>bif !decide (Ri.1=(0:Int)) then (some (((0:Int),(0:Int),(0:Int),([]:List cE),()),(0:Int),())) else (cd.ab (Gz.1,())).bind fun GA=>(bB.ab (GA.1,mZ,())).bind fun Rj=>bif !Rj.1 then (some (((0:Int),(0:Int),(0:Int),([]:List cE),()),(0:Int),())) else some (Gz.1,(mZ.length:Int),())
noncomputable abbrev Q0 (_:Nat):=q0
noncomputable def s0 (k:Nat) (a1:Arg):(List UInt8)->Int->Int->(aM×Int×Int)->Option Out:=fun mZ pr rD=>fun gB=>D.L k [1,1,1,1,1,0,1,0,0] [2,4,5,6,7,52,53] [] (af 0 (ao (D.N k [1,1,1,1,1,1]) D.K0)) (T0 a1 mZ pr rD gB)
noncomputable def r0 (k:Nat) (a1:Arg):(List UInt8)->Int->Int->(aM×Int×Int)->Option Out:=fun mZ pr rD=>ak (fun w v=>B0 k w (Q0 k a1 mZ pr rD) a1 mZ pr rD v) k
theorem au (k:Nat) (a1:Arg):s0 k a1=r0 k a1:=
 funext fun mZ=>funext fun pr=>funext fun rD=>funext fun gB=>an _ _ _ (T0 a1 mZ pr rD) _ (fun rec v=>by kernel_rfl) k gB
noncomputable def p (l0:(List UInt8)->Int->Int->(aM×Int×Int)->Option Out) (a1:Arg):Option Out:=bif decide ((a1.1.length:Int) < (7:Int)) then (some (((0:Int),(0:Int),(0:Int),([]:List cE),()),(0:Int),())) else (a1.1[0]?).bind fun x2=>bif decide ((a1.1.length:Int) < ae (x2.toNat:Int)) then (some (((0:Int),(0:Int),(0:Int),([]:List cE),()),(0:Int),())) else (a1.1[0]?).bind fun x3=>bif decide ((x3.toNat:Int) < (7:Int)) then (some (((0:Int),(0:Int),(0:Int),([]:List cE),()),(0:Int),())) else (a1.1[0]?).bind fun x4=>if 0<=(x4.toNat:Int)/\(x4.toNat:Int)<=(a1.1.length:Int) then ((((a1.1.take (x4.toNat:Int).toNat).drop 0)[1]?).bind fun x5=>(((a1.1.take (x4.toNat:Int).toNat).drop 0)[2]?).bind fun x6=>(((a1.1.take (x4.toNat:Int).toNat).drop 0)[3]?).bind fun x7=>(((a1.1.take (x4.toNat:Int).toNat).drop 0)[4]?).bind fun x8=>l0 ((a1.1.take (x4.toNat:Int).toNat).drop 0) (ae ((((a1.1.take (x4.toNat:Int).toNat).drop 0).length:Int) - (2:Int))) (ae (x8.toNat:Int)) ((ae (x5.toNat:Int),ae (x6.toNat:Int),ae (x7.toNat:Int),([]:List cE),()),(5:Int),(0:Int))) else none
theorem aa (k:Nat) (a1:Arg):@Eq (Option Out) (D.W k a1) (p (r0 k a1) a1):=
 Eq.trans (b:=p (s0 k a1) a1) (by kernel_rfl) (by rw[au])
theorem ok:Ok prog 170 D.sig:=aq func170 aB (by kernel_rfl) (fc d6.ok (fc bB.ok (fc gH.ok (fc cd.ok (al _)))))
end fy
namespace fi
abbrev Arg:Type:=(List UInt8)×Unit
abbrev Out:Type:=(List aM)×Int×Unit
abbrev ps:PQ:=[(.ro,(.U u8))]
noncomputable def D:FD:={ fn:=f125,tl:=aL,ps:=ps,rs:=[((.U bO),(am (.U bO))),(i64,(ax i64))],gl:=[(170,fy.D.sig)],lv:=[(3,[0,4,5])] }
noncomputable def ab (a:Arg):Option Out:=@lift Out fun k=>D.W k a
noncomputable def T0 (a1:Arg) (J:(List aM)×Int):St:={ n:=26,sl:=[(0,.val (.U u8) a1.1),(4,.own (.U bO) (am (.U bO)) [] J.1),(5,.val i64 J.2)],vr:=[],av:=[] }
noncomputable def b0 (self:((List aM)×Int)->Option Out) (a1:Arg) (J:(List aM)×Int):Option Out:=if 0<=J.2/\J.2<=(a1.1.length:Int) then ((fy.ab ((a1.1.take a1.1.length).drop J.2.toNat,())).bind fun tN=>bif decide (tN.2.1=(0:Int)) then (some (J.1,J.2,())) else if J.1.length+[tN.1].length<=bg then (self (J.1++[tN.1],ae (J.2+tN.2.1))) else none) else none
noncomputable abbrev B0 (_:Nat):=b0
noncomputable def s0 (k:Nat) (a1:Arg):((List aM)×Int)->Option Out:=fun J=>D.L k [1,1,1,0,0] [0,4,5] [] (af 0 D.K0) (T0 a1 J)
noncomputable def r0 (k:Nat) (a1:Arg):((List aM)×Int)->Option Out:=ak (fun w v=>B0 k w a1 v) k
theorem au (k:Nat) (a1:Arg):s0 k a1=r0 k a1:=
 funext fun J=>an _ _ _ (T0 a1) _ (fun rec v=>by kernel_rfl) k J
noncomputable def p (l0:((List aM)×Int)->Option Out) (a1:Arg):Option Out:=l0 (([]:List aM),(0:Int))
theorem aa (k:Nat) (a1:Arg):@Eq (Option Out) (D.W k a1) (p (r0 k a1) a1):=
 Eq.trans (b:=p (s0 k a1) a1) (by kernel_rfl) (by rw[au])
theorem ok:Ok prog 125 D.sig:=aq func125 aB (by kernel_rfl) (fc fy.ok (al _))
end fi
namespace c_
abbrev Arg:Type:=Log×Unit
abbrev Out:Type:=Int×Unit
abbrev ps:PQ:=[(.ro,dP)]
noncomputable def D:FD:={ fn:=f60,tl:=aL,ps:=ps,rs:=[(i64,(ax i64))],gl:=[(124,iM.D.sig),(125,fi.D.sig)],lv:=[(4,[14,15,16])],lx:=[(0,[])] }
noncomputable def ab (a:Arg):Option Out:=@lift Out fun k=>D.W k a
noncomputable def T0 (a1:Arg) (aX:Int):St:={ n:=30,sl:=[(14,.own (.U (.U u8)) (.U true (ax (.U u8))) [] [a1.1.1,a1.1.2.1]),(15,.val i64 ([a1.1.1,a1.1.2.1].length:Int)),(16,.val i64 aX)],vr:=[],av:=[] }
noncomputable def b0 (self:Int->Option Out) (e0:(Unit)->Option Out) (a1:Arg) (aX:Int):Option Out:=bif decide (aX < ([a1.1.1,a1.1.2.1].length:Int)) then (if 0<=aX/\aX < ([a1.1.1,a1.1.2.1].length:Int) then (([a1.1.1,a1.1.2.1][aX.toNat]?).bind fun cW=>(fi.ab (cW,())).bind fun gU=>bif !decide (gU.2.1=(cW.length:Int)) then (some ((5:Int),())) else self (ae (aX+(1:Int)))) else none) else e0 ()
noncomputable abbrev B0 (_:Nat):=b0
noncomputable def q0 (a1:Arg) (kx:(Unit)):Option Out:=some ((0:Int),())
noncomputable abbrev Q0 (_:Nat):=q0
noncomputable def s0 (k:Nat) (a1:Arg):(Int)->Option Out:=fun aX=>D.L k [1,1,0,1,0,0] [14,15,16] [] (af 0 (ao (D.N k [1,1,1]) D.K0)) (T0 a1 aX)
noncomputable def r0 (k:Nat) (a1:Arg):(Int)->Option Out:=ak (fun w v=>B0 k w (Q0 k a1) a1 v) k
theorem au (k:Nat) (a1:Arg):s0 k a1=r0 k a1:=
 funext fun aX=>an _ _ _ (T0 a1) _ (fun rec v=>by kernel_rfl) k aX
noncomputable def p (l0:(Int)->Option Out) (a1:Arg):Option Out:=(iM.ab (a1.1,())).bind fun r2=>bif decide ((16000:Int) < r2.1) then (some ((2:Int),())) else l0 (0:Int)
theorem aa (k:Nat) (a1:Arg):@Eq (Option Out) (D.W k a1) (p (r0 k a1) a1):=
 Eq.trans (b:=p (s0 k a1) a1) (by kernel_rfl) (by rw[au])
theorem ok:Ok prog 60 D.sig:=aq func60 aB (by kernel_rfl) (fc iM.ok (fc fi.ok (al _)))
end c_
namespace eE
abbrev Arg:Type:=(List UInt8)×Unit
abbrev Out:Type:=Int×Unit
abbrev ps:PQ:=[(.ro,(.U u8))]
noncomputable def D:FD:={ fn:=f127,tl:=aL,ps:=ps,rs:=[(i64,(ax i64))] }
noncomputable def ab (a:Arg):Option Out:=@lift Out fun k=>D.W k a
noncomputable def p (a1:Arg):Option Out:=(a1.1[0]?).bind fun x2=>some (ae (x2.toNat:Int),())
theorem aa (k:Nat) (a1:Arg):@Eq (Option Out) (D.W k a1) (p a1):=by kernel_rfl
theorem ok:Ok prog 127 D.sig:=aq func127 aB (by kernel_rfl) (al _)
end eE
namespace iN
abbrev Arg:Type:=(List UInt8)×Int×Unit
abbrev Out:Type:=Int×Int×Unit
abbrev ps:PQ:=[(.ro,(.U u8)),(.ro,i64)]
noncomputable def D:FD:={ fn:=f197,tl:=aL,ps:=ps,rs:=[(i64,(ax i64)),(i64,(ax i64))],od:=[(1,[0,1,2,3,4,5,6,7,8,9,10,11,12,13,14,15])] }
noncomputable def ab (a:Arg):Option Out:=@lift Out fun k=>D.W k a
noncomputable def p (a1:Arg):Option Out:=if 0<=ae ((2:Int)+(ae ((2:Int)*a1.2.1))) then ((a1.1[(ae ((2:Int)+(ae ((2:Int)*a1.2.1)))).toNat]?).bind fun x2=>if 0<=ae ((3:Int)+(ae ((2:Int)*a1.2.1))) then ((a1.1[(ae ((3:Int)+(ae ((2:Int)*a1.2.1)))).toNat]?).bind fun x3=>some (ae (x2.toNat:Int),ae (x3.toNat:Int),())) else none) else none
theorem aa (k:Nat) (a1:Arg):@Eq (Option Out) (D.W k a1) (p a1):=by kernel_rfl
theorem ok:Ok prog 197 D.sig:=aq func197 aB (by kernel_rfl) (al _)
end iN
namespace aI
abbrev Arg:Type:=(List UInt8)×Unit
abbrev Out:Type:=Int×Unit
abbrev ps:PQ:=[(.ro,(.U u8))]
noncomputable def D:FD:={ fn:=f126,tl:=aL,ps:=ps,rs:=[(i64,(ax i64))],gl:=[(127,eE.D.sig),(197,iN.D.sig)],lv:=[(7,[0,3,4,35,36]),(15,[0,3,8,66,67]),(19,[0,3,8,10,11,12,66,67])],lx:=[(0,[0,3]),(2,[0,3]),(4,[0,3,8,66,67])],od:=[(3,[0,2,3,4,5,1,6,7])] }
noncomputable def ab (a:Arg):Option Out:=@lift Out fun k=>D.W k a
noncomputable def T0 (a1:Arg) (eW:Int) (bD:Int) (ic:Int):St:={ n:=101,sl:=[(0,.val (.U u8) a1.1),(3,.val i64 eW),(4,.val i64 bD),(35,.val i64 eW),(36,.val i64 ic)],vr:=[],av:=[] }
noncomputable def S0 (rec:RT Out) (a1:Arg) (eW:Int) (bD:Int):(Int)->Option Out:=fun ic=>rec (T0 a1 eW bD ic)
noncomputable def bn (K:KT Out) (a1:Arg) (eW:Int) (bD:Int):(Unit)->Option Out:=fun z=>K (.exit 0) ({ n:=101,sl:=[(0,.val (.U u8) a1.1),(3,.val i64 eW)],vr:=[],av:=[] })
noncomputable def b0 (self:Int->Option Out) (e0:(Unit)->Option Out) (a1:Arg) (eW:Int) (bD:Int) (ic:Int):Option Out:=bif decide (ic < eW) then ((iN.ab (a1.1,ic,())).bind fun iU=>bif !((decide (iU.1=(0:Int))) == (decide (iU.2.1=(0:Int)))) then (some ((3:Int),())) else bif !decide (iU.1=(0:Int)) then (bif decide (iU.1 < bD) then (some ((3:Int),())) else bif decide ((64:Int) < ae (iU.1+iU.2.1)) then (some ((3:Int),())) else self (ae (ic+(1:Int)))) else bif decide ((64:Int) < ae (iU.1+iU.2.1)) then (some ((3:Int),())) else self (ae (ic+(1:Int)))) else e0 ()
noncomputable abbrev B0 (_:Nat):=b0
theorem fX (k:Nat) (rec:RT Out) (K:KT Out) (a1:Arg) (eW:Int) (bD:Int) (ic:Int):D.N k [1,1,1,1,0,1,0,0] (T0 a1 eW bD ic) (dj rec (b9 [0,3,4,35,36] []) K)=b0 (S0 rec a1 eW bD) (bn K a1 eW bD) a1 eW bD ic:=by kernel_rfl
noncomputable def T1 (a1:Arg) (bY:(List UInt8)×Int×(List Bool)×Int×Int):St:={ n:=101,sl:=[(0,.val (.U u8) bY.1),(3,.val i64 bY.2.1),(8,.box (.arr 64 .bool) (ax (.arr 64 .bool)) [] bY.2.2.1),(66,.val i64 bY.2.2.2.1),(67,.val i64 bY.2.2.2.2)],vr:=[],av:=[] }
noncomputable def S1 (rec:RT Out) (a1:Arg):((List UInt8)×Int×(List Bool)×Int×Int)->Option Out:=fun bY=>rec (T1 a1 bY)
noncomputable def dy (K:KT Out) (a1:Arg):((List UInt8)×Int)->Option Out:=fun z=>K (.exit 2) ({ n:=101,sl:=[(0,.val (.U u8) z.1),(3,.val i64 z.2)],vr:=[],av:=[] })
noncomputable def T2 (a1:Arg) (ct:List UInt8) (bA:Int) (iq:Int) (ir:Int) (it:Int) (iu:Int) (eY:(List Bool)×Int):St:={ n:=101,sl:=[(0,.val (.U u8) ct),(3,.val i64 bA),(8,.box (.arr 64 .bool) (ax (.arr 64 .bool)) [] eY.1),(10,.val i64 iq),(11,.val i64 ir),(12,.val i64 eY.2),(66,.val i64 it),(67,.val i64 iu)],vr:=[],av:=[] }
noncomputable def b2 (self:((List Bool)×Int)->Option Out) (e4:(List Bool)->Option Out) (a1:Arg) (ct:List UInt8) (bA:Int) (iq:Int) (ir:Int) (it:Int) (iu:Int) (eY:(List Bool)×Int):Option Out:=bif decide (eY.2 < ae (iq+ir)) then (if 0<=eY.2/\eY.2 < (eY.1.length:Int) then ((eY.1[eY.2.toNat]?).bind fun Pb=>bif Pb then (some ((8:Int),())) else if 0<=eY.2/\eY.2 < (eY.1.length:Int) then ((eY.1[eY.2.toNat]?).bind fun GB=>self (eY.1.set eY.2.toNat true,ae (eY.2+(1:Int)))) else none) else none) else e4 eY.1
noncomputable abbrev B2 (_:Nat):=b2
noncomputable def q1 (self:((List UInt8)×Int×(List Bool)×Int×Int)->Option Out) (e2:((List UInt8)×Int)->Option Out) (a1:Arg) (ct:List UInt8) (bA:Int) (iq:Int) (ir:Int) (it:Int) (iu:Int) (GC:(List Bool)):Option Out:=self (ct,bA,GC,it,ae (iu+(1:Int)))
noncomputable abbrev Q1 (_:Nat):=q1
noncomputable def s2 (k:Nat) (rec:RT Out) (K:KT Out) (a1:Arg):(List UInt8)->Int->Int->Int->Int->Int->((List Bool)×Int)->Option Out:=fun ct bA iq ir it iu=>fun eY=>D.L k [1,1,1,1,1,1,0,1,0,0,1,1,0,0,1,1,1,0,0] [0,3,8,10,11,12,66,67] [] (af 4 (af 3 (ao (D.N k [1,1,1,1,1,1,0,1,0,0,1,1,1]) (dj rec (b9 [0,3,8,66,67] []) K)))) (T2 a1 ct bA iq ir it iu eY)
noncomputable def r2 (k:Nat) (self:((List UInt8)×Int×(List Bool)×Int×Int)->Option Out) (e2:((List UInt8)×Int)->Option Out) (a1:Arg):(List UInt8)->Int->Int->Int->Int->Int->((List Bool)×Int)->Option Out:=fun ct bA iq ir it iu=>ak (fun w v=>B2 k w (Q1 k self e2 a1 ct bA iq ir it iu) a1 ct bA iq ir it iu v) k
theorem kR (k:Nat) (rec:RT Out) (K:KT Out) (a1:Arg):s2 k rec K a1=r2 k (S1 rec a1) (dy K a1) a1:=
 funext fun ct=>funext fun bA=>funext fun iq=>funext fun ir=>funext fun it=>funext fun iu=>funext fun eY=>an _ _ _ (T2 a1 ct bA iq ir it iu) _ (fun rec v=>by kernel_rfl) k eY
noncomputable def b1 (self:((List UInt8)×Int×(List Bool)×Int×Int)->Option Out) (e2:((List UInt8)×Int)->Option Out) (l2:(List UInt8)->Int->Int->Int->Int->Int->((List Bool)×Int)->Option Out) (a1:Arg) (bY:(List UInt8)×Int×(List Bool)×Int×Int):Option Out:=bif decide (bY.2.2.2.2 < bY.2.2.2.1) then ((iN.ab (bY.1,bY.2.2.2.2,())).bind fun qu=>l2 bY.1 bY.2.1 qu.1 qu.2.1 bY.2.2.2.1 bY.2.2.2.2 (bY.2.2.1,qu.1)) else e2 (bY.1,bY.2.1)
noncomputable def B1 (k:Nat) (self:((List UInt8)×Int×(List Bool)×Int×Int)->Option Out) (e2:((List UInt8)×Int)->Option Out) (a1:Arg) (bY:(List UInt8)×Int×(List Bool)×Int×Int):Option Out:=b1 self e2 (r2 k self e2 a1) a1 bY
theorem lX (k:Nat) (rec:RT Out) (K:KT Out) (a1:Arg) (bY:(List UInt8)×Int×(List Bool)×Int×Int):D.N k [1,1,1,1,1,1,0,1,0,0] (T1 a1 bY) (dj rec (b9 [0,3,8,66,67] []) K)=B1 k (S1 rec a1) (dy K a1) a1 bY:=
 Eq.trans (b:=b1 (S1 rec a1) (dy K a1) (s2 k rec K a1) a1 bY) (by kernel_rfl) (by rw[kR];rfl)
noncomputable def q2 (a1:Arg) (nM:((List UInt8)×Int)):Option Out:=bif decide ((0:Int) < nM.2) then (if 0<=ae ((ae ((2:Int)*nM.2))+(1:Int)) then ((nM.1[(ae ((ae ((2:Int)*nM.2))+(1:Int))).toNat]?).bind fun Pc=>bif decide ((Pc.toNat:Int)=(0:Int)) then (some ((8:Int),())) else some ((0:Int),())) else none) else some ((0:Int),())
noncomputable abbrev Q2 (_:Nat):=q2
theorem nq (k:Nat) (a1:Arg) (nM:((List UInt8)×Int)):dy (af 2 (ao (D.N k [1,1,1,1,1,1,1]) D.K0)) a1 nM=q2 a1 nM:=by kernel_rfl
noncomputable def s1 (k:Nat) (a1:Arg) (eW:Int) (bD:Int):((List UInt8)×Int×(List Bool)×Int×Int)->Option Out:=fun bY=>D.L k [1,1,1,1,1,1,0,1,0,0] [0,3,8,66,67] [] (af 2 (ao (D.N k [1,1,1,1,1,1,1]) D.K0)) (T1 a1 bY)
noncomputable def r1 (k:Nat) (a1:Arg) (eW:Int) (bD:Int):((List UInt8)×Int×(List Bool)×Int×Int)->Option Out:=ak (fun w v=>B1 k w (Q2 k a1) a1 v) k
theorem fY (k:Nat) (a1:Arg) (eW:Int) (bD:Int):s1 k a1 eW bD=r1 k a1 eW bD:=by
 funext bY;
 have Y:dy (af 2 (ao (D.N k [1,1,1,1,1,1,1]) D.K0)) a1=Q2 k a1:=funext fun z=>nq k a1 z
 refine (an _ _ _ (T1 a1) (fun self v=>B1 k self (dy (af 2 (ao (D.N k [1,1,1,1,1,1,1]) D.K0)) a1) a1 v) (fun rec v=>lX k rec (af 2 (ao (D.N k [1,1,1,1,1,1,1]) D.K0)) a1 v) k bY).trans ?_
 rw[Y]
 rfl
noncomputable def q0 (l1:((List UInt8)×Int×(List Bool)×Int×Int)->Option Out) (a1:Arg) (eW:Int) (bD:Int) (lk:(Unit)):Option Out:=l1 (a1.1,eW,List.replicate 64 false,eW,(0:Int))
noncomputable def Q0 (k:Nat) (a1:Arg) (eW:Int) (bD:Int) (lk:(Unit)):Option Out:=q0 (r1 k a1 eW bD) a1 eW bD lk
theorem kS (k:Nat) (a1:Arg) (eW:Int) (bD:Int) (lk:(Unit)):bn (af 0 (ao (D.N k [1,1,1,1,1]) D.K0)) a1 eW bD lk=Q0 k a1 eW bD lk:=
 Eq.trans (b:=q0 (s1 k a1 eW bD) a1 eW bD lk) (by kernel_rfl) (by rw[fY];rfl)
noncomputable def s0 (k:Nat) (a1:Arg):Int->Int->(Int)->Option Out:=fun eW bD=>fun ic=>D.L k [1,1,1,1,0,1,0,0] [0,3,4,35,36] [] (af 0 (ao (D.N k [1,1,1,1,1]) D.K0)) (T0 a1 eW bD ic)
noncomputable def r0 (k:Nat) (a1:Arg):Int->Int->(Int)->Option Out:=fun eW bD=>ak (fun w v=>B0 k w (Q0 k a1 eW bD) a1 eW bD v) k
theorem au (k:Nat) (a1:Arg):s0 k a1=r0 k a1:=by
 funext eW;funext bD;funext ic;
 have h0:bn (af 0 (ao (D.N k [1,1,1,1,1]) D.K0)) a1 eW bD=Q0 k a1 eW bD:=funext fun z=>kS k a1 eW bD z
 refine (an _ _ _ (T0 a1 eW bD) (fun self v=>B0 k self (bn (af 0 (ao (D.N k [1,1,1,1,1]) D.K0)) a1 eW bD) a1 eW bD v) (fun rec v=>fX k rec (af 0 (ao (D.N k [1,1,1,1,1]) D.K0)) a1 eW bD v) k ic).trans ?_
 rw[h0]
 rfl
noncomputable def p (l0:Int->Int->(Int)->Option Out) (a1:Arg):Option Out:=bif !decide ((a1.1.length:Int)=(64:Int)) then (some ((1:Int),())) else (a1.1[1]?).bind fun x2=>(eE.ab (a1.1,())).bind fun r3=>bif decide ((16:Int) < r3.1) then (some ((3:Int),())) else bif decide (ae (x2.toNat:Int) < ae ((2:Int)+(ae ((2:Int)*r3.1)))) then (some ((3:Int),())) else bif decide ((64:Int) < ae (x2.toNat:Int)) then (some ((3:Int),())) else l0 r3.1 (ae (x2.toNat:Int)) (0:Int)
theorem aa (k:Nat) (a1:Arg):@Eq (Option Out) (D.W k a1) (p (r0 k a1) a1):=
 Eq.trans (b:=p (s0 k a1) a1) (by kernel_rfl) (by rw[au])
theorem ok:Ok prog 126 D.sig:=aq func126 aB (by kernel_rfl) (fc eE.ok (fc iN.ok (al _)))
end aI
namespace gk
abbrev Arg:Type:=(List UInt8)×Int×Unit
abbrev Out:Type:=Bool×Unit
abbrev ps:PQ:=[(.ro,(.U u8)),(.ro,i64)]
noncomputable def D:FD:={ fn:=f128,tl:=aL,ps:=ps,rs:=[(.bool,(ax .bool))],gl:=[(127,eE.D.sig)] }
noncomputable def ab (a:Arg):Option Out:=@lift Out fun k=>D.W k a
noncomputable def p (a1:Arg):Option Out:=bif decide ((0:Int)<=a1.2.1) then ((eE.ab (a1.1,())).bind fun r2=>bif decide (a1.2.1 < r2.1) then (if 0<=ae ((3:Int)+(ae ((2:Int)*a1.2.1))) then ((a1.1[(ae ((3:Int)+(ae ((2:Int)*a1.2.1)))).toNat]?).bind fun x3=>some (!decide ((x3.toNat:Int)=(0:Int)),())) else none) else some (false,())) else some (false,())
theorem aa (k:Nat) (a1:Arg):@Eq (Option Out) (D.W k a1) (p a1):=by kernel_rfl
theorem ok:Ok prog 128 D.sig:=aq func128 aB (by kernel_rfl) (fc eE.ok (al _))
end gk
namespace bq
abbrev Arg:Type:=Row×Unit
abbrev Out:Type:=Int×Unit
abbrev ps:PQ:=[(.ro,aA)]
noncomputable def D:FD:={ fn:=f198,tl:=aL,ps:=ps,rs:=[(i64,(ax i64))],gl:=[(61,cq.D.sig)],lv:=[(6,[1,26,27])],lx:=[(0,[])] }
noncomputable def ab (a:Arg):Option Out:=@lift Out fun k=>D.W k a
noncomputable def T0 (a1:Arg) (cy:Int):St:={ n:=43,sl:=[(1,.box aA (ax aA) [] a1.1),(26,.val i64 (a1.1.2.2.2.1.length:Int)),(27,.val i64 cy)],vr:=[],av:=[] }
noncomputable def b0 (self:Int->Option Out) (e0:(Unit)->Option Out) (a1:Arg) (cy:Int):Option Out:=bif decide (cy < (a1.1.2.2.2.1.length:Int)) then (if 0<=cy then ((a1.1.2.2.2.1[cy.toNat]?).bind fun nY=>bif decide ((nY.toNat:Int) < (97:Int)) then (some ((5:Int),())) else if 0<=cy then ((a1.1.2.2.2.1[cy.toNat]?).bind fun ll=>bif decide ((122:Int) < (ll.toNat:Int)) then (some ((5:Int),())) else self (ae (cy+(1:Int)))) else none) else none) else e0 ()
noncomputable abbrev B0 (_:Nat):=b0
noncomputable def q0 (a1:Arg) (lk:(Unit)):Option Out:=some ((0:Int),())
noncomputable abbrev Q0 (_:Nat):=q0
noncomputable def s0 (k:Nat) (a1:Arg):(Int)->Option Out:=fun cy=>D.L k [1,1,1,0,1,0,0] [1,26,27] [] (af 0 (ao (D.N k [1,1,1,1]) D.K0)) (T0 a1 cy)
noncomputable def r0 (k:Nat) (a1:Arg):(Int)->Option Out:=ak (fun w v=>B0 k w (Q0 k a1) a1 v) k
theorem au (k:Nat) (a1:Arg):s0 k a1=r0 k a1:=
 funext fun cy=>an _ _ _ (T0 a1) _ (fun rec v=>by kernel_rfl) k cy
noncomputable def p (l0:(Int)->Option Out) (a1:Arg):Option Out:=(cq.ab (a1.1.1,(0:Int),(3:Int),())).bind fun r2=>bif !r2.1 then (some ((3:Int),())) else (cq.ab (a1.1.2.1,(1:Int),(99:Int),())).bind fun r3=>bif !r3.1 then (some ((3:Int),())) else (cq.ab (a1.1.2.2.1,(0:Int),(999:Int),())).bind fun r4=>bif !r4.1 then (some ((3:Int),())) else bif decide ((8:Int) < (a1.1.2.2.2.1.length:Int)) then (some ((5:Int),())) else l0 (0:Int)
theorem aa (k:Nat) (a1:Arg):@Eq (Option Out) (D.W k a1) (p (r0 k a1) a1):=
 Eq.trans (b:=p (s0 k a1) a1) (by kernel_rfl) (by rw[au])
theorem ok:Ok prog 198 D.sig:=aq func198 aB (by kernel_rfl) (fc cq.ok (al _))
end bq
namespace dU
abbrev Arg:Type:=(List UInt8)×Unit
abbrev Out:Type:=kP×Unit
abbrev ps:PQ:=[(.ro,(.U u8))]
noncomputable def D:FD:={ fn:=f129,tl:=aL,ps:=ps,rs:=[(j6,(ax j6))],gl:=[(198,bq.D.sig)],od:=[(2,[0,1,2,3,4,5,6,7,8,9]),(5,[0,1,2,3,4,5,6,7,8,9,10,11,12,13,14,15,16,17,18,19,20,21,22,23]),(8,[0,1,2,3,4,5,6])] }
noncomputable def ab (a:Arg):Option Out:=@lift Out fun k=>D.W k a
noncomputable def p (a1:Arg):Option Out:=let LK:Option Out:=let Qs:Option Out:=(a1.1[1]?).bind fun Qt=>(a1.1[2]?).bind fun Qu=>(a1.1[3]?).bind fun Td=>(a1.1[4]?).bind fun Te=>if 0<=(6:Int)/\(6:Int)<=(a1.1.length:Int) then (let Qv:=ae ((BitVec.ofInt 64 (ae ((ae (Td.toNat:Int))*2 ^ 8)) ||| BitVec.ofInt 64 (ae (Te.toNat:Int))).toNat:Int);(bq.ab ((ae (Qt.toNat:Int),ae (Qu.toNat:Int),Qv,(a1.1.take a1.1.length).drop 6,()),())).bind fun Tf=>bif !decide (Tf.1=(0:Int)) then (some (((5:Int),(0:Int),(0:Int),(0:Int),((0:Int),(0:Int),(0:Int),([]:List UInt8),()),()),())) else (a1.1[0]?).bind fun Tg=>some (((0:Int),ae (Tg.toNat:Int),(0:Int),(0:Int),(ae (Qt.toNat:Int),ae (Qu.toNat:Int),Qv,(a1.1.take a1.1.length).drop 6,()),()),())) else none;bif decide ((a1.1.length:Int) < (6:Int)) then (some (((5:Int),(0:Int),(0:Int),(0:Int),((0:Int),(0:Int),(0:Int),([]:List UInt8),()),()),())) else (a1.1[0]?).bind fun N6=>bif !decide ((N6.toNat:Int)=(0:Int)) then ((a1.1[0]?).bind fun N7=>bif !decide ((N7.toNat:Int)=(2:Int)) then (some (((5:Int),(0:Int),(0:Int),(0:Int),((0:Int),(0:Int),(0:Int),([]:List UInt8),()),()),())) else (a1.1[5]?).bind fun Th=>bif !decide ((a1.1.length:Int)=ae ((6:Int)+(ae (Th.toNat:Int)))) then (some (((5:Int),(0:Int),(0:Int),(0:Int),((0:Int),(0:Int),(0:Int),([]:List UInt8),()),()),())) else Qs) else (a1.1[5]?).bind fun Ti=>bif !decide ((a1.1.length:Int)=ae ((6:Int)+(ae (Ti.toNat:Int)))) then (some (((5:Int),(0:Int),(0:Int),(0:Int),((0:Int),(0:Int),(0:Int),([]:List UInt8),()),()),())) else Qs;bif decide ((a1.1.length:Int)=(3:Int)) then ((a1.1[0]?).bind fun x2=>bif decide ((x2.toNat:Int)=(1:Int)) then ((a1.1[1]?).bind fun x3=>bif decide ((x3.toNat:Int) < (12:Int)) then ((a1.1[2]?).bind fun x4=>bif decide ((x4.toNat:Int) < (16:Int)) then ((a1.1[1]?).bind fun x5=>(a1.1[2]?).bind fun x6=>some (((0:Int),(1:Int),ae (x5.toNat:Int),ae (x6.toNat:Int),((0:Int),(0:Int),(0:Int),([]:List UInt8),()),()),())) else LK) else LK) else LK) else LK
theorem aa (k:Nat) (a1:Arg):@Eq (Option Out) (D.W k a1) (p a1):=by kernel_rfl
theorem ok:Ok prog 129 D.sig:=aq func129 aB (by kernel_rfl) (fc bq.ok (al _))
end dU
namespace gI
abbrev Arg:Type:=(List UInt8)×Int×Unit
abbrev Out:Type:=(List UInt8)×Unit
abbrev ps:PQ:=[(.ro,(.U u8)),(.ro,i64)]
noncomputable def D:FD:={ fn:=f130,tl:=aL,ps:=ps,rs:=[((.U u8),(ax (.U u8)))],gl:=[(197,iN.D.sig)] }
noncomputable def ab (a:Arg):Option Out:=@lift Out fun k=>D.W k a
noncomputable def p (a1:Arg):Option Out:=(iN.ab (a1.1,a1.2.1,())).bind fun r2=>if 0<=r2.1/\r2.1<=ae (r2.1+r2.2.1)/\ae (r2.1+r2.2.1)<=(a1.1.length:Int) then (some ((a1.1.take (ae (r2.1+r2.2.1)).toNat).drop r2.1.toNat,())) else none
theorem aa (k:Nat) (a1:Arg):@Eq (Option Out) (D.W k a1) (p a1):=by kernel_rfl
theorem ok:Ok prog 130 D.sig:=aq func130 aB (by kernel_rfl) (fc iN.ok (al _))
end gI
namespace dB
abbrev Arg:Type:=Row×Row×Unit
abbrev Out:Type:=Bool×Unit
abbrev ps:PQ:=[(.ro,aA),(.ro,aA)]
noncomputable def D:FD:={ fn:=f202,tl:=aL,ps:=ps,rs:=[(.bool,(ax .bool))] }
noncomputable def ab (a:Arg):Option Out:=@lift Out fun k=>D.W k a
noncomputable def p (a1:Arg):Option Out:=bif decide (a1.1.1 < a1.2.1.1) then (some (true,())) else bif decide (a1.1.1=a1.2.1.1) then (some (decide (a1.1.2.1 < a1.2.1.2.1),())) else some (false,())
theorem aa (k:Nat) (a1:Arg):@Eq (Option Out) (D.W k a1) (p a1):=by kernel_rfl
theorem ok:Ok prog 202 D.sig:=aq func202 aB (by kernel_rfl) (al _)
end dB
namespace eZ
abbrev Arg:Type:=Row×Row×Unit
abbrev Out:Type:=Int×Unit
abbrev ps:PQ:=[(.ro,aA),(.ro,aA)]
noncomputable def D:FD:={ fn:=f201,tl:=aL,ps:=ps,rs:=[(i64,(ax i64))],gl:=[(202,dB.D.sig)] }
noncomputable def ab (a:Arg):Option Out:=@lift Out fun k=>D.W k a
noncomputable def p (a1:Arg):Option Out:=(dB.ab (a1.1,a1.2.1,())).bind fun r2=>bif r2.1 then (some ((-1:Int),())) else (dB.ab (a1.2.1,a1.1,())).bind fun r3=>bif r3.1 then (some ((1:Int),())) else some ((0:Int),())
theorem aa (k:Nat) (a1:Arg):@Eq (Option Out) (D.W k a1) (p a1):=by kernel_rfl
theorem ok:Ok prog 201 D.sig:=aq func201 aB (by kernel_rfl) (fc dB.ok (al _))
end eZ
namespace ij
abbrev Arg:Type:=Seen×Seen×Unit
abbrev Out:Type:=Int×Unit
abbrev ps:PQ:=[(.ro,cP),(.ro,cP)]
noncomputable def D:FD:={ fn:=f200,tl:=aL,ps:=ps,rs:=[(i64,(ax i64))],gl:=[(201,eZ.D.sig)] }
noncomputable def ab (a:Arg):Option Out:=@lift Out fun k=>D.W k a
noncomputable def p (a1:Arg):Option Out:=(eZ.ab (a1.1.1,a1.2.1.1,())).bind fun r2=>some (r2.1,())
theorem aa (k:Nat) (a1:Arg):@Eq (Option Out) (D.W k a1) (p a1):=by kernel_rfl
theorem ok:Ok prog 200 D.sig:=aq func200 aB (by kernel_rfl) (fc eZ.ok (al _))
end ij
namespace iv
open Go.Proofs
abbrev Arg:Type:=(List Seen)×(Nat×Int)×Unit
abbrev Out:Type:=(List Seen)×Unit
noncomputable def ab (a:Arg):Option Out:=(pB cP ij.ab a.1).map fun r=>(r,())
noncomputable def sig:mH:={ ps:=[(.eU (am (.U cP)),.U cP),(.fix 200,.fn)],rs:=[],F:=ab }
def DX:Go.Shelf.Ren:=⟨fun | 6=>199 | 15=>266 | 14=>265 | 28=>308 | 29=>309 | 20=>300 | 21=>301 | 22=>302 | 23=>303 | 24=>304 | 25=>305 | 26=>306 | 27=>307 | 46=>314 | 47=>315 | 48=>316 | 49=>317 | 50=>318 | 57=>320 | n=>n,fun | 22=>104 | 24=>187 | 25=>266 | 3=>3 | 39=>258 | 0=>0 | 53=>355 | 55=>357 | 4=>4 | 46=>349 | 45=>348 | 50=>336 | 5=>5 | 9=>9 | 66=>362 | 70=>366 | 76=>368 | 77=>255 | n=>n,fun | n=>n⟩
theorem Mw:Go.Proofs.SlLaysF0.n6 Tryz.prog DX:={
 mixed:=by kernel_rfl
 f6:=⟨Tryz.f199.name,by decide,Tryz.func199.trans (congrArg some (by kernel_rfl))⟩
 f14:=⟨Tryz.f265.name,by decide,Tryz.func265.trans (congrArg some (by kernel_rfl))⟩
 f15:=Tryz.func266.trans (congrArg some (by kernel_rfl))
 f20:=⟨Tryz.f300.name,by decide,Tryz.func300.trans (congrArg some (by kernel_rfl))⟩
 f21:=⟨Tryz.f301.name,by decide,Tryz.func301.trans (congrArg some (by kernel_rfl))⟩
 f22:=⟨Tryz.f302.name,by decide,Tryz.func302.trans (congrArg some (by kernel_rfl))⟩
 f23:=⟨Tryz.f303.name,by decide,Tryz.func303.trans (congrArg some (by kernel_rfl))⟩
 f24:=⟨Tryz.f304.name,by decide,Tryz.func304.trans (congrArg some (by kernel_rfl))⟩
 f25:=⟨Tryz.f305.name,by decide,Tryz.func305.trans (congrArg some (by kernel_rfl))⟩
 f26:=⟨Tryz.f306.name,by decide,Tryz.func306.trans (congrArg some (by kernel_rfl))⟩
 f27:=⟨Tryz.f307.name,by decide,Tryz.func307.trans (congrArg some (by kernel_rfl))⟩
 f28:=Tryz.func308.trans (congrArg some (by kernel_rfl))
 f29:=Tryz.func309.trans (congrArg some (by kernel_rfl))
 f46:=⟨Tryz.f314.name,by decide,Tryz.func314.trans (congrArg some (by kernel_rfl))⟩
 f47:=Tryz.func315.trans (congrArg some (by kernel_rfl))
 f48:=Tryz.func316.trans (congrArg some (by kernel_rfl))
 f49:=⟨Tryz.f317.name,by decide,Tryz.func317.trans (congrArg some (by kernel_rfl))⟩
 f50:=⟨Tryz.f318.name,by decide,Tryz.func318.trans (congrArg some (by kernel_rfl))⟩
 f57:=⟨Tryz.f320.name,by decide,Tryz.func320.trans (congrArg some (by kernel_rfl))⟩
 t0:=Tryz.underlying0
 a0:=Tryz.isAgg0
 z0:=Tryz.sizeOf0
 v0:=Tryz.zeroValue0
 t3:=Tryz.underlying3
 a3:=Tryz.isAgg3
 z3:=Tryz.sizeOf3
 v3:=Tryz.zeroValue3
 t4:=Tryz.underlying4
 a4:=Tryz.isAgg4
 z4:=Tryz.sizeOf4
 v4:=Tryz.zeroValue4
 t5:=Tryz.underlying5
 a5:=Tryz.isAgg5
 z5:=Tryz.sizeOf5
 v5:=Tryz.zeroValue5
 t9:=Tryz.underlying9
 a9:=Tryz.isAgg9
 z9:=Tryz.sizeOf9
 v9:=Tryz.zeroValue9
 t22:=Tryz.underlying104
 a22:=Tryz.isAgg104
 z22:=Tryz.sizeOf104
 v22:=Tryz.zeroValue104
 t25:=Tryz.underlying266
 a25:=Tryz.isAgg266
 z25:=Tryz.sizeOf266
 v25:=Tryz.zeroValue266
 t39:=Tryz.underlying258
 a39:=Tryz.isAgg258
 z39:=Tryz.sizeOf258
 v39:=Tryz.zeroValue258
 t45:=Tryz.underlying348
 a45:=Tryz.isAgg348
 z45:=Tryz.sizeOf348
 v45:=Tryz.zeroValue348
 t46:=Tryz.underlying349
 a46:=Tryz.isAgg349
 z46:=Tryz.sizeOf349
 v46:=Tryz.zeroValue349
 t50:=Tryz.underlying336
 a50:=Tryz.isAgg336
 z50:=Tryz.sizeOf336
 v50:=Tryz.zeroValue336
 t53:=Tryz.underlying355
 a53:=Tryz.isAgg355
 z53:=Tryz.sizeOf355
 v53:=Tryz.zeroValue355
 t55:=Tryz.underlying357
 a55:=Tryz.isAgg357
 z55:=Tryz.sizeOf357
 v55:=Tryz.zeroValue357
 t66:=Tryz.underlying362
 a66:=Tryz.isAgg362
 z66:=Tryz.sizeOf362
 v66:=Tryz.zeroValue362
 t70:=Tryz.underlying366
 a70:=Tryz.isAgg366
 z70:=Tryz.sizeOf366
 v70:=Tryz.zeroValue366
 t76:=Tryz.underlying368
 a76:=Tryz.isAgg368
 z76:=Tryz.sizeOf368
 v76:=Tryz.zeroValue368
 t77:=Tryz.underlying255
 a77:=Tryz.isAgg255
 z77:=Tryz.sizeOf255
 v77:=Tryz.zeroValue255 }
theorem ok:Ok prog 199 sig:=Mu (e:=cP) Mw rfl rfl (by kernel_rfl) (by decide) (g:=200) (cF:=ij.ab) ij.ok ⟨f199,func199,by kernel_rfl,by kernel_rfl,by kernel_rfl⟩
end iv
namespace aH
abbrev Arg:Type:=(List (List UInt8))×Unit
abbrev Out:Type:=(List Seen)×Int×Unit
abbrev ps:PQ:=[(.ro,(.U (.U u8)))]
noncomputable def D:FD:={ fn:=f131,tl:=aL,ps:=ps,rs:=[((.U cP),(am (.U cP))),(i64,(ax i64))],gl:=[(127,eE.D.sig),(128,gk.D.sig),(129,dU.D.sig),(130,gI.D.sig),(199,iv.sig),(202,dB.D.sig)],lv:=[(4,[4,5,6,21,22,23]),(7,[4,5,6,7,8,21,22,23,29,30]),(21,[4,5,6,81,82,83]),(29,[4,5,6,15,101,102,103]),(40,[4,19])],lx:=[(0,[4,5,6]),(2,[4,5,6,21,22,23]),(3,[4,5,6,7,8,21,22,23,29,30]),(5,[4,5,6]),(7,[4]),(9,[4])],od:=[(42,[0,1,2,3,4,5,6,7,8,9,10,11,12])] }
noncomputable def ab (a:Arg):Option Out:=@lift Out fun k=>D.W k a
noncomputable def T0 (a1:Arg) (J:(List Seen)×(List Seen)×(List ((List Int)×Row))×(List (List UInt8))×Int×Int):St:={ n:=148,sl:=[(4,.own (.U cP) (am (.U cP)) [] J.1),(5,.own (.U cP) (am (.U cP)) [] J.2.1),(6,.own (.map (.arr 2 i64) aA) (am (.map (.arr 2 i64) aA)) [] J.2.2.1),(21,.val (.U (.U u8)) J.2.2.2.1),(22,.val i64 J.2.2.2.2.1),(23,.val i64 J.2.2.2.2.2)],vr:=[],av:=[] }
noncomputable def S0 (rec:RT Out) (a1:Arg):((List Seen)×(List Seen)×(List ((List Int)×Row))×(List (List UInt8))×Int×Int)->Option Out:=fun J=>rec (T0 a1 J)
noncomputable def bn (K:KT Out) (a1:Arg):((List Seen)×(List Seen)×(List ((List Int)×Row)))->Option Out:=fun z=>K (.exit 0) ({ n:=148,sl:=[(4,.own (.U cP) (am (.U cP)) [] z.1),(5,.own (.U cP) (am (.U cP)) [] z.2.1),(6,.own (.map (.arr 2 i64) aA) (am (.map (.arr 2 i64) aA)) [] z.2.2)],vr:=[],av:=[] })
noncomputable def T1 (a1:Arg) (eB:Int) (dp:List UInt8) (cS:List (List UInt8)) (bK:Int) (eD:Int) (b_:(List Seen)×(List Seen)×(List ((List Int)×Row))×Int):St:={ n:=148,sl:=[(4,.own (.U cP) (am (.U cP)) [] b_.1),(5,.own (.U cP) (am (.U cP)) [] b_.2.1),(6,.own (.map (.arr 2 i64) aA) (am (.map (.arr 2 i64) aA)) [] b_.2.2.1),(7,.val i64 eB),(8,.val (.U u8) dp),(21,.val (.U (.U u8)) cS),(22,.val i64 bK),(23,.val i64 eB),(29,.val i64 eD),(30,.val i64 b_.2.2.2)],vr:=[],av:=[] }
noncomputable def b1 (self:((List Seen)×(List Seen)×(List ((List Int)×Row))×Int)->Option Out) (e2:((List Seen)×(List Seen)×(List ((List Int)×Row)))->Option Out) (a1:Arg) (eB:Int) (dp:List UInt8) (cS:List (List UInt8)) (bK:Int) (eD:Int) (b_:(List Seen)×(List Seen)×(List ((List Int)×Row))×Int):Option Out:=bif decide (b_.2.2.2 < eD) then ((gk.ab (dp,b_.2.2.2,())).bind fun yy=>bif !yy.1 then (self (b_.1,b_.2.1,b_.2.2.1,ae (b_.2.2.2+(1:Int)))) else (gI.ab (dp,b_.2.2.2,())).bind fun Bd=>(dU.ab (Bd.1,())).bind fun mC=>bif !decide (mC.1.1=(0:Int)) then (some (([]:List Seen),(5:Int),())) else bif decide (mC.1.2.1=(0:Int)) then (if b_.1.length+[(mC.1.2.2.2.2.1,eB,b_.2.2.2,false,eB,b_.2.2.2,())].length<=bg then (let Pd:=b_.1++[(mC.1.2.2.2.2.1,eB,b_.2.2.2,false,eB,b_.2.2.2,())];self (Pd,b_.2.1,b_.2.2.1,ae (b_.2.2.2+(1:Int)))) else none) else bif decide (mC.1.2.1=(2:Int)) then (if 0 < (List.replicate 2 (0:Int)).length then (if 1 < ((List.replicate 2 (0:Int)).set 0 eB).length then (let Pe:=gG (.arr 2 i64) b_.2.2.1 (((List.replicate 2 (0:Int)).set 0 eB).set 1 b_.2.2.2) mC.1.2.2.2.2.1;self (b_.1,b_.2.1,Pe,ae (b_.2.2.2+(1:Int)))) else none) else none) else if b_.2.1.length+[(((0:Int),(0:Int),(0:Int),([]:List UInt8),()),eB,b_.2.2.2,true,mC.1.2.2.1,mC.1.2.2.2.1,())].length<=bg then (let Pf:=b_.2.1++[(((0:Int),(0:Int),(0:Int),([]:List UInt8),()),eB,b_.2.2.2,true,mC.1.2.2.1,mC.1.2.2.2.1,())];self (b_.1,Pf,b_.2.2.1,ae (b_.2.2.2+(1:Int)))) else none) else e2 (b_.1,b_.2.1,b_.2.2.1)
noncomputable abbrev B1 (_:Nat):=b1
noncomputable def q0 (self:((List Seen)×(List Seen)×(List ((List Int)×Row))×(List (List UInt8))×Int×Int)->Option Out) (e0:((List Seen)×(List Seen)×(List ((List Int)×Row)))->Option Out) (a1:Arg) (eB:Int) (dp:List UInt8) (cS:List (List UInt8)) (bK:Int) (eD:Int) (rY:((List Seen)×(List Seen)×(List ((List Int)×Row)))):Option Out:=self (rY.1,rY.2.1,rY.2.2,cS,bK,ae (eB+(1:Int)))
noncomputable abbrev Q0 (_:Nat):=q0
noncomputable def s1 (k:Nat) (rec:RT Out) (K:KT Out) (a1:Arg):Int->(List UInt8)->(List (List UInt8))->Int->Int->((List Seen)×(List Seen)×(List ((List Int)×Row))×Int)->Option Out:=fun eB dp cS bK eD=>fun b_=>D.L k [1,1,1,0,1,0,0,1,1,0,0,1,1,0,0] [4,5,6,7,8,21,22,23,29,30] [] (af 2 (af 1 (ao (D.N k [1,1,1,0,1,0,0,1,1,1]) (dj rec (b9 [4,5,6,21,22,23] []) K)))) (T1 a1 eB dp cS bK eD b_)
noncomputable def r1 (k:Nat) (self:((List Seen)×(List Seen)×(List ((List Int)×Row))×(List (List UInt8))×Int×Int)->Option Out) (e0:((List Seen)×(List Seen)×(List ((List Int)×Row)))->Option Out) (a1:Arg):Int->(List UInt8)->(List (List UInt8))->Int->Int->((List Seen)×(List Seen)×(List ((List Int)×Row))×Int)->Option Out:=fun eB dp cS bK eD=>ak (fun w v=>B1 k w (Q0 k self e0 a1 eB dp cS bK eD) a1 eB dp cS bK eD v) k
theorem fY (k:Nat) (rec:RT Out) (K:KT Out) (a1:Arg):s1 k rec K a1=r1 k (S0 rec a1) (bn K a1) a1:=
 funext fun eB=>funext fun dp=>funext fun cS=>funext fun bK=>funext fun eD=>funext fun b_=>an _ _ _ (T1 a1 eB dp cS bK eD) _ (fun rec v=>by kernel_rfl) k b_
noncomputable def b0 (self:((List Seen)×(List Seen)×(List ((List Int)×Row))×(List (List UInt8))×Int×Int)->Option Out) (e0:((List Seen)×(List Seen)×(List ((List Int)×Row)))->Option Out) (l1:Int->(List UInt8)->(List (List UInt8))->Int->Int->((List Seen)×(List Seen)×(List ((List Int)×Row))×Int)->Option Out) (a1:Arg) (J:(List Seen)×(List Seen)×(List ((List Int)×Row))×(List (List UInt8))×Int×Int):Option Out:=bif decide (J.2.2.2.2.2 < J.2.2.2.2.1) then (if 0<=J.2.2.2.2.2 then ((J.2.2.2.1[J.2.2.2.2.2.toNat]?).bind fun aC=>(eE.ab (aC,())).bind fun cb=>l1 J.2.2.2.2.2 aC J.2.2.2.1 J.2.2.2.2.1 cb.1 (J.1,J.2.1,J.2.2.1,(0:Int))) else none) else e0 (J.1,J.2.1,J.2.2.1)
noncomputable def B0 (k:Nat) (self:((List Seen)×(List Seen)×(List ((List Int)×Row))×(List (List UInt8))×Int×Int)->Option Out) (e0:((List Seen)×(List Seen)×(List ((List Int)×Row)))->Option Out) (a1:Arg) (J:(List Seen)×(List Seen)×(List ((List Int)×Row))×(List (List UInt8))×Int×Int):Option Out:=b0 self e0 (r1 k self e0 a1) a1 J
theorem fX (k:Nat) (rec:RT Out) (K:KT Out) (a1:Arg) (J:(List Seen)×(List Seen)×(List ((List Int)×Row))×(List (List UInt8))×Int×Int):D.N k [1,1,1,0,1,0,0] (T0 a1 J) (dj rec (b9 [4,5,6,21,22,23] []) K)=B0 k (S0 rec a1) (bn K a1) a1 J:=
 Eq.trans (b:=b0 (S0 rec a1) (bn K a1) (s1 k rec K a1) a1 J) (by kernel_rfl) (by rw[fY];rfl)
noncomputable def T2 (a1:Arg) (dK:List Seen) (dq:List Seen) (dt:List ((List Int)×Row)) (dV:Int) (lu:Int):St:={ n:=148,sl:=[(4,.own (.U cP) (am (.U cP)) [] dK),(5,.own (.U cP) (am (.U cP)) [] dq),(6,.own (.map (.arr 2 i64) aA) (am (.map (.arr 2 i64) aA)) [] dt),(81,.ref 5 [] [0,0]),(82,.val i64 dV),(83,.val i64 lu)],vr:=[],av:=[] }
noncomputable def S2 (rec:RT Out) (a1:Arg) (dK:List Seen) (dq:List Seen) (dt:List ((List Int)×Row)) (dV:Int):(Int)->Option Out:=fun lu=>rec (T2 a1 dK dq dt dV lu)
noncomputable def GD (K:KT Out) (a1:Arg) (dK:List Seen) (dq:List Seen) (dt:List ((List Int)×Row)) (dV:Int):(Unit)->Option Out:=fun z=>K (.exit 5) ({ n:=148,sl:=[(4,.own (.U cP) (am (.U cP)) [] dK),(5,.own (.U cP) (am (.U cP)) [] dq),(6,.own (.map (.arr 2 i64) aA) (am (.map (.arr 2 i64) aA)) [] dt)],vr:=[],av:=[] })
noncomputable def b2 (self:Int->Option Out) (e5:(Unit)->Option Out) (a1:Arg) (dK:List Seen) (dq:List Seen) (dt:List ((List Int)×Row)) (dV:Int) (lu:Int):Option Out:=bif decide (lu < dV) then (if 0<=lu/\lu < (dq.length:Int) then ((dq[lu.toNat]?).bind fun yz=>if 0 < (List.replicate 2 (0:Int)).length then (if 1 < ((List.replicate 2 (0:Int)).set 0 yz.2.2.2.2.1).length then (let TK:=qQ (dr (.arr 2 i64) dt (((List.replicate 2 (0:Int)).set 0 yz.2.2.2.2.1).set 1 yz.2.2.2.2.2.1)) ((0:Int),(0:Int),(0:Int),([]:List UInt8),());bif !(dr (.arr 2 i64) dt (((List.replicate 2 (0:Int)).set 0 yz.2.2.2.2.1).set 1 yz.2.2.2.2.2.1)).isSome then (some (([]:List Seen),(4:Int),())) else self (ae (lu+(1:Int)))) else none) else none) else none) else e5 ()
noncomputable abbrev B2 (_:Nat):=b2
theorem Gt (k:Nat) (rec:RT Out) (K:KT Out) (a1:Arg) (dK:List Seen) (dq:List Seen) (dt:List ((List Int)×Row)) (dV:Int) (lu:Int):D.N k [1,1,1,1,0,1,0,0] (T2 a1 dK dq dt dV lu) (dj rec (b9 [4,5,6,81,82,83] []) K)=b2 (S2 rec a1 dK dq dt dV) (GD K a1 dK dq dt dV) a1 dK dq dt dV lu:=by kernel_rfl
noncomputable def T3 (a1:Arg) (dL:List Seen) (dW:List ((List Int)×Row)) (dX:Int) (iw:(List Seen)×(List ((List Int)×Bool))×Int):St:={ n:=148,sl:=[(4,.own (.U cP) (am (.U cP)) [] iw.1),(5,.own (.U cP) (am (.U cP)) [] dL),(6,.own (.map (.arr 2 i64) aA) (am (.map (.arr 2 i64) aA)) [] dW),(15,.own (.map (.arr 2 i64) .bool) (am (.map (.arr 2 i64) .bool)) [] iw.2.1),(101,.ref 5 [] [0,0]),(102,.val i64 dX),(103,.val i64 iw.2.2)],vr:=[],av:=[] }
noncomputable def S3 (rec:RT Out) (a1:Arg) (dL:List Seen) (dW:List ((List Int)×Row)) (dX:Int):((List Seen)×(List ((List Int)×Bool))×Int)->Option Out:=fun iw=>rec (T3 a1 dL dW dX iw)
noncomputable def GE (K:KT Out) (a1:Arg) (dL:List Seen) (dW:List ((List Int)×Row)) (dX:Int):(List Seen)->Option Out:=fun z=>K (.exit 7) ({ n:=148,sl:=[(4,.own (.U cP) (am (.U cP)) [] z)],vr:=[],av:=[] })
noncomputable def b3 (self:((List Seen)×(List ((List Int)×Bool))×Int)->Option Out) (e7:(List Seen)->Option Out) (a1:Arg) (dL:List Seen) (dW:List ((List Int)×Row)) (dX:Int) (iw:(List Seen)×(List ((List Int)×Bool))×Int):Option Out:=bif decide (iw.2.2 < dX) then (if 0<=iw.2.2/\iw.2.2 < (dL.length:Int) then ((dL[iw.2.2.toNat]?).bind fun yA=>if 0 < (List.replicate 2 (0:Int)).length then (if 1 < ((List.replicate 2 (0:Int)).set 0 yA.2.2.2.2.1).length then (let GF:=((List.replicate 2 (0:Int)).set 0 yA.2.2.2.2.1).set 1 yA.2.2.2.2.2.1;bif qQ (dr (.arr 2 i64) iw.2.1 GF) false then (some (([]:List Seen),(6:Int),())) else let LL:=qQ (dr (.arr 2 i64) dW GF) ((0:Int),(0:Int),(0:Int),([]:List UInt8),());if iw.1.length+[(LL,yA.2)].length<=bg then (self (iw.1++[(LL,yA.2)],gG (.arr 2 i64) iw.2.1 GF true,ae (iw.2.2+(1:Int)))) else none) else none) else none) else none) else e7 iw.1
noncomputable abbrev B3 (_:Nat):=b3
theorem Pg (k:Nat) (rec:RT Out) (K:KT Out) (a1:Arg) (dL:List Seen) (dW:List ((List Int)×Row)) (dX:Int) (iw:(List Seen)×(List ((List Int)×Bool))×Int):D.N k [1,1,1,1,1,1,0,1,0,0] (T3 a1 dL dW dX iw) (dj rec (b9 [4,5,6,15,101,102,103] []) K)=b3 (S3 rec a1 dL dW dX) (GE K a1 dL dW dX) a1 dL dW dX iw:=by kernel_rfl
noncomputable def T4 (a1:Arg) (lw:List Seen) (mD:Int):St:={ n:=148,sl:=[(4,.own (.U cP) (am (.U cP)) [] lw),(19,.val i64 mD)],vr:=[],av:=[] }
noncomputable def b4 (self:Int->Option Out) (e9:(Unit)->Option Out) (a1:Arg) (lw:List Seen) (mD:Int):Option Out:=bif decide (mD < (lw.length:Int)) then (if 0<=ae (mD - (1:Int))/\ae (mD - (1:Int)) < (lw.length:Int) then ((lw[(ae (mD - (1:Int))).toNat]?).bind fun Ph=>if 0<=mD/\mD < (lw.length:Int) then ((lw[mD.toNat]?).bind fun Pi=>(dB.ab (Ph.1,Pi.1,())).bind fun Pj=>bif !Pj.1 then (some (([]:List Seen),(8:Int),())) else self (ae (mD+(1:Int)))) else none) else none) else e9 ()
noncomputable abbrev B4 (_:Nat):=b4
noncomputable def q4 (a1:Arg) (lw:List Seen) (TM:(Unit)):Option Out:=some (lw,(0:Int),())
noncomputable abbrev Q4 (_:Nat):=q4
noncomputable def s4 (k:Nat) (a1:Arg) (dL:List Seen) (dW:List ((List Int)×Row)) (dX:Int):(List Seen)->(Int)->Option Out:=fun lw=>fun mD=>D.L k [1,1,1,1,1,1,1,1,0,1,0,0] [4,19] [] (af 9 (ao (D.N k [1,1,1,1,1,1,1,1,1]) D.K0)) (T4 a1 lw mD)
noncomputable def r4 (k:Nat) (a1:Arg) (dL:List Seen) (dW:List ((List Int)×Row)) (dX:Int):(List Seen)->(Int)->Option Out:=fun lw=>ak (fun w v=>B4 k w (Q4 k a1 lw) a1 lw v) k
theorem Pk (k:Nat) (a1:Arg) (dL:List Seen) (dW:List ((List Int)×Row)) (dX:Int):s4 k a1 dL dW dX=r4 k a1 dL dW dX:=
 funext fun lw=>funext fun mD=>an _ _ _ (T4 a1 lw) _ (fun rec v=>by kernel_rfl) k mD
noncomputable def q3 (l4:(List Seen)->(Int)->Option Out) (a1:Arg) (dL:List Seen) (dW:List ((List Int)×Row)) (dX:Int) (tR:(List Seen)):Option Out:=(iv.ab (tR,((200,0):Nat×Int),())).bind fun Pm=>l4 Pm.1 (1:Int)
noncomputable def Q3 (k:Nat) (a1:Arg) (dL:List Seen) (dW:List ((List Int)×Row)) (dX:Int) (tR:(List Seen)):Option Out:=q3 (r4 k a1 dL dW dX) a1 dL dW dX tR
theorem Gu (k:Nat) (a1:Arg) (dL:List Seen) (dW:List ((List Int)×Row)) (dX:Int) (tR:(List Seen)):GE (af 7 (ao (D.N k [1,1,1,1,1,1,1]) D.K0)) a1 dL dW dX tR=Q3 k a1 dL dW dX tR:=
 Eq.trans (b:=q3 (s4 k a1 dL dW dX) a1 dL dW dX tR) (by kernel_rfl) (by rw[Pk];rfl)
noncomputable def s3 (k:Nat) (a1:Arg) (dK:List Seen) (dq:List Seen) (dt:List ((List Int)×Row)) (dV:Int):(List Seen)->(List ((List Int)×Row))->Int->((List Seen)×(List ((List Int)×Bool))×Int)->Option Out:=fun dL dW dX=>fun iw=>D.L k [1,1,1,1,1,1,0,1,0,0] [4,5,6,15,101,102,103] [] (af 7 (ao (D.N k [1,1,1,1,1,1,1]) D.K0)) (T3 a1 dL dW dX iw)
noncomputable def r3 (k:Nat) (a1:Arg) (dK:List Seen) (dq:List Seen) (dt:List ((List Int)×Row)) (dV:Int):(List Seen)->(List ((List Int)×Row))->Int->((List Seen)×(List ((List Int)×Bool))×Int)->Option Out:=fun dL dW dX=>ak (fun w v=>B3 k w (Q3 k a1 dL dW dX) a1 dL dW dX v) k
theorem Gs (k:Nat) (a1:Arg) (dK:List Seen) (dq:List Seen) (dt:List ((List Int)×Row)) (dV:Int):s3 k a1 dK dq dt dV=r3 k a1 dK dq dt dV:=by
 funext dL;funext dW;funext dX;funext iw;
 have h7:GE (af 7 (ao (D.N k [1,1,1,1,1,1,1]) D.K0)) a1 dL dW dX=Q3 k a1 dL dW dX:=funext fun z=>Gu k a1 dL dW dX z
 refine (an _ _ _ (T3 a1 dL dW dX) (fun self v=>B3 k self (GE (af 7 (ao (D.N k [1,1,1,1,1,1,1]) D.K0)) a1 dL dW dX) a1 dL dW dX v) (fun rec v=>Pg k rec (af 7 (ao (D.N k [1,1,1,1,1,1,1]) D.K0)) a1 dL dW dX v) k iw).trans ?_
 rw[h7]
 rfl
noncomputable def q2 (l3:(List Seen)->(List ((List Int)×Row))->Int->((List Seen)×(List ((List Int)×Bool))×Int)->Option Out) (a1:Arg) (dK:List Seen) (dq:List Seen) (dt:List ((List Int)×Row)) (dV:Int) (wk:(Unit)):Option Out:=l3 dq dt (dq.length:Int) (dK,([]:List ((List Int)×Bool)),(0:Int))
noncomputable def Q2 (k:Nat) (a1:Arg) (dK:List Seen) (dq:List Seen) (dt:List ((List Int)×Row)) (dV:Int) (wk:(Unit)):Option Out:=q2 (r3 k a1 dK dq dt dV) a1 dK dq dt dV wk
theorem nq (k:Nat) (a1:Arg) (dK:List Seen) (dq:List Seen) (dt:List ((List Int)×Row)) (dV:Int) (wk:(Unit)):GD (af 5 (ao (D.N k [1,1,1,1,1]) D.K0)) a1 dK dq dt dV wk=Q2 k a1 dK dq dt dV wk:=
 Eq.trans (b:=q2 (s3 k a1 dK dq dt dV) a1 dK dq dt dV wk) (by kernel_rfl) (by rw[Gs];rfl)
noncomputable def s2 (k:Nat) (a1:Arg):(List Seen)->(List Seen)->(List ((List Int)×Row))->Int->(Int)->Option Out:=fun dK dq dt dV=>fun lu=>D.L k [1,1,1,1,0,1,0,0] [4,5,6,81,82,83] [] (af 5 (ao (D.N k [1,1,1,1,1]) D.K0)) (T2 a1 dK dq dt dV lu)
noncomputable def r2 (k:Nat) (a1:Arg):(List Seen)->(List Seen)->(List ((List Int)×Row))->Int->(Int)->Option Out:=fun dK dq dt dV=>ak (fun w v=>B2 k w (Q2 k a1 dK dq dt dV) a1 dK dq dt dV v) k
theorem kR (k:Nat) (a1:Arg):s2 k a1=r2 k a1:=by
 funext dK;funext dq;funext dt;funext dV;funext lu;
 have h5:GD (af 5 (ao (D.N k [1,1,1,1,1]) D.K0)) a1 dK dq dt dV=Q2 k a1 dK dq dt dV:=funext fun z=>nq k a1 dK dq dt dV z
 refine (an _ _ _ (T2 a1 dK dq dt dV) (fun self v=>B2 k self (GD (af 5 (ao (D.N k [1,1,1,1,1]) D.K0)) a1 dK dq dt dV) a1 dK dq dt dV v) (fun rec v=>Gt k rec (af 5 (ao (D.N k [1,1,1,1,1]) D.K0)) a1 dK dq dt dV v) k lu).trans ?_
 rw[h5]
 rfl
noncomputable def q1 (l2:(List Seen)->(List Seen)->(List ((List Int)×Row))->Int->(Int)->Option Out) (a1:Arg) (pC:((List Seen)×(List Seen)×(List ((List Int)×Row)))):Option Out:=l2 pC.1 pC.2.1 pC.2.2 (pC.2.1.length:Int) (0:Int)
noncomputable def Q1 (k:Nat) (a1:Arg) (pC:((List Seen)×(List Seen)×(List ((List Int)×Row)))):Option Out:=q1 (r2 k a1) a1 pC
theorem lY (k:Nat) (a1:Arg) (pC:((List Seen)×(List Seen)×(List ((List Int)×Row)))):bn (af 0 (ao (D.N k [1,1,1,1]) D.K0)) a1 pC=Q1 k a1 pC:=
 Eq.trans (b:=q1 (s2 k a1) a1 pC) (by kernel_rfl) (by rw[kR];rfl)
noncomputable def s0 (k:Nat) (a1:Arg):((List Seen)×(List Seen)×(List ((List Int)×Row))×(List (List UInt8))×Int×Int)->Option Out:=fun J=>D.L k [1,1,1,0,1,0,0] [4,5,6,21,22,23] [] (af 0 (ao (D.N k [1,1,1,1]) D.K0)) (T0 a1 J)
noncomputable def r0 (k:Nat) (a1:Arg):((List Seen)×(List Seen)×(List ((List Int)×Row))×(List (List UInt8))×Int×Int)->Option Out:=ak (fun w v=>B0 k w (Q1 k a1) a1 v) k
theorem au (k:Nat) (a1:Arg):s0 k a1=r0 k a1:=by
 funext J;
 have h0:bn (af 0 (ao (D.N k [1,1,1,1]) D.K0)) a1=Q1 k a1:=funext fun z=>lY k a1 z
 refine (an _ _ _ (T0 a1) (fun self v=>B0 k self (bn (af 0 (ao (D.N k [1,1,1,1]) D.K0)) a1) a1 v) (fun rec v=>fX k rec (af 0 (ao (D.N k [1,1,1,1]) D.K0)) a1 v) k J).trans ?_
 rw[h0]
 rfl
noncomputable def p (l0:((List Seen)×(List Seen)×(List ((List Int)×Row))×(List (List UInt8))×Int×Int)->Option Out) (a1:Arg):Option Out:=l0 (([]:List Seen),([]:List Seen),([]:List ((List Int)×Row)),a1.1,(a1.1.length:Int),(0:Int))
theorem aa (k:Nat) (a1:Arg):@Eq (Option Out) (D.W k a1) (p (r0 k a1) a1):=
 Eq.trans (b:=p (s0 k a1) a1) (by kernel_rfl) (by rw[au])
theorem ok:Ok prog 131 D.sig:=aq func131 aB (by kernel_rfl) (fc eE.ok (fc gk.ok (fc dU.ok (fc gI.ok (fc iv.ok (fc dB.ok (al _)))))))
end aH
namespace bM
abbrev Arg:Type:=(List (List UInt8))×Unit
abbrev Out:Type:=(List Seen)×Int×Unit
abbrev ps:PQ:=[(.ro,(.U (.U u8)))]
noncomputable def D:FD:={ fn:=f62,tl:=aL,ps:=ps,rs:=[((.U cP),(am (.U cP))),(i64,(ax i64))],gl:=[(126,aI.D.sig),(127,eE.D.sig),(128,gk.D.sig),(129,dU.D.sig),(130,gI.D.sig),(131,aH.D.sig)],lv:=[(4,[0,11,12,13]),(10,[0,5,11,12,13,23,24])],lx:=[(0,[0]),(2,[0,11,12,13])] }
noncomputable def ab (a:Arg):Option Out:=@lift Out fun k=>D.W k a
noncomputable def T0 (a1:Arg) (J:(List (List UInt8))×(List (List UInt8))×Int×Int):St:={ n:=44,sl:=[(0,.val (.U (.U u8)) J.1),(11,.val (.U (.U u8)) J.2.1),(12,.val i64 J.2.2.1),(13,.val i64 J.2.2.2)],vr:=[],av:=[] }
noncomputable def S0 (rec:RT Out) (a1:Arg):((List (List UInt8))×(List (List UInt8))×Int×Int)->Option Out:=fun J=>rec (T0 a1 J)
noncomputable def bn (K:KT Out) (a1:Arg):(List (List UInt8))->Option Out:=fun z=>K (.exit 0) ({ n:=44,sl:=[(0,.val (.U (.U u8)) z)],vr:=[],av:=[] })
noncomputable def T1 (a1:Arg) (dp:List (List UInt8)) (cS:List UInt8) (bK:List (List UInt8)) (eD:Int) (il:Int) (oS:Int) (bH:Int):St:={ n:=44,sl:=[(0,.val (.U (.U u8)) dp),(5,.val (.U u8) cS),(11,.val (.U (.U u8)) bK),(12,.val i64 eD),(13,.val i64 il),(23,.val i64 oS),(24,.val i64 bH)],vr:=[],av:=[] }
noncomputable def b1 (self:Int->Option Out) (e2:(Unit)->Option Out) (a1:Arg) (dp:List (List UInt8)) (cS:List UInt8) (bK:List (List UInt8)) (eD:Int) (il:Int) (oS:Int) (bH:Int):Option Out:=bif decide (bH < oS) then ((gk.ab (cS,bH,())).bind fun mC=>bif mC.1 then ((gI.ab (cS,bH,())).bind fun yu=>(dU.ab (yu.1,())).bind fun Pn=>bif !decide (Pn.1.1=(0:Int)) then (some (([]:List Seen),(5:Int),())) else self (ae (bH+(1:Int)))) else self (ae (bH+(1:Int)))) else e2 ()
noncomputable abbrev B1 (_:Nat):=b1
noncomputable def q0 (self:((List (List UInt8))×(List (List UInt8))×Int×Int)->Option Out) (e0:(List (List UInt8))->Option Out) (a1:Arg) (dp:List (List UInt8)) (cS:List UInt8) (bK:List (List UInt8)) (eD:Int) (il:Int) (oS:Int) (Be:(Unit)):Option Out:=self (dp,bK,eD,ae (il+(1:Int)))
noncomputable abbrev Q0 (_:Nat):=q0
noncomputable def s1 (k:Nat) (rec:RT Out) (K:KT Out) (a1:Arg):(List (List UInt8))->(List UInt8)->(List (List UInt8))->Int->Int->Int->(Int)->Option Out:=fun dp cS bK eD il oS=>fun bH=>D.L k [1,1,0,1,0,0,1,1,0,0,1,1,1,0,0] [0,5,11,12,13,23,24] [] (af 2 (af 1 (ao (D.N k [1,1,0,1,0,0,1,1,1]) (dj rec (b9 [0,11,12,13] []) K)))) (T1 a1 dp cS bK eD il oS bH)
noncomputable def r1 (k:Nat) (self:((List (List UInt8))×(List (List UInt8))×Int×Int)->Option Out) (e0:(List (List UInt8))->Option Out) (a1:Arg):(List (List UInt8))->(List UInt8)->(List (List UInt8))->Int->Int->Int->(Int)->Option Out:=fun dp cS bK eD il oS=>ak (fun w v=>B1 k w (Q0 k self e0 a1 dp cS bK eD il oS) a1 dp cS bK eD il oS v) k
theorem fY (k:Nat) (rec:RT Out) (K:KT Out) (a1:Arg):s1 k rec K a1=r1 k (S0 rec a1) (bn K a1) a1:=
 funext fun dp=>funext fun cS=>funext fun bK=>funext fun eD=>funext fun il=>funext fun oS=>funext fun bH=>an _ _ _ (T1 a1 dp cS bK eD il oS) _ (fun rec v=>by kernel_rfl) k bH
noncomputable def b0 (self:((List (List UInt8))×(List (List UInt8))×Int×Int)->Option Out) (e0:(List (List UInt8))->Option Out) (l1:(List (List UInt8))->(List UInt8)->(List (List UInt8))->Int->Int->Int->(Int)->Option Out) (a1:Arg) (J:(List (List UInt8))×(List (List UInt8))×Int×Int):Option Out:=bif decide (J.2.2.2 < J.2.2.1) then (if 0<=J.2.2.2 then ((J.2.1[J.2.2.2.toNat]?).bind fun aC=>(aI.ab (aC,())).bind fun cb=>bif !decide (cb.1=(0:Int)) then (some (([]:List Seen),cb.1,())) else (eE.ab (aC,())).bind fun gU=>l1 J.1 aC J.2.1 J.2.2.1 J.2.2.2 gU.1 (0:Int)) else none) else e0 J.1
noncomputable def B0 (k:Nat) (self:((List (List UInt8))×(List (List UInt8))×Int×Int)->Option Out) (e0:(List (List UInt8))->Option Out) (a1:Arg) (J:(List (List UInt8))×(List (List UInt8))×Int×Int):Option Out:=b0 self e0 (r1 k self e0 a1) a1 J
theorem fX (k:Nat) (rec:RT Out) (K:KT Out) (a1:Arg) (J:(List (List UInt8))×(List (List UInt8))×Int×Int):D.N k [1,1,0,1,0,0] (T0 a1 J) (dj rec (b9 [0,11,12,13] []) K)=B0 k (S0 rec a1) (bn K a1) a1 J:=
 Eq.trans (b:=b0 (S0 rec a1) (bn K a1) (s1 k rec K a1) a1 J) (by kernel_rfl) (by rw[fY];rfl)
noncomputable def q1 (a1:Arg) (rY:(List (List UInt8))):Option Out:=(aH.ab (rY,())).bind fun LM=>some (LM.1,LM.2.1,())
noncomputable abbrev Q1 (_:Nat):=q1
theorem lY (k:Nat) (a1:Arg) (rY:(List (List UInt8))):bn (af 0 (ao (D.N k [1,1,1]) D.K0)) a1 rY=q1 a1 rY:=by kernel_rfl
noncomputable def s0 (k:Nat) (a1:Arg):((List (List UInt8))×(List (List UInt8))×Int×Int)->Option Out:=fun J=>D.L k [1,1,0,1,0,0] [0,11,12,13] [] (af 0 (ao (D.N k [1,1,1]) D.K0)) (T0 a1 J)
noncomputable def r0 (k:Nat) (a1:Arg):((List (List UInt8))×(List (List UInt8))×Int×Int)->Option Out:=ak (fun w v=>B0 k w (Q1 k a1) a1 v) k
theorem au (k:Nat) (a1:Arg):s0 k a1=r0 k a1:=by
 funext J;
 have h0:bn (af 0 (ao (D.N k [1,1,1]) D.K0)) a1=Q1 k a1:=funext fun z=>lY k a1 z
 refine (an _ _ _ (T0 a1) (fun self v=>B0 k self (bn (af 0 (ao (D.N k [1,1,1]) D.K0)) a1) a1 v) (fun rec v=>fX k rec (af 0 (ao (D.N k [1,1,1]) D.K0)) a1 v) k J).trans ?_
 rw[h0]
 rfl
noncomputable def p (l0:((List (List UInt8))×(List (List UInt8))×Int×Int)->Option Out) (a1:Arg):Option Out:=bif decide ((12:Int) < (a1.1.length:Int)) then (some (([]:List Seen),(2:Int),())) else l0 (a1.1,a1.1,(a1.1.length:Int),(0:Int))
theorem aa (k:Nat) (a1:Arg):@Eq (Option Out) (D.W k a1) (p (r0 k a1) a1):=
 Eq.trans (b:=p (s0 k a1) a1) (by kernel_rfl) (by rw[au])
theorem ok:Ok prog 62 D.sig:=aq func62 aB (by kernel_rfl) (fc aI.ok (fc eE.ok (fc gk.ok (fc dU.ok (fc gI.ok (fc aH.ok (al _)))))))
end bM
namespace d7
abbrev Arg:Type:=(List Row)×Unit
abbrev Out:Type:=(List Row)×Unit
abbrev ps:PQ:=[(.ro,(.U aA))]
noncomputable def D:FD:={ fn:=f183,tl:=aL,ps:=ps,rs:=[((.U aA),(am (.U aA)))] }
noncomputable def ab (a:Arg):Option Out:=@lift Out fun k=>D.W k a
noncomputable def p (a1:Arg):Option Out:=uM a1.1 (some (([]:List Row),())) (if ([]:List Row).length+a1.1.length<=bg then (some (([]:List Row)++a1.1,())) else none)
theorem aa (k:Nat) (a1:Arg):@Eq (Option Out) (D.W k a1) (p a1):=by kernel_rfl
theorem ok:Ok prog 183 D.sig:=aq func183 aB (by kernel_rfl) (al _)
end d7
namespace bR
abbrev Arg:Type:=(List Row)×Unit
abbrev Out:Type:=Int×Unit
abbrev ps:PQ:=[(.ro,(.U aA))]
noncomputable def D:FD:={ fn:=f132,tl:=aL,ps:=ps,rs:=[(i64,(ax i64))],gl:=[(198,bq.D.sig),(202,dB.D.sig)],lv:=[(4,[0,9,10,11])],lx:=[(0,[])],od:=[(9,[0,1,2,3,4,5,6,7,8,9,10,11])] }
noncomputable def ab (a:Arg):Option Out:=@lift Out fun k=>D.W k a
noncomputable def T0 (a1:Arg) (J:Int):St:={ n:=34,sl:=[(0,.val (.U aA) a1.1),(9,.val (.U aA) a1.1),(10,.val i64 (a1.1.length:Int)),(11,.val i64 J)],vr:=[],av:=[] }
noncomputable def b0 (self:Int->Option Out) (e0:(Unit)->Option Out) (a1:Arg) (J:Int):Option Out:=bif decide (J < (a1.1.length:Int)) then (if 0<=J then ((a1.1[J.toNat]?).bind fun aC=>(bq.ab (aC,())).bind fun cb=>bif !decide (cb.1=(0:Int)) then (some (cb.1,())) else bif decide ((0:Int) < J) then (if 0<=ae (J - (1:Int)) then ((a1.1[(ae (J - (1:Int))).toNat]?).bind fun cg=>(dB.ab (cg,aC,())).bind fun kw=>bif !kw.1 then (some ((1:Int),())) else self (ae (J+(1:Int)))) else none) else self (ae (J+(1:Int)))) else none) else e0 ()
noncomputable abbrev B0 (_:Nat):=b0
noncomputable def q0 (a1:Arg) (gg:(Unit)):Option Out:=some ((0:Int),())
noncomputable abbrev Q0 (_:Nat):=q0
noncomputable def s0 (k:Nat) (a1:Arg):(Int)->Option Out:=fun J=>D.L k [1,1,0,1,0,0] [0,9,10,11] [] (af 0 (ao (D.N k [1,1,1]) D.K0)) (T0 a1 J)
noncomputable def r0 (k:Nat) (a1:Arg):(Int)->Option Out:=ak (fun w v=>B0 k w (Q0 k a1) a1 v) k
theorem au (k:Nat) (a1:Arg):s0 k a1=r0 k a1:=
 funext fun J=>an _ _ _ (T0 a1) _ (fun rec v=>by kernel_rfl) k J
noncomputable def p (l0:(Int)->Option Out) (a1:Arg):Option Out:=bif decide ((60:Int) < (a1.1.length:Int)) then (some ((2:Int),())) else l0 (0:Int)
theorem aa (k:Nat) (a1:Arg):@Eq (Option Out) (D.W k a1) (p (r0 k a1) a1):=
 Eq.trans (b:=p (s0 k a1) a1) (by kernel_rfl) (by rw[au])
theorem ok:Ok prog 132 D.sig:=aq func132 aB (by kernel_rfl) (fc bq.ok (fc dB.ok (al _)))
end bR
namespace d8
abbrev Arg:Type:=Change×Unit
abbrev Out:Type:=Int×Unit
abbrev ps:PQ:=[(.ro,ap)]
noncomputable def D:FD:={ fn:=f250,tl:=aL,ps:=ps,rs:=[(i64,(ax i64))],gl:=[(198,bq.D.sig),(201,eZ.D.sig)] }
noncomputable def ab (a:Arg):Option Out:=@lift Out fun k=>D.W k a
noncomputable def p (a1:Arg):Option Out:=let j7:Option Out:=bif a1.1.1 then ((bq.ab (a1.1.2.1,())).bind fun r8=>bif !decide (r8.1=(0:Int)) then (some (r8.1,())) else bif a1.1.2.2.1 then ((bq.ab (a1.1.2.2.2.1,())).bind fun CK=>some (CK.1,())) else some ((0:Int),())) else bif a1.1.2.2.1 then ((bq.ab (a1.1.2.2.2.1,())).bind fun N9=>some (N9.1,())) else some ((0:Int),());bif !a1.1.1 then (bif !a1.1.2.2.1 then (some ((1:Int),())) else bif a1.1.1 then (bif a1.1.2.2.1 then ((eZ.ab (a1.1.2.1,a1.1.2.2.2.1,())).bind fun r2=>bif !decide (r2.1=(0:Int)) then (some ((1:Int),())) else j7) else j7) else j7) else bif a1.1.1 then (bif a1.1.2.2.1 then ((eZ.ab (a1.1.2.1,a1.1.2.2.2.1,())).bind fun r3=>bif !decide (r3.1=(0:Int)) then (some ((1:Int),())) else j7) else j7) else j7
theorem aa (k:Nat) (a1:Arg):@Eq (Option Out) (D.W k a1) (p a1):=by kernel_rfl
theorem ok:Ok prog 250 D.sig:=aq func250 aB (by kernel_rfl) (fc bq.ok (fc eZ.ok (al _)))
end d8
namespace cI
abbrev Arg:Type:=Change×Unit
abbrev Out:Type:=Row×Unit
abbrev ps:PQ:=[(.ro,ap)]
noncomputable def D:FD:={ fn:=f284,tl:=aL,ps:=ps,rs:=[(aA,(ax aA))] }
noncomputable def ab (a:Arg):Option Out:=@lift Out fun k=>D.W k a
noncomputable def p (a1:Arg):Option Out:=bif a1.1.2.2.1 then (some (a1.1.2.2.2.1,())) else some (a1.1.2.1,())
theorem aa (k:Nat) (a1:Arg):@Eq (Option Out) (D.W k a1) (p a1):=by kernel_rfl
theorem ok:Ok prog 284 D.sig:=aq func284 aB (by kernel_rfl) (al _)
end cI
namespace aF
abbrev Arg:Type:=(List Row)×Row×(Nat×Int)×Unit
abbrev Out:Type:=Int×Bool×Unit
abbrev ps:PQ:=[(.ro,(.U aA)),(.ro,aA),(.fix 201,.fn)]
noncomputable def D:FD:={ fn:=f294,tl:=aL,ps:=ps,rs:=[(i64,(ax i64)),(.bool,(ax .bool))],gl:=[(201,eZ.D.sig)],lv:=[(3,[0,2,4,8,9,10])],lx:=[(0,[0,2,4,8,9])],od:=[(5,[0,1,2,3,4,5,6,7]),(8,[0,1,2,3,4,5,6,7,8,9,10,11,12,13,14,15])] }
noncomputable def ab (a:Arg):Option Out:=@lift Out fun k=>D.W k a
noncomputable def T0 (a1:Arg) (J:Int×Int):St:={ n:=49,sl:=[(0,.val (.U aA) a1.1),(2,.val .fn ((201,a1.2.2.1.2):Nat×Int)),(4,.box aA (ax aA) [] a1.2.1),(8,.val i64 (a1.1.length:Int)),(9,.val i64 J.1),(10,.val i64 J.2)],vr:=[],av:=[] }
noncomputable def b0 (self:(Int×Int)->Option Out) (e0:Int->Option Out) (a1:Arg) (J:Int×Int):Option Out:=bif decide (J.1 < J.2) then (if 0<=ae ((IntKind.wrap .u64 (ae (J.1+J.2))).fdiv (2 ^ 1)) then ((a1.1[(ae ((IntKind.wrap .u64 (ae (J.1+J.2))).fdiv (2 ^ 1))).toNat]?).bind fun aC=>(eZ.ab (aC,a1.2.1,())).bind fun cb=>bif decide (cb.1 < (0:Int)) then (self (ae ((ae ((IntKind.wrap .u64 (ae (J.1+J.2))).fdiv (2 ^ 1)))+(1:Int)),J.2)) else self (J.1,ae ((IntKind.wrap .u64 (ae (J.1+J.2))).fdiv (2 ^ 1)))) else none) else e0 J.1
noncomputable abbrev B0 (_:Nat):=b0
noncomputable def q0 (a1:Arg) (bQ:Int):Option Out:=bif decide (bQ < (a1.1.length:Int)) then (if 0<=bQ then ((a1.1[bQ.toNat]?).bind fun nY=>(eZ.ab (nY,a1.2.1,())).bind fun iU=>some (bQ,decide (iU.1=(0:Int)),())) else none) else some (bQ,false,())
noncomputable abbrev Q0 (_:Nat):=q0
noncomputable def s0 (k:Nat) (a1:Arg):(Int×Int)->Option Out:=fun J=>D.L k [1,1,1,0,0,0] [0,2,4,8,9,10] [] (af 0 (ao (D.N k [1,1,1,1]) D.K0)) (T0 a1 J)
noncomputable def r0 (k:Nat) (a1:Arg):(Int×Int)->Option Out:=ak (fun w v=>B0 k w (Q0 k a1) a1 v) k
theorem au (k:Nat) (a1:Arg):s0 k a1=r0 k a1:=
 funext fun J=>an _ _ _ (T0 a1) _ (fun rec v=>by kernel_rfl) k J
noncomputable def p (l0:(Int×Int)->Option Out) (a1:Arg):Option Out:=l0 ((0:Int),(a1.1.length:Int))
theorem aa (k:Nat) (a1:Arg):@Eq (Option Out) (D.W k a1) (p (r0 k a1) a1):=
 Eq.trans (b:=p (s0 k a1) a1) (by kernel_rfl) (by rw[au])
theorem ok:Ok prog 294 D.sig:=aq func294 aB (by kernel_rfl) (fc eZ.ok (al _))
end aF
namespace fA
abbrev Arg:Type:=Change×(List Row)×Unit
abbrev Out:Type:=Bool×Unit
abbrev ps:PQ:=[(.ro,ap),(.ro,(.U aA))]
noncomputable def D:FD:={ fn:=f251,tl:=aL,ps:=ps,rs:=[(.bool,(ax .bool))],gl:=[(284,cI.D.sig),(294,aF.D.sig)],od:=[(2,[0,1,2,3,4,5,6,7,8,9,10,11,12,13,14,15,16,17])] }
noncomputable def ab (a:Arg):Option Out:=@lift Out fun k=>D.W k a
noncomputable def p (a1:Arg):Option Out:=(cI.ab (a1.1,())).bind fun r2=>(aF.ab (a1.2.1,r2.1,((201,0):Nat×Int),())).bind fun r3=>bif (r3.2.1 == a1.1.1) then (bif !r3.2.1 then (some (true,())) else if 0<=r3.1 then ((a1.2.1[r3.1.toNat]?).bind fun x4=>some ((Ty.eq aA x4 a1.1.2.1),())) else none) else some (false,())
theorem aa (k:Nat) (a1:Arg):@Eq (Option Out) (D.W k a1) (p a1):=by kernel_rfl
theorem ok:Ok prog 251 D.sig:=aq func251 aB (by kernel_rfl) (fc cI.ok (fc aF.ok (al _)))
end fA
namespace jv
abbrev Arg:Type:=(List Row)×Change×Unit
abbrev Out:Type:=(List Row)×Unit
abbrev ps:PQ:=[(.ro,(.U aA)),(.ro,ap)]
noncomputable def D:FD:={ fn:=f252,tl:=aL,ps:=ps,rs:=[((.U aA),(am (.U aA)))],gl:=[(284,cI.D.sig),(294,aF.D.sig)] }
noncomputable def ab (a:Arg):Option Out:=@lift Out fun k=>D.W k a
noncomputable def p (a1:Arg):Option Out:=(cI.ab (a1.2.1,())).bind fun r2=>(aF.ab (a1.1,r2.1,((201,0):Nat×Int),())).bind fun r3=>if 0<=r3.1/\r3.1<=(a1.1.length:Int) then (if ([]:List Row).length+((a1.1.take r3.1.toNat).drop 0).length<=bg then (let y4:=([]:List Row)++((a1.1.take r3.1.toNat).drop 0);let j8:=fun (p7:List Row)=>(let Qw:=fun (LN:Int)=>(if 0<=LN/\LN<=(a1.1.length:Int) then (if p7.length+((a1.1.take a1.1.length).drop LN.toNat).length<=bg then (let Tj:=p7++((a1.1.take a1.1.length).drop LN.toNat);some (Tj,())) else none) else none:Option Out);bif r3.2.1 then (Qw (ae (r3.1+(1:Int)))) else Qw r3.1:Option Out);bif a1.2.1.2.2.1 then (if y4.length+[a1.2.1.2.2.2.1].length<=bg then (j8 (y4++[a1.2.1.2.2.2.1])) else none) else j8 y4) else none) else none
theorem aa (k:Nat) (a1:Arg):@Eq (Option Out) (D.W k a1) (p a1):=by kernel_rfl
theorem ok:Ok prog 252 D.sig:=aq func252 aB (by kernel_rfl) (fc cI.ok (fc aF.ok (al _)))
end jv
namespace bV
abbrev Arg:Type:=(List Row)×(List Change)×Unit
abbrev Out:Type:=fC×Unit
abbrev ps:PQ:=[(.ro,(.U aA)),(.ro,(.U ap))]
noncomputable def D:FD:={ fn:=f184,tl:=aL,ps:=ps,rs:=[(cA,(am cA))],gl:=[(132,bR.D.sig),(183,d7.D.sig),(250,d8.D.sig),(251,fA.D.sig),(252,jv.D.sig)],lv:=[(6,[4,6,18,19,20])],lx:=[(0,[4,6])] }
noncomputable def ab (a:Arg):Option Out:=@lift Out fun k=>D.W k a
noncomputable def T0 (a1:Arg) (ic:(List Row)×Int):St:={ n:=45,sl:=[(4,.box cA (am cA) [] ((0:Int),([]:List Row),())),(6,.own (.U aA) (am (.U aA)) [] ic.1),(18,.val (.U ap) a1.2.1),(19,.val i64 (a1.2.1.length:Int)),(20,.val i64 ic.2)],vr:=[],av:=[] }
noncomputable def b0 (self:((List Row)×Int)->Option Out) (e0:(List Row)->Option Out) (a1:Arg) (ic:(List Row)×Int):Option Out:=bif decide (ic.2 < (a1.2.1.length:Int)) then (if 0<=ic.2 then ((a1.2.1[ic.2.toNat]?).bind fun cg=>(d8.ab (cg,())).bind fun kw=>bif !decide (kw.1=(0:Int)) then (some ((kw.1,([]:List Row),()),())) else (fA.ab (cg,ic.1,())).bind fun iU=>bif !iU.1 then (some (((8:Int),([]:List Row),()),())) else (jv.ab (ic.1,cg,())).bind fun tP=>self (tP.1,ae (ic.2+(1:Int)))) else none) else e0 ic.1
noncomputable abbrev B0 (_:Nat):=b0
noncomputable def q0 (a1:Arg) (tS:(List Row)):Option Out:=bif decide ((60:Int) < (tS.length:Int)) then (some (((2:Int),([]:List Row),()),())) else some (((0:Int),tS,()),())
noncomputable abbrev Q0 (_:Nat):=q0
noncomputable def s0 (k:Nat) (a1:Arg):((List Row)×Int)->Option Out:=fun ic=>D.L k [1,1,1,0,1,0,0] [4,6,18,19,20] [] (af 0 (ao (D.N k [1,1,1,1]) D.K0)) (T0 a1 ic)
noncomputable def r0 (k:Nat) (a1:Arg):((List Row)×Int)->Option Out:=ak (fun w v=>B0 k w (Q0 k a1) a1 v) k
theorem au (k:Nat) (a1:Arg):s0 k a1=r0 k a1:=
 funext fun ic=>an _ _ _ (T0 a1) _ (fun rec v=>by kernel_rfl) k ic
noncomputable def p (l0:((List Row)×Int)->Option Out) (a1:Arg):Option Out:=(bR.ab (a1.1,())).bind fun r2=>bif !decide (r2.1=(0:Int)) then (some ((r2.1,([]:List Row),()),())) else (d7.ab (a1.1,())).bind fun r3=>l0 (r3.1,(0:Int))
theorem aa (k:Nat) (a1:Arg):@Eq (Option Out) (D.W k a1) (p (r0 k a1) a1):=
 Eq.trans (b:=p (s0 k a1) a1) (by kernel_rfl) (by rw[au])
theorem ok:Ok prog 184 D.sig:=aq func184 aB (by kernel_rfl) (fc bR.ok (fc d7.ok (fc d8.ok (fc fA.ok (fc jv.ok (al _))))))
end bV
namespace fO
abbrev Arg:Type:=(List Change)×Unit
abbrev Out:Type:=(List Change)×Unit
abbrev ps:PQ:=[(.ro,(.U ap))]
noncomputable def D:FD:={ fn:=f185,tl:=aL,ps:=ps,rs:=[((.U ap),(am (.U ap)))],lv:=[(3,[0,3,4])],lx:=[(0,[3])] }
noncomputable def ab (a:Arg):Option Out:=@lift Out fun k=>D.W k a
noncomputable def T0 (a1:Arg) (J:(List Change)×Int):St:={ n:=30,sl:=[(0,.val (.U ap) a1.1),(3,.own (.U ap) (am (.U ap)) [] J.1),(4,.val i64 J.2)],vr:=[],av:=[] }
noncomputable def b0 (self:((List Change)×Int)->Option Out) (e0:(List Change)->Option Out) (a1:Arg) (J:(List Change)×Int):Option Out:=bif decide ((0:Int)<=J.2) then (if 0<=J.2 then ((a1.1[J.2.toNat]?).bind fun aC=>if J.1.length+[(aC.2.2.1,aC.2.2.2.1,aC.1,aC.2.1,())].length<=bg then (let im:=J.1++[(aC.2.2.1,aC.2.2.2.1,aC.1,aC.2.1,())];self (im,ae (J.2 - (1:Int)))) else none) else none) else e0 J.1
noncomputable abbrev B0 (_:Nat):=b0
noncomputable def q0 (a1:Arg) (bQ:(List Change)):Option Out:=some (bQ,())
noncomputable abbrev Q0 (_:Nat):=q0
noncomputable def s0 (k:Nat) (a1:Arg):((List Change)×Int)->Option Out:=fun J=>D.L k [1,1,0,1,0,0] [0,3,4] [] (af 0 (ao (D.N k [1,1,1]) D.K0)) (T0 a1 J)
noncomputable def r0 (k:Nat) (a1:Arg):((List Change)×Int)->Option Out:=ak (fun w v=>B0 k w (Q0 k a1) a1 v) k
theorem au (k:Nat) (a1:Arg):s0 k a1=r0 k a1:=
 funext fun J=>an _ _ _ (T0 a1) _ (fun rec v=>by kernel_rfl) k J
noncomputable def p (l0:((List Change)×Int)->Option Out) (a1:Arg):Option Out:=l0 (([]:List Change),ae ((a1.1.length:Int) - (1:Int)))
theorem aa (k:Nat) (a1:Arg):@Eq (Option Out) (D.W k a1) (p (r0 k a1) a1):=
 Eq.trans (b:=p (s0 k a1) a1) (by kernel_rfl) (by rw[au])
theorem ok:Ok prog 185 D.sig:=aq func185 aB (by kernel_rfl) (al _)
end fO
namespace cZ
abbrev Arg:Type:=(List Row)×(List Tx)×Unit
abbrev Out:Type:=(List Row)×Int×Unit
abbrev ps:PQ:=[(.ro,(.U aA)),(.ro,(.U aY))]
noncomputable def D:FD:={ fn:=f114,tl:=aL,ps:=ps,rs:=[((.U aA),(am (.U aA))),(i64,(ax i64))],gl:=[(183,d7.D.sig),(184,bV.D.sig),(185,fO.D.sig)],lv:=[(2,[0,9,10,11])],lx:=[(0,[0])],lf:=[(2,[(0,(.U false (.pair .leaf (.pair .leaf (.pair .leaf (.pair .leaf .leaf))))))])],od:=[(6,[0,1,2,3])] }
noncomputable def ab (a:Arg):Option Out:=@lift Out fun k=>D.W k a
noncomputable def T0 (a1:Arg) (J:(List Row)×Int):St:={ n:=30,sl:=[(0,.val (.U aA) J.1),(9,.val (.U aY) a1.2.1),(10,.val i64 (a1.2.1.length:Int)),(11,.val i64 J.2)],vr:=[],av:=[] }
noncomputable def b0 (self:((List Row)×Int)->Option Out) (e0:(List Row)->Option Out) (a1:Arg) (J:(List Row)×Int):Option Out:=bif decide (J.2 < (a1.2.1.length:Int)) then (if 0<=J.2 then ((a1.2.1[J.2.toNat]?).bind fun aC=>(fO.ab (aC.2.1,())).bind fun cb=>(bV.ab (J.1,cb.1,())).bind fun gU=>bif !decide (gU.1.1=(0:Int)) then (some (([]:List Row),gU.1.1,())) else self (gU.1.2.1,ae (J.2+(1:Int)))) else none) else e0 J.1
noncomputable abbrev B0 (_:Nat):=b0
noncomputable def q0 (a1:Arg) (kx:(List Row)):Option Out:=(d7.ab (kx,())).bind fun iU=>some (iU.1,(0:Int),())
noncomputable abbrev Q0 (_:Nat):=q0
noncomputable def s0 (k:Nat) (a1:Arg):((List Row)×Int)->Option Out:=fun J=>D.L k [1,0,1,0,0] [0,9,10,11] [(0,(.U false (.pair .leaf (.pair .leaf (.pair .leaf (.pair .leaf .leaf))))))] (af 0 (ao (D.N k [1,1]) D.K0)) (T0 a1 J)
noncomputable def r0 (k:Nat) (a1:Arg):((List Row)×Int)->Option Out:=ak (fun w v=>B0 k w (Q0 k a1) a1 v) k
theorem au (k:Nat) (a1:Arg):s0 k a1=r0 k a1:=
 funext fun J=>an _ _ _ (T0 a1) _ (fun rec v=>by kernel_rfl) k J
noncomputable def p (l0:((List Row)×Int)->Option Out) (a1:Arg):Option Out:=l0 (a1.1,(0:Int))
theorem aa (k:Nat) (a1:Arg):@Eq (Option Out) (D.W k a1) (p (r0 k a1) a1):=
 Eq.trans (b:=p (s0 k a1) a1) (by kernel_rfl) (by rw[au])
theorem ok:Ok prog 114 D.sig:=aq func114 aB (by kernel_rfl) (fc d7.ok (fc bV.ok (fc fO.ok (al _))))
end cZ
namespace gm
abbrev Arg:Type:=Change×Unit
abbrev Out:Type:=Int×Unit
abbrev ps:PQ:=[(.ro,ap)]
noncomputable def D:FD:={ fn:=f267,tl:=aL,ps:=ps,rs:=[(i64,(ax i64))],gl:=[(250,d8.D.sig)] }
noncomputable def ab (a:Arg):Option Out:=@lift Out fun k=>D.W k a
noncomputable def p (a1:Arg):Option Out:=(d8.ab (a1.1,())).bind fun r2=>bif !decide (r2.1=(0:Int)) then (some (r2.1,())) else bif a1.1.1 then (bif a1.1.2.2.1 then (bif (Ty.eq aA a1.1.2.1 a1.1.2.2.2.1) then (some ((1:Int),())) else some ((0:Int),())) else some ((0:Int),())) else some ((0:Int),())
theorem aa (k:Nat) (a1:Arg):@Eq (Option Out) (D.W k a1) (p a1):=by kernel_rfl
theorem ok:Ok prog 267 D.sig:=aq func267 aB (by kernel_rfl) (fc d8.ok (al _))
end gm
namespace dC
abbrev Arg:Type:=(List Key)×Key×Unit
abbrev Out:Type:=Int×Unit
abbrev ps:PQ:=[(.ro,(.U aE)),(.ro,aE)]
noncomputable def D:FD:={ fn:=f310,tl:=aL,ps:=ps,rs:=[(i64,(ax i64))],lv:=[(2,[0,3,7,8])],lx:=[(0,[])],od:=[(4,[0,1,2,3,4,5])] }
noncomputable def ab (a:Arg):Option Out:=@lift Out fun k=>D.W k a
noncomputable def T0 (a1:Arg) (J:Int):St:={ n:=19,sl:=[(0,.val (.U aE) a1.1),(3,.box aE (ax aE) [] a1.2.1),(7,.val i64 (a1.1.length:Int)),(8,.val i64 J)],vr:=[],av:=[] }
noncomputable def b0 (self:Int->Option Out) (e0:(Unit)->Option Out) (a1:Arg) (J:Int):Option Out:=bif decide (J < (a1.1.length:Int)) then (if 0<=J then ((a1.1[J.toNat]?).bind fun aC=>bif (Ty.eq aE a1.2.1 aC) then (some (J,())) else self (ae (J+(1:Int)))) else none) else e0 ()
noncomputable abbrev B0 (_:Nat):=b0
noncomputable def q0 (a1:Arg) (jc:(Unit)):Option Out:=some ((-1:Int),())
noncomputable abbrev Q0 (_:Nat):=q0
noncomputable def s0 (k:Nat) (a1:Arg):(Int)->Option Out:=fun J=>D.L k [1,0,1,0,0] [0,3,7,8] [] (af 0 (ao (D.N k [1,1]) D.K0)) (T0 a1 J)
noncomputable def r0 (k:Nat) (a1:Arg):(Int)->Option Out:=ak (fun w v=>B0 k w (Q0 k a1) a1 v) k
theorem au (k:Nat) (a1:Arg):s0 k a1=r0 k a1:=
 funext fun J=>an _ _ _ (T0 a1) _ (fun rec v=>by kernel_rfl) k J
noncomputable def p (l0:(Int)->Option Out) (a1:Arg):Option Out:=l0 (0:Int)
theorem aa (k:Nat) (a1:Arg):@Eq (Option Out) (D.W k a1) (p (r0 k a1) a1):=
 Eq.trans (b:=p (s0 k a1) a1) (by kernel_rfl) (by rw[au])
theorem ok:Ok prog 310 D.sig:=aq func310 aB (by kernel_rfl) (al _)
end dC
namespace ed
abbrev Arg:Type:=(List Key)×Key×Unit
abbrev Out:Type:=Bool×Unit
abbrev ps:PQ:=[(.ro,(.U aE)),(.ro,aE)]
noncomputable def D:FD:={ fn:=f268,tl:=aL,ps:=ps,rs:=[(.bool,(ax .bool))],gl:=[(310,dC.D.sig)] }
noncomputable def ab (a:Arg):Option Out:=@lift Out fun k=>D.W k a
noncomputable def p (a1:Arg):Option Out:=(dC.ab (a1.1,a1.2.1,())).bind fun r2=>some (decide ((0:Int)<=r2.1),())
theorem aa (k:Nat) (a1:Arg):@Eq (Option Out) (D.W k a1) (p a1):=by kernel_rfl
theorem ok:Ok prog 268 D.sig:=aq func268 aB (by kernel_rfl) (fc dC.ok (al _))
end ed
namespace gn
abbrev Arg:Type:=Change×Unit
abbrev Out:Type:=Key×Unit
abbrev ps:PQ:=[(.ro,ap)]
noncomputable def D:FD:={ fn:=f269,tl:=aL,ps:=ps,rs:=[(aE,(ax aE))],gl:=[(284,cI.D.sig)],od:=[(1,[0,3,1,2,4,5,6,7])] }
noncomputable def ab (a:Arg):Option Out:=@lift Out fun k=>D.W k a
noncomputable def p (a1:Arg):Option Out:=(cI.ab (a1.1,())).bind fun r2=>(cI.ab (a1.1,())).bind fun r3=>some ((r2.1.1,r3.1.2.1,()),())
theorem aa (k:Nat) (a1:Arg):@Eq (Option Out) (D.W k a1) (p a1):=by kernel_rfl
theorem ok:Ok prog 269 D.sig:=aq func269 aB (by kernel_rfl) (fc cI.ok (al _))
end gn
namespace kW
abbrev Arg:Type:=Int×Int×Unit
abbrev Out:Type:=Bool×Unit
abbrev ps:PQ:=[(.ro,i64),(.ro,i64)]
noncomputable def D:FD:={ fn:=f270,tl:=aL,ps:=ps,rs:=[(.bool,(ax .bool))],gl:=[(61,cq.D.sig)] }
noncomputable def ab (a:Arg):Option Out:=@lift Out fun k=>D.W k a
noncomputable def p (a1:Arg):Option Out:=(cq.ab (a1.1,(0:Int),(3:Int),())).bind fun r2=>bif r2.1 then ((cq.ab (a1.2.1,(1:Int),(99:Int),())).bind fun r3=>some (r3.1,())) else some (false,())
theorem aa (k:Nat) (a1:Arg):@Eq (Option Out) (D.W k a1) (p a1):=by kernel_rfl
theorem ok:Ok prog 270 D.sig:=aq func270 aB (by kernel_rfl) (fc cq.ok (al _))
end kW
namespace be
abbrev Arg:Type:=Tx×Unit
abbrev Out:Type:=Int×Unit
abbrev ps:PQ:=[(.ro,aY)]
noncomputable def D:FD:={ fn:=f204,tl:=aL,ps:=ps,rs:=[(i64,(ax i64))],gl:=[(61,cq.D.sig),(267,gm.D.sig),(268,ed.D.sig),(269,gn.D.sig),(270,kW.D.sig)],lv:=[(2,[1,12,13,14]),(14,[1,6,41,42,43]),(21,[1,57,58,59])],lx:=[(0,[1]),(2,[1]),(4,[])],od:=[(7,[0,1,2,3,4,5]),(25,[0,1,2,3,4,5])] }
noncomputable def ab (a:Arg):Option Out:=@lift Out fun k=>D.W k a
noncomputable def T0 (a1:Arg) (J:Int):St:={ n:=77,sl:=[(1,.box aY (ax aY) [] a1.1),(12,.val (.U ap) a1.1.2.1),(13,.val i64 (a1.1.2.1.length:Int)),(14,.val i64 J)],vr:=[],av:=[] }
noncomputable def S0 (rec:RT Out) (a1:Arg):(Int)->Option Out:=fun J=>rec (T0 a1 J)
noncomputable def bn (K:KT Out) (a1:Arg):(Unit)->Option Out:=fun z=>K (.exit 0) ({ n:=77,sl:=[(1,.box aY (ax aY) [] a1.1)],vr:=[],av:=[] })
noncomputable def b0 (self:Int->Option Out) (e0:(Unit)->Option Out) (a1:Arg) (J:Int):Option Out:=bif decide (J < (a1.1.2.1.length:Int)) then (if 0<=J then ((a1.1.2.1[J.toNat]?).bind fun aC=>(gm.ab (aC,())).bind fun cb=>bif !decide (cb.1=(0:Int)) then (some (cb.1,())) else (gn.ab (aC,())).bind fun gU=>(ed.ab (a1.1.2.2.2.1,gU.1,())).bind fun kw=>bif !kw.1 then (some ((8:Int),())) else self (ae (J+(1:Int)))) else none) else e0 ()
noncomputable abbrev B0 (_:Nat):=b0
theorem fX (k:Nat) (rec:RT Out) (K:KT Out) (a1:Arg) (J:Int):D.N k [1,0,1,0,0] (T0 a1 J) (dj rec (b9 [1,12,13,14] []) K)=b0 (S0 rec a1) (bn K a1) a1 J:=by kernel_rfl
noncomputable def T1 (a1:Arg) (bb:Int×Int):St:={ n:=77,sl:=[(1,.box aY (ax aY) [] a1.1),(6,.val i64 bb.1),(41,.val (.U i64) a1.1.2.2.1),(42,.val i64 (a1.1.2.2.1.length:Int)),(43,.val i64 bb.2)],vr:=[],av:=[] }
noncomputable def S1 (rec:RT Out) (a1:Arg):(Int×Int)->Option Out:=fun bb=>rec (T1 a1 bb)
noncomputable def dy (K:KT Out) (a1:Arg):(Unit)->Option Out:=fun z=>K (.exit 2) ({ n:=77,sl:=[(1,.box aY (ax aY) [] a1.1)],vr:=[],av:=[] })
noncomputable def b1 (self:(Int×Int)->Option Out) (e2:(Unit)->Option Out) (a1:Arg) (bb:Int×Int):Option Out:=bif decide (bb.2 < (a1.1.2.2.1.length:Int)) then (if 0<=bb.2 then ((a1.1.2.2.1[bb.2.toNat]?).bind fun wh=>(cq.ab (wh,bb.1,(a1.1.2.1.length:Int),())).bind fun qu=>bif !qu.1 then (some ((3:Int),())) else self (wh,ae (bb.2+(1:Int)))) else none) else e2 ()
noncomputable abbrev B1 (_:Nat):=b1
theorem lX (k:Nat) (rec:RT Out) (K:KT Out) (a1:Arg) (bb:Int×Int):D.N k [1,1,1,1,0,1,0,0] (T1 a1 bb) (dj rec (b9 [1,6,41,42,43] []) K)=b1 (S1 rec a1) (dy K a1) a1 bb:=by kernel_rfl
noncomputable def T2 (a1:Arg) (gb:Int):St:={ n:=77,sl:=[(1,.box aY (ax aY) [] a1.1),(57,.val (.U aE) a1.1.2.2.2.1),(58,.val i64 (a1.1.2.2.2.1.length:Int)),(59,.val i64 gb)],vr:=[],av:=[] }
noncomputable def b2 (self:Int->Option Out) (e4:(Unit)->Option Out) (a1:Arg) (gb:Int):Option Out:=bif decide (gb < (a1.1.2.2.2.1.length:Int)) then (if 0<=gb then ((a1.1.2.2.2.1[gb.toNat]?).bind fun tO=>(kW.ab (tO.1,tO.2.1,())).bind fun Gx=>bif !Gx.1 then (some ((3:Int),())) else if 0<=gb/\gb<=(a1.1.2.2.2.1.length:Int) then ((ed.ab ((a1.1.2.2.2.1.take gb.toNat).drop 0,tO,())).bind fun Po=>bif Po.1 then (some ((6:Int),())) else self (ae (gb+(1:Int)))) else none) else none) else e4 ()
noncomputable abbrev B2 (_:Nat):=b2
noncomputable def q2 (a1:Arg) (np:(Unit)):Option Out:=some ((0:Int),())
noncomputable abbrev Q2 (_:Nat):=q2
noncomputable def s2 (k:Nat) (a1:Arg):(Int)->Option Out:=fun gb=>D.L k [1,1,1,1,1,0,1,0,0] [1,57,58,59] [] (af 4 (ao (D.N k [1,1,1,1,1,1]) D.K0)) (T2 a1 gb)
noncomputable def r2 (k:Nat) (a1:Arg):(Int)->Option Out:=ak (fun w v=>B2 k w (Q2 k a1) a1 v) k
theorem kR (k:Nat) (a1:Arg):s2 k a1=r2 k a1:=
 funext fun gb=>an _ _ _ (T2 a1) _ (fun rec v=>by kernel_rfl) k gb
noncomputable def q1 (l2:(Int)->Option Out) (a1:Arg) (tL:(Unit)):Option Out:=l2 (0:Int)
noncomputable def Q1 (k:Nat) (a1:Arg) (tL:(Unit)):Option Out:=q1 (r2 k a1) a1 tL
theorem lY (k:Nat) (a1:Arg) (tL:(Unit)):dy (af 2 (ao (D.N k [1,1,1,1,1]) D.K0)) a1 tL=Q1 k a1 tL:=
 Eq.trans (b:=q1 (s2 k a1) a1 tL) (by kernel_rfl) (by rw[kR];rfl)
noncomputable def s1 (k:Nat) (a1:Arg):(Int×Int)->Option Out:=fun bb=>D.L k [1,1,1,1,0,1,0,0] [1,6,41,42,43] [] (af 2 (ao (D.N k [1,1,1,1,1]) D.K0)) (T1 a1 bb)
noncomputable def r1 (k:Nat) (a1:Arg):(Int×Int)->Option Out:=ak (fun w v=>B1 k w (Q1 k a1) a1 v) k
theorem fY (k:Nat) (a1:Arg):s1 k a1=r1 k a1:=by
 funext bb;
 have Y:dy (af 2 (ao (D.N k [1,1,1,1,1]) D.K0)) a1=Q1 k a1:=funext fun z=>lY k a1 z
 refine (an _ _ _ (T1 a1) (fun self v=>B1 k self (dy (af 2 (ao (D.N k [1,1,1,1,1]) D.K0)) a1) a1 v) (fun rec v=>lX k rec (af 2 (ao (D.N k [1,1,1,1,1]) D.K0)) a1 v) k bb).trans ?_
 rw[Y]
 rfl
noncomputable def q0 (l1:(Int×Int)->Option Out) (a1:Arg) (gg:(Unit)):Option Out:=bif decide ((8:Int) < (a1.1.2.2.1.length:Int)) then (some ((2:Int),())) else bif decide ((12:Int) < (a1.1.2.2.2.1.length:Int)) then (some ((2:Int),())) else l1 ((0:Int),(0:Int))
noncomputable def Q0 (k:Nat) (a1:Arg) (gg:(Unit)):Option Out:=q0 (r1 k a1) a1 gg
theorem kS (k:Nat) (a1:Arg) (gg:(Unit)):bn (af 0 (ao (D.N k [1,1]) D.K0)) a1 gg=Q0 k a1 gg:=
 Eq.trans (b:=q0 (s1 k a1) a1 gg) (by kernel_rfl) (by rw[fY];rfl)
noncomputable def s0 (k:Nat) (a1:Arg):(Int)->Option Out:=fun J=>D.L k [1,0,1,0,0] [1,12,13,14] [] (af 0 (ao (D.N k [1,1]) D.K0)) (T0 a1 J)
noncomputable def r0 (k:Nat) (a1:Arg):(Int)->Option Out:=ak (fun w v=>B0 k w (Q0 k a1) a1 v) k
theorem au (k:Nat) (a1:Arg):s0 k a1=r0 k a1:=by
 funext J;
 have h0:bn (af 0 (ao (D.N k [1,1]) D.K0)) a1=Q0 k a1:=funext fun z=>kS k a1 z
 refine (an _ _ _ (T0 a1) (fun self v=>B0 k self (bn (af 0 (ao (D.N k [1,1]) D.K0)) a1) a1 v) (fun rec v=>fX k rec (af 0 (ao (D.N k [1,1]) D.K0)) a1 v) k J).trans ?_
 rw[h0]
 rfl
noncomputable def p (l0:(Int)->Option Out) (a1:Arg):Option Out:=l0 (0:Int)
theorem aa (k:Nat) (a1:Arg):@Eq (Option Out) (D.W k a1) (p (r0 k a1) a1):=
 Eq.trans (b:=p (s0 k a1) a1) (by kernel_rfl) (by rw[au])
theorem ok:Ok prog 204 D.sig:=aq func204 aB (by kernel_rfl) (fc cq.ok (fc gm.ok (fc ed.ok (fc gn.ok (fc kW.ok (al _))))))
end be
namespace gu
abbrev Arg:Type:=(List Tx)×Unit
abbrev Out:Type:=Int×Unit
abbrev ps:PQ:=[(.ro,(.U aY))]
noncomputable def D:FD:={ fn:=f205,tl:=aL,ps:=ps,rs:=[(i64,(ax i64))],lv:=[(3,[3,6,7,8])],lx:=[(0,[3])] }
noncomputable def ab (a:Arg):Option Out:=@lift Out fun k=>D.W k a
noncomputable def T0 (a1:Arg) (J:Int×Int):St:={ n:=19,sl:=[(3,.val i64 J.1),(6,.val (.U aY) a1.1),(7,.val i64 (a1.1.length:Int)),(8,.val i64 J.2)],vr:=[],av:=[] }
noncomputable def b0 (self:(Int×Int)->Option Out) (e0:Int->Option Out) (a1:Arg) (J:Int×Int):Option Out:=bif decide (J.2 < (a1.1.length:Int)) then (if 0<=J.2 then ((a1.1[J.2.toNat]?).bind fun aC=>self (ae (J.1+(aC.2.1.length:Int)),ae (J.2+(1:Int)))) else none) else e0 J.1
noncomputable abbrev B0 (_:Nat):=b0
noncomputable def q0 (a1:Arg) (jc:Int):Option Out:=some (jc,())
noncomputable abbrev Q0 (_:Nat):=q0
noncomputable def s0 (k:Nat) (a1:Arg):(Int×Int)->Option Out:=fun J=>D.L k [1,1,0,1,0,0] [3,6,7,8] [] (af 0 (ao (D.N k [1,1,1]) D.K0)) (T0 a1 J)
noncomputable def r0 (k:Nat) (a1:Arg):(Int×Int)->Option Out:=ak (fun w v=>B0 k w (Q0 k a1) a1 v) k
theorem au (k:Nat) (a1:Arg):s0 k a1=r0 k a1:=
 funext fun J=>an _ _ _ (T0 a1) _ (fun rec v=>by kernel_rfl) k J
noncomputable def p (l0:(Int×Int)->Option Out) (a1:Arg):Option Out:=l0 ((0:Int),(0:Int))
theorem aa (k:Nat) (a1:Arg):@Eq (Option Out) (D.W k a1) (p (r0 k a1) a1):=
 Eq.trans (b:=p (s0 k a1) a1) (by kernel_rfl) (by rw[au])
theorem ok:Ok prog 205 D.sig:=aq func205 aB (by kernel_rfl) (al _)
end gu
namespace aW
abbrev Arg:Type:=(List Tx)×Unit
abbrev Out:Type:=Int×Unit
abbrev ps:PQ:=[(.ro,(.U aY))]
noncomputable def D:FD:={ fn:=f133,tl:=aL,ps:=ps,rs:=[(i64,(ax i64))],gl:=[(203,ju.D.sig),(204,be.D.sig),(205,gu.D.sig)],lv:=[(4,[0,14,15,16]),(16,[0,6,45,46,47]),(19,[0,6,45,46,47,52,53,54])],lx:=[(0,[0]),(2,[0]),(4,[0,6,45,46,47])],od:=[(8,[0,1,2,3,4,5,6,7,8,9,10,11,12])] }
noncomputable def ab (a:Arg):Option Out:=@lift Out fun k=>D.W k a
noncomputable def T0 (a1:Arg) (J:Int):St:={ n:=68,sl:=[(0,.val (.U aY) a1.1),(14,.val (.U aY) a1.1),(15,.val i64 (a1.1.length:Int)),(16,.val i64 J)],vr:=[],av:=[] }
noncomputable def S0 (rec:RT Out) (a1:Arg):(Int)->Option Out:=fun J=>rec (T0 a1 J)
noncomputable def bn (K:KT Out) (a1:Arg):(Unit)->Option Out:=fun z=>K (.exit 0) ({ n:=68,sl:=[(0,.val (.U aY) a1.1)],vr:=[],av:=[] })
noncomputable def b0 (self:Int->Option Out) (e0:(Unit)->Option Out) (a1:Arg) (J:Int):Option Out:=bif decide (J < (a1.1.length:Int)) then (if 0<=J then ((a1.1[J.toNat]?).bind fun aC=>(ju.ab (aC.1,())).bind fun cb=>bif !cb.1 then (some ((3:Int),())) else bif decide ((0:Int) < J) then (if 0<=ae (J - (1:Int)) then ((a1.1[(ae (J - (1:Int))).toNat]?).bind fun cg=>bif decide (aC.1<=cg.1) then (some ((1:Int),())) else (be.ab (aC,())).bind fun iU=>bif !decide (iU.1=(0:Int)) then (some (iU.1,())) else self (ae (J+(1:Int)))) else none) else (be.ab (aC,())).bind fun tP=>bif !decide (tP.1=(0:Int)) then (some (tP.1,())) else self (ae (J+(1:Int)))) else none) else e0 ()
noncomputable abbrev B0 (_:Nat):=b0
theorem fX (k:Nat) (rec:RT Out) (K:KT Out) (a1:Arg) (J:Int):D.N k [1,1,0,1,0,0] (T0 a1 J) (dj rec (b9 [0,14,15,16] []) K)=b0 (S0 rec a1) (bn K a1) a1 J:=by kernel_rfl
noncomputable def T1 (a1:Arg) (cG:(List Tx)×(List (Key×Bool))×(List Tx)×Int×Int):St:={ n:=68,sl:=[(0,.val (.U aY) cG.1),(6,.own (.map aE .bool) (am (.map aE .bool)) [] cG.2.1),(45,.val (.U aY) cG.2.2.1),(46,.val i64 cG.2.2.2.1),(47,.val i64 cG.2.2.2.2)],vr:=[],av:=[] }
noncomputable def S1 (rec:RT Out) (a1:Arg):((List Tx)×(List (Key×Bool))×(List Tx)×Int×Int)->Option Out:=fun cG=>rec (T1 a1 cG)
noncomputable def dy (K:KT Out) (a1:Arg):(List Tx)->Option Out:=fun z=>K (.exit 2) ({ n:=68,sl:=[(0,.val (.U aY) z)],vr:=[],av:=[] })
noncomputable def T2 (a1:Arg) (bA:List Tx) (iq:List Tx) (ir:Int) (it:Int) (iu:List Key) (oT:Int) (gb:(List (Key×Bool))×Int):St:={ n:=68,sl:=[(0,.val (.U aY) bA),(6,.own (.map aE .bool) (am (.map aE .bool)) [] gb.1),(45,.val (.U aY) iq),(46,.val i64 ir),(47,.val i64 it),(52,.val (.U aE) iu),(53,.val i64 oT),(54,.val i64 gb.2)],vr:=[],av:=[] }
noncomputable def b2 (self:((List (Key×Bool))×Int)->Option Out) (e4:(List (Key×Bool))->Option Out) (a1:Arg) (bA:List Tx) (iq:List Tx) (ir:Int) (it:Int) (iu:List Key) (oT:Int) (gb:(List (Key×Bool))×Int):Option Out:=bif decide (gb.2 < oT) then (if 0<=gb.2 then ((iu[gb.2.toNat]?).bind fun GB=>bif qQ (dr aE gb.1 GB) false then (some ((7:Int),())) else self (gG aE gb.1 GB true,ae (gb.2+(1:Int)))) else none) else e4 gb.1
noncomputable abbrev B2 (_:Nat):=b2
noncomputable def q1 (self:((List Tx)×(List (Key×Bool))×(List Tx)×Int×Int)->Option Out) (e2:(List Tx)->Option Out) (a1:Arg) (bA:List Tx) (iq:List Tx) (ir:Int) (it:Int) (iu:List Key) (oT:Int) (GC:(List (Key×Bool))):Option Out:=self (bA,GC,iq,ir,ae (it+(1:Int)))
noncomputable abbrev Q1 (_:Nat):=q1
noncomputable def s2 (k:Nat) (rec:RT Out) (K:KT Out) (a1:Arg):(List Tx)->(List Tx)->Int->Int->(List Key)->Int->((List (Key×Bool))×Int)->Option Out:=fun bA iq ir it iu oT=>fun gb=>D.L k [1,1,1,1,0,1,0,0,1,1,0,0,1,1,0,0] [0,6,45,46,47,52,53,54] [] (af 4 (af 3 (ao (D.N k [1,1,1,1,0,1,0,0,1,1,1]) (dj rec (b9 [0,6,45,46,47] []) K)))) (T2 a1 bA iq ir it iu oT gb)
noncomputable def r2 (k:Nat) (self:((List Tx)×(List (Key×Bool))×(List Tx)×Int×Int)->Option Out) (e2:(List Tx)->Option Out) (a1:Arg):(List Tx)->(List Tx)->Int->Int->(List Key)->Int->((List (Key×Bool))×Int)->Option Out:=fun bA iq ir it iu oT=>ak (fun w v=>B2 k w (Q1 k self e2 a1 bA iq ir it iu oT) a1 bA iq ir it iu oT v) k
theorem kR (k:Nat) (rec:RT Out) (K:KT Out) (a1:Arg):s2 k rec K a1=r2 k (S1 rec a1) (dy K a1) a1:=
 funext fun bA=>funext fun iq=>funext fun ir=>funext fun it=>funext fun iu=>funext fun oT=>funext fun gb=>an _ _ _ (T2 a1 bA iq ir it iu oT) _ (fun rec v=>by kernel_rfl) k gb
noncomputable def b1 (self:((List Tx)×(List (Key×Bool))×(List Tx)×Int×Int)->Option Out) (e2:(List Tx)->Option Out) (l2:(List Tx)->(List Tx)->Int->Int->(List Key)->Int->((List (Key×Bool))×Int)->Option Out) (a1:Arg) (cG:(List Tx)×(List (Key×Bool))×(List Tx)×Int×Int):Option Out:=bif decide (cG.2.2.2.2 < cG.2.2.2.1) then (if 0<=cG.2.2.2.2 then ((cG.2.2.1[cG.2.2.2.2.toNat]?).bind fun wj=>l2 cG.1 cG.2.2.1 cG.2.2.2.1 cG.2.2.2.2 wj.2.2.2.1 (wj.2.2.2.1.length:Int) (cG.2.1,(0:Int))) else none) else e2 cG.1
noncomputable def B1 (k:Nat) (self:((List Tx)×(List (Key×Bool))×(List Tx)×Int×Int)->Option Out) (e2:(List Tx)->Option Out) (a1:Arg) (cG:(List Tx)×(List (Key×Bool))×(List Tx)×Int×Int):Option Out:=b1 self e2 (r2 k self e2 a1) a1 cG
theorem lX (k:Nat) (rec:RT Out) (K:KT Out) (a1:Arg) (cG:(List Tx)×(List (Key×Bool))×(List Tx)×Int×Int):D.N k [1,1,1,1,0,1,0,0] (T1 a1 cG) (dj rec (b9 [0,6,45,46,47] []) K)=B1 k (S1 rec a1) (dy K a1) a1 cG:=
 Eq.trans (b:=b1 (S1 rec a1) (dy K a1) (s2 k rec K a1) a1 cG) (by kernel_rfl) (by rw[kR];rfl)
noncomputable def q2 (a1:Arg) (nM:(List Tx)):Option Out:=(gu.ab (nM,())).bind fun Pp=>bif decide ((12:Int) < Pp.1) then (some ((2:Int),())) else some ((0:Int),())
noncomputable abbrev Q2 (_:Nat):=q2
theorem nq (k:Nat) (a1:Arg) (nM:(List Tx)):dy (af 2 (ao (D.N k [1,1,1,1,1]) D.K0)) a1 nM=q2 a1 nM:=by kernel_rfl
noncomputable def s1 (k:Nat) (a1:Arg):((List Tx)×(List (Key×Bool))×(List Tx)×Int×Int)->Option Out:=fun cG=>D.L k [1,1,1,1,0,1,0,0] [0,6,45,46,47] [] (af 2 (ao (D.N k [1,1,1,1,1]) D.K0)) (T1 a1 cG)
noncomputable def r1 (k:Nat) (a1:Arg):((List Tx)×(List (Key×Bool))×(List Tx)×Int×Int)->Option Out:=ak (fun w v=>B1 k w (Q2 k a1) a1 v) k
theorem fY (k:Nat) (a1:Arg):s1 k a1=r1 k a1:=by
 funext cG;
 have Y:dy (af 2 (ao (D.N k [1,1,1,1,1]) D.K0)) a1=Q2 k a1:=funext fun z=>nq k a1 z
 refine (an _ _ _ (T1 a1) (fun self v=>B1 k self (dy (af 2 (ao (D.N k [1,1,1,1,1]) D.K0)) a1) a1 v) (fun rec v=>lX k rec (af 2 (ao (D.N k [1,1,1,1,1]) D.K0)) a1 v) k cG).trans ?_
 rw[Y]
 rfl
noncomputable def q0 (l1:((List Tx)×(List (Key×Bool))×(List Tx)×Int×Int)->Option Out) (a1:Arg) (tS:(Unit)):Option Out:=l1 (a1.1,([]:List (Key×Bool)),a1.1,(a1.1.length:Int),(0:Int))
noncomputable def Q0 (k:Nat) (a1:Arg) (tS:(Unit)):Option Out:=q0 (r1 k a1) a1 tS
theorem kS (k:Nat) (a1:Arg) (tS:(Unit)):bn (af 0 (ao (D.N k [1,1,1]) D.K0)) a1 tS=Q0 k a1 tS:=
 Eq.trans (b:=q0 (s1 k a1) a1 tS) (by kernel_rfl) (by rw[fY];rfl)
noncomputable def s0 (k:Nat) (a1:Arg):(Int)->Option Out:=fun J=>D.L k [1,1,0,1,0,0] [0,14,15,16] [] (af 0 (ao (D.N k [1,1,1]) D.K0)) (T0 a1 J)
noncomputable def r0 (k:Nat) (a1:Arg):(Int)->Option Out:=ak (fun w v=>B0 k w (Q0 k a1) a1 v) k
theorem au (k:Nat) (a1:Arg):s0 k a1=r0 k a1:=by
 funext J;
 have h0:bn (af 0 (ao (D.N k [1,1,1]) D.K0)) a1=Q0 k a1:=funext fun z=>kS k a1 z
 refine (an _ _ _ (T0 a1) (fun self v=>B0 k self (bn (af 0 (ao (D.N k [1,1,1]) D.K0)) a1) a1 v) (fun rec v=>fX k rec (af 0 (ao (D.N k [1,1,1]) D.K0)) a1 v) k J).trans ?_
 rw[h0]
 rfl
noncomputable def p (l0:(Int)->Option Out) (a1:Arg):Option Out:=bif decide ((4:Int) < (a1.1.length:Int)) then (some ((2:Int),())) else l0 (0:Int)
theorem aa (k:Nat) (a1:Arg):@Eq (Option Out) (D.W k a1) (p (r0 k a1) a1):=
 Eq.trans (b:=p (s0 k a1) a1) (by kernel_rfl) (by rw[au])
theorem ok:Ok prog 133 D.sig:=aq func133 aB (by kernel_rfl) (fc ju.ok (fc be.ok (fc gu.ok (al _))))
end aW
namespace bE
abbrev Arg:Type:=(List Row)×(List Tx)×Unit
abbrev Out:Type:=(List (Key×Bool))×Unit
abbrev ps:PQ:=[(.ro,(.U aA)),(.ro,(.U aY))]
noncomputable def D:FD:={ fn:=f134,tl:=aL,ps:=ps,rs:=[((.map aE .bool),(am (.map aE .bool)))],lv:=[(3,[1,5,13,14,15]),(8,[5,26,27,28]),(11,[5,26,27,28,33,34,35])],lx:=[(0,[1,5]),(2,[5]),(4,[5,26,27,28])] }
noncomputable def ab (a:Arg):Option Out:=@lift Out fun k=>D.W k a
noncomputable def T0 (a1:Arg) (J:(List (Key×Bool))×Int):St:={ n:=44,sl:=[(1,.val (.U aY) a1.2.1),(5,.own (.map aE .bool) (am (.map aE .bool)) [] J.1),(13,.val (.U aA) a1.1),(14,.val i64 (a1.1.length:Int)),(15,.val i64 J.2)],vr:=[],av:=[] }
noncomputable def S0 (rec:RT Out) (a1:Arg):((List (Key×Bool))×Int)->Option Out:=fun J=>rec (T0 a1 J)
noncomputable def bn (K:KT Out) (a1:Arg):(List (Key×Bool))->Option Out:=fun z=>K (.exit 0) ({ n:=44,sl:=[(1,.val (.U aY) a1.2.1),(5,.own (.map aE .bool) (am (.map aE .bool)) [] z)],vr:=[],av:=[] })
noncomputable def b0 (self:((List (Key×Bool))×Int)->Option Out) (e0:(List (Key×Bool))->Option Out) (a1:Arg) (J:(List (Key×Bool))×Int):Option Out:=bif decide (J.2 < (a1.1.length:Int)) then (if 0<=J.2 then ((a1.1[J.2.toNat]?).bind fun aC=>let im:=gG aE J.1 (aC.1,aC.2.1,()) true;self (im,ae (J.2+(1:Int)))) else none) else e0 J.1
noncomputable abbrev B0 (_:Nat):=b0
theorem fX (k:Nat) (rec:RT Out) (K:KT Out) (a1:Arg) (J:(List (Key×Bool))×Int):D.N k [1,1,0,1,0,0] (T0 a1 J) (dj rec (b9 [1,5,13,14,15] []) K)=b0 (S0 rec a1) (bn K a1) a1 J:=by kernel_rfl
noncomputable def T1 (a1:Arg) (bH:(List (Key×Bool))×(List Tx)×Int×Int):St:={ n:=44,sl:=[(5,.own (.map aE .bool) (am (.map aE .bool)) [] bH.1),(26,.val (.U aY) bH.2.1),(27,.val i64 bH.2.2.1),(28,.val i64 bH.2.2.2)],vr:=[],av:=[] }
noncomputable def S1 (rec:RT Out) (a1:Arg):((List (Key×Bool))×(List Tx)×Int×Int)->Option Out:=fun bH=>rec (T1 a1 bH)
noncomputable def dy (K:KT Out) (a1:Arg):(List (Key×Bool))->Option Out:=fun z=>K (.exit 2) ({ n:=44,sl:=[(5,.own (.map aE .bool) (am (.map aE .bool)) [] z)],vr:=[],av:=[] })
noncomputable def T2 (a1:Arg) (oU:List Tx) (gK:Int) (dJ:Int) (ct:List Key) (bA:Int) (ns:(List (Key×Bool))×Int):St:={ n:=44,sl:=[(5,.own (.map aE .bool) (am (.map aE .bool)) [] ns.1),(26,.val (.U aY) oU),(27,.val i64 gK),(28,.val i64 dJ),(33,.val (.U aE) ct),(34,.val i64 bA),(35,.val i64 ns.2)],vr:=[],av:=[] }
noncomputable def b2 (self:((List (Key×Bool))×Int)->Option Out) (e4:(List (Key×Bool))->Option Out) (a1:Arg) (oU:List Tx) (gK:Int) (dJ:Int) (ct:List Key) (bA:Int) (ns:(List (Key×Bool))×Int):Option Out:=bif decide (ns.2 < bA) then (if 0<=ns.2 then ((ct[ns.2.toNat]?).bind fun Gn=>self (gG aE ns.1 Gn true,ae (ns.2+(1:Int)))) else none) else e4 ns.1
noncomputable abbrev B2 (_:Nat):=b2
noncomputable def q1 (self:((List (Key×Bool))×(List Tx)×Int×Int)->Option Out) (e2:(List (Key×Bool))->Option Out) (a1:Arg) (oU:List Tx) (gK:Int) (dJ:Int) (ct:List Key) (bA:Int) (wi:(List (Key×Bool))):Option Out:=self (wi,oU,gK,ae (dJ+(1:Int)))
noncomputable abbrev Q1 (_:Nat):=q1
noncomputable def s2 (k:Nat) (rec:RT Out) (K:KT Out) (a1:Arg):(List Tx)->Int->Int->(List Key)->Int->((List (Key×Bool))×Int)->Option Out:=fun oU gK dJ ct bA=>fun ns=>D.L k [1,1,1,0,1,0,0,1,1,0,0,1,1,0,0] [5,26,27,28,33,34,35] [] (af 4 (af 3 (ao (D.N k [1,1,1,0,1,0,0,1,1,1]) (dj rec (b9 [5,26,27,28] []) K)))) (T2 a1 oU gK dJ ct bA ns)
noncomputable def r2 (k:Nat) (self:((List (Key×Bool))×(List Tx)×Int×Int)->Option Out) (e2:(List (Key×Bool))->Option Out) (a1:Arg):(List Tx)->Int->Int->(List Key)->Int->((List (Key×Bool))×Int)->Option Out:=fun oU gK dJ ct bA=>ak (fun w v=>B2 k w (Q1 k self e2 a1 oU gK dJ ct bA) a1 oU gK dJ ct bA v) k
theorem kR (k:Nat) (rec:RT Out) (K:KT Out) (a1:Arg):s2 k rec K a1=r2 k (S1 rec a1) (dy K a1) a1:=
 funext fun oU=>funext fun gK=>funext fun dJ=>funext fun ct=>funext fun bA=>funext fun ns=>an _ _ _ (T2 a1 oU gK dJ ct bA) _ (fun rec v=>by kernel_rfl) k ns
noncomputable def b1 (self:((List (Key×Bool))×(List Tx)×Int×Int)->Option Out) (e2:(List (Key×Bool))->Option Out) (l2:(List Tx)->Int->Int->(List Key)->Int->((List (Key×Bool))×Int)->Option Out) (a1:Arg) (bH:(List (Key×Bool))×(List Tx)×Int×Int):Option Out:=bif decide (bH.2.2.2 < bH.2.2.1) then (if 0<=bH.2.2.2 then ((bH.2.1[bH.2.2.2.toNat]?).bind fun tK=>l2 bH.2.1 bH.2.2.1 bH.2.2.2 tK.2.2.2.1 (tK.2.2.2.1.length:Int) (bH.1,(0:Int))) else none) else e2 bH.1
noncomputable def B1 (k:Nat) (self:((List (Key×Bool))×(List Tx)×Int×Int)->Option Out) (e2:(List (Key×Bool))->Option Out) (a1:Arg) (bH:(List (Key×Bool))×(List Tx)×Int×Int):Option Out:=b1 self e2 (r2 k self e2 a1) a1 bH
theorem lX (k:Nat) (rec:RT Out) (K:KT Out) (a1:Arg) (bH:(List (Key×Bool))×(List Tx)×Int×Int):D.N k [1,1,1,0,1,0,0] (T1 a1 bH) (dj rec (b9 [5,26,27,28] []) K)=B1 k (S1 rec a1) (dy K a1) a1 bH:=
 Eq.trans (b:=b1 (S1 rec a1) (dy K a1) (s2 k rec K a1) a1 bH) (by kernel_rfl) (by rw[kR];rfl)
noncomputable def q2 (a1:Arg) (np:(List (Key×Bool))):Option Out:=some (np,())
noncomputable abbrev Q2 (_:Nat):=q2
theorem nq (k:Nat) (a1:Arg) (np:(List (Key×Bool))):dy (af 2 (ao (D.N k [1,1,1,1]) D.K0)) a1 np=q2 a1 np:=by kernel_rfl
noncomputable def s1 (k:Nat) (a1:Arg):((List (Key×Bool))×(List Tx)×Int×Int)->Option Out:=fun bH=>D.L k [1,1,1,0,1,0,0] [5,26,27,28] [] (af 2 (ao (D.N k [1,1,1,1]) D.K0)) (T1 a1 bH)
noncomputable def r1 (k:Nat) (a1:Arg):((List (Key×Bool))×(List Tx)×Int×Int)->Option Out:=ak (fun w v=>B1 k w (Q2 k a1) a1 v) k
theorem fY (k:Nat) (a1:Arg):s1 k a1=r1 k a1:=by
 funext bH;
 have Y:dy (af 2 (ao (D.N k [1,1,1,1]) D.K0)) a1=Q2 k a1:=funext fun z=>nq k a1 z
 refine (an _ _ _ (T1 a1) (fun self v=>B1 k self (dy (af 2 (ao (D.N k [1,1,1,1]) D.K0)) a1) a1 v) (fun rec v=>lX k rec (af 2 (ao (D.N k [1,1,1,1]) D.K0)) a1 v) k bH).trans ?_
 rw[Y]
 rfl
noncomputable def q0 (l1:((List (Key×Bool))×(List Tx)×Int×Int)->Option Out) (a1:Arg) (bQ:(List (Key×Bool))):Option Out:=l1 (bQ,a1.2.1,(a1.2.1.length:Int),(0:Int))
noncomputable def Q0 (k:Nat) (a1:Arg) (bQ:(List (Key×Bool))):Option Out:=q0 (r1 k a1) a1 bQ
theorem kS (k:Nat) (a1:Arg) (bQ:(List (Key×Bool))):bn (af 0 (ao (D.N k [1,1,1]) D.K0)) a1 bQ=Q0 k a1 bQ:=
 Eq.trans (b:=q0 (s1 k a1) a1 bQ) (by kernel_rfl) (by rw[fY];rfl)
noncomputable def s0 (k:Nat) (a1:Arg):((List (Key×Bool))×Int)->Option Out:=fun J=>D.L k [1,1,0,1,0,0] [1,5,13,14,15] [] (af 0 (ao (D.N k [1,1,1]) D.K0)) (T0 a1 J)
noncomputable def r0 (k:Nat) (a1:Arg):((List (Key×Bool))×Int)->Option Out:=ak (fun w v=>B0 k w (Q0 k a1) a1 v) k
theorem au (k:Nat) (a1:Arg):s0 k a1=r0 k a1:=by
 funext J;
 have h0:bn (af 0 (ao (D.N k [1,1,1]) D.K0)) a1=Q0 k a1:=funext fun z=>kS k a1 z
 refine (an _ _ _ (T0 a1) (fun self v=>B0 k self (bn (af 0 (ao (D.N k [1,1,1]) D.K0)) a1) a1 v) (fun rec v=>fX k rec (af 0 (ao (D.N k [1,1,1]) D.K0)) a1 v) k J).trans ?_
 rw[h0]
 rfl
noncomputable def p (l0:((List (Key×Bool))×Int)->Option Out) (a1:Arg):Option Out:=l0 (([]:List (Key×Bool)),(0:Int))
theorem aa (k:Nat) (a1:Arg):@Eq (Option Out) (D.W k a1) (p (r0 k a1) a1):=
 Eq.trans (b:=p (s0 k a1) a1) (by kernel_rfl) (by rw[au])
theorem ok:Ok prog 134 D.sig:=aq func134 aB (by kernel_rfl) (al _)
end bE
namespace gF
abbrev Arg:Type:=Plain×Unit
abbrev Out:Type:=Int×Unit
abbrev ps:PQ:=[(.ro,sM)]
noncomputable def D:FD:={ fn:=f63,tl:=aL,ps:=ps,rs:=[(i64,(ax i64))],gl:=[(61,cq.D.sig),(114,cZ.D.sig),(132,bR.D.sig),(133,aW.D.sig),(134,bE.D.sig)],od:=[(7,[0,1,2,3,4,5,6,7,8,9,10,11,12,13,14,15,16,17,18,19,20,21,22,23])],ar:=[(7,[1,6,11,13,18,20])],bx:=[(7,[1])] }
noncomputable def ab (a:Arg):Option Out:=@lift Out fun k=>D.W k a
noncomputable def p (a1:Arg):Option Out:=(bR.ab (a1.1.1,())).bind fun r2=>bif !decide (r2.1=(0:Int)) then (some (r2.1,())) else (aW.ab (a1.1.2.1,())).bind fun r3=>bif !decide (r3.1=(0:Int)) then (some (r3.1,())) else let j8:Option Out:=(bE.ab (a1.1.1,a1.1.2.1,())).bind fun r9=>bif decide ((12:Int) < (r9.1.length:Int)) then (some ((2:Int),())) else (cZ.ab (a1.1.1,a1.1.2.1,())).bind fun CK=>bif !decide (CK.2.1=(0:Int)) then (some ((8:Int),())) else some ((0:Int),());(cq.ab (a1.1.2.2.1,(1:Int),(100:Int),())).bind fun r4=>bif !r4.1 then (some ((3:Int),())) else bif decide ((0:Int) < (a1.1.2.1.length:Int)) then (if 0<=ae ((a1.1.2.1.length:Int) - (1:Int)) then ((a1.1.2.1[(ae ((a1.1.2.1.length:Int) - (1:Int))).toNat]?).bind fun x5=>bif decide (a1.1.2.2.1<=x5.1) then (some ((3:Int),())) else j8) else none) else j8
theorem aa (k:Nat) (a1:Arg):@Eq (Option Out) (D.W k a1) (p a1):=by kernel_rfl
theorem ok:Ok prog 63 D.sig:=aq func63 aB (by kernel_rfl) (fc cq.ok (fc cZ.ok (fc bR.ok (fc aW.ok (fc bE.ok (al _))))))
end gF
namespace fE
abbrev Arg:Type:=(List Seen)×Unit
abbrev Out:Type:=(List Row)×Unit
abbrev ps:PQ:=[(.ro,(.U cP))]
noncomputable def D:FD:={ fn:=f64,tl:=aL,ps:=ps,rs:=[((.U aA),(am (.U aA)))],lv:=[(3,[3,6,7,8])],lx:=[(0,[3])] }
noncomputable def ab (a:Arg):Option Out:=@lift Out fun k=>D.W k a
noncomputable def T0 (a1:Arg) (J:(List Row)×Int):St:={ n:=19,sl:=[(3,.own (.U aA) (am (.U aA)) [] J.1),(6,.val (.U cP) a1.1),(7,.val i64 (a1.1.length:Int)),(8,.val i64 J.2)],vr:=[],av:=[] }
noncomputable def b0 (self:((List Row)×Int)->Option Out) (e0:(List Row)->Option Out) (a1:Arg) (J:(List Row)×Int):Option Out:=bif decide (J.2 < (a1.1.length:Int)) then (if 0<=J.2 then ((a1.1[J.2.toNat]?).bind fun aC=>if J.1.length+[aC.1].length<=bg then (self (J.1++[aC.1],ae (J.2+(1:Int)))) else none) else none) else e0 J.1
noncomputable abbrev B0 (_:Nat):=b0
noncomputable def q0 (a1:Arg) (jc:(List Row)):Option Out:=some (jc,())
noncomputable abbrev Q0 (_:Nat):=q0
noncomputable def s0 (k:Nat) (a1:Arg):((List Row)×Int)->Option Out:=fun J=>D.L k [1,1,0,1,0,0] [3,6,7,8] [] (af 0 (ao (D.N k [1,1,1]) D.K0)) (T0 a1 J)
noncomputable def r0 (k:Nat) (a1:Arg):((List Row)×Int)->Option Out:=ak (fun w v=>B0 k w (Q0 k a1) a1 v) k
theorem au (k:Nat) (a1:Arg):s0 k a1=r0 k a1:=
 funext fun J=>an _ _ _ (T0 a1) _ (fun rec v=>by kernel_rfl) k J
noncomputable def p (l0:((List Row)×Int)->Option Out) (a1:Arg):Option Out:=l0 (([]:List Row),(0:Int))
theorem aa (k:Nat) (a1:Arg):@Eq (Option Out) (D.W k a1) (p (r0 k a1) a1):=
 Eq.trans (b:=p (s0 k a1) a1) (by kernel_rfl) (by rw[au])
theorem ok:Ok prog 64 D.sig:=aq func64 aB (by kernel_rfl) (al _)
end fE
namespace fB
abbrev Arg:Type:=(List (List UInt8))×Unit
abbrev Out:Type:=(List (List UInt8))×Unit
abbrev ps:PQ:=[(.ro,(.U (.U u8)))]
noncomputable def D:FD:={ fn:=f208,tl:=aL,ps:=ps,rs:=[((.U (.U u8)),(.U true (ax (.U u8))))] }
noncomputable def ab (a:Arg):Option Out:=@lift Out fun k=>D.W k a
noncomputable def p (a1:Arg):Option Out:=uM a1.1 (some (([]:List (List UInt8)),())) (if ([]:List (List UInt8)).length+a1.1.length<=bg then (some (([]:List (List UInt8))++a1.1,())) else none)
theorem aa (k:Nat) (a1:Arg):@Eq (Option Out) (D.W k a1) (p a1):=by kernel_rfl
theorem ok:Ok prog 208 D.sig:=aq func208 aB (by kernel_rfl) (al _)
end fB
namespace fj
abbrev Arg:Type:=UInt8×Unit
abbrev Out:Type:=(List UInt8)×Unit
abbrev ps:PQ:=[(.ro,u8)]
noncomputable def D:FD:={ fn:=f209,tl:=aL,ps:=ps,rs:=[((.U u8),(am (.U u8)))],lv:=[(3,[0,3,7,8])],lx:=[(0,[3])] }
noncomputable def ab (a:Arg):Option Out:=@lift Out fun k=>D.W k a
noncomputable def T0 (a1:Arg) (J:(List UInt8)×Int):St:={ n:=21,sl:=[(0,.val u8 a1.1),(3,.own (.U u8) (am (.U u8)) [] J.1),(7,.val i64 ((List.replicate 64 (0:UInt8)).length:Int)),(8,.val i64 J.2)],vr:=[],av:=[] }
noncomputable def b0 (self:((List UInt8)×Int)->Option Out) (e0:(List UInt8)->Option Out) (a1:Arg) (J:(List UInt8)×Int):Option Out:=bif decide (J.2 < ((List.replicate 64 (0:UInt8)).length:Int)) then (if 0<=J.2/\J.2 < (J.1.length:Int) then ((J.1[J.2.toNat]?).bind fun aC=>self (J.1.set J.2.toNat a1.1,ae (J.2+(1:Int)))) else none) else e0 J.1
noncomputable abbrev B0 (_:Nat):=b0
noncomputable def q0 (a1:Arg) (jc:(List UInt8)):Option Out:=if 0<=(0:Int)/\(0:Int) < (jc.length:Int) then ((jc[0]?).bind fun cg=>if 0<=(1:Int)/\(1:Int) < ((jc.set 0 (0:UInt8)).length:Int) then (((jc.set 0 (0:UInt8))[1]?).bind fun nY=>let vz:=(jc.set 0 (0:UInt8)).set 1 (64:UInt8);some (vz,())) else none) else none
noncomputable abbrev Q0 (_:Nat):=q0
noncomputable def s0 (k:Nat) (a1:Arg):((List UInt8)×Int)->Option Out:=fun J=>D.L k [1,1,0,1,0,0] [0,3,7,8] [] (af 0 (ao (D.N k [1,1,1]) D.K0)) (T0 a1 J)
noncomputable def r0 (k:Nat) (a1:Arg):((List UInt8)×Int)->Option Out:=ak (fun w v=>B0 k w (Q0 k a1) a1 v) k
theorem au (k:Nat) (a1:Arg):s0 k a1=r0 k a1:=
 funext fun J=>an _ _ _ (T0 a1) _ (fun rec v=>by kernel_rfl) k J
noncomputable def p (l0:((List UInt8)×Int)->Option Out) (a1:Arg):Option Out:=if 0<=(64:Int)/\(64:Int)<=(64:Int)/\(64:Int)<=(bg:Int) then (l0 (List.replicate 64 (0:UInt8),(0:Int))) else none
theorem aa (k:Nat) (a1:Arg):@Eq (Option Out) (D.W k a1) (p (r0 k a1) a1):=
 Eq.trans (b:=p (s0 k a1) a1) (by kernel_rfl) (by rw[au])
theorem ok:Ok prog 209 D.sig:=aq func209 aB (by kernel_rfl) (al _)
end fj
namespace eF
abbrev Arg:Type:=(List UInt8)×(List cE)×Unit
abbrev Out:Type:=(List UInt8)×Unit
abbrev ps:PQ:=[(.ro,(.U u8)),(.ro,(.U pq))]
noncomputable def D:FD:={ fn:=f210,tl:=aL,ps:=ps,rs:=[((.U u8),(am (.U u8)))],gl:=[(159,gH.D.sig)],lv:=[(3,[5,10,11,12])],lx:=[(0,[5])],od:=[(5,[0,1,2,3,4,5,6])] }
noncomputable def ab (a:Arg):Option Out:=@lift Out fun k=>D.W k a
noncomputable def T0 (a1:Arg) (aX:(List UInt8)×Int):St:={ n:=25,sl:=[(5,.own (.U u8) (am (.U u8)) [] aX.1),(10,.val (.U pq) a1.2.1),(11,.val i64 (a1.2.1.length:Int)),(12,.val i64 aX.2)],vr:=[],av:=[] }
noncomputable def b0 (self:((List UInt8)×Int)->Option Out) (e0:(List UInt8)->Option Out) (a1:Arg) (aX:(List UInt8)×Int):Option Out:=bif decide (aX.2 < (a1.2.1.length:Int)) then (if 0<=aX.2 then ((a1.2.1[aX.2.toNat]?).bind fun cW=>if 0<=cW.1/\cW.1<=(aX.1.length:Int) then (let Rk:=lh aX.1 cW.1.toNat (min cW.2.1.length (aX.1.length - cW.1.toNat)) cW.2.1;self (Rk,ae (aX.2+(1:Int)))) else none) else none) else e0 aX.1
noncomputable abbrev B0 (_:Nat):=b0
noncomputable def q0 (a1:Arg) (kx:(List UInt8)):Option Out:=some (kx,())
noncomputable abbrev Q0 (_:Nat):=q0
noncomputable def s0 (k:Nat) (a1:Arg):((List UInt8)×Int)->Option Out:=fun aX=>D.L k [1,1,0,1,0,0] [5,10,11,12] [] (af 0 (ao (D.N k [1,1,1]) D.K0)) (T0 a1 aX)
noncomputable def r0 (k:Nat) (a1:Arg):((List UInt8)×Int)->Option Out:=ak (fun w v=>B0 k w (Q0 k a1) a1 v) k
theorem au (k:Nat) (a1:Arg):s0 k a1=r0 k a1:=
 funext fun aX=>an _ _ _ (T0 a1) _ (fun rec v=>by kernel_rfl) k aX
noncomputable def p (l0:((List UInt8)×Int)->Option Out) (a1:Arg):Option Out:=(gH.ab (a1.1,())).bind fun r2=>l0 (r2.1,(0:Int))
theorem aa (k:Nat) (a1:Arg):@Eq (Option Out) (D.W k a1) (p (r0 k a1) a1):=
 Eq.trans (b:=p (s0 k a1) a1) (by kernel_rfl) (by rw[au])
theorem ok:Ok prog 210 D.sig:=aq func210 aB (by kernel_rfl) (fc gH.ok (al _))
end eF
namespace gM
abbrev Arg:Type:=(List (List UInt8))×aM×Unit
abbrev Out:Type:=(List (List UInt8))×Int×Unit
abbrev ps:PQ:=[(.ro,(.U (.U u8))),(.ro,bO)]
noncomputable def D:FD:={ fn:=f136,tl:=aL,ps:=ps,rs:=[((.U (.U u8)),(ax (.U (.U u8)))),(i64,(ax i64))],gl:=[(206,gL.D.sig),(208,fB.D.sig),(209,fj.D.sig),(210,eF.D.sig)],od:=[(10,[0,1,2,3,4,5,6,7,8,9,10,11,12])] }
noncomputable def ab (a:Arg):Option Out:=@lift Out fun k=>D.W k a
noncomputable def p (a1:Arg):Option Out:=(gL.ab (a1.2.1.1,())).bind fun r2=>bif !r2.1 then (some (a1.1,(0:Int),())) else bif decide ((a1.1.length:Int) < a1.2.1.2.2.1) then (some (([]:List (List UInt8)),(1:Int),())) else bif decide (a1.2.1.2.2.1=(12:Int)) then (some (([]:List (List UInt8)),(2:Int),())) else (fB.ab (a1.1,())).bind fun r3=>let Qx:=fun (p9:List (List UInt8))=>(if 0<=a1.2.1.2.2.1/\a1.2.1.2.2.1 < (p9.length:Int) then ((p9[a1.2.1.2.2.1.toNat]?).bind fun N_=>(eF.ab (N_,a1.2.1.2.2.2.1,())).bind fun Aj=>if 0<=a1.2.1.2.2.1/\a1.2.1.2.2.1 < (p9.length:Int) then ((p9[a1.2.1.2.2.1.toNat]?).bind fun Tl=>some (p9.set a1.2.1.2.2.1.toNat Aj.1,(0:Int),())) else none) else none:Option Out);bif decide (a1.2.1.2.2.1=(a1.1.length:Int)) then ((fj.ab ((0:UInt8),())).bind fun r4=>if r3.1.length+[r4.1].length<=bg then (Qx (r3.1++[r4.1])) else none) else Qx r3.1
theorem aa (k:Nat) (a1:Arg):@Eq (Option Out) (D.W k a1) (p a1):=by kernel_rfl
theorem ok:Ok prog 136 D.sig:=aq func136 aB (by kernel_rfl) (fc gL.ok (fc fB.ok (fc fj.ok (fc eF.ok (al _)))))
end gM
namespace iP
abbrev Arg:Type:=(List aM)×Unit
abbrev Out:Type:=(List (List UInt8))×Int×Unit
abbrev ps:PQ:=[(.ro,(.U bO))]
noncomputable def D:FD:={ fn:=f65,tl:=aL,ps:=ps,rs:=[((.U (.U u8)),(ax (.U (.U u8)))),(i64,(ax i64))],gl:=[(135,d6.D.sig),(136,gM.D.sig)],lv:=[(3,[4,10,11,12])],lx:=[(0,[4])],lf:=[(3,[(4,(.U false (.U false .leaf)))])] }
noncomputable def ab (a:Arg):Option Out:=@lift Out fun k=>D.W k a
noncomputable def T0 (a1:Arg) (J:(List (List UInt8))×Int):St:={ n:=33,sl:=[(4,.val (.U (.U u8)) J.1),(10,.val (.U bO) a1.1),(11,.val i64 (a1.1.length:Int)),(12,.val i64 J.2)],vr:=[],av:=[] }
noncomputable def b0 (self:((List (List UInt8))×Int)->Option Out) (e0:(List (List UInt8))->Option Out) (a1:Arg) (J:(List (List UInt8))×Int):Option Out:=bif decide (J.2 < (a1.1.length:Int)) then (if 0<=J.2 then ((a1.1[J.2.toNat]?).bind fun aC=>(d6.ab (aC,())).bind fun cb=>bif !decide (cb.1=(0:Int)) then (some (([]:List (List UInt8)),cb.1,())) else (gM.ab (J.1,aC,())).bind fun gU=>bif !decide (gU.2.1=(0:Int)) then (some (([]:List (List UInt8)),gU.2.1,())) else self (gU.1,ae (J.2+(1:Int)))) else none) else e0 J.1
noncomputable abbrev B0 (_:Nat):=b0
noncomputable def q0 (a1:Arg) (kx:(List (List UInt8))):Option Out:=some (kx,(0:Int),())
noncomputable abbrev Q0 (_:Nat):=q0
noncomputable def s0 (k:Nat) (a1:Arg):((List (List UInt8))×Int)->Option Out:=fun J=>D.L k [1,1,0,1,0,0] [4,10,11,12] [(4,(.U false (.U false .leaf)))] (af 0 (ao (D.N k [1,1,1]) D.K0)) (T0 a1 J)
noncomputable def r0 (k:Nat) (a1:Arg):((List (List UInt8))×Int)->Option Out:=ak (fun w v=>B0 k w (Q0 k a1) a1 v) k
theorem au (k:Nat) (a1:Arg):s0 k a1=r0 k a1:=
 funext fun J=>an _ _ _ (T0 a1) _ (fun rec v=>by kernel_rfl) k J
noncomputable def p (l0:((List (List UInt8))×Int)->Option Out) (a1:Arg):Option Out:=l0 (([]:List (List UInt8)),(0:Int))
theorem aa (k:Nat) (a1:Arg):@Eq (Option Out) (D.W k a1) (p (r0 k a1) a1):=
 Eq.trans (b:=p (s0 k a1) a1) (by kernel_rfl) (by rw[au])
theorem ok:Ok prog 65 D.sig:=aq func65 aB (by kernel_rfl) (fc d6.ok (fc gM.ok (al _)))
end iP
namespace gV
abbrev Arg:Type:=Log×Unit
abbrev Out:Type:=(List aM)×Unit
abbrev ps:PQ:=[(.ro,dP)]
noncomputable def D:FD:={ fn:=f66,tl:=aL,ps:=ps,rs:=[((.U bO),(am (.U bO)))],gl:=[(125,fi.D.sig)] }
noncomputable def ab (a:Arg):Option Out:=@lift Out fun k=>D.W k a
noncomputable def p (a1:Arg):Option Out:=(fi.ab (a1.1.1,())).bind fun r2=>(fi.ab (a1.1.2.1,())).bind fun r3=>if r2.1.length+r3.1.length<=bg then (some (r2.1++r3.1,())) else none
theorem aa (k:Nat) (a1:Arg):@Eq (Option Out) (D.W k a1) (p a1):=by kernel_rfl
theorem ok:Ok prog 66 D.sig:=aq func66 aB (by kernel_rfl) (fc fi.ok (al _))
end gV
namespace bG
abbrev Arg:Type:=(List (List UInt8))×(List (List UInt8))×(Nat×Int)×Unit
abbrev Out:Type:=Bool×Unit
abbrev ps:PQ:=[(.ro,(.U (.U u8))),(.ro,(.U (.U u8))),(.fix 138,.fn)]
noncomputable def D:FD:={ fn:=f137,tl:=aL,ps:=ps,rs:=[(.bool,(ax .bool))],gl:=[(138,bB.D.sig)],lv:=[(4,[1,2,15,16,17])],lx:=[(0,[])] }
noncomputable def ab (a:Arg):Option Out:=@lift Out fun k=>D.W k a
noncomputable def T0 (a1:Arg) (J:Int):St:={ n:=32,sl:=[(1,.val (.U (.U u8)) a1.2.1),(2,.val .fn ((138,a1.2.2.1.2):Nat×Int)),(15,.val (.U (.U u8)) a1.1),(16,.val i64 (a1.1.length:Int)),(17,.val i64 J)],vr:=[],av:=[] }
noncomputable def b0 (self:Int->Option Out) (e0:(Unit)->Option Out) (a1:Arg) (J:Int):Option Out:=bif decide (J < (a1.1.length:Int)) then (if 0<=J then ((a1.1[J.toNat]?).bind fun aC=>if 0<=J then ((a1.2.1[J.toNat]?).bind fun cW=>(bB.ab (aC,cW,())).bind fun gU=>bif !gU.1 then (some (false,())) else self (ae (J+(1:Int)))) else none) else none) else e0 ()
noncomputable abbrev B0 (_:Nat):=b0
noncomputable def q0 (a1:Arg) (kx:(Unit)):Option Out:=some (true,())
noncomputable abbrev Q0 (_:Nat):=q0
noncomputable def s0 (k:Nat) (a1:Arg):(Int)->Option Out:=fun J=>D.L k [1,1,0,1,0,0] [1,2,15,16,17] [] (af 0 (ao (D.N k [1,1,1]) D.K0)) (T0 a1 J)
noncomputable def r0 (k:Nat) (a1:Arg):(Int)->Option Out:=ak (fun w v=>B0 k w (Q0 k a1) a1 v) k
theorem au (k:Nat) (a1:Arg):s0 k a1=r0 k a1:=
 funext fun J=>an _ _ _ (T0 a1) _ (fun rec v=>by kernel_rfl) k J
noncomputable def p (l0:(Int)->Option Out) (a1:Arg):Option Out:=bif !decide ((a1.1.length:Int)=(a1.2.1.length:Int)) then (some (false,())) else l0 (0:Int)
theorem aa (k:Nat) (a1:Arg):@Eq (Option Out) (D.W k a1) (p (r0 k a1) a1):=
 Eq.trans (b:=p (s0 k a1) a1) (by kernel_rfl) (by rw[au])
theorem ok:Ok prog 137 D.sig:=aq func137 aB (by kernel_rfl) (fc bB.ok (al _))
end bG
namespace jd
abbrev Arg:Type:=(List (List UInt8))×(List (List UInt8))×Unit
abbrev Out:Type:=Bool×Unit
abbrev ps:PQ:=[(.ro,(.U (.U u8))),(.ro,(.U (.U u8)))]
noncomputable def D:FD:={ fn:=f67,tl:=aL,ps:=ps,rs:=[(.bool,(ax .bool))],gl:=[(137,bG.D.sig)] }
noncomputable def ab (a:Arg):Option Out:=@lift Out fun k=>D.W k a
noncomputable def p (a1:Arg):Option Out:=(bG.ab (a1.1,a1.2.1,((138,0):Nat×Int),())).bind fun r2=>some (r2.1,())
theorem aa (k:Nat) (a1:Arg):@Eq (Option Out) (D.W k a1) (p a1):=by kernel_rfl
theorem ok:Ok prog 67 D.sig:=aq func67 aB (by kernel_rfl) (fc bG.ok (al _))
end jd
namespace iy
abbrev Arg:Type:=eP×Unit
abbrev Out:Type:=Int×Unit
abbrev ps:PQ:=[(.ro,cM)]
noncomputable def D:FD:={ fn:=f14,tl:=aL,ps:=ps,rs:=[(i64,(ax i64))],gl:=[(60,c_.D.sig),(61,cq.D.sig),(62,bM.D.sig),(63,gF.D.sig),(64,fE.D.sig),(65,iP.D.sig),(66,gV.D.sig),(67,jd.D.sig)],od:=[(13,[0,2,3,4,5,1,6,7,8])] }
noncomputable def ab (a:Arg):Option Out:=@lift Out fun k=>D.W k a
noncomputable def p (a1:Arg):Option Out:=(c_.ab (a1.1.2.2.1,())).bind fun r2=>bif !decide (r2.1=(0:Int)) then (some (r2.1,())) else bif !a1.1.1 then (bif decide ((0:Int) < (a1.1.2.1.length:Int)) then (some ((1:Int),())) else bif decide ((0:Int) < (a1.1.2.2.2.1.length:Int)) then (some ((1:Int),())) else bif decide ((0:Int) < (a1.1.2.2.1.2.1.length:Int)) then (some ((1:Int),())) else (cq.ab (a1.1.2.2.2.2.1,(1:Int),(100:Int),())).bind fun r3=>bif !r3.1 then (some ((3:Int),())) else some ((0:Int),())) else (bM.ab (a1.1.2.1,())).bind fun r4=>bif !decide (r4.2.1=(0:Int)) then (some (r4.2.1,())) else (fE.ab (r4.1,())).bind fun r5=>(gF.ab ((r5.1,a1.1.2.2.2.1,a1.1.2.2.2.2.1,()),())).bind fun r6=>bif !decide (r6.1=(0:Int)) then (some (r6.1,())) else (gV.ab (a1.1.2.2.1,())).bind fun r7=>(iP.ab (r7.1,())).bind fun r8=>bif !decide (r8.2.1=(0:Int)) then (some ((8:Int),())) else (jd.ab (r8.1,a1.1.2.1,())).bind fun r9=>bif !r9.1 then (some ((8:Int),())) else some ((0:Int),())
theorem aa (k:Nat) (a1:Arg):@Eq (Option Out) (D.W k a1) (p a1):=by kernel_rfl
theorem ok:Ok prog 14 D.sig:=aq func14 aB (by kernel_rfl) (fc c_.ok (fc cq.ok (fc bM.ok (fc gF.ok (fc fE.ok (fc iP.ok (fc gV.ok (fc jd.ok (al _)))))))))
end iy
namespace cJ
abbrev Arg:Type:=(List UInt8)×(List UInt8)×Unit
abbrev Out:Type:=Bool×Unit
abbrev ps:PQ:=[(.ro,(.U u8)),(.ro,(.U u8))]
noncomputable def D:FD:={ fn:=f39,tl:=aL,ps:=ps,rs:=[(.bool,(ax .bool))],lv:=[(4,[0,1,5])],lx:=[(0,[])],od:=[(6,[0,1,2,3,4,5,6,7,8])] }
noncomputable def ab (a:Arg):Option Out:=@lift Out fun k=>D.W k a
noncomputable def T0 (a1:Arg) (J:Int):St:={ n:=26,sl:=[(0,.val (.U u8) a1.1),(1,.val (.U u8) a1.2.1),(5,.val i64 J)],vr:=[],av:=[] }
noncomputable def b0 (self:Int->Option Out) (e0:(Unit)->Option Out) (a1:Arg) (J:Int):Option Out:=bif decide (J < (a1.1.length:Int)) then (if 0<=J then ((a1.1[J.toNat]?).bind fun aC=>if 0<=J then ((a1.2.1[J.toNat]?).bind fun cW=>bif !decide ((aC.toNat:Int)=(cW.toNat:Int)) then (some (false,())) else self (ae (J+(1:Int)))) else none) else none) else e0 ()
noncomputable abbrev B0 (_:Nat):=b0
noncomputable def q0 (a1:Arg) (bQ:(Unit)):Option Out:=some (true,())
noncomputable abbrev Q0 (_:Nat):=q0
noncomputable def s0 (k:Nat) (a1:Arg):(Int)->Option Out:=fun J=>D.L k [1,1,0,1,0,0] [0,1,5] [] (af 0 (ao (D.N k [1,1,1]) D.K0)) (T0 a1 J)
noncomputable def r0 (k:Nat) (a1:Arg):(Int)->Option Out:=ak (fun w v=>B0 k w (Q0 k a1) a1 v) k
theorem au (k:Nat) (a1:Arg):s0 k a1=r0 k a1:=
 funext fun J=>an _ _ _ (T0 a1) _ (fun rec v=>by kernel_rfl) k J
noncomputable def p (l0:(Int)->Option Out) (a1:Arg):Option Out:=bif !decide ((a1.1.length:Int)=(a1.2.1.length:Int)) then (some (false,())) else l0 (0:Int)
theorem aa (k:Nat) (a1:Arg):@Eq (Option Out) (D.W k a1) (p (r0 k a1) a1):=
 Eq.trans (b:=p (s0 k a1) a1) (by kernel_rfl) (by rw[au])
theorem ok:Ok prog 39 D.sig:=aq func39 aB (by kernel_rfl) (al _)
end cJ
namespace dD
abbrev Arg:Type:=(List (List UInt8))×(List (List UInt8))×Unit
abbrev Out:Type:=Bool×Unit
abbrev ps:PQ:=[(.ro,(.U (.U u8))),(.ro,(.U (.U u8)))]
noncomputable def D:FD:={ fn:=f68,tl:=aL,ps:=ps,rs:=[(.bool,(ax .bool))],gl:=[(39,cJ.D.sig)],lv:=[(4,[0,1,5])],lx:=[(0,[])],od:=[(6,[0,1,2,3,4,5,6,7,8,9])] }
noncomputable def ab (a:Arg):Option Out:=@lift Out fun k=>D.W k a
noncomputable def T0 (a1:Arg) (J:Int):St:={ n:=27,sl:=[(0,.val (.U (.U u8)) a1.1),(1,.val (.U (.U u8)) a1.2.1),(5,.val i64 J)],vr:=[],av:=[] }
noncomputable def b0 (self:Int->Option Out) (e0:(Unit)->Option Out) (a1:Arg) (J:Int):Option Out:=bif decide (J < (a1.1.length:Int)) then (if 0<=J then ((a1.1[J.toNat]?).bind fun aC=>if 0<=J then ((a1.2.1[J.toNat]?).bind fun cW=>(cJ.ab (aC,cW,())).bind fun gU=>bif !gU.1 then (some (false,())) else self (ae (J+(1:Int)))) else none) else none) else e0 ()
noncomputable abbrev B0 (_:Nat):=b0
noncomputable def q0 (a1:Arg) (kx:(Unit)):Option Out:=some (true,())
noncomputable abbrev Q0 (_:Nat):=q0
noncomputable def s0 (k:Nat) (a1:Arg):(Int)->Option Out:=fun J=>D.L k [1,1,0,1,0,0] [0,1,5] [] (af 0 (ao (D.N k [1,1,1]) D.K0)) (T0 a1 J)
noncomputable def r0 (k:Nat) (a1:Arg):(Int)->Option Out:=ak (fun w v=>B0 k w (Q0 k a1) a1 v) k
theorem au (k:Nat) (a1:Arg):s0 k a1=r0 k a1:=
 funext fun J=>an _ _ _ (T0 a1) _ (fun rec v=>by kernel_rfl) k J
noncomputable def p (l0:(Int)->Option Out) (a1:Arg):Option Out:=bif !decide ((a1.1.length:Int)=(a1.2.1.length:Int)) then (some (false,())) else l0 (0:Int)
theorem aa (k:Nat) (a1:Arg):@Eq (Option Out) (D.W k a1) (p (r0 k a1) a1):=
 Eq.trans (b:=p (s0 k a1) a1) (by kernel_rfl) (by rw[au])
theorem ok:Ok prog 68 D.sig:=aq func68 aB (by kernel_rfl) (fc cJ.ok (al _))
end dD
namespace kX
abbrev Arg:Type:=Log×Log×Unit
abbrev Out:Type:=Bool×Unit
abbrev ps:PQ:=[(.ro,dP),(.ro,dP)]
noncomputable def D:FD:={ fn:=f69,tl:=aL,ps:=ps,rs:=[(.bool,(ax .bool))],gl:=[(39,cJ.D.sig)] }
noncomputable def ab (a:Arg):Option Out:=@lift Out fun k=>D.W k a
noncomputable def p (a1:Arg):Option Out:=(cJ.ab (a1.1.1,a1.2.1.1,())).bind fun r2=>bif !r2.1 then (some (false,())) else (cJ.ab (a1.1.2.1,a1.2.1.2.1,())).bind fun r3=>bif !r3.1 then (some (false,())) else some (true,())
theorem aa (k:Nat) (a1:Arg):@Eq (Option Out) (D.W k a1) (p a1):=by kernel_rfl
theorem ok:Ok prog 69 D.sig:=aq func69 aB (by kernel_rfl) (fc cJ.ok (al _))
end kX
namespace gN
abbrev Arg:Type:=Row×Row×Unit
abbrev Out:Type:=Bool×Unit
abbrev ps:PQ:=[(.ro,aA),(.ro,aA)]
noncomputable def D:FD:={ fn:=f153,tl:=aL,ps:=ps,rs:=[(.bool,(ax .bool))] }
noncomputable def ab (a:Arg):Option Out:=@lift Out fun k=>D.W k a
noncomputable def p (a1:Arg):Option Out:=bif !decide (a1.1.1=a1.2.1.1) then (some (false,())) else bif !decide (a1.1.2.1=a1.2.1.2.1) then (some (false,())) else bif !decide (a1.1.2.2.1=a1.2.1.2.2.1) then (some (false,())) else bif !decide (a1.1.2.2.2.1=a1.2.1.2.2.2.1) then (some (false,())) else some (true,())
theorem aa (k:Nat) (a1:Arg):@Eq (Option Out) (D.W k a1) (p a1):=by kernel_rfl
theorem ok:Ok prog 153 D.sig:=aq func153 aB (by kernel_rfl) (al _)
end gN
namespace iQ
abbrev Arg:Type:=Change×Change×Unit
abbrev Out:Type:=Bool×Unit
abbrev ps:PQ:=[(.ro,ap),(.ro,ap)]
noncomputable def D:FD:={ fn:=f244,tl:=aL,ps:=ps,rs:=[(.bool,(ax .bool))],gl:=[(153,gN.D.sig)] }
noncomputable def ab (a:Arg):Option Out:=@lift Out fun k=>D.W k a
noncomputable def p (a1:Arg):Option Out:=bif !(a1.1.1 == a1.2.1.1) then (some (false,())) else (gN.ab (a1.1.2.1,a1.2.1.2.1,())).bind fun r2=>bif !r2.1 then (some (false,())) else bif !(a1.1.2.2.1 == a1.2.1.2.2.1) then (some (false,())) else (gN.ab (a1.1.2.2.2.1,a1.2.1.2.2.2.1,())).bind fun r3=>bif !r3.1 then (some (false,())) else some (true,())
theorem aa (k:Nat) (a1:Arg):@Eq (Option Out) (D.W k a1) (p a1):=by kernel_rfl
theorem ok:Ok prog 244 D.sig:=aq func244 aB (by kernel_rfl) (fc gN.ok (al _))
end iQ
namespace c7
abbrev Arg:Type:=(List Change)×(List Change)×Unit
abbrev Out:Type:=Bool×Unit
abbrev ps:PQ:=[(.ro,(.U ap)),(.ro,(.U ap))]
noncomputable def D:FD:={ fn:=f173,tl:=aL,ps:=ps,rs:=[(.bool,(ax .bool))],gl:=[(244,iQ.D.sig)],lv:=[(4,[0,1,5])],lx:=[(0,[])],od:=[(6,[0,1,2,3,4,5,6,7,8,9])] }
noncomputable def ab (a:Arg):Option Out:=@lift Out fun k=>D.W k a
noncomputable def T0 (a1:Arg) (J:Int):St:={ n:=27,sl:=[(0,.val (.U ap) a1.1),(1,.val (.U ap) a1.2.1),(5,.val i64 J)],vr:=[],av:=[] }
noncomputable def b0 (self:Int->Option Out) (e0:(Unit)->Option Out) (a1:Arg) (J:Int):Option Out:=bif decide (J < (a1.1.length:Int)) then (if 0<=J then ((a1.1[J.toNat]?).bind fun aC=>if 0<=J then ((a1.2.1[J.toNat]?).bind fun cW=>(iQ.ab (aC,cW,())).bind fun gU=>bif !gU.1 then (some (false,())) else self (ae (J+(1:Int)))) else none) else none) else e0 ()
noncomputable abbrev B0 (_:Nat):=b0
noncomputable def q0 (a1:Arg) (kx:(Unit)):Option Out:=some (true,())
noncomputable abbrev Q0 (_:Nat):=q0
noncomputable def s0 (k:Nat) (a1:Arg):(Int)->Option Out:=fun J=>D.L k [1,1,0,1,0,0] [0,1,5] [] (af 0 (ao (D.N k [1,1,1]) D.K0)) (T0 a1 J)
noncomputable def r0 (k:Nat) (a1:Arg):(Int)->Option Out:=ak (fun w v=>B0 k w (Q0 k a1) a1 v) k
theorem au (k:Nat) (a1:Arg):s0 k a1=r0 k a1:=
 funext fun J=>an _ _ _ (T0 a1) _ (fun rec v=>by kernel_rfl) k J
noncomputable def p (l0:(Int)->Option Out) (a1:Arg):Option Out:=bif !decide ((a1.1.length:Int)=(a1.2.1.length:Int)) then (some (false,())) else l0 (0:Int)
theorem aa (k:Nat) (a1:Arg):@Eq (Option Out) (D.W k a1) (p (r0 k a1) a1):=
 Eq.trans (b:=p (s0 k a1) a1) (by kernel_rfl) (by rw[au])
theorem ok:Ok prog 173 D.sig:=aq func173 aB (by kernel_rfl) (fc iQ.ok (al _))
end c7
namespace dE
abbrev Arg:Type:=(List Int)×(List Int)×Unit
abbrev Out:Type:=Bool×Unit
abbrev ps:PQ:=[(.ro,(.U i64)),(.ro,(.U i64))]
noncomputable def D:FD:={ fn:=f211,tl:=aL,ps:=ps,rs:=[(.bool,(ax .bool))],lv:=[(4,[0,1,5])],lx:=[(0,[])],od:=[(6,[0,1,2,3,4,5,6,7,8])] }
noncomputable def ab (a:Arg):Option Out:=@lift Out fun k=>D.W k a
noncomputable def T0 (a1:Arg) (J:Int):St:={ n:=26,sl:=[(0,.val (.U i64) a1.1),(1,.val (.U i64) a1.2.1),(5,.val i64 J)],vr:=[],av:=[] }
noncomputable def b0 (self:Int->Option Out) (e0:(Unit)->Option Out) (a1:Arg) (J:Int):Option Out:=bif decide (J < (a1.1.length:Int)) then (if 0<=J then ((a1.1[J.toNat]?).bind fun aC=>if 0<=J then ((a1.2.1[J.toNat]?).bind fun cW=>bif !decide (aC=cW) then (some (false,())) else self (ae (J+(1:Int)))) else none) else none) else e0 ()
noncomputable abbrev B0 (_:Nat):=b0
noncomputable def q0 (a1:Arg) (bQ:(Unit)):Option Out:=some (true,())
noncomputable abbrev Q0 (_:Nat):=q0
noncomputable def s0 (k:Nat) (a1:Arg):(Int)->Option Out:=fun J=>D.L k [1,1,0,1,0,0] [0,1,5] [] (af 0 (ao (D.N k [1,1,1]) D.K0)) (T0 a1 J)
noncomputable def r0 (k:Nat) (a1:Arg):(Int)->Option Out:=ak (fun w v=>B0 k w (Q0 k a1) a1 v) k
theorem au (k:Nat) (a1:Arg):s0 k a1=r0 k a1:=
 funext fun J=>an _ _ _ (T0 a1) _ (fun rec v=>by kernel_rfl) k J
noncomputable def p (l0:(Int)->Option Out) (a1:Arg):Option Out:=bif !decide ((a1.1.length:Int)=(a1.2.1.length:Int)) then (some (false,())) else l0 (0:Int)
theorem aa (k:Nat) (a1:Arg):@Eq (Option Out) (D.W k a1) (p (r0 k a1) a1):=
 Eq.trans (b:=p (s0 k a1) a1) (by kernel_rfl) (by rw[au])
theorem ok:Ok prog 211 D.sig:=aq func211 aB (by kernel_rfl) (al _)
end dE
namespace kY
abbrev Arg:Type:=Key×Key×Unit
abbrev Out:Type:=Bool×Unit
abbrev ps:PQ:=[(.ro,aE),(.ro,aE)]
noncomputable def D:FD:={ fn:=f271,tl:=aL,ps:=ps,rs:=[(.bool,(ax .bool))] }
noncomputable def ab (a:Arg):Option Out:=@lift Out fun k=>D.W k a
noncomputable def p (a1:Arg):Option Out:=bif !decide (a1.1.1=a1.2.1.1) then (some (false,())) else bif !decide (a1.1.2.1=a1.2.1.2.1) then (some (false,())) else some (true,())
theorem aa (k:Nat) (a1:Arg):@Eq (Option Out) (D.W k a1) (p a1):=by kernel_rfl
theorem ok:Ok prog 271 D.sig:=aq func271 aB (by kernel_rfl) (al _)
end kY
namespace eN
abbrev Arg:Type:=(List Key)×(List Key)×Unit
abbrev Out:Type:=Bool×Unit
abbrev ps:PQ:=[(.ro,(.U aE)),(.ro,(.U aE))]
noncomputable def D:FD:={ fn:=f212,tl:=aL,ps:=ps,rs:=[(.bool,(ax .bool))],gl:=[(271,kY.D.sig)],lv:=[(4,[0,1,5])],lx:=[(0,[])],od:=[(6,[0,1,2,3,4,5,6,7,8,9])] }
noncomputable def ab (a:Arg):Option Out:=@lift Out fun k=>D.W k a
noncomputable def T0 (a1:Arg) (J:Int):St:={ n:=27,sl:=[(0,.val (.U aE) a1.1),(1,.val (.U aE) a1.2.1),(5,.val i64 J)],vr:=[],av:=[] }
noncomputable def b0 (self:Int->Option Out) (e0:(Unit)->Option Out) (a1:Arg) (J:Int):Option Out:=bif decide (J < (a1.1.length:Int)) then (if 0<=J then ((a1.1[J.toNat]?).bind fun aC=>if 0<=J then ((a1.2.1[J.toNat]?).bind fun cW=>(kY.ab (aC,cW,())).bind fun gU=>bif !gU.1 then (some (false,())) else self (ae (J+(1:Int)))) else none) else none) else e0 ()
noncomputable abbrev B0 (_:Nat):=b0
noncomputable def q0 (a1:Arg) (kx:(Unit)):Option Out:=some (true,())
noncomputable abbrev Q0 (_:Nat):=q0
noncomputable def s0 (k:Nat) (a1:Arg):(Int)->Option Out:=fun J=>D.L k [1,1,0,1,0,0] [0,1,5] [] (af 0 (ao (D.N k [1,1,1]) D.K0)) (T0 a1 J)
noncomputable def r0 (k:Nat) (a1:Arg):(Int)->Option Out:=ak (fun w v=>B0 k w (Q0 k a1) a1 v) k
theorem au (k:Nat) (a1:Arg):s0 k a1=r0 k a1:=
 funext fun J=>an _ _ _ (T0 a1) _ (fun rec v=>by kernel_rfl) k J
noncomputable def p (l0:(Int)->Option Out) (a1:Arg):Option Out:=bif !decide ((a1.1.length:Int)=(a1.2.1.length:Int)) then (some (false,())) else l0 (0:Int)
theorem aa (k:Nat) (a1:Arg):@Eq (Option Out) (D.W k a1) (p (r0 k a1) a1):=
 Eq.trans (b:=p (s0 k a1) a1) (by kernel_rfl) (by rw[au])
theorem ok:Ok prog 212 D.sig:=aq func212 aB (by kernel_rfl) (fc kY.ok (al _))
end eN
namespace lP
abbrev Arg:Type:=Tx×Tx×Unit
abbrev Out:Type:=Bool×Unit
abbrev ps:PQ:=[(.ro,aY),(.ro,aY)]
noncomputable def D:FD:={ fn:=f139,tl:=aL,ps:=ps,rs:=[(.bool,(ax .bool))],gl:=[(173,c7.D.sig),(211,dE.D.sig),(212,eN.D.sig)] }
noncomputable def ab (a:Arg):Option Out:=@lift Out fun k=>D.W k a
noncomputable def p (a1:Arg):Option Out:=bif !decide (a1.1.1=a1.2.1.1) then (some (false,())) else (c7.ab (a1.1.2.1,a1.2.1.2.1,())).bind fun r2=>bif !r2.1 then (some (false,())) else (dE.ab (a1.1.2.2.1,a1.2.1.2.2.1,())).bind fun r3=>bif !r3.1 then (some (false,())) else (eN.ab (a1.1.2.2.2.1,a1.2.1.2.2.2.1,())).bind fun r4=>bif !r4.1 then (some (false,())) else some (true,())
theorem aa (k:Nat) (a1:Arg):@Eq (Option Out) (D.W k a1) (p a1):=by kernel_rfl
theorem ok:Ok prog 139 D.sig:=aq func139 aB (by kernel_rfl) (fc c7.ok (fc dE.ok (fc eN.ok (al _))))
end lP
namespace fF
abbrev Arg:Type:=(List Tx)×(List Tx)×Unit
abbrev Out:Type:=Bool×Unit
abbrev ps:PQ:=[(.ro,(.U aY)),(.ro,(.U aY))]
noncomputable def D:FD:={ fn:=f70,tl:=aL,ps:=ps,rs:=[(.bool,(ax .bool))],gl:=[(139,lP.D.sig)],lv:=[(4,[0,1,5])],lx:=[(0,[])],od:=[(6,[0,1,2,3,4,5,6,7,8,9])] }
noncomputable def ab (a:Arg):Option Out:=@lift Out fun k=>D.W k a
noncomputable def T0 (a1:Arg) (J:Int):St:={ n:=27,sl:=[(0,.val (.U aY) a1.1),(1,.val (.U aY) a1.2.1),(5,.val i64 J)],vr:=[],av:=[] }
noncomputable def b0 (self:Int->Option Out) (e0:(Unit)->Option Out) (a1:Arg) (J:Int):Option Out:=bif decide (J < (a1.1.length:Int)) then (if 0<=J then ((a1.1[J.toNat]?).bind fun aC=>if 0<=J then ((a1.2.1[J.toNat]?).bind fun cW=>(lP.ab (aC,cW,())).bind fun gU=>bif !gU.1 then (some (false,())) else self (ae (J+(1:Int)))) else none) else none) else e0 ()
noncomputable abbrev B0 (_:Nat):=b0
noncomputable def q0 (a1:Arg) (kx:(Unit)):Option Out:=some (true,())
noncomputable abbrev Q0 (_:Nat):=q0
noncomputable def s0 (k:Nat) (a1:Arg):(Int)->Option Out:=fun J=>D.L k [1,1,0,1,0,0] [0,1,5] [] (af 0 (ao (D.N k [1,1,1]) D.K0)) (T0 a1 J)
noncomputable def r0 (k:Nat) (a1:Arg):(Int)->Option Out:=ak (fun w v=>B0 k w (Q0 k a1) a1 v) k
theorem au (k:Nat) (a1:Arg):s0 k a1=r0 k a1:=
 funext fun J=>an _ _ _ (T0 a1) _ (fun rec v=>by kernel_rfl) k J
noncomputable def p (l0:(Int)->Option Out) (a1:Arg):Option Out:=bif !decide ((a1.1.length:Int)=(a1.2.1.length:Int)) then (some (false,())) else l0 (0:Int)
theorem aa (k:Nat) (a1:Arg):@Eq (Option Out) (D.W k a1) (p (r0 k a1) a1):=
 Eq.trans (b:=p (s0 k a1) a1) (by kernel_rfl) (by rw[au])
theorem ok:Ok prog 70 D.sig:=aq func70 aB (by kernel_rfl) (fc lP.ok (al _))
end fF
namespace jw
abbrev Arg:Type:=eP×eP×Unit
abbrev Out:Type:=Bool×Unit
abbrev ps:PQ:=[(.ro,cM),(.ro,cM)]
noncomputable def D:FD:={ fn:=f15,tl:=aL,ps:=ps,rs:=[(.bool,(ax .bool))],gl:=[(68,dD.D.sig),(69,kX.D.sig),(70,fF.D.sig)] }
noncomputable def ab (a:Arg):Option Out:=@lift Out fun k=>D.W k a
noncomputable def p (a1:Arg):Option Out:=bif !(a1.1.1 == a1.2.1.1) then (some (false,())) else (dD.ab (a1.1.2.1,a1.2.1.2.1,())).bind fun r2=>bif !r2.1 then (some (false,())) else (kX.ab (a1.1.2.2.1,a1.2.1.2.2.1,())).bind fun r3=>bif !r3.1 then (some (false,())) else (fF.ab (a1.1.2.2.2.1,a1.2.1.2.2.2.1,())).bind fun r4=>bif !r4.1 then (some (false,())) else bif !decide (a1.1.2.2.2.2.1=a1.2.1.2.2.2.2.1) then (some (false,())) else some (true,())
theorem aa (k:Nat) (a1:Arg):@Eq (Option Out) (D.W k a1) (p a1):=by kernel_rfl
theorem ok:Ok prog 15 D.sig:=aq func15 aB (by kernel_rfl) (fc dD.ok (fc kX.ok (fc fF.ok (al _))))
end jw
namespace iz
abbrev Arg:Type:=eP×Unit
abbrev Out:Type:=(List Row)×Unit
abbrev ps:PQ:=[(.ro,cM)]
noncomputable def D:FD:={ fn:=f78,tl:=aL,ps:=ps,rs:=[((.U aA),(am (.U aA)))],gl:=[(62,bM.D.sig),(64,fE.D.sig)] }
noncomputable def ab (a:Arg):Option Out:=@lift Out fun k=>D.W k a
noncomputable def p (a1:Arg):Option Out:=(bM.ab (a1.1.2.1,())).bind fun r2=>(fE.ab (r2.1,())).bind fun r3=>some (r3.1,())
theorem aa (k:Nat) (a1:Arg):@Eq (Option Out) (D.W k a1) (p a1):=by kernel_rfl
theorem ok:Ok prog 78 D.sig:=aq func78 aB (by kernel_rfl) (fc bM.ok (fc fE.ok (al _)))
end iz
namespace eO
abbrev Arg:Type:=(List Row)×(List Row)×Unit
abbrev Out:Type:=Bool×Unit
abbrev ps:PQ:=[(.ro,(.U aA)),(.ro,(.U aA))]
noncomputable def D:FD:={ fn:=f80,tl:=aL,ps:=ps,rs:=[(.bool,(ax .bool))],gl:=[(153,gN.D.sig)],lv:=[(4,[0,1,5])],lx:=[(0,[])],od:=[(6,[0,1,2,3,4,5,6,7,8,9])] }
noncomputable def ab (a:Arg):Option Out:=@lift Out fun k=>D.W k a
noncomputable def T0 (a1:Arg) (J:Int):St:={ n:=27,sl:=[(0,.val (.U aA) a1.1),(1,.val (.U aA) a1.2.1),(5,.val i64 J)],vr:=[],av:=[] }
noncomputable def b0 (self:Int->Option Out) (e0:(Unit)->Option Out) (a1:Arg) (J:Int):Option Out:=bif decide (J < (a1.1.length:Int)) then (if 0<=J then ((a1.1[J.toNat]?).bind fun aC=>if 0<=J then ((a1.2.1[J.toNat]?).bind fun cW=>(gN.ab (aC,cW,())).bind fun gU=>bif !gU.1 then (some (false,())) else self (ae (J+(1:Int)))) else none) else none) else e0 ()
noncomputable abbrev B0 (_:Nat):=b0
noncomputable def q0 (a1:Arg) (kx:(Unit)):Option Out:=some (true,())
noncomputable abbrev Q0 (_:Nat):=q0
noncomputable def s0 (k:Nat) (a1:Arg):(Int)->Option Out:=fun J=>D.L k [1,1,0,1,0,0] [0,1,5] [] (af 0 (ao (D.N k [1,1,1]) D.K0)) (T0 a1 J)
noncomputable def r0 (k:Nat) (a1:Arg):(Int)->Option Out:=ak (fun w v=>B0 k w (Q0 k a1) a1 v) k
theorem au (k:Nat) (a1:Arg):s0 k a1=r0 k a1:=
 funext fun J=>an _ _ _ (T0 a1) _ (fun rec v=>by kernel_rfl) k J
noncomputable def p (l0:(Int)->Option Out) (a1:Arg):Option Out:=bif !decide ((a1.1.length:Int)=(a1.2.1.length:Int)) then (some (false,())) else l0 (0:Int)
theorem aa (k:Nat) (a1:Arg):@Eq (Option Out) (D.W k a1) (p (r0 k a1) a1):=
 Eq.trans (b:=p (s0 k a1) a1) (by kernel_rfl) (by rw[au])
theorem ok:Ok prog 80 D.sig:=aq func80 aB (by kernel_rfl) (fc gN.ok (al _))
end eO
namespace lm
abbrev Arg:Type:=eP×Unit
abbrev Out:Type:=fC×Unit
abbrev ps:PQ:=[(.ro,cM)]
noncomputable def D:FD:={ fn:=f21,tl:=aL,ps:=ps,rs:=[(cA,(am cA))],gl:=[(56,jK.D.sig),(75,c9.D.sig)] }
noncomputable def ab (a:Arg):Option Out:=@lift Out fun k=>D.W k a
noncomputable def p (a1:Arg):Option Out:=(jK.ab (a1.1,())).bind fun r2=>bif !decide (r2.1=(0:Int)) then (some ((r2.1,([]:List Row),()),())) else bif !a1.1.1 then (some (((8:Int),([]:List Row),()),())) else (c9.ab (a1.1.2.1,())).bind fun r3=>some (((0:Int),r3.1,()),())
theorem aa (k:Nat) (a1:Arg):@Eq (Option Out) (D.W k a1) (p a1):=by kernel_rfl
theorem ok:Ok prog 21 D.sig:=aq func21 aB (by kernel_rfl) (fc jK.ok (fc c9.ok (al _)))
end lm
namespace kb
abbrev Arg:Type:=eP×Unit
abbrev Out:Type:=fC×Unit
abbrev ps:PQ:=[(.ro,cM)]
noncomputable def D:FD:={ fn:=f22,tl:=aL,ps:=ps,rs:=[(cA,(am cA))],gl:=[(14,iy.D.sig),(78,iz.D.sig)] }
noncomputable def ab (a:Arg):Option Out:=@lift Out fun k=>D.W k a
noncomputable def p (a1:Arg):Option Out:=(iy.ab (a1.1,())).bind fun r2=>bif !decide (r2.1=(0:Int)) then (some ((r2.1,([]:List Row),()),())) else bif !a1.1.1 then (some (((8:Int),([]:List Row),()),())) else (iz.ab (a1.1,())).bind fun r3=>some (((0:Int),r3.1,()),())
theorem aa (k:Nat) (a1:Arg):@Eq (Option Out) (D.W k a1) (p a1):=by kernel_rfl
theorem ok:Ok prog 22 D.sig:=aq func22 aB (by kernel_rfl) (fc iy.ok (fc iz.ok (al _)))
end kb
namespace en
abbrev Arg:Type:=fC×fC×Unit
abbrev Out:Type:=Bool×Unit
abbrev ps:PQ:=[(.ro,cA),(.ro,cA)]
noncomputable def D:FD:={ fn:=f23,tl:=aL,ps:=ps,rs:=[(.bool,(ax .bool))],gl:=[(80,eO.D.sig)] }
noncomputable def ab (a:Arg):Option Out:=@lift Out fun k=>D.W k a
noncomputable def p (a1:Arg):Option Out:=bif !decide (a1.1.1=a1.2.1.1) then (some (false,())) else (eO.ab (a1.1.2.1,a1.2.1.2.1,())).bind fun r2=>bif !r2.1 then (some (false,())) else some (true,())
theorem aa (k:Nat) (a1:Arg):@Eq (Option Out) (D.W k a1) (p a1):=by kernel_rfl
theorem ok:Ok prog 23 D.sig:=aq func23 aB (by kernel_rfl) (fc eO.ok (al _))
end en
namespace bS
abbrev Arg:Type:=(List UInt8)×Int×Unit
abbrev Out:Type:=Int×(List UInt8)×Unit
abbrev ps:PQ:=[(.eU (am (.U u8)),(.U u8)),(.ro,i64)]
noncomputable def D:FD:={ fn:=f41,tl:=aL,ps:=ps,rs:=[(i64,(ax i64))],es:=[0],lv:=[(2,[0,1,5])],lx:=[(0,[0,1])] }
noncomputable def ab (a:Arg):Option Out:=@lift Out fun k=>D.W k a
noncomputable def T0 (a1:Arg) (J:(List UInt8)×Int×Int):St:={ n:=20,sl:=[(0,.own (.U u8) (am (.U u8)) [] J.1),(1,.val i64 J.2.1),(5,.val i64 J.2.2)],vr:=[],av:=[(0,0,true)] }
noncomputable def b0 (self:((List UInt8)×Int×Int)->Option Out) (e0:((List UInt8)×Int)->Option Out) (a1:Arg) (J:(List UInt8)×Int×Int):Option Out:=bif decide (J.2.2 < (J.1.length:Int)) then (if 0<=J.2.2/\J.2.2 < (J.1.length:Int) then ((J.1[J.2.2.toNat]?).bind fun aC=>let im:=J.1.set J.2.2.toNat (UInt8.ofInt J.2.1);self (im,ae (J.2.1+(1:Int)),ae (J.2.2+(1:Int)))) else none) else e0 (J.1,J.2.1)
noncomputable abbrev B0 (_:Nat):=b0
noncomputable def q0 (a1:Arg) (bQ:((List UInt8)×Int)):Option Out:=some (bQ.2,bQ.1,())
noncomputable abbrev Q0 (_:Nat):=q0
noncomputable def s0 (k:Nat) (a1:Arg):((List UInt8)×Int×Int)->Option Out:=fun J=>D.L k [1,0,1,0,0] [0,1,5] [] (af 0 (ao (D.N k [1,1]) D.K0)) (T0 a1 J)
noncomputable def r0 (k:Nat) (a1:Arg):((List UInt8)×Int×Int)->Option Out:=ak (fun w v=>B0 k w (Q0 k a1) a1 v) k
theorem au (k:Nat) (a1:Arg):s0 k a1=r0 k a1:=
 funext fun J=>an _ _ _ (T0 a1) _ (fun rec v=>by kernel_rfl) k J
noncomputable def p (l0:((List UInt8)×Int×Int)->Option Out) (a1:Arg):Option Out:=l0 (a1.1,a1.2.1,(0:Int))
theorem aa (k:Nat) (a1:Arg):@Eq (Option Out) (D.W k a1) (p (r0 k a1) a1):=
 Eq.trans (b:=p (s0 k a1) a1) (by kernel_rfl) (by rw[au])
theorem ok:Ok prog 41 D.sig:=aq func41 aB (by kernel_rfl) (al _)
end bS
namespace cT
abbrev Arg:Type:=(List (List UInt8))×Int×Unit
abbrev Out:Type:=Int×(List (List UInt8))×Unit
abbrev ps:PQ:=[(.eU (am (.U (.U u8))),(.U (.U u8))),(.ro,i64)]
noncomputable def D:FD:={ fn:=f81,tl:=aL,ps:=ps,rs:=[(i64,(ax i64))],gl:=[(41,bS.D.sig)],es:=[0],lv:=[(2,[0,1,5])],lx:=[(0,[0,1])] }
noncomputable def ab (a:Arg):Option Out:=@lift Out fun k=>D.W k a
noncomputable def T0 (a1:Arg) (J:(List (List UInt8))×Int×Int):St:={ n:=19,sl:=[(0,.own (.U (.U u8)) (am (.U (.U u8))) [] J.1),(1,.val i64 J.2.1),(5,.val i64 J.2.2)],vr:=[],av:=[(0,0,true)] }
noncomputable def b0 (self:((List (List UInt8))×Int×Int)->Option Out) (e0:((List (List UInt8))×Int)->Option Out) (a1:Arg) (J:(List (List UInt8))×Int×Int):Option Out:=bif decide (J.2.2 < (J.1.length:Int)) then (if 0<=J.2.2/\J.2.2 < (J.1.length:Int) then ((J.1[J.2.2.toNat]?).bind fun aC=>(J.1[J.2.2.toNat]?).bind fun cW=>(J.1[J.2.2.toNat]?).bind fun cg=>(bS.ab (cg,J.2.1,())).bind fun kw=>(J.1[J.2.2.toNat]?).bind fun ll=>self (J.1.set J.2.2.toNat kw.2.1,kw.1,ae (J.2.2+(1:Int)))) else none) else e0 (J.1,J.2.1)
noncomputable abbrev B0 (_:Nat):=b0
noncomputable def q0 (a1:Arg) (lk:((List (List UInt8))×Int)):Option Out:=some (lk.2,lk.1,())
noncomputable abbrev Q0 (_:Nat):=q0
noncomputable def s0 (k:Nat) (a1:Arg):((List (List UInt8))×Int×Int)->Option Out:=fun J=>D.L k [1,0,1,0,0] [0,1,5] [] (af 0 (ao (D.N k [1,1]) D.K0)) (T0 a1 J)
noncomputable def r0 (k:Nat) (a1:Arg):((List (List UInt8))×Int×Int)->Option Out:=ak (fun w v=>B0 k w (Q0 k a1) a1 v) k
theorem au (k:Nat) (a1:Arg):s0 k a1=r0 k a1:=
 funext fun J=>an _ _ _ (T0 a1) _ (fun rec v=>by kernel_rfl) k J
noncomputable def p (l0:((List (List UInt8))×Int×Int)->Option Out) (a1:Arg):Option Out:=l0 (a1.1,a1.2.1,(0:Int))
theorem aa (k:Nat) (a1:Arg):@Eq (Option Out) (D.W k a1) (p (r0 k a1) a1):=
 Eq.trans (b:=p (s0 k a1) a1) (by kernel_rfl) (by rw[au])
theorem ok:Ok prog 81 D.sig:=aq func81 aB (by kernel_rfl) (fc bS.ok (al _))
end cT
namespace jx
abbrev Arg:Type:=Log×Int×Unit
abbrev Out:Type:=Int×Log×Unit
abbrev ps:PQ:=[(.eU (am dP),dP),(.ro,i64)]
noncomputable def D:FD:={ fn:=f82,tl:=aL,ps:=ps,rs:=[(i64,(ax i64))],gl:=[(41,bS.D.sig)],es:=[2] }
noncomputable def ab (a:Arg):Option Out:=@lift Out fun k=>D.W k a
noncomputable def p (a1:Arg):Option Out:=(bS.ab (a1.1.1,a1.2.1,())).bind fun r2=>(bS.ab (a1.1.2.1,r2.1,())).bind fun r3=>some (r3.1,(r2.2.1,r3.2.1,a1.1.2.2),())
theorem aa (k:Nat) (a1:Arg):@Eq (Option Out) (D.W k a1) (p a1):=by kernel_rfl
theorem ok:Ok prog 82 D.sig:=aq func82 aB (by kernel_rfl) (fc bS.ok (al _))
end jx
namespace aZ
abbrev Arg:Type:=Int×Unit
abbrev Out:Type:=(List UInt8)×Unit
abbrev ps:PQ:=[(.ro,i64)]
noncomputable def D:FD:={ fn:=f157,tl:=aL,ps:=ps,rs:=[(.str,(ax .str))],lv:=[(4,[0,3])],lx:=[(0,[3])] }
noncomputable def ab (a:Arg):Option Out:=@lift Out fun k=>D.W k a
noncomputable def T0 (a1:Arg) (J:Int×(List UInt8)):St:={ n:=20,sl:=[(0,.val i64 J.1),(3,.val .str J.2)],vr:=[],av:=[] }
noncomputable def b0 (self:(Int×(List UInt8))->Option Out) (e0:(List UInt8)->Option Out) (a1:Arg) (J:Int×(List UInt8)):Option Out:=bif decide ((0:Int) < J.1) then (if [UInt8.ofInt (ae ((48:Int)+(J.1.tmod (10:Int))))].length+J.2.length<=bg then (self (ae (J.1.tdiv (10:Int)),[UInt8.ofInt (ae ((48:Int)+(J.1.tmod (10:Int))))]++J.2)) else none) else e0 J.2
noncomputable abbrev B0 (_:Nat):=b0
noncomputable def q0 (a1:Arg) (Oa:(List UInt8)):Option Out:=if ([109]:List UInt8).length+Oa.length<=bg then (some (([109]:List UInt8)++Oa,())) else none
noncomputable abbrev Q0 (_:Nat):=q0
noncomputable def s0 (k:Nat) (a1:Arg):(Int×(List UInt8))->Option Out:=fun J=>D.L k [1,1,1,0,0,0] [0,3] [] (af 0 (ao (D.N k [1,1,1,1]) D.K0)) (T0 a1 J)
noncomputable def r0 (k:Nat) (a1:Arg):(Int×(List UInt8))->Option Out:=ak (fun w v=>B0 k w (Q0 k a1) a1 v) k
theorem au (k:Nat) (a1:Arg):s0 k a1=r0 k a1:=
 funext fun J=>an _ _ _ (T0 a1) _ (fun rec v=>by kernel_rfl) k J
noncomputable def p (l0:(Int×(List UInt8))->Option Out) (a1:Arg):Option Out:=bif decide (a1.1<=(0:Int)) then (some (([109,48]:List UInt8),())) else l0 (a1.1,([]:List UInt8))
theorem aa (k:Nat) (a1:Arg):@Eq (Option Out) (D.W k a1) (p (r0 k a1) a1):=
 Eq.trans (b:=p (s0 k a1) a1) (by kernel_rfl) (by rw[au])
theorem ok:Ok prog 157 D.sig:=aq func157 aB (by kernel_rfl) (al _)
end aZ
namespace cj
abbrev Arg:Type:=(List Change)×Int×Unit
abbrev Out:Type:=Int×(List Change)×Unit
abbrev ps:PQ:=[(.eU (am (.U ap)),(.U ap)),(.ro,i64)]
noncomputable def D:FD:={ fn:=f154,tl:=aL,ps:=ps,rs:=[(i64,(ax i64))],gl:=[(157,aZ.D.sig)],es:=[0],lv:=[(2,[0,1,5])],lx:=[(0,[0,1])] }
noncomputable def ab (a:Arg):Option Out:=@lift Out fun k=>D.W k a
noncomputable def T0 (a1:Arg) (J:(List Change)×Int×Int):St:={ n:=97,sl:=[(0,.own (.U ap) (am (.U ap)) [] J.1),(1,.val i64 J.2.1),(5,.val i64 J.2.2)],vr:=[],av:=[(0,0,true)] }
noncomputable def b0 (self:((List Change)×Int×Int)->Option Out) (e0:((List Change)×Int)->Option Out) (a1:Arg) (J:(List Change)×Int×Int):Option Out:=bif decide (J.2.2 < (J.1.length:Int)) then (if 0<=J.2.2/\J.2.2 < (J.1.length:Int) then ((J.1[J.2.2.toNat]?).bind fun aC=>let im:=J.1.set J.2.2.toNat (decide (J.2.1.tmod (3:Int)=(0:Int)),aC.2);if 0<=J.2.2/\J.2.2 < (im.length:Int) then ((im[J.2.2.toNat]?).bind fun cg=>let my:=im.set J.2.2.toNat (cg.1,(ae (J.2.1+(1:Int)),cg.2.1.2),cg.2.2);if 0<=J.2.2/\J.2.2 < (my.length:Int) then ((my[J.2.2.toNat]?).bind fun ll=>let xf:=my.set J.2.2.toNat (ll.1,(ll.2.1.1,ae ((ae (J.2.1+(1:Int)))+(1:Int)),ll.2.1.2.2),ll.2.2);if 0<=J.2.2/\J.2.2 < (xf.length:Int) then ((xf[J.2.2.toNat]?).bind fun su=>let qd:=xf.set J.2.2.toNat (su.1,(su.2.1.1,su.2.1.2.1,ae ((ae ((ae (J.2.1+(1:Int)))+(1:Int)))+(1:Int)),su.2.1.2.2.2),su.2.2);(aZ.ab (ae ((ae ((ae ((ae (J.2.1+(1:Int)))+(1:Int)))+(1:Int)))+(1:Int)),())).bind fun J5=>if 0<=J.2.2/\J.2.2 < (qd.length:Int) then ((qd[J.2.2.toNat]?).bind fun xg=>let J9:=qd.set J.2.2.toNat (xg.1,(xg.2.1.1,xg.2.1.2.1,xg.2.1.2.2.1,J5.1,xg.2.1.2.2.2.2),xg.2.2);if 0<=J.2.2/\J.2.2 < (J9.length:Int) then ((J9[J.2.2.toNat]?).bind fun vA=>let J_:=J9.set J.2.2.toNat (vA.1,vA.2.1,decide ((ae ((ae ((ae ((ae ((ae (J.2.1+(1:Int)))+(1:Int)))+(1:Int)))+(1:Int)))+(1:Int))).tmod (3:Int)=(0:Int)),vA.2.2.2);if 0<=J.2.2/\J.2.2 < (J_.length:Int) then ((J_[J.2.2.toNat]?).bind fun CO=>let CN:=J_.set J.2.2.toNat (CO.1,CO.2.1,CO.2.2.1,(ae ((ae ((ae ((ae ((ae ((ae (J.2.1+(1:Int)))+(1:Int)))+(1:Int)))+(1:Int)))+(1:Int)))+(1:Int)),CO.2.2.2.1.2),CO.2.2.2.2);if 0<=J.2.2/\J.2.2 < (CN.length:Int) then ((CN[J.2.2.toNat]?).bind fun xh=>let Ka:=CN.set J.2.2.toNat (xh.1,xh.2.1,xh.2.2.1,(xh.2.2.2.1.1,ae ((ae ((ae ((ae ((ae ((ae ((ae (J.2.1+(1:Int)))+(1:Int)))+(1:Int)))+(1:Int)))+(1:Int)))+(1:Int)))+(1:Int)),xh.2.2.2.1.2.2),xh.2.2.2.2);if 0<=J.2.2/\J.2.2 < (Ka.length:Int) then ((Ka[J.2.2.toNat]?).bind fun xi=>let Kb:=Ka.set J.2.2.toNat (xi.1,xi.2.1,xi.2.2.1,(xi.2.2.2.1.1,xi.2.2.2.1.2.1,ae ((ae ((ae ((ae ((ae ((ae ((ae ((ae (J.2.1+(1:Int)))+(1:Int)))+(1:Int)))+(1:Int)))+(1:Int)))+(1:Int)))+(1:Int)))+(1:Int)),xi.2.2.2.1.2.2.2),xi.2.2.2.2);(aZ.ab (ae ((ae ((ae ((ae ((ae ((ae ((ae ((ae ((ae (J.2.1+(1:Int)))+(1:Int)))+(1:Int)))+(1:Int)))+(1:Int)))+(1:Int)))+(1:Int)))+(1:Int)))+(1:Int)),())).bind fun Rl=>if 0<=J.2.2/\J.2.2 < (Kb.length:Int) then ((Kb[J.2.2.toNat]?).bind fun vB=>let Rm:=Kb.set J.2.2.toNat (vB.1,vB.2.1,vB.2.2.1,(vB.2.2.2.1.1,vB.2.2.2.1.2.1,vB.2.2.2.1.2.2.1,Rl.1,vB.2.2.2.1.2.2.2.2),vB.2.2.2.2);self (Rm,ae ((ae ((ae ((ae ((ae ((ae ((ae ((ae ((ae ((ae (J.2.1+(1:Int)))+(1:Int)))+(1:Int)))+(1:Int)))+(1:Int)))+(1:Int)))+(1:Int)))+(1:Int)))+(1:Int)))+(1:Int)),ae (J.2.2+(1:Int)))) else none) else none) else none) else none) else none) else none) else none) else none) else none) else none) else e0 (J.1,J.2.1)
noncomputable abbrev B0 (_:Nat):=b0
noncomputable def q0 (a1:Arg) (Ob:((List Change)×Int)):Option Out:=some (Ob.2,Ob.1,())
noncomputable abbrev Q0 (_:Nat):=q0
noncomputable def s0 (k:Nat) (a1:Arg):((List Change)×Int×Int)->Option Out:=fun J=>D.L k [1,0,1,0,0] [0,1,5] [] (af 0 (ao (D.N k [1,1]) D.K0)) (T0 a1 J)
noncomputable def r0 (k:Nat) (a1:Arg):((List Change)×Int×Int)->Option Out:=ak (fun w v=>B0 k w (Q0 k a1) a1 v) k
theorem au (k:Nat) (a1:Arg):s0 k a1=r0 k a1:=
 funext fun J=>an _ _ _ (T0 a1) _ (fun rec v=>by kernel_rfl) k J
noncomputable def p (l0:((List Change)×Int×Int)->Option Out) (a1:Arg):Option Out:=l0 (a1.1,a1.2.1,(0:Int))
theorem aa (k:Nat) (a1:Arg):@Eq (Option Out) (D.W k a1) (p (r0 k a1) a1):=
 Eq.trans (b:=p (s0 k a1) a1) (by kernel_rfl) (by rw[au])
theorem ok:Ok prog 154 D.sig:=aq func154 aB (by kernel_rfl) (fc aZ.ok (al _))
end cj
namespace cK
abbrev Arg:Type:=(List Int)×Int×Unit
abbrev Out:Type:=Int×(List Int)×Unit
abbrev ps:PQ:=[(.eU (am (.U i64)),(.U i64)),(.ro,i64)]
noncomputable def D:FD:={ fn:=f155,tl:=aL,ps:=ps,rs:=[(i64,(ax i64))],es:=[0],lv:=[(2,[0,1,5])],lx:=[(0,[0,1])] }
noncomputable def ab (a:Arg):Option Out:=@lift Out fun k=>D.W k a
noncomputable def T0 (a1:Arg) (J:(List Int)×Int×Int):St:={ n:=19,sl:=[(0,.own (.U i64) (am (.U i64)) [] J.1),(1,.val i64 J.2.1),(5,.val i64 J.2.2)],vr:=[],av:=[(0,0,true)] }
noncomputable def b0 (self:((List Int)×Int×Int)->Option Out) (e0:((List Int)×Int)->Option Out) (a1:Arg) (J:(List Int)×Int×Int):Option Out:=bif decide (J.2.2 < (J.1.length:Int)) then (if 0<=J.2.2/\J.2.2 < (J.1.length:Int) then ((J.1[J.2.2.toNat]?).bind fun aC=>self (J.1.set J.2.2.toNat J.2.1,ae (J.2.1+(1:Int)),ae (J.2.2+(1:Int)))) else none) else e0 (J.1,J.2.1)
noncomputable abbrev B0 (_:Nat):=b0
noncomputable def q0 (a1:Arg) (jc:((List Int)×Int)):Option Out:=some (jc.2,jc.1,())
noncomputable abbrev Q0 (_:Nat):=q0
noncomputable def s0 (k:Nat) (a1:Arg):((List Int)×Int×Int)->Option Out:=fun J=>D.L k [1,0,1,0,0] [0,1,5] [] (af 0 (ao (D.N k [1,1]) D.K0)) (T0 a1 J)
noncomputable def r0 (k:Nat) (a1:Arg):((List Int)×Int×Int)->Option Out:=ak (fun w v=>B0 k w (Q0 k a1) a1 v) k
theorem au (k:Nat) (a1:Arg):s0 k a1=r0 k a1:=
 funext fun J=>an _ _ _ (T0 a1) _ (fun rec v=>by kernel_rfl) k J
noncomputable def p (l0:((List Int)×Int×Int)->Option Out) (a1:Arg):Option Out:=l0 (a1.1,a1.2.1,(0:Int))
theorem aa (k:Nat) (a1:Arg):@Eq (Option Out) (D.W k a1) (p (r0 k a1) a1):=
 Eq.trans (b:=p (s0 k a1) a1) (by kernel_rfl) (by rw[au])
theorem ok:Ok prog 155 D.sig:=aq func155 aB (by kernel_rfl) (al _)
end cK
namespace dF
abbrev Arg:Type:=(List Key)×Int×Unit
abbrev Out:Type:=Int×(List Key)×Unit
abbrev ps:PQ:=[(.eU (am (.U aE)),(.U aE)),(.ro,i64)]
noncomputable def D:FD:={ fn:=f156,tl:=aL,ps:=ps,rs:=[(i64,(ax i64))],es:=[0],lv:=[(2,[0,1,5])],lx:=[(0,[0,1])] }
noncomputable def ab (a:Arg):Option Out:=@lift Out fun k=>D.W k a
noncomputable def T0 (a1:Arg) (J:(List Key)×Int×Int):St:={ n:=27,sl:=[(0,.own (.U aE) (am (.U aE)) [] J.1),(1,.val i64 J.2.1),(5,.val i64 J.2.2)],vr:=[],av:=[(0,0,true)] }
noncomputable def b0 (self:((List Key)×Int×Int)->Option Out) (e0:((List Key)×Int)->Option Out) (a1:Arg) (J:(List Key)×Int×Int):Option Out:=bif decide (J.2.2 < (J.1.length:Int)) then (if 0<=J.2.2/\J.2.2 < (J.1.length:Int) then ((J.1[J.2.2.toNat]?).bind fun aC=>let im:=J.1.set J.2.2.toNat (J.2.1,aC.2);if 0<=J.2.2/\J.2.2 < (im.length:Int) then ((im[J.2.2.toNat]?).bind fun cg=>let my:=im.set J.2.2.toNat (cg.1,ae (J.2.1+(1:Int)),cg.2.2);self (my,ae ((ae (J.2.1+(1:Int)))+(1:Int)),ae (J.2.2+(1:Int)))) else none) else none) else e0 (J.1,J.2.1)
noncomputable abbrev B0 (_:Nat):=b0
noncomputable def q0 (a1:Arg) (gg:((List Key)×Int)):Option Out:=some (gg.2,gg.1,())
noncomputable abbrev Q0 (_:Nat):=q0
noncomputable def s0 (k:Nat) (a1:Arg):((List Key)×Int×Int)->Option Out:=fun J=>D.L k [1,0,1,0,0] [0,1,5] [] (af 0 (ao (D.N k [1,1]) D.K0)) (T0 a1 J)
noncomputable def r0 (k:Nat) (a1:Arg):((List Key)×Int×Int)->Option Out:=ak (fun w v=>B0 k w (Q0 k a1) a1 v) k
theorem au (k:Nat) (a1:Arg):s0 k a1=r0 k a1:=
 funext fun J=>an _ _ _ (T0 a1) _ (fun rec v=>by kernel_rfl) k J
noncomputable def p (l0:((List Key)×Int×Int)->Option Out) (a1:Arg):Option Out:=l0 (a1.1,a1.2.1,(0:Int))
theorem aa (k:Nat) (a1:Arg):@Eq (Option Out) (D.W k a1) (p (r0 k a1) a1):=
 Eq.trans (b:=p (s0 k a1) a1) (by kernel_rfl) (by rw[au])
theorem ok:Ok prog 156 D.sig:=aq func156 aB (by kernel_rfl) (al _)
end dF
namespace eG
abbrev Arg:Type:=(List Tx)×Int×Unit
abbrev Out:Type:=Int×(List Tx)×Unit
abbrev ps:PQ:=[(.eU (am (.U aY)),(.U aY)),(.ro,i64)]
noncomputable def D:FD:={ fn:=f83,tl:=aL,ps:=ps,rs:=[(i64,(ax i64))],gl:=[(154,cj.D.sig),(155,cK.D.sig),(156,dF.D.sig)],es:=[0],lv:=[(2,[0,1,5])],lx:=[(0,[0,1])] }
noncomputable def ab (a:Arg):Option Out:=@lift Out fun k=>D.W k a
noncomputable def T0 (a1:Arg) (J:(List Tx)×Int×Int):St:={ n:=41,sl:=[(0,.own (.U aY) (am (.U aY)) [] J.1),(1,.val i64 J.2.1),(5,.val i64 J.2.2)],vr:=[],av:=[(0,0,true)] }
noncomputable def b0 (self:((List Tx)×Int×Int)->Option Out) (e0:((List Tx)×Int)->Option Out) (a1:Arg) (J:(List Tx)×Int×Int):Option Out:=bif decide (J.2.2 < (J.1.length:Int)) then (if 0<=J.2.2/\J.2.2 < (J.1.length:Int) then ((J.1[J.2.2.toNat]?).bind fun aC=>let im:=J.1.set J.2.2.toNat (J.2.1,aC.2);if 0<=J.2.2/\J.2.2 < (im.length:Int) then ((im[J.2.2.toNat]?).bind fun cg=>(im[J.2.2.toNat]?).bind fun nY=>(im[J.2.2.toNat]?).bind fun ll=>(cj.ab (ll.2.1,ae (J.2.1+(1:Int)),())).bind fun tP=>(im[J.2.2.toNat]?).bind fun su=>let qd:=im.set J.2.2.toNat (su.1,tP.2.1,su.2.2);if 0<=J.2.2/\J.2.2 < (qd.length:Int) then ((qd[J.2.2.toNat]?).bind fun TT=>(qd[J.2.2.toNat]?).bind fun xg=>(qd[J.2.2.toNat]?).bind fun J8=>(cK.ab (J8.2.2.1,tP.1,())).bind fun Oc=>(qd[J.2.2.toNat]?).bind fun zF=>let zG:=qd.set J.2.2.toNat (zF.1,zF.2.1,Oc.2.1,zF.2.2.2);if 0<=J.2.2/\J.2.2 < (zG.length:Int) then ((zG[J.2.2.toNat]?).bind fun TU=>(zG[J.2.2.toNat]?).bind fun xh=>(zG[J.2.2.toNat]?).bind fun Rn=>(dF.ab (Rn.2.2.2.1,Oc.1,())).bind fun GA=>(zG[J.2.2.toNat]?).bind fun zE=>let Rp:=zG.set J.2.2.toNat (zE.1,zE.2.1,zE.2.2.1,GA.2.1,zE.2.2.2.2);self (Rp,GA.1,ae (J.2.2+(1:Int)))) else none) else none) else none) else none) else e0 (J.1,J.2.1)
noncomputable abbrev B0 (_:Nat):=b0
noncomputable def q0 (a1:Arg) (Od:((List Tx)×Int)):Option Out:=some (Od.2,Od.1,())
noncomputable abbrev Q0 (_:Nat):=q0
noncomputable def s0 (k:Nat) (a1:Arg):((List Tx)×Int×Int)->Option Out:=fun J=>D.L k [1,0,1,0,0] [0,1,5] [] (af 0 (ao (D.N k [1,1]) D.K0)) (T0 a1 J)
noncomputable def r0 (k:Nat) (a1:Arg):((List Tx)×Int×Int)->Option Out:=ak (fun w v=>B0 k w (Q0 k a1) a1 v) k
theorem au (k:Nat) (a1:Arg):s0 k a1=r0 k a1:=
 funext fun J=>an _ _ _ (T0 a1) _ (fun rec v=>by kernel_rfl) k J
noncomputable def p (l0:((List Tx)×Int×Int)->Option Out) (a1:Arg):Option Out:=l0 (a1.1,a1.2.1,(0:Int))
theorem aa (k:Nat) (a1:Arg):@Eq (Option Out) (D.W k a1) (p (r0 k a1) a1):=
 Eq.trans (b:=p (s0 k a1) a1) (by kernel_rfl) (by rw[au])
theorem ok:Ok prog 83 D.sig:=aq func83 aB (by kernel_rfl) (fc cj.ok (fc cK.ok (fc dF.ok (al _))))
end eG
namespace hY
abbrev Arg:Type:=eP×Int×Unit
abbrev Out:Type:=Int×eP×Unit
abbrev ps:PQ:=[(.eU (am cM),cM),(.ro,i64)]
noncomputable def D:FD:={ fn:=f24,tl:=aL,ps:=ps,rs:=[(i64,(ax i64))],gl:=[(81,cT.D.sig),(82,jx.D.sig),(83,eG.D.sig)],es:=[2] }
noncomputable def ab (a:Arg):Option Out:=@lift Out fun k=>D.W k a
noncomputable def p (a1:Arg):Option Out:=(cT.ab (a1.1.2.1,a1.2.1,())).bind fun r2=>(jx.ab (a1.1.2.2.1,r2.1,())).bind fun r3=>(eG.ab (a1.1.2.2.2.1,r3.1,())).bind fun r4=>some (r4.1,(a1.1.1,r2.2.1,r3.2.1,r4.2.1,a1.1.2.2.2.2),())
theorem aa (k:Nat) (a1:Arg):@Eq (Option Out) (D.W k a1) (p a1):=by kernel_rfl
theorem ok:Ok prog 24 D.sig:=aq func24 aB (by kernel_rfl) (fc cT.ok (fc jx.ok (fc eG.ok (al _))))
end hY
namespace dY
abbrev Arg:Type:=(List Row)×Int×Unit
abbrev Out:Type:=Int×(List Row)×Unit
abbrev ps:PQ:=[(.eU (am (.U aA)),(.U aA)),(.ro,i64)]
noncomputable def D:FD:={ fn:=f84,tl:=aL,ps:=ps,rs:=[(i64,(ax i64))],gl:=[(157,aZ.D.sig)],es:=[0],lv:=[(2,[0,1,5])],lx:=[(0,[0,1])] }
noncomputable def ab (a:Arg):Option Out:=@lift Out fun k=>D.W k a
noncomputable def T0 (a1:Arg) (J:(List Row)×Int×Int):St:={ n:=42,sl:=[(0,.own (.U aA) (am (.U aA)) [] J.1),(1,.val i64 J.2.1),(5,.val i64 J.2.2)],vr:=[],av:=[(0,0,true)] }
noncomputable def b0 (self:((List Row)×Int×Int)->Option Out) (e0:((List Row)×Int)->Option Out) (a1:Arg) (J:(List Row)×Int×Int):Option Out:=bif decide (J.2.2 < (J.1.length:Int)) then (if 0<=J.2.2/\J.2.2 < (J.1.length:Int) then ((J.1[J.2.2.toNat]?).bind fun aC=>let im:=J.1.set J.2.2.toNat (J.2.1,aC.2);if 0<=J.2.2/\J.2.2 < (im.length:Int) then ((im[J.2.2.toNat]?).bind fun cg=>let my:=im.set J.2.2.toNat (cg.1,ae (J.2.1+(1:Int)),cg.2.2);if 0<=J.2.2/\J.2.2 < (my.length:Int) then ((my[J.2.2.toNat]?).bind fun ll=>let xf:=my.set J.2.2.toNat (ll.1,ll.2.1,ae ((ae (J.2.1+(1:Int)))+(1:Int)),ll.2.2.2);(aZ.ab (ae ((ae ((ae (J.2.1+(1:Int)))+(1:Int)))+(1:Int)),())).bind fun qc=>if 0<=J.2.2/\J.2.2 < (xf.length:Int) then ((xf[J.2.2.toNat]?).bind fun zD=>let J4:=xf.set J.2.2.toNat (zD.1,zD.2.1,zD.2.2.1,qc.1,zD.2.2.2.2);self (J4,ae ((ae ((ae ((ae (J.2.1+(1:Int)))+(1:Int)))+(1:Int)))+(1:Int)),ae (J.2.2+(1:Int)))) else none) else none) else none) else none) else e0 (J.1,J.2.1)
noncomputable abbrev B0 (_:Nat):=b0
noncomputable def q0 (a1:Arg) (Oe:((List Row)×Int)):Option Out:=some (Oe.2,Oe.1,())
noncomputable abbrev Q0 (_:Nat):=q0
noncomputable def s0 (k:Nat) (a1:Arg):((List Row)×Int×Int)->Option Out:=fun J=>D.L k [1,0,1,0,0] [0,1,5] [] (af 0 (ao (D.N k [1,1]) D.K0)) (T0 a1 J)
noncomputable def r0 (k:Nat) (a1:Arg):((List Row)×Int×Int)->Option Out:=ak (fun w v=>B0 k w (Q0 k a1) a1 v) k
theorem au (k:Nat) (a1:Arg):s0 k a1=r0 k a1:=
 funext fun J=>an _ _ _ (T0 a1) _ (fun rec v=>by kernel_rfl) k J
noncomputable def p (l0:((List Row)×Int×Int)->Option Out) (a1:Arg):Option Out:=l0 (a1.1,a1.2.1,(0:Int))
theorem aa (k:Nat) (a1:Arg):@Eq (Option Out) (D.W k a1) (p (r0 k a1) a1):=
 Eq.trans (b:=p (s0 k a1) a1) (by kernel_rfl) (by rw[au])
theorem ok:Ok prog 84 D.sig:=aq func84 aB (by kernel_rfl) (fc aZ.ok (al _))
end dY
namespace eX
abbrev Arg:Type:=fC×Int×Unit
abbrev Out:Type:=Int×fC×Unit
abbrev ps:PQ:=[(.eU (am cA),cA),(.ro,i64)]
noncomputable def D:FD:={ fn:=f25,tl:=aL,ps:=ps,rs:=[(i64,(ax i64))],gl:=[(84,dY.D.sig)],es:=[2] }
noncomputable def ab (a:Arg):Option Out:=@lift Out fun k=>D.W k a
noncomputable def p (a1:Arg):Option Out:=(dY.ab (a1.1.2.1,a1.2.1,())).bind fun r2=>some (r2.1,(a1.1.1,r2.2.1,a1.1.2.2),())
theorem aa (k:Nat) (a1:Arg):@Eq (Option Out) (D.W k a1) (p a1):=by kernel_rfl
theorem ok:Ok prog 25 D.sig:=aq func25 aB (by kernel_rfl) (fc dY.ok (al _))
end eX
namespace dZ
abbrev Arg:Type:=(List Row)×Int×Unit
abbrev Out:Type:=Int×Unit
abbrev ps:PQ:=[(.ro,(.U aA)),(.ro,i64)]
noncomputable def D:FD:={ fn:=f85,tl:=aL,ps:=ps,rs:=[(i64,(ax i64))],gl:=[(157,aZ.D.sig)],lv:=[(2,[0,1,5])],lx:=[(0,[1])],od:=[(13,[0,1,2,3,4,5,6,7])] }
noncomputable def ab (a:Arg):Option Out:=@lift Out fun k=>D.W k a
noncomputable def T0 (a1:Arg) (J:Int×Int):St:={ n:=50,sl:=[(0,.val (.U aA) a1.1),(1,.val i64 J.1),(5,.val i64 J.2)],vr:=[],av:=[] }
noncomputable def b0 (self:(Int×Int)->Option Out) (e0:Int->Option Out) (a1:Arg) (J:Int×Int):Option Out:=bif decide (J.2 < (a1.1.length:Int)) then (if 0<=J.2 then ((a1.1[J.2.toNat]?).bind fun aC=>bif !decide (aC.1=J.1) then (some ((-1:Int),())) else if 0<=J.2 then ((a1.1[J.2.toNat]?).bind fun cW=>bif !decide (cW.2.1=ae (J.1+(1:Int))) then (some ((-1:Int),())) else if 0<=J.2 then ((a1.1[J.2.toNat]?).bind fun cg=>bif !decide (cg.2.2.1=ae ((ae (J.1+(1:Int)))+(1:Int))) then (some ((-1:Int),())) else if 0<=J.2 then ((a1.1[J.2.toNat]?).bind fun nY=>(aZ.ab (ae ((ae ((ae (J.1+(1:Int)))+(1:Int)))+(1:Int)),())).bind fun iU=>bif !decide (nY.2.2.2.1=iU.1) then (some ((-1:Int),())) else self (ae ((ae ((ae ((ae (J.1+(1:Int)))+(1:Int)))+(1:Int)))+(1:Int)),ae (J.2+(1:Int)))) else none) else none) else none) else none) else e0 J.1
noncomputable abbrev B0 (_:Nat):=b0
noncomputable def q0 (a1:Arg) (lk:Int):Option Out:=some (lk,())
noncomputable abbrev Q0 (_:Nat):=q0
noncomputable def s0 (k:Nat) (a1:Arg):(Int×Int)->Option Out:=fun J=>D.L k [1,0,1,0,0] [0,1,5] [] (af 0 (ao (D.N k [1,1]) D.K0)) (T0 a1 J)
noncomputable def r0 (k:Nat) (a1:Arg):(Int×Int)->Option Out:=ak (fun w v=>B0 k w (Q0 k a1) a1 v) k
theorem au (k:Nat) (a1:Arg):s0 k a1=r0 k a1:=
 funext fun J=>an _ _ _ (T0 a1) _ (fun rec v=>by kernel_rfl) k J
noncomputable def p (l0:(Int×Int)->Option Out) (a1:Arg):Option Out:=l0 (a1.2.1,(0:Int))
theorem aa (k:Nat) (a1:Arg):@Eq (Option Out) (D.W k a1) (p (r0 k a1) a1):=
 Eq.trans (b:=p (s0 k a1) a1) (by kernel_rfl) (by rw[au])
theorem ok:Ok prog 85 D.sig:=aq func85 aB (by kernel_rfl) (fc aZ.ok (al _))
end dZ
namespace ee
abbrev Arg:Type:=fC×Int×Unit
abbrev Out:Type:=Int×Unit
abbrev ps:PQ:=[(.ro,cA),(.ro,i64)]
noncomputable def D:FD:={ fn:=f26,tl:=aL,ps:=ps,rs:=[(i64,(ax i64))],gl:=[(85,dZ.D.sig)] }
noncomputable def ab (a:Arg):Option Out:=@lift Out fun k=>D.W k a
noncomputable def p (a1:Arg):Option Out:=(dZ.ab (a1.1.2.1,a1.2.1,())).bind fun r2=>bif decide (r2.1 < (0:Int)) then (some ((-1:Int),())) else some (r2.1,())
theorem aa (k:Nat) (a1:Arg):@Eq (Option Out) (D.W k a1) (p a1):=by kernel_rfl
theorem ok:Ok prog 26 D.sig:=aq func26 aB (by kernel_rfl) (fc dZ.ok (al _))
end ee
namespace cr
abbrev Arg:Type:=eP×Unit
abbrev Out:Type:=Bool×Unit
abbrev ps:PQ:=[(.ro,cM)]
noncomputable def D:FD:={ fn:=f5,tl:=aL,ps:=ps,rs:=[(.bool,(ax .bool))],gl:=[(11,jp.D.sig),(13,gj.D.sig),(15,jw.D.sig),(21,lm.D.sig),(22,kb.D.sig),(23,en.D.sig),(24,hY.D.sig),(25,eX.D.sig),(26,ee.D.sig)],od:=[(10,[0,1,2,3,4])] }
noncomputable def ab (a:Arg):Option Out:=@lift Out fun k=>D.W k a
noncomputable def p (a1:Arg):Option Out:=(jp.ab (a1.1,(1048576:Int),())).bind fun r2=>bif decide (r2.1 < (0:Int)) then (some (true,())) else (gj.ab (a1.1,())).bind fun r3=>(lm.ab (r3.1,())).bind fun r4=>(gj.ab (a1.1,())).bind fun r5=>(kb.ab (r5.1,())).bind fun r6=>(en.ab (r6.1,r4.1,())).bind fun r7=>bif !r7.1 then (some (false,())) else (gj.ab (a1.1,())).bind fun r8=>(jw.ab (r5.1,r8.1,())).bind fun r9=>bif !r9.1 then (some (false,())) else (hY.ab (r5.1,(1:Int),())).bind fun CK=>bif decide (CK.1 < (0:Int)) then (some (false,())) else (en.ab (r6.1,r4.1,())).bind fun N9=>bif !N9.1 then (some (false,())) else (eX.ab (r6.1,(1:Int),())).bind fun Aj=>(ee.ab (Aj.2.1,(1:Int),())).bind fun Qy=>bif decide (Qy.1 < (0:Int)) then (some (false,())) else bif !decide (Qy.1=Aj.1) then (some (false,())) else (gj.ab (a1.1,())).bind fun N3=>(kb.ab (N3.1,())).bind fun N4=>(en.ab (N4.1,r4.1,())).bind fun IE=>bif !IE.1 then (some (false,())) else (ee.ab (Aj.2.1,(1:Int),())).bind fun LJ=>bif decide (LJ.1 < (0:Int)) then (some (false,())) else bif !decide (LJ.1=Aj.1) then (some (false,())) else some (true,())
theorem aa (k:Nat) (a1:Arg):@Eq (Option Out) (D.W k a1) (p a1):=by kernel_rfl
theorem ok:Ok prog 5 D.sig:=aq func5 aB (by kernel_rfl) (fc jp.ok (fc gj.ok (fc jw.ok (fc lm.ok (fc kb.ok (fc en.ok (fc hY.ok (fc eX.ok (fc ee.ok (al _))))))))))
end cr
end OT
set_option linter.unusedVariables false
set_option linter.unusedSimpArgs false
namespace OT
open Go
noncomputable def yB (n:Int):List UInt8:=((aZ.ab (n,())).map (·.1)).getD []
theorem kd (n:Int) (h:n<=9223372036854775807):aZ.ab (n,())=some (yB n,()):=by
 have main:∃ t,aZ.ab (n,())=some (t,()):=by
  by_cases hn:n<=0
  ·refine ⟨[109,48],ag (k:=0) fun k _=>(aZ.aa k _).trans ?_⟩
   unfold aZ.p
   simp only[hn,decide_true,cond_true]
   try rfl
  ·have key:∀ (f:Nat) (m:Int) (out:List UInt8),0<=m->m<=9223372036854775807->m < 10 ^ f->out.length+f<=100->∃ t,t.length<=100/\∀ k,f < k->ak (fun self v=>aZ.B0 0 self (fun z=>aZ.Q0 0 (n,()) z) (n,()) v) k (m,out)=some (109::t,()):=by
    intro f
    induction f with
    | zero=>
     intro m out h0 h9 h1 Y
     have hm:m=0:=by simp at h1;omega
     subst hm
     refine ⟨out,by omega,fun k hk=>?_⟩
     cases k with
     | zero=>omega
     | succ k=>
      rw[rC]
      show aZ.b0 _ _ _ _=_
      unfold aZ.b0 aZ.Q0 aZ.q0
      have hc:([109]:List UInt8).length+out.length<=bg:=by simp only[bg,List.length_cons,List.length_nil];omega
      simp only[show ¬ ((0:Int) < 0) by omega,decide_false,cond_false,hc,if_true]
      rfl
    | succ f ih=>
     intro m out h0 h9 h1 Y
     by_cases hm:0 < m
     ·have Tm:0<=m.tdiv 10:=Int.tdiv_nonneg h0 (by omega)
      have hq:m.tdiv 10 < 10 ^ f:=by
       rw[Int.tdiv_eq_ediv_of_nonneg h0]
       have:(10:Int) ^ (f+1)=10 ^ f*10:=Int.pow_succ 10 f
       omega
      have hd:=Int.emod_nonneg m (b:=10) (by omega)
      have Uf:=Int.emod_lt_of_pos m (b:=10) (by omega)
      obtain ⟨t,t1,t2⟩:=ih (m.tdiv 10) ([UInt8.ofInt (ae (48+m.tmod 10))]++out) Tm (by rw[Int.tdiv_eq_ediv_of_nonneg h0];omega) hq (by simp;omega)
      refine ⟨t,t1,fun k hk=>?_⟩
      cases k with
      | zero=>omega
      | succ k=>
       rw[rC]
       show aZ.b0 _ _ _ _=_
       unfold aZ.b0
       have hw:ae (m.tdiv 10)=m.tdiv 10:=aJ ⟨by omega,by
        rw[Int.tdiv_eq_ediv_of_nonneg h0]
        omega⟩
       have hc:[UInt8.ofInt (ae (48+m.tmod 10))].length+out.length<=bg:=by simp only[bg,List.length_cons,List.length_nil];omega
       simp only[hm,decide_true,cond_true,hc,if_true,hw]
       exact t2 k (by omega)
     ·have hm:m=0:=by omega
      subst hm
      refine ⟨out,by omega,fun k hk=>?_⟩
      cases k with
      | zero=>omega
      | succ k=>
       rw[rC]
       show aZ.b0 _ _ _ _=_
       unfold aZ.b0 aZ.Q0 aZ.q0
       have hc:([109]:List UInt8).length+out.length<=bg:=by simp only[bg,List.length_cons,List.length_nil];omega
       simp only[show ¬ ((0:Int) < 0) by omega,decide_false,cond_false,hc,if_true]
       rfl
   obtain ⟨t,t1,t2⟩:=key 19 n [] (by omega) h (by omega) (by simp)
   refine ⟨109::t,ag (k:=20) fun k hk=>(aZ.aa k _).trans ?_⟩
   unfold aZ.p
   simp only[hn,decide_false,cond_false]
   exact t2 k (by omega)
 obtain ⟨t,ht⟩:=main
 rw[ht]
 simp[yB,ht]
theorem tT (x:List UInt8) (n:Int) (hx:mB (.U u8) x) (h0:0<=n) (h1:n<=1048576):fJ.ab (x,n,())=some (cm n (zz (.U u8) x),()):=by
 obtain ⟨hl,jo⟩:=hx
 have ii:=hl
 rw[ah] at ii
 have ii:List.length x<=9223372036854775807:=ii
 have hw:ae (n - (List.length x:Int))=n - (List.length x:Int):=aJ (by omega)
 have hz:zz (.U u8) x=List.length x+0:=by show List.length x+eL _ _=_;exact congrArg (List.length x+·) (rW _ (fun _=>rfl) x)
 refine ag (k:=0) fun k _=>(fJ.aa k _).trans ?_
 show fJ.p _=_
 unfold fJ.p
 simp only[hw,hz,Nat.add_zero]
 by_cases hc:(List.length x:Int)<=n
 ·have e1:cm n (List.length x)=n - (List.length x:Int):=if_pos hc
  have n1:¬ (n - (List.length x:Int) < 0):=by omega
  simp[e1,n1]
 ·have e1:cm n (List.length x)=-1:=if_neg hc
  have n1:n - (List.length x:Int) < 0:=by omega
  simp[e1,n1]
theorem DY (x:List (List UInt8)) (n:Int) (hx:mB (.U (.U u8)) x) (h0:0<=n) (h1:n<=1048576):cN.ab (x,n,())=some (cm n (zz (.U (.U u8)) x),()):=by
 obtain ⟨hl,jo⟩:=hx
 have ii:=hl
 rw[ah] at ii
 have ii:List.length x<=9223372036854775807:=ii
 have hw:ae (n - (List.length x:Int))=n - (List.length x:Int):=aJ (by omega)
 have hz:zz (.U (.U u8)) x=List.length x+eL (zz (.U u8)) x:=rfl
 by_cases hc:n - (List.length x:Int) < 0
 ·have e1:cm n (zz (.U (.U u8)) x)=-1:=if_neg (by omega)
  rw[e1]
  refine ag (k:=0) fun k _=>(cN.aa k _).trans ?_
  unfold cN.p
  simp only[hw,hc,decide_true,cond_true]
  try rfl
 ·have e1:cm n (zz (.U (.U u8)) x)=cm (n - (List.length x:Int)) (eL (zz (.U u8)) x):=by rw[hz,zB (by omega)]
  rw[e1]
  refine ag (k:=List.length x+1) fun k hk=>(cN.aa k _).trans ?_
  unfold cN.p
  simp only[hw,hc,decide_false,cond_false]
  exact zA (B:=fun self v=>cN.B0 0 self (fun z=>cN.Q0 0 (x,n,()) z) (x,n,()) v) (xs:=x) hl (zz (.U u8)) (fun i hi m self CP pa=>by
    show cN.b0 _ _ _ _=_
    unfold cN.b0
    have aj:(i:Int) < (List.length x:Int):=by omega
    simp only[aj,decide_true,cond_true,Int.natCast_nonneg,if_true,Int.toNat_natCast,List.getElem?_eq_getElem hi,Option.bind_some,tT x[i] m (jo _ (List.getElem_mem hi)) CP pa]
    by_cases hs:cm m (zz (.U u8) x[i]) < 0 <;> simp[hs]) (fun m self=>by
    show cN.b0 _ _ _ _=_
    unfold cN.b0
    simp[cN.Q0,cN.q0]) _ (by omega) (by omega) k (by omega)
theorem Kc (x:Log) (n:Int) (hx:mB dP x) (h0:0<=n) (h1:n<=1048576):kQ.ab (x,n,())=some (cm n (zz dP x),()):=by
 have hz:zz dP x=(zz (.U u8) x.1+(zz (.U u8) x.2.1+0)):=rfl
 refine ag (k:=0) fun k _=>(kQ.aa k _).trans ?_
 show kQ.p _=_
 unfold kQ.p
 simp only[tT x.1 (n) hx.1 (by omega) (by omega),Option.bind_some]
 by_cases hc:((zz (.U u8) x.1:Nat):Int)<=n
 rotate_left
 ·have e1:cm (n) (zz (.U u8) x.1)=-1:=if_neg hc
  have e2:cm n (zz dP x)=-1:=if_neg (by omega)
  rw[e1,e2];rfl
 have e1:cm (n) (zz (.U u8) x.1)=n - ((zz (.U u8) x.1:Nat):Int):=if_pos hc
 have n1:¬ (n - ((zz (.U u8) x.1:Nat):Int) < 0):=by omega
 simp only[e1,n1,decide_false,cond_false]
 clear e1 n1
 simp only[tT x.2.1 ((n - ((zz (.U u8) x.1:Nat):Int))) hx.2.1 (by omega) (by omega),Option.bind_some]
 by_cases hc:((zz (.U u8) x.2.1:Nat):Int)<=(n - ((zz (.U u8) x.1:Nat):Int))
 rotate_left
 ·have e1:cm ((n - ((zz (.U u8) x.1:Nat):Int))) (zz (.U u8) x.2.1)=-1:=if_neg hc
  have e2:cm n (zz dP x)=-1:=if_neg (by omega)
  rw[e1,e2];rfl
 have e1:cm ((n - ((zz (.U u8) x.1:Nat):Int))) (zz (.U u8) x.2.1)=(n - ((zz (.U u8) x.1:Nat):Int)) - ((zz (.U u8) x.2.1:Nat):Int):=if_pos hc
 have n1:¬ ((n - ((zz (.U u8) x.1:Nat):Int)) - ((zz (.U u8) x.2.1:Nat):Int) < 0):=by omega
 simp only[e1,n1,decide_false,cond_false]
 clear e1 n1
 have e2:cm n (zz dP x)=((n - ((zz (.U u8) x.1:Nat):Int)) - ((zz (.U u8) x.2.1:Nat):Int)):=by unfold cm;rw[if_pos (by omega)];omega
 rw[e2]
theorem CQ (x:Row) (n:Int) (hx:mB aA x) (h0:0<=n) (h1:n<=1048576):jR.ab (x,n,())=some (cm n (zz aA x),()):=by
 have hz:zz aA x=(0+(0+(0+(List.length x.2.2.2.1+0)))):=rfl
 refine ag (k:=0) fun k _=>(jR.aa k _).trans ?_
 show jR.p _=_
 unfold jR.p
 have hw:ae (n - (List.length x.2.2.2.1:Int))=n - (List.length x.2.2.2.1:Int):=aJ (by have h9:=hx.2.2.2.1;simp only[mB] at h9;rw[ah] at h9;omega)
 simp only[hw]
 by_cases hc:((List.length x.2.2.2.1:Nat):Int)<=n
 rotate_left
 ·have n1:n - ((List.length x.2.2.2.1:Nat):Int) < 0:=by omega
  have e2:cm n (zz aA x)=-1:=if_neg (by omega)
  rw[e2];simp only[n1,decide_true,cond_true]
 have n1:¬ (n - ((List.length x.2.2.2.1:Nat):Int) < 0):=by omega
 simp only[n1,decide_false,cond_false]
 clear n1 hw
 have e2:cm n (zz aA x)=(n - ((List.length x.2.2.2.1:Nat):Int)):=by unfold cm;rw[if_pos (by omega)];omega
 rw[e2]
theorem DZ (x:Change) (n:Int) (hx:mB ap x) (h0:0<=n) (h1:n<=1048576):iF.ab (x,n,())=some (cm n (zz ap x),()):=by
 have hz:zz ap x=(0+((0+(0+(0+(List.length x.2.1.2.2.2.1+0))))+(0+((0+(0+(0+(List.length x.2.2.2.1.2.2.2.1+0))))+0)))):=rfl
 refine ag (k:=0) fun k _=>(iF.aa k _).trans ?_
 show iF.p _=_
 unfold iF.p
 have uA:zz aA x.2.1=(0+(0+(0+(List.length x.2.1.2.2.2.1+0)))):=rfl
 simp only[CQ x.2.1 (n) hx.2.1 (by omega) (by omega),Option.bind_some]
 by_cases hc:((zz aA x.2.1:Nat):Int)<=n
 rotate_left
 ·have e1:cm (n) (zz aA x.2.1)=-1:=if_neg hc
  have e2:cm n (zz ap x)=-1:=if_neg (by omega)
  rw[e1,e2];rfl
 have e1:cm (n) (zz aA x.2.1)=n - ((zz aA x.2.1:Nat):Int):=if_pos hc
 have n1:¬ (n - ((zz aA x.2.1:Nat):Int) < 0):=by omega
 simp only[e1,n1,decide_false,cond_false]
 clear e1 n1
 have Qz:zz aA x.2.2.2.1=(0+(0+(0+(List.length x.2.2.2.1.2.2.2.1+0)))):=rfl
 simp only[CQ x.2.2.2.1 ((n - ((zz aA x.2.1:Nat):Int))) hx.2.2.2.1 (by omega) (by omega),Option.bind_some]
 by_cases hc:((zz aA x.2.2.2.1:Nat):Int)<=(n - ((zz aA x.2.1:Nat):Int))
 rotate_left
 ·have e1:cm ((n - ((zz aA x.2.1:Nat):Int))) (zz aA x.2.2.2.1)=-1:=if_neg hc
  have e2:cm n (zz ap x)=-1:=if_neg (by omega)
  rw[e1,e2];rfl
 have e1:cm ((n - ((zz aA x.2.1:Nat):Int))) (zz aA x.2.2.2.1)=(n - ((zz aA x.2.1:Nat):Int)) - ((zz aA x.2.2.2.1:Nat):Int):=if_pos hc
 have n1:¬ ((n - ((zz aA x.2.1:Nat):Int)) - ((zz aA x.2.2.2.1:Nat):Int) < 0):=by omega
 simp only[e1,n1,decide_false,cond_false]
 clear e1 n1
 have e2:cm n (zz ap x)=((n - ((zz aA x.2.1:Nat):Int)) - ((zz aA x.2.2.2.1:Nat):Int)):=by unfold cm;rw[if_pos (by omega)];omega
 rw[e2]
theorem CR (x:List Change) (n:Int) (hx:mB (.U ap) x) (h0:0<=n) (h1:n<=1048576):co.ab (x,n,())=some (cm n (zz (.U ap) x),()):=by
 obtain ⟨hl,jo⟩:=hx
 have ii:=hl
 rw[ah] at ii
 have ii:List.length x<=9223372036854775807:=ii
 have hw:ae (n - (List.length x:Int))=n - (List.length x:Int):=aJ (by omega)
 have hz:zz (.U ap) x=List.length x+eL (zz ap) x:=rfl
 by_cases hc:n - (List.length x:Int) < 0
 ·have e1:cm n (zz (.U ap) x)=-1:=if_neg (by omega)
  rw[e1]
  refine ag (k:=0) fun k _=>(co.aa k _).trans ?_
  unfold co.p
  simp only[hw,hc,decide_true,cond_true]
  try rfl
 ·have e1:cm n (zz (.U ap) x)=cm (n - (List.length x:Int)) (eL (zz ap) x):=by rw[hz,zB (by omega)]
  rw[e1]
  refine ag (k:=List.length x+1) fun k hk=>(co.aa k _).trans ?_
  unfold co.p
  simp only[hw,hc,decide_false,cond_false]
  exact zA (B:=fun self v=>co.B0 0 self (fun z=>co.Q0 0 (x,n,()) z) (x,n,()) v) (xs:=x) hl (zz ap) (fun i hi m self CP pa=>by
    show co.b0 _ _ _ _=_
    unfold co.b0
    have aj:(i:Int) < (List.length x:Int):=by omega
    simp only[aj,decide_true,cond_true,Int.natCast_nonneg,if_true,Int.toNat_natCast,List.getElem?_eq_getElem hi,Option.bind_some,DZ x[i] m (jo _ (List.getElem_mem hi)) CP pa]
    by_cases hs:cm m (zz ap x[i]) < 0 <;> simp[hs]) (fun m self=>by
    show co.b0 _ _ _ _=_
    unfold co.b0
    simp[co.Q0,co.q0]) _ (by omega) (by omega) k (by omega)
theorem D0 (x:List Int) (n:Int) (hx:mB (.U i64) x) (h0:0<=n) (h1:n<=1048576):iG.ab (x,n,())=some (cm n (zz (.U i64) x),()):=by
 obtain ⟨hl,jo⟩:=hx
 have ii:=hl
 rw[ah] at ii
 have ii:List.length x<=9223372036854775807:=ii
 have hw:ae (n - (List.length x:Int))=n - (List.length x:Int):=aJ (by omega)
 have hz:zz (.U i64) x=List.length x+0:=by show List.length x+eL _ _=_;exact congrArg (List.length x+·) (rW _ (fun _=>rfl) x)
 refine ag (k:=0) fun k _=>(iG.aa k _).trans ?_
 show iG.p _=_
 unfold iG.p
 simp only[hw,hz,Nat.add_zero]
 by_cases hc:(List.length x:Int)<=n
 ·have e1:cm n (List.length x)=n - (List.length x:Int):=if_pos hc
  have n1:¬ (n - (List.length x:Int) < 0):=by omega
  simp[e1,n1]
 ·have e1:cm n (List.length x)=-1:=if_neg hc
  have n1:n - (List.length x:Int) < 0:=by omega
  simp[e1,n1]
theorem IF (x:List Key) (n:Int) (hx:mB (.U aE) x) (h0:0<=n) (h1:n<=1048576):j9.ab (x,n,())=some (cm n (zz (.U aE) x),()):=by
 obtain ⟨hl,jo⟩:=hx
 have ii:=hl
 rw[ah] at ii
 have ii:List.length x<=9223372036854775807:=ii
 have hw:ae (n - (List.length x:Int))=n - (List.length x:Int):=aJ (by omega)
 have hz:zz (.U aE) x=List.length x+0:=by show List.length x+eL _ _=_;exact congrArg (List.length x+·) (rW _ (fun _=>rfl) x)
 refine ag (k:=0) fun k _=>(j9.aa k _).trans ?_
 show j9.p _=_
 unfold j9.p
 simp only[hw,hz,Nat.add_zero]
 by_cases hc:(List.length x:Int)<=n
 ·have e1:cm n (List.length x)=n - (List.length x:Int):=if_pos hc
  have n1:¬ (n - (List.length x:Int) < 0):=by omega
  simp[e1,n1]
 ·have e1:cm n (List.length x)=-1:=if_neg hc
  have n1:n - (List.length x:Int) < 0:=by omega
  simp[e1,n1]
theorem Mx (x:Tx) (n:Int) (hx:mB aY x) (h0:0<=n) (h1:n<=1048576):lN.ab (x,n,())=some (cm n (zz aY x),()):=by
 have hz:zz aY x=(0+(zz (.U ap) x.2.1+(zz (.U i64) x.2.2.1+(zz (.U aE) x.2.2.2.1+0)))):=rfl
 refine ag (k:=0) fun k _=>(lN.aa k _).trans ?_
 show lN.p _=_
 unfold lN.p
 simp only[CR x.2.1 (n) hx.2.1 (by omega) (by omega),Option.bind_some]
 by_cases hc:((zz (.U ap) x.2.1:Nat):Int)<=n
 rotate_left
 ·have e1:cm (n) (zz (.U ap) x.2.1)=-1:=if_neg hc
  have e2:cm n (zz aY x)=-1:=if_neg (by omega)
  rw[e1,e2];rfl
 have e1:cm (n) (zz (.U ap) x.2.1)=n - ((zz (.U ap) x.2.1:Nat):Int):=if_pos hc
 have n1:¬ (n - ((zz (.U ap) x.2.1:Nat):Int) < 0):=by omega
 simp only[e1,n1,decide_false,cond_false]
 clear e1 n1
 simp only[D0 x.2.2.1 ((n - ((zz (.U ap) x.2.1:Nat):Int))) hx.2.2.1 (by omega) (by omega),Option.bind_some]
 by_cases hc:((zz (.U i64) x.2.2.1:Nat):Int)<=(n - ((zz (.U ap) x.2.1:Nat):Int))
 rotate_left
 ·have e1:cm ((n - ((zz (.U ap) x.2.1:Nat):Int))) (zz (.U i64) x.2.2.1)=-1:=if_neg hc
  have e2:cm n (zz aY x)=-1:=if_neg (by omega)
  rw[e1,e2];rfl
 have e1:cm ((n - ((zz (.U ap) x.2.1:Nat):Int))) (zz (.U i64) x.2.2.1)=(n - ((zz (.U ap) x.2.1:Nat):Int)) - ((zz (.U i64) x.2.2.1:Nat):Int):=if_pos hc
 have n1:¬ ((n - ((zz (.U ap) x.2.1:Nat):Int)) - ((zz (.U i64) x.2.2.1:Nat):Int) < 0):=by omega
 simp only[e1,n1,decide_false,cond_false]
 clear e1 n1
 simp only[IF x.2.2.2.1 (((n - ((zz (.U ap) x.2.1:Nat):Int)) - ((zz (.U i64) x.2.2.1:Nat):Int))) hx.2.2.2.1 (by omega) (by omega),Option.bind_some]
 by_cases hc:((zz (.U aE) x.2.2.2.1:Nat):Int)<=((n - ((zz (.U ap) x.2.1:Nat):Int)) - ((zz (.U i64) x.2.2.1:Nat):Int))
 rotate_left
 ·have e1:cm (((n - ((zz (.U ap) x.2.1:Nat):Int)) - ((zz (.U i64) x.2.2.1:Nat):Int))) (zz (.U aE) x.2.2.2.1)=-1:=if_neg hc
  have e2:cm n (zz aY x)=-1:=if_neg (by omega)
  rw[e1,e2];rfl
 have e1:cm (((n - ((zz (.U ap) x.2.1:Nat):Int)) - ((zz (.U i64) x.2.2.1:Nat):Int))) (zz (.U aE) x.2.2.2.1)=((n - ((zz (.U ap) x.2.1:Nat):Int)) - ((zz (.U i64) x.2.2.1:Nat):Int)) - ((zz (.U aE) x.2.2.2.1:Nat):Int):=if_pos hc
 have n1:¬ (((n - ((zz (.U ap) x.2.1:Nat):Int)) - ((zz (.U i64) x.2.2.1:Nat):Int)) - ((zz (.U aE) x.2.2.2.1:Nat):Int) < 0):=by omega
 simp only[e1,n1,decide_false,cond_false]
 clear e1 n1
 have e2:cm n (zz aY x)=(((n - ((zz (.U ap) x.2.1:Nat):Int)) - ((zz (.U i64) x.2.2.1:Nat):Int)) - ((zz (.U aE) x.2.2.2.1:Nat):Int)):=by unfold cm;rw[if_pos (by omega)];omega
 rw[e2]
theorem Kd (x:List Tx) (n:Int) (hx:mB (.U aY) x) (h0:0<=n) (h1:n<=1048576):eA.ab (x,n,())=some (cm n (zz (.U aY) x),()):=by
 obtain ⟨hl,jo⟩:=hx
 have ii:=hl
 rw[ah] at ii
 have ii:List.length x<=9223372036854775807:=ii
 have hw:ae (n - (List.length x:Int))=n - (List.length x:Int):=aJ (by omega)
 have hz:zz (.U aY) x=List.length x+eL (zz aY) x:=rfl
 by_cases hc:n - (List.length x:Int) < 0
 ·have e1:cm n (zz (.U aY) x)=-1:=if_neg (by omega)
  rw[e1]
  refine ag (k:=0) fun k _=>(eA.aa k _).trans ?_
  unfold eA.p
  simp only[hw,hc,decide_true,cond_true]
  try rfl
 ·have e1:cm n (zz (.U aY) x)=cm (n - (List.length x:Int)) (eL (zz aY) x):=by rw[hz,zB (by omega)]
  rw[e1]
  refine ag (k:=List.length x+1) fun k hk=>(eA.aa k _).trans ?_
  unfold eA.p
  simp only[hw,hc,decide_false,cond_false]
  exact zA (B:=fun self v=>eA.B0 0 self (fun z=>eA.Q0 0 (x,n,()) z) (x,n,()) v) (xs:=x) hl (zz aY) (fun i hi m self CP pa=>by
    show eA.b0 _ _ _ _=_
    unfold eA.b0
    have aj:(i:Int) < (List.length x:Int):=by omega
    simp only[aj,decide_true,cond_true,Int.natCast_nonneg,if_true,Int.toNat_natCast,List.getElem?_eq_getElem hi,Option.bind_some,Mx x[i] m (jo _ (List.getElem_mem hi)) CP pa]
    by_cases hs:cm m (zz aY x[i]) < 0 <;> simp[hs]) (fun m self=>by
    show eA.b0 _ _ _ _=_
    unfold eA.b0
    simp[eA.Q0,eA.q0]) _ (by omega) (by omega) k (by omega)
theorem GG (x:eP) (n:Int) (hx:mB cM x) (h0:0<=n) (h1:n<=1048576):jp.ab (x,n,())=some (cm n (zz cM x),()):=by
 have hz:zz cM x=(0+(zz (.U (.U u8)) x.2.1+((zz (.U u8) x.2.2.1.1+(zz (.U u8) x.2.2.1.2.1+0))+(zz (.U aY) x.2.2.2.1+(0+0))))):=rfl
 refine ag (k:=0) fun k _=>(jp.aa k _).trans ?_
 show jp.p _=_
 unfold jp.p
 simp only[DY x.2.1 (n) hx.2.1 (by omega) (by omega),Option.bind_some]
 by_cases hc:((zz (.U (.U u8)) x.2.1:Nat):Int)<=n
 rotate_left
 ·have e1:cm (n) (zz (.U (.U u8)) x.2.1)=-1:=if_neg hc
  have e2:cm n (zz cM x)=-1:=if_neg (by omega)
  rw[e1,e2];rfl
 have e1:cm (n) (zz (.U (.U u8)) x.2.1)=n - ((zz (.U (.U u8)) x.2.1:Nat):Int):=if_pos hc
 have n1:¬ (n - ((zz (.U (.U u8)) x.2.1:Nat):Int) < 0):=by omega
 simp only[e1,n1,decide_false,cond_false]
 clear e1 n1
 have xU:zz dP x.2.2.1=(zz (.U u8) x.2.2.1.1+(zz (.U u8) x.2.2.1.2.1+0)):=rfl
 simp only[Kc x.2.2.1 ((n - ((zz (.U (.U u8)) x.2.1:Nat):Int))) hx.2.2.1 (by omega) (by omega),Option.bind_some]
 by_cases hc:((zz dP x.2.2.1:Nat):Int)<=(n - ((zz (.U (.U u8)) x.2.1:Nat):Int))
 rotate_left
 ·have e1:cm ((n - ((zz (.U (.U u8)) x.2.1:Nat):Int))) (zz dP x.2.2.1)=-1:=if_neg hc
  have e2:cm n (zz cM x)=-1:=if_neg (by omega)
  rw[e1,e2];rfl
 have e1:cm ((n - ((zz (.U (.U u8)) x.2.1:Nat):Int))) (zz dP x.2.2.1)=(n - ((zz (.U (.U u8)) x.2.1:Nat):Int)) - ((zz dP x.2.2.1:Nat):Int):=if_pos hc
 have n1:¬ ((n - ((zz (.U (.U u8)) x.2.1:Nat):Int)) - ((zz dP x.2.2.1:Nat):Int) < 0):=by omega
 simp only[e1,n1,decide_false,cond_false]
 clear e1 n1
 simp only[Kd x.2.2.2.1 (((n - ((zz (.U (.U u8)) x.2.1:Nat):Int)) - ((zz dP x.2.2.1:Nat):Int))) hx.2.2.2.1 (by omega) (by omega),Option.bind_some]
 by_cases hc:((zz (.U aY) x.2.2.2.1:Nat):Int)<=((n - ((zz (.U (.U u8)) x.2.1:Nat):Int)) - ((zz dP x.2.2.1:Nat):Int))
 rotate_left
 ·have e1:cm (((n - ((zz (.U (.U u8)) x.2.1:Nat):Int)) - ((zz dP x.2.2.1:Nat):Int))) (zz (.U aY) x.2.2.2.1)=-1:=if_neg hc
  have e2:cm n (zz cM x)=-1:=if_neg (by omega)
  rw[e1,e2];rfl
 have e1:cm (((n - ((zz (.U (.U u8)) x.2.1:Nat):Int)) - ((zz dP x.2.2.1:Nat):Int))) (zz (.U aY) x.2.2.2.1)=((n - ((zz (.U (.U u8)) x.2.1:Nat):Int)) - ((zz dP x.2.2.1:Nat):Int)) - ((zz (.U aY) x.2.2.2.1:Nat):Int):=if_pos hc
 have n1:¬ (((n - ((zz (.U (.U u8)) x.2.1:Nat):Int)) - ((zz dP x.2.2.1:Nat):Int)) - ((zz (.U aY) x.2.2.2.1:Nat):Int) < 0):=by omega
 simp only[e1,n1,decide_false,cond_false]
 clear e1 n1
 have e2:cm n (zz cM x)=(((n - ((zz (.U (.U u8)) x.2.1:Nat):Int)) - ((zz dP x.2.2.1:Nat):Int)) - ((zz (.U aY) x.2.2.2.1:Nat):Int)):=by unfold cm;rw[if_pos (by omega)];omega
 rw[e2]
theorem tU (x:List UInt8) (h:zz (.U u8) x<=1048576):cH.ab (x,())=some (x,()):=by
 have hl:x.length<=1048576:=Nat.le_trans (eS (e:=u8) x) h
 refine ag (k:=x.length+1) fun k hk=>(cH.aa k _).trans ?_
 unfold cH.p
 have hc:0<=(x.length:Int)/\(x.length:Int)<=(x.length:Int)/\(x.length:Int)<=(bg:Int):=by simp only[bg];omega
 simp only[hc,and_self,if_true,Int.toNat_natCast]
 exact ov (B:=fun self v=>cH.B0 k self (fun z=>cH.Q0 k (x,()) z) (x,()) v) (xs:=x) (by rw[ah];omega) (fun i hi acc self ha=>by
  show cH.b0 _ _ _ _=_
  unfold cH.b0
  have aj:(i:Int) < (x.length:Int):=by omega
  have m7:(i:Int) < (acc.length:Int):=by omega
  simp only[aj,m7,decide_true,cond_true,Int.natCast_nonneg,and_self,if_true,Int.toNat_natCast,List.getElem?_eq_getElem hi,List.getElem?_eq_getElem (show i < acc.length by omega),Option.bind_some]) (fun acc self=>by
  show cH.b0 _ _ _ _=_
  unfold cH.b0
  simp[cH.Q0,cH.q0]) _ k (by omega)
theorem D1 (x:List (List UInt8)) (h:zz (.U (.U u8)) x<=1048576):dz.ab (x,())=some (x,()):=by
 have hl:x.length<=1048576:=Nat.le_trans (eS (e:=(.U u8)) x) h
 refine ag (k:=x.length+1) fun k hk=>(dz.aa k _).trans ?_
 unfold dz.p
 have hc:0<=(x.length:Int)/\(x.length:Int)<=(x.length:Int)/\(x.length:Int)<=(bg:Int):=by simp only[bg];omega
 simp only[hc,and_self,if_true,Int.toNat_natCast]
 exact ov (B:=fun self v=>dz.B0 k self (fun z=>dz.Q0 k (x,()) z) (x,()) v) (xs:=x) (by rw[ah];omega) (fun i hi acc self ha=>by
  show dz.b0 _ _ _ _=_
  unfold dz.b0
  have aj:(i:Int) < (x.length:Int):=by omega
  have m7:(i:Int) < (acc.length:Int):=by omega
  simp only[aj,m7,decide_true,cond_true,Int.natCast_nonneg,and_self,if_true,Int.toNat_natCast,List.getElem?_eq_getElem hi,List.getElem?_eq_getElem (show i < acc.length by omega),Option.bind_some,tU x[i] (by have:=mX (e:=(.U u8)) (List.getElem_mem hi);omega)]) (fun acc self=>by
  show dz.b0 _ _ _ _=_
  unfold dz.b0
  simp[dz.Q0,dz.q0]) _ k (by omega)
theorem Ke (x:Log) (h:zz dP x<=1048576):kU.ab (x,())=some (x,()):=by
 have hz:zz dP x=(zz (.U u8) x.1+(zz (.U u8) x.2.1+0)):=rfl
 refine ag (k:=0) fun k _=>(kU.aa k _).trans ?_
 show kU.p _=_
 unfold kU.p
 simp only[tU x.1 (by omega),tU x.2.1 (by omega),Option.bind_some]
theorem CS (x:Row) (h:zz aA x<=1048576):jS.ab (x,())=some (x,()):=by
 have hz:zz aA x=(0+(0+(0+(List.length x.2.2.2.1+0)))):=rfl
 refine ag (k:=0) fun k _=>(jS.aa k _).trans ?_
 show jS.p _=_
 unfold jS.p
 rfl
theorem D2 (x:Change) (h:zz ap x<=1048576):iL.ab (x,())=some (x,()):=by
 have hz:zz ap x=(0+((0+(0+(0+(List.length x.2.1.2.2.2.1+0))))+(0+((0+(0+(0+(List.length x.2.2.2.1.2.2.2.1+0))))+0)))):=rfl
 have uA:zz aA x.2.1=(0+(0+(0+(List.length x.2.1.2.2.2.1+0)))):=rfl
 have Qz:zz aA x.2.2.2.1=(0+(0+(0+(List.length x.2.2.2.1.2.2.2.1+0)))):=rfl
 refine ag (k:=0) fun k _=>(iL.aa k _).trans ?_
 show iL.p _=_
 unfold iL.p
 simp only[CS x.2.1 (by omega),CS x.2.2.2.1 (by omega),Option.bind_some]
theorem CT (x:List Change) (h:zz (.U ap) x<=1048576):cX.ab (x,())=some (x,()):=by
 have hl:x.length<=1048576:=Nat.le_trans (eS (e:=ap) x) h
 refine ag (k:=x.length+1) fun k hk=>(cX.aa k _).trans ?_
 unfold cX.p
 have hc:0<=(x.length:Int)/\(x.length:Int)<=(x.length:Int)/\(x.length:Int)<=(bg:Int):=by simp only[bg];omega
 simp only[hc,and_self,if_true,Int.toNat_natCast]
 exact ov (B:=fun self v=>cX.B0 k self (fun z=>cX.Q0 k (x,()) z) (x,()) v) (xs:=x) (by rw[ah];omega) (fun i hi acc self ha=>by
  show cX.b0 _ _ _ _=_
  unfold cX.b0
  have aj:(i:Int) < (x.length:Int):=by omega
  have m7:(i:Int) < (acc.length:Int):=by omega
  simp only[aj,m7,decide_true,cond_true,Int.natCast_nonneg,and_self,if_true,Int.toNat_natCast,List.getElem?_eq_getElem hi,List.getElem?_eq_getElem (show i < acc.length by omega),Option.bind_some,D2 x[i] (by have:=mX (e:=ap) (List.getElem_mem hi);omega)]) (fun acc self=>by
  show cX.b0 _ _ _ _=_
  unfold cX.b0
  simp[cX.Q0,cX.q0]) _ k (by omega)
theorem D3 (x:List Int) (h:zz (.U i64) x<=1048576):dA.ab (x,())=some (x,()):=by
 have hl:x.length<=1048576:=Nat.le_trans (eS (e:=i64) x) h
 refine ag (k:=x.length+1) fun k hk=>(dA.aa k _).trans ?_
 unfold dA.p
 have hc:0<=(x.length:Int)/\(x.length:Int)<=(x.length:Int)/\(x.length:Int)<=(bg:Int):=by simp only[bg];omega
 simp only[hc,and_self,if_true,Int.toNat_natCast]
 exact ov (B:=fun self v=>dA.B0 k self (fun z=>dA.Q0 k (x,()) z) (x,()) v) (xs:=x) (by rw[ah];omega) (fun i hi acc self ha=>by
  show dA.b0 _ _ _ _=_
  unfold dA.b0
  have aj:(i:Int) < (x.length:Int):=by omega
  have m7:(i:Int) < (acc.length:Int):=by omega
  simp only[aj,m7,decide_true,cond_true,Int.natCast_nonneg,and_self,if_true,Int.toNat_natCast,List.getElem?_eq_getElem hi,List.getElem?_eq_getElem (show i < acc.length by omega),Option.bind_some]) (fun acc self=>by
  show dA.b0 _ _ _ _=_
  unfold dA.b0
  simp[dA.Q0,dA.q0]) _ k (by omega)
theorem Kg (x:Key) (h:zz aE x<=1048576):kV.ab (x,())=some (x,()):=by
 have hz:zz aE x=(0+(0+0)):=rfl
 refine ag (k:=0) fun k _=>(kV.aa k _).trans ?_
 show kV.p _=_
 unfold kV.p
 rfl
theorem IG (x:List Key) (h:zz (.U aE) x<=1048576):eM.ab (x,())=some (x,()):=by
 have hl:x.length<=1048576:=Nat.le_trans (eS (e:=aE) x) h
 refine ag (k:=x.length+1) fun k hk=>(eM.aa k _).trans ?_
 unfold eM.p
 have hc:0<=(x.length:Int)/\(x.length:Int)<=(x.length:Int)/\(x.length:Int)<=(bg:Int):=by simp only[bg];omega
 simp only[hc,and_self,if_true,Int.toNat_natCast]
 exact ov (B:=fun self v=>eM.B0 k self (fun z=>eM.Q0 k (x,()) z) (x,()) v) (xs:=x) (by rw[ah];omega) (fun i hi acc self ha=>by
  show eM.b0 _ _ _ _=_
  unfold eM.b0
  have aj:(i:Int) < (x.length:Int):=by omega
  have m7:(i:Int) < (acc.length:Int):=by omega
  simp only[aj,m7,decide_true,cond_true,Int.natCast_nonneg,and_self,if_true,Int.toNat_natCast,List.getElem?_eq_getElem hi,List.getElem?_eq_getElem (show i < acc.length by omega),Option.bind_some,Kg x[i] (by have:=mX (e:=aE) (List.getElem_mem hi);omega)]) (fun acc self=>by
  show eM.b0 _ _ _ _=_
  unfold eM.b0
  simp[eM.Q0,eM.q0]) _ k (by omega)
theorem My (x:Tx) (h:zz aY x<=1048576):lO.ab (x,())=some (x,()):=by
 have hz:zz aY x=(0+(zz (.U ap) x.2.1+(zz (.U i64) x.2.2.1+(zz (.U aE) x.2.2.2.1+0)))):=rfl
 refine ag (k:=0) fun k _=>(lO.aa k _).trans ?_
 show lO.p _=_
 unfold lO.p
 simp only[CT x.2.1 (by omega),D3 x.2.2.1 (by omega),IG x.2.2.2.1 (by omega),Option.bind_some]
theorem Kh (x:List Tx) (h:zz (.U aY) x<=1048576):fD.ab (x,())=some (x,()):=by
 have hl:x.length<=1048576:=Nat.le_trans (eS (e:=aY) x) h
 refine ag (k:=x.length+1) fun k hk=>(fD.aa k _).trans ?_
 unfold fD.p
 have hc:0<=(x.length:Int)/\(x.length:Int)<=(x.length:Int)/\(x.length:Int)<=(bg:Int):=by simp only[bg];omega
 simp only[hc,and_self,if_true,Int.toNat_natCast]
 exact ov (B:=fun self v=>fD.B0 k self (fun z=>fD.Q0 k (x,()) z) (x,()) v) (xs:=x) (by rw[ah];omega) (fun i hi acc self ha=>by
  show fD.b0 _ _ _ _=_
  unfold fD.b0
  have aj:(i:Int) < (x.length:Int):=by omega
  have m7:(i:Int) < (acc.length:Int):=by omega
  simp only[aj,m7,decide_true,cond_true,Int.natCast_nonneg,and_self,if_true,Int.toNat_natCast,List.getElem?_eq_getElem hi,List.getElem?_eq_getElem (show i < acc.length by omega),Option.bind_some,My x[i] (by have:=mX (e:=aY) (List.getElem_mem hi);omega)]) (fun acc self=>by
  show fD.b0 _ _ _ _=_
  unfold fD.b0
  simp[fD.Q0,fD.q0]) _ k (by omega)
theorem GH (x:eP) (h:zz cM x<=1048576):gj.ab (x,())=some (x,()):=by
 have hz:zz cM x=(0+(zz (.U (.U u8)) x.2.1+((zz (.U u8) x.2.2.1.1+(zz (.U u8) x.2.2.1.2.1+0))+(zz (.U aY) x.2.2.2.1+(0+0))))):=rfl
 have xU:zz dP x.2.2.1=(zz (.U u8) x.2.2.1.1+(zz (.U u8) x.2.2.1.2.1+0)):=rfl
 refine ag (k:=0) fun k _=>(gj.aa k _).trans ?_
 show gj.p _=_
 unfold gj.p
 simp only[D1 x.2.1 (by omega),Ke x.2.2.1 (by omega),Kh x.2.2.2.1 (by omega),Option.bind_some]
theorem rE (x:List UInt8) (h:zz (.U u8) x<=4611686018427387904):cJ.ab (x,x,())=some (true,()):=by
 have hl:x.length<=4611686018427387904:=Nat.le_trans (eS (e:=u8) x) h
 refine ag (k:=x.length+1) fun k hk=>(cJ.aa k _).trans ?_
 unfold cJ.p
 simp only[decide_true,Bool.not_true,cond_false]
 have:=lW (B:=fun self v=>cJ.B0 k self (fun z=>cJ.Q0 k (x,x,()) z) (x,x,()) v) (xs:=x) (ys:=x) (fun _ _=>true) rfl (by rw[ah];omega) (fun i hi hj self=>by
   show cJ.b0 _ _ _ _=_
   unfold cJ.b0
   have aj:(i:Int) < (x.length:Int):=by omega
   simp only[aj,decide_true,cond_true,Int.natCast_nonneg,if_true,Int.toNat_natCast,List.getElem?_eq_getElem hi,Option.bind_some,Bool.not_true,cond_false]) (fun self=>by
   show cJ.b0 _ _ _ _=_
   unfold cJ.b0
   simp[cJ.Q0,cJ.q0]) k (by omega)
 rw[show kq (fun _ _=>true) x x=true by simp[kq]] at this
 exact this
theorem AN (x:List (List UInt8)) (h:zz (.U (.U u8)) x<=4611686018427387904):dD.ab (x,x,())=some (true,()):=by
 have hl:x.length<=4611686018427387904:=Nat.le_trans (eS (e:=(.U u8)) x) h
 refine ag (k:=x.length+1) fun k hk=>(dD.aa k _).trans ?_
 unfold dD.p
 simp only[decide_true,Bool.not_true,cond_false]
 have:=lW (B:=fun self v=>dD.B0 k self (fun z=>dD.Q0 k (x,x,()) z) (x,x,()) v) (xs:=x) (ys:=x) (fun _ _=>true) rfl (by rw[ah];omega) (fun i hi hj self=>by
   show dD.b0 _ _ _ _=_
   unfold dD.b0
   have aj:(i:Int) < (x.length:Int):=by omega
   simp only[aj,decide_true,cond_true,Int.natCast_nonneg,if_true,Int.toNat_natCast,List.getElem?_eq_getElem hi,Option.bind_some,Bool.not_true,cond_false,rE x[i] (by have:=mX (e:=(.U u8)) (List.getElem_mem hi);omega)]) (fun self=>by
   show dD.b0 _ _ _ _=_
   unfold dD.b0
   simp[dD.Q0,dD.q0]) k (by omega)
 rw[show kq (fun _ _=>true) x x=true by simp[kq]] at this
 exact this
theorem GI (x:Log) (h:zz dP x<=4611686018427387904):kX.ab (x,x,())=some (true,()):=by
 have hz:zz dP x=(zz (.U u8) x.1+(zz (.U u8) x.2.1+0)):=rfl
 refine ag (k:=0) fun k _=>(kX.aa k _).trans ?_
 show kX.p _=_
 unfold kX.p
 have q0:=rE x.1 (by omega)
 have q1:=rE x.2.1 (by omega)
 simp[q0,q1]
theorem tV (x:Row) (h:zz aA x<=4611686018427387904):gN.ab (x,x,())=some (true,()):=by
 have hz:zz aA x=(0+(0+(0+(List.length x.2.2.2.1+0)))):=rfl
 refine ag (k:=0) fun k _=>(gN.aa k _).trans ?_
 show gN.p _=_
 unfold gN.p
 simp[]
theorem AP (x:Change) (h:zz ap x<=4611686018427387904):iQ.ab (x,x,())=some (true,()):=by
 have hz:zz ap x=(0+((0+(0+(0+(List.length x.2.1.2.2.2.1+0))))+(0+((0+(0+(0+(List.length x.2.2.2.1.2.2.2.1+0))))+0)))):=rfl
 have uA:zz aA x.2.1=(0+(0+(0+(List.length x.2.1.2.2.2.1+0)))):=rfl
 have Qz:zz aA x.2.2.2.1=(0+(0+(0+(List.length x.2.2.2.1.2.2.2.1+0)))):=rfl
 refine ag (k:=0) fun k _=>(iQ.aa k _).trans ?_
 show iQ.p _=_
 unfold iQ.p
 have q0:=tV x.2.1 (by omega)
 have q1:=tV x.2.2.2.1 (by omega)
 simp[q0,q1]
theorem zH (x:List Change) (h:zz (.U ap) x<=4611686018427387904):c7.ab (x,x,())=some (true,()):=by
 have hl:x.length<=4611686018427387904:=Nat.le_trans (eS (e:=ap) x) h
 refine ag (k:=x.length+1) fun k hk=>(c7.aa k _).trans ?_
 unfold c7.p
 simp only[decide_true,Bool.not_true,cond_false]
 have:=lW (B:=fun self v=>c7.B0 k self (fun z=>c7.Q0 k (x,x,()) z) (x,x,()) v) (xs:=x) (ys:=x) (fun _ _=>true) rfl (by rw[ah];omega) (fun i hi hj self=>by
   show c7.b0 _ _ _ _=_
   unfold c7.b0
   have aj:(i:Int) < (x.length:Int):=by omega
   simp only[aj,decide_true,cond_true,Int.natCast_nonneg,if_true,Int.toNat_natCast,List.getElem?_eq_getElem hi,Option.bind_some,Bool.not_true,cond_false,AP x[i] (by have:=mX (e:=ap) (List.getElem_mem hi);omega)]) (fun self=>by
   show c7.b0 _ _ _ _=_
   unfold c7.b0
   simp[c7.Q0,c7.q0]) k (by omega)
 rw[show kq (fun _ _=>true) x x=true by simp[kq]] at this
 exact this
theorem AQ (x:List Int) (h:zz (.U i64) x<=4611686018427387904):dE.ab (x,x,())=some (true,()):=by
 have hl:x.length<=4611686018427387904:=Nat.le_trans (eS (e:=i64) x) h
 refine ag (k:=x.length+1) fun k hk=>(dE.aa k _).trans ?_
 unfold dE.p
 simp only[decide_true,Bool.not_true,cond_false]
 have:=lW (B:=fun self v=>dE.B0 k self (fun z=>dE.Q0 k (x,x,()) z) (x,x,()) v) (xs:=x) (ys:=x) (fun _ _=>true) rfl (by rw[ah];omega) (fun i hi hj self=>by
   show dE.b0 _ _ _ _=_
   unfold dE.b0
   have aj:(i:Int) < (x.length:Int):=by omega
   simp only[aj,decide_true,cond_true,Int.natCast_nonneg,if_true,Int.toNat_natCast,List.getElem?_eq_getElem hi,Option.bind_some,Bool.not_true,cond_false]) (fun self=>by
   show dE.b0 _ _ _ _=_
   unfold dE.b0
   simp[dE.Q0,dE.q0]) k (by omega)
 rw[show kq (fun _ _=>true) x x=true by simp[kq]] at this
 exact this
theorem GJ (x:Key) (h:zz aE x<=4611686018427387904):kY.ab (x,x,())=some (true,()):=by
 have hz:zz aE x=(0+(0+0)):=rfl
 refine ag (k:=0) fun k _=>(kY.aa k _).trans ?_
 show kY.p _=_
 unfold kY.p
 simp[]
theorem D4 (x:List Key) (h:zz (.U aE) x<=4611686018427387904):eN.ab (x,x,())=some (true,()):=by
 have hl:x.length<=4611686018427387904:=Nat.le_trans (eS (e:=aE) x) h
 refine ag (k:=x.length+1) fun k hk=>(eN.aa k _).trans ?_
 unfold eN.p
 simp only[decide_true,Bool.not_true,cond_false]
 have:=lW (B:=fun self v=>eN.B0 k self (fun z=>eN.Q0 k (x,x,()) z) (x,x,()) v) (xs:=x) (ys:=x) (fun _ _=>true) rfl (by rw[ah];omega) (fun i hi hj self=>by
   show eN.b0 _ _ _ _=_
   unfold eN.b0
   have aj:(i:Int) < (x.length:Int):=by omega
   simp only[aj,decide_true,cond_true,Int.natCast_nonneg,if_true,Int.toNat_natCast,List.getElem?_eq_getElem hi,Option.bind_some,Bool.not_true,cond_false,GJ x[i] (by have:=mX (e:=aE) (List.getElem_mem hi);omega)]) (fun self=>by
   show eN.b0 _ _ _ _=_
   unfold eN.b0
   simp[eN.Q0,eN.q0]) k (by omega)
 rw[show kq (fun _ _=>true) x x=true by simp[kq]] at this
 exact this
theorem IH (x:Tx) (h:zz aY x<=4611686018427387904):lP.ab (x,x,())=some (true,()):=by
 have hz:zz aY x=(0+(zz (.U ap) x.2.1+(zz (.U i64) x.2.2.1+(zz (.U aE) x.2.2.2.1+0)))):=rfl
 refine ag (k:=0) fun k _=>(lP.aa k _).trans ?_
 show lP.p _=_
 unfold lP.p
 have q0:=zH x.2.1 (by omega)
 have q1:=AQ x.2.2.1 (by omega)
 have q2:=D4 x.2.2.2.1 (by omega)
 simp[q0,q1,q2]
theorem GK (x:List Tx) (h:zz (.U aY) x<=4611686018427387904):fF.ab (x,x,())=some (true,()):=by
 have hl:x.length<=4611686018427387904:=Nat.le_trans (eS (e:=aY) x) h
 refine ag (k:=x.length+1) fun k hk=>(fF.aa k _).trans ?_
 unfold fF.p
 simp only[decide_true,Bool.not_true,cond_false]
 have:=lW (B:=fun self v=>fF.B0 k self (fun z=>fF.Q0 k (x,x,()) z) (x,x,()) v) (xs:=x) (ys:=x) (fun _ _=>true) rfl (by rw[ah];omega) (fun i hi hj self=>by
   show fF.b0 _ _ _ _=_
   unfold fF.b0
   have aj:(i:Int) < (x.length:Int):=by omega
   simp only[aj,decide_true,cond_true,Int.natCast_nonneg,if_true,Int.toNat_natCast,List.getElem?_eq_getElem hi,Option.bind_some,Bool.not_true,cond_false,IH x[i] (by have:=mX (e:=aY) (List.getElem_mem hi);omega)]) (fun self=>by
   show fF.b0 _ _ _ _=_
   unfold fF.b0
   simp[fF.Q0,fF.q0]) k (by omega)
 rw[show kq (fun _ _=>true) x x=true by simp[kq]] at this
 exact this
theorem CU (x:eP) (h:zz cM x<=4611686018427387904):jw.ab (x,x,())=some (true,()):=by
 have hz:zz cM x=(0+(zz (.U (.U u8)) x.2.1+((zz (.U u8) x.2.2.1.1+(zz (.U u8) x.2.2.1.2.1+0))+(zz (.U aY) x.2.2.2.1+(0+0))))):=rfl
 have xU:zz dP x.2.2.1=(zz (.U u8) x.2.2.1.1+(zz (.U u8) x.2.2.1.2.1+0)):=rfl
 refine ag (k:=0) fun k _=>(jw.aa k _).trans ?_
 show jw.p _=_
 unfold jw.p
 have q0:=AN x.2.1 (by omega)
 have q1:=GI x.2.2.1 (by omega)
 have q2:=GK x.2.2.2.1 (by omega)
 simp[q0,q1,q2]
theorem D5 (x:List Row) (h:zz (.U aA) x<=4611686018427387904):eO.ab (x,x,())=some (true,()):=by
 have hl:x.length<=4611686018427387904:=Nat.le_trans (eS (e:=aA) x) h
 refine ag (k:=x.length+1) fun k hk=>(eO.aa k _).trans ?_
 unfold eO.p
 simp only[decide_true,Bool.not_true,cond_false]
 have:=lW (B:=fun self v=>eO.B0 k self (fun z=>eO.Q0 k (x,x,()) z) (x,x,()) v) (xs:=x) (ys:=x) (fun _ _=>true) rfl (by rw[ah];omega) (fun i hi hj self=>by
   show eO.b0 _ _ _ _=_
   unfold eO.b0
   have aj:(i:Int) < (x.length:Int):=by omega
   simp only[aj,decide_true,cond_true,Int.natCast_nonneg,if_true,Int.toNat_natCast,List.getElem?_eq_getElem hi,Option.bind_some,Bool.not_true,cond_false,tV x[i] (by have:=mX (e:=aA) (List.getElem_mem hi);omega)]) (fun self=>by
   show eO.b0 _ _ _ _=_
   unfold eO.b0
   simp[eO.Q0,eO.q0]) k (by omega)
 rw[show kq (fun _ _=>true) x x=true by simp[kq]] at this
 exact this
theorem wt (x:fC) (h:zz cA x<=4611686018427387904):en.ab (x,x,())=some (true,()):=by
 have hz:zz cA x=(0+(zz (.U aA) x.2.1+0)):=rfl
 refine ag (k:=0) fun k _=>(en.aa k _).trans ?_
 show en.p _=_
 unfold en.p
 have q0:=D5 x.2.1 (by omega)
 simp[q0]
def Of (x:UInt8) (k:Int) (y:UInt8) (k':Int):Prop:=y=(UInt8.ofInt (k))/\k+1=k'
theorem zI (x:List UInt8) (k:Int) (h0:0<=k) (h1:k+32*((zz (.U u8) x:Nat):Int)<=lI):∃ (k':Int) (y:List UInt8),bS.ab (x,k,())=some (k',y,())/\k<=k'/\k'<=k+32*((zz (.U u8) x:Nat):Int):=by
 have hB:lI=4611686018427387904:=rfl
 have hl:List.length x<=zz (.U u8) x:=eS (e:=u8) x
 have hs:eL (fun x:UInt8=>32*(zz u8 x+1)) x=32*zz (.U u8) x:=ox (zz u8) x
 obtain ⟨ys,k',g1,g2,g3,g4,g5⟩:=mY (B:=fun self v=>bS.B0 0 self (fun z=>bS.Q0 0 (x,k,()) z) (x,k,()) v) (xs:=x) (by rw[ah];omega) Of (fun x:UInt8=>32*(zz u8 x+1)) (fun x hx k h0 h1=>by
   exact ⟨_,_,by omega,by omega,⟨rfl,rfl⟩⟩) (fun i acc k self x y k' hi hx h0 h1 Y h3 hE=>by
   obtain ⟨rfl,rfl⟩:=hE
   show bS.b0 _ _ _ _=_
   unfold bS.b0
   have aj:(i:Int) < (acc.length:Int):=by omega
   simp (disch:=omega) only [aj,decide_true,cond_true,Int.natCast_nonneg,and_self,if_true,Int.toNat_natCast,hx,Option.bind_some,List.length_set,kt,List.set_set,aJ,kd]) (fun acc k self=>by
   show bS.b0 _ _ _ _=_
   unfold bS.b0
   simp[bS.Q0,bS.q0]) k h0 (by rw[hs];omega)
 refine ⟨k',ys,ag (k:=x.length+1) fun f hf=>(bS.aa f _).trans (g5 f (by omega)),g1,by rw[hs] at g2;omega⟩
def Mz (x:List UInt8) (k:Int) (y:List UInt8) (k':Int):Prop:=∃ (r1:Int) (y1:List UInt8),bS.ab (x,k,())=some (r1,y1,())/\k<=r1/\r1<=k+32*((zz (.U u8) x:Nat):Int)/\y=y1/\r1=k'
theorem Ki (x:List (List UInt8)) (k:Int) (h0:0<=k) (h1:k+32*((zz (.U (.U u8)) x:Nat):Int)<=lI):∃ (k':Int) (y:List (List UInt8)),cT.ab (x,k,())=some (k',y,())/\k<=k'/\k'<=k+32*((zz (.U (.U u8)) x:Nat):Int):=by
 have hB:lI=4611686018427387904:=rfl
 have hl:List.length x<=zz (.U (.U u8)) x:=eS (e:=(.U u8)) x
 have hs:eL (fun x:List UInt8=>32*(zz (.U u8) x+1)) x=32*zz (.U (.U u8)) x:=ox (zz (.U u8)) x
 obtain ⟨ys,k',g1,g2,g3,g4,g5⟩:=mY (B:=fun self v=>cT.B0 0 self (fun z=>cT.Q0 0 (x,k,()) z) (x,k,()) v) (xs:=x) (by rw[ah];omega) Mz (fun x:List UInt8=>32*(zz (.U u8) x+1)) (fun x hx k h0 h1=>by
   obtain ⟨r1,y1,e1,g1,i1⟩:=zI x (k) (by omega) (by omega)
   exact ⟨_,_,by omega,by omega,⟨r1,y1,e1,g1,i1,rfl,rfl⟩⟩) (fun i acc k self x y k' hi hx h0 h1 Y h3 hE=>by
   obtain ⟨r1,y1,e1,g1,i1,rfl,rfl⟩:=hE
   show cT.b0 _ _ _ _=_
   unfold cT.b0
   have aj:(i:Int) < (acc.length:Int):=by omega
   simp (disch:=omega) only [aj,decide_true,cond_true,Int.natCast_nonneg,and_self,if_true,Int.toNat_natCast,hx,Option.bind_some,List.length_set,kt,List.set_set,aJ,kd,e1]) (fun acc k self=>by
   show cT.b0 _ _ _ _=_
   unfold cT.b0
   simp[cT.Q0,cT.q0]) k h0 (by rw[hs];omega)
 refine ⟨k',ys,ag (k:=x.length+1) fun f hf=>(cT.aa f _).trans (g5 f (by omega)),g1,by rw[hs] at g2;omega⟩
theorem Pq (x:Log) (k:Int) (h0:0<=k) (h1:k+32*((zz dP x:Nat):Int)<=lI):∃ (k':Int) (y:Log),jx.ab (x,k,())=some (k',y,())/\k<=k'/\k'<=k+32*((zz dP x:Nat):Int):=by
 have hB:lI=4611686018427387904:=rfl
 have hz:zz dP x=(zz (.U u8) x.1+(zz (.U u8) x.2.1+0)):=rfl
 obtain ⟨k1,y1,e1,g1,i1⟩:=zI x.1 k (by omega) (by omega)
 have n1:¬ k1 < 0:=by omega
 obtain ⟨k2,y2,e2,g2,i2⟩:=zI x.2.1 k1 (by omega) (by omega)
 have n2:¬ k2 < 0:=by omega
 refine ⟨k2,(y1,y2,x.2.2),ag (k:=0) fun f _=>(jx.aa f _).trans ?_,by omega,by omega⟩
 ·show jx.p _=_
  unfold jx.p
  simp only[e1,e2,Option.bind_some]
def Kj (x:Change) (k:Int) (y:Change) (k':Int):Prop:=y=((decide ((k).tmod (3:Int)=(0:Int))),((k+1),(k+1+1),(k+1+1+1),(yB (k+1+1+1+1)),x.2.1.2.2.2.2),(decide ((k+1+1+1+1+1).tmod (3:Int)=(0:Int))),((k+1+1+1+1+1+1),(k+1+1+1+1+1+1+1),(k+1+1+1+1+1+1+1+1),(yB (k+1+1+1+1+1+1+1+1+1)),x.2.2.2.1.2.2.2.2),x.2.2.2.2)/\k+1+1+1+1+1+1+1+1+1+1=k'
theorem II (x:List Change) (k:Int) (h0:0<=k) (h1:k+32*((zz (.U ap) x:Nat):Int)<=lI):∃ (k':Int) (y:List Change),cj.ab (x,k,())=some (k',y,())/\k<=k'/\k'<=k+32*((zz (.U ap) x:Nat):Int):=by
 have hB:lI=4611686018427387904:=rfl
 have hl:List.length x<=zz (.U ap) x:=eS (e:=ap) x
 have hs:eL (fun x:Change=>32*(zz ap x+1)) x=32*zz (.U ap) x:=ox (zz ap) x
 obtain ⟨ys,k',g1,g2,g3,g4,g5⟩:=mY (B:=fun self v=>cj.B0 0 self (fun z=>cj.Q0 0 (x,k,()) z) (x,k,()) v) (xs:=x) (by rw[ah];omega) Kj (fun x:Change=>32*(zz ap x+1)) (fun x hx k h0 h1=>by
   have hz:zz ap x=(0+((0+(0+(0+(List.length x.2.1.2.2.2.1+0))))+(0+((0+(0+(0+(List.length x.2.2.2.1.2.2.2.1+0))))+0)))):=rfl
   exact ⟨_,_,by omega,by omega,⟨rfl,rfl⟩⟩) (fun i acc k self x y k' hi hx h0 h1 Y h3 hE=>by
   have hz:zz ap x=(0+((0+(0+(0+(List.length x.2.1.2.2.2.1+0))))+(0+((0+(0+(0+(List.length x.2.2.2.1.2.2.2.1+0))))+0)))):=rfl
   obtain ⟨rfl,rfl⟩:=hE
   show cj.b0 _ _ _ _=_
   unfold cj.b0
   have aj:(i:Int) < (acc.length:Int):=by omega
   simp (disch:=omega) only [aj,decide_true,cond_true,Int.natCast_nonneg,and_self,if_true,Int.toNat_natCast,hx,Option.bind_some,List.length_set,kt,List.set_set,aJ,kd]) (fun acc k self=>by
   show cj.b0 _ _ _ _=_
   unfold cj.b0
   simp[cj.Q0,cj.q0]) k h0 (by rw[hs];omega)
 refine ⟨k',ys,ag (k:=x.length+1) fun f hf=>(cj.aa f _).trans (g5 f (by omega)),g1,by rw[hs] at g2;omega⟩
def MA (x:Int) (k:Int) (y:Int) (k':Int):Prop:=y=(k)/\k+1=k'
theorem Kk (x:List Int) (k:Int) (h0:0<=k) (h1:k+32*((zz (.U i64) x:Nat):Int)<=lI):∃ (k':Int) (y:List Int),cK.ab (x,k,())=some (k',y,())/\k<=k'/\k'<=k+32*((zz (.U i64) x:Nat):Int):=by
 have hB:lI=4611686018427387904:=rfl
 have hl:List.length x<=zz (.U i64) x:=eS (e:=i64) x
 have hs:eL (fun x:Int=>32*(zz i64 x+1)) x=32*zz (.U i64) x:=ox (zz i64) x
 obtain ⟨ys,k',g1,g2,g3,g4,g5⟩:=mY (B:=fun self v=>cK.B0 0 self (fun z=>cK.Q0 0 (x,k,()) z) (x,k,()) v) (xs:=x) (by rw[ah];omega) MA (fun x:Int=>32*(zz i64 x+1)) (fun x hx k h0 h1=>by
   exact ⟨_,_,by omega,by omega,⟨rfl,rfl⟩⟩) (fun i acc k self x y k' hi hx h0 h1 Y h3 hE=>by
   obtain ⟨rfl,rfl⟩:=hE
   show cK.b0 _ _ _ _=_
   unfold cK.b0
   have aj:(i:Int) < (acc.length:Int):=by omega
   simp (disch:=omega) only [aj,decide_true,cond_true,Int.natCast_nonneg,and_self,if_true,Int.toNat_natCast,hx,Option.bind_some,List.length_set,kt,List.set_set,aJ,kd]) (fun acc k self=>by
   show cK.b0 _ _ _ _=_
   unfold cK.b0
   simp[cK.Q0,cK.q0]) k h0 (by rw[hs];omega)
 refine ⟨k',ys,ag (k:=x.length+1) fun f hf=>(cK.aa f _).trans (g5 f (by omega)),g1,by rw[hs] at g2;omega⟩
def Pr (x:Key) (k:Int) (y:Key) (k':Int):Prop:=y=((k),(k+1),x.2.2)/\k+1+1=k'
theorem Og (x:List Key) (k:Int) (h0:0<=k) (h1:k+32*((zz (.U aE) x:Nat):Int)<=lI):∃ (k':Int) (y:List Key),dF.ab (x,k,())=some (k',y,())/\k<=k'/\k'<=k+32*((zz (.U aE) x:Nat):Int):=by
 have hB:lI=4611686018427387904:=rfl
 have hl:List.length x<=zz (.U aE) x:=eS (e:=aE) x
 have hs:eL (fun x:Key=>32*(zz aE x+1)) x=32*zz (.U aE) x:=ox (zz aE) x
 obtain ⟨ys,k',g1,g2,g3,g4,g5⟩:=mY (B:=fun self v=>dF.B0 0 self (fun z=>dF.Q0 0 (x,k,()) z) (x,k,()) v) (xs:=x) (by rw[ah];omega) Pr (fun x:Key=>32*(zz aE x+1)) (fun x hx k h0 h1=>by
   have hz:zz aE x=(0+(0+0)):=rfl
   exact ⟨_,_,by omega,by omega,⟨rfl,rfl⟩⟩) (fun i acc k self x y k' hi hx h0 h1 Y h3 hE=>by
   have hz:zz aE x=(0+(0+0)):=rfl
   obtain ⟨rfl,rfl⟩:=hE
   show dF.b0 _ _ _ _=_
   unfold dF.b0
   have aj:(i:Int) < (acc.length:Int):=by omega
   simp (disch:=omega) only [aj,decide_true,cond_true,Int.natCast_nonneg,and_self,if_true,Int.toNat_natCast,hx,Option.bind_some,List.length_set,kt,List.set_set,aJ,kd]) (fun acc k self=>by
   show dF.b0 _ _ _ _=_
   unfold dF.b0
   simp[dF.Q0,dF.q0]) k h0 (by rw[hs];omega)
 refine ⟨k',ys,ag (k:=x.length+1) fun f hf=>(dF.aa f _).trans (g5 f (by omega)),g1,by rw[hs] at g2;omega⟩
def Rq (x:Tx) (k:Int) (y:Tx) (k':Int):Prop:=∃ (r1:Int) (y1:List Change),∃ (r2:Int) (y2:List Int),∃ (r3:Int) (y3:List Key),cj.ab (x.2.1,k+1,())=some (r1,y1,())/\k+1<=r1/\r1<=k+1+32*((zz (.U ap) x.2.1:Nat):Int)/\cK.ab (x.2.2.1,r1,())=some (r2,y2,())/\r1<=r2/\r2<=r1+32*((zz (.U i64) x.2.2.1:Nat):Int)/\dF.ab (x.2.2.2.1,r2,())=some (r3,y3,())/\r2<=r3/\r3<=r2+32*((zz (.U aE) x.2.2.2.1:Nat):Int)/\y=((k),y1,y2,y3,x.2.2.2.2)/\r3=k'
theorem Ps (x:List Tx) (k:Int) (h0:0<=k) (h1:k+32*((zz (.U aY) x:Nat):Int)<=lI):∃ (k':Int) (y:List Tx),eG.ab (x,k,())=some (k',y,())/\k<=k'/\k'<=k+32*((zz (.U aY) x:Nat):Int):=by
 have hB:lI=4611686018427387904:=rfl
 have hl:List.length x<=zz (.U aY) x:=eS (e:=aY) x
 have hs:eL (fun x:Tx=>32*(zz aY x+1)) x=32*zz (.U aY) x:=ox (zz aY) x
 obtain ⟨ys,k',g1,g2,g3,g4,g5⟩:=mY (B:=fun self v=>eG.B0 0 self (fun z=>eG.Q0 0 (x,k,()) z) (x,k,()) v) (xs:=x) (by rw[ah];omega) Rq (fun x:Tx=>32*(zz aY x+1)) (fun x hx k h0 h1=>by
   have hz:zz aY x=(0+(zz (.U ap) x.2.1+(zz (.U i64) x.2.2.1+(zz (.U aE) x.2.2.2.1+0)))):=rfl
   obtain ⟨r1,y1,e1,g1,i1⟩:=II x.2.1 (k+1) (by omega) (by omega)
   obtain ⟨r2,y2,e2,g2,i2⟩:=Kk x.2.2.1 (r1) (by omega) (by omega)
   obtain ⟨r3,y3,e3,g3,i3⟩:=Og x.2.2.2.1 (r2) (by omega) (by omega)
   exact ⟨_,_,by omega,by omega,⟨r1,y1,r2,y2,r3,y3,e1,g1,i1,e2,g2,i2,e3,g3,i3,rfl,rfl⟩⟩) (fun i acc k self x y k' hi hx h0 h1 Y h3 hE=>by
   have hz:zz aY x=(0+(zz (.U ap) x.2.1+(zz (.U i64) x.2.2.1+(zz (.U aE) x.2.2.2.1+0)))):=rfl
   obtain ⟨r1,y1,r2,y2,r3,y3,e1,g1,i1,e2,g2,i2,e3,g3,i3,rfl,rfl⟩:=hE
   show eG.b0 _ _ _ _=_
   unfold eG.b0
   have aj:(i:Int) < (acc.length:Int):=by omega
   simp (disch:=omega) only [aj,decide_true,cond_true,Int.natCast_nonneg,and_self,if_true,Int.toNat_natCast,hx,Option.bind_some,List.length_set,kt,List.set_set,aJ,kd,e1,e2,e3]) (fun acc k self=>by
   show eG.b0 _ _ _ _=_
   unfold eG.b0
   simp[eG.Q0,eG.q0]) k h0 (by rw[hs];omega)
 refine ⟨k',ys,ag (k:=x.length+1) fun f hf=>(eG.aa f _).trans (g5 f (by omega)),g1,by rw[hs] at g2;omega⟩
theorem MB (x:eP) (k:Int) (h0:0<=k) (h1:k+32*((zz cM x:Nat):Int)<=lI):∃ (k':Int) (y:eP),hY.ab (x,k,())=some (k',y,())/\k<=k'/\k'<=k+32*((zz cM x:Nat):Int):=by
 have hB:lI=4611686018427387904:=rfl
 have hz:zz cM x=(0+(zz (.U (.U u8)) x.2.1+((zz (.U u8) x.2.2.1.1+(zz (.U u8) x.2.2.1.2.1+0))+(zz (.U aY) x.2.2.2.1+(0+0))))):=rfl
 obtain ⟨k1,y1,e1,g1,i1⟩:=Ki x.2.1 k (by omega) (by omega)
 have n1:¬ k1 < 0:=by omega
 have xU:zz dP x.2.2.1=(zz (.U u8) x.2.2.1.1+(zz (.U u8) x.2.2.1.2.1+0)):=rfl
 obtain ⟨k2,y2,e2,g2,i2⟩:=Pq x.2.2.1 k1 (by omega) (by omega)
 have n2:¬ k2 < 0:=by omega
 obtain ⟨k3,y3,e3,g3,i3⟩:=Ps x.2.2.2.1 k2 (by omega) (by omega)
 have n3:¬ k3 < 0:=by omega
 refine ⟨k3,(x.1,y1,y2,y3,x.2.2.2.2.1,x.2.2.2.2.2),ag (k:=0) fun f _=>(hY.aa f _).trans ?_,by omega,by omega⟩
 ·show hY.p _=_
  unfold hY.p
  simp only[e1,e2,e3,Option.bind_some]
def Pt (x:Row) (k:Int) (y:Row) (k':Int):Prop:=y=((k),(k+1),(k+1+1),(yB (k+1+1+1)),x.2.2.2.2)/\k+1+1+1+1=k'
theorem Oh (x:List Row) (k:Int) (h0:0<=k) (h1:k+32*((zz (.U aA) x:Nat):Int)<=lI):∃ (k':Int) (y:List Row),dY.ab (x,k,())=some (k',y,())/\dZ.ab (y,k,())=some (k',())/\k<=k'/\k'<=k+32*((zz (.U aA) x:Nat):Int):=by
 have hB:lI=4611686018427387904:=rfl
 have hl:List.length x<=zz (.U aA) x:=eS (e:=aA) x
 have hs:eL (fun x:Row=>32*(zz aA x+1)) x=32*zz (.U aA) x:=ox (zz aA) x
 obtain ⟨ys,k',g1,g2,g3,g4,g5⟩:=mY (B:=fun self v=>dY.B0 0 self (fun z=>dY.Q0 0 (x,k,()) z) (x,k,()) v) (xs:=x) (by rw[ah];omega) Pt (fun x:Row=>32*(zz aA x+1)) (fun x hx k h0 h1=>by
   have hz:zz aA x=(0+(0+(0+(List.length x.2.2.2.1+0)))):=rfl
   exact ⟨_,_,by omega,by omega,⟨rfl,rfl⟩⟩) (fun i acc k self x y k' hi hx h0 h1 Y h3 hE=>by
   have hz:zz aA x=(0+(0+(0+(List.length x.2.2.2.1+0)))):=rfl
   obtain ⟨rfl,rfl⟩:=hE
   show dY.b0 _ _ _ _=_
   unfold dY.b0
   have aj:(i:Int) < (acc.length:Int):=by omega
   simp (disch:=omega) only [aj,decide_true,cond_true,Int.natCast_nonneg,and_self,if_true,Int.toNat_natCast,hx,Option.bind_some,List.length_set,kt,List.set_set,aJ,kd]) (fun acc k self=>by
   show dY.b0 _ _ _ _=_
   unfold dY.b0
   simp[dY.Q0,dY.q0]) k h0 (by rw[hs];omega)
 refine ⟨k',ys,ag (k:=x.length+1) fun f hf=>(dY.aa f _).trans (g5 f (by omega)),?_,g1,by rw[hs] at g2;omega⟩
 refine ag (k:=ys.length+1) fun f hf=>(dZ.aa f _).trans ?_
 exact IC (B:=fun self v=>dZ.B0 0 self (fun z=>dZ.Q0 0 (ys,k,()) z) (ys,k,()) v) (by rw[ah];omega) g4 (fun i k self x y k' hi hx h0 h1 Y h3 hE=>by
   have hz:zz aA x=(0+(0+(0+(List.length x.2.2.2.1+0)))):=rfl
   obtain ⟨rfl,rfl⟩:=hE
   show dZ.b0 _ _ _ _=_
   unfold dZ.b0
   have aj:(i:Int) < (ys.length:Int):=by omega
   simp (disch:=omega) only [aj,decide_true,cond_true,Int.natCast_nonneg,and_self,if_true,Int.toNat_natCast,hx,Option.bind_some,aJ,kd,beq_self_eq_true,Bool.not_true,cond_false,decide_false]) (fun k self=>by
   show dZ.b0 _ _ _ _=_
   unfold dZ.b0
   simp[dZ.Q0,dZ.q0]) f (by omega)
theorem CV (x:fC) (k:Int) (h0:0<=k) (h1:k+32*((zz cA x:Nat):Int)<=lI):∃ (k':Int) (y:fC),eX.ab (x,k,())=some (k',y,())/\ee.ab (y,k,())=some (k',())/\k<=k'/\k'<=k+32*((zz cA x:Nat):Int):=by
 have hB:lI=4611686018427387904:=rfl
 have hz:zz cA x=(0+(zz (.U aA) x.2.1+0)):=rfl
 obtain ⟨k1,y1,e1,f1,g1,i1⟩:=Oh x.2.1 k (by omega) (by omega)
 have n1:¬ k1 < 0:=by omega
 refine ⟨k1,(x.1,y1,x.2.2),ag (k:=0) fun f _=>(eX.aa f _).trans ?_,ag (k:=0) fun f _=>(ee.aa f _).trans ?_,by omega,by omega⟩
 ·show eX.p _=_
  unfold eX.p
  simp only[e1,Option.bind_some]
 ·show ee.p _=_
  unfold ee.p
  simp only[f1,n1,Option.bind_some,decide_false,cond_false]
end OT
set_option linter.unusedVariables false
set_option linter.unusedSimpArgs false
namespace OT
open Go
theorem iR (a b c:Int):aS.ab (a,b,c,())=some (decide (b<=a)&&decide (a<=c),()):=by
 refine ag (k:=0) fun k _=>(aS.aa k _).trans ?_
 show aS.p _=_
 unfold aS.p
 by_cases h:b<=a <;> simp[h]
theorem lQ (a b c:Int):cq.ab (a,b,c,())=some (decide (b<=a)&&decide (a<=c),()):=by
 refine ag (k:=0) fun k _=>(cq.aa k _).trans ?_
 show cq.p _=_
 unfold cq.p
 by_cases h:b<=a <;> simp[h]
theorem E3 (a:Int):ju.ab (a,())=some (decide (1<=a)&&decide (a<=99),()):=by
 refine ag (k:=0) fun k _=>(ju.aa k _).trans ?_
 show ju.p _=_
 unfold ju.p
 simp[lQ]
def cz (a b c:Int):Bool:=decide (b<=a)&&decide (a<=c)
theorem uC (s:List UInt8) (h:s.length<=200000000000):gH.ab (s,())=some (s,()):=by
 refine ag (k:=0) fun k _=>(gH.aa k _).trans ?_
 show gH.p _=_
 unfold gH.p
 have:([]:List UInt8).length+s.length<=bg:=cD (by simpa using h)
 rw[if_pos this,List.nil_append]
theorem pD (s:List UInt8) (h:s.length<=200000000000):du.ab (s,())=some (s,()):=by
 refine ag (k:=0) fun k _=>(du.aa k _).trans ?_
 show du.p _=_
 unfold du.p
 have:([]:List UInt8).length+s.length<=bg:=cD (by simpa using h)
 rw[if_pos this,List.nil_append]
theorem ei {S O α:Type} {g:S->α->S} {fin:S->O}:∀ (xs:List α) (i:Nat) (s:S),aV (fun _ s x=>.inr (g s x)) fin i xs s=fin (xs.foldl g s)
 | [],_,_=>rfl
 | x::xs,i,s=>by simp only[aV,List.foldl_cons];exact ei xs _ _
theorem Ak {α:Type}:∀ (xs s:List α),xs.foldl (fun s x=>s++[x]) s=s++xs
 | [],s=>by simp
 | x::xs,s=>by rw[List.foldl_cons,Ak];simp
abbrev gc:Type:=List (List UInt8)
def gp (ps:gc):Prop:=ps.length<=12/\∀ p ∈ ps,p.length=64
def tW:List UInt8:=((List.replicate 64 (0:UInt8)).set 0 0).set 1 64
theorem xj:tW.length=64:=by simp[tW]
theorem AS (ps:gc) (h:gp ps):gt.ab (ps,())=some (ps,()):=by
 obtain ⟨h1,Y⟩:=h
 refine ag (k:=14) fun k hk=>(gt.aa k _).trans ?_
 have:=bC (B:=fun self v=>gt.B0 0 self (fun z=>gt.Q0 0 (ps,()) z) (ps,()) v) ps (fun (s:gc) (i:Int)=>(s,i)) (fun _ s x=>.inr (s++[x])) (fun s=>(s,())) (fun i s=>s.length=i) (by rw[ah];omega)
  (fun i hi s self hI=>by
   show gt.b0 _ _ _ _=_
   unfold gt.b0
   have aj:(i:Int) < (ps.length:Int):=by omega
   have hx:=Y ps[i] (List.getElem_mem hi)
   simp only[aj,decide_true,cond_true,Int.natCast_nonneg,if_true,Int.toNat_natCast,List.getElem?_eq_getElem hi,Option.bind_some]
   rw[pD _ (by omega)]
   have hc:s.length+[ps[i]].length<=bg:=cD (by simp only[List.length_cons,List.length_nil];omega)
   simp only[Option.bind_some,hc,if_true])
  (fun i hi s s' hI hs=>by injection hs with hs;rw[<-hs];simp[hI]) (fun s self hI=>by
   show gt.b0 _ _ _ _=_
   unfold gt.b0
   simp only[Int.lt_irrefl,decide_false,cond_false]
   rfl) [] rfl k (by omega)
 rw[ei,Ak] at this
 exact this
end OT
