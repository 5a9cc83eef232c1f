/- The proof's parts, merged: Printed by gen.py, a program of this claim  what each Go function computes.. No conditions but those that each states. -/
import Derived.Test.YtaebhfnbgkbdhaaGreatRd
set_option maxRecDepth 100000
set_option linter.unusedVariables false
namespace OT
open Go Go.Proofs.Tryz
namespace bn
abbrev Arg:Type:=(List (List UInt8))×Unit
abbrev Out:Type:=Int×Unit
abbrev ps:PQ:=[(.ro,(.ae (.ae u8)))]
noncomputable def D:FD:={ fn:=f47,tl:=bi,ps:=ps,rs:=[(i64,(aw i64))],gl:=[(117,cC.D.sig),(118,bt.D.sig),(119,bX.D.sig),(120,dp.D.sig)],lv:=[(11,[5,6]),(14,[5,6,7])],lx:=[(0,[]),(2,[5,6])],od:=[(16,[0,1,2,3,4,5,6,7,8,9,10,11,12,13,14,15,16,17,18,19,20,21,22,23,24,25,26,27,28,29,30,31])] }
noncomputable def aa (a:Arg):Option Out:=@lift Out λk=>D.W k a
noncomputable def T0 (J:Arg) (mj:(List ai)×Int):St:={ n:=68,sl:=[(5,.own (.ae cE) (ak (.ae cE)) [] mj.1),(6,.val i64 mj.2)],vr:=[],aF:=[] }
noncomputable def S0 (rec:RT Out) (J:Arg):((List ai)×Int)->Option Out:=λmj=>rec (T0 J mj)
noncomputable def dn (K:KT Out) (J:Arg):(Unit)->Option Out:=λz=>K (.exit 0) ({ n:=68,sl:=[],vr:=[],aF:=[] })
noncomputable def T1 (J:Arg) (dc:List ai) (dB:Int) (mm:Int):St:={ n:=68,sl:=[(5,.own (.ae cE) (ak (.ae cE)) [] dc),(6,.val i64 dB),(7,.val i64 mm)],vr:=[],aF:=[] }
noncomputable def b1 (self:Int->Option Out) (e2:(Unit)->Option Out) (J:Arg) (dc:List ai) (dB:Int) (mm:Int):Option Out:=bif decide (mm < dB) then (if 0<=dB/\dB < (dc.length:Int) then ((dc[dB.toNat]?).bind λAn=>if 0<=mm/\mm < (dc.length:Int) then ((dc[mm.toNat]?).bind λIb=>bif decide (An.2.2.1.2.2.2.2.1.1=Ib.2.2.1.2.2.2.2.1.1) then (if 0<=dB/\dB < (dc.length:Int) then ((dc[dB.toNat]?).bind λAq=>if 0<=mm/\mm < (dc.length:Int) then ((dc[mm.toNat]?).bind λQW=>bif decide (Aq.2.2.1.2.2.2.2.1.2.1=QW.2.2.1.2.2.2.2.1.2.1) then (some ((8:Int),())) else self (ag (mm+(1:Int)))) else none) else none) else self (ag (mm+(1:Int)))) else none) else none) else e2 ()
noncomputable abbrev B1 (_:Nat):=b1
noncomputable def q0 (self:((List ai)×Int)->Option Out) (e0:(Unit)->Option Out) (J:Arg) (dc:List ai) (dB:Int) (M4:(Unit)):Option Out:=self (dc,ag (dB+(1:Int)))
noncomputable abbrev Q0 (_:Nat):=q0
noncomputable def s1 (k:Nat) (rec:RT Out) (K:KT Out) (J:Arg):(List ai)->Int->(Int)->Option Out:=λdc dB=>λmm=>D.L k [1,1,1,1,1,0,1,0,0,1,0,0,1,0,0] [5,6,7] [] (ap 2 (ap 1 (aU (D.N k [1,1,1,1,1,0,1,0,0,1,1]) (gQ rec (eG [5,6] []) K)))) (T1 J dc dB mm)
noncomputable def r1 (k:Nat) (self:((List ai)×Int)->Option Out) (e0:(Unit)->Option Out) (J:Arg):(List ai)->Int->(Int)->Option Out:=λdc dB=>aD (λw v=>B1 k w (Q0 k self e0 J dc dB) J dc dB v) k
theorem lc (k:Nat) (rec:RT Out) (K:KT Out) (J:Arg):s1 k rec K J=r1 k (S0 rec J) (dn K J) J:=
 funext λdc=>funext λdB=>funext λmm=>aR _ _ _ (T1 J dc dB) _ (λrec v=>by kernel_rfl) k mm
noncomputable def b0 (self:((List ai)×Int)->Option Out) (e0:(Unit)->Option Out) (l1:(List ai)->Int->(Int)->Option Out) (J:Arg) (mj:(List ai)×Int):Option Out:=bif decide (mj.2 < (mj.1.length:Int)) then (l1 mj.1 mj.2 (0:Int)) else e0 ()
noncomputable def B0 (k:Nat) (self:((List ai)×Int)->Option Out) (e0:(Unit)->Option Out) (J:Arg) (mj:(List ai)×Int):Option Out:=b0 self e0 (r1 k self e0 J) J mj
theorem ld (k:Nat) (rec:RT Out) (K:KT Out) (J:Arg) (mj:(List ai)×Int):D.N k [1,1,1,1,1,0,1,0,0] (T0 J mj) (gQ rec (eG [5,6] []) K)=B0 k (S0 rec J) (dn K J) J mj:=
 Eq.trans (b:=b0 (S0 rec J) (dn K J) (s1 k rec K J) J mj) (by kernel_rfl) (by rw[lc];rfl)
noncomputable def q1 (J:Arg) (rI:(Unit)):Option Out:=some ((0:Int),())
noncomputable abbrev Q1 (_:Nat):=q1
theorem rJ (k:Nat) (J:Arg) (rI:(Unit)):dn (ap 0 (aU (D.N k [1,1,1,1,1,1]) D.K0)) J rI=q1 J rI:=by kernel_rfl
noncomputable def s0 (k:Nat) (J:Arg):((List ai)×Int)->Option Out:=λmj=>D.L k [1,1,1,1,1,0,1,0,0] [5,6] [] (ap 0 (aU (D.N k [1,1,1,1,1,1]) D.K0)) (T0 J mj)
noncomputable def r0 (k:Nat) (J:Arg):((List ai)×Int)->Option Out:=aD (λw v=>B0 k w (Q1 k J) J v) k
theorem aX (k:Nat) (J:Arg):s0 k J=r0 k J:=by
 funext mj;
 have h0:dn (ap 0 (aU (D.N k [1,1,1,1,1,1]) D.K0)) J=Q1 k J:=funext λz=>rJ k J z
 refine (aR _ _ _ (T0 J) (λself v=>B0 k self (dn (ap 0 (aU (D.N k [1,1,1,1,1,1]) D.K0)) J) J v) (λrec v=>ld k rec (ap 0 (aU (D.N k [1,1,1,1,1,1]) D.K0)) J v) k mj).trans ?_
 rw[h0]
 rfl
noncomputable def p (l0:((List ai)×Int)->Option Out) (J:Arg):Option Out:=bif decide ((12:Int) < (J.1.length:Int)) then (some ((2:Int),())) else (cC.aa (J.1,())).bind λr2=>bif !decide (r2.1=(0:Int)) then (some (r2.1,())) else (bX.aa (J.1,())).bind λr3=>(bt.aa (r3.1,J.1,())).bind λr4=>bif !decide (r4.1=(0:Int)) then (some (r4.1,())) else (dp.aa (J.1,())).bind λr5=>l0 (r5.1,(0:Int))
theorem af (k:Nat) (J:Arg):@Eq (Option Out) (D.W k J) (p (r0 k J) J):=
 Eq.trans (b:=p (s0 k J) J) (by kernel_rfl) (by rw[aX])
theorem ok:Ok prog 47 D.sig:=ay func47 aI (by kernel_rfl) (fc cC.ok (fc bt.ok (fc bX.ok (fc dp.ok (an _)))))
end bn
namespace bV
abbrev Arg:Type:=(List Row)×(List Row)×Unit
abbrev Out:Type:=(List Change)×Unit
abbrev ps:PQ:=[(.ro,(.ae aE)),(.ro,(.ae aE))]
noncomputable def D:FD:={ fn:=f48,tl:=bi,ps:=ps,rs:=[((.ae cX),(ak (.ae cX)))],gl:=[(121,eL.D.sig),(122,dD.D.sig)],lv:=[(3,[0,1,5,6]),(9,[0,1,5,7,8])],lx:=[(0,[0,1,5]),(2,[7]),(3,[0,1,5,7,8])],od:=[(5,[0,1,2,3,4,5,6,7,8,9,10,11,12]),(11,[0,1,2,3,4,5,6,7,8,9,10,11,12]),(12,[0,1,2,3,4,5,6,7,8,9,10,11,12]),(13,[0,1,2,3,4,5,6,7,8,9,10,11,12,13,14,15,16])] }
noncomputable def aa (a:Arg):Option Out:=@lift Out λk=>D.W k a
noncomputable def T0 (J:Arg) (ab:(List Row)×Int):St:={ n:=112,sl:=[(0,.val (.ae aE) J.1),(1,.val (.ae aE) J.2.1),(5,.own (.ae aE) (ak (.ae aE)) [] ab.1),(6,.val i64 ab.2)],vr:=[],aF:=[] }
noncomputable def S0 (rec:RT Out) (J:Arg):((List Row)×Int)->Option Out:=λab=>rec (T0 J ab)
noncomputable def dn (K:KT Out) (J:Arg):(List Row)->Option Out:=λz=>K (.exit 0) ({ n:=112,sl:=[(0,.val (.ae aE) J.1),(1,.val (.ae aE) J.2.1),(5,.own (.ae aE) (ak (.ae aE)) [] z)],vr:=[],aF:=[] })
noncomputable def b0 (self:((List Row)×Int)->Option Out) (e0:(List Row)->Option Out) (J:Arg) (ab:(List Row)×Int):Option Out:=bif decide (ab.2 < (J.2.1.length:Int)) then (if 0<=ab.2 then ((J.2.1[ab.2.toNat]?).bind λeC=>if 0<=ab.2 then ((J.2.1[ab.2.toNat]?).bind λkB=>(eL.aa (J.1,eC.1,kB.2.1,())).bind λlS=>bif decide (lS.1 < (0:Int)) then (if 0<=ab.2 then ((J.2.1[ab.2.toNat]?).bind λsJ=>(dD.aa (ab.1,sJ,())).bind λfu=>self (fu.1,ag (ab.2+(1:Int)))) else none) else self (ab.1,ag (ab.2+(1:Int)))) else none) else none) else e0 ab.1
noncomputable abbrev B0 (_:Nat):=b0
theorem ld (k:Nat) (rec:RT Out) (K:KT Out) (J:Arg) (ab:(List Row)×Int):D.N k [1,1,0,1,0,0] (T0 J ab) (gQ rec (eG [0,1,5,6] []) K)=b0 (S0 rec J) (dn K J) J ab:=by kernel_rfl
noncomputable def T1 (J:Arg) (dr:List Row) (bg:(List Change)×Int):St:={ n:=112,sl:=[(0,.val (.ae aE) J.1),(1,.val (.ae aE) J.2.1),(5,.own (.ae aE) (ak (.ae aE)) [] dr),(7,.own (.ae cX) (ak (.ae cX)) [] bg.1),(8,.val i64 bg.2)],vr:=[],aF:=[] }
noncomputable def b1 (self:((List Change)×Int)->Option Out) (e2:(List Change)->Option Out) (J:Arg) (dr:List Row) (bg:(List Change)×Int):Option Out:=bif decide (bg.2 < (dr.length:Int)) then (if 0<=bg.2/\bg.2 < (dr.length:Int) then ((dr[bg.2.toNat]?).bind λIb=>if 0<=bg.2/\bg.2 < (dr.length:Int) then ((dr[bg.2.toNat]?).bind λAq=>(eL.aa (J.1,Ib.1,Aq.2.1,())).bind λiE=>if 0<=bg.2/\bg.2 < (dr.length:Int) then ((dr[bg.2.toNat]?).bind λQX=>if 0<=bg.2/\bg.2 < (dr.length:Int) then ((dr[bg.2.toNat]?).bind λQY=>(eL.aa (J.2.1,QX.1,QY.2.1,())).bind λtJ=>let Ic:Option Out:=let M6:=λ(Ar:Change)=>(let M7:=λ(M8:Change)=>(if bg.1.length+[M8].length<=cJ then (self (bg.1++[M8],ag (bg.2+(1:Int)))) else none:Option Out);bif decide ((0:Int)<=tJ.1) then (if 0<=tJ.1 then ((J.2.1[tJ.1.toNat]?).bind λQZ=>M7 (Ar.1,Ar.2.1,Ar.2.2.1,QZ,Ar.2.2.2.2)) else none) else M7 Ar:Option Out);bif decide ((0:Int)<=iE.1) then (if 0<=iE.1 then ((J.1[iE.1.toNat]?).bind λQ5=>M6 (decide ((0:Int)<=iE.1),Q5,decide ((0:Int)<=tJ.1),((0:Int),(0:Int),(0:Int),([]:List UInt8),()),())) else none) else M6 (decide ((0:Int)<=iE.1),((0:Int),(0:Int),(0:Int),([]:List UInt8),()),decide ((0:Int)<=tJ.1),((0:Int),(0:Int),(0:Int),([]:List UInt8),()),());bif decide ((0:Int)<=iE.1) then (bif decide ((0:Int)<=tJ.1) then (if 0<=iE.1 then ((J.1[iE.1.toNat]?).bind λQ6=>if 0<=tJ.1 then ((J.2.1[tJ.1.toNat]?).bind λQ7=>bif (Ty.eq aE Q6 Q7) then (self (bg.1,ag (bg.2+(1:Int)))) else Ic) else none) else none) else Ic) else Ic) else none) else none) else none) else none) else e2 bg.1
noncomputable abbrev B1 (_:Nat):=b1
noncomputable def q1 (J:Arg) (dr:List Row) (Q8:(List Change)):Option Out:=some (Q8,())
noncomputable abbrev Q1 (_:Nat):=q1
noncomputable def s1 (k:Nat) (J:Arg):(List Row)->((List Change)×Int)->Option Out:=λdr=>λbg=>D.L k [1,1,1,1,0,1,0,0] [0,1,5,7,8] [] (ap 2 (aU (D.N k [1,1,1,1,1]) D.K0)) (T1 J dr bg)
noncomputable def r1 (k:Nat) (J:Arg):(List Row)->((List Change)×Int)->Option Out:=λdr=>aD (λw v=>B1 k w (Q1 k J dr) J dr v) k
theorem lc (k:Nat) (J:Arg):s1 k J=r1 k J:=
 funext λdr=>funext λbg=>aR _ _ _ (T1 J dr) _ (λrec v=>by kernel_rfl) k bg
noncomputable def q0 (l1:(List Row)->((List Change)×Int)->Option Out) (J:Arg) (kC:(List Row)):Option Out:=l1 kC (([]:List Change),(0:Int))
noncomputable def Q0 (k:Nat) (J:Arg) (kC:(List Row)):Option Out:=q0 (r1 k J) J kC
theorem vG (k:Nat) (J:Arg) (kC:(List Row)):dn (ap 0 (aU (D.N k [1,1,1]) D.K0)) J kC=Q0 k J kC:=
 Eq.trans (b:=q0 (s1 k J) J kC) (by kernel_rfl) (by rw[lc];rfl)
noncomputable def s0 (k:Nat) (J:Arg):((List Row)×Int)->Option Out:=λab=>D.L k [1,1,0,1,0,0] [0,1,5,6] [] (ap 0 (aU (D.N k [1,1,1]) D.K0)) (T0 J ab)
noncomputable def r0 (k:Nat) (J:Arg):((List Row)×Int)->Option Out:=aD (λw v=>B0 k w (Q0 k J) J v) k
theorem aX (k:Nat) (J:Arg):s0 k J=r0 k J:=by
 funext ab;
 have h0:dn (ap 0 (aU (D.N k [1,1,1]) D.K0)) J=Q0 k J:=funext λz=>vG k J z
 refine (aR _ _ _ (T0 J) (λself v=>B0 k self (dn (ap 0 (aU (D.N k [1,1,1]) D.K0)) J) J v) (λrec v=>ld k rec (ap 0 (aU (D.N k [1,1,1]) D.K0)) J v) k ab).trans ?_
 rw[h0]
 rfl
noncomputable def p (l0:((List Row)×Int)->Option Out) (J:Arg):Option Out:=if ([]:List Row).length+J.1.length<=cJ then (l0 (([]:List Row)++J.1,(0:Int))) else none
theorem af (k:Nat) (J:Arg):@Eq (Option Out) (D.W k J) (p (r0 k J) J):=
 Eq.trans (b:=p (s0 k J) J) (by kernel_rfl) (by rw[aX])
theorem ok:Ok prog 48 D.sig:=ay func48 aI (by kernel_rfl) (fc eL.ok (fc dD.ok (an _)))
end bV
namespace di
abbrev Arg:Type:=(List (List UInt8))×Unit
abbrev Out:Type:=(List Row)×Unit
abbrev ps:PQ:=[(.ro,(.ae (.ae u8)))]
noncomputable def D:FD:={ fn:=f49,tl:=bi,ps:=ps,rs:=[((.ae aE),(ak (.ae aE)))],gl:=[(120,dp.D.sig),(122,dD.D.sig)],lv:=[(4,[3,4,5])],lx:=[(0,[3])] }
noncomputable def aa (a:Arg):Option Out:=@lift Out λk=>D.W k a
noncomputable def T0 (J:Arg) (eD:List ai) (aN:(List Row)×Int):St:={ n:=24,sl:=[(3,.own (.ae aE) (ak (.ae aE)) [] aN.1),(4,.own (.ae cE) (ak (.ae cE)) [] eD),(5,.val i64 aN.2)],vr:=[],aF:=[] }
noncomputable def b0 (self:((List Row)×Int)->Option Out) (e0:(List Row)->Option Out) (J:Arg) (eD:List ai) (aN:(List Row)×Int):Option Out:=bif decide (aN.2 < (eD.length:Int)) then (if 0<=aN.2/\aN.2 < (eD.length:Int) then ((eD[aN.2.toNat]?).bind λfH=>(dD.aa (aN.1,fH.2.2.1.2.2.2.2.1,())).bind λgN=>self (gN.1,ag (aN.2+(1:Int)))) else none) else e0 aN.1
noncomputable abbrev B0 (_:Nat):=b0
noncomputable def q0 (J:Arg) (eD:List ai) (mS:(List Row)):Option Out:=some (mS,())
noncomputable abbrev Q0 (_:Nat):=q0
noncomputable def s0 (k:Nat) (J:Arg):(List ai)->((List Row)×Int)->Option Out:=λeD=>λaN=>D.L k [1,1,1,0,1,0,0] [3,4,5] [] (ap 0 (aU (D.N k [1,1,1,1]) D.K0)) (T0 J eD aN)
noncomputable def r0 (k:Nat) (J:Arg):(List ai)->((List Row)×Int)->Option Out:=λeD=>aD (λw v=>B0 k w (Q0 k J eD) J eD v) k
theorem aX (k:Nat) (J:Arg):s0 k J=r0 k J:=
 funext λeD=>funext λaN=>aR _ _ _ (T0 J eD) _ (λrec v=>by kernel_rfl) k aN
noncomputable def p (l0:(List ai)->((List Row)×Int)->Option Out) (J:Arg):Option Out:=(dp.aa (J.1,())).bind λr2=>l0 r2.1 (([]:List Row),(0:Int))
theorem af (k:Nat) (J:Arg):@Eq (Option Out) (D.W k J) (p (r0 k J) J):=
 Eq.trans (b:=p (s0 k J) J) (by kernel_rfl) (by rw[aX])
theorem ok:Ok prog 49 D.sig:=ay func49 aI (by kernel_rfl) (fc dp.ok (fc dD.ok (an _)))
end di
namespace f9
abbrev Arg:Type:=(List UInt8)×Unit
abbrev Out:Type:=(List (List UInt8))×Change×Unit
abbrev ps:PQ:=[(.ro,(.ae u8))]
noncomputable def D:FD:={ fn:=f14,tl:=bi,ps:=ps,rs:=[((.ae (.ae u8)),(.ae true (aw (.ae u8)))),(cX,(aw cX))],gl:=[(25,fT.D.sig),(27,bp.D.sig),(45,gz.D.sig),(46,gx.D.sig),(47,bn.D.sig),(48,bV.D.sig),(49,di.D.sig),(50,br.D.sig),(51,aB.D.sig)],od:=[(8,[0,1,2,3])] }
noncomputable def aa (a:Arg):Option Out:=@lift Out λk=>D.W k a
noncomputable def p (J:Arg):Option Out:=(fT.aa (J.1,())).bind λr2=>(gz.aa (r2.1,())).bind λr3=>(bp.aa (r3.2.1,(2:Int),())).bind λr4=>(gx.aa (r4.2.1,())).bind λr5=>(bp.aa (r5.2.1,(2:Int),())).bind λr6=>(gx.aa (r6.2.1,())).bind λr7=>(bn.aa (r3.1,())).bind λr8=>bif decide (r8.1=(0:Int)) then ((bp.aa (r7.2.1,(4:Int),())).bind λr9=>bif !r9.1 then ((di.aa (r3.1,())).bind λpA=>(br.aa (r9.2.1,())).bind λk_=>(bV.aa (pA.1,k_.1,())).bind λpB=>bif decide ((0:Int) < (pB.1.length:Int)) then ((aB.aa (k_.2.1,(pB.1.length:Int),())).bind λsN=>if 0<=sN.1/\sN.1 < (pB.1.length:Int) then ((pB.1[sN.1.toNat]?).bind λSl=>some (r3.1,Sl,())) else none) else some (r3.1,(r4.1,r5.1,r6.1,r7.1,()),())) else some (r3.1,(r4.1,r5.1,r6.1,r7.1,()),())) else some (r3.1,(r4.1,r5.1,r6.1,r7.1,()),())
theorem af (k:Nat) (J:Arg):@Eq (Option Out) (D.W k J) (p J):=by kernel_rfl
theorem ok:Ok prog 14 D.sig:=ay func14 aI (by kernel_rfl) (fc fT.ok (fc bp.ok (fc gz.ok (fc gx.ok (fc bn.ok (fc bV.ok (fc di.ok (fc br.ok (fc aB.ok (an _))))))))))
end f9
namespace bT
abbrev Arg:Type:=(List UInt8)×Unit
abbrev Out:Type:=Int×Unit
abbrev ps:PQ:=[(.ro,(.ae u8))]
noncomputable def D:FD:={ fn:=f124,tl:=bi,ps:=ps,rs:=[(i64,(aw i64))] }
noncomputable def aa (a:Arg):Option Out:=@lift Out λk=>D.W k a
noncomputable def p (J:Arg):Option Out:=(J.1[0]?).bind λx2=>some (ag (x2.toNat:Int),())
theorem af (k:Nat) (J:Arg):@Eq (Option Out) (D.W k J) (p J):=by kernel_rfl
theorem ok:Ok prog 124 D.sig:=ay func124 aI (by kernel_rfl) (an _)
end bT
namespace ff
abbrev Arg:Type:=(List UInt8)×Int×Unit
abbrev Out:Type:=Int×Int×Unit
abbrev ps:PQ:=[(.ro,(.ae u8)),(.ro,i64)]
noncomputable def D:FD:={ fn:=f176,tl:=bi,ps:=ps,rs:=[(i64,(aw i64)),(i64,(aw i64))],od:=[(1,[0,1,2,3,4,5,6,7,8,9,10,11,12,13,14,15])] }
noncomputable def aa (a:Arg):Option Out:=@lift Out λk=>D.W k a
noncomputable def p (J:Arg):Option Out:=if 0<=ag ((2:Int)+(ag ((2:Int)*J.2.1))) then ((J.1[(ag ((2:Int)+(ag ((2:Int)*J.2.1)))).toNat]?).bind λx2=>if 0<=ag ((3:Int)+(ag ((2:Int)*J.2.1))) then ((J.1[(ag ((3:Int)+(ag ((2:Int)*J.2.1)))).toNat]?).bind λx3=>some (ag (x2.toNat:Int),ag (x3.toNat:Int),())) else none) else none
theorem af (k:Nat) (J:Arg):@Eq (Option Out) (D.W k J) (p J):=by kernel_rfl
theorem ok:Ok prog 176 D.sig:=ay func176 aI (by kernel_rfl) (an _)
end ff
namespace az
abbrev Arg:Type:=(List UInt8)×Unit
abbrev Out:Type:=Int×Unit
abbrev ps:PQ:=[(.ro,(.ae u8))]
noncomputable def D:FD:={ fn:=f123,tl:=bi,ps:=ps,rs:=[(i64,(aw i64))],gl:=[(124,bT.D.sig),(176,ff.D.sig)],lv:=[(7,[0,3,4,35,36]),(15,[0,3,8,66,67]),(19,[0,3,8,10,11,12,66,67])],lx:=[(0,[0,3]),(2,[0,3]),(4,[0,3,8,66,67])],od:=[(3,[0,2,3,4,5,1,6,7])] }
noncomputable def aa (a:Arg):Option Out:=@lift Out λk=>D.W k a
noncomputable def T0 (J:Arg) (bG:Int) (aZ:Int) (bm:Int):St:={ n:=101,sl:=[(0,.val (.ae u8) J.1),(3,.val i64 bG),(4,.val i64 aZ),(35,.val i64 bG),(36,.val i64 bm)],vr:=[],aF:=[] }
noncomputable def S0 (rec:RT Out) (J:Arg) (bG:Int) (aZ:Int):(Int)->Option Out:=λbm=>rec (T0 J bG aZ bm)
noncomputable def dn (K:KT Out) (J:Arg) (bG:Int) (aZ:Int):(Unit)->Option Out:=λz=>K (.exit 0) ({ n:=101,sl:=[(0,.val (.ae u8) J.1),(3,.val i64 bG)],vr:=[],aF:=[] })
noncomputable def b0 (self:Int->Option Out) (e0:(Unit)->Option Out) (J:Arg) (bG:Int) (aZ:Int) (bm:Int):Option Out:=bif decide (bm < bG) then ((ff.aa (J.1,bm,())).bind λfu=>bif !((decide (fu.1=(0:Int))) == (decide (fu.2.1=(0:Int)))) then (some ((3:Int),())) else bif !decide (fu.1=(0:Int)) then (bif decide (fu.1 < aZ) then (some ((3:Int),())) else bif decide ((64:Int) < ag (fu.1+fu.2.1)) then (some ((3:Int),())) else self (ag (bm+(1:Int)))) else bif decide ((64:Int) < ag (fu.1+fu.2.1)) then (some ((3:Int),())) else self (ag (bm+(1:Int)))) else e0 ()
noncomputable abbrev B0 (_:Nat):=b0
theorem ld (k:Nat) (rec:RT Out) (K:KT Out) (J:Arg) (bG:Int) (aZ:Int) (bm:Int):D.N k [1,1,1,1,0,1,0,0] (T0 J bG aZ bm) (gQ rec (eG [0,3,4,35,36] []) K)=b0 (S0 rec J bG aZ) (dn K J bG aZ) J bG aZ bm:=by kernel_rfl
noncomputable def T1 (J:Arg) (bg:(List UInt8)×Int×(List Bool)×Int×Int):St:={ n:=101,sl:=[(0,.val (.ae u8) bg.1),(3,.val i64 bg.2.1),(8,.box (.arr 64 .bool) (aw (.arr 64 .bool)) [] bg.2.2.1),(66,.val i64 bg.2.2.2.1),(67,.val i64 bg.2.2.2.2)],vr:=[],aF:=[] }
noncomputable def S1 (rec:RT Out) (J:Arg):((List UInt8)×Int×(List Bool)×Int×Int)->Option Out:=λbg=>rec (T1 J bg)
noncomputable def lT (K:KT Out) (J:Arg):((List UInt8)×Int)->Option Out:=λz=>K (.exit 2) ({ n:=101,sl:=[(0,.val (.ae u8) z.1),(3,.val i64 z.2)],vr:=[],aF:=[] })
noncomputable def T2 (J:Arg) (iD:List UInt8) (gT:Int) (pC:Int) (pD:Int) (pE:Int) (pF:Int) (iY:(List Bool)×Int):St:={ n:=101,sl:=[(0,.val (.ae u8) iD),(3,.val i64 gT),(8,.box (.arr 64 .bool) (aw (.arr 64 .bool)) [] iY.1),(10,.val i64 pC),(11,.val i64 pD),(12,.val i64 iY.2),(66,.val i64 pE),(67,.val i64 pF)],vr:=[],aF:=[] }
noncomputable def b2 (self:((List Bool)×Int)->Option Out) (e4:(List Bool)->Option Out) (J:Arg) (iD:List UInt8) (gT:Int) (pC:Int) (pD:Int) (pE:Int) (pF:Int) (iY:(List Bool)×Int):Option Out:=bif decide (iY.2 < ag (pC+pD)) then (if 0<=iY.2/\iY.2 < (iY.1.length:Int) then ((iY.1[iY.2.toNat]?).bind λQ9=>bif Q9 then (some ((8:Int),())) else if 0<=iY.2/\iY.2 < (iY.1.length:Int) then ((iY.1[iY.2.toNat]?).bind λWe=>self (iY.1.set iY.2.toNat true,ag (iY.2+(1:Int)))) else none) else none) else e4 iY.1
noncomputable abbrev B2 (_:Nat):=b2
noncomputable def q1 (self:((List UInt8)×Int×(List Bool)×Int×Int)->Option Out) (e2:((List UInt8)×Int)->Option Out) (J:Arg) (iD:List UInt8) (gT:Int) (pC:Int) (pD:Int) (pE:Int) (pF:Int) (Q_:(List Bool)):Option Out:=self (iD,gT,Q_,pE,ag (pF+(1:Int)))
noncomputable abbrev Q1 (_:Nat):=q1
noncomputable def s2 (k:Nat) (rec:RT Out) (K:KT Out) (J:Arg):(List UInt8)->Int->Int->Int->Int->Int->((List Bool)×Int)->Option Out:=λiD gT pC pD pE pF=>λiY=>D.L k [1,1,1,1,1,1,0,1,0,0,1,1,0,0,1,1,1,0,0] [0,3,8,10,11,12,66,67] [] (ap 4 (ap 3 (aU (D.N k [1,1,1,1,1,1,0,1,0,0,1,1,1]) (gQ rec (eG [0,3,8,66,67] []) K)))) (T2 J iD gT pC pD pE pF iY)
noncomputable def r2 (k:Nat) (self:((List UInt8)×Int×(List Bool)×Int×Int)->Option Out) (e2:((List UInt8)×Int)->Option Out) (J:Arg):(List UInt8)->Int->Int->Int->Int->Int->((List Bool)×Int)->Option Out:=λiD gT pC pD pE pF=>aD (λw v=>B2 k w (Q1 k self e2 J iD gT pC pD pE pF) J iD gT pC pD pE pF v) k
theorem vE (k:Nat) (rec:RT Out) (K:KT Out) (J:Arg):s2 k rec K J=r2 k (S1 rec J) (lT K J) J:=
 funext λiD=>funext λgT=>funext λpC=>funext λpD=>funext λpE=>funext λpF=>funext λiY=>aR _ _ _ (T2 J iD gT pC pD pE pF) _ (λrec v=>by kernel_rfl) k iY
noncomputable def b1 (self:((List UInt8)×Int×(List Bool)×Int×Int)->Option Out) (e2:((List UInt8)×Int)->Option Out) (l2:(List UInt8)->Int->Int->Int->Int->Int->((List Bool)×Int)->Option Out) (J:Arg) (bg:(List UInt8)×Int×(List Bool)×Int×Int):Option Out:=bif decide (bg.2.2.2.2 < bg.2.2.2.1) then ((ff.aa (bg.1,bg.2.2.2.2,())).bind λId=>l2 bg.1 bg.2.1 Id.1 Id.2.1 bg.2.2.2.1 bg.2.2.2.2 (bg.2.2.1,Id.1)) else e2 (bg.1,bg.2.1)
noncomputable def B1 (k:Nat) (self:((List UInt8)×Int×(List Bool)×Int×Int)->Option Out) (e2:((List UInt8)×Int)->Option Out) (J:Arg) (bg:(List UInt8)×Int×(List Bool)×Int×Int):Option Out:=b1 self e2 (r2 k self e2 J) J bg
theorem Ap (k:Nat) (rec:RT Out) (K:KT Out) (J:Arg) (bg:(List UInt8)×Int×(List Bool)×Int×Int):D.N k [1,1,1,1,1,1,0,1,0,0] (T1 J bg) (gQ rec (eG [0,3,8,66,67] []) K)=B1 k (S1 rec J) (lT K J) J bg:=
 Eq.trans (b:=b1 (S1 rec J) (lT K J) (s2 k rec K J) J bg) (by kernel_rfl) (by rw[vE];rfl)
noncomputable def q2 (J:Arg) (vH:((List UInt8)×Int)):Option Out:=bif decide ((0:Int) < vH.2) then (if 0<=ag ((ag ((2:Int)*vH.2))+(1:Int)) then ((vH.1[(ag ((ag ((2:Int)*vH.2))+(1:Int))).toNat]?).bind λRa=>bif decide ((Ra.toNat:Int)=(0:Int)) then (some ((8:Int),())) else some ((0:Int),())) else none) else some ((0:Int),())
noncomputable abbrev Q2 (_:Nat):=q2
theorem vF (k:Nat) (J:Arg) (vH:((List UInt8)×Int)):lT (ap 2 (aU (D.N k [1,1,1,1,1,1,1]) D.K0)) J vH=q2 J vH:=by kernel_rfl
noncomputable def s1 (k:Nat) (J:Arg) (bG:Int) (aZ:Int):((List UInt8)×Int×(List Bool)×Int×Int)->Option Out:=λbg=>D.L k [1,1,1,1,1,1,0,1,0,0] [0,3,8,66,67] [] (ap 2 (aU (D.N k [1,1,1,1,1,1,1]) D.K0)) (T1 J bg)
noncomputable def r1 (k:Nat) (J:Arg) (bG:Int) (aZ:Int):((List UInt8)×Int×(List Bool)×Int×Int)->Option Out:=aD (λw v=>B1 k w (Q2 k J) J v) k
theorem lc (k:Nat) (J:Arg) (bG:Int) (aZ:Int):s1 k J bG aZ=r1 k J bG aZ:=by
 funext bg;
 have U:lT (ap 2 (aU (D.N k [1,1,1,1,1,1,1]) D.K0)) J=Q2 k J:=funext λz=>vF k J z
 refine (aR _ _ _ (T1 J) (λself v=>B1 k self (lT (ap 2 (aU (D.N k [1,1,1,1,1,1,1]) D.K0)) J) J v) (λrec v=>Ap k rec (ap 2 (aU (D.N k [1,1,1,1,1,1,1]) D.K0)) J v) k bg).trans ?_
 rw[U]
 rfl
noncomputable def q0 (l1:((List UInt8)×Int×(List Bool)×Int×Int)->Option Out) (J:Arg) (bG:Int) (aZ:Int) (kC:(Unit)):Option Out:=l1 (J.1,bG,List.replicate 64 false,bG,(0:Int))
noncomputable def Q0 (k:Nat) (J:Arg) (bG:Int) (aZ:Int) (kC:(Unit)):Option Out:=q0 (r1 k J bG aZ) J bG aZ kC
theorem vG (k:Nat) (J:Arg) (bG:Int) (aZ:Int) (kC:(Unit)):dn (ap 0 (aU (D.N k [1,1,1,1,1]) D.K0)) J bG aZ kC=Q0 k J bG aZ kC:=
 Eq.trans (b:=q0 (s1 k J bG aZ) J bG aZ kC) (by kernel_rfl) (by rw[lc];rfl)
noncomputable def s0 (k:Nat) (J:Arg):Int->Int->(Int)->Option Out:=λbG aZ=>λbm=>D.L k [1,1,1,1,0,1,0,0] [0,3,4,35,36] [] (ap 0 (aU (D.N k [1,1,1,1,1]) D.K0)) (T0 J bG aZ bm)
noncomputable def r0 (k:Nat) (J:Arg):Int->Int->(Int)->Option Out:=λbG aZ=>aD (λw v=>B0 k w (Q0 k J bG aZ) J bG aZ v) k
theorem aX (k:Nat) (J:Arg):s0 k J=r0 k J:=by
 funext bG;funext aZ;funext bm;
 have h0:dn (ap 0 (aU (D.N k [1,1,1,1,1]) D.K0)) J bG aZ=Q0 k J bG aZ:=funext λz=>vG k J bG aZ z
 refine (aR _ _ _ (T0 J bG aZ) (λself v=>B0 k self (dn (ap 0 (aU (D.N k [1,1,1,1,1]) D.K0)) J bG aZ) J bG aZ v) (λrec v=>ld k rec (ap 0 (aU (D.N k [1,1,1,1,1]) D.K0)) J bG aZ v) k bm).trans ?_
 rw[h0]
 rfl
noncomputable def p (l0:Int->Int->(Int)->Option Out) (J:Arg):Option Out:=bif !decide ((J.1.length:Int)=(64:Int)) then (some ((1:Int),())) else (J.1[1]?).bind λx2=>(bT.aa (J.1,())).bind λr3=>bif decide ((16:Int) < r3.1) then (some ((3:Int),())) else bif decide (ag (x2.toNat:Int) < ag ((2:Int)+(ag ((2:Int)*r3.1)))) then (some ((3:Int),())) else bif decide ((64:Int) < ag (x2.toNat:Int)) then (some ((3:Int),())) else l0 r3.1 (ag (x2.toNat:Int)) (0:Int)
theorem af (k:Nat) (J:Arg):@Eq (Option Out) (D.W k J) (p (r0 k J) J):=
 Eq.trans (b:=p (s0 k J) J) (by kernel_rfl) (by rw[aX])
theorem ok:Ok prog 123 D.sig:=ay func123 aI (by kernel_rfl) (fc bT.ok (fc ff.ok (an _)))
end az
namespace cL
abbrev Arg:Type:=(List UInt8)×Int×Unit
abbrev Out:Type:=Bool×Unit
abbrev ps:PQ:=[(.ro,(.ae u8)),(.ro,i64)]
noncomputable def D:FD:={ fn:=f125,tl:=bi,ps:=ps,rs:=[(.bool,(aw .bool))],gl:=[(124,bT.D.sig)] }
noncomputable def aa (a:Arg):Option Out:=@lift Out λk=>D.W k a
noncomputable def p (J:Arg):Option Out:=bif decide ((0:Int)<=J.2.1) then ((bT.aa (J.1,())).bind λr2=>bif decide (J.2.1 < r2.1) then (if 0<=ag ((3:Int)+(ag ((2:Int)*J.2.1))) then ((J.1[(ag ((3:Int)+(ag ((2:Int)*J.2.1)))).toNat]?).bind λx3=>some (!decide ((x3.toNat:Int)=(0:Int)),())) else none) else some (false,())) else some (false,())
theorem af (k:Nat) (J:Arg):@Eq (Option Out) (D.W k J) (p J):=by kernel_rfl
theorem ok:Ok prog 125 D.sig:=ay func125 aI (by kernel_rfl) (fc bT.ok (an _))
end cL
namespace d0
abbrev Arg:Type:=(List UInt8)×Unit
abbrev Out:Type:=k8×Unit
abbrev ps:PQ:=[(.ro,(.ae u8))]
noncomputable def D:FD:={ fn:=f126,tl:=bi,ps:=ps,rs:=[(j0,(aw j0))],gl:=[(111,bZ.D.sig)],od:=[(2,[0,1,2,3,4,5,6,7,8,9]),(5,[0,1,2,3,4,5,6,7,8,9,10,11,12,13,14,15,16,17,18,19,20,21,22,23]),(8,[0,1,2,3,4,5,6])] }
noncomputable def aa (a:Arg):Option Out:=@lift Out λk=>D.W k a
noncomputable def p (J:Arg):Option Out:=let wt:Option Out:=let Sq:Option Out:=(J.1[1]?).bind λSr=>(J.1[2]?).bind λSs=>(J.1[3]?).bind λVg=>(J.1[4]?).bind λVh=>if 0<=(6:Int)/\(6:Int)<=(J.1.length:Int) then (let Su:=ag ((BitVec.ofInt 64 (ag ((ag (Vg.toNat:Int))*2 ^ 8)) ||| BitVec.ofInt 64 (ag (Vh.toNat:Int))).toNat:Int);(bZ.aa ((ag (Sr.toNat:Int),ag (Ss.toNat:Int),Su,(J.1.take J.1.length).drop 6,()),())).bind λVi=>bif !decide (Vi.1=(0:Int)) then (some (((5:Int),(0:Int),(0:Int),(0:Int),((0:Int),(0:Int),(0:Int),([]:List UInt8),()),()),())) else (J.1[0]?).bind λVj=>some (((0:Int),ag (Vj.toNat:Int),(0:Int),(0:Int),(ag (Sr.toNat:Int),ag (Ss.toNat:Int),Su,(J.1.take J.1.length).drop 6,()),()),())) else none;bif decide ((J.1.length:Int) < (6:Int)) then (some (((5:Int),(0:Int),(0:Int),(0:Int),((0:Int),(0:Int),(0:Int),([]:List UInt8),()),()),())) else (J.1[0]?).bind λVk=>bif !decide ((Vk.toNat:Int)=(0:Int)) then ((J.1[0]?).bind λVl=>bif !decide ((Vl.toNat:Int)=(2:Int)) then (some (((5:Int),(0:Int),(0:Int),(0:Int),((0:Int),(0:Int),(0:Int),([]:List UInt8),()),()),())) else (J.1[5]?).bind λVm=>bif !decide ((J.1.length:Int)=ag ((6:Int)+(ag (Vm.toNat:Int)))) then (some (((5:Int),(0:Int),(0:Int),(0:Int),((0:Int),(0:Int),(0:Int),([]:List UInt8),()),()),())) else Sq) else (J.1[5]?).bind λVn=>bif !decide ((J.1.length:Int)=ag ((6:Int)+(ag (Vn.toNat:Int)))) then (some (((5:Int),(0:Int),(0:Int),(0:Int),((0:Int),(0:Int),(0:Int),([]:List UInt8),()),()),())) else Sq;bif decide ((J.1.length:Int)=(3:Int)) then ((J.1[0]?).bind λx2=>bif decide ((x2.toNat:Int)=(1:Int)) then ((J.1[1]?).bind λx3=>bif decide ((x3.toNat:Int) < (12:Int)) then ((J.1[2]?).bind λx4=>bif decide ((x4.toNat:Int) < (16:Int)) then ((J.1[1]?).bind λx5=>(J.1[2]?).bind λx6=>some (((0:Int),(1:Int),ag (x5.toNat:Int),ag (x6.toNat:Int),((0:Int),(0:Int),(0:Int),([]:List UInt8),()),()),())) else wt) else wt) else wt) else wt
theorem af (k:Nat) (J:Arg):@Eq (Option Out) (D.W k J) (p J):=by kernel_rfl
theorem ok:Ok prog 126 D.sig:=ay func126 aI (by kernel_rfl) (fc bZ.ok (an _))
end d0
namespace fD
abbrev Arg:Type:=(List UInt8)×Int×Unit
abbrev Out:Type:=(List UInt8)×Unit
abbrev ps:PQ:=[(.ro,(.ae u8)),(.ro,i64)]
noncomputable def D:FD:={ fn:=f127,tl:=bi,ps:=ps,rs:=[((.ae u8),(aw (.ae u8)))],gl:=[(176,ff.D.sig)] }
noncomputable def aa (a:Arg):Option Out:=@lift Out λk=>D.W k a
noncomputable def p (J:Arg):Option Out:=(ff.aa (J.1,J.2.1,())).bind λr2=>if 0<=r2.1/\r2.1<=ag (r2.1+r2.2.1)/\ag (r2.1+r2.2.1)<=(J.1.length:Int) then (some ((J.1.take (ag (r2.1+r2.2.1)).toNat).drop r2.1.toNat,())) else none
theorem af (k:Nat) (J:Arg):@Eq (Option Out) (D.W k J) (p J):=by kernel_rfl
theorem ok:Ok prog 127 D.sig:=ay func127 aI (by kernel_rfl) (fc ff.ok (an _))
end fD
namespace iv
abbrev Arg:Type:=Seen×Seen×Unit
abbrev Out:Type:=Int×Unit
abbrev ps:PQ:=[(.ro,ct),(.ro,ct)]
noncomputable def D:FD:={ fn:=f178,tl:=bi,ps:=ps,rs:=[(i64,(aw i64))],gl:=[(129,ej.D.sig)] }
noncomputable def aa (a:Arg):Option Out:=@lift Out λk=>D.W k a
noncomputable def p (J:Arg):Option Out:=(ej.aa (J.1.1,J.2.1.1,())).bind λr2=>some (r2.1,())
theorem af (k:Nat) (J:Arg):@Eq (Option Out) (D.W k J) (p J):=by kernel_rfl
theorem ok:Ok prog 178 D.sig:=ay func178 aI (by kernel_rfl) (fc ej.ok (an _))
end iv
namespace iF
open Go.Proofs
abbrev Arg:Type:=(List Seen)×(Nat×Int)×Unit
abbrev Out:Type:=(List Seen)×Unit
noncomputable def aa (a:Arg):Option Out:=(rH ct iv.aa a.1).map λr=>(r,())
noncomputable def sig:nc:={ ps:=[(.gj (ak (.ae ct)),.ae ct),(.fix 178,.fn)],rs:=[],F:=aa }
def FK:Go.Shelf.Ren:=⟨λ| 6=>177 | 15=>215 | 14=>214 | 28=>236 | 29=>237 | 20=>228 | 21=>229 | 22=>230 | 23=>231 | 24=>232 | 25=>233 | 26=>234 | 27=>235 | 46=>238 | 47=>239 | 48=>240 | 49=>241 | 50=>242 | 57=>243 | n=>n,λ| 22=>105 | 24=>114 | 25=>245 | 3=>3 | 39=>239 | 0=>0 | 53=>297 | 55=>299 | 4=>4 | 46=>291 | 45=>290 | 50=>193 | 5=>5 | 9=>9 | 66=>300 | 70=>304 | 76=>306 | 77=>236 | n=>n,λ| n=>n⟩
theorem N8:Go.Proofs.SlLaysF0.n6 Tryz.prog FK:={
 mixed:=by kernel_rfl
 f6:=⟨Tryz.f177.name,by decide,Tryz.func177.trans (congrArg some (by kernel_rfl))⟩
 f14:=⟨Tryz.f214.name,by decide,Tryz.func214.trans (congrArg some (by kernel_rfl))⟩
 f15:=Tryz.func215.trans (congrArg some (by kernel_rfl))
 f20:=⟨Tryz.f228.name,by decide,Tryz.func228.trans (congrArg some (by kernel_rfl))⟩
 f21:=⟨Tryz.f229.name,by decide,Tryz.func229.trans (congrArg some (by kernel_rfl))⟩
 f22:=⟨Tryz.f230.name,by decide,Tryz.func230.trans (congrArg some (by kernel_rfl))⟩
 f23:=⟨Tryz.f231.name,by decide,Tryz.func231.trans (congrArg some (by kernel_rfl))⟩
 f24:=⟨Tryz.f232.name,by decide,Tryz.func232.trans (congrArg some (by kernel_rfl))⟩
 f25:=⟨Tryz.f233.name,by decide,Tryz.func233.trans (congrArg some (by kernel_rfl))⟩
 f26:=⟨Tryz.f234.name,by decide,Tryz.func234.trans (congrArg some (by kernel_rfl))⟩
 f27:=⟨Tryz.f235.name,by decide,Tryz.func235.trans (congrArg some (by kernel_rfl))⟩
 f28:=Tryz.func236.trans (congrArg some (by kernel_rfl))
 f29:=Tryz.func237.trans (congrArg some (by kernel_rfl))
 f46:=⟨Tryz.f238.name,by decide,Tryz.func238.trans (congrArg some (by kernel_rfl))⟩
 f47:=Tryz.func239.trans (congrArg some (by kernel_rfl))
 f48:=Tryz.func240.trans (congrArg some (by kernel_rfl))
 f49:=⟨Tryz.f241.name,by decide,Tryz.func241.trans (congrArg some (by kernel_rfl))⟩
 f50:=⟨Tryz.f242.name,by decide,Tryz.func242.trans (congrArg some (by kernel_rfl))⟩
 f57:=⟨Tryz.f243.name,by decide,Tryz.func243.trans (congrArg some (by kernel_rfl))⟩
 t0:=Tryz.underlying0
 a0:=Tryz.isAgg0
 z0:=Tryz.sizeOf0
 v0:=Tryz.zeroValue0
 t3:=Tryz.underlying3
 a3:=Tryz.isAgg3
 z3:=Tryz.sizeOf3
 v3:=Tryz.zeroValue3
 t4:=Tryz.underlying4
 a4:=Tryz.isAgg4
 z4:=Tryz.sizeOf4
 v4:=Tryz.zeroValue4
 t5:=Tryz.underlying5
 a5:=Tryz.isAgg5
 z5:=Tryz.sizeOf5
 v5:=Tryz.zeroValue5
 t9:=Tryz.underlying9
 a9:=Tryz.isAgg9
 z9:=Tryz.sizeOf9
 v9:=Tryz.zeroValue9
 t22:=Tryz.underlying105
 a22:=Tryz.isAgg105
 z22:=Tryz.sizeOf105
 v22:=Tryz.zeroValue105
 t25:=Tryz.underlying245
 a25:=Tryz.isAgg245
 z25:=Tryz.sizeOf245
 v25:=Tryz.zeroValue245
 t39:=Tryz.underlying239
 a39:=Tryz.isAgg239
 z39:=Tryz.sizeOf239
 v39:=Tryz.zeroValue239
 t45:=Tryz.underlying290
 a45:=Tryz.isAgg290
 z45:=Tryz.sizeOf290
 v45:=Tryz.zeroValue290
 t46:=Tryz.underlying291
 a46:=Tryz.isAgg291
 z46:=Tryz.sizeOf291
 v46:=Tryz.zeroValue291
 t50:=Tryz.underlying193
 a50:=Tryz.isAgg193
 z50:=Tryz.sizeOf193
 v50:=Tryz.zeroValue193
 t53:=Tryz.underlying297
 a53:=Tryz.isAgg297
 z53:=Tryz.sizeOf297
 v53:=Tryz.zeroValue297
 t55:=Tryz.underlying299
 a55:=Tryz.isAgg299
 z55:=Tryz.sizeOf299
 v55:=Tryz.zeroValue299
 t66:=Tryz.underlying300
 a66:=Tryz.isAgg300
 z66:=Tryz.sizeOf300
 v66:=Tryz.zeroValue300
 t70:=Tryz.underlying304
 a70:=Tryz.isAgg304
 z70:=Tryz.sizeOf304
 v70:=Tryz.zeroValue304
 t76:=Tryz.underlying306
 a76:=Tryz.isAgg306
 z76:=Tryz.sizeOf306
 v76:=Tryz.zeroValue306
 t77:=Tryz.underlying236
 a77:=Tryz.isAgg236
 z77:=Tryz.sizeOf236
 v77:=Tryz.zeroValue236 }
theorem ok:Ok prog 177 sig:=N7 (e:=ct) N8 rfl rfl (by kernel_rfl) (by decide) (g:=178) (cF:=iv.aa) iv.ok ⟨f177,func177,by kernel_rfl,by kernel_rfl,by kernel_rfl⟩
end iF
namespace aK
abbrev Arg:Type:=(List (List UInt8))×Unit
abbrev Out:Type:=(List Seen)×Int×Unit
abbrev ps:PQ:=[(.ro,(.ae (.ae u8)))]
noncomputable def D:FD:={ fn:=f128,tl:=bi,ps:=ps,rs:=[((.ae ct),(ak (.ae ct))),(i64,(aw i64))],gl:=[(112,dY.D.sig),(124,bT.D.sig),(125,cL.D.sig),(126,d0.D.sig),(127,fD.D.sig),(177,iF.sig)],lv:=[(4,[4,5,6,21,22,23]),(7,[4,5,6,7,8,21,22,23,29,30]),(21,[4,5,6,81,82,83]),(29,[4,5,6,15,101,102,103]),(40,[4,19])],lx:=[(0,[4,5,6]),(2,[4,5,6,21,22,23]),(3,[4,5,6,7,8,21,22,23,29,30]),(5,[4,5,6]),(7,[4]),(9,[4])],od:=[(42,[0,1,2,3,4,5,6,7,8,9,10,11,12])] }
noncomputable def aa (a:Arg):Option Out:=@lift Out λk=>D.W k a
noncomputable def T0 (J:Arg) (ab:(List Seen)×(List Seen)×(List ((List Int)×Row))×(List (List UInt8))×Int×Int):St:={ n:=148,sl:=[(4,.own (.ae ct) (ak (.ae ct)) [] ab.1),(5,.own (.ae ct) (ak (.ae ct)) [] ab.2.1),(6,.own (.map (.arr 2 i64) aE) (ak (.map (.arr 2 i64) aE)) [] ab.2.2.1),(21,.val (.ae (.ae u8)) ab.2.2.2.1),(22,.val i64 ab.2.2.2.2.1),(23,.val i64 ab.2.2.2.2.2)],vr:=[],aF:=[] }
noncomputable def S0 (rec:RT Out) (J:Arg):((List Seen)×(List Seen)×(List ((List Int)×Row))×(List (List UInt8))×Int×Int)->Option Out:=λab=>rec (T0 J ab)
noncomputable def dn (K:KT Out) (J:Arg):((List Seen)×(List Seen)×(List ((List Int)×Row)))->Option Out:=λz=>K (.exit 0) ({ n:=148,sl:=[(4,.own (.ae ct) (ak (.ae ct)) [] z.1),(5,.own (.ae ct) (ak (.ae ct)) [] z.2.1),(6,.own (.map (.arr 2 i64) aE) (ak (.map (.arr 2 i64) aE)) [] z.2.2)],vr:=[],aF:=[] })
noncomputable def T1 (J:Arg) (eO:Int) (dA:List UInt8) (dc:List (List UInt8)) (dB:Int) (dr:Int) (cz:(List Seen)×(List Seen)×(List ((List Int)×Row))×Int):St:={ n:=148,sl:=[(4,.own (.ae ct) (ak (.ae ct)) [] cz.1),(5,.own (.ae ct) (ak (.ae ct)) [] cz.2.1),(6,.own (.map (.arr 2 i64) aE) (ak (.map (.arr 2 i64) aE)) [] cz.2.2.1),(7,.val i64 eO),(8,.val (.ae u8) dA),(21,.val (.ae (.ae u8)) dc),(22,.val i64 dB),(23,.val i64 eO),(29,.val i64 dr),(30,.val i64 cz.2.2.2)],vr:=[],aF:=[] }
noncomputable def b1 (self:((List Seen)×(List Seen)×(List ((List Int)×Row))×Int)->Option Out) (e2:((List Seen)×(List Seen)×(List ((List Int)×Row)))->Option Out) (J:Arg) (eO:Int) (dA:List UInt8) (dc:List (List UInt8)) (dB:Int) (dr:Int) (cz:(List Seen)×(List Seen)×(List ((List Int)×Row))×Int):Option Out:=bif decide (cz.2.2.2 < dr) then ((cL.aa (dA,cz.2.2.2,())).bind λAo=>bif !Ao.1 then (self (cz.1,cz.2.1,cz.2.2.1,ag (cz.2.2.2+(1:Int)))) else (fD.aa (dA,cz.2.2.2,())).bind λC9=>(d0.aa (C9.1,())).bind λiE=>bif !decide (iE.1.1=(0:Int)) then (some (([]:List Seen),(5:Int),())) else bif decide (iE.1.2.1=(0:Int)) then (if cz.1.length+[(iE.1.2.2.2.2.1,eO,cz.2.2.2,false,eO,cz.2.2.2,())].length<=cJ then (let Rb:=cz.1++[(iE.1.2.2.2.2.1,eO,cz.2.2.2,false,eO,cz.2.2.2,())];self (Rb,cz.2.1,cz.2.2.1,ag (cz.2.2.2+(1:Int)))) else none) else bif decide (iE.1.2.1=(2:Int)) then (if 0 < (List.replicate 2 (0:Int)).length then (if 1 < ((List.replicate 2 (0:Int)).set 0 eO).length then (let Rc:=oY (.arr 2 i64) cz.2.2.1 (((List.replicate 2 (0:Int)).set 0 eO).set 1 cz.2.2.2) iE.1.2.2.2.2.1;self (cz.1,cz.2.1,Rc,ag (cz.2.2.2+(1:Int)))) else none) else none) else if cz.2.1.length+[(((0:Int),(0:Int),(0:Int),([]:List UInt8),()),eO,cz.2.2.2,true,iE.1.2.2.1,iE.1.2.2.2.1,())].length<=cJ then (let Rd:=cz.2.1++[(((0:Int),(0:Int),(0:Int),([]:List UInt8),()),eO,cz.2.2.2,true,iE.1.2.2.1,iE.1.2.2.2.1,())];self (cz.1,Rd,cz.2.2.1,ag (cz.2.2.2+(1:Int)))) else none) else e2 (cz.1,cz.2.1,cz.2.2.1)
noncomputable abbrev B1 (_:Nat):=b1
noncomputable def q0 (self:((List Seen)×(List Seen)×(List ((List Int)×Row))×(List (List UInt8))×Int×Int)->Option Out) (e0:((List Seen)×(List Seen)×(List ((List Int)×Row)))->Option Out) (J:Arg) (eO:Int) (dA:List UInt8) (dc:List (List UInt8)) (dB:Int) (dr:Int) (tK:((List Seen)×(List Seen)×(List ((List Int)×Row)))):Option Out:=self (tK.1,tK.2.1,tK.2.2,dc,dB,ag (eO+(1:Int)))
noncomputable abbrev Q0 (_:Nat):=q0
noncomputable def s1 (k:Nat) (rec:RT Out) (K:KT Out) (J:Arg):Int->(List UInt8)->(List (List UInt8))->Int->Int->((List Seen)×(List Seen)×(List ((List Int)×Row))×Int)->Option Out:=λeO dA dc dB dr=>λcz=>D.L k [1,1,1,0,1,0,0,1,1,0,0,1,1,0,0] [4,5,6,7,8,21,22,23,29,30] [] (ap 2 (ap 1 (aU (D.N k [1,1,1,0,1,0,0,1,1,1]) (gQ rec (eG [4,5,6,21,22,23] []) K)))) (T1 J eO dA dc dB dr cz)
noncomputable def r1 (k:Nat) (self:((List Seen)×(List Seen)×(List ((List Int)×Row))×(List (List UInt8))×Int×Int)->Option Out) (e0:((List Seen)×(List Seen)×(List ((List Int)×Row)))->Option Out) (J:Arg):Int->(List UInt8)->(List (List UInt8))->Int->Int->((List Seen)×(List Seen)×(List ((List Int)×Row))×Int)->Option Out:=λeO dA dc dB dr=>aD (λw v=>B1 k w (Q0 k self e0 J eO dA dc dB dr) J eO dA dc dB dr v) k
theorem lc (k:Nat) (rec:RT Out) (K:KT Out) (J:Arg):s1 k rec K J=r1 k (S0 rec J) (dn K J) J:=
 funext λeO=>funext λdA=>funext λdc=>funext λdB=>funext λdr=>funext λcz=>aR _ _ _ (T1 J eO dA dc dB dr) _ (λrec v=>by kernel_rfl) k cz
noncomputable def b0 (self:((List Seen)×(List Seen)×(List ((List Int)×Row))×(List (List UInt8))×Int×Int)->Option Out) (e0:((List Seen)×(List Seen)×(List ((List Int)×Row)))->Option Out) (l1:Int->(List UInt8)->(List (List UInt8))->Int->Int->((List Seen)×(List Seen)×(List ((List Int)×Row))×Int)->Option Out) (J:Arg) (ab:(List Seen)×(List Seen)×(List ((List Int)×Row))×(List (List UInt8))×Int×Int):Option Out:=bif decide (ab.2.2.2.2.2 < ab.2.2.2.2.1) then (if 0<=ab.2.2.2.2.2 then ((ab.2.2.2.1[ab.2.2.2.2.2.toNat]?).bind λeC=>(bT.aa (eC,())).bind λft=>l1 ab.2.2.2.2.2 eC ab.2.2.2.1 ab.2.2.2.2.1 ft.1 (ab.1,ab.2.1,ab.2.2.1,(0:Int))) else none) else e0 (ab.1,ab.2.1,ab.2.2.1)
noncomputable def B0 (k:Nat) (self:((List Seen)×(List Seen)×(List ((List Int)×Row))×(List (List UInt8))×Int×Int)->Option Out) (e0:((List Seen)×(List Seen)×(List ((List Int)×Row)))->Option Out) (J:Arg) (ab:(List Seen)×(List Seen)×(List ((List Int)×Row))×(List (List UInt8))×Int×Int):Option Out:=b0 self e0 (r1 k self e0 J) J ab
theorem ld (k:Nat) (rec:RT Out) (K:KT Out) (J:Arg) (ab:(List Seen)×(List Seen)×(List ((List Int)×Row))×(List (List UInt8))×Int×Int):D.N k [1,1,1,0,1,0,0] (T0 J ab) (gQ rec (eG [4,5,6,21,22,23] []) K)=B0 k (S0 rec J) (dn K J) J ab:=
 Eq.trans (b:=b0 (S0 rec J) (dn K J) (s1 k rec K J) J ab) (by kernel_rfl) (by rw[lc];rfl)
noncomputable def T2 (J:Arg) (dO:List Seen) (dC:List Seen) (dE:List ((List Int)×Row)) (d6:Int) (lJ:Int):St:={ n:=148,sl:=[(4,.own (.ae ct) (ak (.ae ct)) [] dO),(5,.own (.ae ct) (ak (.ae ct)) [] dC),(6,.own (.map (.arr 2 i64) aE) (ak (.map (.arr 2 i64) aE)) [] dE),(81,.ref 5 [] [0,0]),(82,.val i64 d6),(83,.val i64 lJ)],vr:=[],aF:=[] }
noncomputable def S2 (rec:RT Out) (J:Arg) (dO:List Seen) (dC:List Seen) (dE:List ((List Int)×Row)) (d6:Int):(Int)->Option Out:=λlJ=>rec (T2 J dO dC dE d6 lJ)
noncomputable def Ie (K:KT Out) (J:Arg) (dO:List Seen) (dC:List Seen) (dE:List ((List Int)×Row)) (d6:Int):(Unit)->Option Out:=λz=>K (.exit 5) ({ n:=148,sl:=[(4,.own (.ae ct) (ak (.ae ct)) [] dO),(5,.own (.ae ct) (ak (.ae ct)) [] dC),(6,.own (.map (.arr 2 i64) aE) (ak (.map (.arr 2 i64) aE)) [] dE)],vr:=[],aF:=[] })
noncomputable def b2 (self:Int->Option Out) (e5:(Unit)->Option Out) (J:Arg) (dO:List Seen) (dC:List Seen) (dE:List ((List Int)×Row)) (d6:Int) (lJ:Int):Option Out:=bif decide (lJ < d6) then (if 0<=lJ/\lJ < (dC.length:Int) then ((dC[lJ.toNat]?).bind λAs=>if 0 < (List.replicate 2 (0:Int)).length then (if 1 < ((List.replicate 2 (0:Int)).set 0 As.2.2.2.2.1).length then (let Wf:=yj (gm (.arr 2 i64) dE (((List.replicate 2 (0:Int)).set 0 As.2.2.2.2.1).set 1 As.2.2.2.2.2.1)) ((0:Int),(0:Int),(0:Int),([]:List UInt8),());bif !(gm (.arr 2 i64) dE (((List.replicate 2 (0:Int)).set 0 As.2.2.2.2.1).set 1 As.2.2.2.2.2.1)).isSome then (some (([]:List Seen),(4:Int),())) else self (ag (lJ+(1:Int)))) else none) else none) else none) else e5 ()
noncomputable abbrev B2 (_:Nat):=b2
theorem Re (k:Nat) (rec:RT Out) (K:KT Out) (J:Arg) (dO:List Seen) (dC:List Seen) (dE:List ((List Int)×Row)) (d6:Int) (lJ:Int):D.N k [1,1,1,1,0,1,0,0] (T2 J dO dC dE d6 lJ) (gQ rec (eG [4,5,6,81,82,83] []) K)=b2 (S2 rec J dO dC dE d6) (Ie K J dO dC dE d6) J dO dC dE d6 lJ:=by kernel_rfl
noncomputable def T3 (J:Arg) (dP:List Seen) (d7:List ((List Int)×Row)) (d8:Int) (iG:(List Seen)×(List ((List Int)×Bool))×Int):St:={ n:=148,sl:=[(4,.own (.ae ct) (ak (.ae ct)) [] iG.1),(5,.own (.ae ct) (ak (.ae ct)) [] dP),(6,.own (.map (.arr 2 i64) aE) (ak (.map (.arr 2 i64) aE)) [] d7),(15,.own (.map (.arr 2 i64) .bool) (ak (.map (.arr 2 i64) .bool)) [] iG.2.1),(101,.ref 5 [] [0,0]),(102,.val i64 d8),(103,.val i64 iG.2.2)],vr:=[],aF:=[] }
noncomputable def S3 (rec:RT Out) (J:Arg) (dP:List Seen) (d7:List ((List Int)×Row)) (d8:Int):((List Seen)×(List ((List Int)×Bool))×Int)->Option Out:=λiG=>rec (T3 J dP d7 d8 iG)
noncomputable def If (K:KT Out) (J:Arg) (dP:List Seen) (d7:List ((List Int)×Row)) (d8:Int):(List Seen)->Option Out:=λz=>K (.exit 7) ({ n:=148,sl:=[(4,.own (.ae ct) (ak (.ae ct)) [] z)],vr:=[],aF:=[] })
noncomputable def b3 (self:((List Seen)×(List ((List Int)×Bool))×Int)->Option Out) (e7:(List Seen)->Option Out) (J:Arg) (dP:List Seen) (d7:List ((List Int)×Row)) (d8:Int) (iG:(List Seen)×(List ((List Int)×Bool))×Int):Option Out:=bif decide (iG.2.2 < d8) then (if 0<=iG.2.2/\iG.2.2 < (dP.length:Int) then ((dP[iG.2.2.toNat]?).bind λAu=>if 0 < (List.replicate 2 (0:Int)).length then (if 1 < ((List.replicate 2 (0:Int)).set 0 Au.2.2.2.2.1).length then (let Ig:=((List.replicate 2 (0:Int)).set 0 Au.2.2.2.2.1).set 1 Au.2.2.2.2.2.1;bif yj (gm (.arr 2 i64) iG.2.1 Ig) false then (some (([]:List Seen),(6:Int),())) else let M9:=yj (gm (.arr 2 i64) d7 Ig) ((0:Int),(0:Int),(0:Int),([]:List UInt8),());if iG.1.length+[(M9,Au.2)].length<=cJ then (self (iG.1++[(M9,Au.2)],oY (.arr 2 i64) iG.2.1 Ig true,ag (iG.2.2+(1:Int)))) else none) else none) else none) else none) else e7 iG.1
noncomputable abbrev B3 (_:Nat):=b3
theorem Rf (k:Nat) (rec:RT Out) (K:KT Out) (J:Arg) (dP:List Seen) (d7:List ((List Int)×Row)) (d8:Int) (iG:(List Seen)×(List ((List Int)×Bool))×Int):D.N k [1,1,1,1,1,1,0,1,0,0] (T3 J dP d7 d8 iG) (gQ rec (eG [4,5,6,15,101,102,103] []) K)=b3 (S3 rec J dP d7 d8) (If K J dP d7 d8) J dP d7 d8 iG:=by kernel_rfl
noncomputable def T4 (J:Arg) (lK:List Seen) (mZ:Int):St:={ n:=148,sl:=[(4,.own (.ae ct) (ak (.ae ct)) [] lK),(19,.val i64 mZ)],vr:=[],aF:=[] }
noncomputable def b4 (self:Int->Option Out) (e9:(Unit)->Option Out) (J:Arg) (lK:List Seen) (mZ:Int):Option Out:=bif decide (mZ < (lK.length:Int)) then (if 0<=ag (mZ - (1:Int))/\ag (mZ - (1:Int)) < (lK.length:Int) then ((lK[(ag (mZ - (1:Int))).toNat]?).bind λRg=>if 0<=mZ/\mZ < (lK.length:Int) then ((lK[mZ.toNat]?).bind λRh=>(dY.aa (Rg.1,Rh.1,())).bind λRi=>bif !Ri.1 then (some (([]:List Seen),(8:Int),())) else self (ag (mZ+(1:Int)))) else none) else none) else e9 ()
noncomputable abbrev B4 (_:Nat):=b4
noncomputable def q4 (J:Arg) (lK:List Seen) (Wg:(Unit)):Option Out:=some (lK,(0:Int),())
noncomputable abbrev Q4 (_:Nat):=q4
noncomputable def s4 (k:Nat) (J:Arg) (dP:List Seen) (d7:List ((List Int)×Row)) (d8:Int):(List Seen)->(Int)->Option Out:=λlK=>λmZ=>D.L k [1,1,1,1,1,1,1,1,0,1,0,0] [4,19] [] (ap 9 (aU (D.N k [1,1,1,1,1,1,1,1,1]) D.K0)) (T4 J lK mZ)
noncomputable def r4 (k:Nat) (J:Arg) (dP:List Seen) (d7:List ((List Int)×Row)) (d8:Int):(List Seen)->(Int)->Option Out:=λlK=>aD (λw v=>B4 k w (Q4 k J lK) J lK v) k
theorem Rj (k:Nat) (J:Arg) (dP:List Seen) (d7:List ((List Int)×Row)) (d8:Int):s4 k J dP d7 d8=r4 k J dP d7 d8:=
 funext λlK=>funext λmZ=>aR _ _ _ (T4 J lK) _ (λrec v=>by kernel_rfl) k mZ
noncomputable def q3 (l4:(List Seen)->(Int)->Option Out) (J:Arg) (dP:List Seen) (d7:List ((List Int)×Row)) (d8:Int) (vI:(List Seen)):Option Out:=(iF.aa (vI,((178,0):Nat×Int),())).bind λRk=>l4 Rk.1 (1:Int)
noncomputable def Q3 (k:Nat) (J:Arg) (dP:List Seen) (d7:List ((List Int)×Row)) (d8:Int) (vI:(List Seen)):Option Out:=q3 (r4 k J dP d7 d8) J dP d7 d8 vI
theorem Rl (k:Nat) (J:Arg) (dP:List Seen) (d7:List ((List Int)×Row)) (d8:Int) (vI:(List Seen)):If (ap 7 (aU (D.N k [1,1,1,1,1,1,1]) D.K0)) J dP d7 d8 vI=Q3 k J dP d7 d8 vI:=
 Eq.trans (b:=q3 (s4 k J dP d7 d8) J dP d7 d8 vI) (by kernel_rfl) (by rw[Rj];rfl)
noncomputable def s3 (k:Nat) (J:Arg) (dO:List Seen) (dC:List Seen) (dE:List ((List Int)×Row)) (d6:Int):(List Seen)->(List ((List Int)×Row))->Int->((List Seen)×(List ((List Int)×Bool))×Int)->Option Out:=λdP d7 d8=>λiG=>D.L k [1,1,1,1,1,1,0,1,0,0] [4,5,6,15,101,102,103] [] (ap 7 (aU (D.N k [1,1,1,1,1,1,1]) D.K0)) (T3 J dP d7 d8 iG)
noncomputable def r3 (k:Nat) (J:Arg) (dO:List Seen) (dC:List Seen) (dE:List ((List Int)×Row)) (d6:Int):(List Seen)->(List ((List Int)×Row))->Int->((List Seen)×(List ((List Int)×Bool))×Int)->Option Out:=λdP d7 d8=>aD (λw v=>B3 k w (Q3 k J dP d7 d8) J dP d7 d8 v) k
theorem Rm (k:Nat) (J:Arg) (dO:List Seen) (dC:List Seen) (dE:List ((List Int)×Row)) (d6:Int):s3 k J dO dC dE d6=r3 k J dO dC dE d6:=by
 funext dP;funext d7;funext d8;funext iG;
 have h7:If (ap 7 (aU (D.N k [1,1,1,1,1,1,1]) D.K0)) J dP d7 d8=Q3 k J dP d7 d8:=funext λz=>Rl k J dP d7 d8 z
 refine (aR _ _ _ (T3 J dP d7 d8) (λself v=>B3 k self (If (ap 7 (aU (D.N k [1,1,1,1,1,1,1]) D.K0)) J dP d7 d8) J dP d7 d8 v) (λrec v=>Rf k rec (ap 7 (aU (D.N k [1,1,1,1,1,1,1]) D.K0)) J dP d7 d8 v) k iG).trans ?_
 rw[h7]
 rfl
noncomputable def q2 (l3:(List Seen)->(List ((List Int)×Row))->Int->((List Seen)×(List ((List Int)×Bool))×Int)->Option Out) (J:Arg) (dO:List Seen) (dC:List Seen) (dE:List ((List Int)×Row)) (d6:Int) (x_:(Unit)):Option Out:=l3 dC dE (dC.length:Int) (dO,([]:List ((List Int)×Bool)),(0:Int))
noncomputable def Q2 (k:Nat) (J:Arg) (dO:List Seen) (dC:List Seen) (dE:List ((List Int)×Row)) (d6:Int) (x_:(Unit)):Option Out:=q2 (r3 k J dO dC dE d6) J dO dC dE d6 x_
theorem vF (k:Nat) (J:Arg) (dO:List Seen) (dC:List Seen) (dE:List ((List Int)×Row)) (d6:Int) (x_:(Unit)):Ie (ap 5 (aU (D.N k [1,1,1,1,1]) D.K0)) J dO dC dE d6 x_=Q2 k J dO dC dE d6 x_:=
 Eq.trans (b:=q2 (s3 k J dO dC dE d6) J dO dC dE d6 x_) (by kernel_rfl) (by rw[Rm];rfl)
noncomputable def s2 (k:Nat) (J:Arg):(List Seen)->(List Seen)->(List ((List Int)×Row))->Int->(Int)->Option Out:=λdO dC dE d6=>λlJ=>D.L k [1,1,1,1,0,1,0,0] [4,5,6,81,82,83] [] (ap 5 (aU (D.N k [1,1,1,1,1]) D.K0)) (T2 J dO dC dE d6 lJ)
noncomputable def r2 (k:Nat) (J:Arg):(List Seen)->(List Seen)->(List ((List Int)×Row))->Int->(Int)->Option Out:=λdO dC dE d6=>aD (λw v=>B2 k w (Q2 k J dO dC dE d6) J dO dC dE d6 v) k
theorem vE (k:Nat) (J:Arg):s2 k J=r2 k J:=by
 funext dO;funext dC;funext dE;funext d6;funext lJ;
 have h5:Ie (ap 5 (aU (D.N k [1,1,1,1,1]) D.K0)) J dO dC dE d6=Q2 k J dO dC dE d6:=funext λz=>vF k J dO dC dE d6 z
 refine (aR _ _ _ (T2 J dO dC dE d6) (λself v=>B2 k self (Ie (ap 5 (aU (D.N k [1,1,1,1,1]) D.K0)) J dO dC dE d6) J dO dC dE d6 v) (λrec v=>Re k rec (ap 5 (aU (D.N k [1,1,1,1,1]) D.K0)) J dO dC dE d6 v) k lJ).trans ?_
 rw[h5]
 rfl
noncomputable def q1 (l2:(List Seen)->(List Seen)->(List ((List Int)×Row))->Int->(Int)->Option Out) (J:Arg) (qx:((List Seen)×(List Seen)×(List ((List Int)×Row)))):Option Out:=l2 qx.1 qx.2.1 qx.2.2 (qx.2.1.length:Int) (0:Int)
noncomputable def Q1 (k:Nat) (J:Arg) (qx:((List Seen)×(List Seen)×(List ((List Int)×Row)))):Option Out:=q1 (r2 k J) J qx
theorem rJ (k:Nat) (J:Arg) (qx:((List Seen)×(List Seen)×(List ((List Int)×Row)))):dn (ap 0 (aU (D.N k [1,1,1,1]) D.K0)) J qx=Q1 k J qx:=
 Eq.trans (b:=q1 (s2 k J) J qx) (by kernel_rfl) (by rw[vE];rfl)
noncomputable def s0 (k:Nat) (J:Arg):((List Seen)×(List Seen)×(List ((List Int)×Row))×(List (List UInt8))×Int×Int)->Option Out:=λab=>D.L k [1,1,1,0,1,0,0] [4,5,6,21,22,23] [] (ap 0 (aU (D.N k [1,1,1,1]) D.K0)) (T0 J ab)
noncomputable def r0 (k:Nat) (J:Arg):((List Seen)×(List Seen)×(List ((List Int)×Row))×(List (List UInt8))×Int×Int)->Option Out:=aD (λw v=>B0 k w (Q1 k J) J v) k
theorem aX (k:Nat) (J:Arg):s0 k J=r0 k J:=by
 funext ab;
 have h0:dn (ap 0 (aU (D.N k [1,1,1,1]) D.K0)) J=Q1 k J:=funext λz=>rJ k J z
 refine (aR _ _ _ (T0 J) (λself v=>B0 k self (dn (ap 0 (aU (D.N k [1,1,1,1]) D.K0)) J) J v) (λrec v=>ld k rec (ap 0 (aU (D.N k [1,1,1,1]) D.K0)) J v) k ab).trans ?_
 rw[h0]
 rfl
noncomputable def p (l0:((List Seen)×(List Seen)×(List ((List Int)×Row))×(List (List UInt8))×Int×Int)->Option Out) (J:Arg):Option Out:=l0 (([]:List Seen),([]:List Seen),([]:List ((List Int)×Row)),J.1,(J.1.length:Int),(0:Int))
theorem af (k:Nat) (J:Arg):@Eq (Option Out) (D.W k J) (p (r0 k J) J):=
 Eq.trans (b:=p (s0 k J) J) (by kernel_rfl) (by rw[aX])
theorem ok:Ok prog 128 D.sig:=ay func128 aI (by kernel_rfl) (fc dY.ok (fc bT.ok (fc cL.ok (fc d0.ok (fc fD.ok (fc iF.ok (an _)))))))
end aK
namespace cd
abbrev Arg:Type:=(List (List UInt8))×Unit
abbrev Out:Type:=(List Seen)×Int×Unit
abbrev ps:PQ:=[(.ro,(.ae (.ae u8)))]
noncomputable def D:FD:={ fn:=f52,tl:=bi,ps:=ps,rs:=[((.ae ct),(ak (.ae ct))),(i64,(aw i64))],gl:=[(123,az.D.sig),(124,bT.D.sig),(125,cL.D.sig),(126,d0.D.sig),(127,fD.D.sig),(128,aK.D.sig)],lv:=[(4,[0,11,12,13]),(10,[0,5,11,12,13,23,24])],lx:=[(0,[0]),(2,[0,11,12,13])] }
noncomputable def aa (a:Arg):Option Out:=@lift Out λk=>D.W k a
noncomputable def T0 (J:Arg) (ab:(List (List UInt8))×(List (List UInt8))×Int×Int):St:={ n:=44,sl:=[(0,.val (.ae (.ae u8)) ab.1),(11,.val (.ae (.ae u8)) ab.2.1),(12,.val i64 ab.2.2.1),(13,.val i64 ab.2.2.2)],vr:=[],aF:=[] }
noncomputable def S0 (rec:RT Out) (J:Arg):((List (List UInt8))×(List (List UInt8))×Int×Int)->Option Out:=λab=>rec (T0 J ab)
noncomputable def dn (K:KT Out) (J:Arg):(List (List UInt8))->Option Out:=λz=>K (.exit 0) ({ n:=44,sl:=[(0,.val (.ae (.ae u8)) z)],vr:=[],aF:=[] })
noncomputable def T1 (J:Arg) (dA:List (List UInt8)) (dc:List UInt8) (dB:List (List UInt8)) (dr:Int) (pG:Int) (pH:Int) (pI:Int):St:={ n:=44,sl:=[(0,.val (.ae (.ae u8)) dA),(5,.val (.ae u8) dc),(11,.val (.ae (.ae u8)) dB),(12,.val i64 dr),(13,.val i64 pG),(23,.val i64 pH),(24,.val i64 pI)],vr:=[],aF:=[] }
noncomputable def b1 (self:Int->Option Out) (e2:(Unit)->Option Out) (J:Arg) (dA:List (List UInt8)) (dc:List UInt8) (dB:List (List UInt8)) (dr:Int) (pG:Int) (pH:Int) (pI:Int):Option Out:=bif decide (pI < pH) then ((cL.aa (dc,pI,())).bind λiE=>bif iE.1 then ((fD.aa (dc,pI,())).bind λH9=>(d0.aa (H9.1,())).bind λRn=>bif !decide (Rn.1.1=(0:Int)) then (some (([]:List Seen),(5:Int),())) else self (ag (pI+(1:Int)))) else self (ag (pI+(1:Int)))) else e2 ()
noncomputable abbrev B1 (_:Nat):=b1
noncomputable def q0 (self:((List (List UInt8))×(List (List UInt8))×Int×Int)->Option Out) (e0:(List (List UInt8))->Option Out) (J:Arg) (dA:List (List UInt8)) (dc:List UInt8) (dB:List (List UInt8)) (dr:Int) (pG:Int) (pH:Int) (Da:(Unit)):Option Out:=self (dA,dB,dr,ag (pG+(1:Int)))
noncomputable abbrev Q0 (_:Nat):=q0
noncomputable def s1 (k:Nat) (rec:RT Out) (K:KT Out) (J:Arg):(List (List UInt8))->(List UInt8)->(List (List UInt8))->Int->Int->Int->(Int)->Option Out:=λdA dc dB dr pG pH=>λpI=>D.L k [1,1,0,1,0,0,1,1,0,0,1,1,1,0,0] [0,5,11,12,13,23,24] [] (ap 2 (ap 1 (aU (D.N k [1,1,0,1,0,0,1,1,1]) (gQ rec (eG [0,11,12,13] []) K)))) (T1 J dA dc dB dr pG pH pI)
noncomputable def r1 (k:Nat) (self:((List (List UInt8))×(List (List UInt8))×Int×Int)->Option Out) (e0:(List (List UInt8))->Option Out) (J:Arg):(List (List UInt8))->(List UInt8)->(List (List UInt8))->Int->Int->Int->(Int)->Option Out:=λdA dc dB dr pG pH=>aD (λw v=>B1 k w (Q0 k self e0 J dA dc dB dr pG pH) J dA dc dB dr pG pH v) k
theorem lc (k:Nat) (rec:RT Out) (K:KT Out) (J:Arg):s1 k rec K J=r1 k (S0 rec J) (dn K J) J:=
 funext λdA=>funext λdc=>funext λdB=>funext λdr=>funext λpG=>funext λpH=>funext λpI=>aR _ _ _ (T1 J dA dc dB dr pG pH) _ (λrec v=>by kernel_rfl) k pI
noncomputable def b0 (self:((List (List UInt8))×(List (List UInt8))×Int×Int)->Option Out) (e0:(List (List UInt8))->Option Out) (l1:(List (List UInt8))->(List UInt8)->(List (List UInt8))->Int->Int->Int->(Int)->Option Out) (J:Arg) (ab:(List (List UInt8))×(List (List UInt8))×Int×Int):Option Out:=bif decide (ab.2.2.2 < ab.2.2.1) then (if 0<=ab.2.2.2 then ((ab.2.1[ab.2.2.2.toNat]?).bind λeC=>(az.aa (eC,())).bind λft=>bif !decide (ft.1=(0:Int)) then (some (([]:List Seen),ft.1,())) else (bT.aa (eC,())).bind λlS=>l1 ab.1 eC ab.2.1 ab.2.2.1 ab.2.2.2 lS.1 (0:Int)) else none) else e0 ab.1
noncomputable def B0 (k:Nat) (self:((List (List UInt8))×(List (List UInt8))×Int×Int)->Option Out) (e0:(List (List UInt8))->Option Out) (J:Arg) (ab:(List (List UInt8))×(List (List UInt8))×Int×Int):Option Out:=b0 self e0 (r1 k self e0 J) J ab
theorem ld (k:Nat) (rec:RT Out) (K:KT Out) (J:Arg) (ab:(List (List UInt8))×(List (List UInt8))×Int×Int):D.N k [1,1,0,1,0,0] (T0 J ab) (gQ rec (eG [0,11,12,13] []) K)=B0 k (S0 rec J) (dn K J) J ab:=
 Eq.trans (b:=b0 (S0 rec J) (dn K J) (s1 k rec K J) J ab) (by kernel_rfl) (by rw[lc];rfl)
noncomputable def q1 (J:Arg) (tK:(List (List UInt8))):Option Out:=(aK.aa (tK,())).bind λM_=>some (M_.1,M_.2.1,())
noncomputable abbrev Q1 (_:Nat):=q1
theorem rJ (k:Nat) (J:Arg) (tK:(List (List UInt8))):dn (ap 0 (aU (D.N k [1,1,1]) D.K0)) J tK=q1 J tK:=by kernel_rfl
noncomputable def s0 (k:Nat) (J:Arg):((List (List UInt8))×(List (List UInt8))×Int×Int)->Option Out:=λab=>D.L k [1,1,0,1,0,0] [0,11,12,13] [] (ap 0 (aU (D.N k [1,1,1]) D.K0)) (T0 J ab)
noncomputable def r0 (k:Nat) (J:Arg):((List (List UInt8))×(List (List UInt8))×Int×Int)->Option Out:=aD (λw v=>B0 k w (Q1 k J) J v) k
theorem aX (k:Nat) (J:Arg):s0 k J=r0 k J:=by
 funext ab;
 have h0:dn (ap 0 (aU (D.N k [1,1,1]) D.K0)) J=Q1 k J:=funext λz=>rJ k J z
 refine (aR _ _ _ (T0 J) (λself v=>B0 k self (dn (ap 0 (aU (D.N k [1,1,1]) D.K0)) J) J v) (λrec v=>ld k rec (ap 0 (aU (D.N k [1,1,1]) D.K0)) J v) k ab).trans ?_
 rw[h0]
 rfl
noncomputable def p (l0:((List (List UInt8))×(List (List UInt8))×Int×Int)->Option Out) (J:Arg):Option Out:=bif decide ((12:Int) < (J.1.length:Int)) then (some (([]:List Seen),(2:Int),())) else l0 (J.1,J.1,(J.1.length:Int),(0:Int))
theorem af (k:Nat) (J:Arg):@Eq (Option Out) (D.W k J) (p (r0 k J) J):=
 Eq.trans (b:=p (s0 k J) J) (by kernel_rfl) (by rw[aX])
theorem ok:Ok prog 52 D.sig:=ay func52 aI (by kernel_rfl) (fc az.ok (fc bT.ok (fc cL.ok (fc d0.ok (fc fD.ok (fc aK.ok (an _)))))))
end cd
namespace fM
abbrev Arg:Type:=(List Seen)×Unit
abbrev Out:Type:=(List Row)×Unit
abbrev ps:PQ:=[(.ro,(.ae ct))]
noncomputable def D:FD:={ fn:=f55,tl:=bi,ps:=ps,rs:=[((.ae aE),(ak (.ae aE)))],lv:=[(3,[3,6,7,8])],lx:=[(0,[3])] }
noncomputable def aa (a:Arg):Option Out:=@lift Out λk=>D.W k a
noncomputable def T0 (J:Arg) (ab:(List Row)×Int):St:={ n:=19,sl:=[(3,.own (.ae aE) (ak (.ae aE)) [] ab.1),(6,.val (.ae ct) J.1),(7,.val i64 (J.1.length:Int)),(8,.val i64 ab.2)],vr:=[],aF:=[] }
noncomputable def b0 (self:((List Row)×Int)->Option Out) (e0:(List Row)->Option Out) (J:Arg) (ab:(List Row)×Int):Option Out:=bif decide (ab.2 < (J.1.length:Int)) then (if 0<=ab.2 then ((J.1[ab.2.toNat]?).bind λeC=>if ab.1.length+[eC.1].length<=cJ then (self (ab.1++[eC.1],ag (ab.2+(1:Int)))) else none) else none) else e0 ab.1
noncomputable abbrev B0 (_:Nat):=b0
noncomputable def q0 (J:Arg) (kQ:(List Row)):Option Out:=some (kQ,())
noncomputable abbrev Q0 (_:Nat):=q0
noncomputable def s0 (k:Nat) (J:Arg):((List Row)×Int)->Option Out:=λab=>D.L k [1,1,0,1,0,0] [3,6,7,8] [] (ap 0 (aU (D.N k [1,1,1]) D.K0)) (T0 J ab)
noncomputable def r0 (k:Nat) (J:Arg):((List Row)×Int)->Option Out:=aD (λw v=>B0 k w (Q0 k J) J v) k
theorem aX (k:Nat) (J:Arg):s0 k J=r0 k J:=
 funext λab=>aR _ _ _ (T0 J) _ (λrec v=>by kernel_rfl) k ab
noncomputable def p (l0:((List Row)×Int)->Option Out) (J:Arg):Option Out:=l0 (([]:List Row),(0:Int))
theorem af (k:Nat) (J:Arg):@Eq (Option Out) (D.W k J) (p (r0 k J) J):=
 Eq.trans (b:=p (s0 k J) J) (by kernel_rfl) (by rw[aX])
theorem ok:Ok prog 55 D.sig:=ay func55 aI (by kernel_rfl) (an _)
end fM
namespace cj
abbrev Arg:Type:=(List UInt8)×Unit
abbrev Out:Type:=(List UInt8)×Unit
abbrev ps:PQ:=[(.ro,(.ae u8))]
noncomputable def D:FD:={ fn:=f73,tl:=bi,ps:=ps,rs:=[((.ae u8),(ak (.ae u8)))] }
noncomputable def aa (a:Arg):Option Out:=@lift Out λk=>D.W k a
noncomputable def p (J:Arg):Option Out:=if ([]:List UInt8).length+J.1.length<=cJ then (some (([]:List UInt8)++J.1,())) else none
theorem af (k:Nat) (J:Arg):@Eq (Option Out) (D.W k J) (p J):=by kernel_rfl
theorem ok:Ok prog 73 D.sig:=ay func73 aI (by kernel_rfl) (an _)
end cj
namespace cD
abbrev Arg:Type:=(List (List UInt8))×Unit
abbrev Out:Type:=(List (List UInt8))×Unit
abbrev ps:PQ:=[(.ro,(.ae (.ae u8)))]
noncomputable def D:FD:={ fn:=f72,tl:=bi,ps:=ps,rs:=[((.ae (.ae u8)),(ak (.ae (.ae u8))))],gl:=[(73,cj.D.sig)],lv:=[(3,[3,6,7,8])],lx:=[(0,[3])] }
noncomputable def aa (a:Arg):Option Out:=@lift Out λk=>D.W k a
noncomputable def T0 (J:Arg) (ab:(List (List UInt8))×Int):St:={ n:=19,sl:=[(3,.own (.ae (.ae u8)) (ak (.ae (.ae u8))) [] ab.1),(6,.val (.ae (.ae u8)) J.1),(7,.val i64 (J.1.length:Int)),(8,.val i64 ab.2)],vr:=[],aF:=[] }
noncomputable def b0 (self:((List (List UInt8))×Int)->Option Out) (e0:(List (List UInt8))->Option Out) (J:Arg) (ab:(List (List UInt8))×Int):Option Out:=bif decide (ab.2 < (J.1.length:Int)) then (if 0<=ab.2 then ((J.1[ab.2.toNat]?).bind λeC=>(cj.aa (eC,())).bind λft=>if ab.1.length+[ft.1].length<=cJ then (self (ab.1++[ft.1],ag (ab.2+(1:Int)))) else none) else none) else e0 ab.1
noncomputable abbrev B0 (_:Nat):=b0
noncomputable def q0 (J:Arg) (jP:(List (List UInt8))):Option Out:=some (jP,())
noncomputable abbrev Q0 (_:Nat):=q0
noncomputable def s0 (k:Nat) (J:Arg):((List (List UInt8))×Int)->Option Out:=λab=>D.L k [1,1,0,1,0,0] [3,6,7,8] [] (ap 0 (aU (D.N k [1,1,1]) D.K0)) (T0 J ab)
noncomputable def r0 (k:Nat) (J:Arg):((List (List UInt8))×Int)->Option Out:=aD (λw v=>B0 k w (Q0 k J) J v) k
theorem aX (k:Nat) (J:Arg):s0 k J=r0 k J:=
 funext λab=>aR _ _ _ (T0 J) _ (λrec v=>by kernel_rfl) k ab
noncomputable def p (l0:((List (List UInt8))×Int)->Option Out) (J:Arg):Option Out:=l0 (([]:List (List UInt8)),(0:Int))
theorem af (k:Nat) (J:Arg):@Eq (Option Out) (D.W k J) (p (r0 k J) J):=
 Eq.trans (b:=p (s0 k J) J) (by kernel_rfl) (by rw[aX])
theorem ok:Ok prog 72 D.sig:=ay func72 aI (by kernel_rfl) (fc cj.ok (an _))
end cD
namespace kd
abbrev Arg:Type:=(List (List UInt8))×Unit
abbrev Out:Type:=am×Unit
abbrev ps:PQ:=[(.ro,(.ae (.ae u8)))]
noncomputable def D:FD:={ fn:=f56,tl:=bi,ps:=ps,rs:=[((.ptr bc),(ak (.ptr bc)))],gl:=[(72,cD.D.sig)] }
noncomputable def aa (a:Arg):Option Out:=@lift Out λk=>D.W k a
noncomputable def p (J:Arg):Option Out:=(cD.aa (J.1,())).bind λr2=>some ((r2.1,([]:List bW),()),())
theorem af (k:Nat) (J:Arg):@Eq (Option Out) (D.W k J) (p J):=by kernel_rfl
theorem ok:Ok prog 56 D.sig:=ay func56 aI (by kernel_rfl) (fc cD.ok (an _))
end kd
namespace iT
abbrev Arg:Type:=(List Seen)×Int×Int×Unit
abbrev Out:Type:=Seen×Bool×Unit
abbrev ps:PQ:=[(.ro,(.ae ct)),(.ro,i64),(.ro,i64)]
noncomputable def D:FD:={ fn:=f57,tl:=bi,ps:=ps,rs:=[(ct,(aw ct)),(.bool,(aw .bool))],lv:=[(2,[1,2,6,10,11,12])],lx:=[(0,[6])] }
noncomputable def aa (a:Arg):Option Out:=@lift Out λk=>D.W k a
noncomputable def T0 (J:Arg) (ab:Int):St:={ n:=31,sl:=[(1,.val i64 J.2.1),(2,.val i64 J.2.2.1),(6,.box ct (aw ct) [] (((0:Int),(0:Int),(0:Int),([]:List UInt8),()),(0:Int),(0:Int),false,(0:Int),(0:Int),())),(10,.val (.ae ct) J.1),(11,.val i64 (J.1.length:Int)),(12,.val i64 ab)],vr:=[],aF:=[] }
noncomputable def b0 (self:Int->Option Out) (e0:(Unit)->Option Out) (J:Arg) (ab:Int):Option Out:=bif decide (ab < (J.1.length:Int)) then (if 0<=ab then ((J.1[ab.toNat]?).bind λeC=>bif decide (eC.1.1=J.2.1) then (bif decide (eC.1.2.1=J.2.2.1) then (some (eC,true,())) else self (ag (ab+(1:Int)))) else self (ag (ab+(1:Int)))) else none) else e0 ()
noncomputable abbrev B0 (_:Nat):=b0
noncomputable def q0 (J:Arg) (kQ:(Unit)):Option Out:=some ((((0:Int),(0:Int),(0:Int),([]:List UInt8),()),(0:Int),(0:Int),false,(0:Int),(0:Int),()),false,())
noncomputable abbrev Q0 (_:Nat):=q0
noncomputable def s0 (k:Nat) (J:Arg):(Int)->Option Out:=λab=>D.L k [1,0,1,0,0] [1,2,6,10,11,12] [] (ap 0 (aU (D.N k [1,1]) D.K0)) (T0 J ab)
noncomputable def r0 (k:Nat) (J:Arg):(Int)->Option Out:=aD (λw v=>B0 k w (Q0 k J) J v) k
theorem aX (k:Nat) (J:Arg):s0 k J=r0 k J:=
 funext λab=>aR _ _ _ (T0 J) _ (λrec v=>by kernel_rfl) k ab
noncomputable def p (l0:(Int)->Option Out) (J:Arg):Option Out:=l0 (0:Int)
theorem af (k:Nat) (J:Arg):@Eq (Option Out) (D.W k J) (p (r0 k J) J):=
 Eq.trans (b:=p (s0 k J) J) (by kernel_rfl) (by rw[aX])
theorem ok:Ok prog 57 D.sig:=ay func57 aI (by kernel_rfl) (an _)
end iT
namespace eY
abbrev Arg:Type:=am×Unit
abbrev Out:Type:=bI×Unit
abbrev ps:PQ:=[(.jX (ak bc),bc)]
noncomputable def D:FD:={ fn:=f63,tl:=bi,ps:=ps,rs:=[(bd,(ak bd))],fz:=[(1,3,7),(1,7,7)],od:=[(1,[0,1,2,3,4,5,6,7,8,9])] }
noncomputable def aa (a:Arg):Option Out:=@lift Out λk=>D.W k a
noncomputable def p (J:Arg):Option Out:=some (((0:Int),J.1.2.1,J.1.1,()),())
theorem af (k:Nat) (J:Arg):@Eq (Option Out) (D.W k J) (p J):=by kernel_rfl
theorem ok:Ok prog 63 D.sig:=ay func63 aI (by kernel_rfl) (an _)
end eY
namespace f0
abbrev Arg:Type:=am×Bool×Unit
abbrev Out:Type:=bI×Unit
abbrev ps:PQ:=[(.jX (ak bc),bc),(.ro,.bool)]
noncomputable def D:FD:={ fn:=f59,tl:=bi,ps:=ps,rs:=[(bd,(ak bd))],gl:=[(63,eY.D.sig)] }
noncomputable def aa (a:Arg):Option Out:=@lift Out λk=>D.W k a
noncomputable def p (J:Arg):Option Out:=bif !J.2.1 then (some (((9:Int),([]:List bW),([]:List (List UInt8)),()),())) else (eY.aa (J.1,())).bind λr2=>some (r2.1,())
theorem af (k:Nat) (J:Arg):@Eq (Option Out) (D.W k J) (p J):=by kernel_rfl
theorem ok:Ok prog 59 D.sig:=ay func59 aI (by kernel_rfl) (fc eY.ok (an _))
end f0
namespace fw
abbrev Arg:Type:=(List UInt8)×(List UInt8)×Unit
abbrev Out:Type:=Int×Unit
abbrev ps:PQ:=[(.ro,(.ae u8)),(.ro,(.ae u8))]
noncomputable def D:FD:={ fn:=f216,tl:=bi,ps:=ps,rs:=[(i64,(aw i64))],gl:=[(123,az.D.sig)] }
noncomputable def aa (a:Arg):Option Out:=@lift Out λk=>D.W k a
noncomputable def p (J:Arg):Option Out:=(az.aa (J.1,())).bind λr2=>bif !decide (r2.1=(0:Int)) then (some (r2.1,())) else bif decide ((J.2.1.length:Int) < (1:Int)) then (some ((1:Int),())) else bif decide ((20:Int) < (J.2.1.length:Int)) then (some ((1:Int),())) else some ((0:Int),())
theorem af (k:Nat) (J:Arg):@Eq (Option Out) (D.W k J) (p J):=by kernel_rfl
theorem ok:Ok prog 216 D.sig:=ay func216 aI (by kernel_rfl) (fc az.ok (an _))
end fw
namespace ew
abbrev Arg:Type:=(List UInt8)×Unit
abbrev Out:Type:=Int×Unit
abbrev ps:PQ:=[(.ro,(.ae u8))]
noncomputable def D:FD:={ fn:=f217,tl:=bi,ps:=ps,rs:=[(i64,(aw i64))],gl:=[(124,bT.D.sig),(176,ff.D.sig)],lv:=[(3,[0,3,12,13])],lx:=[(0,[3])] }
noncomputable def aa (a:Arg):Option Out:=@lift Out λk=>D.W k a
noncomputable def T0 (J:Arg) (bG:Int) (bm:Int×Int):St:={ n:=27,sl:=[(0,.val (.ae u8) J.1),(3,.val i64 bm.1),(12,.val i64 bG),(13,.val i64 bm.2)],vr:=[],aF:=[] }
noncomputable def b0 (self:(Int×Int)->Option Out) (e0:Int->Option Out) (J:Arg) (bG:Int) (bm:Int×Int):Option Out:=bif decide (bm.2 < bG) then ((ff.aa (J.1,bm.2,())).bind λgN=>self (ag (bm.1 - gN.2.1),ag (bm.2+(1:Int)))) else e0 bm.1
noncomputable abbrev B0 (_:Nat):=b0
noncomputable def q0 (J:Arg) (bG:Int) (mS:Int):Option Out:=some (mS,())
noncomputable abbrev Q0 (_:Nat):=q0
noncomputable def s0 (k:Nat) (J:Arg):Int->(Int×Int)->Option Out:=λbG=>λbm=>D.L k [1,1,0,1,0,0] [0,3,12,13] [] (ap 0 (aU (D.N k [1,1,1]) D.K0)) (T0 J bG bm)
noncomputable def r0 (k:Nat) (J:Arg):Int->(Int×Int)->Option Out:=λbG=>aD (λw v=>B0 k w (Q0 k J bG) J bG v) k
theorem aX (k:Nat) (J:Arg):s0 k J=r0 k J:=
 funext λbG=>funext λbm=>aR _ _ _ (T0 J bG) _ (λrec v=>by kernel_rfl) k bm
noncomputable def p (l0:Int->(Int×Int)->Option Out) (J:Arg):Option Out:=(bT.aa (J.1,())).bind λr2=>(bT.aa (J.1,())).bind λr3=>l0 r3.1 (ag ((62:Int) - (ag ((2:Int)*r2.1))),(0:Int))
theorem af (k:Nat) (J:Arg):@Eq (Option Out) (D.W k J) (p (r0 k J) J):=
 Eq.trans (b:=p (s0 k J) J) (by kernel_rfl) (by rw[aX])
theorem ok:Ok prog 217 D.sig:=ay func217 aI (by kernel_rfl) (fc bT.ok (fc ff.ok (an _)))
end ew
namespace gF
abbrev Arg:Type:=(List UInt8)×Int×Int×(List UInt8)×Unit
abbrev Out:Type:=(List UInt8)×Unit
abbrev ps:PQ:=[(.ro,(.ae u8)),(.ro,i64),(.ro,i64),(.ro,(.ae u8))]
noncomputable def D:FD:={ fn:=f218,tl:=bi,ps:=ps,rs:=[((.ae u8),(ak (.ae u8)))],gl:=[(73,cj.D.sig)] }
noncomputable def aa (a:Arg):Option Out:=@lift Out λk=>D.W k a
noncomputable def p (J:Arg):Option Out:=(cj.aa (J.1,())).bind λr2=>if 0<=J.2.2.1/\J.2.2.1<=(r2.1.length:Int) then (let y3:=jc r2.1 J.2.2.1.toNat (min J.2.2.2.1.length (r2.1.length - J.2.2.1.toNat)) J.2.2.2.1;if 0<=ag ((2:Int)+(ag ((2:Int)*J.2.1)))/\ag ((2:Int)+(ag ((2:Int)*J.2.1))) < (y3.length:Int) then ((y3[(ag ((2:Int)+(ag ((2:Int)*J.2.1)))).toNat]?).bind λx4=>let y5:=y3.set (ag ((2:Int)+(ag ((2:Int)*J.2.1)))).toNat (UInt8.ofInt J.2.2.1);if 0<=ag ((3:Int)+(ag ((2:Int)*J.2.1)))/\ag ((3:Int)+(ag ((2:Int)*J.2.1))) < (y5.length:Int) then ((y5[(ag ((3:Int)+(ag ((2:Int)*J.2.1)))).toNat]?).bind λx6=>let y7:=y5.set (ag ((3:Int)+(ag ((2:Int)*J.2.1)))).toNat (UInt8.ofInt (J.2.2.2.1.length:Int));some (y7,())) else none) else none) else none
theorem af (k:Nat) (J:Arg):@Eq (Option Out) (D.W k J) (p J):=by kernel_rfl
theorem ok:Ok prog 218 D.sig:=ay func218 aI (by kernel_rfl) (fc cj.ok (an _))
end gF
namespace cM
abbrev Arg:Type:=(List UInt8)×(List UInt8)×Unit
abbrev Out:Type:=pz×Unit
abbrev ps:PQ:=[(.ro,(.ae u8)),(.ro,(.ae u8))]
noncomputable def D:FD:={ fn:=f179,tl:=bi,ps:=ps,rs:=[(eX,(ak eX))],gl:=[(124,bT.D.sig),(216,fw.D.sig),(217,ew.D.sig),(218,gF.D.sig)],lv:=[(6,[0,1,4,6,7])],lx:=[(0,[0,1,4,6,7])] }
noncomputable def aa (a:Arg):Option Out:=@lift Out λk=>D.W k a
noncomputable def T0 (J:Arg) (bG:Int) (bm:Int):St:={ n:=88,sl:=[(0,.val (.ae u8) J.1),(1,.val (.ae u8) J.2.1),(4,.box eX (ak eX) [] ((0:Int),(0:Int),([]:List UInt8),())),(6,.val i64 bG),(7,.val i64 bm)],vr:=[],aF:=[] }
noncomputable def b0 (self:Int->Option Out) (e0:Int->Option Out) (J:Arg) (bG:Int) (bm:Int):Option Out:=bif decide (bm < bG) then (if 0<=ag ((3:Int)+(ag ((2:Int)*bm))) then ((J.1[(ag ((3:Int)+(ag ((2:Int)*bm)))).toNat]?).bind λsJ=>bif !decide ((sJ.toNat:Int)=(0:Int)) then (self (ag (bm+(1:Int)))) else e0 bm) else none) else e0 bm
noncomputable abbrev B0 (_:Nat):=b0
noncomputable def q0 (J:Arg) (bG:Int) (mS:Int):Option Out:=let PH:=λ(Ls:Int)=>((ew.aa (J.1,())).bind λzb=>bif decide (zb.1 < ag ((J.2.1.length:Int)+Ls)) then (some (((9:Int),(0:Int),([]:List UInt8),()),())) else (J.1[1]?).bind λBz=>bif decide (ag ((ag (Bz.toNat:Int)) - (ag ((ag ((2:Int)+(ag ((2:Int)*bG))))+Ls))) < (J.2.1.length:Int)) then (some (((8:Int),(0:Int),([]:List UInt8),()),())) else (gF.aa (J.1,mS,ag ((ag (Bz.toNat:Int)) - (J.2.1.length:Int)),J.2.1,())).bind λmT=>if 0<=(0:Int)/\(0:Int) < (mT.1.length:Int) then ((mT.1[0]?).bind λPy=>let zd:=mT.1.set 0 (UInt8.ofInt (ag (bG+(ag (Ls.tdiv (2:Int))))));if 0<=(1:Int)/\(1:Int) < (zd.length:Int) then ((zd[1]?).bind λTs=>let Lt:=zd.set 1 (UInt8.ofInt (ag ((ag (Bz.toNat:Int)) - (J.2.1.length:Int))));some (((0:Int),mS,Lt,()),())) else none) else none:Option Out);bif decide (mS=bG) then (bif decide (bG=(16:Int)) then (some (((2:Int),(0:Int),([]:List UInt8),()),())) else PH (2:Int)) else PH (0:Int)
noncomputable abbrev Q0 (_:Nat):=q0
noncomputable def s0 (k:Nat) (J:Arg):Int->(Int)->Option Out:=λbG=>λbm=>D.L k [1,1,1,1,0,0,0] [0,1,4,6,7] [] (ap 0 (aU (D.N k [1,1,1,1,1]) D.K0)) (T0 J bG bm)
noncomputable def r0 (k:Nat) (J:Arg):Int->(Int)->Option Out:=λbG=>aD (λw v=>B0 k w (Q0 k J bG) J bG v) k
theorem aX (k:Nat) (J:Arg):s0 k J=r0 k J:=
 funext λbG=>funext λbm=>aR _ _ _ (T0 J bG) _ (λrec v=>by kernel_rfl) k bm
noncomputable def p (l0:Int->(Int)->Option Out) (J:Arg):Option Out:=(fw.aa (J.1,J.2.1,())).bind λr2=>bif !decide (r2.1=(0:Int)) then (some ((r2.1,(0:Int),([]:List UInt8),()),())) else (bT.aa (J.1,())).bind λr3=>l0 r3.1 (0:Int)
theorem af (k:Nat) (J:Arg):@Eq (Option Out) (D.W k J) (p (r0 k J) J):=
 Eq.trans (b:=p (s0 k J) J) (by kernel_rfl) (by rw[aX])
theorem ok:Ok prog 179 D.sig:=ay func179 aI (by kernel_rfl) (fc bT.ok (fc fw.ok (fc ew.ok (fc gF.ok (an _)))))
end cM
namespace co
abbrev Arg:Type:=am×Int×(List UInt8)×Unit
abbrev Out:Type:=am×Unit
abbrev ps:PQ:=[(.cZ (ak bc) (ak bc),bc),(.ro,i64),(.ro,(.ae u8))]
noncomputable def D:FD:={ fn:=f181,tl:=bi,ps:=ps,rs:=[],gl:=[(73,cj.D.sig)],es:=[0],od:=[(1,[0,1,2,3,4,5,6,7,8,9,10,11]),(2,[0,1,2,3,4,5,6,7,8,9,10]),(3,[0,1,2,3,4,5,6,7,8]),(4,[0,1,2,3,4,5,6,7,8,9,10,11,12,13])] }
noncomputable def aa (a:Arg):Option Out:=@lift Out λk=>D.W k a
noncomputable def p (J:Arg):Option Out:=let j9:=λ(p8:am)=>((cj.aa (J.2.2.1,())).bind λpA=>if p8.2.1.length+[(J.2.1,pA.1,())].length<=cJ then (some ((p8.1,p8.2.1++[(J.2.1,pA.1,())],p8.2.2),())) else none:Option Out);bif decide (J.2.1=(J.1.1.length:Int)) then ((cj.aa (J.2.2.1,())).bind λr2=>if J.1.1.length+[r2.1].length<=cJ then (j9 (J.1.1++[r2.1],J.1.2)) else none) else if 0<=J.2.1/\J.2.1 < (J.1.1.length:Int) then ((J.1.1[J.2.1.toNat]?).bind λx3=>(J.1.1[J.2.1.toNat]?).bind λx4=>bif decide (x4=J.2.2.1) then (some (J.1,())) else (cj.aa (J.2.2.1,())).bind λr5=>if 0<=J.2.1/\J.2.1 < (J.1.1.length:Int) then ((J.1.1[J.2.1.toNat]?).bind λx6=>j9 (J.1.1.set J.2.1.toNat r5.1,J.1.2)) else none) else none
theorem af (k:Nat) (J:Arg):@Eq (Option Out) (D.W k J) (p J):=by kernel_rfl
theorem ok:Ok prog 181 D.sig:=ay func181 aI (by kernel_rfl) (fc cj.ok (an _))
end co
namespace cH
abbrev Arg:Type:=(List UInt8)×Unit
abbrev Out:Type:=pz×Unit
abbrev ps:PQ:=[(.ro,(.ae u8))]
noncomputable def D:FD:={ fn:=f219,tl:=bi,ps:=ps,rs:=[(eX,(ak eX))],gl:=[(123,az.D.sig),(124,bT.D.sig),(125,cL.D.sig),(127,fD.D.sig)],lv:=[(9,[0,2,5,6,25,26])],lx:=[(0,[2,5,6]),(1,[0,2,5,6,25,26])] }
noncomputable def aa (a:Arg):Option Out:=@lift Out λk=>D.W k a
noncomputable def T0 (J:Arg) (aZ:Int) (aG:(List UInt8)×Int×Int):St:={ n:=59,sl:=[(0,.val (.ae u8) J.1),(2,.box eX (ak eX) [] ((0:Int),(0:Int),([]:List UInt8),())),(5,.own (.ae u8) (ak (.ae u8)) [] aG.1),(6,.val i64 aG.2.1),(25,.val i64 aZ),(26,.val i64 aG.2.2)],vr:=[],aF:=[] }
noncomputable def b0 (self:((List UInt8)×Int×Int)->Option Out) (e0:((List UInt8)×Int)->Option Out) (J:Arg) (aZ:Int) (aG:(List UInt8)×Int×Int):Option Out:=bif decide (aG.2.2 < aZ) then ((cL.aa (J.1,aG.2.2,())).bind λfu=>bif !fu.1 then (self (aG.1,aG.2.1,ag (aG.2.2+(1:Int)))) else (fD.aa (J.1,aG.2.2,())).bind λjQ=>if 0<=ag (aG.2.1 - (jQ.1.length:Int))/\ag (aG.2.1 - (jQ.1.length:Int))<=(aG.1.length:Int) then (let Lu:=jc aG.1 (ag (aG.2.1 - (jQ.1.length:Int))).toNat (min jQ.1.length (aG.1.length - (ag (aG.2.1 - (jQ.1.length:Int))).toNat)) jQ.1;if 0<=ag ((2:Int)+(ag ((2:Int)*aG.2.2)))/\ag ((2:Int)+(ag ((2:Int)*aG.2.2))) < (Lu.length:Int) then ((Lu[(ag ((2:Int)+(ag ((2:Int)*aG.2.2)))).toNat]?).bind λLr=>let Tt:=Lu.set (ag ((2:Int)+(ag ((2:Int)*aG.2.2)))).toNat (UInt8.ofInt (ag (aG.2.1 - (jQ.1.length:Int))));self (Tt,ag (aG.2.1 - (jQ.1.length:Int)),ag (aG.2.2+(1:Int)))) else none) else none) else e0 (aG.1,aG.2.1)
noncomputable abbrev B0 (_:Nat):=b0
noncomputable def q0 (J:Arg) (aZ:Int) (Ih:((List UInt8)×Int)):Option Out:=if 0<=(1:Int)/\(1:Int) < (Ih.1.length:Int) then ((Ih.1[1]?).bind λLq=>some (((0:Int),(0:Int),Ih.1.set 1 (UInt8.ofInt Ih.2),()),())) else none
noncomputable abbrev Q0 (_:Nat):=q0
noncomputable def s0 (k:Nat) (J:Arg):Int->((List UInt8)×Int×Int)->Option Out:=λaZ=>λaG=>D.L k [1,1,1,1,1,1,0,1,0,0] [0,2,5,6,25,26] [] (ap 0 (aU (D.N k [1,1,1,1,1,1,1]) D.K0)) (T0 J aZ aG)
noncomputable def r0 (k:Nat) (J:Arg):Int->((List UInt8)×Int×Int)->Option Out:=λaZ=>aD (λw v=>B0 k w (Q0 k J aZ) J aZ v) k
theorem aX (k:Nat) (J:Arg):s0 k J=r0 k J:=
 funext λaZ=>funext λaG=>aR _ _ _ (T0 J aZ) _ (λrec v=>by kernel_rfl) k aG
noncomputable def p (l0:Int->((List UInt8)×Int×Int)->Option Out) (J:Arg):Option Out:=(az.aa (J.1,())).bind λr2=>bif !decide (r2.1=(0:Int)) then (some ((r2.1,(0:Int),([]:List UInt8),()),())) else (bT.aa (J.1,())).bind λr3=>if 0<=(64:Int)/\(64:Int)<=(64:Int)/\(64:Int)<=(cJ:Int) then (if 0<=ag ((2:Int)+(ag ((2:Int)*r3.1)))/\ag ((2:Int)+(ag ((2:Int)*r3.1)))<=(J.1.length:Int) then (let y4:=jc (List.replicate 64 (0:UInt8)) 0 (min ((J.1.take (ag ((2:Int)+(ag ((2:Int)*r3.1)))).toNat).drop 0).length (List.replicate 64 (0:UInt8)).length) ((J.1.take (ag ((2:Int)+(ag ((2:Int)*r3.1)))).toNat).drop 0);l0 r3.1 (y4,(64:Int),(0:Int))) else none) else none
theorem af (k:Nat) (J:Arg):@Eq (Option Out) (D.W k J) (p (r0 k J) J):=
 Eq.trans (b:=p (s0 k J) J) (by kernel_rfl) (by rw[aX])
theorem ok:Ok prog 219 D.sig:=ay func219 aI (by kernel_rfl) (fc az.ok (fc bT.ok (fc cL.ok (fc fD.ok (an _)))))
end cH
namespace dL
abbrev Arg:Type:=am×Int×Unit
abbrev Out:Type:=am×Unit
abbrev ps:PQ:=[(.cZ (ak bc) (ak bc),bc),(.ro,i64)]
noncomputable def D:FD:={ fn:=f180,tl:=bi,ps:=ps,rs:=[],gl:=[(181,co.D.sig),(219,cH.D.sig)],es:=[0] }
noncomputable def aa (a:Arg):Option Out:=@lift Out λk=>D.W k a
noncomputable def p (J:Arg):Option Out:=if 0<=J.2.1/\J.2.1 < (J.1.1.length:Int) then ((J.1.1[J.2.1.toNat]?).bind λx2=>(J.1.1[J.2.1.toNat]?).bind λx3=>(cH.aa (x3,())).bind λr4=>(co.aa (J.1,J.2.1,r4.1.2.2.1,())).bind λr5=>some (r5.1,())) else none
theorem af (k:Nat) (J:Arg):@Eq (Option Out) (D.W k J) (p J):=by kernel_rfl
theorem ok:Ok prog 180 D.sig:=ay func180 aI (by kernel_rfl) (fc co.ok (fc cH.ok (an _)))
end dL
namespace fx
abbrev Arg:Type:=UInt8×Unit
abbrev Out:Type:=(List UInt8)×Unit
abbrev ps:PQ:=[(.ro,u8)]
noncomputable def D:FD:={ fn:=f182,tl:=bi,ps:=ps,rs:=[((.ae u8),(ak (.ae u8)))],lv:=[(3,[0,3,7,8])],lx:=[(0,[3])] }
noncomputable def aa (a:Arg):Option Out:=@lift Out λk=>D.W k a
noncomputable def T0 (J:Arg) (ab:(List UInt8)×Int):St:={ n:=21,sl:=[(0,.val u8 J.1),(3,.own (.ae u8) (ak (.ae u8)) [] ab.1),(7,.val i64 ((List.replicate 64 (0:UInt8)).length:Int)),(8,.val i64 ab.2)],vr:=[],aF:=[] }
noncomputable def b0 (self:((List UInt8)×Int)->Option Out) (e0:(List UInt8)->Option Out) (J:Arg) (ab:(List UInt8)×Int):Option Out:=bif decide (ab.2 < ((List.replicate 64 (0:UInt8)).length:Int)) then (if 0<=ab.2/\ab.2 < (ab.1.length:Int) then ((ab.1[ab.2.toNat]?).bind λeC=>self (ab.1.set ab.2.toNat J.1,ag (ab.2+(1:Int)))) else none) else e0 ab.1
noncomputable abbrev B0 (_:Nat):=b0
noncomputable def q0 (J:Arg) (kQ:(List UInt8)):Option Out:=if 0<=(0:Int)/\(0:Int) < (kQ.length:Int) then ((kQ[0]?).bind λfH=>if 0<=(1:Int)/\(1:Int) < ((kQ.set 0 (0:UInt8)).length:Int) then (((kQ.set 0 (0:UInt8))[1]?).bind λsJ=>let Er:=(kQ.set 0 (0:UInt8)).set 1 (64:UInt8);some (Er,())) else none) else none
noncomputable abbrev Q0 (_:Nat):=q0
noncomputable def s0 (k:Nat) (J:Arg):((List UInt8)×Int)->Option Out:=λab=>D.L k [1,1,0,1,0,0] [0,3,7,8] [] (ap 0 (aU (D.N k [1,1,1]) D.K0)) (T0 J ab)
noncomputable def r0 (k:Nat) (J:Arg):((List UInt8)×Int)->Option Out:=aD (λw v=>B0 k w (Q0 k J) J v) k
theorem aX (k:Nat) (J:Arg):s0 k J=r0 k J:=
 funext λab=>aR _ _ _ (T0 J) _ (λrec v=>by kernel_rfl) k ab
noncomputable def p (l0:((List UInt8)×Int)->Option Out) (J:Arg):Option Out:=if 0<=(64:Int)/\(64:Int)<=(64:Int)/\(64:Int)<=(cJ:Int) then (l0 (List.replicate 64 (0:UInt8),(0:Int))) else none
theorem af (k:Nat) (J:Arg):@Eq (Option Out) (D.W k J) (p (r0 k J) J):=
 Eq.trans (b:=p (s0 k J) J) (by kernel_rfl) (by rw[aX])
theorem ok:Ok prog 182 D.sig:=ay func182 aI (by kernel_rfl) (an _)
end fx
namespace cm
abbrev Arg:Type:=am×(List UInt8)×Int×Unit
abbrev Out:Type:=Int×Int×Bool×am×Unit
abbrev ps:PQ:=[(.cZ (ak bc) (ak bc),bc),(.ro,(.ae u8)),(.ro,i64)]
noncomputable def D:FD:={ fn:=f131,tl:=bi,ps:=ps,rs:=[(i64,(aw i64)),(i64,(aw i64)),(.bool,(aw .bool))],gl:=[(179,cM.D.sig),(180,dL.D.sig),(181,co.D.sig),(182,fx.D.sig)],es:=[0],lv:=[(2,[0,1,2,16,17])],lx:=[(0,[0,1]),(1,[0,1,2,16,17])],od:=[(11,[0,1,2,3,4,5]),(16,[0,1,2,3,4,5,6,7,8]),(17,[0,1,2,3,4,5,6,7,8,9,10])] }
noncomputable def aa (a:Arg):Option Out:=@lift Out λk=>D.W k a
noncomputable def T0 (J:Arg) (ab:am×Int):St:={ n:=85,sl:=[(0,.box bc (ak bc) [] ab.1),(1,.val (.ae u8) J.2.1),(2,.val i64 J.2.2.1),(16,.val i64 (J.1.1.length:Int)),(17,.val i64 ab.2)],vr:=[],aF:=[(0,0,false)] }
noncomputable def b0 (self:(am×Int)->Option Out) (e0:am->Option Out) (J:Arg) (ab:am×Int):Option Out:=bif decide (ab.2 < (J.1.1.length:Int)) then (bif decide (ab.2=J.2.2.1) then (self (ab.1,ag (ab.2+(1:Int)))) else if 0<=ab.2/\ab.2 < (ab.1.1.length:Int) then ((ab.1.1[ab.2.toNat]?).bind λeC=>(ab.1.1[ab.2.toNat]?).bind λkB=>(cM.aa (kB,J.2.1,())).bind λlS=>let PI:=λ(PJ:am) (Lv:pz)=>(bif decide (Lv.1=(0:Int)) then ((co.aa (PJ,ab.2,Lv.2.2.1,())).bind λsL=>some (ab.2,Lv.2.1,true,sL.1,())) else self (PJ,ag (ab.2+(1:Int))):Option Out);bif decide (lS.1.1=(8:Int)) then ((dL.aa (ab.1,ab.2,())).bind λgN=>if 0<=ab.2/\ab.2 < (gN.1.1.length:Int) then ((gN.1.1[ab.2.toNat]?).bind λHW=>(gN.1.1[ab.2.toNat]?).bind λHX=>(cM.aa (HX,J.2.1,())).bind λsM=>PI gN.1 sM.1) else none) else PI ab.1 lS.1) else none) else e0 ab.1
noncomputable abbrev B0 (_:Nat):=b0
noncomputable def q0 (J:Arg) (Ii:am):Option Out:=bif decide ((Ii.1.length:Int)=(12:Int)) then (some ((0:Int),(0:Int),false,Ii,())) else (fx.aa ((0:UInt8),())).bind λBy=>(cM.aa (By.1,J.2.1,())).bind λzb=>(co.aa (Ii,(Ii.1.length:Int),zb.1.2.2.1,())).bind λPK=>some (ag ((PK.1.1.length:Int) - (1:Int)),zb.1.2.1,true,PK.1,())
noncomputable abbrev Q0 (_:Nat):=q0
noncomputable def s0 (k:Nat) (J:Arg):(am×Int)->Option Out:=λab=>D.L k [1,0,1,0,0] [0,1,2,16,17] [] (ap 0 (aU (D.N k [1,1]) D.K0)) (T0 J ab)
noncomputable def r0 (k:Nat) (J:Arg):(am×Int)->Option Out:=aD (λw v=>B0 k w (Q0 k J) J v) k
theorem aX (k:Nat) (J:Arg):s0 k J=r0 k J:=
 funext λab=>aR _ _ _ (T0 J) _ (λrec v=>by kernel_rfl) k ab
noncomputable def p (l0:(am×Int)->Option Out) (J:Arg):Option Out:=l0 (J.1,(0:Int))
theorem af (k:Nat) (J:Arg):@Eq (Option Out) (D.W k J) (p (r0 k J) J):=
 Eq.trans (b:=p (s0 k J) J) (by kernel_rfl) (by rw[aX])
theorem ok:Ok prog 131 D.sig:=ay func131 aI (by kernel_rfl) (fc cM.ok (fc dL.ok (fc co.ok (fc fx.ok (an _)))))
end cm
namespace gK
abbrev Arg:Type:=Int×Row×Unit
abbrev Out:Type:=(List UInt8)×Unit
abbrev ps:PQ:=[(.ro,i64),(.ro,aE)]
noncomputable def D:FD:={ fn:=f132,tl:=bi,ps:=ps,rs:=[((.ae u8),(ak (.ae u8)))] }
noncomputable def aa (a:Arg):Option Out:=@lift Out λk=>D.W k a
noncomputable def p (J:Arg):Option Out:=if [UInt8.ofInt J.1,UInt8.ofInt J.2.1.1,UInt8.ofInt J.2.1.2.1,UInt8.ofInt (J.2.1.2.2.1.fdiv (2 ^ 8)),UInt8.ofInt J.2.1.2.2.1,UInt8.ofInt (J.2.1.2.2.2.1.length:Int)].length+J.2.1.2.2.2.1.length<=cJ then (let y2:=[UInt8.ofInt J.1,UInt8.ofInt J.2.1.1,UInt8.ofInt J.2.1.2.1,UInt8.ofInt (J.2.1.2.2.1.fdiv (2 ^ 8)),UInt8.ofInt J.2.1.2.2.1,UInt8.ofInt (J.2.1.2.2.2.1.length:Int)]++J.2.1.2.2.2.1;some (y2,())) else none
theorem af (k:Nat) (J:Arg):@Eq (Option Out) (D.W k J) (p J):=by kernel_rfl
theorem ok:Ok prog 132 D.sig:=ay func132 aI (by kernel_rfl) (an _)
end gK
namespace gZ
abbrev Arg:Type:=am×Row×Unit
abbrev Out:Type:=Bool×am×Unit
abbrev ps:PQ:=[(.cZ (ak bc) (ak bc),bc),(.ro,aE)]
noncomputable def D:FD:={ fn:=f60,tl:=bi,ps:=ps,rs:=[(.bool,(aw .bool))],gl:=[(131,cm.D.sig),(132,gK.D.sig)],es:=[0] }
noncomputable def aa (a:Arg):Option Out:=@lift Out λk=>D.W k a
noncomputable def p (J:Arg):Option Out:=(gK.aa ((0:Int),J.2.1,())).bind λr2=>(cm.aa (J.1,r2.1,(-1:Int),())).bind λr3=>some (r3.2.2.1,r3.2.2.2.1,())
theorem af (k:Nat) (J:Arg):@Eq (Option Out) (D.W k J) (p J):=by kernel_rfl
theorem ok:Ok prog 60 D.sig:=ay func60 aI (by kernel_rfl) (fc cm.ok (fc gK.ok (an _)))
end gZ
namespace iH
abbrev Arg:Type:=(List UInt8)×Int×(List UInt8)×Unit
abbrev Out:Type:=pz×Unit
abbrev ps:PQ:=[(.ro,(.ae u8)),(.ro,i64),(.ro,(.ae u8))]
noncomputable def D:FD:={ fn:=f183,tl:=bi,ps:=ps,rs:=[(eX,(ak eX))],gl:=[(124,bT.D.sig),(125,cL.D.sig),(176,ff.D.sig),(216,fw.D.sig),(217,ew.D.sig),(218,gF.D.sig)] }
noncomputable def aa (a:Arg):Option Out:=@lift Out λk=>D.W k a
noncomputable def p (J:Arg):Option Out:=(fw.aa (J.1,J.2.2.1,())).bind λr2=>bif !decide (r2.1=(0:Int)) then (some ((r2.1,(0:Int),([]:List UInt8),()),())) else (cL.aa (J.1,J.2.1,())).bind λr3=>bif !r3.1 then (some (((4:Int),(0:Int),([]:List UInt8),()),())) else (ff.aa (J.1,J.2.1,())).bind λr4=>bif decide ((J.2.2.1.length:Int)<=r4.2.1) then ((gF.aa (J.1,J.2.1,ag ((ag (r4.1+r4.2.1)) - (J.2.2.1.length:Int)),J.2.2.1,())).bind λr5=>some (((0:Int),J.2.1,r5.1,()),())) else (ew.aa (J.1,())).bind λr6=>bif decide (ag (r6.1+r4.2.1) < (J.2.2.1.length:Int)) then (some (((9:Int),(0:Int),([]:List UInt8),()),())) else (J.1[1]?).bind λx7=>(bT.aa (J.1,())).bind λr8=>bif decide (ag ((ag (x7.toNat:Int)) - (ag ((2:Int)+(ag ((2:Int)*r8.1))))) < (J.2.2.1.length:Int)) then (some (((8:Int),(0:Int),([]:List UInt8),()),())) else (gF.aa (J.1,J.2.1,ag ((ag (x7.toNat:Int)) - (J.2.2.1.length:Int)),J.2.2.1,())).bind λr9=>if 0<=(1:Int)/\(1:Int) < (r9.1.length:Int) then ((r9.1[1]?).bind λGF=>let Vo:=r9.1.set 1 (UInt8.ofInt (ag ((ag (x7.toNat:Int)) - (J.2.2.1.length:Int))));some (((0:Int),J.2.1,Vo,()),())) else none
theorem af (k:Nat) (J:Arg):@Eq (Option Out) (D.W k J) (p J):=by kernel_rfl
theorem ok:Ok prog 183 D.sig:=ay func183 aI (by kernel_rfl) (fc bT.ok (fc cL.ok (fc ff.ok (fc fw.ok (fc ew.ok (fc gF.ok (an _)))))))
end iH
namespace fy
abbrev Arg:Type:=am×Int×Int×(List UInt8)×Unit
abbrev Out:Type:=Bool×am×Unit
abbrev ps:PQ:=[(.cZ (ak bc) (ak bc),bc),(.ro,i64),(.ro,i64),(.ro,(.ae u8))]
noncomputable def D:FD:={ fn:=f133,tl:=bi,ps:=ps,rs:=[(.bool,(aw .bool))],gl:=[(180,dL.D.sig),(181,co.D.sig),(183,iH.D.sig)],es:=[0] }
noncomputable def aa (a:Arg):Option Out:=@lift Out λk=>D.W k a
noncomputable def p (J:Arg):Option Out:=if 0<=J.2.1/\J.2.1 < (J.1.1.length:Int) then ((J.1.1[J.2.1.toNat]?).bind λx2=>(J.1.1[J.2.1.toNat]?).bind λx3=>(iH.aa (x3,J.2.2.1,J.2.2.2.1,())).bind λr4=>bif decide (r4.1.1=(8:Int)) then ((dL.aa (J.1,J.2.1,())).bind λr5=>if 0<=J.2.1/\J.2.1 < (r5.1.1.length:Int) then ((r5.1.1[J.2.1.toNat]?).bind λx6=>(r5.1.1[J.2.1.toNat]?).bind λx7=>(iH.aa (x7,J.2.2.1,J.2.2.2.1,())).bind λr8=>bif !decide (r8.1.1=(0:Int)) then (some (false,r5.1,())) else (co.aa (r5.1,J.2.1,r8.1.2.2.1,())).bind λpA=>some (true,pA.1,())) else none) else bif !decide (r4.1.1=(0:Int)) then (some (false,J.1,())) else (co.aa (J.1,J.2.1,r4.1.2.2.1,())).bind λk_=>some (true,k_.1,())) else none
theorem af (k:Nat) (J:Arg):@Eq (Option Out) (D.W k J) (p J):=by kernel_rfl
theorem ok:Ok prog 133 D.sig:=ay func133 aI (by kernel_rfl) (fc dL.ok (fc co.ok (fc iH.ok (an _))))
end fy
namespace l6
abbrev Arg:Type:=Int×Int×Unit
abbrev Out:Type:=(List UInt8)×Unit
abbrev ps:PQ:=[(.ro,i64),(.ro,i64)]
noncomputable def D:FD:={ fn:=f134,tl:=bi,ps:=ps,rs:=[((.ae u8),(ak (.ae u8)))] }
noncomputable def aa (a:Arg):Option Out:=@lift Out λk=>D.W k a
noncomputable def p (J:Arg):Option Out:=some ([(1:UInt8),UInt8.ofInt J.1,UInt8.ofInt J.2.1],())
theorem af (k:Nat) (J:Arg):@Eq (Option Out) (D.W k J) (p J):=by kernel_rfl
theorem ok:Ok prog 134 D.sig:=ay func134 aI (by kernel_rfl) (an _)
end l6
namespace gA
abbrev Arg:Type:=(List UInt8)×Int×Unit
abbrev Out:Type:=pz×Unit
abbrev ps:PQ:=[(.ro,(.ae u8)),(.ro,i64)]
noncomputable def D:FD:={ fn:=f184,tl:=bi,ps:=ps,rs:=[(eX,(ak eX))],gl:=[(73,cj.D.sig),(123,az.D.sig),(125,cL.D.sig)],lv:=[(9,[1,4,6])],lx:=[(0,[1,4,6])] }
noncomputable def aa (a:Arg):Option Out:=@lift Out λk=>D.W k a
noncomputable def T0 (J:Arg) (mn:List UInt8):St:={ n:=54,sl:=[(1,.val i64 J.2.1),(4,.box eX (ak eX) [] ((0:Int),(0:Int),([]:List UInt8),())),(6,.own (.ae u8) (ak (.ae u8)) [] mn)],vr:=[],aF:=[] }
noncomputable def b0 (self:(List UInt8)->Option Out) (e0:(List UInt8)->Option Out) (J:Arg) (mn:List UInt8):Option Out:=if 0<=(0:Int)/\(0:Int) < (mn.length:Int) then ((mn[0]?).bind λLr=>bif decide ((0:Int) < (Lr.toNat:Int)) then (if 0<=(0:Int)/\(0:Int) < (mn.length:Int) then ((mn[0]?).bind λza=>if 0<=ag ((ag ((2:Int)*(ag (za.toNat:Int))))+(1:Int))/\ag ((ag ((2:Int)*(ag (za.toNat:Int))))+(1:Int)) < (mn.length:Int) then ((mn[(ag ((ag ((2:Int)*(ag (za.toNat:Int))))+(1:Int))).toNat]?).bind λHY=>bif decide ((HY.toNat:Int)=(0:Int)) then (if 0<=(0:Int)/\(0:Int) < (mn.length:Int) then ((mn[0]?).bind λLq=>if 0<=(0:Int)/\(0:Int) < (mn.length:Int) then ((mn[0]?).bind λWz=>let Tu:=mn.set 0 (UInt8.ofInt ((Lq.toNat:Int) - (1:Int)));self Tu) else none) else none) else e0 mn) else none) else none) else e0 mn) else none
noncomputable abbrev B0 (_:Nat):=b0
noncomputable def q0 (J:Arg) (Lw:(List UInt8)):Option Out:=some (((0:Int),J.2.1,Lw,()),())
noncomputable abbrev Q0 (_:Nat):=q0
noncomputable def s0 (k:Nat) (J:Arg):(List UInt8)->Option Out:=λmn=>D.L k [1,1,1,1,1,1,0,0,0] [1,4,6] [] (ap 0 (aU (D.N k [1,1,1,1,1,1,1]) D.K0)) (T0 J mn)
noncomputable def r0 (k:Nat) (J:Arg):(List UInt8)->Option Out:=aD (λw v=>B0 k w (Q0 k J) J v) k
theorem aX (k:Nat) (J:Arg):s0 k J=r0 k J:=
 funext λmn=>aR _ _ _ (T0 J) _ (λrec v=>by kernel_rfl) k mn
noncomputable def p (l0:(List UInt8)->Option Out) (J:Arg):Option Out:=(az.aa (J.1,())).bind λr2=>bif !decide (r2.1=(0:Int)) then (some ((r2.1,(0:Int),([]:List UInt8),()),())) else (cL.aa (J.1,J.2.1,())).bind λr3=>bif !r3.1 then (some (((4:Int),(0:Int),([]:List UInt8),()),())) else (cj.aa (J.1,())).bind λr4=>if 0<=ag ((2:Int)+(ag ((2:Int)*J.2.1)))/\ag ((2:Int)+(ag ((2:Int)*J.2.1))) < (r4.1.length:Int) then ((r4.1[(ag ((2:Int)+(ag ((2:Int)*J.2.1)))).toNat]?).bind λx5=>let y6:=r4.1.set (ag ((2:Int)+(ag ((2:Int)*J.2.1)))).toNat (0:UInt8);if 0<=ag ((3:Int)+(ag ((2:Int)*J.2.1)))/\ag ((3:Int)+(ag ((2:Int)*J.2.1))) < (y6.length:Int) then ((y6[(ag ((3:Int)+(ag ((2:Int)*J.2.1)))).toNat]?).bind λx7=>let y8:=y6.set (ag ((3:Int)+(ag ((2:Int)*J.2.1)))).toNat (0:UInt8);l0 y8) else none) else none
theorem af (k:Nat) (J:Arg):@Eq (Option Out) (D.W k J) (p (r0 k J) J):=
 Eq.trans (b:=p (s0 k J) J) (by kernel_rfl) (by rw[aX])
theorem ok:Ok prog 184 D.sig:=ay func184 aI (by kernel_rfl) (fc cj.ok (fc az.ok (fc cL.ok (an _))))
end gA
namespace dV
abbrev Arg:Type:=am×Int×Int×Unit
abbrev Out:Type:=am×Unit
abbrev ps:PQ:=[(.cZ (ak bc) (ak bc),bc),(.ro,i64),(.ro,i64)]
noncomputable def D:FD:={ fn:=f135,tl:=bi,ps:=ps,rs:=[],gl:=[(181,co.D.sig),(184,gA.D.sig)],es:=[0] }
noncomputable def aa (a:Arg):Option Out:=@lift Out λk=>D.W k a
noncomputable def p (J:Arg):Option Out:=if 0<=J.2.1/\J.2.1 < (J.1.1.length:Int) then ((J.1.1[J.2.1.toNat]?).bind λx2=>(J.1.1[J.2.1.toNat]?).bind λx3=>(gA.aa (x3,J.2.2.1,())).bind λr4=>(co.aa (J.1,J.2.1,r4.1.2.2.1,())).bind λr5=>some (r5.1,())) else none
theorem af (k:Nat) (J:Arg):@Eq (Option Out) (D.W k J) (p J):=by kernel_rfl
theorem ok:Ok prog 135 D.sig:=ay func135 aI (by kernel_rfl) (fc co.ok (fc gA.ok (an _)))
end dV
namespace eg
abbrev Arg:Type:=am×Seen×Row×Unit
abbrev Out:Type:=Bool×am×Unit
abbrev ps:PQ:=[(.cZ (ak bc) (ak bc),bc),(.ro,ct),(.ro,aE)]
noncomputable def D:FD:={ fn:=f61,tl:=bi,ps:=ps,rs:=[(.bool,(aw .bool))],gl:=[(131,cm.D.sig),(132,gK.D.sig),(133,fy.D.sig),(134,l6.D.sig),(135,dV.D.sig)],es:=[0],od:=[(6,[0,1,2,3,4,5,6,7,8]),(8,[0,1,3,4,2,5,6,7,8,9,10,11,12]),(11,[0,1,2,3,4,5,6,7,8])] }
noncomputable def aa (a:Arg):Option Out:=@lift Out λk=>D.W k a
noncomputable def p (J:Arg):Option Out:=bif (Ty.eq aE J.2.1.1 J.2.2.1) then (some (true,J.1,())) else let Sv:=λ(p9:Int)=>((gK.aa (p9,J.2.2.1,())).bind λk_=>(fy.aa (J.1,J.2.1.2.2.2.2.1,J.2.1.2.2.2.2.2.1,k_.1,())).bind λpB=>bif pB.1 then (some (true,pB.2.1,())) else (gK.aa ((2:Int),J.2.2.1,())).bind λsN=>(cm.aa (pB.2.1,sN.1,J.2.1.2.2.2.2.1,())).bind λsO=>bif !sO.2.2.1 then (some (false,sO.2.2.2.1,())) else (l6.aa (sO.1,sO.2.1,())).bind λAl=>(fy.aa (sO.2.2.2.1,J.2.1.2.1,J.2.1.2.2.1,Al.1,())).bind λAm=>bif J.2.1.2.2.2.1 then ((dV.aa (Am.2.1,J.2.1.2.2.2.2.1,J.2.1.2.2.2.2.2.1,())).bind λwr=>some (true,wr.1,())) else some (true,Am.2.1,()):Option Out);bif J.2.1.2.2.2.1 then (Sv (2:Int)) else Sv (0:Int)
theorem af (k:Nat) (J:Arg):@Eq (Option Out) (D.W k J) (p J):=by kernel_rfl
theorem ok:Ok prog 61 D.sig:=ay func61 aI (by kernel_rfl) (fc cm.ok (fc gK.ok (fc fy.ok (fc l6.ok (fc dV.ok (an _))))))
end eg
namespace eZ
abbrev Arg:Type:=am×Seen×Unit
abbrev Out:Type:=am×Unit
abbrev ps:PQ:=[(.cZ (ak bc) (ak bc),bc),(.ro,ct)]
noncomputable def D:FD:={ fn:=f62,tl:=bi,ps:=ps,rs:=[],gl:=[(135,dV.D.sig)],es:=[0] }
noncomputable def aa (a:Arg):Option Out:=@lift Out λk=>D.W k a
noncomputable def p (J:Arg):Option Out:=(dV.aa (J.1,J.2.1.2.1,J.2.1.2.2.1,())).bind λr2=>bif J.2.1.2.2.2.1 then ((dV.aa (r2.1,J.2.1.2.2.2.2.1,J.2.1.2.2.2.2.2.1,())).bind λr3=>some (r3.1,())) else some (r2.1,())
theorem af (k:Nat) (J:Arg):@Eq (Option Out) (D.W k J) (p J):=by kernel_rfl
theorem ok:Ok prog 62 D.sig:=ay func62 aI (by kernel_rfl) (fc dV.ok (an _))
end eZ
namespace iU
abbrev Arg:Type:=(List (List UInt8))×Change×Unit
abbrev Out:Type:=bI×Unit
abbrev ps:PQ:=[(.ro,(.ae (.ae u8))),(.ro,cX)]
noncomputable def D:FD:={ fn:=f15,tl:=bi,ps:=ps,rs:=[(bd,(ak bd))],gl:=[(52,cd.D.sig),(53,gt.D.sig),(54,gu.D.sig),(55,fM.D.sig),(56,kd.D.sig),(57,iT.D.sig),(58,eM.D.sig),(59,f0.D.sig),(60,gZ.D.sig),(61,eg.D.sig),(62,eZ.D.sig),(63,eY.D.sig)],od:=[(6,[0,1,2,3,4]),(9,[0,1,4,2,3,5,6,7,8,9,10,11,12,13])],ar:=[(9,[1,4])],bx:=[(9,[3])],pd:=[(9,[11])] }
noncomputable def aa (a:Arg):Option Out:=@lift Out λk=>D.W k a
noncomputable def p (J:Arg):Option Out:=(cd.aa (J.1,())).bind λr2=>let JW:=λ(M5:Int)=>(bif !decide (M5=(0:Int)) then (some ((M5,([]:List bW),([]:List (List UInt8)),()),())) else (fM.aa (r2.1,())).bind λPG=>(gu.aa (J.2.1,PG.1,())).bind λVp=>bif !Vp.1 then (some (((8:Int),([]:List bW),([]:List (List UInt8)),()),())) else (kd.aa (J.1,())).bind λPL=>(eM.aa (J.2.1,())).bind λJV=>(eM.aa (J.2.1,())).bind λVq=>(iT.aa (r2.1,JV.1.1,Vq.1.2.1,())).bind λSw=>bif !J.2.1.1 then ((gZ.aa (PL.1,J.2.1.2.2.2.1,())).bind λSx=>(f0.aa (Sx.2.1,Sx.1,())).bind λVr=>some (Vr.1,())) else bif J.2.1.2.2.1 then ((eg.aa (PL.1,Sw.1,J.2.1.2.2.2.1,())).bind λxh=>(f0.aa (xh.2.1,xh.1,())).bind λNa=>some (Na.1,())) else (eZ.aa (PL.1,Sw.1,())).bind λJX=>(eY.aa (JX.1,())).bind λPN=>some (PN.1,()):Option Out);bif decide (r2.2.1=(0:Int)) then ((gt.aa (J.2.1,())).bind λr3=>JW r3.1) else JW r2.2.1
theorem af (k:Nat) (J:Arg):@Eq (Option Out) (D.W k J) (p J):=by kernel_rfl
theorem ok:Ok prog 15 D.sig:=ay func15 aI (by kernel_rfl) (fc cd.ok (fc gt.ok (fc gu.ok (fc fM.ok (fc kd.ok (fc iT.ok (fc eM.ok (fc f0.ok (fc gZ.ok (fc eg.ok (fc eZ.ok (fc eY.ok (an _)))))))))))))
end iU
namespace lg
abbrev Arg:Type:=(List (List UInt8))×Change×Unit
abbrev Out:Type:=bI×Unit
abbrev ps:PQ:=[(.ro,(.ae (.ae u8))),(.ro,(.ptr cX))]
noncomputable def D:FD:={ fn:=f66,tl:=bi,ps:=ps,rs:=[(bd,(ak bd))],gl:=[(64,bY.D.sig),(137,mi.D.sig),(138,dq.D.sig),(139,fU.D.sig),(140,fV.D.sig),(141,dZ.D.sig)],od:=[(3,[0,1,2,3,4,5,6,7,8,9,10,11,12,13,14,15,16,17,18])] }
noncomputable def aa (a:Arg):Option Out:=@lift Out λk=>D.W k a
noncomputable def p (J:Arg):Option Out:=(mi.aa (J.2.1,())).bind λr2=>(dq.aa (J.1,r2.1,r2.2.1,())).bind λr3=>let j9:Option Out:=bif !J.2.1.1 then ((fU.aa (J.1,J.2.1.2.2.2.1,())).bind λpA=>some (pA.1,())) else bif !J.2.1.2.2.1 then ((fV.aa (J.1,r3.1,())).bind λk_=>some (k_.1,())) else (dZ.aa (J.1,r3.1,J.2.1.2.2.2.1,())).bind λpB=>some (pB.1,());bif !(r3.2.1 == J.2.1.1) then ((bY.aa ((8:Int),())).bind λr4=>some (r4.1,())) else bif r3.2.1 then (bif !(Ty.eq aE r3.1.2.2.1.2.2.2.2.1 J.2.1.2.1) then ((bY.aa ((8:Int),())).bind λr5=>some (r5.1,())) else j9) else j9
theorem af (k:Nat) (J:Arg):@Eq (Option Out) (D.W k J) (p J):=by kernel_rfl
theorem ok:Ok prog 66 D.sig:=ay func66 aI (by kernel_rfl) (fc bY.ok (fc mi.ok (fc dq.ok (fc fU.ok (fc fV.ok (fc dZ.ok (an _)))))))
end lg
namespace iV
abbrev Arg:Type:=(List (List UInt8))×Change×Unit
abbrev Out:Type:=bI×Unit
abbrev ps:PQ:=[(.ro,(.ae (.ae u8))),(.ro,cX)]
noncomputable def D:FD:={ fn:=f16,tl:=bi,ps:=ps,rs:=[(bd,(ak bd))],gl:=[(47,bn.D.sig),(64,bY.D.sig),(65,iS.D.sig),(66,lg.D.sig)] }
noncomputable def aa (a:Arg):Option Out:=@lift Out λk=>D.W k a
noncomputable def p (J:Arg):Option Out:=(bn.aa (J.1,())).bind λr2=>bif !decide (r2.1=(0:Int)) then ((bY.aa (r2.1,())).bind λr3=>some (r3.1,())) else (iS.aa (J.2.1,())).bind λr4=>bif !decide (r4.1=(0:Int)) then ((bY.aa (r4.1,())).bind λr5=>some (r5.1,())) else (lg.aa (J.1,J.2.1,())).bind λr6=>some (r6.1,())
theorem af (k:Nat) (J:Arg):@Eq (Option Out) (D.W k J) (p J):=by kernel_rfl
theorem ok:Ok prog 16 D.sig:=ay func16 aI (by kernel_rfl) (fc bn.ok (fc bY.ok (fc iS.ok (fc lg.ok (an _)))))
end iV
namespace jk
abbrev Arg:Type:=(List (List UInt8))×Unit
abbrev Out:Type:=HV×Unit
abbrev ps:PQ:=[(.ro,(.ae (.ae u8)))]
noncomputable def D:FD:={ fn:=f17,tl:=bi,ps:=ps,rs:=[(ug,(ak ug))],gl:=[(52,cd.D.sig),(55,fM.D.sig)] }
noncomputable def aa (a:Arg):Option Out:=@lift Out λk=>D.W k a
noncomputable def p (J:Arg):Option Out:=(cd.aa (J.1,())).bind λr2=>bif !decide (r2.2.1=(0:Int)) then (some ((r2.2.1,([]:List Row),()),())) else (fM.aa (r2.1,())).bind λr3=>some (((0:Int),r3.1,()),())
theorem af (k:Nat) (J:Arg):@Eq (Option Out) (D.W k J) (p J):=by kernel_rfl
theorem ok:Ok prog 17 D.sig:=ay func17 aI (by kernel_rfl) (fc cd.ok (fc fM.ok (an _)))
end jk
namespace eh
abbrev Arg:Type:=(List Row)×(List Row)×Unit
abbrev Out:Type:=(List Change)×Unit
abbrev ps:PQ:=[(.ro,(.ae aE)),(.ro,(.ae aE))]
noncomputable def D:FD:={ fn:=f67,tl:=bi,ps:=ps,rs:=[((.ae cX),(ak (.ae cX)))],gl:=[(129,ej.D.sig)],lv:=[(2,[0,1,5])],lx:=[(0,[5])],od:=[(4,[0,1,2,3,4,5,6,7]),(11,[0,1,2,3,4,5,6]),(14,[0,1,2,3,4,5,6])],ar:=[(11,[2]),(14,[2])] }
noncomputable def aa (a:Arg):Option Out:=@lift Out λk=>D.W k a
noncomputable def T0 (J:Arg) (ab:(List Row)×(List Row)×(List Change)):St:={ n:=69,sl:=[(0,.val (.ae aE) ab.1),(1,.val (.ae aE) ab.2.1),(5,.own (.ae cX) (ak (.ae cX)) [] ab.2.2)],vr:=[],aF:=[] }
noncomputable def b0 (self:((List Row)×(List Row)×(List Change))->Option Out) (e0:(List Change)->Option Out) (J:Arg) (ab:(List Row)×(List Row)×(List Change)):Option Out:=let PO:Option Out:=let Lx:=λ(PP:Int)=>(let PR:=λ(Ij:List Row) (Ik:Change)=>(let PT:=λ(Il:List Row) (ui:Change)=>(bif !ui.1 then (if ab.2.2.length+[ui].length<=cJ then (self (Ij,Il,ab.2.2++[ui])) else none) else bif !ui.2.2.1 then (if ab.2.2.length+[ui].length<=cJ then (self (Ij,Il,ab.2.2++[ui])) else none) else bif !(Ty.eq aE ui.2.1 ui.2.2.2.1) then (if ab.2.2.length+[ui].length<=cJ then (self (Ij,Il,ab.2.2++[ui])) else none) else self (Ij,Il,ab.2.2):Option Out);bif decide ((0:Int)<=PP) then ((ab.2.1[0]?).bind λTv=>if 0<=(1:Int)/\(1:Int)<=(ab.2.1.length:Int) then (PT ((ab.2.1.take ab.2.1.length).drop 1) (Ik.1,Ik.2.1,true,Tv,Ik.2.2.2.2)) else none) else PT ab.2.1 Ik:Option Out);bif decide (PP<=(0:Int)) then ((ab.1[0]?).bind λPA=>if 0<=(1:Int)/\(1:Int)<=(ab.1.length:Int) then (PR ((ab.1.take ab.1.length).drop 1) (true,PA,false,((0:Int),(0:Int),(0:Int),([]:List UInt8),()),())) else none) else PR ab.1 (false,((0:Int),(0:Int),(0:Int),([]:List UInt8),()),false,((0:Int),(0:Int),(0:Int),([]:List UInt8),()),()):Option Out);bif decide ((ab.1.length:Int)=(0:Int)) then (Lx (1:Int)) else bif decide ((ab.2.1.length:Int)=(0:Int)) then (Lx (-1:Int)) else (ab.1[0]?).bind λBz=>(ab.2.1[0]?).bind λTw=>(ej.aa (Bz,Tw,())).bind λTz=>Lx Tz.1;bif decide ((0:Int) < (ab.1.length:Int)) then (PO) else bif decide ((0:Int) < (ab.2.1.length:Int)) then (PO) else e0 ab.2.2
noncomputable abbrev B0 (_:Nat):=b0
noncomputable def q0 (J:Arg) (TA:(List Change)):Option Out:=some (TA,())
noncomputable abbrev Q0 (_:Nat):=q0
noncomputable def s0 (k:Nat) (J:Arg):((List Row)×(List Row)×(List Change))->Option Out:=λab=>D.L k [1,1,0,0,0] [0,1,5] [] (ap 0 (aU (D.N k [1,1,1]) D.K0)) (T0 J ab)
noncomputable def r0 (k:Nat) (J:Arg):((List Row)×(List Row)×(List Change))->Option Out:=aD (λw v=>B0 k w (Q0 k J) J v) k
theorem aX (k:Nat) (J:Arg):s0 k J=r0 k J:=
 funext λab=>aR _ _ _ (T0 J) _ (λrec v=>by kernel_rfl) k ab
noncomputable def p (l0:((List Row)×(List Row)×(List Change))->Option Out) (J:Arg):Option Out:=l0 (J.1,J.2.1,([]:List Change))
theorem af (k:Nat) (J:Arg):@Eq (Option Out) (D.W k J) (p (r0 k J) J):=
 Eq.trans (b:=p (s0 k J) J) (by kernel_rfl) (by rw[aX])
theorem ok:Ok prog 67 D.sig:=ay func67 aI (by kernel_rfl) (fc ej.ok (an _))
end eh
namespace je
abbrev Arg:Type:=(List Row)×(List Row)×Unit
abbrev Out:Type:=CO×Unit
abbrev ps:PQ:=[(.ro,(.ae aE)),(.ro,(.ae aE))]
noncomputable def D:FD:={ fn:=f18,tl:=bi,ps:=ps,rs:=[(qf,(ak qf))],gl:=[(41,df.D.sig),(67,eh.D.sig)] }
noncomputable def aa (a:Arg):Option Out:=@lift Out λk=>D.W k a
noncomputable def p (J:Arg):Option Out:=(df.aa (J.1,())).bind λr2=>bif !decide (r2.1=(0:Int)) then (some ((r2.1,([]:List Change),()),())) else (df.aa (J.2.1,())).bind λr3=>bif !decide (r3.1=(0:Int)) then (some ((r3.1,([]:List Change),()),())) else (eh.aa (J.1,J.2.1,())).bind λr4=>some (((0:Int),r4.1,()),())
theorem af (k:Nat) (J:Arg):@Eq (Option Out) (D.W k J) (p J):=by kernel_rfl
theorem ok:Ok prog 18 D.sig:=ay func18 aI (by kernel_rfl) (fc df.ok (fc eh.ok (an _)))
end je
namespace eP
abbrev Arg:Type:=(List UInt8)×Unit
abbrev Out:Type:=(List (List UInt8))×Row×Unit
abbrev ps:PQ:=[(.ro,(.ae u8))]
noncomputable def D:FD:={ fn:=f68,tl:=bi,ps:=ps,rs:=[((.ae (.ae u8)),(.ae true (aw (.ae u8)))),(aE,(aw aE))],gl:=[(25,fT.D.sig),(27,bp.D.sig),(45,gz.D.sig),(46,gx.D.sig),(47,bn.D.sig),(49,di.D.sig),(51,aB.D.sig)],od:=[(9,[0,1,2,3]),(10,[0,1,2,3])] }
noncomputable def aa (a:Arg):Option Out:=@lift Out λk=>D.W k a
noncomputable def p (J:Arg):Option Out:=(fT.aa (J.1,())).bind λr2=>(gz.aa (r2.1,())).bind λr3=>(gx.aa (r3.2.1,())).bind λr4=>(bn.aa (r3.1,())).bind λr5=>bif decide (r5.1=(0:Int)) then ((bp.aa (r4.2.1,(4:Int),())).bind λr6=>bif !r6.1 then ((di.aa (r3.1,())).bind λr7=>bif decide ((0:Int) < (r7.1.length:Int)) then ((aB.aa (r6.2.1,(r7.1.length:Int),())).bind λr8=>if 0<=r8.1/\r8.1 < (r7.1.length:Int) then ((r7.1[r8.1.toNat]?).bind λx9=>(aB.aa (r8.2.1,(3:Int),())).bind λpA=>if 0<=pA.1/\pA.1 < ([([]:List UInt8),([97,98]:List UInt8),([97,98,99,100,101,102,103,104]:List UInt8)].length:Int) then (([([]:List UInt8),([97,98]:List UInt8),([97,98,99,100,101,102,103,104]:List UInt8)][pA.1.toNat]?).bind λVs=>some (r3.1,(x9.1,x9.2.1,x9.2.2.1,Vs,x9.2.2.2.2),())) else none) else none) else some (r3.1,r4.1,())) else some (r3.1,r4.1,())) else some (r3.1,r4.1,())
theorem af (k:Nat) (J:Arg):@Eq (Option Out) (D.W k J) (p J):=by kernel_rfl
theorem ok:Ok prog 68 D.sig:=ay func68 aI (by kernel_rfl) (fc fT.ok (fc bp.ok (fc gz.ok (fc gx.ok (fc bn.ok (fc di.ok (fc aB.ok (an _))))))))
end eP
namespace lU
abbrev Arg:Type:=(List UInt8)×Int×Unit
abbrev Out:Type:=aO×Unit
abbrev ps:PQ:=[(.ro,(.ae u8)),(.ro,i64)]
noncomputable def D:FD:={ fn:=f69,tl:=bi,ps:=ps,rs:=[((.ptr bH),(.ptr true (aw bH)))] }
noncomputable def aa (a:Arg):Option Out:=@lift Out λk=>D.W k a
noncomputable def p (J:Arg):Option Out:=some ((J.1,ag ((5:Int)+(ag ((7:Int)*J.2.1))),()),())
theorem af (k:Nat) (J:Arg):@Eq (Option Out) (D.W k J) (p J):=by kernel_rfl
theorem ok:Ok prog 69 D.sig:=ay func69 aI (by kernel_rfl) (an _)
end lU
namespace gv
abbrev Arg:Type:=(List (List UInt8))×Row×Unit
abbrev Out:Type:=bI×Unit
abbrev ps:PQ:=[(.ro,(.ae (.ae u8))),(.ro,aE)]
noncomputable def D:FD:={ fn:=f70,tl:=bi,ps:=ps,rs:=[(bd,(ak bd))],gl:=[(47,bn.D.sig),(64,bY.D.sig),(136,dz.D.sig),(138,dq.D.sig),(141,dZ.D.sig)] }
noncomputable def aa (a:Arg):Option Out:=@lift Out λk=>D.W k a
noncomputable def p (J:Arg):Option Out:=(bn.aa (J.1,())).bind λr2=>bif !decide (r2.1=(0:Int)) then ((bY.aa (r2.1,())).bind λr3=>some (r3.1,())) else (dz.aa (J.2.1,())).bind λr4=>bif !decide (r4.1=(0:Int)) then ((bY.aa (r4.1,())).bind λr5=>some (r5.1,())) else (dq.aa (J.1,J.2.1.1,J.2.1.2.1,())).bind λr6=>bif !r6.2.1 then ((bY.aa ((4:Int),())).bind λr7=>some (r7.1,())) else (dZ.aa (J.1,r6.1,J.2.1,())).bind λr8=>some (r8.1,())
theorem af (k:Nat) (J:Arg):@Eq (Option Out) (D.W k J) (p J):=by kernel_rfl
theorem ok:Ok prog 70 D.sig:=ay func70 aI (by kernel_rfl) (fc bn.ok (fc bY.ok (fc dz.ok (fc dq.ok (fc dZ.ok (an _))))))
end gv
namespace fh
abbrev Arg:Type:=(List UInt8)×Unit
abbrev Out:Type:=(List (List UInt8))×(List bW)×Unit
abbrev ps:PQ:=[(.ro,(.ae u8))]
noncomputable def D:FD:={ fn:=f19,tl:=bi,ps:=ps,rs:=[((.ae (.ae u8)),(.ae true (aw (.ae u8)))),((.ae k9),(ak (.ae k9)))],gl:=[(27,bp.D.sig),(68,eP.D.sig),(69,lU.D.sig),(70,gv.D.sig),(71,dm.D.sig)],od:=[(5,[0,1,2,5,3,4,6,7,8,9,10,11,12,13]),(6,[0,1,2,3,4])],ar:=[(5,[])],pd:=[(5,[3,6])],er:=[(5,[(1,11)])] }
noncomputable def aa (a:Arg):Option Out:=@lift Out λk=>D.W k a
noncomputable def p (J:Arg):Option Out:=(eP.aa (J.1,())).bind λr2=>(lU.aa (J.1,(3:Int),())).bind λr3=>(gv.aa (r2.1,r2.2.1,())).bind λr4=>(bp.aa (r3.1,(5:Int),())).bind λr5=>bif r5.1 then ((dm.aa (r5.2.1,[(-1:Int),(0:Int),(5:Int),(12:Int)],())).bind λr6=>(dm.aa (r6.2.1,[(63:Int),(64:Int)],())).bind λr7=>if 0<=r7.1/\r7.1<=r7.1/\r7.1<=(cJ:Int) then (if r4.1.2.1.length+[(r6.1,List.replicate r7.1.toNat (0:UInt8),())].length<=cJ then (let y8:=r4.1.2.1++[(r6.1,List.replicate r7.1.toNat (0:UInt8),())];some (r2.1,y8,())) else none) else none) else some (r2.1,r4.1.2.1,())
theorem af (k:Nat) (J:Arg):@Eq (Option Out) (D.W k J) (p J):=by kernel_rfl
theorem ok:Ok prog 19 D.sig:=ay func19 aI (by kernel_rfl) (fc bp.ok (fc eP.ok (fc lU.ok (fc gv.ok (fc dm.ok (an _))))))
end fh
namespace cq
abbrev Arg:Type:=(List bW)×Unit
abbrev Out:Type:=(List bW)×Unit
abbrev ps:PQ:=[(.ro,(.ae k9))]
noncomputable def D:FD:={ fn:=f74,tl:=bi,ps:=ps,rs:=[((.ae k9),(ak (.ae k9)))],gl:=[(73,cj.D.sig)],lv:=[(3,[3,6,7,8])],lx:=[(0,[3])],od:=[(5,[0,1,2,3,4,5,6,7,8,9])] }
noncomputable def aa (a:Arg):Option Out:=@lift Out λk=>D.W k a
noncomputable def T0 (J:Arg) (ab:(List bW)×Int):St:={ n:=23,sl:=[(3,.own (.ae k9) (ak (.ae k9)) [] ab.1),(6,.val (.ae k9) J.1),(7,.val i64 (J.1.length:Int)),(8,.val i64 ab.2)],vr:=[],aF:=[] }
noncomputable def b0 (self:((List bW)×Int)->Option Out) (e0:(List bW)->Option Out) (J:Arg) (ab:(List bW)×Int):Option Out:=bif decide (ab.2 < (J.1.length:Int)) then (if 0<=ab.2 then ((J.1[ab.2.toNat]?).bind λeC=>(cj.aa (eC.2.1,())).bind λft=>if ab.1.length+[(eC.1,ft.1,())].length<=cJ then (self (ab.1++[(eC.1,ft.1,())],ag (ab.2+(1:Int)))) else none) else none) else e0 ab.1
noncomputable abbrev B0 (_:Nat):=b0
noncomputable def q0 (J:Arg) (jP:(List bW)):Option Out:=some (jP,())
noncomputable abbrev Q0 (_:Nat):=q0
noncomputable def s0 (k:Nat) (J:Arg):((List bW)×Int)->Option Out:=λab=>D.L k [1,1,0,1,0,0] [3,6,7,8] [] (ap 0 (aU (D.N k [1,1,1]) D.K0)) (T0 J ab)
noncomputable def r0 (k:Nat) (J:Arg):((List bW)×Int)->Option Out:=aD (λw v=>B0 k w (Q0 k J) J v) k
theorem aX (k:Nat) (J:Arg):s0 k J=r0 k J:=
 funext λab=>aR _ _ _ (T0 J) _ (λrec v=>by kernel_rfl) k ab
noncomputable def p (l0:((List bW)×Int)->Option Out) (J:Arg):Option Out:=l0 (([]:List bW),(0:Int))
theorem af (k:Nat) (J:Arg):@Eq (Option Out) (D.W k J) (p (r0 k J) J):=
 Eq.trans (b:=p (s0 k J) J) (by kernel_rfl) (by rw[aX])
theorem ok:Ok prog 74 D.sig:=ay func74 aI (by kernel_rfl) (fc cj.ok (an _))
end cq
namespace aV
abbrev Arg:Type:=(List (List UInt8))×(List bW)×Unit
abbrev Out:Type:=bI×Unit
abbrev ps:PQ:=[(.ro,(.ae (.ae u8))),(.ro,(.ae k9))]
noncomputable def D:FD:={ fn:=f20,tl:=bi,ps:=ps,rs:=[(bd,(ak bd))],gl:=[(43,km.D.sig),(72,cD.D.sig),(73,cj.D.sig),(74,cq.D.sig)],lv:=[(5,[1,4,5,14,15,16])],lx:=[(0,[1,4,5])],od:=[(13,[0,1,2,3,4,5,6,7])] }
noncomputable def aa (a:Arg):Option Out:=@lift Out λk=>D.W k a
noncomputable def T0 (J:Arg) (aN:(List (List UInt8))×Int):St:={ n:=57,sl:=[(1,.val (.ae k9) J.2.1),(4,.box bd (ak bd) [] ((0:Int),([]:List bW),([]:List (List UInt8)),())),(5,.own (.ae (.ae u8)) (ak (.ae (.ae u8))) [] aN.1),(14,.val (.ae k9) J.2.1),(15,.val i64 (J.2.1.length:Int)),(16,.val i64 aN.2)],vr:=[],aF:=[] }
noncomputable def b0 (self:((List (List UInt8))×Int)->Option Out) (e0:(List (List UInt8))->Option Out) (J:Arg) (aN:(List (List UInt8))×Int):Option Out:=bif decide (aN.2 < (J.2.1.length:Int)) then (if 0<=aN.2 then ((J.2.1[aN.2.toNat]?).bind λkB=>bif !decide ((kB.2.1.length:Int)=(64:Int)) then (some (((1:Int),([]:List bW),([]:List (List UInt8)),()),())) else (km.aa (kB.1,(0:Int),(aN.1.length:Int),())).bind λlS=>bif !lS.1 then (some (((1:Int),([]:List bW),([]:List (List UInt8)),()),())) else bif decide (kB.1=(12:Int)) then (some (((2:Int),([]:List bW),([]:List (List UInt8)),()),())) else let PU:=λ(Ly:List (List UInt8))=>((cj.aa (kB.2.1,())).bind λEs=>if 0<=kB.1/\kB.1 < (Ly.length:Int) then ((Ly[kB.1.toNat]?).bind λHY=>self (Ly.set kB.1.toNat Es.1,ag (aN.2+(1:Int)))) else none:Option Out);bif decide (kB.1=(aN.1.length:Int)) then (if aN.1.length+[([]:List UInt8)].length<=cJ then (PU (aN.1++[([]:List UInt8)])) else none) else PU aN.1) else none) else e0 aN.1
noncomputable abbrev B0 (_:Nat):=b0
noncomputable def q0 (J:Arg) (TB:(List (List UInt8))):Option Out:=(cq.aa (J.2.1,())).bind λsL=>some (((0:Int),sL.1,TB,()),())
noncomputable abbrev Q0 (_:Nat):=q0
noncomputable def s0 (k:Nat) (J:Arg):((List (List UInt8))×Int)->Option Out:=λaN=>D.L k [1,1,1,0,1,0,0] [1,4,5,14,15,16] [] (ap 0 (aU (D.N k [1,1,1,1]) D.K0)) (T0 J aN)
noncomputable def r0 (k:Nat) (J:Arg):((List (List UInt8))×Int)->Option Out:=aD (λw v=>B0 k w (Q0 k J) J v) k
theorem aX (k:Nat) (J:Arg):s0 k J=r0 k J:=
 funext λaN=>aR _ _ _ (T0 J) _ (λrec v=>by kernel_rfl) k aN
noncomputable def p (l0:((List (List UInt8))×Int)->Option Out) (J:Arg):Option Out:=bif decide ((12:Int) < (J.1.length:Int)) then (some (((2:Int),([]:List bW),([]:List (List UInt8)),()),())) else (cD.aa (J.1,())).bind λr2=>l0 (r2.1,(0:Int))
theorem af (k:Nat) (J:Arg):@Eq (Option Out) (D.W k J) (p (r0 k J) J):=
 Eq.trans (b:=p (s0 k J) J) (by kernel_rfl) (by rw[aX])
theorem ok:Ok prog 20 D.sig:=ay func20 aI (by kernel_rfl) (fc km.ok (fc cD.ok (fc cj.ok (fc cq.ok (an _)))))
end aV
namespace de
abbrev Arg:Type:=(List (List UInt8))×(List bW)×Unit
abbrev Out:Type:=bI×Unit
abbrev ps:PQ:=[(.ro,(.ae (.ae u8))),(.ro,(.ae k9))]
noncomputable def D:FD:={ fn:=f21,tl:=bi,ps:=ps,rs:=[(bd,(ak bd))],gl:=[(64,bY.D.sig),(75,cB.D.sig),(76,dy.D.sig),(77,bN.D.sig)],lv:=[(5,[1,4,5,6])],lx:=[(0,[4,5])],od:=[(8,[0,1,2,3,4,5,6,7,8,9,10,11,12,13,14,15,16]),(12,[0,1,2,3,4,5,6,7]),(13,[0,1,2,3,4,5,6,7,8,9,10]),(14,[0,1,2,3,4,5,6,7,8,9,10,11,12]),(15,[0,1,2,3,4,5,6,7,8,9,10,11,12,13,14,15])] }
noncomputable def aa (a:Arg):Option Out:=@lift Out λk=>D.W k a
noncomputable def T0 (J:Arg) (bm:bI×Int):St:={ n:=94,sl:=[(1,.val (.ae k9) J.2.1),(4,.box bd (ak bd) [] ((0:Int),([]:List bW),([]:List (List UInt8)),())),(5,.box bd (ak bd) [] bm.1),(6,.val i64 bm.2)],vr:=[],aF:=[] }
noncomputable def b0 (self:(bI×Int)->Option Out) (e0:bI->Option Out) (J:Arg) (bm:bI×Int):Option Out:=bif decide (bm.2 < (J.2.1.length:Int)) then (if 0<=bm.2 then ((J.2.1[bm.2.toNat]?).bind λfH=>bif !decide ((fH.2.1.length:Int)=(64:Int)) then ((bY.aa ((1:Int),())).bind λfu=>some (fu.1,())) else (dy.aa (fH.1,(0:Int),(bm.1.2.2.1.length:Int),())).bind λgN=>bif !gN.1 then ((bY.aa ((1:Int),())).bind λjQ=>some (jQ.1,())) else bif decide (fH.1=(12:Int)) then ((bY.aa ((2:Int),())).bind λsM=>some (sM.1,())) else bif decide (fH.1=(bm.1.2.2.1.length:Int)) then ((bN.aa (fH.2.1,())).bind λxg=>if bm.1.2.2.1.length+[xg.1].length<=cJ then ((bN.aa (fH.2.1,())).bind λsL=>if bm.1.2.1.length+[(fH.1,sL.1,())].length<=cJ then (self ((bm.1.1,bm.1.2.1++[(fH.1,sL.1,())],bm.1.2.2.1++[xg.1],bm.1.2.2.2),ag (bm.2+(1:Int)))) else none) else none) else (bN.aa (fH.2.1,())).bind λEs=>if 0<=fH.1/\fH.1 < (bm.1.2.2.1.length:Int) then ((bm.1.2.2.1[fH.1.toNat]?).bind λHY=>(bN.aa (fH.2.1,())).bind λBA=>if bm.1.2.1.length+[(fH.1,BA.1,())].length<=cJ then (self ((bm.1.1,bm.1.2.1++[(fH.1,BA.1,())],bm.1.2.2.1.set fH.1.toNat Es.1,bm.1.2.2.2),ag (bm.2+(1:Int)))) else none) else none) else none) else e0 bm.1
noncomputable abbrev B0 (_:Nat):=b0
noncomputable def q0 (J:Arg) (Lw:bI):Option Out:=some (Lw,())
noncomputable abbrev Q0 (_:Nat):=q0
noncomputable def s0 (k:Nat) (J:Arg):(bI×Int)->Option Out:=λbm=>D.L k [1,1,1,0,1,0,0] [1,4,5,6] [] (ap 0 (aU (D.N k [1,1,1,1]) D.K0)) (T0 J bm)
noncomputable def r0 (k:Nat) (J:Arg):(bI×Int)->Option Out:=aD (λw v=>B0 k w (Q0 k J) J v) k
theorem aX (k:Nat) (J:Arg):s0 k J=r0 k J:=
 funext λbm=>aR _ _ _ (T0 J) _ (λrec v=>by kernel_rfl) k bm
noncomputable def p (l0:(bI×Int)->Option Out) (J:Arg):Option Out:=bif decide ((12:Int) < (J.1.length:Int)) then ((bY.aa ((2:Int),())).bind λr2=>some (r2.1,())) else (cB.aa (J.1,())).bind λr3=>l0 (((0:Int),([]:List bW),r3.1,()),(0:Int))
theorem af (k:Nat) (J:Arg):@Eq (Option Out) (D.W k J) (p (r0 k J) J):=
 Eq.trans (b:=p (s0 k J) J) (by kernel_rfl) (by rw[aX])
theorem ok:Ok prog 21 D.sig:=ay func21 aI (by kernel_rfl) (fc bY.ok (fc cB.ok (fc dy.ok (fc bN.ok (an _)))))
end de
namespace mN
abbrev Arg:Type:=(List UInt8)×(List UInt8)×Unit
abbrev Out:Type:=Bool×Unit
abbrev ps:PQ:=[(.ro,(.ae u8)),(.ro,(.ae u8))]
noncomputable def D:FD:={ fn:=f78,tl:=bi,ps:=ps,rs:=[(.bool,(aw .bool))] }
noncomputable def aa (a:Arg):Option Out:=@lift Out λk=>D.W k a
noncomputable def p (J:Arg):Option Out:=some (decide (J.1=J.2.1),())
theorem af (k:Nat) (J:Arg):@Eq (Option Out) (D.W k J) (p J):=by kernel_rfl
theorem ok:Ok prog 78 D.sig:=ay func78 aI (by kernel_rfl) (an _)
end mN
namespace dM
abbrev Arg:Type:=(List (List UInt8))×(List (List UInt8))×Unit
abbrev Out:Type:=Bool×Unit
abbrev ps:PQ:=[(.ro,(.ae (.ae u8))),(.ro,(.ae (.ae u8)))]
noncomputable def D:FD:={ fn:=f22,tl:=bi,ps:=ps,rs:=[(.bool,(aw .bool))],gl:=[(78,mN.D.sig)],lv:=[(4,[0,1,5])],lx:=[(0,[])],od:=[(6,[0,1,2,3,4,5,6,7,8,9])] }
noncomputable def aa (a:Arg):Option Out:=@lift Out λk=>D.W k a
noncomputable def T0 (J:Arg) (ab:Int):St:={ n:=27,sl:=[(0,.val (.ae (.ae u8)) J.1),(1,.val (.ae (.ae u8)) J.2.1),(5,.val i64 ab)],vr:=[],aF:=[] }
noncomputable def b0 (self:Int->Option Out) (e0:(Unit)->Option Out) (J:Arg) (ab:Int):Option Out:=bif decide (ab < (J.1.length:Int)) then (if 0<=ab then ((J.1[ab.toNat]?).bind λeC=>if 0<=ab then ((J.2.1[ab.toNat]?).bind λkB=>(mN.aa (eC,kB,())).bind λlS=>bif !lS.1 then (some (false,())) else self (ag (ab+(1:Int)))) else none) else none) else e0 ()
noncomputable abbrev B0 (_:Nat):=b0
noncomputable def q0 (J:Arg) (Pw:(Unit)):Option Out:=some (true,())
noncomputable abbrev Q0 (_:Nat):=q0
noncomputable def s0 (k:Nat) (J:Arg):(Int)->Option Out:=λab=>D.L k [1,1,0,1,0,0] [0,1,5] [] (ap 0 (aU (D.N k [1,1,1]) D.K0)) (T0 J ab)
noncomputable def r0 (k:Nat) (J:Arg):(Int)->Option Out:=aD (λw v=>B0 k w (Q0 k J) J v) k
theorem aX (k:Nat) (J:Arg):s0 k J=r0 k J:=
 funext λab=>aR _ _ _ (T0 J) _ (λrec v=>by kernel_rfl) k ab
noncomputable def p (l0:(Int)->Option Out) (J:Arg):Option Out:=bif !decide ((J.1.length:Int)=(J.2.1.length:Int)) then (some (false,())) else l0 (0:Int)
theorem af (k:Nat) (J:Arg):@Eq (Option Out) (D.W k J) (p (r0 k J) J):=
 Eq.trans (b:=p (s0 k J) J) (by kernel_rfl) (by rw[aX])
theorem ok:Ok prog 22 D.sig:=ay func22 aI (by kernel_rfl) (fc mN.ok (an _))
end dM
namespace fA
abbrev Arg:Type:=(List Change)×(List Change)×Unit
abbrev Out:Type:=Bool×Unit
abbrev ps:PQ:=[(.ro,(.ae cX)),(.ro,(.ae cX))]
noncomputable def D:FD:={ fn:=f23,tl:=bi,ps:=ps,rs:=[(.bool,(aw .bool))],lv:=[(4,[0,1,5])],lx:=[(0,[])],od:=[(6,[0,1,2,3,4,5,6,7,8])] }
noncomputable def aa (a:Arg):Option Out:=@lift Out λk=>D.W k a
noncomputable def T0 (J:Arg) (ab:Int):St:={ n:=26,sl:=[(0,.val (.ae cX) J.1),(1,.val (.ae cX) J.2.1),(5,.val i64 ab)],vr:=[],aF:=[] }
noncomputable def b0 (self:Int->Option Out) (e0:(Unit)->Option Out) (J:Arg) (ab:Int):Option Out:=bif decide (ab < (J.1.length:Int)) then (if 0<=ab then ((J.1[ab.toNat]?).bind λeC=>if 0<=ab then ((J.2.1[ab.toNat]?).bind λkB=>bif !(Ty.eq cX eC kB) then (some (false,())) else self (ag (ab+(1:Int)))) else none) else none) else e0 ()
noncomputable abbrev B0 (_:Nat):=b0
noncomputable def q0 (J:Arg) (jP:(Unit)):Option Out:=some (true,())
noncomputable abbrev Q0 (_:Nat):=q0
noncomputable def s0 (k:Nat) (J:Arg):(Int)->Option Out:=λab=>D.L k [1,1,0,1,0,0] [0,1,5] [] (ap 0 (aU (D.N k [1,1,1]) D.K0)) (T0 J ab)
noncomputable def r0 (k:Nat) (J:Arg):(Int)->Option Out:=aD (λw v=>B0 k w (Q0 k J) J v) k
theorem aX (k:Nat) (J:Arg):s0 k J=r0 k J:=
 funext λab=>aR _ _ _ (T0 J) _ (λrec v=>by kernel_rfl) k ab
noncomputable def p (l0:(Int)->Option Out) (J:Arg):Option Out:=bif !decide ((J.1.length:Int)=(J.2.1.length:Int)) then (some (false,())) else l0 (0:Int)
theorem af (k:Nat) (J:Arg):@Eq (Option Out) (D.W k J) (p (r0 k J) J):=
 Eq.trans (b:=p (s0 k J) J) (by kernel_rfl) (by rw[aX])
theorem ok:Ok prog 23 D.sig:=ay func23 aI (by kernel_rfl) (an _)
end fA
namespace kE
abbrev Arg:Type:=Change×Unit
abbrev Out:Type:=Change×Unit
abbrev ps:PQ:=[(.ro,cX)]
noncomputable def D:FD:={ fn:=f24,tl:=bi,ps:=ps,rs:=[(cX,(aw cX))] }
noncomputable def aa (a:Arg):Option Out:=@lift Out λk=>D.W k a
noncomputable def p (J:Arg):Option Out:=let j3:=λ(p2:Change)=>(bif !p2.2.2.1 then (some ((p2.1,p2.2.1,p2.2.2.1,((0:Int),(0:Int),(0:Int),([]:List UInt8),()),p2.2.2.2.2),())) else some (p2,()):Option Out);bif !J.1.1 then (j3 (J.1.1,((0:Int),(0:Int),(0:Int),([]:List UInt8),()),J.1.2.2)) else j3 J.1
theorem af (k:Nat) (J:Arg):@Eq (Option Out) (D.W k J) (p J):=by kernel_rfl
theorem ok:Ok prog 24 D.sig:=ay func24 aI (by kernel_rfl) (an _)
end kE
namespace fB
abbrev Arg:Type:=(List UInt8)×Unit
abbrev Out:Type:=Bool×Unit
abbrev ps:PQ:=[(.ro,(.ae u8))]
noncomputable def D:FD:={ fn:=f5,tl:=bi,ps:=ps,rs:=[(.bool,(aw .bool))],gl:=[(6,nM.D.sig),(14,f9.D.sig),(15,iU.D.sig),(16,iV.D.sig),(17,jk.D.sig),(18,je.D.sig),(19,fh.D.sig),(20,aV.D.sig),(21,de.D.sig),(22,dM.D.sig),(23,fA.D.sig),(24,kE.D.sig)],od:=[(6,[0,1,4,5,2,3,6,7]),(13,[0,1,2,3,4,5,6,7,8,9,10,11,12,13,14,15,16]),(15,[0,1,2,3,4,5,6,7,8,9,10,11,12,13,14,15,16,17,18,19,20,21,22,23,24,25,26,27,28,29,30,31,32,35,36,33,34,37,38,39])],ar:=[(13,[1,9]),(15,[1,5,12,21,22,32,36])],bx:=[(13,[12]),(15,[4,5,7,8])] }
noncomputable def aa (a:Arg):Option Out:=@lift Out λk=>D.W k a
noncomputable def p (J:Arg):Option Out:=(nM.aa (J.1,())).bind λr2=>bif r2.1 then (some (true,())) else (f9.aa (J.1,())).bind λr3=>(iU.aa (r3.1,r3.2.1,())).bind λr4=>bif !decide (r4.1.1=(0:Int)) then ((iV.aa (r3.1,r3.2.1,())).bind λr5=>some (decide (r5.1.1=r4.1.1),())) else (jk.aa (r3.1,())).bind λr6=>(jk.aa (r4.1.2.2.1,())).bind λr7=>(je.aa (r6.1.2.1,r7.1.2.1,())).bind λr8=>let wt:=λ(PV:Bool)=>((fh.aa (J.1,())).bind λxh=>(aV.aa (xh.1,xh.2.1,())).bind λNa=>(de.aa (xh.1,xh.2.1,())).bind λJX=>bif !decide (Na.1.1=JX.1.1) then (some (false,())) else (de.aa (xh.1,xh.2.1,())).bind λPN=>(dM.aa (Na.1.2.2.1,PN.1.2.2.1,())).bind λVt=>bif !Vt.1 then (some (false,())) else bif decide (r7.1.1=(0:Int)) then (bif decide (r8.1.1=(0:Int)) then (bif PV then (bif decide ((r8.1.2.1.length:Int)=(0:Int)) then ((aV.aa (r3.1,r4.1.2.1,())).bind λVu=>(dM.aa (Vu.1.2.2.1,r4.1.2.2.1,())).bind λVv=>some (Vv.1,())) else bif !PV then ((kE.aa (r3.2.1,())).bind λVw=>(fA.aa (r8.1.2.1,[Vw.1],())).bind λVx=>bif Vx.1 then ((aV.aa (r3.1,r4.1.2.1,())).bind λVy=>(dM.aa (Vy.1.2.2.1,r4.1.2.2.1,())).bind λVz=>some (Vz.1,())) else some (false,())) else some (false,())) else bif !PV then ((kE.aa (r3.2.1,())).bind λVA=>(fA.aa (r8.1.2.1,[VA.1],())).bind λVB=>bif VB.1 then ((aV.aa (r3.1,r4.1.2.1,())).bind λVC=>(dM.aa (VC.1.2.2.1,r4.1.2.2.1,())).bind λVD=>some (VD.1,())) else some (false,())) else some (false,())) else some (false,())) else some (false,()):Option Out);bif r3.2.1.1 then (bif r3.2.1.2.2.1 then (wt (Ty.eq aE r3.2.1.2.1 r3.2.1.2.2.2.1)) else wt false) else wt false
theorem af (k:Nat) (J:Arg):@Eq (Option Out) (D.W k J) (p J):=by kernel_rfl
theorem ok:Ok prog 5 D.sig:=ay func5 aI (by kernel_rfl) (fc nM.ok (fc f9.ok (fc iU.ok (fc iV.ok (fc jk.ok (fc je.ok (fc fh.ok (fc aV.ok (fc de.ok (fc dM.ok (fc fA.ok (fc kE.ok (an _)))))))))))))
end fB
end OT
set_option linter.unusedVariables false
set_option linter.unusedSimpArgs false
namespace OT
open Go
end OT
set_option linter.unusedVariables false
set_option linter.unusedSimpArgs false
namespace OT
open Go
theorem qQ (a b c:Int):dy.aa (a,b,c,())=some (decide (b<=a)&&decide (a<=c),()):=by
 refine aj (k:=0) λk _=>(dy.af k _).trans ?_
 show dy.p _=_
 unfold dy.p
 by_cases h:b<=a <;> simp[h]
theorem xi (a b c:Int):km.aa (a,b,c,())=some (decide (b<=a)&&decide (a<=c),()):=by
 refine aj (k:=0) λk _=>(km.af k _).trans ?_
 show km.p _=_
 unfold km.p
 by_cases h:b<=a <;> simp[h]
def ol (a b c:Int):Bool:=decide (b<=a)&&decide (a<=c)
theorem gU (s:List UInt8) (h:s.length<=200000000000):cj.aa (s,())=some (s,()):=by
 refine aj (k:=0) λk _=>(cj.af k _).trans ?_
 show cj.p _=_
 unfold cj.p
 have:([]:List UInt8).length+s.length<=cJ:=dR (by simpa using h)
 rw[if_pos this,List.nil_append]
theorem lw (s:List UInt8) (h:s.length<=200000000000):bN.aa (s,())=some (s,()):=by
 refine aj (k:=0) λk _=>(bN.af k _).trans ?_
 show bN.p _=_
 unfold bN.p
 have:([]:List UInt8).length+s.length<=cJ:=dR (by simpa using h)
 rw[if_pos this,List.nil_append]
theorem fi {S O α:Type} {g:S->α->S} {fin:S->O}:∀ (xs:List α) (i:Nat) (s:S),cS (λ_ s x=>.inr (g s x)) fin i xs s=fin (xs.foldl g s)
 | [],_,_=>rfl
 | x::xs,i,s=>by simp only[cS,List.foldl_cons];exact fi xs _ _
theorem nu {α:Type}:∀ (xs s:List α),xs.foldl (λs x=>s++[x]) s=s++xs
 | [],s=>by simp
 | x::xs,s=>by rw[List.foldl_cons,nu];simp
abbrev Av:Type:=List (List UInt8)
def gp (ps:Av):Prop:=ps.length<=12/\∀ p ∈ ps,p.length=64
def xj:List UInt8:=((List.replicate 64 (0:UInt8)).set 0 0).set 1 64
theorem wu (ps:Av) (h:gp ps):cD.aa (ps,())=some (ps,()):=by
 obtain ⟨h1,U⟩:=h
 refine aj (k:=14) λk hk=>(cD.af k _).trans ?_
 have:=d9 (B:=λself v=>cD.B0 0 self (λz=>cD.Q0 0 (ps,()) z) (ps,()) v) ps (λ(s:Av) (i:Int)=>(s,i)) (λ_ s x=>.inr (s++[x])) (λs=>(s,())) (λi s=>s.length=i) (by rw[aL];omega)
  (λi hi s self hI=>by
   show cD.b0 _ _ _ _=_
   unfold cD.b0
   have av:(i:Int) < (ps.length:Int):=by omega
   have hx:=U ps[i] (List.getElem_mem hi)
   simp only[av,decide_true,cond_true,Int.natCast_nonneg,if_true,Int.toNat_natCast,List.getElem?_eq_getElem hi,Option.bind_some]
   rw[gU _ (by omega)]
   have hc:s.length+[ps[i]].length<=cJ:=dR (by simp only[List.length_cons,List.length_nil];omega)
   simp only[Option.bind_some,hc,if_true])
  (λi hi s s' hI hs=>by injection hs with hs;rw[<-hs];simp[hI]) (λs self hI=>by
   show cD.b0 _ _ _ _=_
   unfold cD.b0
   simp only[Int.lt_irrefl,decide_false,cond_false]
   rfl) [] rfl k (by omega)
 rw[fi,nu] at this
 exact this
theorem CP (ps:Av) (h:gp ps):cB.aa (ps,())=some (ps,()):=by
 obtain ⟨h1,U⟩:=h
 refine aj (k:=14) λk hk=>(cB.af k _).trans ?_
 have:=d9 (B:=λself v=>cB.B0 0 self (λz=>cB.Q0 0 (ps,()) z) (ps,()) v) ps (λ(s:Av) (i:Int)=>(s,i)) (λ_ s x=>.inr (s++[x])) (λs=>(s,())) (λi s=>s.length=i) (by rw[aL];omega)
  (λi hi s self hI=>by
   show cB.b0 _ _ _ _=_
   unfold cB.b0
   have av:(i:Int) < (ps.length:Int):=by omega
   have hx:=U ps[i] (List.getElem_mem hi)
   simp only[av,decide_true,cond_true,Int.natCast_nonneg,if_true,Int.toNat_natCast,List.getElem?_eq_getElem hi,Option.bind_some]
   rw[lw _ (by omega)]
   have hc:s.length+[ps[i]].length<=cJ:=dR (by simp only[List.length_cons,List.length_nil];omega)
   simp only[Option.bind_some,hc,if_true])
  (λi hi s s' hI hs=>by injection hs with hs;rw[<-hs];simp[hI]) (λs self hI=>by
   show cB.b0 _ _ _ _=_
   unfold cB.b0
   simp only[Int.lt_irrefl,decide_false,cond_false]
   rfl) [] rfl k (by omega)
 rw[fi,nu] at this
 exact this
end OT
set_option linter.unusedVariables false
set_option linter.unusedSimpArgs false
namespace OT
open Go
def qR (c:UInt8):Bool:=!decide ((c.toNat:Int) < 97)&&!decide ((122:Int) < (c.toNat:Int))
def tL (s:List UInt8):Bool:=s.all qR&&decide (s.length<=8)
def cP (x:Row):Int:=if ol x.1 0 3&&(ol x.2.1 1 99&&ol x.2.2.1 0 999) then (if tL x.2.2.2.1 then 0 else 5) else 3
theorem len8 (s:List UInt8):decide ((s.length:Int)<=8)=decide (s.length<=8):=by
 grind
theorem FL (s:List UInt8) (h:s.length<=maxLen):gM.aa (s,())=some (tL s,()):=by
 refine aj (k:=s.length+1) λk hk=>(gM.af k _).trans ?_
 have:=d9 (B:=λself v=>gM.B0 0 self (λz=>gM.Q0 0 (s,()) z) (s,()) v) s (λ(_:Unit) (i:Int)=>i) (λ_ _ x=>if qR x then .inr () else .inl (false,())) (λ_=>(decide (s.length<=8),())) (λ_ _=>True) h
  (λi hi _ self _=>by
   grind [gM.b0,qR]) (λ_ _ _ _ _ _=>trivial) (λ_ self _=>by
   grind [gM.b0,gM.q0,len8]) () trivial k (by omega)
 refine this.trans ?_
 rw[nL qR (false,()) (λ_=>(decide (s.length<=8),()))]
 grind [tL]
theorem rL (x:Row) (h:List.length x.2.2.2.1<=maxLen):dz.aa (x,())=some (cP x,()):=by
 refine aj (k:=0) λk _=>(dz.af k _).trans ?_
 show dz.p _=_
 unfold dz.p cP ol
 simp only[qQ,FL _ h,Option.bind_some]
 grind
theorem rM (x:Row) (h:List.length x.2.2.2.1<=maxLen):bZ.aa (x,())=some (cP x,()):=by
 refine aj (k:=List.length x.2.2.2.1+1) λk hk=>(bZ.af k _).trans ?_
 have:=d9 (B:=λself v=>bZ.B0 0 self (λz=>bZ.Q0 0 (x,()) z) (x,()) v) x.2.2.2.1 (λ(_:Unit) (i:Int)=>i) (λ_ _ c=>if qR c then .inr () else .inl (5,())) (λ_=>(0,())) (λ_ _=>True) h
  (λi hi _ self _=>by
   grind [bZ.b0,qR]) (λ_ _ _ _ _ _=>trivial) (λ_ self _=>by
   grind [bZ.b0,bZ.q0]) () trivial k (by omega)
 rw[nL qR (5,()) (λ_=>(0,()))] at this
 have this:bZ.r0 k (x,()) 0=_:=this
 unfold bZ.p cP ol tL
 simp only[xi,this,Option.bind_some]
 have h8:decide ((8:Int) < (List.length x.2.2.2.1:Int))=!decide (List.length x.2.2.2.1<=8):=by
  grind
 rw[h8]
 cases decide ((0:Int)<=x.1) <;> cases decide (x.1<=3) <;> cases decide ((1:Int)<=x.2.1) <;> cases decide (x.2.1<=99) <;> cases decide ((0:Int)<=x.2.2.1) <;> cases decide (x.2.2.1<=999) <;> cases decide (List.length x.2.2.2.1<=8) <;> cases (x.2.2.2.1).all qR <;> rfl
def rl (x:Row):Prop:=List.length x.2.2.2.1<=maxLen
def cl (c:Change):Prop:=rl c.2.1/\rl c.2.2.2.1
def sameKey (a b:Row):Bool:=decide (a.1=b.1)&&decide (a.2.1=b.2.1)
def bB (a b:Int×Int):Bool:=decide (a.1 < b.1)||(decide (a.1=b.1)&&decide (a.2 < b.2))
def ig (c:Change):Int:=if (!c.1&&!c.2.2.1)||(c.1&&c.2.2.1&&!sameKey c.2.1 c.2.2.2.1) then 1 else if c.1&&!decide (cP c.2.1=0) then cP c.2.1 else if c.2.2.1 then cP c.2.2.2.1 else 0
def GG (c:Change):Int:=if ig c=0 then (if c.1&&c.2.2.1&&Ty.eq aE c.2.1 c.2.2.2.1 then 1 else 0) else ig c
def ck (c:Change):Int×Int:=if c.2.2.1 then (c.2.2.2.1.1,c.2.2.2.1.2.1) else (c.2.1.1,c.2.1.2.1)
theorem CQ (c:Change) (h:cl c):iS.aa (c,())=some (ig c,()):=by
 refine aj (k:=0) λk _=>(iS.af k _).trans ?_
 show iS.p _=_
 unfold iS.p ig sameKey
 simp only[rL _ h.1,rL _ h.2,Option.bind_some]
 grind
theorem uj (a b:Row):dY.aa (a,b,())=some (bB (a.1,a.2.1) (b.1,b.2.1),()):=by
 refine aj (k:=0) λk _=>(dY.af k _).trans ?_
 grind [dY.p,bB]
theorem nv (a b:Row):ej.aa (a,b,())=some (if bB (a.1,a.2.1) (b.1,b.2.1) then -1 else if bB (b.1,b.2.1) (a.1,a.2.1) then 1 else 0,()):=by
 refine aj (k:=0) λk _=>(ej.af k _).trans ?_
 grind [ej.p,uj]
theorem Aw (a b:Row):decide ((if bB (a.1,a.2.1) (b.1,b.2.1) then (-1:Int) else if bB (b.1,b.2.1) (a.1,a.2.1) then 1 else 0)=0)=sameKey a b:=by
 grind [bB,sameKey]
theorem CR (c:Change) (h:cl c):gt.aa (c,())=some (ig c,()):=by
 refine aj (k:=0) λk _=>(gt.af k _).trans ?_
 show gt.p _=_
 unfold gt.p ig
 simp only[rM _ h.1,rM _ h.2,nv,Option.bind_some,Aw]
 grind
theorem Im (c:Change):mi.aa (c,())=some ((ck c).1,(ck c).2,()):=by
 refine aj (k:=0) λk _=>(mi.af k _).trans ?_
 grind [mi.p,ck]
def pJ (c:Change):Row:=if c.2.2.1 then c.2.2.2.1 else c.2.1
theorem xk (c:Change):((pJ c).1,(pJ c).2.1)=ck c:=by grind [pJ,ck]
theorem Ax (c:Change):eM.aa (c,())=some (pJ c,()):=by
 refine aj (k:=0) λk _=>(eM.af k _).trans ?_
 grind [eM.p,pJ]
theorem Rp {i:Nat} (hi:0 < i) (h:i<=maxLen):ag ((i:Int) - 1)=((i - 1:Nat):Int):=by
 grind [aL,ba]
end OT
set_option linter.unusedVariables false
set_option linter.unusedSimpArgs false
namespace OT
open Go
theorem eo {V S O α:Type} {B:(V->Option O)->V->Option O} (xs:List α) (enc:S->Int->V) (f:Nat->S->α->Sum (Option O) S) (fin:S->Option O) (I:Nat->S->Prop) (K8:xs.length<=maxLen)
  (gB:∀ (i:Nat) (hi:i < xs.length) (s:S) self,I i s->B self (enc s (i:Int))=match f i s xs[i] with | .inl o=>o | .inr s'=>self (enc s' (ag ((i:Int)+1))))
  (hI:∀ (i:Nat) (hi:i < xs.length) (s s':S),I i s->f i s xs[i]=.inr s'->I (i+1) s')
  (mh:∀ (s:S) self,I xs.length s->B self (enc s (xs.length:Int))=fin s) (s:S) (h0:I 0 s):∀ k,xs.length < k->aD B k (enc s 0)=cS f fin 0 xs s:=by
 have main:∀ (m i:Nat) (s:S),xs.length - i=m->i<=xs.length->I i s->∀ k,m < k->aD B k (enc s (i:Int))=cS f fin i (xs.drop i) s:=by
  intro m
  induction m with
  | zero=>
   intro i s hm hi hs k hk
   have mH:i=xs.length:=by omega
   subst mH
   cases k <;> grind [aD,cS]
  | succ m ih=>
   intro i s hm hi hs k hk
   have av:i < xs.length:=by omega
   cases k <;> grind [aD,List.drop_eq_getElem_cons,cS,ba,aL]
 intro k hk
 simpa using main xs.length 0 s (by omega) (by omega) h0 k hk
theorem ze {O α:Type} (p:α->Bool) (a:O) (fin:Unit->O):∀ (xs:List α) (i:Nat),cS (λ_ _ x=>if p x then .inl a else .inr ()) fin i xs ()=if xs.any p then a else fin ()
 | [],_=>rfl
 | x::xs,i=>by
  simp only[cS,List.any_cons]
  by_cases h:p x=true
  ·simp[h]
  ·simp[h,ze p a fin xs (i+1)]
def JY {α:Type} (p:α->Bool):Nat->List α->Int
 | _,[]=>-1
 | i,x::xs=>if p x then (i:Int) else JY p (i+1) xs
def Et (c:Change):Key:=((ck c).1,(ck c).2,())
def In (ks:List Key) (k:Key):Bool:=ks.any λx=>decide (x=k)
def Nb (k:Key):Bool:=ol k.1 0 3&&ol k.2.1 1 99
def tl (x:Tx):Prop:=List.length x.2.1<=1048576/\List.length x.2.2.1<=1048576/\List.length x.2.2.2.1<=1048576/\∀ c ∈ x.2.1,cl c
def Nc (ks:List Key) (c:Change):Int:=if GG c=0 then (if In ks (Et c) then 0 else 8) else GG c
def PW (n last:Int) (ms:List Int):Bool:=cS (λ_ last m=>if ol m last n then .inr m else .inl false) (λ_=>true) 0 ms last
def Nd (ks:List Key) (i:Nat) (k:Key):Int:=if Nb k then (if In (ks.take i) k then 6 else 0) else 3
def JZ (ks:List Key):Int:=cS (λi (_:Unit) k=>if Nd ks i k=0 then .inr () else .inl (Nd ks i k)) (λ_=>(0:Int)) 0 ks ()
def PX (x:Tx):Int:=if decide (8 < List.length x.2.2.1)||decide (12 < List.length x.2.2.2.1) then 2 else if PW (List.length x.2.1:Int) 0 x.2.2.1 then JZ x.2.2.2.1 else 3
def Nf (x:Tx):Int:=iC (Nc x.2.2.2.1) x.2.1
end OT
set_option linter.unusedVariables false
set_option linter.unusedSimpArgs false
namespace OT
open Go
def pb (D:List UInt8) (i:Nat):Nat:=(D.getD i 0).toNat
theorem fE (D:List UInt8) (i:Nat):pb D i < 256:=UInt8.toNat_lt _
theorem dF {D:List UInt8} {i:Nat} (h:i < D.length):D[i]?=some D[i]/\(D[i]).toNat=pb D i:=⟨List.getElem?_eq_getElem h,by simp[pb,h]⟩
theorem lV (D:List UInt8) (i j:Nat) (v:UInt8):pb (D.set i v) j=if i=j/\i < D.length then v.toNat else pb D j:=by
 grind [pb]
theorem BB {D c:List UInt8} {a:Nat} (h:a+c.length<=D.length) (j:Nat):pb (jc D a c.length c) j=if a<=j/\j < a+c.length then pb c (j - a) else pb D j:=by
 grind [pb,DU]
theorem sP {A B:List UInt8} (h:A.length=B.length) (U:∀ j,j < A.length->pb A j=pb B j):A=B:=by
 refine List.ext_getElem h λi h1 h3=>?_
 have:=U i h1
 rw[<-(dF h1).2,<- (dF h3).2] at this
 exact UInt8.toNat_inj.1 this
theorem ofNat_toNat {n:Nat} (h:n < 256):(UInt8.ofNat n).toNat=n:=by
 simp_all
theorem LA (D:List UInt8) (a n j:Nat) (h:j < n):pb ((D.drop a).take n) j=pb D (a+j):=by
 grind [pb]
def pn (p:List UInt8):Nat:=pb p 0
def bJ (p:List UInt8):Nat:=pb p 1
def pat (p:List UInt8) (i:Nat):Nat:=pb p (2+2*i)
def au (p:List UInt8) (i:Nat):Nat:=pb p (3+2*i)
def pK (p:List UInt8) (i:Nat):Bool:=if pat p i=0\/au p i=0 then decide (pat p i=au p i) else decide (bJ p<=pat p i)&&decide (pat p i+au p i<=64)
def lW (p:List UInt8) (i k:Nat):Bool:=(decide (au p i=0)||decide (au p k=0))||(decide (pat p i+au p i<=pat p k)||decide (pat p k+au p k<=pat p i))
def pL (p:List UInt8):Int:=
 if p.length=64 then
  if pn p<=16/\2+2*pn p<=bJ p/\bJ p<=64 then
   if (List.range (pn p)).all (pK p) then
    if (List.range (pn p)).all (λi=>(List.range i).all (lW p i)) then
     if 0 < pn p/\au p (pn p - 1)=0 then 8 else 0
    else 8
   else 3
  else 3
 else 1
structure bQ (p:List UInt8):Prop where
 len:p.length=64
 n:pn p<=16
 lo:2+2*pn p<=bJ p
 hi:bJ p<=64
 slot:∀ i,i < pn p->au p i≠0->bJ p<=pat p i/\pat p i+au p i<=64
 zero:∀ i,i < pn p->au p i=0->pat p i=0
 apart:∀ i k,i < pn p->k < pn p->i≠k->au p i≠0->au p k≠0->pat p i+au p i<=pat p k\/pat p k+au p k<=pat p i
 last:0 < pn p->au p (pn p - 1)≠0
theorem xl {p:List UInt8} {i:Nat} (oc:2<=bJ p):pK p i=true↔(au p i≠0->bJ p<=pat p i/\pat p i+au p i<=64)/\(au p i=0->pat p i=0):=by
 grind [pK]
theorem vJ {p:List UInt8} {i k:Nat}:lW p i k=true↔(au p i≠0->au p k≠0->pat p i+au p i<=pat p k\/pat p k+au p k<=pat p i):=by
 grind [lW]
theorem lh {p:List UInt8}:pL p=0↔bQ p:=by
 constructor
 ·intro h
  unfold pL at h
  split at h
  ·rename_i h1
   split at h
   ·rename_i U
    split at h
    ·rename_i h3
     split at h
     ·rename_i h4
      split at h
      ·cases h
      ·rename_i h5
       have hs:∀ i,i < pn p->(au p i≠0->bJ p<=pat p i/\pat p i+au p i<=64)/\(au p i=0->pat p i=0):=λi hi=>(xl (by omega)).1 (List.all_eq_true.1 h3 i (List.mem_range.2 hi))
       have ha:∀ i k,i < pn p->k < i->au p i≠0->au p k≠0->pat p i+au p i<=pat p k\/pat p k+au p k<=pat p i:=λi k hi hk=>vJ.1 (List.all_eq_true.1 (List.all_eq_true.1 h4 i (List.mem_range.2 hi)) k (List.mem_range.2 hk))
       refine ⟨h1,U.1,U.2.1,U.2.2,λi hi=>(hs i hi).1,λi hi=>(hs i hi).2,λi k hi hk wv z1 z2=>?_,λhn hz=>h5 ⟨hn,hz⟩⟩
       rcases Nat.lt_or_gt_of_ne wv with h6 | h6
       all_goals grind
     ·cases h
    ·cases h
   ·cases h
  ·cases h
 ·intro h
  unfold pL
  rw[if_pos h.len,if_pos ⟨h.n,h.lo,h.hi⟩,if_pos,if_pos,if_neg]
  ·intro ⟨h1,U⟩
   exact h.last h1 U
  ·refine List.all_eq_true.2 λi hi=>List.all_eq_true.2 λk hk=>vJ.2 ?_
   have:=List.mem_range.1 hi
   have:=List.mem_range.1 hk
   exact h.apart i k (by omega) (by omega) (by omega)
  ·exact List.all_eq_true.2 λi hi=>(xl (by have:=h.lo;omega)).2 ⟨h.slot i (List.mem_range.1 hi),h.zero i (List.mem_range.1 hi)⟩
def dt (p:List UInt8) (i:Nat):List UInt8:=(p.drop (pat p i)).take (au p i)
def cellOf (p:List UInt8) (i:Nat):List UInt8:=if i < pn p then dt p i else []
theorem ii {p:List UInt8} (h:bQ p) {i:Nat} (hi:i < pn p):(dt p i).length=au p i:=by
 unfold dt
 by_cases hz:au p i=0
 ·simp[hz]
 ·have:=h.slot i hi hz
  have:=h.len
  grind
theorem zf (p:List UInt8) (i j:Nat) (h:j < au p i):pb (dt p i) j=pb p (pat p i+j):=LA p _ _ j h
theorem zg {p q:List UInt8} {i k:Nat} (hp:(dt p i).length=au p i) (hq:(dt q k).length=au q k) (hs:au p i=au q k) (hb:∀ j,j < au p i->pb p (pat p i+j)=pb q (pat q k+j)):dt p i=dt q k:=by
 grind [sP,zf]
theorem LB {p c:List UInt8} {i:Nat} (hp:(dt p i).length=au p i) (hs:au p i=c.length) (hb:∀ j,j < c.length->pb p (pat p i+j)=pb c j):dt p i=c:=by
 grind [sP,zf]
def fl (p:List UInt8) (s a:Nat) (c:List UInt8):List UInt8:=((jc p a c.length c).set (2+2*s) (UInt8.ofNat a)).set (3+2*s) (UInt8.ofNat c.length)
theorem jw {p:List UInt8} (hp:p.length=64) (s:Nat) {a:Nat} {c:List UInt8} (h:a+c.length<=64):(fl p s a c).length=64:=by
 grind [fl,ls]
theorem qg {p:List UInt8} (hp:p.length=64) {s a:Nat} {c:List UInt8} (h:a+c.length<=64) (hs:s < 16) (j:Nat):pb (fl p s a c) j=if j=3+2*s then c.length else if j=2+2*s then a else if a<=j/\j < a+c.length then pb c (j - a) else pb p j:=by
 grind [fl,ls,lV,BB,ofNat_toNat]
structure om (p q:List UInt8) (s a m:Nat):Prop where
 len:q.length=64
 n:pn q=pn p\/(pn q=pn p+1/\s=pn p)
 PY:s < pn q
 n16:pn q<=16
 lo:2+2*pn q<=bJ q
 VE:bJ q<=bJ p
 at_:pat q s=a
 sz:au q s=m
 pos:0 < m
 TC:bJ q<=a
 TD:a+m<=64
 Eu:∀ i,i < pn q->i≠s->pat q i=pat p i/\au q i=au p i
 free:∀ i,i < pn p->i≠s->au p i≠0->a+m<=pat p i\/pat p i+au p i<=a
 same:∀ j,bJ p<=j->j < 64->(j < a\/a+m<=j)->pb q j=pb p j
theorem om.ok {p q:List UInt8} {s a m:Nat} (t:om p q s a m) (h:bQ p):bQ q:=by
 have av:∀ i,i < pn q->i≠s->i < pn p:=λi hi hs=>by rcases t.n with h1 | ⟨h1,U⟩ <;> omega
 have ha:=t.at_
 have hm:=t.sz
 have Bo:=t.pos
 have oc:=t.TC
 have yt:=t.TD
 have WA:=t.VE
 have hh:=h.hi
 refine ⟨t.len,t.n16,t.lo,by omega,λi hi hz=>?_,λi hi hz=>?_,λi k hi hk wv z1 z2=>?_,λhn=>?_⟩
 ·by_cases hs:i=s
  ·grind
  ·obtain ⟨h1,U⟩:=t.Eu i hi hs
   have:=h.slot i (av i hi hs) (by omega)
   omega
 ·by_cases hs:i=s
  ·grind
  ·obtain ⟨h1,U⟩:=t.Eu i hi hs
   have:=h.zero i (av i hi hs) (by omega)
   omega
 ·by_cases hs:i=s
  ·subst hs
   have xm:k≠i:=λe=>wv e.symm
   obtain ⟨h1,U⟩:=t.Eu k hk xm
   have:=t.free k (av k hk xm) xm (by omega)
   omega
  ·obtain ⟨h1,U⟩:=t.Eu i hi hs
   by_cases ry:k=s
   ·subst ry
    have:=t.free i (av i hi hs) hs (by omega)
    omega
   ·obtain ⟨h3,h4⟩:=t.Eu k hk ry
    have:=h.apart i k (av i hi hs) (av k hk ry) wv (by omega) (by omega)
    omega
 ·by_cases hs:pn q - 1=s
  ·rw[hs];omega
  ·obtain ⟨h1,U⟩:=t.Eu (pn q - 1) (by omega) hs
   have hq:pn q=pn p:=by
    rcases t.n with h3 | ⟨h3,h4⟩
    all_goals grind
   rw[U,hq]
   exact h.last (by omega)
theorem om.Ip {p q:List UInt8} {s a m:Nat} (t:om p q s a m) (h:bQ p) {i:Nat} (hi:i < pn q) (hs:i≠s):dt q i=dt p i:=by
 have uH:i < pn p:=by rcases t.n with h1 | ⟨h1,U⟩ <;> omega
 obtain ⟨h1,U⟩:=t.Eu i hi hs
 refine zg (ii (t.ok h) hi) (ii h uH) U λj hj=>?_
 have hz:au p i≠0:=by omega
 have h3:=h.slot i uH hz
 have h4:=t.free i uH hs hz
 rw[h1]
 exact t.same _ (by omega) (by omega) (by omega)
theorem om.J0 {p q:List UInt8} {s a:Nat} {c:List UInt8} (t:om p q s a c.length) (h:bQ p) (hc:∀ j,j < c.length->pb q (a+j)=pb c j):dt q s=c:=
 LB (ii (t.ok h) t.PY) t.sz λj hj=>by rw[t.at_];exact hc j hj
theorem om.cells {p q:List UInt8} {s a:Nat} {c:List UInt8} (t:om p q s a c.length) (h:bQ p) (hc:∀ j,j < c.length->pb q (a+j)=pb c j) (i:Nat):cellOf q i=if i=s then c else cellOf p i:=by
 have hs:=t.PY
 unfold cellOf
 by_cases lG:i=s
 ·subst lG
  rw[if_pos hs,if_pos rfl,t.J0 h hc]
 ·rw[if_neg lG]
  by_cases hi:i < pn q
  ·have uH:i < pn p:=by rcases t.n with h1 | ⟨h1,U⟩ <;> omega
   rw[if_pos hi,if_pos uH,t.Ip h hi lG]
  ·have uH:¬ i < pn p:=by rcases t.n with h1 | ⟨h1,U⟩ <;> omega
   grind
theorem jl {p:List UInt8} (h:bQ p) {i:Nat} (hi:i < pn p):cellOf p i=[]↔au p i=0:=by
 grind [cellOf,ii]
end OT
set_option linter.unusedVariables false
set_option linter.unusedSimpArgs false
namespace OT
open Go
def nw (p:List UInt8):Nat->Nat->Nat
 | 0,i=>i
 | m+1,i=>if au p i=0 then i else nw p m (i+1)
def cg (p:List UInt8):Nat:=nw p (pn p) 0
theorem yz (p:List UInt8):∀ (m i:Nat),i<=nw p m i/\nw p m i<=i+m/\(∀ j,i<=j->j < nw p m i->au p j≠0)/\(nw p m i < i+m->au p (nw p m i)=0)
 | 0,i=>by grind [nw]
 | m+1,i=>by
  simp only[nw]
  split
  ·grind
  ·rename_i h
   obtain ⟨h1,U,h3,h4⟩:=yz p m (i+1)
   grind
theorem mO (p:List UInt8):cg p<=pn p/\(∀ j,j < cg p->au p j≠0)/\(cg p < pn p->au p (cg p)=0):=by
 grind [yz,cg]
def fW (p:List UInt8):Nat->Nat
 | 0=>0
 | m+1=>fW p m+au p m
def kK (p:List UInt8):Int:=62 - 2*(pn p:Int) - (fW p (pn p):Int)
theorem ke (p:List UInt8) {a b:Nat} (h:a<=b):fW p a<=fW p b:=by
 induction b <;> grind [fW]
theorem Cj {α:Type} {a b:α->Bool}:∀ {l:List α},(∀ x ∈ l,a x=true->b x=true->False)->l.countP (λx=>a x||b x)=l.countP a+l.countP b
 | [],_=>rfl
 | x::l,h=>by
  have ih:=Cj (l:=l) λy hy=>h y (List.mem_cons_of_mem _ hy)
  grind
theorem vK (a m:Nat):∀ N,(List.range N).countP (λj=>decide (a<=j/\j < a+m))=min N (a+m) - min N a
 | 0=>by simp
 | N+1=>by
  rw[List.range_succ,List.countP_append,vK a m N]
  grind
def ly (p:List UInt8):Nat->Nat->Bool
 | 0,_=>false
 | k+1,j=>ly p k j||decide (pat p k<=j/\j < pat p k+au p k)
theorem BC {p:List UInt8}:∀ {k j:Nat},ly p k j=true->∃ i,i < k/\pat p i<=j/\j < pat p i+au p i
 | k+1,j,h=>by
  simp only[ly,Bool.or_eq_true,decide_eq_true_eq] at h
  rcases h with h | h
  ·obtain ⟨i,h1,U⟩:=BC h
   grind
  grind
theorem Ay {p:List UInt8} (h:bQ p):∀ k,k<=pn p->(List.range 64).countP (ly p k)=fW p k
 | 0,_=>by
  grind [ly,fW]
 | k+1,hk=>by
  have ih:=Ay h k (by omega)
  show (List.range 64).countP (λj=>ly p k j||decide (pat p k<=j/\j < pat p k+au p k))=fW p k+au p k
  rw[Cj,ih,vK]
  ·by_cases hz:au p k=0
   ·omega
   ·have:=h.slot k (by omega) hz
    omega
  ·intro j _ h1 U
   obtain ⟨i,h3,h4⟩:=BC h1
   simp only[decide_eq_true_eq] at U
   have:=h.apart i k (by omega) (by omega) (by omega) (by omega) (by omega)
   omega
theorem vL {p:List UInt8} (h:bQ p):fW p (pn p)+bJ p<=64:=by
 rw[<-Ay h (pn p) (Nat.le_refl _)]
 have h1:(List.range 64).countP (ly p (pn p))<=(List.range 64).countP (λj=>decide (bJ p<=j/\j < bJ p+(64 - bJ p))):=by
  refine List.countP_mono_left λj hj hc=>?_
  obtain ⟨i,h3,h4,h5⟩:=BC hc
  have:=h.slot i h3 (by omega)
  grind
 rw[vK] at h1
 have:=h.hi
 omega
theorem uI {p:List UInt8} (h:bQ p):0<=kK p/\kK p<=62:=by
 have:=vL h
 have:=h.lo
 grind [kK]
def mp (p:List UInt8):Nat:=if cg p=pn p then 1 else 0
def jH (p:List UInt8) (c:List UInt8):List UInt8:=((fl p (cg p) (bJ p - c.length) c).set 0 (UInt8.ofNat (pn p+mp p))).set 1 (UInt8.ofNat (bJ p - c.length))
def fN (p:List UInt8) (c:List UInt8):Int:=
 if cg p=pn p/\16<=pn p then 2
 else if kK p < (c.length:Int)+2*(mp p:Int) then 9
 else if bJ p < 2+2*(pn p+mp p)+c.length then 8
 else 0
theorem PZ {p c:List UInt8} (h:bQ p) (hc:fN p c=0) (j:Nat):pb (jH p c) j=if j=1 then bJ p - c.length else if j=0 then pn p+mp p else pb (fl p (cg p) (bJ p - c.length) c) j:=by
 unfold fN at hc
 split at hc
 ·cases hc
 ·split at hc
  ·cases hc
  ·split at hc
   ·cases hc
   ·have hl:(fl p (cg p) (bJ p - c.length) c).length=64:=jw h.len _ (by have:=h.hi;omega)
    have yt:=h.hi
    grind [jH,lV,ofNat_toNat]
theorem Iq {p c:List UInt8} (h:bQ p) (fj:1<=c.length) (hc:fN p c=0):om p (jH p c) (cg p) (bJ p - c.length) c.length/\∀ j,j < c.length->pb (jH p c) (bJ p - c.length+j)=pb c j:=by
 have hb:=PZ h hc
 obtain ⟨e1,e2,e3⟩:=mO p
 unfold fN at hc
 split at hc
 ·cases hc
 rename_i c1
 split at hc
 ·cases hc
 split at hc
 ·cases hc
 rename_i c3
 have yt:=h.hi
 have oc:=h.lo
 have hn:=h.n
 have hm:(cg p=pn p/\mp p=1)\/(cg p < pn p/\mp p=0):=by grind [mp]
 have hs:cg p < 16:=by omega
 have hlen:(jH p c).length=64:=by
  unfold jH
  rw[List.length_set,List.length_set,jw h.len _ (by omega)]
 have i_:∀ j,pb (fl p (cg p) (bJ p - c.length) c) j=_:=qg h.len (a:=bJ p - c.length) (c:=c) (by omega) hs
 have yA:pn (jH p c)=pn p+mp p:=by show pb _ 0=_;rw[hb];simp
 have dh:bJ (jH p c)=bJ p - c.length:=by show pb _ 1=_;rw[hb];simp
 refine ⟨⟨hlen,by omega,by omega,by omega,by omega,by omega,?_,?_,by omega,by omega,by omega,λi hi lG=>?_,λi hi lG hz=>?_,λj j1 j2 j3=>?_⟩,λj hj=>?_⟩
 ·show pb _ _=_
  grind
 ·show pb _ _=_
  grind
 ·constructor
  ·show pb _ _=pb _ _
   grind
  ·show pb _ _=pb _ _
   grind
 ·have:=h.slot i hi hz
  omega
 all_goals grind
theorem nP {p c:List UInt8} (h:bQ p) (fj:1<=c.length) (hc:fN p c=0):bQ (jH p c)/\(∀ i,cellOf (jH p c) i=if i=cg p then c else cellOf p i)/\cellOf p (cg p)=[]:=by
 obtain ⟨t,hb⟩:=Iq h fj hc
 refine ⟨t.ok h,t.cells h hb,?_⟩
 grind [mO,jl,cellOf]
def pM (p:List UInt8) (s:Nat) (c:List UInt8):List UInt8:=if c.length<=au p s then fl p s (pat p s+au p s - c.length) c else (fl p s (bJ p - c.length) c).set 1 (UInt8.ofNat (bJ p - c.length))
def jT (p:List UInt8) (s:Nat) (c:List UInt8):Int:=
 if c.length<=au p s then 0
 else if kK p+(au p s:Int) < (c.length:Int) then 9
 else if bJ p < 2+2*pn p+c.length then 8
 else 0
theorem Ir {p c:List UInt8} {s:Nat} (h:bQ p) (hs:s < pn p) (hz:au p s≠0) (fj:1<=c.length) (hc:jT p s c=0):∃ a,om p (pM p s c) s a c.length/\∀ j,j < c.length->pb (pM p s c) (a+j)=pb c j:=by
 have yt:=h.hi
 have oc:=h.lo
 have hn:=h.n
 have fJ:=h.slot s hs hz
 unfold jT at hc
 split at hc
 ·rename_i c1
  unfold pM
  rw[if_pos c1]
  have i_:∀ j,pb (fl p s (pat p s+au p s - c.length) c) j=_:=qg h.len (a:=pat p s+au p s - c.length) (c:=c) (by omega) (by omega)
  have yA:pn (fl p s (pat p s+au p s - c.length) c)=pn p:=by
   show pb _ 0=pb p 0;grind
  have dh:bJ (fl p s (pat p s+au p s - c.length) c)=bJ p:=by
   show pb _ 1=pb p 1;grind
  refine ⟨pat p s+au p s - c.length,⟨jw h.len _ (by omega),by omega,by omega,by omega,by omega,by omega,?_,?_,by omega,by omega,by omega,λi hi lG=>?_,λi hi lG DK=>?_,λj j1 j2 j3=>?_⟩,λj hj=>?_⟩
  ·show pb _ _=_
   grind
  ·show pb _ _=_
   grind
  ·constructor
   ·show pb _ _=pb _ _
    grind
   ·show pb _ _=pb _ _
    grind
  ·have:=h.apart i s hi hs lG DK hz
   omega
  all_goals grind
 ·rename_i c1
  split at hc
  ·cases hc
  split at hc
  ·cases hc
  rename_i c3
  have hq:pM p s c=(fl p s (bJ p - c.length) c).set 1 (UInt8.ofNat (bJ p - c.length)):=by grind [pM]
  rw[hq]
  have hl:(fl p s (bJ p - c.length) c).length=64:=jw h.len _ (by omega)
  have i_:∀ j,pb (fl p s (bJ p - c.length) c) j=_:=qg h.len (a:=bJ p - c.length) (c:=c) (by omega) (by omega)
  have hb:∀ j,pb ((fl p s (bJ p - c.length) c).set 1 (UInt8.ofNat (bJ p - c.length))) j=if j=1 then bJ p - c.length else pb (fl p s (bJ p - c.length) c) j:=λj=>by
   grind [lV,ofNat_toNat]
  have yA:pn ((fl p s (bJ p - c.length) c).set 1 (UInt8.ofNat (bJ p - c.length)))=pn p:=by
   show pb _ 0=pb p 0;grind
  have dh:bJ ((fl p s (bJ p - c.length) c).set 1 (UInt8.ofNat (bJ p - c.length)))=bJ p - c.length:=by
   show pb _ 1=_;grind
  refine ⟨bJ p - c.length,⟨by grind,by omega,by omega,by omega,by omega,by omega,?_,?_,by omega,by omega,by omega,λi hi lG=>?_,λi hi lG DK=>?_,λj j1 j2 j3=>?_⟩,λj hj=>?_⟩
  ·show pb _ _=_
   grind
  ·show pb _ _=_
   grind
  ·constructor
   ·show pb _ _=pb _ _
    grind
   ·show pb _ _=pb _ _
    grind
  ·have:=h.slot i hi DK
   omega
  all_goals grind
theorem qh {p c:List UInt8} {s:Nat} (h:bQ p) (hs:s < pn p) (hz:au p s≠0) (fj:1<=c.length) (hc:jT p s c=0):bQ (pM p s c)/\(∀ i,cellOf (pM p s c) i=if i=s then c else cellOf p i):=by
 obtain ⟨a,t,hb⟩:=Ir h hs hz fj hc
 exact ⟨t.ok h,t.cells h hb⟩
def mq (q:List UInt8):Nat->Nat
 | 0=>0
 | m+1=>if au q m=0 then mq q m else m+1
def li (p:List UInt8) (s:Nat):List UInt8:=(p.set (2+2*s) 0).set (3+2*s) 0
def jC (p:List UInt8) (s:Nat):List UInt8:=(li p s).set 0 (UInt8.ofNat (mq (li p s) (pn p)))
theorem vM (q:List UInt8):∀ m,mq q m<=m/\(∀ i,mq q m<=i->i < m->au q i=0)/\(0 < mq q m->au q (mq q m - 1)≠0)
 | 0=>by grind [mq]
 | m+1=>by
  simp only[mq]
  obtain ⟨h1,U,h3⟩:=vM q m
  grind
theorem vN {p:List UInt8} {s:Nat} (h:bQ p) (hs:s < pn p):bQ (jC p s)/\(∀ i,cellOf (jC p s) i=if i=s then [] else cellOf p i):=by
 have yt:=h.hi
 have oc:=h.lo
 have hn:=h.n
 have hlen:=h.len
 have Ja:∀ j,pb (li p s) j=if j=3+2*s\/j=2+2*s then 0 else pb p j:=λj=>by
  grind [li,lV]
 have OW:(li p s).length=64:=by grind [li]
 obtain ⟨t1,t2,t3⟩:=vM (li p s) (pn p)
 have hb:∀ j,pb (jC p s) j=if j=0 then mq (li p s) (pn p) else if j=3+2*s\/j=2+2*s then 0 else pb p j:=λj=>by
  grind [jC,lV,ofNat_toNat]
 have yA:pn (jC p s)=mq (li p s) (pn p):=by show pb _ 0=_;grind
 have dh:bJ (jC p s)=bJ p:=by show pb _ 1=pb p 1;grind
 have Xg:∀ i,au (jC p s) i=au (li p s) i:=λi=>by
  show pb _ _=pb _ _
  grind
 have Ud:au (jC p s) s=0/\pat (jC p s) s=0:=by
  constructor
  ·show pb _ _=_;grind
  ·show pb _ _=_;grind
 have J1:∀ i,i≠s->au (jC p s) i=au p i/\pat (jC p s) i=pat p i:=λi hi=>by
  constructor
  ·show pb _ _=pb _ _;grind
  ·show pb _ _=pb _ _;grind
 have ao:bQ (jC p s):=by
  refine ⟨by grind [jC],by omega,by omega,by omega,λi hi hz=>?_,λi hi hz=>?_,λi k hi hk wv z1 z2=>?_,λhn=>?_⟩
  ·by_cases lG:i=s
   ·grind
   ·obtain ⟨g1,g2⟩:=J1 i lG
    have:=h.slot i (by omega) (by omega)
    omega
  ·by_cases lG:i=s
   ·grind
   ·obtain ⟨g1,g2⟩:=J1 i lG
    have:=h.zero i (by omega) (by omega)
    omega
  ·have lG:i≠s:=λe=>by grind
   have xm:k≠s:=λe=>by grind
   obtain ⟨g1,g2⟩:=J1 i lG
   obtain ⟨g3,g4⟩:=J1 k xm
   have:=h.apart i k (by omega) (by omega) wv (by omega) (by omega)
   omega
  grind
 refine ⟨ao,λi=>?_⟩
 by_cases lG:i=s
 ·grind [jl,cellOf]
 ·rw[if_neg lG]
  obtain ⟨g1,g2⟩:=J1 i lG
  by_cases hi:i < pn (jC p s)
  ·have uH:i < pn p:=by omega
   unfold cellOf
   rw[if_pos hi,if_pos uH]
   refine zg (ii ao hi) (ii h uH) g1 λj hj=>?_
   have:=h.slot i uH (by omega)
   grind
  grind [cellOf,jl]
def rN (p:List UInt8) (s:List UInt8×Nat) (i:Nat):List UInt8×Nat:=if au p i=0 then s else (fl s.1 i (s.2 - au p i) (dt p i),s.2 - au p i)
def qy (p:List UInt8):List UInt8:=p.take (2+2*pn p)++List.replicate (62 - 2*pn p) (0:UInt8)
def dG (p:List UInt8) (k:Nat):List UInt8×Nat:=(List.range k).foldl (rN p) (qy p,64)
def fF (p:List UInt8):List UInt8:=(dG p (pn p)).1.set 1 (UInt8.ofNat (dG p (pn p)).2)
theorem vO (p:List UInt8) (k:Nat):dG p (k+1)=rN p (dG p k) k:=by
 grind [dG,List.range_succ]
structure Rq (p:List UInt8) (k:Nat) (o:List UInt8) (a:Nat):Prop where
 len:o.length=64
 n:pb o 0=pn p
 a:a=64 - fW p k
 sz:∀ i,i < pn p->au o i=au p i
 P0:∀ i,i < pn p->(k<=i\/au p i=0)->pat o i=pat p i
 new:∀ i,i < k->au p i≠0->pat o i=64 - fW p (i+1)/\∀ j,j < au p i->pb o (64 - fW p (i+1)+j)=pb p (pat p i+j)
theorem vP {p:List UInt8} (h:bQ p):∀ k,k<=pn p->Rq p k (dG p k).1 (dG p k).2
 | 0,_=>by
  have hn:=h.n
  have hlen:=h.len
  have hl:(qy p).length=64:=by grind [qy]
  have hb:∀ j,j < 2+2*pn p->pb (qy p) j=pb p j:=λj hj=>by
   grind [pb,qy]
  refine ⟨hl,hb 0 (by omega),by simp only[fW];rfl,λi hi=>?_,λi hi _=>?_,λi hi=>by omega⟩
  ·exact hb _ (by omega)
  ·exact hb _ (by omega)
 | k+1,hk=>by
  have ih:=vP h k (by omega)
  rw[vO]
  unfold rN
  have zZ:=vL h
  have Rr:=ke p (show k+1<=pn p from hk)
  have oc:=h.lo
  have hn:=h.n
  simp only[fW] at Rr
  by_cases hz:au p k=0
  ·rw[if_pos hz]
   refine ⟨ih.len,ih.n,?_,ih.sz,λi hi ho=>ih.P0 i hi (by grind),λi hi yB=>?_⟩
   ·rw[ih.a];grind [fW]
   ·have:i≠k:=λe=>by grind
    exact ih.new i (by omega) yB
  ·rw[if_neg hz]
   have qI:(dt p k).length=au p k:=ii h (by omega)
   have ha:=ih.a
   have sA:(dG p k).2 - au p k+(dt p k).length<=64:=by omega
   have i_:∀ j,pb (fl (dG p k).1 k ((dG p k).2 - au p k) (dt p k)) j=_:=qg ih.len (a:=(dG p k).2 - au p k) (c:=dt p k) sA (by omega)
   refine ⟨jw ih.len _ sA,?_,by grind [fW],λi hi=>?_,λi hi ho=>?_,λi hi yB=>?_⟩
   ·rw[i_,if_neg (by omega),if_neg (by omega),if_neg (by omega)];exact ih.n
   ·show pb _ _=_
    rw[i_]
    by_cases wv:i=k
    ·grind
    ·rw[if_neg (by omega),if_neg (by omega),if_neg (by omega)]
     exact ih.sz i hi
   ·have wv:i≠k:=λe=>by grind
    show pb _ _=_
    rw[i_,if_neg (by omega),if_neg (by omega),if_neg (by omega)]
    exact ih.P0 i hi (by grind)
   ·by_cases wv:i=k
    ·subst wv
     constructor
     ·show pb _ _=_
      grind [fW]
     grind [fW,zf]
    ·have Xh:=ke p (show i+1<=k by omega)
     have Xi:=ke p (show i+1<=pn p by omega)
     obtain ⟨g1,g2⟩:=ih.new i (by omega) yB
     constructor
     ·show pb _ _=_
      rw[i_,if_neg (by omega),if_neg (by omega),if_neg (by omega)]
      exact g1
     grind
theorem kF {p:List UInt8} (h:bQ p):bQ (fF p)/\(∀ i,cellOf (fF p) i=cellOf p i)/\pn (fF p)=pn p:=by
 have I:=vP h (pn p) (Nat.le_refl _)
 have zZ:=vL h
 have oc:=h.lo
 have hn:=h.n
 have ha:=I.a
 have hb:∀ j,pb (fF p) j=if j=1 then (dG p (pn p)).2 else pb (dG p (pn p)).1 j:=λj=>by
  unfold fF
  rw[lV,I.len,ofNat_toNat (by omega)]
  grind
 have yA:pn (fF p)=pn p:=by show pb _ 0=_;rw[hb,if_neg (by omega)];exact I.n
 have dh:bJ (fF p)=64 - fW p (pn p):=by show pb _ 1=_;grind
 have hz:∀ i,i < pn p->au (fF p) i=au p i:=λi hi=>by show pb _ _=_;rw[hb,if_neg (by omega)];exact I.sz i hi
 have gr:∀ i,i < pn p->au p i≠0->pat (fF p) i=64 - fW p (i+1):=λi hi yB=>by show pb _ _=_;rw[hb,if_neg (by omega)];exact (I.new i hi yB).1
 have ao:bQ (fF p):=by
  refine ⟨by unfold fF;rw[List.length_set];exact I.len,by omega,by omega,by omega,λi hi yB=>?_,λi hi yB=>?_,λi k hi hk wv z1 z2=>?_,λhn=>?_⟩
  ·have h1:=hz i (by omega)
   have U:=gr i (by omega) (by omega)
   have h3:=ke p (show i+1<=pn p by omega)
   grind [fW]
  ·have h1:=hz i (by omega)
   show pb _ _=_
   rw[hb,if_neg (by omega)]
   exact (I.P0 i (by omega) (Or.inr (by omega))).trans (h.zero i (by omega) (by omega))
  ·have h1:=hz i (by omega)
   have U:=gr i (by omega) (by omega)
   have h3:=hz k (by omega)
   have h4:=gr k (by omega) (by omega)
   have e1:fW p (i+1)=fW p i+au p i:=rfl
   have e2:fW p (k+1)=fW p k+au p k:=rfl
   have m1:=ke p (show i+1<=pn p by omega)
   have m2:=ke p (show k+1<=pn p by omega)
   rcases Nat.lt_or_gt_of_ne wv with h6 | h6
   ·have:=ke p (show i+1<=k from h6)
    omega
   ·have:=ke p (show k+1<=i from h6)
    omega
  ·rw[yA,hz _ (by omega)]
   exact h.last (by omega)
 refine ⟨ao,λi=>?_,yA⟩
 unfold cellOf
 rw[yA]
 by_cases hi:i < pn p
 ·rw[if_pos hi,if_pos hi]
  refine zg (ii ao (by omega)) (ii h hi) (hz i hi) λj hj=>?_
  have h1:=hz i hi
  have yB:au p i≠0:=by omega
  rw[gr i hi yB,hb,if_neg (by
   have:=ke p (show i+1<=pn p by omega)
   omega)]
  exact (I.new i hi yB).2 j (by omega)
 grind
def mr:List UInt8:=((List.replicate 64 (0:UInt8)).set 0 0).set 1 64
theorem oF:bQ mr/\∀ i,cellOf mr i=[]:=by
 refine ⟨lh.1 (by decide +kernel),λi=>?_⟩
 unfold cellOf
 rw[if_neg (by show ¬ i < 0;omega)]
end OT
set_option linter.unusedVariables false
set_option linter.unusedSimpArgs false
namespace OT
open Go
theorem Ck {i:Nat} (h:i < 1000):ag ((3:Int)+ag ((2:Int)*(i:Int)))=((3+2*i:Nat):Int):=by
 grind [ba]
theorem uJ {i:Nat} (h:i < 1000):ag ((2:Int)+ag ((2:Int)*(i:Int)))=((2+2*i:Nat):Int):=by
 grind [ba]
theorem tM (p:List UInt8) (i:Nat):ag ((pb p i:Nat):Int)=((pb p i:Nat):Int):=by
 grind [fE,ba]
theorem ci {R:Type} {p:List UInt8} {i:Nat} (h:i < p.length) (K:UInt8->Option R):(p[i]?).bind K=K p[i]:=by grind
section
variable {p:List UInt8} (hp:p.length=64)
include hp
theorem gw:a_.aa (p,())=some ((pn p:Int),()):=by
 refine aj (k:=0) λk _=>(a_.af k _).trans ?_
 show a_.p _=_
 unfold a_.p
 simp only[ci (show 0 < p.length by omega),(dF (show 0 < p.length by omega)).2,tM]
 rfl
theorem l7:bT.aa (p,())=some ((pn p:Int),()):=by
 refine aj (k:=0) λk _=>(bT.af k _).trans ?_
 show bT.p _=_
 unfold bT.p
 simp only[ci (show 0 < p.length by omega),(dF (show 0 < p.length by omega)).2,tM]
 rfl
theorem ya:ek.aa (p,())=some ((bJ p:Int),()):=by
 refine aj (k:=0) λk _=>(ek.af k _).trans ?_
 show ek.p _=_
 unfold ek.p
 simp only[ci (show 1 < p.length by omega),(dF (show 1 < p.length by omega)).2,tM]
 rfl
theorem jf {i:Nat} (hi:i < 16):aP.aa (p,(i:Int),())=some ((au p i:Int),()):=by
 refine aj (k:=0) λk _=>(aP.af k _).trans ?_
 show aP.p _=_
 unfold aP.p
 simp only[Ck (show i < 1000 by omega),Int.natCast_nonneg,if_true,Int.toNat_natCast,ci (show 3+2*i < p.length by omega),(dF (show 3+2*i < p.length by omega)).2,tM]
 rfl
theorem qS {i:Nat} (hi:i < 16):cK.aa (p,(i:Int),())=some ((pat p i:Int),()):=by
 refine aj (k:=0) λk _=>(cK.af k _).trans ?_
 show cK.p _=_
 unfold cK.p
 simp only[uJ (show i < 1000 by omega),Int.natCast_nonneg,if_true,Int.toNat_natCast,ci (show 2+2*i < p.length by omega),(dF (show 2+2*i < p.length by omega)).2,tM]
 rfl
theorem sQ {i:Nat} (hi:i < 16):ff.aa (p,(i:Int),())=some ((pat p i:Int),(au p i:Int),()):=by
 refine aj (k:=0) λk _=>(ff.af k _).trans ?_
 show ff.p _=_
 unfold ff.p
 simp only[uJ (show i < 1000 by omega),Ck (show i < 1000 by omega),Int.natCast_nonneg,if_true,Int.toNat_natCast,ci (show 2+2*i < p.length by omega),(dF (show 2+2*i < p.length by omega)).2,ci (show 3+2*i < p.length by omega),(dF (show 3+2*i < p.length by omega)).2,tM]
 rfl
theorem LC {i:Nat} (hi:i < 16):lu.aa (p,(i:Int),())=some (pK p i,()):=by
 refine aj (k:=0) λk _=>(lu.af k _).trans ?_
 grind [lu.p,pK,fE,pat,au,ba,qS,jf,ya,decide]
theorem J2 {i j:Nat} (hi:i < 16) (hj:j < 16):jv.aa (p,(i:Int),(j:Int),())=some (lW p i j,()):=by
 refine aj (k:=0) λk _=>(jv.af k _).trans ?_
 show jv.p _=_
 unfold jv.p lW
 have h1:pat p i < 256:=fE p _
 have U:au p i < 256:=fE p _
 have h3:pat p j < 256:=fE p _
 have h4:au p j < 256:=fE p _
 have hw:ag ((pat p i:Int)+(au p i:Int))=((pat p i+au p i:Nat):Int):=by grind [ba]
 have tA:ag ((pat p j:Int)+(au p j:Int))=((pat p j+au p j:Nat):Int):=by grind [ba]
 simp only[qS hp hi,jf hp hi,qS hp hj,jf hp hj,Option.bind_some,hw,tA]
 grind [decide]
end
theorem mP {O:Type} (q:Nat->Bool) (bad e:O):∀ (xs:List Nat) (i:Nat),cS (λ_ (_:Unit) x=>if q x then .inr () else .inl bad) (λ_=>e) i xs ()=if xs.all q then e else bad:=λxs i=>nL q bad (λ_=>e) xs i
theorem FM (p:List UInt8) (hl:p.length<=maxLen):be.aa (p,())=some (pL p,()):=by
 refine aj (k:=100) λk hk=>(be.af k _).trans ?_
 unfold be.p pL
 have e0:decide ((p.length:Int)=64)=decide (p.length=64):=by grind
 rw[e0]
 by_cases hp:p.length=64
 rotate_left
 ·grind
 have hn:pn p < 256:=fE p 0
 have oc:bJ p < 256:=fE p 1
 have hw:ag ((2:Int)+ag ((2:Int)*(pn p:Int)))=((2+2*pn p:Nat):Int):=uJ (by omega)
 simp only[hp,decide_true,Bool.not_true,cond_false,gw hp,ya hp,Option.bind_some,hw,if_true]
 by_cases c1:pn p<=16
 rotate_left
 ·grind
 have n1:¬ ((16:Int) < (pn p:Int)):=by omega
 simp only[n1,decide_false,cond_false,c1,true_and]
 by_cases c2:2+2*pn p<=bJ p
 rotate_left
 ·grind
 have n2:¬ ((bJ p:Int) < ((2+2*pn p:Nat):Int)):=by omega
 simp only[n2,decide_false,cond_false,c2,true_and]
 by_cases c3:bJ p<=64
 rotate_left
 ·grind
 have n3:¬ ((64:Int) < (bJ p:Int)):=by omega
 simp only[n3,decide_false,cond_false,c3,if_true]
 have inner:∀ (self:((List UInt8)×Int×Int)->Option be.Out) (e2:((List UInt8)×Int)->Option be.Out) (i:Nat) (hi:i < pn p),be.r2 k self e2 (p,()) p (pn p:Int) (i:Int) (0:Int)=if (List.range i).all (lW p i) then self (p,(pn p:Int),ag ((i:Int)+1)) else some ((8:Int),()):=λself e2 i hi=>by
  have:=eo (B:=λfO v=>be.B2 k fO (λz=>be.Q1 k self e2 (p,()) p (pn p:Int) (i:Int) z) (p,()) p (pn p:Int) (i:Int) v) (List.range i) (λ(_:Unit) (j:Int)=>j) (λ_ _ x=>if lW p i x then .inr () else .inl (some ((8:Int),()))) (λ_=>self (p,(pn p:Int),ag ((i:Int)+1))) (λ_ _=>True) (by grind)
   (λj hj s fO _=>by
    grind [be.b2,J2])
   (λ_ _ _ _ _ _=>trivial) (λs fO _=>by
    rw[List.length_range]
    show be.b2 _ _ _ _ _ _ _=_
    unfold be.b2
    simp only[Int.lt_irrefl,decide_false,cond_false]
    rfl) () trivial k (by grind)
  rw[mP] at this
  exact this
 have outer:be.r1 k (p,()) (pn p:Int) (p,(pn p:Int),(0:Int))=if (List.range (pn p)).all (λi=>(List.range i).all (lW p i)) then be.Q2 k (p,()) (p,(pn p:Int)) else some ((8:Int),()):=by
  have:=eo (B:=λself v=>be.B1 k self (λz=>be.Q2 k (p,()) z) (p,()) v) (List.range (pn p)) (λ(_:Unit) (i:Int)=>(p,(pn p:Int),i)) (λ_ _ x=>if (List.range x).all (lW p x) then .inr () else .inl (some ((8:Int),()))) (λ_=>be.Q2 k (p,()) (p,(pn p:Int))) (λ_ _=>True) (by grind)
   (λi hi s self _=>by
    rw[List.length_range] at hi
    show be.b1 _ _ _ _ _=_
    grind [be.b1])
   (λ_ _ _ _ _ _=>trivial) (λs self _=>by
    rw[List.length_range]
    show be.b1 _ _ _ _ _=_
    grind [be.b1]) () trivial k (by grind)
  rw[mP] at this
  exact this
 have first:be.r0 k (p,()) (pn p:Int) (0:Int)=if (List.range (pn p)).all (pK p) then be.r1 k (p,()) (pn p:Int) (p,(pn p:Int),(0:Int)) else some ((3:Int),()):=by
  have:=eo (B:=λself v=>be.B0 k self (λz=>be.Q0 k (p,()) (pn p:Int) z) (p,()) (pn p:Int) v) (List.range (pn p)) (λ(_:Unit) (i:Int)=>i) (λ_ _ x=>if pK p x then .inr () else .inl (some ((3:Int),()))) (λ_=>be.r1 k (p,()) (pn p:Int) (p,(pn p:Int),(0:Int))) (λ_ _=>True) (by grind)
   (λi hi s self _=>by
    grind [be.b0,LC])
   (λ_ _ _ _ _ _=>trivial) (λs self _=>by
    rw[List.length_range]
    show be.b0 _ _ _ _ _=_
    unfold be.b0
    simp only[Int.lt_irrefl,decide_false,cond_false]
    rfl) () trivial k (by grind)
  rw[mP] at this
  exact this
 grind [be.q2,ba,jf,au]
theorem xn {S O:Type} (q:Nat->Bool) (g:Nat->S) (bad e:O):∀ (xs:List Nat) (i:Nat) (s:S),cS (λ_ s x=>if q x then .inl bad else .inr (g x)) (λ_=>e) i xs s=if xs.any q then bad else e
 | [],_,_=>rfl
 | x::xs,i,s=>by
  simp only[cS,List.any_cons]
  by_cases h:q x=true
  ·simp[h]
  ·simp[h,xn q g bad e xs (i+1)]
def qi (p:List UInt8) (i t:Nat):List Bool:=(List.range 64).map λj=>ly p i j||decide (pat p i<=j/\j < pat p i+t)
def yb (p:List UInt8) (i:Nat):Bool:=(List.range (au p i)).any λt=>ly p i (pat p i+t)
theorem J3 (p:List UInt8) (i:Nat):qi p i 0=(List.range 64).map (ly p i):=by
 grind [qi,List.map_congr_left]
theorem J4 (p:List UInt8) (i:Nat):qi p i (au p i)=(List.range 64).map (ly p (i+1)):=rfl
theorem zh (p:List UInt8) (i t j:Nat) (h:j < 64):(qi p i t)[j]?=some (ly p i j||decide (pat p i<=j/\j < pat p i+t)):=by
 grind [qi]
theorem zi (p:List UInt8) (i t:Nat):(qi p i t).length=64:=by simp[qi]
theorem J5 (p:List UInt8) (i t:Nat) (h:pat p i+t < 64):(qi p i t).set (pat p i+t) true=qi p i (t+1):=by
 refine List.ext_getElem? λj=>?_
 rw[List.getElem?_set,zi]
 by_cases hj:j < 64
 ·rw[zh p i t j hj,zh p i (t+1) j hj]
  by_cases e:pat p i+t=j
  ·subst e
   grind
  ·rw[if_neg e]
   have:(pat p i<=j/\j < pat p i+t)↔(pat p i<=j/\j < pat p i+(t+1)):=by omega
   grind
 grind [zi]
theorem Ev {p:List UInt8}:∀ {k j:Nat},ly p k j=true↔∃ i,i < k/\pat p i<=j/\j < pat p i+au p i
 | 0,j=>by simp[ly]
 | k+1,j=>by
  simp only[ly,Bool.or_eq_true,decide_eq_true_eq,Ev (k:=k)]
  grind
theorem Is (p:List UInt8) (i:Nat):yb p i=!(List.range i).all (lW p i):=by
 rw[Bool.eq_iff_iff]
 simp only[yb,List.any_eq_true,List.mem_range,Ev,Bool.not_eq_true',List.all_eq_false,Bool.not_eq_true]
 constructor
 ·rintro ⟨t,ht,k,hk,h1,U⟩
  refine ⟨k,hk,?_⟩
  grind [lW]
 ·rintro ⟨k,hk,h⟩
  have hn:¬ (au p i≠0->au p k≠0->pat p i+au p i<=pat p k\/pat p k+au p k<=pat p i):=λU=>by rw[vJ.2 U] at h;cases h
  by_cases c1:au p i=0
  ·grind
  ·by_cases c2:au p k=0
   ·grind
   ·have c3:¬ (pat p i+au p i<=pat p k):=λh3=>hn λ_ _=>.inl h3
    have c4:¬ (pat p k+au p k<=pat p i):=λh3=>hn λ_ _=>.inr h3
    exact ⟨max (pat p i) (pat p k) - pat p i,by omega,k,hk,by omega,by omega⟩
theorem LD (p:List UInt8) (n:Nat):(List.range n).any (yb p)=!(List.range n).all (λi=>(List.range i).all (lW p i)):=by
 grind [Is]
theorem qz (p:List UInt8) (hl:p.length<=maxLen):az.aa (p,())=some (pL p,()):=by
 refine aj (k:=300) λk hk=>(az.af k _).trans ?_
 unfold az.p pL
 have e0:decide ((p.length:Int)=64)=decide (p.length=64):=by grind
 rw[e0]
 by_cases hp:p.length=64
 rotate_left
 ·grind
 have hn:pn p < 256:=fE p 0
 have oc:bJ p < 256:=fE p 1
 have hw:ag ((2:Int)+ag ((2:Int)*(pn p:Int)))=((2+2*pn p:Nat):Int):=uJ (by omega)
 have I4:((p[1]'(by omega)).toNat)=bJ p:=(dF (show 1 < p.length by omega)).2
 have VF:ag (bJ p:Int)=(bJ p:Int):=tM p 1
 simp only[hp,decide_true,Bool.not_true,cond_false,ci (show 1 < p.length by omega),I4,VF,l7 hp,Option.bind_some,hw,if_true]
 by_cases c1:pn p<=16
 rotate_left
 ·grind
 have n1:¬ ((16:Int) < (pn p:Int)):=by omega
 simp only[n1,decide_false,cond_false,c1,true_and]
 by_cases c2:2+2*pn p<=bJ p
 rotate_left
 ·grind
 have n2:¬ ((bJ p:Int) < ((2+2*pn p:Nat):Int)):=by omega
 simp only[n2,decide_false,cond_false,c2,true_and]
 by_cases c3:bJ p<=64
 rotate_left
 ·grind
 have n3:¬ ((64:Int) < (bJ p:Int)):=by omega
 simp only[n3,decide_false,cond_false,c3,if_true]
 have first:az.r0 k (p,()) (pn p:Int) (bJ p:Int) (0:Int)=if (List.range (pn p)).all (pK p) then az.Q0 k (p,()) (pn p:Int) (bJ p:Int) () else some ((3:Int),()):=by
  have:=eo (B:=λself v=>az.B0 k self (λz=>az.Q0 k (p,()) (pn p:Int) (bJ p:Int) z) (p,()) (pn p:Int) (bJ p:Int) v) (List.range (pn p)) (λ(_:Unit) (i:Int)=>i) (λ_ _ x=>if pK p x then .inr () else .inl (some ((3:Int),()))) (λ_=>az.Q0 k (p,()) (pn p:Int) (bJ p:Int) ()) (λ_ _=>True) (by grind)
   (λi hi s self _=>by
    rw[List.length_range] at hi
    grind [az.b0,pat,fE,au,ba,sQ,pK])
   (λ_ _ _ _ _ _=>trivial) (λs self _=>by
    grind [az.b0]) () trivial k (by grind)
  rw[mP] at this
  exact this
 rw[first]
 by_cases fJ:(List.range (pn p)).all (pK p)=true
 rotate_left
 ·grind
 simp only[fJ,if_true]
 have hs:∀ i,i < pn p->au p i≠0->bJ p<=pat p i/\pat p i+au p i<=64:=λi hi=>((xl (by omega)).1 (List.all_eq_true.1 fJ i (List.mem_range.2 hi))).1
 have inner:∀ (self:((List UInt8)×Int×(List Bool)×Int×Int)->Option az.Out) (e2:((List UInt8)×Int)->Option az.Out) (i:Nat) (hi:i < pn p),az.r2 k self e2 (p,()) p (pn p:Int) (pat p i:Int) (au p i:Int) (pn p:Int) (i:Int) ((List.range 64).map (ly p i),(pat p i:Int))=if yb p i then some ((8:Int),()) else self (p,(pn p:Int),(List.range 64).map (ly p (i+1)),(pn p:Int),ag ((i:Int)+1)):=λself e2 i hi=>by
  have h1:pat p i < 256:=fE p _
  have U:au p i < 256:=fE p _
  have tA:ag ((pat p i:Int)+(au p i:Int))=((pat p i+au p i:Nat):Int):=by grind [ba]
  have:=eo (B:=λfO v=>az.B2 k fO (λz=>az.Q1 k self e2 (p,()) p (pn p:Int) (pat p i:Int) (au p i:Int) (pn p:Int) (i:Int) z) (p,()) p (pn p:Int) (pat p i:Int) (au p i:Int) (pn p:Int) (i:Int) v) (List.range (au p i)) (λ(s:List Bool) (t:Int)=>(s,(pat p i:Int)+t)) (λ_ s t=>if ly p i (pat p i+t) then .inl (some ((8:Int),())) else .inr (qi p i (t+1))) (λ_=>self (p,(pn p:Int),(List.range 64).map (ly p (i+1)),(pn p:Int),ag ((i:Int)+1))) (λt s=>s=qi p i t) (by grind)
   (λt ht s fO hI=>by
    rw[List.length_range] at ht
    subst hI
    obtain ⟨g1,g2⟩:=hs i hi (by omega)
    show az.b2 _ _ _ _ _ _ _ _ _ _=_
    unfold az.b2
    have av:(pat p i:Int)+(t:Int) < ((pat p i+au p i:Nat):Int):=by omega
    have yC:(0:Int)<=(pat p i:Int)+(t:Int):=by omega
    have hlen:(pat p i:Int)+(t:Int) < ((qi p i t).length:Int):=by rw[zi];omega
    have Sy:((pat p i:Int)+(t:Int)).toNat=pat p i+t:=by omega
    have O8:¬ (pat p i<=pat p i+t/\pat p i+t < pat p i+t):=by omega
    have Xj:ag ((pat p i:Int)+(t:Int)+1)=(pat p i:Int)+ag ((t:Int)+1):=by grind [ba]
    grind [zh,J5])
   (λt ht s s' hI hf=>by
    grind) (λs fO hI=>by
    rw[List.length_range] at hI ⊢
    show az.b2 _ _ _ _ _ _ _ _ _ _=_
    unfold az.b2
    have av:¬ ((pat p i:Int)+(au p i:Int) < ((pat p i+au p i:Nat):Int)):=by omega
    simp only[tA,av,decide_false,cond_false]
    rw[hI,J4]
    rfl) (qi p i 0) rfl k (by grind)
  rw[xn] at this
  rw[<-J3]
  simp only[Int.add_zero] at this
  exact this
 have outer:az.r1 k (p,()) (pn p:Int) (bJ p:Int) (p,(pn p:Int),List.replicate 64 false,(pn p:Int),(0:Int))=if (List.range (pn p)).any (yb p) then some ((8:Int),()) else az.Q2 k (p,()) (p,(pn p:Int)):=by
  have:=eo (B:=λself v=>az.B1 k self (λz=>az.Q2 k (p,()) z) (p,()) v) (List.range (pn p)) (λ(s:List Bool) (i:Int)=>(p,(pn p:Int),s,(pn p:Int),i)) (λ_ s x=>if yb p x then .inl (some ((8:Int),())) else .inr ((List.range 64).map (ly p (x+1)))) (λ_=>az.Q2 k (p,()) (p,(pn p:Int))) (λi s=>s=(List.range 64).map (ly p i)) (by grind)
   (λi hi s self hI=>by
    rw[List.length_range] at hi
    subst hI
    show az.b1 _ _ _ _ _=_
    grind [az.b1,sQ])
   (λi hi s s' hI hf=>by
    grind) (λs self _=>by
    rw[List.length_range]
    show az.b1 _ _ _ _ _=_
    grind [az.b1]) (List.replicate 64 false) (by show _=(List.range 64).map (λ_=>false);decide) k (by grind)
  rw[xn] at this
  exact this
 show az.q0 _ _ _ _ _=_
 unfold az.q0
 rw[outer,LD]
 by_cases MH:(List.range (pn p)).all (λi=>(List.range i).all (lW p i))=true
 rotate_left
 ·grind
 simp only[MH,Bool.not_true,Bool.false_eq_true,if_false,if_true]
 show az.q2 _ _=_
 unfold az.q2
 by_cases h0:0 < pn p
 ·have av:(0:Int) < (pn p:Int):=by omega
  have VG:ag (ag ((2:Int)*(pn p:Int))+1)=((2*pn p+1:Nat):Int):=by grind [ba]
  have hz:((p[2*pn p+1]'(by omega)).toNat)=au p (pn p - 1):=by
   rw[(dF (show 2*pn p+1 < p.length by omega)).2]
   show pb p _=pb p _
   congr 1;omega
  simp only[av,decide_true,cond_true,VG,Int.natCast_nonneg,if_true,Int.toNat_natCast,ci (show 2*pn p+1 < p.length by omega),hz,h0,true_and]
  grind
 grind
end OT
set_option linter.unusedVariables false
set_option linter.unusedSimpArgs false
namespace OT
open Go
theorem gV {V S O:Type} {B:(V->Option O)->V->Option O} (n:Nat) (enc:S->Int->V) (f:Nat->S->Sum (Option O) S) (fin:S->Option O) (I:Nat->S->Prop) (hn:n<=1048576)
  (gB:∀ (i:Nat),i < n->∀ (s:S) self,I i s->B self (enc s (i:Int))=match f i s with | .inl o=>o | .inr s'=>self (enc s' (ag ((i:Int)+1))))
  (hI:∀ (i:Nat),i < n->∀ (s s':S),I i s->f i s=.inr s'->I (i+1) s')
  (mh:∀ (s:S) self,I n s->B self (enc s (n:Int))=fin s) (s:S) (h0:I 0 s) (k:Nat) (hk:n < k):aD B k (enc s 0)=cS (λ_ s x=>f x s) fin 0 (List.range n) s:=
 eo (List.range n) enc (λ_ s x=>f x s) fin I (by grind [aL])
  (λi hi s self h=>by grind)
  (λi hi s s' h hf=>by grind)
  (λs self h=>by grind) s h0 k (by grind)
theorem vQ {O α β:Type} (g:α->List β) (fin:List β->O):∀ (xs:List α) (i:Nat) (s:List β),cS (λ_ s x=>.inr (s++g x)) fin i xs s=fin (s++xs.flatMap g)
 | [],_,s=>by simp[cS]
 | x::xs,i,s=>by simp only[cS];rw[vQ g fin xs (i+1)];simp[List.append_assoc]
abbrev sR:Row:=((0:Int),(0:Int),(0:Int),([]:List UInt8),())
abbrev Az:k8:=((0:Int),(0:Int),(0:Int),(0:Int),sR,())
abbrev vR:k8:=((5:Int),(0:Int),(0:Int),(0:Int),sR,())
def mt (d:List UInt8):Row:=((pb d 1:Int),(pb d 2:Int),(pb d 3:Int)*256+(pb d 4:Int),d.drop 6,())
def bF (d:List UInt8):k8×Bool:=
 if d.length=3/\pb d 0=1 then (((0:Int),(1:Int),(pb d 1:Int),(pb d 2:Int),sR,()),decide (pb d 1<=11)&&decide (pb d 2<=15))
 else if d.length < 6\/pb d 0=1\/2 < pb d 0\/d.length≠6+pb d 5 then (Az,false)
 else (((0:Int),(pb d 0:Int),(0:Int),(0:Int),mt d,()),decide (cP (mt d)=0))
theorem LE {a b:Nat} (ha:a < 256) (hb:b < 256):((BitVec.ofInt 64 (ag ((a:Int)*2 ^ 8)) ||| BitVec.ofInt 64 (b:Int)).toNat:Int)=(a:Int)*256+(b:Int):=by
 have e1:ag ((a:Int)*2 ^ 8)=((2 ^ 8*a:Nat):Int):=by grind [ba]
 rw[e1,BitVec.toNat_or]
 have e2:(BitVec.ofInt 64 ((2 ^ 8*a:Nat):Int)).toNat=2 ^ 8*a:=by
  rw[BitVec.toNat_ofInt];omega
 have e3:(BitVec.ofInt 64 (b:Int)).toNat=b:=by
  grind
 rw[e2,e3,<- Nat.two_pow_add_eq_or_of_lt (by omega) a]
 omega
theorem sS (d:List UInt8) (hd:d.length<=100):fC.aa (d,())=some ((bF d).1,(bF d).2,()):=by
 refine aj (k:=0) λk _=>(fC.af k _).trans ?_
 show fC.p _=_
 unfold fC.p bF
 have b0:=fE d 0
 have b1:=fE d 1
 have b2:=fE d 2
 have b3:=fE d 3
 have b4:=fE d 4
 have b5:=fE d 5
 by_cases h3:d.length=3
 ·have e3:decide ((d.length:Int)=3)=true:=decide_eq_true (by omega)
  have e6:decide ((d.length:Int) < 6)=true:=decide_eq_true (by omega)
  have Xk:d.length < 6:=by omega
  simp only[e3,e6,cond_true,ci (show 0 < d.length by omega),(dF (show 0 < d.length by omega)).2]
  by_cases h1:pb d 0=1
  ·have e1:decide ((pb d 0:Int)=1)=true:=decide_eq_true (by omega)
   rw[if_pos ⟨h3,h1⟩]
   simp only[e1,cond_true,ci (show 1 < d.length by omega),(dF (show 1 < d.length by omega)).2,ci (show 2 < d.length by omega),(dF (show 2 < d.length by omega)).2,tM]
   have dh:kD.aa ((pb d 1:Int),(pb d 2:Int),())=some (decide (pb d 1<=11)&&decide (pb d 2<=15),()):=by
    refine aj (k:=0) λk _=>(kD.af k _).trans ?_
    grind [kD.p,qQ,decide]
   grind
  grind
 ·have e3:decide ((d.length:Int)=3)=false:=decide_eq_false (by omega)
  simp only[e3,cond_false,h3,false_and,if_false]
  by_cases h6:d.length < 6
  ·grind
  ·have e6:decide ((d.length:Int) < 6)=false:=decide_eq_false (by omega)
   simp only[e6,cond_false,ci (show 0 < d.length by omega),(dF (show 0 < d.length by omega)).2,h6,false_or]
   by_cases h1:pb d 0=1
   ·grind
   have e1:decide ((pb d 0:Int)=1)=false:=decide_eq_false (by omega)
   simp only[e1,cond_false,h1,false_or]
   by_cases U:2 < pb d 0
   ·grind
   have e2:decide ((2:Int) < (pb d 0:Int))=false:=decide_eq_false (by omega)
   have w6:ag ((6:Int)+(pb d 5:Int))=((6+pb d 5:Nat):Int):=by grind [ba]
   simp only[e2,cond_false,U,false_or,ci (show 5 < d.length by omega),(dF (show 5 < d.length by omega)).2,tM,w6]
   by_cases h5:d.length=6+pb d 5
   rotate_left
   ·grind
   have e5:decide ((d.length:Int)=((6+pb d 5:Nat):Int))=true:=decide_eq_true (by omega)
   have Sz:(0:Int)<=6/\(6:Int)<=(d.length:Int):=by omega
   have w3:ag (ag ((pb d 3:Int)*256)+(pb d 4:Int))=(pb d 3:Int)*256+(pb d 4:Int):=by grind [ba]
   have ht:(d.take d.length).drop 6=d.drop 6:=by rw[List.take_length]
   have hr:dz.aa (mt d,())=some (cP (mt d),()):=rL (mt d) (by grind [aL,mt])
   unfold mt at hr
   rw[if_neg (λh=>h h5)]
   simp only[e5,Bool.not_true,cond_false,ci (show 1 < d.length by omega),(dF (show 1 < d.length by omega)).2,ci (show 2 < d.length by omega),(dF (show 2 < d.length by omega)).2,
    ci (show 3 < d.length by omega),(dF (show 3 < d.length by omega)).2,ci (show 4 < d.length by omega),(dF (show 4 < d.length by omega)).2,tM,w3,ht,hr,Option.bind_some]
   rw[if_pos (by omega)]
   rfl
theorem ww (d:List UInt8) (hd:d.length<=100):d0.aa (d,())=some (if (bF d).2 then (bF d).1 else vR,()):=by
 refine aj (k:=0) λk _=>(d0.af k _).trans ?_
 show d0.p _=_
 unfold d0.p
 have b0:=fE d 0
 have b1:=fE d 1
 have b2:=fE d 2
 have b3:=fE d 3
 have b4:=fE d 4
 have b5:=fE d 5
 by_cases h3:d.length=3
 ·grind [pb,bF,tM]
 ·have e3:decide ((d.length:Int)=3)=false:=decide_eq_false (by omega)
  simp only[e3,cond_false]
  by_cases h6:d.length < 6
  ·grind [bF]
  ·have e6:decide ((d.length:Int) < 6)=false:=decide_eq_false (by omega)
   have hc:bF d=if pb d 0=1\/2 < pb d 0\/d.length≠6+pb d 5 then (Az,false) else (((0:Int),(pb d 0:Int),(0:Int),(0:Int),mt d,()),decide (cP (mt d)=0)):=by
    grind [bF]
   have hlen:∀ i,i < 6->i < d.length:=λi hi=>by omega
   have w6:ag ((6:Int)+(pb d 5:Int))=((6+pb d 5:Nat):Int):=by grind [ba]
   have Sz:(0:Int)<=6/\(6:Int)<=(d.length:Int):=by omega
   have w3:ag ((BitVec.ofInt 64 (ag ((pb d 3:Int)*2 ^ 8)) ||| BitVec.ofInt 64 (pb d 4:Int)).toNat:Int)=(pb d 3:Int)*256+(pb d 4:Int):=by rw[LE b3 b4,ba (by omega)]
   have ht:(d.take d.length).drop 6=d.drop 6:=by rw[List.take_length]
   have hr:bZ.aa (mt d,())=some (cP (mt d),()):=rM (mt d) (by grind [aL,mt])
   unfold mt at hr
   simp only[e6,cond_false,ci (show 0 < d.length by omega),(dF (show 0 < d.length by omega)).2,ci (show 5 < d.length by omega),(dF (show 5 < d.length by omega)).2,ci (show 1 < d.length by omega),(dF (show 1 < d.length by omega)).2,ci (show 2 < d.length by omega),(dF (show 2 < d.length by omega)).2,
    ci (show 3 < d.length by omega),(dF (show 3 < d.length by omega)).2,ci (show 4 < d.length by omega),(dF (show 4 < d.length by omega)).2,tM,w6,Sz.2,show (0:Int)<=6 by omega,and_self,if_true,w3,ht,hr,Option.bind_some]
   have e5:decide ((d.length:Int)=((6+pb d 5:Nat):Int))=decide (d.length=6+pb d 5):=by grind
   have e0:decide ((pb d 0:Int)=0)=decide (pb d 0=0):=by grind
   have e2:decide ((pb d 0:Int)=2)=decide (pb d 0=2):=by grind
   rw[e5,e0,e2]
   have fin:∀ (c5:d.length=6+pb d 5) (c0:¬ (pb d 0=1\/2 < pb d 0\/d.length≠6+pb d 5)),(bif !decide (cP ((pb d 1:Int),(pb d 2:Int),(pb d 3:Int)*256+(pb d 4:Int),d.drop 6,())=0) then some (vR,()) else some (((0:Int),(pb d 0:Int),(0:Int),(0:Int),((pb d 1:Int),(pb d 2:Int),(pb d 3:Int)*256+(pb d 4:Int),d.drop 6,()),()),()))=some (if (bF d).2 then (bF d).1 else vR,()):=λc5 c0=>by
    rw[hc,if_neg c0]
    show (bif !decide (cP (mt d)=0) then some (vR,()) else some (((0:Int),(pb d 0:Int),(0:Int),(0:Int),mt d,()),()))=some (if decide (cP (mt d)=0)=true then ((0:Int),(pb d 0:Int),(0:Int),(0:Int),mt d,()) else vR,())
    grind
   have bad:(pb d 0=1\/2 < pb d 0\/d.length≠6+pb d 5)->(some (vR,()):Option d0.Out)=some (if (bF d).2 then (bF d).1 else vR,()):=λh=>by
    grind
   by_cases c5:d.length=6+pb d 5
   ·rw[decide_eq_true c5]
    by_cases c0:pb d 0=0
    ·simp_all
    grind
   grind
section
variable {p:List UInt8} (hp:bQ p)
include hp
theorem pN (s:Nat):cL.aa (p,(s:Int),())=some (decide (s < pn p)&&!decide (au p s=0),()):=by
 refine aj (k:=0) λk _=>(cL.af k _).trans ?_
 show cL.p _=_
 unfold cL.p
 have h0:(0:Int)<=(s:Int):=by omega
 have hn:=hp.n
 have hl:=hp.len
 grind [l7,decide,au,dF,Ck]
theorem vS (s:Nat):gR.aa (p,(s:Int),())=some (decide (s < pn p)&&!decide (au p s=0),()):=by
 refine aj (k:=0) λk _=>(gR.af k _).trans ?_
 show gR.p _=_
 unfold gR.p
 have hn:=hp.n
 have hl:=hp.len
 grind [ba,gw,qQ,decide_eq_false,jf]
theorem BD {s:Nat} (hs:s < pn p):pat p s+au p s<=64:=by
 by_cases hz:au p s=0
 ·have:=hp.zero s hs hz;omega
 ·exact (hp.slot s hs hz).2
theorem ri {s:Nat} (hs:s < pn p):fD.aa (p,(s:Int),())=some (dt p s,()):=by
 refine aj (k:=0) λk _=>(fD.af k _).trans ?_
 show fD.p _=_
 unfold fD.p dt
 have hn:=hp.n
 have hl:=hp.len
 have hc:=BD hp hs
 grind [ba,sQ,Int.toNat_natCast,List.drop_take]
theorem oz {s:Nat} (hs:s < pn p):dT.aa (p,(s:Int),())=some (dt p s,()):=by
 refine aj (k:=0) λk _=>(dT.af k _).trans ?_
 show dT.p _=_
 unfold dT.p dt
 have hn:=hp.n
 have hl:=hp.len
 have hc:=BD hp hs
 have hw:ag ((pat p s:Int)+(au p s:Int))=((pat p s+au p s:Nat):Int):=by grind [ba]
 grind [qS,jf,dR,List.drop_take]
end
theorem oo {p:List UInt8} (hp:bQ p) {s:Nat} (hs:s < pn p):(dt p s).length<=64:=by
 have:=ii hp hs
 have:=BD hp hs
 omega
end OT
set_option linter.unusedVariables false
set_option linter.unusedSimpArgs false
namespace OT
open Go
def rk (x:Row):Int×Int:=(x.1,x.2.1)
theorem qj (a b:Int×Int):bB a b=true↔a.1 < b.1\/(a.1=b.1/\a.2 < b.2):=by grind [bB]
theorem jm {a b c:Int×Int} (h1:bB a b=true) (U:bB b c=true):bB a c=true:=by
 grind [qj]
theorem dQ (a:Int×Int):bB a a=false:=by
 grind [qj]
theorem xo {a b:Int×Int} (h:bB a b=true):bB b a=false:=by
 grind [qj]
theorem nx {a b:Int×Int} (h1:bB a b=false) (U:bB b a=false):a=b:=by
 grind [qj]
def up (xs:List Row):Prop:=xs.Pairwise (λa b=>bB (rk a) (rk b)=true)
theorem nQ {x:Row} {xs:List Row}:up (x::xs)↔(∀ y ∈ xs,bB (rk x) (rk y)=true)/\up xs:=List.pairwise_cons
def pos:List Row->Int×Int->Nat
 | [],_=>0
 | x::xs,k=>if bB (rk x) k then pos xs k+1 else 0
theorem AA:∀ (xs:List Row) (k:Int×Int),pos xs k<=xs.length
 | [],_=>Nat.le_refl _
 | x::xs,k=>by simp only[pos];split <;> simp[AA xs k]
theorem uK:∀ (xs:List Row) (k:Int×Int) (i:Nat) (h:i < xs.length),i < pos xs k->bB (rk xs[i]) k=true
 | x::xs,k,i,h,hp=>by
  simp only[pos] at hp
  split at hp
  ·rename_i hx
   cases i with
   | zero=>exact hx
   | succ i=>exact uK xs k i (by simpa using h) (by omega)
  ·omega
theorem pO:∀ (xs:List Row) (k:Int×Int) (i:Nat) (h:i < xs.length),up xs->pos xs k<=i->bB (rk xs[i]) k=false
 | x::xs,k,i,h,hu,hp=>by
  simp only[pos] at hp
  split at hp
  ·cases i with
   | zero=>omega
   | succ i=>exact pO xs k i (by simpa using h) (nQ.1 hu).2 (by omega)
  ·rename_i hx
   have hx:bB (rk x) k=false:=by simpa using hx
   cases i with
   | zero=>exact hx
   | succ i=>
    have mH:i < xs.length:=by simpa using h
    have hm:bB (rk x) (rk xs[i])=true:=(nQ.1 hu).1 _ (List.getElem_mem _)
    grind [jm]
def eS (xs:List Row) (k:Int×Int):Bool:=match xs[pos xs k]? with
 | some x=>decide (rk x=k)
 | none=>false
theorem qT {xs:List Row} {k:Int×Int} (h:eS xs k=true):∃ hp:pos xs k < xs.length,rk xs[pos xs k]=k:=by
 grind [eS]
theorem J6 (a b:Row):decide ((if bB (a.1,a.2.1) (b.1,b.2.1) then (-1:Int) else if bB (b.1,b.2.1) (a.1,a.2.1) then 1 else 0) < 0)=bB (rk a) (rk b):=by
 grind [rk]
theorem AB (a b:Row):sameKey a b=decide (rk a=rk b):=by
 grind [sameKey,rk]
theorem half (lo hi:Nat) (h:lo+hi<=4611686018427387904):ag ((IntKind.wrap .u64 (ag ((lo:Int)+(hi:Int)))).fdiv (2 ^ 1))=(((lo+hi) / 2:Nat):Int):=by
 grind [ba,IntKind.wrap,IntKind.bits]
theorem J7 (xs:List Row) (key:Row) (f:Nat×Int) (hu:up xs) (hl:xs.length<=2000000):bf.aa (xs,key,f,())=some ((pos xs (rk key):Int),eS xs (rk key),()):=by
 have hp:=AA xs (rk key)
 have hq:bf.Q0 0 (xs,key,f,()) (pos xs (rk key):Int)=some ((pos xs (rk key):Int),eS xs (rk key),()):=by
  grind [bf.q0,eS,nv,Aw,AB]
 refine aj (k:=xs.length+1) λk hk=>(bf.af k _).trans ?_
 refine pw (B:=λself v=>bf.B0 0 self (λz=>bf.Q0 0 (xs,key,f,()) z) (xs,key,f,()) v) (λ_=>((pos xs (rk key):Int),eS xs (rk key),()))
  (λv=>∃ lo hi:Nat,v=((lo:Int),(hi:Int))/\lo<=pos xs (rk key)/\pos xs (rk key)<=hi/\hi<=xs.length) (λv=>(v.2 - v.1).toNat) (λv hv self=>?_) k (0,(xs.length:Int)) ⟨0,xs.length,rfl,by omega,hp,by omega⟩ (by simp;omega)
 obtain ⟨lo,hi,rfl,h1,U,h3⟩:=hv
 by_cases av:lo < hi
 ·right
  have vf:(lo:Int) < (hi:Int):=by omega
  have hm:(lo+hi) / 2 < xs.length:=by omega
  have hb:∀ self,bf.B0 0 self (λz=>bf.Q0 0 (xs,key,f,()) z) (xs,key,f,()) ((lo:Int),(hi:Int))=if bB (rk xs[(lo+hi) / 2]) (rk key) then self (ag ((((lo+hi) / 2:Nat):Int)+1),(hi:Int)) else self ((lo:Int),(((lo+hi) / 2:Nat):Int)):=λself=>by
   grind [bf.b0,half,Int.toNat_natCast,nv,J6]
  cases hc:bB (rk xs[(lo+hi) / 2]) (rk key) with
  | true=>
   refine ⟨((((lo+hi) / 2+1:Nat):Int),(hi:Int)),?_,rfl,⟨_,_,rfl,?_,U,h3⟩,by grind⟩
   all_goals grind [ba,pO]
  | false=>
   refine ⟨((lo:Int),(((lo+hi) / 2:Nat):Int)),?_,rfl,⟨_,_,rfl,h1,?_,by omega⟩,by grind⟩
   all_goals grind [uK]
 grind [bf.b0]
def oA (xs:List Row) (c:Change):Bool:=(eS xs (ck c) == c.1)&&(!eS xs (ck c)||(match xs[pos xs (ck c)]? with | some x=>Ty.eq aE x c.2.1 | none=>true))
def lL (xs:List Row) (c:Change):List Row:=xs.take (pos xs (ck c))++(if c.2.2.1 then [c.2.2.2.1] else [])++xs.drop (pos xs (ck c)+if eS xs (ck c) then 1 else 0)
theorem J8 (c:Change):rk (pJ c)=ck c:=xk c
theorem J9 (c:Change) (xs:List Row) (hu:up xs) (hl:xs.length<=2000000):gu.aa (c,xs,())=some (oA xs c,()):=by
 refine aj (k:=0) λk _=>(gu.af k _).trans ?_
 grind [gu.p,oA,Ax,J7,J8,qT]
theorem CS (a b:Row):jG.aa (a,b,())=some (bB (rk a) (rk b),()):=by
 refine aj (k:=0) λk _=>(jG.af k _).trans ?_
 grind [jG.p,bB,rk]
theorem FN {x:Row} {xs:List Row} {k:Int×Int} (h:bB (rk x) k=true):eS (x::xs) k=eS xs k:=by
 grind [eS,pos]
theorem uL {xs:List Row} {k:Int×Int} (h:eS xs k=true):∃ y ∈ xs,rk y=k:=by
 obtain ⟨hp,hk⟩:=qT h
 grind
theorem GH (k:Int×Int):∀ (xs:List Row) (j:Nat),up xs->cS (λi (_:Unit) x=>if rk x=k then .inl ((i:Int),()) else .inr ()) (λ_=>((-1:Int),())) j xs ()=if eS xs k then (((j+pos xs k:Nat):Int),()) else (-1,())
 | [],j,_=>by simp[cS,eS]
 | x::xs,j,hu=>by
  have hu:=nQ.1 hu
  simp only[cS]
  by_cases hx:rk x=k
  ·grind [dQ,eS,pos]
  ·simp only[hx,if_false]
   rw[GH k xs (j+1) hu.2]
   grind [pos,eS]
def AC (xs:List Row) (k:Int×Int):Int:=if eS xs k then (pos xs k:Int) else -1
theorem tN (xs:List Row) (t k:Int) (hu:up xs) (hl:xs.length<=2000000):eL.aa (xs,t,k,())=some (AC xs (t,k),()):=by
 refine aj (k:=xs.length+1) λf hf=>(eL.af f _).trans ?_
 have:=d9 (B:=λself v=>eL.B0 0 self (λz=>eL.Q0 0 (xs,t,k,()) z) (xs,t,k,()) v) xs (λ(_:Unit) (i:Int)=>i) (λi _ x=>if rk x=(t,k) then .inl ((i:Int),()) else .inr ()) (λ_=>((-1:Int),())) (λ_ _=>True) (by rw[aL];omega)
  (λi hi _ self _=>by
   grind [eL.b0,rk]) (λ_ _ _ _ _ _=>trivial) (λ_ self _=>by
   grind [eL.b0,eL.q0]) () trivial f (by omega)
 rw[GH (t,k) xs 0 hu] at this
 have this:eL.r0 f (xs,t,k,()) 0=_:=this
 grind [eL.p,AC]
theorem Ew {O:Type} (k:Int×Int) (g:Nat->O) (n:Nat):∀ (xs:List Row) (j:Nat),j+xs.length=n->cS (λi (_:Unit) x=>if bB (rk x) k then .inr () else .inl (g i)) (λ_=>g n) j xs ()=g (j+pos xs k)
 | [],j,h=>by grind [cS,pos]
 | x::xs,j,h=>by
  simp only[cS,pos]
  cases hb:bB (rk x) k with
  | true=>
   simp only[if_true]
   rw[Ew k g n xs (j+1) (by grind)]
   congr 1;omega
  | false=>simp
def gf (xs:List Row) (r:Row):List Row:=xs.take (pos xs (rk r))++[r]++xs.drop (pos xs (rk r))
theorem rO (xs:List Row) (r:Row) (hl:xs.length<=2000000):dD.aa (xs,r,())=some (gf xs r,()):=by
 refine aj (k:=xs.length+1) λf hf=>(dD.af f _).trans ?_
 have hq:∀ i:Nat,i<=xs.length->dD.Q0 0 (xs,r,()) (i:Int)=some (xs.take i++[r]++xs.drop i,()):=λi hi=>by
  show dD.q0 _ _=_
  unfold dD.q0
  have Ea:0<=(i:Int)/\(i:Int)<=(xs.length:Int):=by omega
  have c1:([]:List Row).length+(List.take i xs).length<=cJ:=dR (by simp;omega)
  have c2:(List.take i xs).length+[r].length<=cJ:=dR (by simp;omega)
  have c3:(List.take i xs++[r]).length+(List.drop i xs).length<=cJ:=dR (by simp;omega)
  grind
 have:=d9 (B:=λself v=>dD.B0 0 self (λz=>dD.Q0 0 (xs,r,()) z) (xs,r,()) v) xs (λ(_:Unit) (i:Int)=>i) (λi _ x=>if bB (rk x) (rk r) then .inr () else .inl (xs.take i++[r]++xs.drop i,())) (λ_=>(xs.take xs.length++[r]++xs.drop xs.length,())) (λ_ _=>True) (by rw[aL];omega)
  (λi hi _ self _=>by
   show dD.b0 _ _ _ _=_
   unfold dD.b0
   have av:(i:Int) < (xs.length:Int):=by omega
   simp only[av,decide_true,cond_true,Int.natCast_nonneg,if_true,Int.toNat_natCast,List.getElem?_eq_getElem hi,Option.bind_some,CS]
   cases bB (rk xs[i]) (rk r) <;> grind) (λ_ _ _ _ _ _=>trivial) (λ_ self _=>by
   grind [dD.b0]) () trivial f (by omega)
 rw[Ew (rk r) (λi=>(xs.take i++[r]++xs.drop i,())) xs.length xs 0 (by omega)] at this
 refine this.trans ?_
 simp[gf]
theorem sT {xs:List Row} {k:Int×Int} {x:Row} (h:x ∈ xs.take (pos xs k)):bB (rk x) k=true:=by
 obtain ⟨i,hi,e⟩:=List.mem_iff_getElem.1 h
 grind [uK]
end OT
set_option linter.unusedVariables false
set_option linter.unusedSimpArgs false
namespace OT
open Go
def vT (xs:List Row) (i:Nat) (x:Row):Sum (Int×Unit) Unit:=
 if cP x=0 then (if 0 < i then (match xs[i - 1]? with | some y=>if bB (rk y) (rk x) then .inr () else .inl (1,()) | none=>.inl (1,())) else .inr ()) else .inl (cP x,())
def tO (xs:List Row):Int:=if 60 < xs.length then 2 else (cS (λi (_:Unit) x=>vT xs i x) (λ_=>((0:Int),())) 0 xs ()).1
theorem yD (xs:List Row) (hl:xs.length<=maxLen) (h:∀ c ∈ xs,rl c):df.aa (xs,())=some (tO xs,()):=by
 refine aj (k:=xs.length+1) λk hk=>(df.af k _).trans ?_
 have:=d9 (B:=λself v=>df.B0 0 self (λz=>df.Q0 0 (xs,()) z) (xs,()) v) xs (λ(_:Unit) (i:Int)=>i) (λi _ x=>vT xs i x) (λ_=>(0,())) (λ_ _=>True) hl
  (λi hi _ self _=>by
   show df.b0 _ _ _ _=_
   unfold df.b0 vT rk
   have av:(i:Int) < (xs.length:Int):=by omega
   simp only[av,decide_true,cond_true,Int.natCast_nonneg,if_true,Int.toNat_natCast,List.getElem?_eq_getElem hi,Option.bind_some,rM _ (h _ (List.getElem_mem hi))]
   grind [Rp,Int.toNat_natCast,uj]) (λ_ _ _ _ _ _=>trivial) (λ_ self _=>by
   grind [df.b0,df.q0]) () trivial k (by omega)
 have this:df.r0 k (xs,()) 0=_:=this
 grind [df.p,tO]
structure Good (xs:List Row):Prop where
 up:up xs
 ok:∀ x ∈ xs,cP x=0
theorem kT {c:Change} (h:ig c=0):(c.2.2.1=true->rk c.2.2.2.1=ck c)/\(c.2.2.1=true->cP c.2.2.2.1=0):=by
 grind [rk,ck,ig]
theorem tP {xs:List Row} {c:Change} (h:Good xs) (hc:ig c=0):Good (lL xs c):=by
 obtain ⟨hk,hr⟩:=kT hc
 have hb:=h.up
 constructor
 ·unfold lL up
  have h1:(xs.take (pos xs (ck c))).Pairwise (λa b=>bB (rk a) (rk b)=true):=hb.sublist (List.take_sublist _ _)
  have zD:∀ n,(xs.drop n).Pairwise (λa b=>bB (rk a) (rk b)=true):=λn=>hb.sublist (List.drop_sublist _ _)
  have P1:∀ y ∈ xs.drop (pos xs (ck c)+if eS xs (ck c) then 1 else 0),bB (ck c) (rk y)=true:=λy hy=>by
   obtain ⟨i,e⟩:=List.mem_iff_getElem?.1 hy
   rw[List.getElem?_drop] at e
   obtain ⟨av,e1⟩:=List.getElem?_eq_some_iff.1 e
   have hn:=pO xs (ck c) _ av hb (by omega)
   rw[e1] at hn
   clear e1 av
   cases BX:bB (ck c) (rk y) with
   | true=>rfl
   | false=>
    have he:=nx BX hn
    exfalso
    cases hf:eS xs (ck c) with
    | true=>
     obtain ⟨hp,Gl⟩:=qT hf
     rw[hf] at e
     simp only[if_true] at e
     obtain ⟨av,e⟩:=List.getElem?_eq_some_iff.1 e
     have:=List.pairwise_iff_getElem.1 hb (pos xs (ck c)) (pos xs (ck c)+1+i) hp av (by omega)
     grind
    | false=>
     rw[hf] at e
     simp only[Bool.false_eq_true,if_false,Nat.add_zero] at e
     obtain ⟨av,e⟩:=List.getElem?_eq_some_iff.1 e
     have hp:pos xs (ck c) < xs.length:=by omega
     have zW:=pO xs (ck c) _ hp hb (Nat.le_refl _)
     have dI:rk xs[pos xs (ck c)]≠ck c:=λe2=>by
      grind [eS]
     have WB:bB (ck c) (rk xs[pos xs (ck c)])=true:=by
      grind [nx]
     cases i with
     | zero=>
      grind
     | succ i=>
      have:=List.pairwise_iff_getElem.1 hb (pos xs (ck c)) (pos xs (ck c)+(i+1)) hp av (by omega)
      grind
  have VH:∀ a ∈ xs.take (pos xs (ck c)),∀ y ∈ xs.drop (pos xs (ck c)+if eS xs (ck c) then 1 else 0),bB (rk a) (rk y)=true:=λa ha y hy=>jm (sT ha) (P1 y hy)
  grind [sT]
 ·intro x hx
  unfold lL at hx
  rcases List.mem_append.1 hx with hx | hx
  ·rcases List.mem_append.1 hx with hx | hx
   ·exact h.ok x (List.mem_of_mem_take hx)
   grind
  ·exact h.ok x (List.mem_of_mem_drop hx)
theorem Ey (xs:List Row) (c:Change):(lL xs c).length<=xs.length+1:=by
 grind [lL]
end OT
set_option linter.unusedVariables false
set_option linter.unusedSimpArgs false
namespace OT
open Go
theorem Ez {α β O:Type} [DecidableEq β] (g:α->Option β) (bad:O) (fin:Unit->O) (p:α->α->Bool) (hp:∀ x y,p x y=true↔∃ b,g x=some b/\g y=some b) (all:List α):∀ (xs pre:List α),all=pre++xs->(pre.filterMap g).Nodup->cS (λi _ x=>if (all.take i).any (p x) then .inl bad else .inr ()) fin pre.length xs ()=if (all.filterMap g).Nodup then fin () else bad
 | [],pre,h,hn=>by
  rw[List.append_nil] at h
  subst h
  simp only[cS,hn,if_true]
 | x::xs,pre,h,hn=>by
  have ht:all.take pre.length=pre:=by rw[h];exact List.take_left
  simp only[cS,ht]
  have mf:all.filterMap g=pre.filterMap g++([x].filterMap g++xs.filterMap g):=by rw[h,<- List.singleton_append (x:=x),List.filterMap_append,List.filterMap_append]
  cases hc:pre.any (p x) with
  | true=>
   simp only[if_true]
   obtain ⟨y,hy,VI⟩:=List.any_eq_true.1 hc
   obtain ⟨b,h1,U⟩:=(hp x y).1 VI
   rw[if_neg]
   intro og
   rw[mf,List.nodup_append] at og
   exact og.2.2 b (List.mem_filterMap.2 ⟨y,hy,U⟩) b (by simp[h1]) rfl
  | false=>
   simp only[Bool.false_eq_true,if_false]
   have:=Ez g bad fin p hp all xs (pre++[x]) (by rw[h];simp) (by
    rw[List.filterMap_append,List.nodup_append]
    refine ⟨hn,?_,λa ha b hb e=>?_⟩
    ·cases hg:g x with
     | none=>simp[hg]
     | some b=>simp[hg]
    ·subst e
     obtain ⟨y,hy,VJ⟩:=List.mem_filterMap.1 ha
     obtain ⟨z,hz,VK⟩:=List.mem_filterMap.1 hb
     rw[List.mem_singleton] at hz
     subst hz
     have:pre.any (p z)=true:=List.any_eq_true.2 ⟨y,hy,(hp z y).2 ⟨a,VK,VJ⟩⟩
     rw[this] at hc;cases hc)
   rw[List.length_append] at this
   exact this
theorem xp {α β O:Type} [DecidableEq β] (g:α->Option β) (bad:O) (fin:Unit->O) (p:α->α->Bool) (hp:∀ x y,p x y=true↔∃ b,g x=some b/\g y=some b) (xs:List α):cS (λi _ x=>if (xs.take i).any (p x) then .inl bad else .inr ()) fin 0 xs ()=if (xs.filterMap g).Nodup then fin () else bad:=
 Ez g bad fin p hp xs xs [] rfl List.nodup_nil
theorem rj {α:Type} {lt:α->α->Prop} (has:∀ a b,lt a b->¬ lt b a):∀ (xs ys:List α),xs.Perm ys->xs.Pairwise lt->ys.Pairwise lt->xs=ys
 | [],ys,h,_,_=>(List.nil_perm.1 h).symm
 | x::xs,[],h,_,_=>by have:=h.length_eq;cases this
 | x::xs,y::ys,h,h1,U=>by
  obtain ⟨J,a2⟩:=List.pairwise_cons.1 h1
  obtain ⟨b1,b2⟩:=List.pairwise_cons.1 U
  by_cases mI:x=y
  ·subst mI
   rw[rj has xs ys ((List.perm_cons x).1 h) a2 b2]
  ·have hx:x ∈ ys:=by
    have:=h.mem_iff.1 (List.mem_cons_self (a:=x) (l:=xs))
    rcases List.mem_cons.1 this with e | e
    ·exact absurd e mI
    ·exact e
   have hy:y ∈ xs:=by
    have:=h.mem_iff.2 (List.mem_cons_self (a:=y) (l:=ys))
    rcases List.mem_cons.1 this with e | e
    ·exact absurd e.symm mI
    ·exact e
   exact absurd (b1 x hx) (has _ _ (J y hy))
theorem tQ (xs:List Row) (r:Row):(gf xs r).Perm (r::xs):=by
 unfold gf
 rw[List.append_assoc]
 have:=List.perm_middle (a:=r) (l₁:=xs.take (pos xs (rk r))) (l₂:=xs.drop (pos xs (rk r)))
 rw[List.take_append_drop] at this
 exact this
theorem GI {xs:List Row} {k:Int×Int} {x:Row} (hu:up xs) (h:x ∈ xs.drop (pos xs k)):bB (rk x) k=false:=by
 obtain ⟨i,hi,e⟩:=List.mem_iff_getElem.1 h
 rw[List.length_drop] at hi
 rw[List.getElem_drop] at e
 rw[<-e]
 exact pO xs k _ _ hu (by omega)
theorem BE {xs:List Row} {r:Row} (hu:up xs) (hn:∀ x ∈ xs,rk x≠rk r):up (gf xs r):=by
 unfold gf up
 rw[List.append_assoc,List.pairwise_append]
 have hd:=hu.drop (i:=pos xs (rk r))
 refine ⟨hu.take,?_,λa ha b hb=>?_⟩
 ·rw[List.singleton_append,List.pairwise_cons]
  refine ⟨λb hb=>?_,hd⟩
  have h1:=GI hu hb
  have U:=hn b (List.mem_of_mem_drop hb)
  cases h3:bB (rk r) (rk b) with
  | true=>rfl
  | false=>exact absurd (nx h1 h3) U
 ·have h1:=sT ha
  rw[List.singleton_append] at hb
  rcases List.mem_cons.1 hb with e | e
  ·subst e;exact h1
  ·have U:=GI hu e
   have h3:=hn b (List.mem_of_mem_drop e)
   cases h4:bB (rk a) (rk b) with
   | true=>rfl
   | false=>
    cases h5:bB (rk b) (rk a) with
    | true=>rw[jm h5 h1] at U;cases U
    | false=>
     have:=nx h4 h5
     rw[this] at h1
     rw[h1] at U;cases U
def AD (l:List Row):List Row:=l.foldl gf []
theorem AE:∀ (l acc:List Row),(l.foldl gf acc).Perm (l++acc)
 | [],acc=>List.Perm.refl _
 | r::l,acc=>by
  have h1:=AE l (gf acc r)
  have U:(l++gf acc r).Perm (l++r::acc):=(List.Perm.refl l).append (tQ acc r)
  exact h1.trans (U.trans List.perm_middle)
theorem nR (l:List Row):(AD l).Perm l:=by
 have:=AE l []
 rw[List.append_nil] at this
 exact this
theorem EA:∀ (l acc:List Row),up acc->(l.map rk++acc.map rk).Nodup->up (l.foldl gf acc)
 | [],acc,h,_=>h
 | r::l,acc,h,hn=>by
  simp only[List.map_cons,List.cons_append,List.nodup_cons,List.mem_append,not_or] at hn
  refine EA l (gf acc r) (BE h λx hx e=>hn.1.2 (List.mem_map.2 ⟨x,hx,e⟩)) ?_
  have:(l.map rk++(gf acc r).map rk).Perm (rk r::(l.map rk++acc.map rk)):=by
   refine ((List.Perm.refl _).append ((tQ acc r).map rk)).trans ?_
   rw[List.map_cons]
   exact List.perm_middle
  rw[this.nodup_iff,List.nodup_cons,List.mem_append,not_or]
  exact hn
theorem EB {l:List Row} (h:(l.map rk).Nodup):up (AD l):=EA l [] List.Pairwise.nil (by simpa using h)
theorem EC {a b:Int×Int} (h:bB a b=true):¬ bB b a=true:=by rw[xo h];exact λh=>by cases h
theorem J_ {xs ys:List Row} (hp:xs.Perm ys) (hx:up xs) (hy:up ys):xs=ys:=rj (λa b h=>EC h) xs ys hp hx hy
theorem sU {xs:List Row} (h:up xs):(xs.map rk).Nodup:=by
 unfold List.Nodup
 rw[List.pairwise_map]
 refine h.imp λh1 e=>?_
 rw[e,dQ] at h1
 cases h1
end OT
