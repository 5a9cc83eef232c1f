/- The proof's parts, merged: Printed by gen.py, a program of this claim  what each Go function computes.. No conditions but those that each states. -/
import Derived.Test.YtghckfpmmofmnaaGreatTd
set_option maxRecDepth 100000
set_option linter.unusedVariables false
namespace OT
open Go Go.Proofs.Tryz
namespace kB
abbrev Arg:Type:=(List UInt8)×Unit
abbrev Out:Type:=Int×Unit
abbrev OO:=Option Out
noncomputable def D:FD:={ fn:=f359,tl:=bc,ps:=[(.ro,(.aa u8))],rs:=[(i64,(ak i64))],gl:=[(228,cu.D.sig),(229,bt.D.sig)],lv:=[(3,[0,3,4])],lx:=[(0,[3])] }
noncomputable def ab (a:Arg):OO:=@lift Out λk=>D.W k a
noncomputable def T0 (a1:Arg) (bf:Int×Int):St:={ n:=21,sl:=[(0,.val (.aa u8) a1.1),(3,.val i64 bf.1),(4,.val i64 bf.2)],vr:=[],az:=[] }
noncomputable def b0 (self:(Int×Int)->OO) (e0:Int->OO) (a1:Arg) (bf:Int×Int):OO:=(cu.ab (a1.1,())).bind λdg=>bif decide (bf.2 < dg.1) then ((bt.ab (a1.1,bf.2,())).bind λls=>self (af (bf.1 - ls.1),af (bf.2+(1:Int)))) else e0 bf.1
noncomputable def q0 (a1:Arg) (qY:Int):OO:=some (qY,())
noncomputable def s0 (k:Nat) (a1:Arg):(Int×Int)->OO:=λbf=>D.L k [1,1,0,1,0,0] [0,3,4] [] (ah 0 (av (D.N k [1,1,1]) D.K0)) (T0 a1 bf)
noncomputable def r0 (k:Nat) (a1:Arg):(Int×Int)->OO:=al (λw v=>b0 w (q0 a1) a1 v) k
theorem aq (k:Nat) (a1:Arg):s0 k a1=r0 k a1:=
 funext λbf=>ap _ _ _ (T0 a1) _ (λrec v=>by kernel_rfl) k bf
noncomputable def p (l0:(Int×Int)->OO) (a1:Arg):OO:=(cu.ab (a1.1,())).bind λr2=>l0 (af ((62:Int) - (af ((2:Int)*r2.1))),(0:Int))
theorem ae (k:Nat) (a1:Arg):@Eq OO (D.W k a1) (p (r0 k a1) a1):=
 aQ (b:=p (s0 k a1) a1) (by kernel_rfl) (by rw[aq])
theorem ok:Ok prog 359 D.sig:=am func359 aw (by kernel_rfl) (fc cu.ok (fc bt.ok (aj _)))
end kB
namespace jG
abbrev Arg:Type:=(List UInt8)×Int×Int×(List UInt8)×Unit
abbrev Out:Type:=(List UInt8)×Unit
noncomputable def D:FD:={ fn:=f360,tl:=bc,ps:=[(.k8 (ai (.aa u8)),(.aa u8)),(.ro,i64),(.ro,i64),(.ro,(.aa u8))],rs:=[],es:=[0] }
noncomputable def ab (a:Arg):Option Out:=@lift Out λk=>D.W k a
noncomputable def p (a1:Arg):Option Out:=if 0<=a1.2.2.1/\a1.2.2.1<=(a1.1.length:Int) then (let y2:=oo a1.1 a1.2.2.1.toNat (min a1.2.2.2.1.length (a1.1.length - a1.2.2.1.toNat)) a1.2.2.2.1;if 0<=af ((2:Int)+(af ((2:Int)*a1.2.1)))/\af ((2:Int)+(af ((2:Int)*a1.2.1))) < (y2.length:Int) then ((y2[(af ((2:Int)+(af ((2:Int)*a1.2.1)))).toNat]?).bind λx3=>let y4:=y2.set (af ((2:Int)+(af ((2:Int)*a1.2.1)))).toNat (UInt8.ofInt a1.2.2.1);if 0<=af ((3:Int)+(af ((2:Int)*a1.2.1)))/\af ((3:Int)+(af ((2:Int)*a1.2.1))) < (y4.length:Int) then ((y4[(af ((3:Int)+(af ((2:Int)*a1.2.1)))).toNat]?).bind λx5=>let y6:=y4.set (af ((3:Int)+(af ((2:Int)*a1.2.1)))).toNat (UInt8.ofInt (a1.2.2.2.1.length:Int));some (y6,())) else none) else none) else none
theorem ae (k:Nat) (a1:Arg):@Eq (Option Out) (D.W k a1) (p a1):=by kernel_rfl
theorem ok:Ok prog 360 D.sig:=am func360 aw (by kernel_rfl) (aj _)
end jG
namespace nF
abbrev Arg:Type:=(List UInt8)×(List UInt8)×Unit
abbrev Out:Type:=(List UInt8)×Int×Int×Unit
noncomputable def D:FD:={ fn:=f343,tl:=bc,ps:=[(.ro,(.aa u8)),(.ro,(.aa u8))],rs:=[((.aa u8),(ai (.aa u8))),(i64,(ak i64)),(i64,(ak i64))],gl:=[(139,cb.D.sig),(228,cu.D.sig),(284,kq.D.sig),(358,kf.D.sig),(359,kB.D.sig),(360,jG.D.sig)] }
noncomputable def ab (a:Arg):Option Out:=@lift Out λk=>D.W k a
noncomputable def p (a1:Arg):Option Out:=(kf.ab (a1.1,())).bind λr2=>(cu.ab (a1.1,())).bind λr3=>let j14:=λ(W_:Int) (Xa:Int)=>((kB.ab (a1.1,())).bind λEz=>bif decide (Ez.1 < af ((a1.2.1.length:Int)+Xa)) then (some (([]:List UInt8),(0:Int),(9:Int),())) else (kq.ab (a1.1,())).bind λAz=>bif decide (af (Az.1 - (a1.2.1.length:Int)) < af ((2:Int)+(af ((2:Int)*W_)))) then (some (([]:List UInt8),(0:Int),(8:Int),())) else (cb.ab (a1.1,())).bind λCh=>if 0<=(0:Int)/\(0:Int) < (Ch.1.length:Int) then ((Ch.1[0]?).bind λZH=>if 0<=(1:Int)/\(1:Int) < ((Ch.1.set 0 (UInt8.ofInt W_)).length:Int) then (((Ch.1.set 0 (UInt8.ofInt W_))[1]?).bind λZI=>let y20:=(Ch.1.set 0 (UInt8.ofInt W_)).set 1 (UInt8.ofInt (af (Az.1 - (a1.2.1.length:Int))));(jG.ab (y20,r2.1,af (Az.1 - (a1.2.1.length:Int)),a1.2.1,())).bind λIc=>some (Ic.1,r2.1,(0:Int),())) else none) else none:Option Out);bif decide (r2.1=r3.1) then (bif decide ((16:Int)<=r3.1) then (some (([]:List UInt8),(0:Int),(2:Int),())) else j14 (af (r3.1+(1:Int))) (2:Int)) else j14 r3.1 (0:Int)
theorem ae (k:Nat) (a1:Arg):@Eq (Option Out) (D.W k a1) (p a1):=by kernel_rfl
theorem ok:Ok prog 343 D.sig:=am func343 aw (by kernel_rfl) (fc cb.ok (fc cu.ok (fc kq.ok (fc kf.ok (fc kB.ok (fc jG.ok (aj _)))))))
end nF
namespace iZ
abbrev Arg:Type:=aT×Int×(List UInt8)×Unit
abbrev Out:Type:=aT×Unit
noncomputable def D:FD:={ fn:=f344,tl:=bc,ps:=[(.jV (ai cv) (ai cv),cv),(.ro,i64),(.ro,(.aa u8))],rs:=[],gl:=[(139,cb.D.sig)],es:=[0],od:=[(1,[0,1,2,3,4,5,6,7,8,9,10,11]),(2,[0,1,2,3,4,5,6,7,8,9,10]),(3,[0,1,2,3,4,5,6,7,8]),(4,[0,1,2,3,4,5,6,7,8,9,10,11,12,13])] }
noncomputable def ab (a:Arg):Option Out:=@lift Out λk=>D.W k a
noncomputable def p (a1:Arg):Option Out:=let j9:=λ(p8:aT)=>((cb.ab (a1.2.2.1,())).bind λuY=>if p8.2.1.length+[(a1.2.1,uY.1,())].length<=cg then (some ((p8.1,p8.2.1++[(a1.2.1,uY.1,())],p8.2.2),())) else none:Option Out);bif decide (a1.2.1=(a1.1.1.length:Int)) then ((cb.ab (a1.2.2.1,())).bind λr2=>if a1.1.1.length+[r2.1].length<=cg then (j9 (a1.1.1++[r2.1],a1.1.2)) else none) else if 0<=a1.2.1/\a1.2.1 < (a1.1.1.length:Int) then ((a1.1.1[a1.2.1.toNat]?).bind λx3=>(a1.1.1[a1.2.1.toNat]?).bind λx4=>bif decide (x4=a1.2.2.1) then (some (a1.1,())) else (cb.ab (a1.2.2.1,())).bind λr5=>if 0<=a1.2.1/\a1.2.1 < (a1.1.1.length:Int) then ((a1.1.1[a1.2.1.toNat]?).bind λx6=>j9 (a1.1.1.set a1.2.1.toNat r5.1,a1.1.2)) else none) else none
theorem ae (k:Nat) (a1:Arg):@Eq (Option Out) (D.W k a1) (p a1):=by kernel_rfl
theorem ok:Ok prog 344 D.sig:=am func344 aw (by kernel_rfl) (fc cb.ok (aj _))
end iZ
namespace gj
abbrev Arg:Type:=(List UInt8)×Unit
abbrev Out:Type:=(List UInt8)×Unit
abbrev OO:=Option Out
noncomputable def D:FD:={ fn:=f347,tl:=bc,ps:=[(.ro,(.aa u8))],rs:=[((.aa u8),(ai (.aa u8)))],gl:=[(228,cu.D.sig),(229,bt.D.sig),(231,jS.D.sig),(360,jG.D.sig)],lv:=[(6,[0,3,4,5,6])],lx:=[(0,[4,5]),(1,[0,3,4,5,6])] }
noncomputable def ab (a:Arg):OO:=@lift Out λk=>D.W k a
noncomputable def T0 (a1:Arg) (eh:Int) (cq:(List UInt8)×Int×Int):St:={ n:=44,sl:=[(0,.val (.aa u8) a1.1),(3,.val i64 eh),(4,.own (.aa u8) (ai (.aa u8)) [] cq.1),(5,.val i64 cq.2.1),(6,.val i64 cq.2.2)],vr:=[],az:=[] }
noncomputable def b0 (self:((List UInt8)×Int×Int)->OO) (e0:((List UInt8)×Int)->OO) (a1:Arg) (eh:Int) (cq:(List UInt8)×Int×Int):OO:=bif decide (cq.2.2 < eh) then ((bt.ab (a1.1,cq.2.2,())).bind λjy=>bif decide (jy.1=(0:Int)) then (self (cq.1,cq.2.1,af (cq.2.2+(1:Int)))) else (jS.ab (a1.1,cq.2.2,())).bind λjz=>(jG.ab (cq.1,cq.2.2,af (cq.2.1 - (jz.1.length:Int)),jz.1,())).bind λpF=>self (pF.1,af (cq.2.1 - (jz.1.length:Int)),af (cq.2.2+(1:Int)))) else e0 (cq.1,cq.2.1)
noncomputable def q0 (a1:Arg) (eh:Int) (uZ:((List UInt8)×Int)):OO:=if 0<=(1:Int)/\(1:Int) < (uZ.1.length:Int) then ((uZ.1[1]?).bind λG4=>some (uZ.1.set 1 (UInt8.ofInt uZ.2),())) else none
noncomputable def s0 (k:Nat) (a1:Arg):Int->((List UInt8)×Int×Int)->OO:=λeh=>λcq=>D.L k [1,1,1,1,1,0,1,0,0] [0,3,4,5,6] [] (ah 0 (av (D.N k [1,1,1,1,1,1]) D.K0)) (T0 a1 eh cq)
noncomputable def r0 (k:Nat) (a1:Arg):Int->((List UInt8)×Int×Int)->OO:=λeh=>al (λw v=>b0 w (q0 a1 eh) a1 eh v) k
theorem aq (k:Nat) (a1:Arg):s0 k a1=r0 k a1:=
 funext λeh=>funext λcq=>ap _ _ _ (T0 a1 eh) _ (λrec v=>by kernel_rfl) k cq
noncomputable def p (l0:Int->((List UInt8)×Int×Int)->OO) (a1:Arg):OO:=(cu.ab (a1.1,())).bind λr2=>if 0<=(64:Int)/\(64:Int)<=(64:Int)/\(64:Int)<=(cg:Int) then (if 0<=af ((2:Int)+(af ((2:Int)*r2.1)))/\af ((2:Int)+(af ((2:Int)*r2.1)))<=(a1.1.length:Int) then (let y3:=oo (List.replicate 64 (0:UInt8)) 0 (min ((a1.1.take (af ((2:Int)+(af ((2:Int)*r2.1)))).toNat).drop 0).length (List.replicate 64 (0:UInt8)).length) ((a1.1.take (af ((2:Int)+(af ((2:Int)*r2.1)))).toNat).drop 0);l0 r2.1 (y3,(64:Int),(0:Int))) else none) else none
theorem ae (k:Nat) (a1:Arg):@Eq OO (D.W k a1) (p (r0 k a1) a1):=
 aQ (b:=p (s0 k a1) a1) (by kernel_rfl) (by rw[aq])
theorem ok:Ok prog 347 D.sig:=am func347 aw (by kernel_rfl) (fc cu.ok (fc bt.ok (fc jS.ok (fc jG.ok (aj _)))))
end gj
namespace qg
abbrev Arg:Type:=aT×Int×(List UInt8)×Unit
abbrev Out:Type:=Int×Bool×aT×Unit
noncomputable def D:FD:={ fn:=f342,tl:=bc,ps:=[(.jV (ai cv) (ai cv),cv),(.ro,i64),(.ro,(.aa u8))],rs:=[(i64,(ak i64)),(.bool,(ak .bool))],gl:=[(343,nF.D.sig),(344,iZ.D.sig),(347,gj.D.sig)],es:=[0] }
noncomputable def ab (a:Arg):Option Out:=@lift Out λk=>D.W k a
noncomputable def p (a1:Arg):Option Out:=if 0<=a1.2.1/\a1.2.1 < (a1.1.1.length:Int) then ((a1.1.1[a1.2.1.toNat]?).bind λx2=>(a1.1.1[a1.2.1.toNat]?).bind λx3=>(nF.ab (x3,a1.2.2.1,())).bind λr4=>let Tv:=λ(Xa:aT) (p14:List UInt8) (p15:Int) (Xb:Int)=>(bif !decide (Xb=(0:Int)) then (some ((0:Int),false,Xa,())) else (iZ.ab (Xa,a1.2.1,p14,())).bind λF9=>some (p15,true,F9.1,()):Option Out);bif decide (r4.2.2.1=(8:Int)) then (if 0<=a1.2.1/\a1.2.1 < (a1.1.1.length:Int) then ((a1.1.1[a1.2.1.toNat]?).bind λx5=>(a1.1.1[a1.2.1.toNat]?).bind λx6=>(gj.ab (x6,())).bind λr7=>(iZ.ab (a1.1,a1.2.1,r7.1,())).bind λr8=>if 0<=a1.2.1/\a1.2.1 < (r8.1.1.length:Int) then ((r8.1.1[a1.2.1.toNat]?).bind λx9=>(r8.1.1[a1.2.1.toNat]?).bind λXc=>(nF.ab (Xc,a1.2.2.1,())).bind λtA=>Tv r8.1 tA.1 tA.2.1 tA.2.2.1) else none) else none) else Tv a1.1 r4.1 r4.2.1 r4.2.2.1) else none
theorem ae (k:Nat) (a1:Arg):@Eq (Option Out) (D.W k a1) (p a1):=by kernel_rfl
theorem ok:Ok prog 342 D.sig:=am func342 aw (by kernel_rfl) (fc nF.ok (fc iZ.ok (fc gj.ok (aj _))))
end qg
namespace gq
abbrev Arg:Type:=aT×Int×(List UInt8)×Unit
abbrev Out:Type:=Int×Int×Bool×aT×Unit
abbrev OO:=Option Out
noncomputable def D:FD:={ fn:=f319,tl:=bc,ps:=[(.jV (ai cv) (ai cv),cv),(.ro,i64),(.ro,(.aa u8))],rs:=[(i64,(ak i64)),(i64,(ak i64)),(.bool,(ak .bool))],gl:=[(241,jL.D.sig),(342,qg.D.sig),(343,nF.D.sig),(344,iZ.D.sig)],es:=[0],lv:=[(2,[0,1,2,9])],lx:=[(0,[0,2]),(1,[0,1,2,9])] }
noncomputable def ab (a:Arg):OO:=@lift Out λk=>D.W k a
noncomputable def T0 (a1:Arg) (U:aT×Int):St:={ n:=65,sl:=[(0,.box cv (ai cv) [] U.1),(1,.val i64 a1.2.1),(2,.val (.aa u8) a1.2.2.1),(9,.val i64 U.2)],vr:=[],az:=[(0,0,false)] }
noncomputable def b0 (self:(aT×Int)->OO) (e0:aT->OO) (a1:Arg) (U:aT×Int):OO:=bif decide (U.2 < (U.1.1.length:Int)) then (bif decide (U.2=a1.2.1) then (self (U.1,af (U.2+(1:Int)))) else (qg.ab (U.1,U.2,a1.2.2.1,())).bind λvH=>bif vH.2.1 then (some (U.2,vH.1,true,vH.2.2.1,())) else self (vH.2.2.1,af (U.2+(1:Int)))) else e0 U.1
noncomputable def q0 (a1:Arg) (mM:aT):OO:=bif decide ((12:Int)<=(mM.1.length:Int)) then (some ((0:Int),(0:Int),false,mM,())) else (jL.ab ((0:UInt8),())).bind λls=>(nF.ab (ls.1,a1.2.2.1,())).bind λjy=>(iZ.ab (mM,(mM.1.length:Int),jy.1,())).bind λjz=>some (af ((jz.1.1.length:Int) - (1:Int)),jy.2.1,true,jz.1,())
noncomputable def s0 (k:Nat) (a1:Arg):(aT×Int)->OO:=λU=>D.L k [1,0,1,0,0] [0,1,2,9] [] (ah 0 (av (D.N k [1,1]) D.K0)) (T0 a1 U)
noncomputable def r0 (k:Nat) (a1:Arg):(aT×Int)->OO:=al (λw v=>b0 w (q0 a1) a1 v) k
theorem aq (k:Nat) (a1:Arg):s0 k a1=r0 k a1:=
 funext λU=>ap _ _ _ (T0 a1) _ (λrec v=>by kernel_rfl) k U
noncomputable def p (l0:(aT×Int)->OO) (a1:Arg):OO:=l0 (a1.1,(0:Int))
theorem ae (k:Nat) (a1:Arg):@Eq OO (D.W k a1) (p (r0 k a1) a1):=
 aQ (b:=p (s0 k a1) a1) (by kernel_rfl) (by rw[aq])
theorem ok:Ok prog 319 D.sig:=am func319 aw (by kernel_rfl) (fc jL.ok (fc qg.ok (fc nF.ok (fc iZ.ok (aj _)))))
end gq
namespace ji
abbrev Arg:Type:=Int×Row×Unit
abbrev Out:Type:=(List UInt8)×Unit
noncomputable def D:FD:={ fn:=f320,tl:=bc,ps:=[(.ro,i64),(.ro,(.ptr bd))],rs:=[((.aa u8),(ai (.aa u8)))],od:=[(1,[0,1,2,3,4,5,6,7,8,9,10,11,12,13,14,15,16,17,18,19,20,21,22,23,24,25,26,27,28,29,30,31])] }
noncomputable def ab (a:Arg):Option Out:=@lift Out λk=>D.W k a
noncomputable def p (a1:Arg):Option Out:=if a1.2.1.2.2.2.1.length<=cg then (if [UInt8.ofInt a1.1,UInt8.ofInt a1.2.1.1,UInt8.ofInt a1.2.1.2.1,UInt8.ofInt (af (a1.2.1.2.2.1.tdiv (256:Int))),UInt8.ofInt (a1.2.1.2.2.1.tmod (256:Int)),UInt8.ofInt (a1.2.1.2.2.2.1.length:Int)].length+a1.2.1.2.2.2.1.length<=cg then (let y2:=[UInt8.ofInt a1.1,UInt8.ofInt a1.2.1.1,UInt8.ofInt a1.2.1.2.1,UInt8.ofInt (af (a1.2.1.2.2.1.tdiv (256:Int))),UInt8.ofInt (a1.2.1.2.2.1.tmod (256:Int)),UInt8.ofInt (a1.2.1.2.2.2.1.length:Int)]++a1.2.1.2.2.2.1;some (y2,())) else none) else none
theorem ae (k:Nat) (a1:Arg):@Eq (Option Out) (D.W k a1) (p a1):=by kernel_rfl
theorem ok:Ok prog 320 D.sig:=am func320 aw (by kernel_rfl) (aj _)
end ji
namespace kC
abbrev Arg:Type:=aT×Unit
abbrev Out:Type:=dr×Unit
noncomputable def D:FD:={ fn:=f321,tl:=bc,ps:=[(.sg (ai cv),cv)],rs:=[(db,(ai db))],fz:=[(1,3,7),(1,7,7)],od:=[(1,[0,1,2,3,4,5,6,7,8,9])] }
noncomputable def ab (a:Arg):Option Out:=@lift Out λk=>D.W k a
noncomputable def p (a1:Arg):Option Out:=some (((0:Int),a1.1.2.1,a1.1.1,()),())
theorem ae (k:Nat) (a1:Arg):@Eq (Option Out) (D.W k a1) (p a1):=by kernel_rfl
theorem ok:Ok prog 321 D.sig:=am func321 aw (by kernel_rfl) (aj _)
end kC
namespace pv
abbrev Arg:Type:=(List (List UInt8))×Row×Unit
abbrev Out:Type:=dr×Unit
noncomputable def D:FD:={ fn:=f298,tl:=bc,ps:=[(.ro,(.aa (.aa u8))),(.ro,(.ptr bd))],rs:=[(db,(ai db))],gl:=[(240,fe.D.sig),(318,kT.D.sig),(319,gq.D.sig),(320,ji.D.sig),(321,kC.D.sig)] }
noncomputable def ab (a:Arg):Option Out:=@lift Out λk=>D.W k a
noncomputable def p (a1:Arg):Option Out:=(kT.ab (a1.1,())).bind λr2=>(ji.ab ((0:Int),a1.2.1,())).bind λr3=>(gq.ab (r2.1,(-1:Int),r3.1,())).bind λr4=>bif !r4.2.2.1 then ((fe.ab ((9:Int),())).bind λr5=>some (r5.1,())) else (kC.ab (r4.2.2.2.1,())).bind λr6=>some (r6.1,())
theorem ae (k:Nat) (a1:Arg):@Eq (Option Out) (D.W k a1) (p a1):=by kernel_rfl
theorem ok:Ok prog 298 D.sig:=am func298 aw (by kernel_rfl) (fc fe.ok (fc kT.ok (fc gq.ok (fc ji.ok (fc kC.ok (aj _))))))
end pv
namespace oS
abbrev Arg:Type:=(List UInt8)×Int×Unit
abbrev Out:Type:=(List UInt8)×Unit
abbrev OO:=Option Out
noncomputable def D:FD:={ fn:=f345,tl:=bc,ps:=[(.ro,(.aa u8)),(.ro,i64)],rs:=[((.aa u8),(ai (.aa u8)))],gl:=[(139,cb.D.sig),(229,bt.D.sig)],lv:=[(4,[5])],lx:=[(0,[5])] }
noncomputable def ab (a:Arg):OO:=@lift Out λk=>D.W k a
noncomputable def T0 (a1:Arg) (uD:List UInt8):St:={ n:=38,sl:=[(5,.own (.aa u8) (ai (.aa u8)) [] uD)],vr:=[],az:=[] }
noncomputable def b0 (self:(List UInt8)->OO) (e0:(List UInt8)->OO) (a1:Arg) (uD:List UInt8):OO:=if 0<=(0:Int)/\(0:Int) < (uD.length:Int) then ((uD[0]?).bind λAy=>bif decide ((0:Int) < (Ay.toNat:Int)) then (if 0<=(0:Int)/\(0:Int) < (uD.length:Int) then ((uD[0]?).bind λxf=>(bt.ab (uD,af ((af (xf.toNat:Int)) - (1:Int)),())).bind λxi=>bif decide (xi.1=(0:Int)) then (if 0<=(0:Int)/\(0:Int) < (uD.length:Int) then ((uD[0]?).bind λEA=>if 0<=(0:Int)/\(0:Int) < (uD.length:Int) then ((uD[0]?).bind λxS=>let MH:=uD.set 0 (UInt8.ofInt ((EA.toNat:Int) - (1:Int)));self MH) else none) else none) else e0 uD) else none) else e0 uD) else none
noncomputable def q0 (a1:Arg) (abL:(List UInt8)):OO:=some (abL,())
noncomputable def s0 (k:Nat) (a1:Arg):(List UInt8)->OO:=λuD=>D.L k [1,1,1,1,0,0,0] [5] [] (ah 0 (av (D.N k [1,1,1,1,1]) D.K0)) (T0 a1 uD)
noncomputable def r0 (k:Nat) (a1:Arg):(List UInt8)->OO:=al (λw v=>b0 w (q0 a1) a1 v) k
theorem aq (k:Nat) (a1:Arg):s0 k a1=r0 k a1:=
 funext λuD=>ap _ _ _ (T0 a1) _ (λrec v=>by kernel_rfl) k uD
noncomputable def p (l0:(List UInt8)->OO) (a1:Arg):OO:=(cb.ab (a1.1,())).bind λr2=>if 0<=af ((2:Int)+(af ((2:Int)*a1.2.1)))/\af ((2:Int)+(af ((2:Int)*a1.2.1))) < (r2.1.length:Int) then ((r2.1[(af ((2:Int)+(af ((2:Int)*a1.2.1)))).toNat]?).bind λx3=>let y4:=r2.1.set (af ((2:Int)+(af ((2:Int)*a1.2.1)))).toNat (0:UInt8);if 0<=af ((3:Int)+(af ((2:Int)*a1.2.1)))/\af ((3:Int)+(af ((2:Int)*a1.2.1))) < (y4.length:Int) then ((y4[(af ((3:Int)+(af ((2:Int)*a1.2.1)))).toNat]?).bind λx5=>let y6:=y4.set (af ((3:Int)+(af ((2:Int)*a1.2.1)))).toNat (0:UInt8);l0 y6) else none) else none
theorem ae (k:Nat) (a1:Arg):@Eq OO (D.W k a1) (p (r0 k a1) a1):=
 aQ (b:=p (s0 k a1) a1) (by kernel_rfl) (by rw[aq])
theorem ok:Ok prog 345 D.sig:=am func345 aw (by kernel_rfl) (fc cb.ok (fc bt.ok (aj _)))
end oS
namespace nx
abbrev Arg:Type:=aT×Int×Int×Unit
abbrev Out:Type:=aT×Unit
noncomputable def D:FD:={ fn:=f322,tl:=bc,ps:=[(.jV (ai cv) (ai cv),cv),(.ro,i64),(.ro,i64)],rs:=[],gl:=[(344,iZ.D.sig),(345,oS.D.sig)],es:=[0] }
noncomputable def ab (a:Arg):Option Out:=@lift Out λk=>D.W k a
noncomputable def p (a1:Arg):Option Out:=if 0<=a1.2.1/\a1.2.1 < (a1.1.1.length:Int) then ((a1.1.1[a1.2.1.toNat]?).bind λx2=>(a1.1.1[a1.2.1.toNat]?).bind λx3=>(oS.ab (x3,a1.2.2.1,())).bind λr4=>(iZ.ab (a1.1,a1.2.1,r4.1,())).bind λr5=>some (r5.1,())) else none
theorem ae (k:Nat) (a1:Arg):@Eq (Option Out) (D.W k a1) (p a1):=by kernel_rfl
theorem ok:Ok prog 322 D.sig:=am func322 aw (by kernel_rfl) (fc iZ.ok (fc oS.ok (aj _)))
end nx
namespace pw
abbrev Arg:Type:=(List (List UInt8))×ay×Unit
abbrev Out:Type:=dr×Unit
noncomputable def D:FD:={ fn:=f299,tl:=bc,ps:=[(.ro,(.aa (.aa u8))),(.ro,(.ptr gv))],rs:=[(db,(ai db))],gl:=[(318,kT.D.sig),(321,kC.D.sig),(322,nx.D.sig)],od:=[(2,[0,1,2,3,4,5,6,7,8,9]),(4,[0,1,2,3,4,5,6,7,8,9,10,11])] }
noncomputable def ab (a:Arg):Option Out:=@lift Out λk=>D.W k a
noncomputable def p (a1:Arg):Option Out:=(kT.ab (a1.1,())).bind λr2=>(nx.ab (r2.1,a1.2.1.1,a1.2.1.2.1,())).bind λr3=>bif decide (a1.2.1.2.2.1.2.1=(1:Int)) then ((nx.ab (r3.1,a1.2.1.2.2.1.2.2.1,a1.2.1.2.2.1.2.2.2.1,())).bind λr4=>(kC.ab (r4.1,())).bind λr6=>some (r6.1,())) else (kC.ab (r3.1,())).bind λr7=>some (r7.1,())
theorem ae (k:Nat) (a1:Arg):@Eq (Option Out) (D.W k a1) (p a1):=by kernel_rfl
theorem ok:Ok prog 299 D.sig:=am func299 aw (by kernel_rfl) (fc kT.ok (fc kC.ok (fc nx.ok (aj _))))
end pw
namespace qZ
abbrev Arg:Type:=(List UInt8)×Int×(List UInt8)×Unit
abbrev Out:Type:=(List UInt8)×Int×Unit
noncomputable def D:FD:={ fn:=f346,tl:=bc,ps:=[(.ro,(.aa u8)),(.ro,i64),(.ro,(.aa u8))],rs:=[((.aa u8),(ai (.aa u8))),(i64,(ak i64))],gl:=[(139,cb.D.sig),(228,cu.D.sig),(229,bt.D.sig),(284,kq.D.sig),(288,g_.D.sig),(359,kB.D.sig),(360,jG.D.sig)] }
noncomputable def ab (a:Arg):Option Out:=@lift Out λk=>D.W k a
noncomputable def p (a1:Arg):Option Out:=(bt.ab (a1.1,a1.2.1,())).bind λr2=>(cb.ab (a1.1,())).bind λr3=>bif decide ((a1.2.2.1.length:Int)<=r2.1) then ((g_.ab (a1.1,a1.2.1,())).bind λr4=>(jG.ab (r3.1,a1.2.1,af ((af (r4.1+r2.1)) - (a1.2.2.1.length:Int)),a1.2.2.1,())).bind λr5=>some (r5.1,(0:Int),())) else (kB.ab (a1.1,())).bind λr6=>bif decide (af (r6.1+r2.1) < (a1.2.2.1.length:Int)) then (some (([]:List UInt8),(9:Int),())) else (kq.ab (a1.1,())).bind λr7=>(cu.ab (a1.1,())).bind λr8=>bif decide (af (r7.1 - (a1.2.2.1.length:Int)) < af ((2:Int)+(af ((2:Int)*r8.1)))) then (some (([]:List UInt8),(8:Int),())) else if 0<=(1:Int)/\(1:Int) < (r3.1.length:Int) then ((r3.1[1]?).bind λx9=>let y10:=r3.1.set 1 (UInt8.ofInt (af (r7.1 - (a1.2.2.1.length:Int))));(jG.ab (y10,a1.2.1,af (r7.1 - (a1.2.2.1.length:Int)),a1.2.2.1,())).bind λtA=>some (tA.1,(0:Int),())) else none
theorem ae (k:Nat) (a1:Arg):@Eq (Option Out) (D.W k a1) (p a1):=by kernel_rfl
theorem ok:Ok prog 346 D.sig:=am func346 aw (by kernel_rfl) (fc cb.ok (fc cu.ok (fc bt.ok (fc kq.ok (fc g_.ok (fc kB.ok (fc jG.ok (aj _))))))))
end qZ
namespace nG
abbrev Arg:Type:=aT×Int×Int×(List UInt8)×Unit
abbrev Out:Type:=Bool×aT×Unit
noncomputable def D:FD:={ fn:=f324,tl:=bc,ps:=[(.jV (ai cv) (ai cv),cv),(.ro,i64),(.ro,i64),(.ro,(.aa u8))],rs:=[(.bool,(ak .bool))],gl:=[(344,iZ.D.sig),(346,qZ.D.sig),(347,gj.D.sig)],es:=[0] }
noncomputable def ab (a:Arg):Option Out:=@lift Out λk=>D.W k a
noncomputable def p (a1:Arg):Option Out:=if 0<=a1.2.1/\a1.2.1 < (a1.1.1.length:Int) then ((a1.1.1[a1.2.1.toNat]?).bind λx2=>(a1.1.1[a1.2.1.toNat]?).bind λx3=>(qZ.ab (x3,a1.2.2.1,a1.2.2.2.1,())).bind λr4=>bif decide (r4.2.1=(8:Int)) then (if 0<=a1.2.1/\a1.2.1 < (a1.1.1.length:Int) then ((a1.1.1[a1.2.1.toNat]?).bind λx5=>(a1.1.1[a1.2.1.toNat]?).bind λx6=>(gj.ab (x6,())).bind λr7=>(iZ.ab (a1.1,a1.2.1,r7.1,())).bind λr8=>if 0<=a1.2.1/\a1.2.1 < (r8.1.1.length:Int) then ((r8.1.1[a1.2.1.toNat]?).bind λx9=>(r8.1.1[a1.2.1.toNat]?).bind λXc=>(qZ.ab (Xc,a1.2.2.1,a1.2.2.2.1,())).bind λtA=>bif !decide (tA.2.1=(0:Int)) then (some (false,r8.1,())) else (iZ.ab (r8.1,a1.2.1,tA.1,())).bind λIf=>some (true,If.1,())) else none) else none) else bif !decide (r4.2.1=(0:Int)) then (some (false,a1.1,())) else (iZ.ab (a1.1,a1.2.1,r4.1,())).bind λxg=>some (true,xg.1,())) else none
theorem ae (k:Nat) (a1:Arg):@Eq (Option Out) (D.W k a1) (p a1):=by kernel_rfl
theorem ok:Ok prog 324 D.sig:=am func324 aw (by kernel_rfl) (fc iZ.ok (fc qZ.ok (fc gj.ok (aj _))))
end nG
namespace nZ
abbrev Arg:Type:=Int×Int×Unit
abbrev Out:Type:=(List UInt8)×Unit
noncomputable def D:FD:={ fn:=f325,tl:=bc,ps:=[(.ro,i64),(.ro,i64)],rs:=[((.aa u8),(ai (.aa u8)))] }
noncomputable def ab (a:Arg):Option Out:=@lift Out λk=>D.W k a
noncomputable def p (a1:Arg):Option Out:=some ([(1:UInt8),UInt8.ofInt a1.1,UInt8.ofInt a1.2.1],())
theorem ae (k:Nat) (a1:Arg):@Eq (Option Out) (D.W k a1) (p a1):=by kernel_rfl
theorem ok:Ok prog 325 D.sig:=am func325 aw (by kernel_rfl) (aj _)
end nZ
namespace ry
abbrev Arg:Type:=aT×ay×Row×Unit
abbrev Out:Type:=Bool×aT×Unit
noncomputable def D:FD:={ fn:=f323,tl:=bc,ps:=[(.jV (ai cv) (ai cv),cv),(.ro,(.ptr gv)),(.ro,(.ptr bd))],rs:=[(.bool,(ak .bool))],gl:=[(319,gq.D.sig),(320,ji.D.sig),(322,nx.D.sig),(324,nG.D.sig),(325,nZ.D.sig)],es:=[0],od:=[(9,[0,1,2,3,4,5,6,7,8,9,10,11,12])] }
noncomputable def ab (a:Arg):Option Out:=@lift Out λk=>D.W k a
noncomputable def p (a1:Arg):Option Out:=(ji.ab ((2:Int),a1.2.2.1,())).bind λr2=>(nG.ab (a1.1,a1.2.1.2.2.1.2.2.1,a1.2.1.2.2.1.2.2.2.1,r2.1,())).bind λr3=>bif r3.1 then (some (true,r3.2.1,())) else (gq.ab (r3.2.1,a1.2.1.2.2.1.2.2.1,r2.1,())).bind λr4=>bif !r4.2.2.1 then (some (false,r4.2.2.2.1,())) else (nZ.ab (r4.1,r4.2.1,())).bind λr5=>(nG.ab (r4.2.2.2.1,a1.2.1.1,a1.2.1.2.1,r5.1,())).bind λr6=>(nx.ab (r6.2.1,a1.2.1.2.2.1.2.2.1,a1.2.1.2.2.1.2.2.2.1,())).bind λr7=>some (true,r7.1,())
theorem ae (k:Nat) (a1:Arg):@Eq (Option Out) (D.W k a1) (p a1):=by kernel_rfl
theorem ok:Ok prog 323 D.sig:=am func323 aw (by kernel_rfl) (fc gq.ok (fc ji.ok (fc nx.ok (fc nG.ok (fc nZ.ok (aj _))))))
end ry
namespace px
abbrev Arg:Type:=(List (List UInt8))×ay×Row×Unit
abbrev Out:Type:=dr×Unit
noncomputable def D:FD:={ fn:=f300,tl:=bc,ps:=[(.ro,(.aa (.aa u8))),(.ro,(.ptr gv)),(.ro,(.ptr bd))],rs:=[(db,(ai db))],gl:=[(240,fe.D.sig),(318,kT.D.sig),(319,gq.D.sig),(320,ji.D.sig),(321,kC.D.sig),(323,ry.D.sig),(324,nG.D.sig),(325,nZ.D.sig)],od:=[(2,[0,1,2,3,4,5,6,7,8]),(8,[0,1,2,3,4,5,6,7,8,9,10,11]),(10,[0,1,2,3,4,5,6,7,8,9,10,11,12,13,14]),(13,[0,1,2,3,4,5,6,7,8,9,10,11,12])] }
noncomputable def ab (a:Arg):Option Out:=@lift Out λk=>D.W k a
noncomputable def p (a1:Arg):Option Out:=(kT.ab (a1.1,())).bind λr2=>bif (Ty.eq bd a1.2.1.2.2.1.2.2.2.2.1 a1.2.2.1) then ((kC.ab (r2.1,())).bind λr3=>some (r3.1,())) else bif decide (a1.2.1.2.2.1.2.1=(1:Int)) then ((ry.ab (r2.1,a1.2.1,a1.2.2.1,())).bind λr4=>bif !r4.1 then ((fe.ab ((9:Int),())).bind λr5=>some (r5.1,())) else (kC.ab (r4.2.1,())).bind λr6=>some (r6.1,())) else (ji.ab ((0:Int),a1.2.2.1,())).bind λr7=>(nG.ab (r2.1,a1.2.1.1,a1.2.1.2.1,r7.1,())).bind λr8=>bif r8.1 then ((kC.ab (r8.2.1,())).bind λr9=>some (r9.1,())) else (ji.ab ((2:Int),a1.2.2.1,())).bind λuY=>(gq.ab (r8.2.1,a1.2.1.1,uY.1,())).bind λtA=>bif !tA.2.2.1 then ((fe.ab ((9:Int),())).bind λwz=>some (wz.1,())) else (nZ.ab (tA.1,tA.2.1,())).bind λIf=>(nG.ab (tA.2.2.2.1,a1.2.1.1,a1.2.1.2.1,If.1,())).bind λxg=>(kC.ab (xg.2.1,())).bind λEz=>some (Ez.1,())
theorem ae (k:Nat) (a1:Arg):@Eq (Option Out) (D.W k a1) (p a1):=by kernel_rfl
theorem ok:Ok prog 300 D.sig:=am func300 aw (by kernel_rfl) (fc fe.ok (fc kT.ok (fc gq.ok (fc ji.ok (fc kC.ok (fc ry.ok (fc nG.ok (fc nZ.ok (aj _)))))))))
end px
namespace q9
abbrev Arg:Type:=(List (List UInt8))×Change×Unit
abbrev Out:Type:=dr×Unit
noncomputable def D:FD:={ fn:=f247,tl:=bc,ps:=[(.ro,(.aa (.aa u8))),(.ro,(.ptr an))],rs:=[(db,(ai db))],gl:=[(204,ku.D.sig),(240,fe.D.sig),(297,mG.D.sig),(298,pv.D.sig),(299,pw.D.sig),(300,px.D.sig)],od:=[(3,[0,1,2,3,4,5,6,7,8,9,10,11,12,13,14,15,16,17,18])] }
noncomputable def ab (a:Arg):Option Out:=@lift Out λk=>D.W k a
noncomputable def p (a1:Arg):Option Out:=(ku.ab (a1.2.1,())).bind λr2=>(mG.ab (a1.1,r2.1,r2.2.1,())).bind λr3=>let j9:Option Out:=bif !a1.2.1.1 then ((pv.ab (a1.1,a1.2.1.2.2.2.1,())).bind λuY=>some (uY.1,())) else bif !a1.2.1.2.2.1 then ((pw.ab (a1.1,r3.1,())).bind λtA=>some (tA.1,())) else (px.ab (a1.1,r3.1,a1.2.1.2.2.2.1,())).bind λwz=>some (wz.1,());bif !(r3.2.1 == a1.2.1.1) then ((fe.ab ((8:Int),())).bind λr4=>some (r4.1,())) else bif r3.2.1 then (bif !(Ty.eq bd r3.1.2.2.1.2.2.2.2.1 a1.2.1.2.1) then ((fe.ab ((8:Int),())).bind λr5=>some (r5.1,())) else j9) else j9
theorem ae (k:Nat) (a1:Arg):@Eq (Option Out) (D.W k a1) (p a1):=by kernel_rfl
theorem ok:Ok prog 247 D.sig:=am func247 aw (by kernel_rfl) (fc ku.ok (fc fe.ok (fc mG.ok (fc pv.ok (fc pw.ok (fc px.ok (aj _)))))))
end q9
namespace oT
abbrev Arg:Type:=(List UInt8)×(List UInt8)×Unit
abbrev Out:Type:=(List cd)×Unit
abbrev OO:=Option Out
noncomputable def D:FD:={ fn:=f301,tl:=bc,ps:=[(.ro,(.aa u8)),(.ro,(.aa u8))],rs:=[((.aa nM),(ai (.aa nM)))],lv:=[(4,[0,1,5,6,7])],lx:=[(0,[5]),(1,[0,1,5,6,7])],od:=[(6,[0,1,2,3,4,5,6,7,8]),(12,[0,1,2,3,4,5,6,7,8,9,10,11,12,13])] }
noncomputable def ab (a:Arg):OO:=@lift Out λk=>D.W k a
noncomputable def T0 (a1:Arg) (U:(List cd)×Bool×Int):St:={ n:=51,sl:=[(0,.val (.aa u8) a1.1),(1,.val (.aa u8) a1.2.1),(5,.own (.aa nM) (ai (.aa nM)) [] U.1),(6,.val .bool U.2.1),(7,.val i64 U.2.2)],vr:=[],az:=[] }
noncomputable def b0 (self:((List cd)×Bool×Int)->OO) (e0:(List cd)->OO) (a1:Arg) (U:(List cd)×Bool×Int):OO:=bif decide (U.2.2 < (a1.1.length:Int)) then (if 0<=U.2.2 then ((a1.1[U.2.2.toNat]?).bind λa8=>if 0<=U.2.2 then ((a1.2.1[U.2.2.toNat]?).bind λgx=>bif decide ((a8.toNat:Int)=(gx.toNat:Int)) then (self (U.1,false,af (U.2.2+(1:Int)))) else let MI:=λ(sQ:List cd)=>(if 0<=af ((sQ.length:Int) - (1:Int))/\af ((sQ.length:Int) - (1:Int)) < (sQ.length:Int) then ((sQ[(af ((sQ.length:Int) - (1:Int))).toNat]?).bind λAA=>if 0<=U.2.2 then ((a1.2.1[U.2.2.toNat]?).bind λC_=>(sQ[(af ((sQ.length:Int) - (1:Int))).toNat]?).bind λAB=>(sQ[(af ((sQ.length:Int) - (1:Int))).toNat]?).bind λJp=>if AB.2.1.length+[C_].length<=cg then (if (af ((sQ.length:Int) - (1:Int))).toNat=(af ((sQ.length:Int) - (1:Int))).toNat then ((sQ.set (af ((sQ.length:Int) - (1:Int))).toNat Jp)[(af ((sQ.length:Int) - (1:Int))).toNat]?).bind λu0=>let MJ:=(sQ.set (af ((sQ.length:Int) - (1:Int))).toNat Jp).set (af ((sQ.length:Int) - (1:Int))).toNat (u0.1,AB.2.1++[C_],u0.2.2);self (MJ,true,af (U.2.2+(1:Int))) else none) else none) else none) else none:OO);bif !U.2.1 then (if U.1.length+[(U.2.2,([]:List UInt8),())].length<=cg then (let Vp:=U.1++[(U.2.2,([]:List UInt8),())];MI Vp) else none) else MI U.1) else none) else none) else e0 U.1
noncomputable def q0 (a1:Arg) (abM:(List cd)):OO:=some (abM,())
noncomputable def s0 (k:Nat) (a1:Arg):((List cd)×Bool×Int)->OO:=λU=>D.L k [1,1,1,0,1,0,0] [0,1,5,6,7] [] (ah 0 (av (D.N k [1,1,1,1]) D.K0)) (T0 a1 U)
noncomputable def r0 (k:Nat) (a1:Arg):((List cd)×Bool×Int)->OO:=al (λw v=>b0 w (q0 a1) a1 v) k
theorem aq (k:Nat) (a1:Arg):s0 k a1=r0 k a1:=
 funext λU=>ap _ _ _ (T0 a1) _ (λrec v=>by kernel_rfl) k U
noncomputable def p (l0:((List cd)×Bool×Int)->OO) (a1:Arg):OO:=l0 (([]:List cd),false,(0:Int))
theorem ae (k:Nat) (a1:Arg):@Eq OO (D.W k a1) (p (r0 k a1) a1):=
 aQ (b:=p (s0 k a1) a1) (by kernel_rfl) (by rw[aq])
theorem ok:Ok prog 301 D.sig:=am func301 aw (by kernel_rfl) (aj _)
end oT
namespace sR
abbrev Arg:Type:=(List (List UInt8))×cd×Int×Int×Unit
abbrev Out:Type:=bm×Unit
noncomputable def D:FD:={ fn:=f248,tl:=bc,ps:=[(.ro,(.aa (.aa u8))),(.ro,(.ptr nM)),(.ro,i64),(.ro,i64)],rs:=[(ek,(ai ek))],gl:=[(241,jL.D.sig),(301,oT.D.sig)],od:=[(4,[0,1,2,3,4,5,6,7,8,9,10,11,12,13])] }
noncomputable def ab (a:Arg):Option Out:=@lift Out λk=>D.W k a
noncomputable def p (a1:Arg):Option Out:=(jL.ab ((0:UInt8),())).bind λr2=>bif decide (a1.2.1.1 < (a1.1.length:Int)) then (if 0<=a1.2.1.1 then ((a1.1[a1.2.1.1.toNat]?).bind λx3=>(oT.ab (x3,a1.2.1.2.1,())).bind λr5=>some ((a1.2.2.1,a1.2.2.2.1,a1.2.1.1,r5.1,()),())) else none) else (oT.ab (r2.1,a1.2.1.2.1,())).bind λr6=>some ((a1.2.2.1,a1.2.2.2.1,a1.2.1.1,r6.1,()),())
theorem ae (k:Nat) (a1:Arg):@Eq (Option Out) (D.W k a1) (p a1):=by kernel_rfl
theorem ok:Ok prog 248 D.sig:=am func248 aw (by kernel_rfl) (fc jL.ok (fc oT.ok (aj _)))
end sR
namespace kU
abbrev Arg:Type:=(List (List UInt8))×(List cd)×Unit
abbrev Out:Type:=dr×Unit
abbrev OO:=Option Out
noncomputable def D:FD:={ fn:=f249,tl:=bc,ps:=[(.ro,(.aa (.aa u8))),(.ro,(.aa nM))],rs:=[(db,(ai db))],gl:=[(65,br.D.sig),(126,ir.D.sig),(139,cb.D.sig),(240,fe.D.sig)],lv:=[(5,[1,4,5,6])],lx:=[(0,[4,5])],od:=[(8,[0,1,2,3,4,5,6,7,8,9,10,11,12,13,14,15,16]),(12,[0,1,2,3,4,5,6,7]),(13,[0,1,2,3,4,5,6,7,8,9,10]),(14,[0,1,2,3,4,5,6,7,8,9,10,11,12]),(15,[0,1,2,3,4,5,6,7,8,9,10,11,12,13,14,15])] }
noncomputable def ab (a:Arg):OO:=@lift Out λk=>D.W k a
noncomputable def T0 (a1:Arg) (cq:dr×Int):St:={ n:=94,sl:=[(1,.val (.aa nM) a1.2.1),(4,.box db (ai db) [] ((0:Int),([]:List cd),([]:List (List UInt8)),())),(5,.box db (ai db) [] cq.1),(6,.val i64 cq.2)],vr:=[],az:=[] }
noncomputable def b0 (self:(dr×Int)->OO) (e0:dr->OO) (a1:Arg) (cq:dr×Int):OO:=bif decide (cq.2 < (a1.2.1.length:Int)) then (if 0<=cq.2 then ((a1.2.1[cq.2.toNat]?).bind λdw=>bif !decide ((dw.2.1.length:Int)=(64:Int)) then ((fe.ab ((1:Int),())).bind λjz=>some (jz.1,())) else (br.ab (dw.1,(0:Int),(cq.1.2.2.1.length:Int),())).bind λjy=>bif !jy.1 then ((fe.ab ((1:Int),())).bind λpF=>some (pF.1,())) else bif decide (dw.1=(12:Int)) then ((fe.ab ((2:Int),())).bind λuX=>some (uX.1,())) else bif decide (dw.1=(cq.1.2.2.1.length:Int)) then ((cb.ab (dw.2.1,())).bind λxi=>if cq.1.2.2.1.length+[xi.1].length<=cg then ((cb.ab (dw.2.1,())).bind λDa=>if cq.1.2.1.length+[(dw.1,Da.1,())].length<=cg then (self ((cq.1.1,cq.1.2.1++[(dw.1,Da.1,())],cq.1.2.2.1++[xi.1],cq.1.2.2.2),af (cq.2+(1:Int)))) else none) else none) else (cb.ab (dw.2.1,())).bind λMF=>if 0<=dw.1/\dw.1 < (cq.1.2.2.1.length:Int) then ((cq.1.2.2.1[dw.1.toNat]?).bind λxS=>(cb.ab (dw.2.1,())).bind λZM=>if cq.1.2.1.length+[(dw.1,ZM.1,())].length<=cg then (self ((cq.1.1,cq.1.2.1++[(dw.1,ZM.1,())],cq.1.2.2.1.set dw.1.toNat MF.1,cq.1.2.2.2),af (cq.2+(1:Int)))) else none) else none) else none) else e0 cq.1
noncomputable def q0 (a1:Arg) (Vq:dr):OO:=some (Vq,())
noncomputable def s0 (k:Nat) (a1:Arg):(dr×Int)->OO:=λcq=>D.L k [1,1,1,0,1,0,0] [1,4,5,6] [] (ah 0 (av (D.N k [1,1,1,1]) D.K0)) (T0 a1 cq)
noncomputable def r0 (k:Nat) (a1:Arg):(dr×Int)->OO:=al (λw v=>b0 w (q0 a1) a1 v) k
theorem aq (k:Nat) (a1:Arg):s0 k a1=r0 k a1:=
 funext λcq=>ap _ _ _ (T0 a1) _ (λrec v=>by kernel_rfl) k cq
noncomputable def p (l0:(dr×Int)->OO) (a1:Arg):OO:=bif decide ((12:Int) < (a1.1.length:Int)) then ((fe.ab ((2:Int),())).bind λr2=>some (r2.1,())) else (ir.ab (a1.1,())).bind λr3=>l0 (((0:Int),([]:List cd),r3.1,()),(0:Int))
theorem ae (k:Nat) (a1:Arg):@Eq OO (D.W k a1) (p (r0 k a1) a1):=
 aQ (b:=p (s0 k a1) a1) (by kernel_rfl) (by rw[aq])
theorem ok:Ok prog 249 D.sig:=am func249 aw (by kernel_rfl) (fc br.ok (fc ir.ok (fc cb.ok (fc fe.ok (aj _)))))
end kU
namespace lL
abbrev Arg:Type:=bj×Change×Int×Int×Unit
abbrev Out:Type:=Int×bj×Unit
abbrev OO:=Option Out
noncomputable def D:FD:={ fn:=f165,tl:=bc,ps:=[(.jV (.pair (ak .bool) (.pair (ai (.aa (.aa u8))) (.pair (ak ee) (.pair (.aa true (.pair (ak i64) (.pair (ak (.aa an)) (ai (bq [(.aa i64),(.aa be)]))))) (ak (bq [i64])))))) (.pair (ak .bool) (.pair (ai (.aa (.aa u8))) (.pair (ak ee) (.pair (.aa true (.pair (ak i64) (.pair (ak (.aa an)) (ai (bq [(.aa i64),(.aa be)]))))) (ak (bq [i64])))))),ci),(.ro,(.ptr an)),(.ro,i64),(.ro,i64)],rs:=[(i64,(ak i64))],gl:=[(129,lh.D.sig),(247,q9.D.sig),(248,sR.D.sig),(249,kU.D.sig)],es:=[0],lv:=[(5,[0,2,3,9,10])],lx:=[(0,[0])],od:=[(7,[0,1,2,3,4,5,6,7,8,9,10,11,12]),(11,[0,1,2,3,4,5,6,7,8,9,10,11,12,13,14,15])],ar:=[(7,[])],pd:=[(7,[11])],er:=[(7,[(3,13),(5,13)])] }
noncomputable def ab (a:Arg):OO:=@lift Out λk=>D.W k a
noncomputable def T0 (a1:Arg) (dx:dr) (bf:bj×Int):St:={ n:=62,sl:=[(0,.box ci (.pair (ak .bool) (.pair (ai (.aa (.aa u8))) (.pair (ak ee) (.pair (.aa true (.pair (ak i64) (.pair (ak (.aa an)) (ai (bq [(.aa i64),(.aa be)]))))) (ak (bq [i64])))))) [] bf.1),(2,.val i64 a1.2.2.1),(3,.val i64 a1.2.2.2.1),(9,.box db (ai db) [] dx),(10,.val i64 bf.2)],vr:=[],az:=[(0,0,false)] }
noncomputable def b0 (self:(bj×Int)->OO) (e0:bj->OO) (a1:Arg) (dx:dr) (bf:bj×Int):OO:=bif decide (bf.2 < (dx.2.1.length:Int)) then (if 0<=bf.2/\bf.2 < (dx.2.1.length:Int) then ((dx.2.1[bf.2.toNat]?).bind λdw=>(sR.ab (bf.1.2.1,dw,a1.2.2.1,a1.2.2.2.1,())).bind λjy=>(lh.ab (bf.1,jy.1,())).bind λjz=>bif !decide (jz.1=(0:Int)) then (some (jz.1,jz.2.1,())) else if 0<=bf.2/\bf.2<=af (bf.2+(1:Int))/\af (bf.2+(1:Int))<=(dx.2.1.length:Int) then ((kU.ab (jz.2.1.2.1,(dx.2.1.take (af (bf.2+(1:Int))).toNat).drop bf.2.toNat,())).bind λpF=>self ((jz.2.1.1,pF.1.2.2.1,jz.2.1.2.2),af (bf.2+(1:Int)))) else none) else none) else e0 bf.1
noncomputable def q0 (a1:Arg) (dx:dr) (uZ:bj):OO:=some ((0:Int),uZ,())
noncomputable def s0 (k:Nat) (a1:Arg):dr->(bj×Int)->OO:=λdx=>λbf=>D.L k [1,1,1,0,1,0,0] [0,2,3,9,10] [] (ah 0 (av (D.N k [1,1,1,1]) D.K0)) (T0 a1 dx bf)
noncomputable def r0 (k:Nat) (a1:Arg):dr->(bj×Int)->OO:=λdx=>al (λw v=>b0 w (q0 a1 dx) a1 dx v) k
theorem aq (k:Nat) (a1:Arg):s0 k a1=r0 k a1:=
 funext λdx=>funext λbf=>ap _ _ _ (T0 a1 dx) _ (λrec v=>by kernel_rfl) k bf
noncomputable def p (l0:dr->(bj×Int)->OO) (a1:Arg):OO:=(q9.ab (a1.1.2.1,a1.2.1,())).bind λr2=>bif !decide (r2.1.1=(0:Int)) then (some (r2.1.1,a1.1,())) else l0 r2.1 (a1.1,(0:Int))
theorem ae (k:Nat) (a1:Arg):@Eq OO (D.W k a1) (p (r0 k a1) a1):=
 aQ (b:=p (s0 k a1) a1) (by kernel_rfl) (by rw[aq])
theorem ok:Ok prog 165 D.sig:=am func165 aw (by kernel_rfl) (fc lh.ok (fc q9.ok (fc sR.ok (fc kU.ok (aj _)))))
end lL
namespace lM
abbrev Arg:Type:=bj×(List Change)×Int×Unit
abbrev Out:Type:=Int×bj×Unit
abbrev OO:=Option Out
noncomputable def D:FD:={ fn:=f128,tl:=bc,ps:=[(.jV (.pair (ak .bool) (.pair (ai (.aa (.aa u8))) (.pair (ak ee) (.pair (.aa true (.pair (ak i64) (.pair (ak (.aa an)) (ai (bq [(.aa i64),(.aa be)]))))) (ak (bq [i64])))))) (.pair (ak .bool) (.pair (ai (.aa (.aa u8))) (.pair (ak ee) (.pair (.aa true (.pair (ak i64) (.pair (ak (.aa an)) (ai (bq [(.aa i64),(.aa be)]))))) (ak (bq [i64])))))),ci),(.ro,(.aa an)),(.ro,i64)],rs:=[(i64,(ak i64))],gl:=[(165,lL.D.sig),(206,ja.D.sig)],es:=[0],fz:=[(1,2,0)],lv:=[(3,[0,2,7,8])],lx:=[(0,[0])] }
noncomputable def ab (a:Arg):OO:=@lift Out λk=>D.W k a
noncomputable def T0 (a1:Arg) (dx:List Change) (bf:bj×Int):St:={ n:=27,sl:=[(0,.box ci (.pair (ak .bool) (.pair (ai (.aa (.aa u8))) (.pair (ak ee) (.pair (.aa true (.pair (ak i64) (.pair (ak (.aa an)) (ai (bq [(.aa i64),(.aa be)]))))) (ak (bq [i64])))))) [] bf.1),(2,.val i64 a1.2.2.1),(7,.val (.aa an) dx),(8,.val i64 bf.2)],vr:=[],az:=[(0,0,false)] }
noncomputable def b0 (self:(bj×Int)->OO) (e0:bj->OO) (a1:Arg) (dx:List Change) (bf:bj×Int):OO:=bif decide (bf.2 < (dx.length:Int)) then (if 0<=bf.2 then ((dx[bf.2.toNat]?).bind λdw=>(lL.ab (bf.1,dw,(3:Int),a1.2.2.1,())).bind λjy=>bif !decide (jy.1=(0:Int)) then (some (jy.1,jy.2.1,())) else self (jy.2.1,af (bf.2+(1:Int)))) else none) else e0 bf.1
noncomputable def q0 (a1:Arg) (dx:List Change) (lg:bj):OO:=some ((0:Int),lg,())
noncomputable def s0 (k:Nat) (a1:Arg):(List Change)->(bj×Int)->OO:=λdx=>λbf=>D.L k [1,1,0,1,0,0] [0,2,7,8] [] (ah 0 (av (D.N k [1,1,1]) D.K0)) (T0 a1 dx bf)
noncomputable def r0 (k:Nat) (a1:Arg):(List Change)->(bj×Int)->OO:=λdx=>al (λw v=>b0 w (q0 a1 dx) a1 dx v) k
theorem aq (k:Nat) (a1:Arg):s0 k a1=r0 k a1:=
 funext λdx=>funext λbf=>ap _ _ _ (T0 a1 dx) _ (λrec v=>by kernel_rfl) k bf
noncomputable def p (l0:(List Change)->(bj×Int)->OO) (a1:Arg):OO:=(ja.ab (a1.2.1,())).bind λr2=>l0 r2.1 (a1.1,(0:Int))
theorem ae (k:Nat) (a1:Arg):@Eq OO (D.W k a1) (p (r0 k a1) a1):=
 aQ (b:=p (s0 k a1) a1) (by kernel_rfl) (by rw[aq])
theorem ok:Ok prog 128 D.sig:=am func128 aw (by kernel_rfl) (fc lL.ok (fc ja.ok (aj _)))
end lM
namespace nj
abbrev Arg:Type:=(List UInt8)×Unit
abbrev Out:Type:=(List UInt8)×Unit
abbrev OO:=Option Out
noncomputable def D:FD:={ fn:=f95,tl:=bc,ps:=[(.ro,(.aa u8))],rs:=[((.aa u8),(ai (.aa u8)))],lv:=[(3,[0,3,4])],lx:=[(0,[3])] }
noncomputable def ab (a:Arg):OO:=@lift Out λk=>D.W k a
noncomputable def T0 (a1:Arg) (U:(List UInt8)×Int):St:={ n:=22,sl:=[(0,.val (.aa u8) a1.1),(3,.own (.aa u8) (ai (.aa u8)) [] U.1),(4,.val i64 U.2)],vr:=[],az:=[] }
noncomputable def b0 (self:((List UInt8)×Int)->OO) (e0:(List UInt8)->OO) (a1:Arg) (U:(List UInt8)×Int):OO:=bif decide (U.2 < (a1.1.length:Int)) then (if 0<=U.2 then ((a1.1[U.2.toNat]?).bind λa8=>if 0<=U.2/\U.2 < (U.1.length:Int) then ((U.1[U.2.toNat]?).bind λgx=>self (U.1.set U.2.toNat a8,af (U.2+(1:Int)))) else none) else none) else e0 U.1
noncomputable def q0 (a1:Arg) (et:(List UInt8)):OO:=some (et,())
noncomputable def s0 (k:Nat) (a1:Arg):((List UInt8)×Int)->OO:=λU=>D.L k [1,1,0,1,0,0] [0,3,4] [] (ah 0 (av (D.N k [1,1,1]) D.K0)) (T0 a1 U)
noncomputable def r0 (k:Nat) (a1:Arg):((List UInt8)×Int)->OO:=al (λw v=>b0 w (q0 a1) a1 v) k
theorem aq (k:Nat) (a1:Arg):s0 k a1=r0 k a1:=
 funext λU=>ap _ _ _ (T0 a1) _ (λrec v=>by kernel_rfl) k U
noncomputable def p (l0:((List UInt8)×Int)->OO) (a1:Arg):OO:=if 0<=(a1.1.length:Int)/\(a1.1.length:Int)<=(a1.1.length:Int)/\(a1.1.length:Int)<=(cg:Int) then (l0 (List.replicate (a1.1.length:Int).toNat (0:UInt8),(0:Int))) else none
theorem ae (k:Nat) (a1:Arg):@Eq OO (D.W k a1) (p (r0 k a1) a1):=
 aQ (b:=p (s0 k a1) a1) (by kernel_rfl) (by rw[aq])
theorem ok:Ok prog 95 D.sig:=am func95 aw (by kernel_rfl) (aj _)
end nj
namespace sb
abbrev Arg:Type:=(List (List UInt8))×Unit
abbrev Out:Type:=(List (List UInt8))×Unit
abbrev OO:=Option Out
noncomputable def D:FD:={ fn:=f42,tl:=bc,ps:=[(.ro,(.aa (.aa u8)))],rs:=[((.aa (.aa u8)),(ai (.aa (.aa u8))))],gl:=[(95,nj.D.sig)],lv:=[(3,[0,3,4])],lx:=[(0,[3])] }
noncomputable def ab (a:Arg):OO:=@lift Out λk=>D.W k a
noncomputable def T0 (a1:Arg) (U:(List (List UInt8))×Int):St:={ n:=23,sl:=[(0,.val (.aa (.aa u8)) a1.1),(3,.own (.aa (.aa u8)) (ai (.aa (.aa u8))) [] U.1),(4,.val i64 U.2)],vr:=[],az:=[] }
noncomputable def b0 (self:((List (List UInt8))×Int)->OO) (e0:(List (List UInt8))->OO) (a1:Arg) (U:(List (List UInt8))×Int):OO:=bif decide (U.2 < (a1.1.length:Int)) then (if 0<=U.2 then ((a1.1[U.2.toNat]?).bind λa8=>(nj.ab (a8,())).bind λdg=>if 0<=U.2/\U.2 < (U.1.length:Int) then ((U.1[U.2.toNat]?).bind λdw=>self (U.1.set U.2.toNat dg.1,af (U.2+(1:Int)))) else none) else none) else e0 U.1
noncomputable def q0 (a1:Arg) (qY:(List (List UInt8))):OO:=some (qY,())
noncomputable def s0 (k:Nat) (a1:Arg):((List (List UInt8))×Int)->OO:=λU=>D.L k [1,1,0,1,0,0] [0,3,4] [] (ah 0 (av (D.N k [1,1,1]) D.K0)) (T0 a1 U)
noncomputable def r0 (k:Nat) (a1:Arg):((List (List UInt8))×Int)->OO:=al (λw v=>b0 w (q0 a1) a1 v) k
theorem aq (k:Nat) (a1:Arg):s0 k a1=r0 k a1:=
 funext λU=>ap _ _ _ (T0 a1) _ (λrec v=>by kernel_rfl) k U
noncomputable def p (l0:((List (List UInt8))×Int)->OO) (a1:Arg):OO:=if 0<=(a1.1.length:Int)/\(a1.1.length:Int)<=(a1.1.length:Int)/\(a1.1.length:Int)<=(cg:Int) then (l0 (List.replicate (a1.1.length:Int).toNat ([]:List UInt8),(0:Int))) else none
theorem ae (k:Nat) (a1:Arg):@Eq OO (D.W k a1) (p (r0 k a1) a1):=
 aQ (b:=p (s0 k a1) a1) (by kernel_rfl) (by rw[aq])
theorem ok:Ok prog 42 D.sig:=am func42 aw (by kernel_rfl) (fc nj.ok (aj _))
end sb
namespace sy
abbrev Arg:Type:=Log×Unit
abbrev Out:Type:=Log×Unit
noncomputable def D:FD:={ fn:=f43,tl:=bc,ps:=[(.ro,ee)],rs:=[(ee,(ai ee))],gl:=[(95,nj.D.sig)] }
noncomputable def ab (a:Arg):Option Out:=@lift Out λk=>D.W k a
noncomputable def p (a1:Arg):Option Out:=(nj.ab (a1.1.1,())).bind λr2=>(nj.ab (a1.1.2.1,())).bind λr3=>some ((r2.1,r3.1,()),())
theorem ae (k:Nat) (a1:Arg):@Eq (Option Out) (D.W k a1) (p a1):=by kernel_rfl
theorem ok:Ok prog 43 D.sig:=am func43 aw (by kernel_rfl) (fc nj.ok (aj _))
end sy
namespace q_
abbrev Arg:Type:=Row×Unit
abbrev Out:Type:=Row×Unit
noncomputable def D:FD:={ fn:=f45,tl:=bc,ps:=[(.ro,bd)],rs:=[(bd,(ak bd))] }
noncomputable def ab (a:Arg):Option Out:=@lift Out λk=>D.W k a
noncomputable def p (a1:Arg):Option Out:=some ((a1.1.1,a1.1.2.1,a1.1.2.2.1,a1.1.2.2.2.1,()),())
theorem ae (k:Nat) (a1:Arg):@Eq (Option Out) (D.W k a1) (p a1):=by kernel_rfl
theorem ok:Ok prog 45 D.sig:=am func45 aw (by kernel_rfl) (aj _)
end q_
namespace n9
abbrev Arg:Type:=Change×Unit
abbrev Out:Type:=Change×Unit
noncomputable def D:FD:={ fn:=f130,tl:=bc,ps:=[(.ro,an)],rs:=[(an,(ak an))],gl:=[(45,q_.D.sig)] }
noncomputable def ab (a:Arg):Option Out:=@lift Out λk=>D.W k a
noncomputable def p (a1:Arg):Option Out:=(q_.ab (a1.1.2.1,())).bind λr2=>(q_.ab (a1.1.2.2.2.1,())).bind λr3=>some ((a1.1.1,r2.1,a1.1.2.2.1,r3.1,()),())
theorem ae (k:Nat) (a1:Arg):@Eq (Option Out) (D.W k a1) (p a1):=by kernel_rfl
theorem ok:Ok prog 130 D.sig:=am func130 aw (by kernel_rfl) (fc q_.ok (aj _))
end n9
namespace nH
abbrev Arg:Type:=(List Change)×Unit
abbrev Out:Type:=(List Change)×Unit
abbrev OO:=Option Out
noncomputable def D:FD:={ fn:=f69,tl:=bc,ps:=[(.ro,(.aa an))],rs:=[((.aa an),(ai (.aa an)))],gl:=[(130,n9.D.sig)],lv:=[(3,[0,3,4])],lx:=[(0,[3])] }
noncomputable def ab (a:Arg):OO:=@lift Out λk=>D.W k a
noncomputable def T0 (a1:Arg) (U:(List Change)×Int):St:={ n:=23,sl:=[(0,.val (.aa an) a1.1),(3,.own (.aa an) (ai (.aa an)) [] U.1),(4,.val i64 U.2)],vr:=[],az:=[] }
noncomputable def b0 (self:((List Change)×Int)->OO) (e0:(List Change)->OO) (a1:Arg) (U:(List Change)×Int):OO:=bif decide (U.2 < (a1.1.length:Int)) then (if 0<=U.2 then ((a1.1[U.2.toNat]?).bind λa8=>(n9.ab (a8,())).bind λdg=>if 0<=U.2/\U.2 < (U.1.length:Int) then ((U.1[U.2.toNat]?).bind λdw=>self (U.1.set U.2.toNat dg.1,af (U.2+(1:Int)))) else none) else none) else e0 U.1
noncomputable def q0 (a1:Arg) (qY:(List Change)):OO:=some (qY,())
noncomputable def s0 (k:Nat) (a1:Arg):((List Change)×Int)->OO:=λU=>D.L k [1,1,0,1,0,0] [0,3,4] [] (ah 0 (av (D.N k [1,1,1]) D.K0)) (T0 a1 U)
noncomputable def r0 (k:Nat) (a1:Arg):((List Change)×Int)->OO:=al (λw v=>b0 w (q0 a1) a1 v) k
theorem aq (k:Nat) (a1:Arg):s0 k a1=r0 k a1:=
 funext λU=>ap _ _ _ (T0 a1) _ (λrec v=>by kernel_rfl) k U
noncomputable def p (l0:((List Change)×Int)->OO) (a1:Arg):OO:=if 0<=(a1.1.length:Int)/\(a1.1.length:Int)<=(a1.1.length:Int)/\(a1.1.length:Int)<=(cg:Int) then (l0 (List.replicate (a1.1.length:Int).toNat (false,((0:Int),(0:Int),(0:Int),([]:List UInt8),()),false,((0:Int),(0:Int),(0:Int),([]:List UInt8),()),()),(0:Int))) else none
theorem ae (k:Nat) (a1:Arg):@Eq OO (D.W k a1) (p (r0 k a1) a1):=
 aQ (b:=p (s0 k a1) a1) (by kernel_rfl) (by rw[aq])
theorem ok:Ok prog 69 D.sig:=am func69 aw (by kernel_rfl) (fc n9.ok (aj _))
end nH
namespace sc
abbrev Arg:Type:=(List Int)×Unit
abbrev Out:Type:=(List Int)×Unit
abbrev OO:=Option Out
noncomputable def D:FD:={ fn:=f167,tl:=bc,ps:=[(.ro,(.aa i64))],rs:=[((.aa i64),(ai (.aa i64)))],lv:=[(3,[0,3,4])],lx:=[(0,[3])] }
noncomputable def ab (a:Arg):OO:=@lift Out λk=>D.W k a
noncomputable def T0 (a1:Arg) (U:(List Int)×Int):St:={ n:=22,sl:=[(0,.val (.aa i64) a1.1),(3,.own (.aa i64) (ai (.aa i64)) [] U.1),(4,.val i64 U.2)],vr:=[],az:=[] }
noncomputable def b0 (self:((List Int)×Int)->OO) (e0:(List Int)->OO) (a1:Arg) (U:(List Int)×Int):OO:=bif decide (U.2 < (a1.1.length:Int)) then (if 0<=U.2 then ((a1.1[U.2.toNat]?).bind λa8=>if 0<=U.2/\U.2 < (U.1.length:Int) then ((U.1[U.2.toNat]?).bind λgx=>self (U.1.set U.2.toNat a8,af (U.2+(1:Int)))) else none) else none) else e0 U.1
noncomputable def q0 (a1:Arg) (et:(List Int)):OO:=some (et,())
noncomputable def s0 (k:Nat) (a1:Arg):((List Int)×Int)->OO:=λU=>D.L k [1,1,0,1,0,0] [0,3,4] [] (ah 0 (av (D.N k [1,1,1]) D.K0)) (T0 a1 U)
noncomputable def r0 (k:Nat) (a1:Arg):((List Int)×Int)->OO:=al (λw v=>b0 w (q0 a1) a1 v) k
theorem aq (k:Nat) (a1:Arg):s0 k a1=r0 k a1:=
 funext λU=>ap _ _ _ (T0 a1) _ (λrec v=>by kernel_rfl) k U
noncomputable def p (l0:((List Int)×Int)->OO) (a1:Arg):OO:=if 0<=(a1.1.length:Int)/\(a1.1.length:Int)<=(a1.1.length:Int)/\(a1.1.length:Int)<=(cg:Int) then (l0 (List.replicate (a1.1.length:Int).toNat (0:Int),(0:Int))) else none
theorem ae (k:Nat) (a1:Arg):@Eq OO (D.W k a1) (p (r0 k a1) a1):=
 aQ (b:=p (s0 k a1) a1) (by kernel_rfl) (by rw[aq])
theorem ok:Ok prog 167 D.sig:=am func167 aw (by kernel_rfl) (aj _)
end sc
namespace rf
abbrev Arg:Type:=Key×Unit
abbrev Out:Type:=Key×Unit
noncomputable def D:FD:={ fn:=f252,tl:=bc,ps:=[(.ro,be)],rs:=[(be,(ak be))] }
noncomputable def ab (a:Arg):Option Out:=@lift Out λk=>D.W k a
noncomputable def p (a1:Arg):Option Out:=some ((a1.1.1,a1.1.2.1,()),())
theorem ae (k:Nat) (a1:Arg):@Eq (Option Out) (D.W k a1) (p a1):=by kernel_rfl
theorem ok:Ok prog 252 D.sig:=am func252 aw (by kernel_rfl) (aj _)
end rf
namespace uy
abbrev Arg:Type:=(List Key)×Unit
abbrev Out:Type:=(List Key)×Unit
abbrev OO:=Option Out
noncomputable def D:FD:={ fn:=f168,tl:=bc,ps:=[(.ro,(.aa be))],rs:=[((.aa be),(ai (.aa be)))],gl:=[(252,rf.D.sig)],lv:=[(3,[0,3,4])],lx:=[(0,[3])] }
noncomputable def ab (a:Arg):OO:=@lift Out λk=>D.W k a
noncomputable def T0 (a1:Arg) (U:(List Key)×Int):St:={ n:=23,sl:=[(0,.val (.aa be) a1.1),(3,.own (.aa be) (ai (.aa be)) [] U.1),(4,.val i64 U.2)],vr:=[],az:=[] }
noncomputable def b0 (self:((List Key)×Int)->OO) (e0:(List Key)->OO) (a1:Arg) (U:(List Key)×Int):OO:=bif decide (U.2 < (a1.1.length:Int)) then (if 0<=U.2 then ((a1.1[U.2.toNat]?).bind λa8=>(rf.ab (a8,())).bind λdg=>if 0<=U.2/\U.2 < (U.1.length:Int) then ((U.1[U.2.toNat]?).bind λdw=>self (U.1.set U.2.toNat dg.1,af (U.2+(1:Int)))) else none) else none) else e0 U.1
noncomputable def q0 (a1:Arg) (qY:(List Key)):OO:=some (qY,())
noncomputable def s0 (k:Nat) (a1:Arg):((List Key)×Int)->OO:=λU=>D.L k [1,1,0,1,0,0] [0,3,4] [] (ah 0 (av (D.N k [1,1,1]) D.K0)) (T0 a1 U)
noncomputable def r0 (k:Nat) (a1:Arg):((List Key)×Int)->OO:=al (λw v=>b0 w (q0 a1) a1 v) k
theorem aq (k:Nat) (a1:Arg):s0 k a1=r0 k a1:=
 funext λU=>ap _ _ _ (T0 a1) _ (λrec v=>by kernel_rfl) k U
noncomputable def p (l0:((List Key)×Int)->OO) (a1:Arg):OO:=if 0<=(a1.1.length:Int)/\(a1.1.length:Int)<=(a1.1.length:Int)/\(a1.1.length:Int)<=(cg:Int) then (l0 (List.replicate (a1.1.length:Int).toNat ((0:Int),(0:Int),()),(0:Int))) else none
theorem ae (k:Nat) (a1:Arg):@Eq OO (D.W k a1) (p (r0 k a1) a1):=
 aQ (b:=p (s0 k a1) a1) (by kernel_rfl) (by rw[aq])
theorem ok:Ok prog 168 D.sig:=am func168 aw (by kernel_rfl) (fc rf.ok (aj _))
end uy
namespace sA
abbrev Arg:Type:=Tx×Unit
abbrev Out:Type:=Tx×Unit
noncomputable def D:FD:={ fn:=f96,tl:=bc,ps:=[(.ro,ca)],rs:=[(ca,(ai ca))],gl:=[(69,nH.D.sig),(167,sc.D.sig),(168,uy.D.sig)] }
noncomputable def ab (a:Arg):Option Out:=@lift Out λk=>D.W k a
noncomputable def p (a1:Arg):Option Out:=(nH.ab (a1.1.2.1,())).bind λr2=>(sc.ab (a1.1.2.2.1,())).bind λr3=>(uy.ab (a1.1.2.2.2.1,())).bind λr4=>some ((a1.1.1,r2.1,r3.1,r4.1,()),())
theorem ae (k:Nat) (a1:Arg):@Eq (Option Out) (D.W k a1) (p a1):=by kernel_rfl
theorem ok:Ok prog 96 D.sig:=am func96 aw (by kernel_rfl) (fc nH.ok (fc sc.ok (fc uy.ok (aj _))))
end sA
namespace vy
abbrev Arg:Type:=(List Tx)×Unit
abbrev Out:Type:=(List Tx)×Unit
abbrev OO:=Option Out
noncomputable def D:FD:={ fn:=f44,tl:=bc,ps:=[(.ro,(.aa ca))],rs:=[((.aa ca),(ai (.aa ca)))],gl:=[(96,sA.D.sig)],lv:=[(3,[0,3,4])],lx:=[(0,[3])] }
noncomputable def ab (a:Arg):OO:=@lift Out λk=>D.W k a
noncomputable def T0 (a1:Arg) (U:(List Tx)×Int):St:={ n:=23,sl:=[(0,.val (.aa ca) a1.1),(3,.own (.aa ca) (ai (.aa ca)) [] U.1),(4,.val i64 U.2)],vr:=[],az:=[] }
noncomputable def b0 (self:((List Tx)×Int)->OO) (e0:(List Tx)->OO) (a1:Arg) (U:(List Tx)×Int):OO:=bif decide (U.2 < (a1.1.length:Int)) then (if 0<=U.2 then ((a1.1[U.2.toNat]?).bind λa8=>(sA.ab (a8,())).bind λdg=>if 0<=U.2/\U.2 < (U.1.length:Int) then ((U.1[U.2.toNat]?).bind λdw=>self (U.1.set U.2.toNat dg.1,af (U.2+(1:Int)))) else none) else none) else e0 U.1
noncomputable def q0 (a1:Arg) (qY:(List Tx)):OO:=some (qY,())
noncomputable def s0 (k:Nat) (a1:Arg):((List Tx)×Int)->OO:=λU=>D.L k [1,1,0,1,0,0] [0,3,4] [] (ah 0 (av (D.N k [1,1,1]) D.K0)) (T0 a1 U)
noncomputable def r0 (k:Nat) (a1:Arg):((List Tx)×Int)->OO:=al (λw v=>b0 w (q0 a1) a1 v) k
theorem aq (k:Nat) (a1:Arg):s0 k a1=r0 k a1:=
 funext λU=>ap _ _ _ (T0 a1) _ (λrec v=>by kernel_rfl) k U
noncomputable def p (l0:((List Tx)×Int)->OO) (a1:Arg):OO:=if 0<=(a1.1.length:Int)/\(a1.1.length:Int)<=(a1.1.length:Int)/\(a1.1.length:Int)<=(cg:Int) then (l0 (List.replicate (a1.1.length:Int).toNat ((0:Int),([]:List Change),([]:List Int),([]:List Key),()),(0:Int))) else none
theorem ae (k:Nat) (a1:Arg):@Eq OO (D.W k a1) (p (r0 k a1) a1):=
 aQ (b:=p (s0 k a1) a1) (by kernel_rfl) (by rw[aq])
theorem ok:Ok prog 44 D.sig:=am func44 aw (by kernel_rfl) (fc sA.ok (aj _))
end vy
namespace nk
abbrev Arg:Type:=bj×Unit
abbrev Out:Type:=bj×Unit
noncomputable def D:FD:={ fn:=f10,tl:=bc,ps:=[(.ro,ci)],rs:=[(ci,(ai ci))],gl:=[(42,sb.D.sig),(43,sy.D.sig),(44,vy.D.sig)] }
noncomputable def ab (a:Arg):Option Out:=@lift Out λk=>D.W k a
noncomputable def p (a1:Arg):Option Out:=(sb.ab (a1.1.2.1,())).bind λr2=>(sy.ab (a1.1.2.2.1,())).bind λr3=>(vy.ab (a1.1.2.2.2.1,())).bind λr4=>some ((a1.1.1,r2.1,r3.1,r4.1,a1.1.2.2.2.2.1,()),())
theorem ae (k:Nat) (a1:Arg):@Eq (Option Out) (D.W k a1) (p a1):=by kernel_rfl
theorem ok:Ok prog 10 D.sig:=am func10 aw (by kernel_rfl) (fc sb.ok (fc sy.ok (fc vy.ok (aj _))))
end nk
namespace cn
abbrev Arg:Type:=(List UInt8)×Unit
abbrev Out:Type:=(List UInt8)×Unit
noncomputable def D:FD:={ fn:=f114,tl:=bc,ps:=[(.ro,(.aa u8))],rs:=[((.aa u8),(ai (.aa u8)))] }
noncomputable def ab (a:Arg):Option Out:=@lift Out λk=>D.W k a
noncomputable def p (a1:Arg):Option Out:=if ([]:List UInt8).length+a1.1.length<=cg then (some (([]:List UInt8)++a1.1,())) else none
theorem ae (k:Nat) (a1:Arg):@Eq (Option Out) (D.W k a1) (p a1):=by kernel_rfl
theorem ok:Ok prog 114 D.sig:=am func114 aw (by kernel_rfl) (aj _)
end cn
namespace h_
abbrev Arg:Type:=Int×Int×Int×Unit
abbrev Out:Type:=Bool×Unit
noncomputable def D:FD:={ fn:=f98,tl:=bc,ps:=[(.ro,i64),(.ro,i64),(.ro,i64)],rs:=[(.bool,(ak .bool))] }
noncomputable def ab (a:Arg):Option Out:=@lift Out λk=>D.W k a
noncomputable def p (a1:Arg):Option Out:=bif decide (a1.2.1<=a1.1) then (some (decide (a1.1<=a1.2.2.1),())) else some (false,())
theorem ae (k:Nat) (a1:Arg):@Eq (Option Out) (D.W k a1) (p a1):=by kernel_rfl
theorem ok:Ok prog 98 D.sig:=am func98 aw (by kernel_rfl) (aj _)
end h_
namespace nT
abbrev Arg:Type:=Int×Unit
abbrev Out:Type:=Bool×Unit
noncomputable def D:FD:={ fn:=f70,tl:=bc,ps:=[(.ro,i64)],rs:=[(.bool,(ak .bool))],gl:=[(98,h_.D.sig)] }
noncomputable def ab (a:Arg):Option Out:=@lift Out λk=>D.W k a
noncomputable def p (a1:Arg):Option Out:=(h_.ab (a1.1,(1:Int),(99:Int),())).bind λr2=>some (r2.1,())
theorem ae (k:Nat) (a1:Arg):@Eq (Option Out) (D.W k a1) (p a1):=by kernel_rfl
theorem ok:Ok prog 70 D.sig:=am func70 aw (by kernel_rfl) (fc h_.ok (aj _))
end nT
namespace n_
abbrev Arg:Type:=Int×Unit
abbrev Out:Type:=Bool×Unit
noncomputable def D:FD:={ fn:=f223,tl:=bc,ps:=[(.ro,i64)],rs:=[(.bool,(ak .bool))] }
noncomputable def ab (a:Arg):Option Out:=@lift Out λk=>D.W k a
noncomputable def p (a1:Arg):Option Out:=bif decide (a1.1=(2:Int)) then (some (true,())) else bif decide (a1.1=(3:Int)) then (some (true,())) else some (decide (a1.1=(4:Int)),())
theorem ae (k:Nat) (a1:Arg):@Eq (Option Out) (D.W k a1) (p a1):=by kernel_rfl
theorem ok:Ok prog 223 D.sig:=am func223 aw (by kernel_rfl) (aj _)
end n_
namespace jb
abbrev Arg:Type:=(List cd)×Unit
abbrev Out:Type:=Int×Unit
abbrev OO:=Option Out
noncomputable def D:FD:={ fn:=f224,tl:=bc,ps:=[(.ro,(.aa nM))],rs:=[(i64,(ak i64))],gl:=[(98,h_.D.sig)],lv:=[(5,[3,10,11,12])],lx:=[(0,[])] }
noncomputable def ab (a:Arg):OO:=@lift Out λk=>D.W k a
noncomputable def T0 (a1:Arg) (U:Int×Int):St:={ n:=45,sl:=[(3,.val i64 U.1),(10,.val (.aa nM) a1.1),(11,.val i64 (a1.1.length:Int)),(12,.val i64 U.2)],vr:=[],az:=[] }
noncomputable def b0 (self:(Int×Int)->OO) (e0:(Unit)->OO) (a1:Arg) (U:Int×Int):OO:=bif decide (U.2 < (a1.1.length:Int)) then (if 0<=U.2 then ((a1.1[U.2.toNat]?).bind λa8=>(h_.ab (a8.1,(0:Int),(63:Int),())).bind λdg=>bif !dg.1 then (some ((3:Int),())) else (h_.ab ((a8.2.1.length:Int),(1:Int),(64:Int),())).bind λls=>bif !ls.1 then (some ((3:Int),())) else bif decide ((64:Int) < af (a8.1+(a8.2.1.length:Int))) then (some ((3:Int),())) else bif decide (a8.1 < U.1) then (some ((1:Int),())) else self (af ((af (a8.1+(a8.2.1.length:Int)))+(1:Int)),af (U.2+(1:Int)))) else none) else e0 ()
noncomputable def q0 (a1:Arg) (qY:(Unit)):OO:=some ((0:Int),())
noncomputable def s0 (k:Nat) (a1:Arg):(Int×Int)->OO:=λU=>D.L k [1,1,1,0,1,0,0] [3,10,11,12] [] (ah 0 (av (D.N k [1,1,1,1]) D.K0)) (T0 a1 U)
noncomputable def r0 (k:Nat) (a1:Arg):(Int×Int)->OO:=al (λw v=>b0 w (q0 a1) a1 v) k
theorem aq (k:Nat) (a1:Arg):s0 k a1=r0 k a1:=
 funext λU=>ap _ _ _ (T0 a1) _ (λrec v=>by kernel_rfl) k U
noncomputable def p (l0:(Int×Int)->OO) (a1:Arg):OO:=bif decide ((64:Int) < (a1.1.length:Int)) then (some ((2:Int),())) else l0 ((0:Int),(0:Int))
theorem ae (k:Nat) (a1:Arg):@Eq OO (D.W k a1) (p (r0 k a1) a1):=
 aQ (b:=p (s0 k a1) a1) (by kernel_rfl) (by rw[aq])
theorem ok:Ok prog 224 D.sig:=am func224 aw (by kernel_rfl) (fc h_.ok (aj _))
end jb
namespace kg
abbrev Arg:Type:=bm×Unit
abbrev Out:Type:=Int×Unit
abbrev OO:=Option Out
noncomputable def D:FD:={ fn:=f142,tl:=bc,ps:=[(.ro,ek)],rs:=[(i64,(ak i64))],gl:=[(70,nT.D.sig),(98,h_.D.sig),(223,n_.D.sig),(224,jb.D.sig)] }
noncomputable def ab (a:Arg):OO:=@lift Out λk=>D.W k a
noncomputable def p (a1:Arg):OO:=let Xd:OO:=let j23:OO:=(jb.ab (a1.1.2.2.2.1,())).bind λKa=>bif !decide (Ka.1=(0:Int)) then (some (Ka.1,())) else (n_.ab (a1.1.1,())).bind λZN=>bif ZN.1 then (bif decide ((a1.1.2.2.2.1.length:Int)=(0:Int)) then (some ((1:Int),())) else bif decide (a1.1.1=(4:Int)) then (bif !decide ((a1.1.2.2.2.1.length:Int)=(1:Int)) then (some ((1:Int),())) else (a1.1.2.2.2.1[0]?).bind λZO=>bif !decide ((ZO.2.1.length:Int)=(64:Int)) then (some ((1:Int),())) else some ((0:Int),())) else some ((0:Int),())) else bif decide (a1.1.1=(4:Int)) then (bif !decide ((a1.1.2.2.2.1.length:Int)=(1:Int)) then (some ((1:Int),())) else (a1.1.2.2.2.1[0]?).bind λZP=>bif !decide ((ZP.2.1.length:Int)=(64:Int)) then (some ((1:Int),())) else some ((0:Int),())) else some ((0:Int),());bif !decide (a1.1.1=(4:Int)) then ((nT.ab (a1.1.2.1,())).bind λAz=>bif !Az.1 then (some ((3:Int),())) else (h_.ab (a1.1.2.2.1,(0:Int),(11:Int),())).bind λCh=>bif !Ch.1 then (some ((3:Int),())) else j23) else (h_.ab (a1.1.2.2.1,(0:Int),(11:Int),())).bind λF9=>bif !F9.1 then (some ((3:Int),())) else j23;(h_.ab (a1.1.1,(1:Int),(6:Int),())).bind λr2=>bif !r2.1 then (some ((1:Int),())) else (n_.ab (a1.1.1,())).bind λr3=>bif !r3.1 then (bif !decide (a1.1.2.2.1=(0:Int)) then (some ((1:Int),())) else bif decide ((0:Int) < (a1.1.2.2.2.1.length:Int)) then (some ((1:Int),())) else bif decide (a1.1.1=(4:Int)) then (bif !decide (a1.1.2.1=(0:Int)) then (some ((1:Int),())) else Xd) else Xd) else bif decide (a1.1.1=(4:Int)) then (bif !decide (a1.1.2.1=(0:Int)) then (some ((1:Int),())) else Xd) else Xd
theorem ae (k:Nat) (a1:Arg):@Eq OO (D.W k a1) (p a1):=by kernel_rfl
theorem ok:Ok prog 142 D.sig:=am func142 aw (by kernel_rfl) (fc nT.ok (fc h_.ok (fc n_.ok (fc jb.ok (aj _)))))
end kg
namespace fa
abbrev Arg:Type:=(List UInt8)×(List UInt8)×Unit
abbrev Out:Type:=Bool×Unit
abbrev OO:=Option Out
noncomputable def D:FD:={ fn:=f178,tl:=bc,ps:=[(.ro,(.aa u8)),(.ro,(.aa u8))],rs:=[(.bool,(ak .bool))],lv:=[(4,[0,1,12,13])],lx:=[(0,[])],od:=[(6,[0,1,2,3,4,5,6,7,8])] }
noncomputable def ab (a:Arg):OO:=@lift Out λk=>D.W k a
noncomputable def T0 (a1:Arg) (U:Int):St:={ n:=26,sl:=[(0,.val (.aa u8) a1.1),(1,.val (.aa u8) a1.2.1),(12,.val i64 (a1.1.length:Int)),(13,.val i64 U)],vr:=[],az:=[] }
noncomputable def b0 (self:Int->OO) (e0:(Unit)->OO) (a1:Arg) (U:Int):OO:=bif decide (U < (a1.1.length:Int)) then (if 0<=U then ((a1.1[U.toNat]?).bind λa8=>if 0<=U then ((a1.2.1[U.toNat]?).bind λgx=>bif !decide ((a8.toNat:Int)=(gx.toNat:Int)) then (some (false,())) else self (af (U+(1:Int)))) else none) else none) else e0 ()
noncomputable abbrev B0 (_:Nat):=b0
noncomputable def q0 (a1:Arg) (et:(Unit)):OO:=some (true,())
noncomputable abbrev Q0 (_:Nat):=q0
noncomputable def s0 (k:Nat) (a1:Arg):(Int)->OO:=λU=>D.L k [1,1,0,1,0,0] [0,1,12,13] [] (ah 0 (av (D.N k [1,1,1]) D.K0)) (T0 a1 U)
noncomputable def r0 (k:Nat) (a1:Arg):(Int)->OO:=al (λw v=>B0 k w (Q0 k a1) a1 v) k
theorem aq (k:Nat) (a1:Arg):s0 k a1=r0 k a1:=
 funext λU=>ap _ _ _ (T0 a1) _ (λrec v=>by kernel_rfl) k U
noncomputable def p (l0:(Int)->OO) (a1:Arg):OO:=bif !decide ((a1.1.length:Int)=(a1.2.1.length:Int)) then (some (false,())) else l0 (0:Int)
theorem ae (k:Nat) (a1:Arg):@Eq OO (D.W k a1) (p (r0 k a1) a1):=
 aQ (b:=p (s0 k a1) a1) (by kernel_rfl) (by rw[aq])
theorem ok:Ok prog 178 D.sig:=am func178 aw (by kernel_rfl) (aj _)
end fa
namespace fj
abbrev Arg:Type:=bm×Unit
abbrev Out:Type:=(List UInt8)×Unit
abbrev OO:=Option Out
noncomputable def D:FD:={ fn:=f262,tl:=bc,ps:=[(.ro,ek)],rs:=[((.aa u8),(ai (.aa u8)))],lv:=[(3,[3,24,25,26]),(11,[3,6,51,52,53])],lx:=[(0,[3]),(2,[3,6])] }
noncomputable def ab (a:Arg):OO:=@lift Out λk=>D.W k a
noncomputable def T0 (a1:Arg) (U:(List UInt8)×Int):St:={ n:=72,sl:=[(3,.own (.aa u8) (ai (.aa u8)) [] U.1),(24,.val (.aa nM) a1.1.2.2.2.1),(25,.val i64 (a1.1.2.2.2.1.length:Int)),(26,.val i64 U.2)],vr:=[],az:=[] }
noncomputable def S0 (rec:RT Out) (a1:Arg):((List UInt8)×Int)->OO:=λU=>rec (T0 a1 U)
noncomputable def cx (K:KT Out) (a1:Arg):(List UInt8)->OO:=λz=>K (.exit 0) ({ n:=72,sl:=[(3,.own (.aa u8) (ai (.aa u8)) [] z)],vr:=[],az:=[] })
noncomputable def b0 (self:((List UInt8)×Int)->OO) (e0:(List UInt8)->OO) (a1:Arg) (U:(List UInt8)×Int):OO:=bif decide (U.2 < (a1.1.2.2.2.1.length:Int)) then (if 0<=U.2 then ((a1.1.2.2.2.1[U.2.toNat]?).bind λa8=>if U.1.length+[UInt8.ofInt a8.1,UInt8.ofInt (a8.2.1.length:Int)].length<=cg then (let qH:=U.1++[UInt8.ofInt a8.1,UInt8.ofInt (a8.2.1.length:Int)];if qH.length+a8.2.1.length<=cg then (self (qH++a8.2.1,af (U.2+(1:Int)))) else none) else none) else none) else e0 U.1
theorem lB (k:Nat) (rec:RT Out) (K:KT Out) (a1:Arg) (U:(List UInt8)×Int):D.N k [1,1,0,1,0,0] (T0 a1 U) (iV rec (fw [3,24,25,26] []) K)=b0 (S0 rec a1) (cx K a1) a1 U:=by kernel_rfl
noncomputable def T1 (a1:Arg) (cr:List UInt8) (iy:Int) (de:Int×Int):St:={ n:=72,sl:=[(3,.own (.aa u8) (ai (.aa u8)) [] cr),(6,.val i64 de.1),(51,.ref 3 [] [0,0]),(52,.val i64 iy),(53,.val i64 de.2)],vr:=[],az:=[] }
noncomputable def b1 (self:(Int×Int)->OO) (e2:Int->OO) (a1:Arg) (cr:List UInt8) (iy:Int) (de:Int×Int):OO:=bif decide (de.2 < iy) then (if 0<=de.2/\de.2 < (cr.length:Int) then ((cr[de.2.toNat]?).bind λBp=>self ((af ((af (de.1*(31:Int)))+(af (Bp.toNat:Int)))).tmod (65521:Int),af (de.2+(1:Int)))) else none) else e2 de.1
noncomputable def q1 (a1:Arg) (cr:List UInt8) (iy:Int) (vx:Int):OO:=if cr.length+[UInt8.ofInt (vx.fdiv (2 ^ 8)),UInt8.ofInt vx].length<=cg then (let Q7:=cr++[UInt8.ofInt (vx.fdiv (2 ^ 8)),UInt8.ofInt vx];some (Q7,())) else none
noncomputable def s1 (k:Nat) (a1:Arg):(List UInt8)->Int->(Int×Int)->OO:=λcr iy=>λde=>D.L k [1,1,1,1,1,0,1,0,0] [3,6,51,52,53] [] (ah 2 (av (D.N k [1,1,1,1,1,1]) D.K0)) (T1 a1 cr iy de)
noncomputable def r1 (k:Nat) (a1:Arg):(List UInt8)->Int->(Int×Int)->OO:=λcr iy=>al (λw v=>b1 w (q1 a1 cr iy) a1 cr iy v) k
theorem lC (k:Nat) (a1:Arg):s1 k a1=r1 k a1:=
 funext λcr=>funext λiy=>funext λde=>ap _ _ _ (T1 a1 cr iy) _ (λrec v=>by kernel_rfl) k de
noncomputable def q0 (l1:(List UInt8)->Int->(Int×Int)->OO) (a1:Arg) (et:(List UInt8)):OO:=if 0<=(0:Int)/\(0:Int) < (et.length:Int) then ((et[0]?).bind λrL=>let BP:=et.set 0 (UInt8.ofInt (af ((et.length:Int)+(2:Int))));l1 BP (BP.length:Int) ((1:Int),(0:Int))) else none
noncomputable def Q0 (k:Nat) (a1:Arg) (et:(List UInt8)):OO:=q0 (r1 k a1) a1 et
theorem sv (k:Nat) (a1:Arg) (et:(List UInt8)):cx (ah 0 (av (D.N k [1,1,1]) D.K0)) a1 et=Q0 k a1 et:=
 aQ (b:=q0 (s1 k a1) a1 et) (by kernel_rfl) (by rw[lC];rfl)
noncomputable def s0 (k:Nat) (a1:Arg):((List UInt8)×Int)->OO:=λU=>D.L k [1,1,0,1,0,0] [3,24,25,26] [] (ah 0 (av (D.N k [1,1,1]) D.K0)) (T0 a1 U)
noncomputable def r0 (k:Nat) (a1:Arg):((List UInt8)×Int)->OO:=al (λw v=>b0 w (Q0 k a1) a1 v) k
theorem aq (k:Nat) (a1:Arg):s0 k a1=r0 k a1:=by
 funext U;have h0:cx (ah 0 (av (D.N k [1,1,1]) D.K0)) a1=Q0 k a1:=funext λz=>sv k a1 z;refine (ap _ _ _ (T0 a1) (λself v=>b0 self (cx (ah 0 (av (D.N k [1,1,1]) D.K0)) a1) a1 v) (λrec v=>lB k rec (ah 0 (av (D.N k [1,1,1]) D.K0)) a1 v) k U).trans ?_;rw[h0];rfl
noncomputable def p (l0:((List UInt8)×Int)->OO) (a1:Arg):OO:=l0 ([(0:UInt8),UInt8.ofInt a1.1.1,UInt8.ofInt a1.1.2.1,UInt8.ofInt a1.1.2.2.1,UInt8.ofInt (a1.1.2.2.2.1.length:Int)],(0:Int))
theorem ae (k:Nat) (a1:Arg):@Eq OO (D.W k a1) (p (r0 k a1) a1):=
 aQ (b:=p (s0 k a1) a1) (by kernel_rfl) (by rw[aq])
theorem ok:Ok prog 262 D.sig:=am func262 aw (by kernel_rfl) (aj _)
end fj
namespace l_
abbrev Arg:Type:=(List UInt8)×Unit
abbrev Out:Type:=bm×Int×Unit
abbrev OO:=Option Out
noncomputable def D:FD:={ fn:=f217,tl:=bc,ps:=[(.ro,(.aa u8))],rs:=[(ek,(ai ek)),(i64,(ak i64))],gl:=[(114,cn.D.sig),(142,kg.D.sig),(178,fa.D.sig),(262,fj.D.sig)],lv:=[(7,[2,4,5,6,7,52,53])],lx:=[(0,[2,4,5,6,7])],od:=[(4,[0,1,2,3,4,5,6,7,8,9,10,11,12,13,14]),(11,[0,1,2,3,4,5,6,7,8,9,10,11,12,13,14,15,16,17,18,19,20])] }
noncomputable def ab (a:Arg):OO:=@lift Out λk=>D.W k a
noncomputable def T0 (a1:Arg) (u7:List UInt8) (xT:Int) (AC:Int) (jm:bm×Int×Int):St:={ n:=123,sl:=[(2,.box ek (ai ek) [] ((0:Int),(0:Int),(0:Int),([]:List cd),())),(4,.val (.aa u8) u7),(5,.box ek (ai ek) [] jm.1),(6,.val i64 jm.2.1),(7,.val i64 xT),(52,.val i64 AC),(53,.val i64 jm.2.2)],vr:=[],az:=[] }
noncomputable def b0 (self:(bm×Int×Int)->OO) (e0:(bm×Int)->OO) (a1:Arg) (u7:List UInt8) (xT:Int) (AC:Int) (jm:bm×Int×Int):OO:=bif decide (jm.2.2 < AC) then (bif decide (xT < af (jm.2.1+(2:Int))) then (some (((0:Int),(0:Int),(0:Int),([]:List cd),()),(0:Int),())) else if 0<=af (jm.2.1+(1:Int)) then ((u7[(af (jm.2.1+(1:Int))).toNat]?).bind λEB=>bif decide (xT < af ((af (jm.2.1+(2:Int)))+(af (EB.toNat:Int)))) then (some (((0:Int),(0:Int),(0:Int),([]:List cd),()),(0:Int),())) else if 0<=af (jm.2.1+(1:Int)) then ((u7[(af (jm.2.1+(1:Int))).toNat]?).bind λAA=>if 0<=jm.2.1 then ((u7[jm.2.1.toNat]?).bind λC_=>if 0<=af (jm.2.1+(2:Int))/\af (jm.2.1+(2:Int))<=af ((af (jm.2.1+(2:Int)))+(af (AA.toNat:Int)))/\af ((af (jm.2.1+(2:Int)))+(af (AA.toNat:Int)))<=(u7.length:Int) then ((cn.ab ((u7.take (af ((af (jm.2.1+(2:Int)))+(af (AA.toNat:Int)))).toNat).drop (af (jm.2.1+(2:Int))).toNat,())).bind λRd=>if jm.1.2.2.2.1.length+[(af (C_.toNat:Int),Rd.1,())].length<=cg then (let MK:=jm.1.2.2.2.1++[(af (C_.toNat:Int),Rd.1,())];self ((jm.1.1,jm.1.2.1,jm.1.2.2.1,MK,jm.1.2.2.2.2),af (jm.2.1+(af ((2:Int)+(af (AA.toNat:Int))))),af (jm.2.2+(1:Int)))) else none) else none) else none) else none) else none) else e0 (jm.1,jm.2.1)
noncomputable abbrev B0 (_:Nat):=b0
noncomputable def q0 (a1:Arg) (u7:List UInt8) (xT:Int) (AC:Int) (Re:(bm×Int)):OO:=bif !decide (Re.2=xT) then (some (((0:Int),(0:Int),(0:Int),([]:List cd),()),(0:Int),())) else (kg.ab (Re.1,())).bind λDb=>bif !decide (Db.1=(0:Int)) then (some (((0:Int),(0:Int),(0:Int),([]:List cd),()),(0:Int),())) else (fj.ab (Re.1,())).bind λRf=>(fa.ab (Rf.1,u7,())).bind λabN=>bif !abN.1 then (some (((0:Int),(0:Int),(0:Int),([]:List cd),()),(0:Int),())) else some (Re.1,(u7.length:Int),())
noncomputable abbrev Q0 (_:Nat):=q0
noncomputable def s0 (k:Nat) (a1:Arg):(List UInt8)->Int->Int->(bm×Int×Int)->OO:=λu7 xT AC=>λjm=>D.L k [1,1,1,1,1,0,1,0,0] [2,4,5,6,7,52,53] [] (ah 0 (av (D.N k [1,1,1,1,1,1]) D.K0)) (T0 a1 u7 xT AC jm)
noncomputable def r0 (k:Nat) (a1:Arg):(List UInt8)->Int->Int->(bm×Int×Int)->OO:=λu7 xT AC=>al (λw v=>B0 k w (Q0 k a1 u7 xT AC) a1 u7 xT AC v) k
theorem aq (k:Nat) (a1:Arg):s0 k a1=r0 k a1:=
 funext λu7=>funext λxT=>funext λAC=>funext λjm=>ap _ _ _ (T0 a1 u7 xT AC) _ (λrec v=>by kernel_rfl) k jm
noncomputable def p (l0:(List UInt8)->Int->Int->(bm×Int×Int)->OO) (a1:Arg):OO:=bif decide ((a1.1.length:Int) < (7:Int)) then (some (((0:Int),(0:Int),(0:Int),([]:List cd),()),(0:Int),())) else (a1.1[0]?).bind λx2=>bif decide ((a1.1.length:Int) < af (x2.toNat:Int)) then (some (((0:Int),(0:Int),(0:Int),([]:List cd),()),(0:Int),())) else (a1.1[0]?).bind λx3=>bif decide ((x3.toNat:Int) < (7:Int)) then (some (((0:Int),(0:Int),(0:Int),([]:List cd),()),(0:Int),())) else (a1.1[0]?).bind λx4=>if 0<=(x4.toNat:Int)/\(x4.toNat:Int)<=(a1.1.length:Int) then ((((a1.1.take (x4.toNat:Int).toNat).drop 0)[1]?).bind λx5=>(((a1.1.take (x4.toNat:Int).toNat).drop 0)[2]?).bind λx6=>(((a1.1.take (x4.toNat:Int).toNat).drop 0)[3]?).bind λx7=>(((a1.1.take (x4.toNat:Int).toNat).drop 0)[4]?).bind λx8=>l0 ((a1.1.take (x4.toNat:Int).toNat).drop 0) (af ((((a1.1.take (x4.toNat:Int).toNat).drop 0).length:Int) - (2:Int))) (af (x8.toNat:Int)) ((af (x5.toNat:Int),af (x6.toNat:Int),af (x7.toNat:Int),([]:List cd),()),(5:Int),(0:Int))) else none
theorem ae (k:Nat) (a1:Arg):@Eq OO (D.W k a1) (p (r0 k a1) a1):=
 aQ (b:=p (s0 k a1) a1) (by kernel_rfl) (by rw[aq])
theorem ok:Ok prog 217 D.sig:=am func217 aw (by kernel_rfl) (fc cn.ok (fc kg.ok (fc fa.ok (fc fj.ok (aj _)))))
end l_
namespace lN
abbrev Arg:Type:=(List UInt8)×Unit
abbrev Out:Type:=(List bm)×Int×Unit
abbrev OO:=Option Out
noncomputable def D:FD:={ fn:=f140,tl:=bc,ps:=[(.ro,(.aa u8))],rs:=[((.aa ek),(ai (.aa ek))),(i64,(ak i64))],gl:=[(217,l_.D.sig)],lv:=[(3,[0,4,5])] }
noncomputable def ab (a:Arg):OO:=@lift Out λk=>D.W k a
noncomputable def T0 (a1:Arg) (U:(List bm)×Int):St:={ n:=26,sl:=[(0,.val (.aa u8) a1.1),(4,.own (.aa ek) (ai (.aa ek)) [] U.1),(5,.val i64 U.2)],vr:=[],az:=[] }
noncomputable def b0 (self:((List bm)×Int)->OO) (a1:Arg) (U:(List bm)×Int):OO:=if 0<=U.2/\U.2<=(a1.1.length:Int) then ((l_.ab ((a1.1.take a1.1.length).drop U.2.toNat,())).bind λvH=>bif decide (vH.2.1=(0:Int)) then (some (U.1,U.2,())) else if U.1.length+[vH.1].length<=cg then (self (U.1++[vH.1],af (U.2+vH.2.1))) else none) else none
noncomputable abbrev B0 (_:Nat):=b0
noncomputable def s0 (k:Nat) (a1:Arg):((List bm)×Int)->OO:=λU=>D.L k [1,1,1,0,0] [0,4,5] [] (ah 0 D.K0) (T0 a1 U)
noncomputable def r0 (k:Nat) (a1:Arg):((List bm)×Int)->OO:=al (λw v=>B0 k w a1 v) k
theorem aq (k:Nat) (a1:Arg):s0 k a1=r0 k a1:=
 funext λU=>ap _ _ _ (T0 a1) _ (λrec v=>by kernel_rfl) k U
noncomputable def p (l0:((List bm)×Int)->OO) (a1:Arg):OO:=l0 (([]:List bm),(0:Int))
theorem ae (k:Nat) (a1:Arg):@Eq OO (D.W k a1) (p (r0 k a1) a1):=
 aQ (b:=p (s0 k a1) a1) (by kernel_rfl) (by rw[aq])
theorem ok:Ok prog 140 D.sig:=am func140 aw (by kernel_rfl) (fc l_.ok (aj _))
end lN
namespace oq
abbrev Arg:Type:=Log×Unit
abbrev Out:Type:=(List bm)×Unit
noncomputable def D:FD:={ fn:=f79,tl:=bc,ps:=[(.ro,ee)],rs:=[((.aa ek),(ai (.aa ek)))],gl:=[(140,lN.D.sig)] }
noncomputable def ab (a:Arg):Option Out:=@lift Out λk=>D.W k a
noncomputable def p (a1:Arg):Option Out:=(lN.ab (a1.1.1,())).bind λr2=>(lN.ab (a1.1.2.1,())).bind λr3=>if r2.1.length+r3.1.length<=cg then (some (r2.1++r3.1,())) else none
theorem ae (k:Nat) (a1:Arg):@Eq (Option Out) (D.W k a1) (p a1):=by kernel_rfl
theorem ok:Ok prog 79 D.sig:=am func79 aw (by kernel_rfl) (fc lN.ok (aj _))
end oq
namespace iz
abbrev Arg:Type:=UInt8×Unit
abbrev Out:Type:=(List UInt8)×Unit
abbrev OO:=Option Out
noncomputable def D:FD:={ fn:=f193,tl:=bc,ps:=[(.ro,u8)],rs:=[((.aa u8),(ai (.aa u8)))],lv:=[(3,[0,3,7,8])],lx:=[(0,[3])] }
noncomputable def ab (a:Arg):OO:=@lift Out λk=>D.W k a
noncomputable def T0 (a1:Arg) (U:(List UInt8)×Int):St:={ n:=21,sl:=[(0,.val u8 a1.1),(3,.own (.aa u8) (ai (.aa u8)) [] U.1),(7,.val i64 ((List.replicate 64 (0:UInt8)).length:Int)),(8,.val i64 U.2)],vr:=[],az:=[] }
noncomputable def b0 (self:((List UInt8)×Int)->OO) (e0:(List UInt8)->OO) (a1:Arg) (U:(List UInt8)×Int):OO:=bif decide (U.2 < ((List.replicate 64 (0:UInt8)).length:Int)) then (if 0<=U.2/\U.2 < (U.1.length:Int) then ((U.1[U.2.toNat]?).bind λa8=>self (U.1.set U.2.toNat a1.1,af (U.2+(1:Int)))) else none) else e0 U.1
noncomputable def q0 (a1:Arg) (mM:(List UInt8)):OO:=if 0<=(0:Int)/\(0:Int) < (mM.length:Int) then ((mM[0]?).bind λdw=>if 0<=(1:Int)/\(1:Int) < ((mM.set 0 (0:UInt8)).length:Int) then (((mM.set 0 (0:UInt8))[1]?).bind λrL=>let BP:=(mM.set 0 (0:UInt8)).set 1 (64:UInt8);some (BP,())) else none) else none
noncomputable def s0 (k:Nat) (a1:Arg):((List UInt8)×Int)->OO:=λU=>D.L k [1,1,0,1,0,0] [0,3,7,8] [] (ah 0 (av (D.N k [1,1,1]) D.K0)) (T0 a1 U)
noncomputable def r0 (k:Nat) (a1:Arg):((List UInt8)×Int)->OO:=al (λw v=>b0 w (q0 a1) a1 v) k
theorem aq (k:Nat) (a1:Arg):s0 k a1=r0 k a1:=
 funext λU=>ap _ _ _ (T0 a1) _ (λrec v=>by kernel_rfl) k U
noncomputable def p (l0:((List UInt8)×Int)->OO) (a1:Arg):OO:=if 0<=(64:Int)/\(64:Int)<=(64:Int)/\(64:Int)<=(cg:Int) then (l0 (List.replicate 64 (0:UInt8),(0:Int))) else none
theorem ae (k:Nat) (a1:Arg):@Eq OO (D.W k a1) (p (r0 k a1) a1):=
 aQ (b:=p (s0 k a1) a1) (by kernel_rfl) (by rw[aq])
theorem ok:Ok prog 193 D.sig:=am func193 aw (by kernel_rfl) (aj _)
end iz
namespace ma
abbrev Arg:Type:=(List (List UInt8))×Unit
abbrev Out:Type:=(List (List UInt8))×Unit
noncomputable def D:FD:={ fn:=f225,tl:=bc,ps:=[(.ro,(.aa (.aa u8)))],rs:=[((.aa (.aa u8)),(.aa true (ak (.aa u8))))] }
noncomputable def ab (a:Arg):Option Out:=@lift Out λk=>D.W k a
noncomputable def p (a1:Arg):Option Out:=zP a1.1 (some (([]:List (List UInt8)),())) (if ([]:List (List UInt8)).length+a1.1.length<=cg then (some (([]:List (List UInt8))++a1.1,())) else none)
theorem ae (k:Nat) (a1:Arg):@Eq (Option Out) (D.W k a1) (p a1):=by kernel_rfl
theorem ok:Ok prog 225 D.sig:=am func225 aw (by kernel_rfl) (aj _)
end ma
namespace kV
abbrev Arg:Type:=(List UInt8)×(List cd)×Unit
abbrev Out:Type:=(List UInt8)×Unit
abbrev OO:=Option Out
noncomputable def D:FD:={ fn:=f226,tl:=bc,ps:=[(.ro,(.aa u8)),(.ro,(.aa nM))],rs:=[((.aa u8),(ai (.aa u8)))],gl:=[(114,cn.D.sig)],lv:=[(3,[5,10,11,12])],lx:=[(0,[5])],od:=[(5,[0,1,2,3,4,5,6])] }
noncomputable def ab (a:Arg):OO:=@lift Out λk=>D.W k a
noncomputable def T0 (a1:Arg) (bf:(List UInt8)×Int):St:={ n:=25,sl:=[(5,.own (.aa u8) (ai (.aa u8)) [] bf.1),(10,.val (.aa nM) a1.2.1),(11,.val i64 (a1.2.1.length:Int)),(12,.val i64 bf.2)],vr:=[],az:=[] }
noncomputable def b0 (self:((List UInt8)×Int)->OO) (e0:(List UInt8)->OO) (a1:Arg) (bf:(List UInt8)×Int):OO:=bif decide (bf.2 < (a1.2.1.length:Int)) then (if 0<=bf.2 then ((a1.2.1[bf.2.toNat]?).bind λgx=>if 0<=gx.1/\gx.1<=(bf.1.length:Int) then (let Vp:=oo bf.1 gx.1.toNat (min gx.2.1.length (bf.1.length - gx.1.toNat)) gx.2.1;self (Vp,af (bf.2+(1:Int)))) else none) else none) else e0 bf.1
noncomputable def q0 (a1:Arg) (qY:(List UInt8)):OO:=some (qY,())
noncomputable def s0 (k:Nat) (a1:Arg):((List UInt8)×Int)->OO:=λbf=>D.L k [1,1,0,1,0,0] [5,10,11,12] [] (ah 0 (av (D.N k [1,1,1]) D.K0)) (T0 a1 bf)
noncomputable def r0 (k:Nat) (a1:Arg):((List UInt8)×Int)->OO:=al (λw v=>b0 w (q0 a1) a1 v) k
theorem aq (k:Nat) (a1:Arg):s0 k a1=r0 k a1:=
 funext λbf=>ap _ _ _ (T0 a1) _ (λrec v=>by kernel_rfl) k bf
noncomputable def p (l0:((List UInt8)×Int)->OO) (a1:Arg):OO:=(cn.ab (a1.1,())).bind λr2=>l0 (r2.1,(0:Int))
theorem ae (k:Nat) (a1:Arg):@Eq OO (D.W k a1) (p (r0 k a1) a1):=
 aQ (b:=p (s0 k a1) a1) (by kernel_rfl) (by rw[aq])
theorem ok:Ok prog 226 D.sig:=am func226 aw (by kernel_rfl) (fc cn.ok (aj _))
end kV
namespace oc
abbrev Arg:Type:=(List (List UInt8))×bm×Unit
abbrev Out:Type:=(List (List UInt8))×Int×Unit
noncomputable def D:FD:={ fn:=f143,tl:=bc,ps:=[(.ro,(.aa (.aa u8))),(.ro,ek)],rs:=[((.aa (.aa u8)),(ak (.aa (.aa u8)))),(i64,(ak i64))],gl:=[(193,iz.D.sig),(223,n_.D.sig),(225,ma.D.sig),(226,kV.D.sig)],od:=[(10,[0,1,2,3,4,5,6,7,8,9,10,11,12])] }
noncomputable def ab (a:Arg):Option Out:=@lift Out λk=>D.W k a
noncomputable def p (a1:Arg):Option Out:=(n_.ab (a1.2.1.1,())).bind λr2=>bif !r2.1 then (some (a1.1,(0:Int),())) else bif decide ((a1.1.length:Int) < a1.2.1.2.2.1) then (some (([]:List (List UInt8)),(1:Int),())) else bif decide (a1.2.1.2.2.1=(12:Int)) then (some (([]:List (List UInt8)),(2:Int),())) else (ma.ab (a1.1,())).bind λr3=>let Tw:=λ(p9:List (List UInt8))=>(if 0<=a1.2.1.2.2.1/\a1.2.1.2.2.1 < (p9.length:Int) then ((p9[a1.2.1.2.2.1.toNat]?).bind λZQ=>(kV.ab (ZQ,a1.2.1.2.2.2.1,())).bind λwz=>if 0<=a1.2.1.2.2.1/\a1.2.1.2.2.1 < (p9.length:Int) then ((p9[a1.2.1.2.2.1.toNat]?).bind λx13=>some (p9.set a1.2.1.2.2.1.toNat wz.1,(0:Int),())) else none) else none:Option Out);bif decide (a1.2.1.2.2.1=(a1.1.length:Int)) then ((iz.ab ((0:UInt8),())).bind λr4=>if r3.1.length+[r4.1].length<=cg then (Tw (r3.1++[r4.1])) else none) else Tw r3.1
theorem ae (k:Nat) (a1:Arg):@Eq (Option Out) (D.W k a1) (p a1):=by kernel_rfl
theorem ok:Ok prog 143 D.sig:=am func143 aw (by kernel_rfl) (fc iz.ok (fc n_.ok (fc ma.ok (fc kV.ok (aj _)))))
end oc
namespace py
abbrev Arg:Type:=(List bm)×Unit
abbrev Out:Type:=(List (List UInt8))×Int×Unit
abbrev OO:=Option Out
noncomputable def D:FD:={ fn:=f81,tl:=bc,ps:=[(.ro,(.aa ek))],rs:=[((.aa (.aa u8)),(ak (.aa (.aa u8)))),(i64,(ak i64))],gl:=[(142,kg.D.sig),(143,oc.D.sig)],lv:=[(3,[4,10,11,12])],lx:=[(0,[4])],lf:=[(3,[(4,(.aa false (.aa false .leaf)))])] }
noncomputable def ab (a:Arg):OO:=@lift Out λk=>D.W k a
noncomputable def T0 (a1:Arg) (U:(List (List UInt8))×Int):St:={ n:=33,sl:=[(4,.val (.aa (.aa u8)) U.1),(10,.val (.aa ek) a1.1),(11,.val i64 (a1.1.length:Int)),(12,.val i64 U.2)],vr:=[],az:=[] }
noncomputable def b0 (self:((List (List UInt8))×Int)->OO) (e0:(List (List UInt8))->OO) (a1:Arg) (U:(List (List UInt8))×Int):OO:=bif decide (U.2 < (a1.1.length:Int)) then (if 0<=U.2 then ((a1.1[U.2.toNat]?).bind λa8=>(kg.ab (a8,())).bind λdg=>bif !decide (dg.1=(0:Int)) then (some (([]:List (List UInt8)),dg.1,())) else (oc.ab (U.1,a8,())).bind λls=>bif !decide (ls.2.1=(0:Int)) then (some (([]:List (List UInt8)),ls.2.1,())) else self (ls.1,af (U.2+(1:Int)))) else none) else e0 U.1
noncomputable def q0 (a1:Arg) (qY:(List (List UInt8))):OO:=some (qY,(0:Int),())
noncomputable def s0 (k:Nat) (a1:Arg):((List (List UInt8))×Int)->OO:=λU=>D.L k [1,1,0,1,0,0] [4,10,11,12] [(4,(.aa false (.aa false .leaf)))] (ah 0 (av (D.N k [1,1,1]) D.K0)) (T0 a1 U)
noncomputable def r0 (k:Nat) (a1:Arg):((List (List UInt8))×Int)->OO:=al (λw v=>b0 w (q0 a1) a1 v) k
theorem aq (k:Nat) (a1:Arg):s0 k a1=r0 k a1:=
 funext λU=>ap _ _ _ (T0 a1) _ (λrec v=>by kernel_rfl) k U
noncomputable def p (l0:((List (List UInt8))×Int)->OO) (a1:Arg):OO:=l0 (([]:List (List UInt8)),(0:Int))
theorem ae (k:Nat) (a1:Arg):@Eq OO (D.W k a1) (p (r0 k a1) a1):=
 aQ (b:=p (s0 k a1) a1) (by kernel_rfl) (by rw[aq])
theorem ok:Ok prog 81 D.sig:=am func81 aw (by kernel_rfl) (fc kg.ok (fc oc.ok (aj _)))
end py
namespace mw
abbrev Arg:Type:=Log×Unit
abbrev Out:Type:=Int×Unit
noncomputable def D:FD:={ fn:=f49,tl:=bc,ps:=[(.ro,ee)],rs:=[(i64,(ak i64))] }
noncomputable def ab (a:Arg):Option Out:=@lift Out λk=>D.W k a
noncomputable def p (a1:Arg):Option Out:=some (af ((a1.1.1.length:Int)+(a1.1.2.1.length:Int)),())
theorem ae (k:Nat) (a1:Arg):@Eq (Option Out) (D.W k a1) (p a1):=by kernel_rfl
theorem ok:Ok prog 49 D.sig:=am func49 aw (by kernel_rfl) (aj _)
end mw
namespace jg
abbrev Arg:Type:=Log×Unit
abbrev Out:Type:=Int×Unit
abbrev OO:=Option Out
noncomputable def D:FD:={ fn:=f97,tl:=bc,ps:=[(.ro,ee)],rs:=[(i64,(ak i64))],gl:=[(49,mw.D.sig),(140,lN.D.sig)],lv:=[(4,[14,15,16])],lx:=[(0,[])] }
noncomputable def ab (a:Arg):OO:=@lift Out λk=>D.W k a
noncomputable def T0 (a1:Arg) (bf:Int):St:={ n:=30,sl:=[(14,.own (.aa (.aa u8)) (.aa true (ak (.aa u8))) [] [a1.1.1,a1.1.2.1]),(15,.val i64 ([a1.1.1,a1.1.2.1].length:Int)),(16,.val i64 bf)],vr:=[],az:=[] }
noncomputable def b0 (self:Int->OO) (e0:(Unit)->OO) (a1:Arg) (bf:Int):OO:=bif decide (bf < ([a1.1.1,a1.1.2.1].length:Int)) then (if 0<=bf/\bf < ([a1.1.1,a1.1.2.1].length:Int) then (([a1.1.1,a1.1.2.1][bf.toNat]?).bind λgx=>(lN.ab (gx,())).bind λls=>bif !decide (ls.2.1=(gx.length:Int)) then (some ((5:Int),())) else self (af (bf+(1:Int)))) else none) else e0 ()
noncomputable def q0 (a1:Arg) (qY:(Unit)):OO:=some ((0:Int),())
noncomputable def s0 (k:Nat) (a1:Arg):(Int)->OO:=λbf=>D.L k [1,1,0,1,0,0] [14,15,16] [] (ah 0 (av (D.N k [1,1,1]) D.K0)) (T0 a1 bf)
noncomputable def r0 (k:Nat) (a1:Arg):(Int)->OO:=al (λw v=>b0 w (q0 a1) a1 v) k
theorem aq (k:Nat) (a1:Arg):s0 k a1=r0 k a1:=
 funext λbf=>ap _ _ _ (T0 a1) _ (λrec v=>by kernel_rfl) k bf
noncomputable def p (l0:(Int)->OO) (a1:Arg):OO:=(mw.ab (a1.1,())).bind λr2=>bif decide ((16000:Int) < r2.1) then (some ((2:Int),())) else l0 (0:Int)
theorem ae (k:Nat) (a1:Arg):@Eq OO (D.W k a1) (p (r0 k a1) a1):=
 aQ (b:=p (s0 k a1) a1) (by kernel_rfl) (by rw[aq])
theorem ok:Ok prog 97 D.sig:=am func97 aw (by kernel_rfl) (fc mw.ok (fc lN.ok (aj _)))
end jg
namespace e8
abbrev Arg:Type:=(List UInt8)×Unit
abbrev Out:Type:=Int×Unit
noncomputable def D:FD:={ fn:=f170,tl:=bc,ps:=[(.ro,(.aa u8))],rs:=[(i64,(ak i64))] }
noncomputable def ab (a:Arg):Option Out:=@lift Out λk=>D.W k a
noncomputable def p (a1:Arg):Option Out:=(a1.1[0]?).bind λx2=>some (af (x2.toNat:Int),())
theorem ae (k:Nat) (a1:Arg):@Eq (Option Out) (D.W k a1) (p a1):=by kernel_rfl
theorem ok:Ok prog 170 D.sig:=am func170 aw (by kernel_rfl) (aj _)
end e8
namespace lw
abbrev Arg:Type:=(List UInt8)×Int×Unit
abbrev Out:Type:=Int×Int×Unit
noncomputable def D:FD:={ fn:=f253,tl:=bc,ps:=[(.ro,(.aa u8)),(.ro,i64)],rs:=[(i64,(ak i64)),(i64,(ak i64))],od:=[(1,[0,1,2,3,4,5,6,7,8,9,10,11,12,13,14,15])] }
noncomputable def ab (a:Arg):Option Out:=@lift Out λk=>D.W k a
noncomputable def p (a1:Arg):Option Out:=if 0<=af ((2:Int)+(af ((2:Int)*a1.2.1))) then ((a1.1[(af ((2:Int)+(af ((2:Int)*a1.2.1)))).toNat]?).bind λx2=>if 0<=af ((3:Int)+(af ((2:Int)*a1.2.1))) then ((a1.1[(af ((3:Int)+(af ((2:Int)*a1.2.1)))).toNat]?).bind λx3=>some (af (x2.toNat:Int),af (x3.toNat:Int),())) else none) else none
theorem ae (k:Nat) (a1:Arg):@Eq (Option Out) (D.W k a1) (p a1):=by kernel_rfl
theorem ok:Ok prog 253 D.sig:=am func253 aw (by kernel_rfl) (aj _)
end lw
namespace bh
abbrev Arg:Type:=(List UInt8)×Unit
abbrev Out:Type:=Int×Unit
abbrev OO:=Option Out
noncomputable def D:FD:={ fn:=f169,tl:=bc,ps:=[(.ro,(.aa u8))],rs:=[(i64,(ak i64))],gl:=[(170,e8.D.sig),(253,lw.D.sig)],lv:=[(7,[0,3,4,35,36]),(15,[0,3,8,66,67]),(19,[0,3,8,10,11,12,66,67])],lx:=[(0,[0,3]),(2,[0,3]),(4,[0,3,8,66,67])],od:=[(3,[0,2,3,4,5,1,6,7])] }
noncomputable def ab (a:Arg):OO:=@lift Out λk=>D.W k a
noncomputable def T0 (a1:Arg) (eh:Int) (dm:Int) (cq:Int):St:={ n:=101,sl:=[(0,.val (.aa u8) a1.1),(3,.val i64 eh),(4,.val i64 dm),(35,.val i64 eh),(36,.val i64 cq)],vr:=[],az:=[] }
noncomputable def S0 (rec:RT Out) (a1:Arg) (eh:Int) (dm:Int):(Int)->OO:=λcq=>rec (T0 a1 eh dm cq)
noncomputable def cx (K:KT Out) (a1:Arg) (eh:Int) (dm:Int):(Unit)->OO:=λz=>K (.exit 0) ({ n:=101,sl:=[(0,.val (.aa u8) a1.1),(3,.val i64 eh)],vr:=[],az:=[] })
noncomputable def b0 (self:Int->OO) (e0:(Unit)->OO) (a1:Arg) (eh:Int) (dm:Int) (cq:Int):OO:=bif decide (cq < eh) then ((lw.ab (a1.1,cq,())).bind λjz=>bif !((decide (jz.1=(0:Int))) == (decide (jz.2.1=(0:Int)))) then (some ((3:Int),())) else bif !decide (jz.1=(0:Int)) then (bif decide (jz.1 < dm) then (some ((3:Int),())) else bif decide ((64:Int) < af (jz.1+jz.2.1)) then (some ((3:Int),())) else self (af (cq+(1:Int)))) else bif decide ((64:Int) < af (jz.1+jz.2.1)) then (some ((3:Int),())) else self (af (cq+(1:Int)))) else e0 ()
theorem lB (k:Nat) (rec:RT Out) (K:KT Out) (a1:Arg) (eh:Int) (dm:Int) (cq:Int):D.N k [1,1,1,1,0,1,0,0] (T0 a1 eh dm cq) (iV rec (fw [0,3,4,35,36] []) K)=b0 (S0 rec a1 eh dm) (cx K a1 eh dm) a1 eh dm cq:=by kernel_rfl
noncomputable def T1 (a1:Arg) (gd:(List UInt8)×Int×(List Bool)×Int×Int):St:={ n:=101,sl:=[(0,.val (.aa u8) gd.1),(3,.val i64 gd.2.1),(8,.box (.arr 64 .bool) (ak (.arr 64 .bool)) [] gd.2.2.1),(66,.val i64 gd.2.2.2.1),(67,.val i64 gd.2.2.2.2)],vr:=[],az:=[] }
noncomputable def S1 (rec:RT Out) (a1:Arg):((List UInt8)×Int×(List Bool)×Int×Int)->OO:=λgd=>rec (T1 a1 gd)
noncomputable def jA (K:KT Out) (a1:Arg):((List UInt8)×Int)->OO:=λz=>K (.exit 2) ({ n:=101,sl:=[(0,.val (.aa u8) z.1),(3,.val i64 z.2)],vr:=[],az:=[] })
noncomputable def T2 (a1:Arg) (ii:List UInt8) (en:Int) (oY:Int) (oZ:Int) (o3:Int) (o4:Int) (lD:(List Bool)×Int):St:={ n:=101,sl:=[(0,.val (.aa u8) ii),(3,.val i64 en),(8,.box (.arr 64 .bool) (ak (.arr 64 .bool)) [] lD.1),(10,.val i64 oY),(11,.val i64 oZ),(12,.val i64 lD.2),(66,.val i64 o3),(67,.val i64 o4)],vr:=[],az:=[] }
noncomputable def b2 (self:((List Bool)×Int)->OO) (e4:(List Bool)->OO) (a1:Arg) (ii:List UInt8) (en:Int) (oY:Int) (oZ:Int) (o3:Int) (o4:Int) (lD:(List Bool)×Int):OO:=bif decide (lD.2 < af (oY+oZ)) then (if 0<=lD.2/\lD.2 < (lD.1.length:Int) then ((lD.1[lD.2.toNat]?).bind λaaO=>bif aaO then (some ((8:Int),())) else if 0<=lD.2/\lD.2 < (lD.1.length:Int) then ((lD.1[lD.2.toNat]?).bind λRg=>self (lD.1.set lD.2.toNat true,af (lD.2+(1:Int)))) else none) else none) else e4 lD.1
noncomputable def q1 (self:((List UInt8)×Int×(List Bool)×Int×Int)->OO) (e2:((List UInt8)×Int)->OO) (a1:Arg) (ii:List UInt8) (en:Int) (oY:Int) (oZ:Int) (o3:Int) (o4:Int) (Rh:(List Bool)):OO:=self (ii,en,Rh,o3,af (o4+(1:Int)))
noncomputable def s2 (k:Nat) (rec:RT Out) (K:KT Out) (a1:Arg):(List UInt8)->Int->Int->Int->Int->Int->((List Bool)×Int)->OO:=λii en oY oZ o3 o4=>λlD=>D.L k [1,1,1,1,1,1,0,1,0,0,1,1,0,0,1,1,1,0,0] [0,3,8,10,11,12,66,67] [] (ah 4 (ah 3 (av (D.N k [1,1,1,1,1,1,0,1,0,0,1,1,1]) (iV rec (fw [0,3,8,66,67] []) K)))) (T2 a1 ii en oY oZ o3 o4 lD)
noncomputable def r2 (k:Nat) (self:((List UInt8)×Int×(List Bool)×Int×Int)->OO) (e2:((List UInt8)×Int)->OO) (a1:Arg):(List UInt8)->Int->Int->Int->Int->Int->((List Bool)×Int)->OO:=λii en oY oZ o3 o4=>al (λw v=>b2 w (q1 self e2 a1 ii en oY oZ o3 o4) a1 ii en oY oZ o3 o4 v) k
theorem su (k:Nat) (rec:RT Out) (K:KT Out) (a1:Arg):s2 k rec K a1=r2 k (S1 rec a1) (jA K a1) a1:=
 funext λii=>funext λen=>funext λoY=>funext λoZ=>funext λo3=>funext λo4=>funext λlD=>ap _ _ _ (T2 a1 ii en oY oZ o3 o4) _ (λrec v=>by kernel_rfl) k lD
noncomputable def b1 (self:((List UInt8)×Int×(List Bool)×Int×Int)->OO) (e2:((List UInt8)×Int)->OO) (l2:(List UInt8)->Int->Int->Int->Int->Int->((List Bool)×Int)->OO) (a1:Arg) (gd:(List UInt8)×Int×(List Bool)×Int×Int):OO:=bif decide (gd.2.2.2.2 < gd.2.2.2.1) then ((lw.ab (gd.1,gd.2.2.2.2,())).bind λzr=>l2 gd.1 gd.2.1 zr.1 zr.2.1 gd.2.2.2.1 gd.2.2.2.2 (gd.2.2.1,zr.1)) else e2 (gd.1,gd.2.1)
noncomputable def B1 (k:Nat) (self:((List UInt8)×Int×(List Bool)×Int×Int)->OO) (e2:((List UInt8)×Int)->OO) (a1:Arg) (gd:(List UInt8)×Int×(List Bool)×Int×Int):OO:=b1 self e2 (r2 k self e2 a1) a1 gd
theorem tT (k:Nat) (rec:RT Out) (K:KT Out) (a1:Arg) (gd:(List UInt8)×Int×(List Bool)×Int×Int):D.N k [1,1,1,1,1,1,0,1,0,0] (T1 a1 gd) (iV rec (fw [0,3,8,66,67] []) K)=B1 k (S1 rec a1) (jA K a1) a1 gd:=
 aQ (b:=b1 (S1 rec a1) (jA K a1) (s2 k rec K a1) a1 gd) (by kernel_rfl) (by rw[su];rfl)
noncomputable def q2 (a1:Arg) (v7:((List UInt8)×Int)):OO:=bif decide ((0:Int) < v7.2) then (if 0<=af ((af ((2:Int)*v7.2))+(1:Int)) then ((v7.1[(af ((af ((2:Int)*v7.2))+(1:Int))).toNat]?).bind λaaP=>bif decide ((aaP.toNat:Int)=(0:Int)) then (some ((8:Int),())) else some ((0:Int),())) else none) else some ((0:Int),())
theorem vv (k:Nat) (a1:Arg) (v7:((List UInt8)×Int)):jA (ah 2 (av (D.N k [1,1,1,1,1,1,1]) D.K0)) a1 v7=q2 a1 v7:=by kernel_rfl
noncomputable def s1 (k:Nat) (a1:Arg) (eh:Int) (dm:Int):((List UInt8)×Int×(List Bool)×Int×Int)->OO:=λgd=>D.L k [1,1,1,1,1,1,0,1,0,0] [0,3,8,66,67] [] (ah 2 (av (D.N k [1,1,1,1,1,1,1]) D.K0)) (T1 a1 gd)
noncomputable def r1 (k:Nat) (a1:Arg) (eh:Int) (dm:Int):((List UInt8)×Int×(List Bool)×Int×Int)->OO:=al (λw v=>B1 k w (q2 a1) a1 v) k
theorem lC (k:Nat) (a1:Arg) (eh:Int) (dm:Int):s1 k a1 eh dm=r1 k a1 eh dm:=by
 funext gd;have h2:jA (ah 2 (av (D.N k [1,1,1,1,1,1,1]) D.K0)) a1=q2 a1:=funext λz=>vv k a1 z;refine (ap _ _ _ (T1 a1) (λself v=>B1 k self (jA (ah 2 (av (D.N k [1,1,1,1,1,1,1]) D.K0)) a1) a1 v) (λrec v=>tT k rec (ah 2 (av (D.N k [1,1,1,1,1,1,1]) D.K0)) a1 v) k gd).trans ?_;rw[h2];rfl
noncomputable def q0 (l1:((List UInt8)×Int×(List Bool)×Int×Int)->OO) (a1:Arg) (eh:Int) (dm:Int) (rM:(Unit)):OO:=l1 (a1.1,eh,List.replicate 64 false,eh,(0:Int))
noncomputable def Q0 (k:Nat) (a1:Arg) (eh:Int) (dm:Int) (rM:(Unit)):OO:=q0 (r1 k a1 eh dm) a1 eh dm rM
theorem sv (k:Nat) (a1:Arg) (eh:Int) (dm:Int) (rM:(Unit)):cx (ah 0 (av (D.N k [1,1,1,1,1]) D.K0)) a1 eh dm rM=Q0 k a1 eh dm rM:=
 aQ (b:=q0 (s1 k a1 eh dm) a1 eh dm rM) (by kernel_rfl) (by rw[lC];rfl)
noncomputable def s0 (k:Nat) (a1:Arg):Int->Int->(Int)->OO:=λeh dm=>λcq=>D.L k [1,1,1,1,0,1,0,0] [0,3,4,35,36] [] (ah 0 (av (D.N k [1,1,1,1,1]) D.K0)) (T0 a1 eh dm cq)
noncomputable def r0 (k:Nat) (a1:Arg):Int->Int->(Int)->OO:=λeh dm=>al (λw v=>b0 w (Q0 k a1 eh dm) a1 eh dm v) k
theorem aq (k:Nat) (a1:Arg):s0 k a1=r0 k a1:=by
 funext eh;funext dm;funext cq;have h0:cx (ah 0 (av (D.N k [1,1,1,1,1]) D.K0)) a1 eh dm=Q0 k a1 eh dm:=funext λz=>sv k a1 eh dm z;refine (ap _ _ _ (T0 a1 eh dm) (λself v=>b0 self (cx (ah 0 (av (D.N k [1,1,1,1,1]) D.K0)) a1 eh dm) a1 eh dm v) (λrec v=>lB k rec (ah 0 (av (D.N k [1,1,1,1,1]) D.K0)) a1 eh dm v) k cq).trans ?_;rw[h0];rfl
noncomputable def p (l0:Int->Int->(Int)->OO) (a1:Arg):OO:=bif !decide ((a1.1.length:Int)=(64:Int)) then (some ((1:Int),())) else (a1.1[1]?).bind λx2=>(e8.ab (a1.1,())).bind λr3=>bif decide ((16:Int) < r3.1) then (some ((3:Int),())) else bif decide (af (x2.toNat:Int) < af ((2:Int)+(af ((2:Int)*r3.1)))) then (some ((3:Int),())) else bif decide ((64:Int) < af (x2.toNat:Int)) then (some ((3:Int),())) else l0 r3.1 (af (x2.toNat:Int)) (0:Int)
theorem ae (k:Nat) (a1:Arg):@Eq OO (D.W k a1) (p (r0 k a1) a1):=
 aQ (b:=p (s0 k a1) a1) (by kernel_rfl) (by rw[aq])
theorem ok:Ok prog 169 D.sig:=am func169 aw (by kernel_rfl) (fc e8.ok (fc lw.ok (aj _)))
end bh
namespace ic
abbrev Arg:Type:=(List UInt8)×Int×Unit
abbrev Out:Type:=Bool×Unit
noncomputable def D:FD:={ fn:=f171,tl:=bc,ps:=[(.ro,(.aa u8)),(.ro,i64)],rs:=[(.bool,(ak .bool))],gl:=[(170,e8.D.sig)] }
noncomputable def ab (a:Arg):Option Out:=@lift Out λk=>D.W k a
noncomputable def p (a1:Arg):Option Out:=bif decide ((0:Int)<=a1.2.1) then ((e8.ab (a1.1,())).bind λr2=>bif decide (a1.2.1 < r2.1) then (if 0<=af ((3:Int)+(af ((2:Int)*a1.2.1))) then ((a1.1[(af ((3:Int)+(af ((2:Int)*a1.2.1)))).toNat]?).bind λx3=>some (!decide ((x3.toNat:Int)=(0:Int)),())) else none) else some (false,())) else some (false,())
theorem ae (k:Nat) (a1:Arg):@Eq (Option Out) (D.W k a1) (p a1):=by kernel_rfl
theorem ok:Ok prog 171 D.sig:=am func171 aw (by kernel_rfl) (fc e8.ok (aj _))
end ic
namespace ef
abbrev Arg:Type:=Row×Unit
abbrev Out:Type:=Int×Unit
abbrev OO:=Option Out
noncomputable def D:FD:={ fn:=f179,tl:=bc,ps:=[(.ro,bd)],rs:=[(i64,(ak i64))],gl:=[(98,h_.D.sig)],lv:=[(6,[1,26,27])],lx:=[(0,[])] }
noncomputable def ab (a:Arg):OO:=@lift Out λk=>D.W k a
noncomputable def T0 (a1:Arg) (dj:Int):St:={ n:=43,sl:=[(1,.box bd (ak bd) [] a1.1),(26,.val i64 (a1.1.2.2.2.1.length:Int)),(27,.val i64 dj)],vr:=[],az:=[] }
noncomputable def b0 (self:Int->OO) (e0:(Unit)->OO) (a1:Arg) (dj:Int):OO:=bif decide (dj < (a1.1.2.2.2.1.length:Int)) then (if 0<=dj then ((a1.1.2.2.2.1[dj.toNat]?).bind λrL=>bif decide ((rL.toNat:Int) < (97:Int)) then (some ((5:Int),())) else if 0<=dj then ((a1.1.2.2.2.1[dj.toNat]?).bind λrY=>bif decide ((122:Int) < (rY.toNat:Int)) then (some ((5:Int),())) else self (af (dj+(1:Int)))) else none) else none) else e0 ()
noncomputable def q0 (a1:Arg) (rM:(Unit)):OO:=some ((0:Int),())
noncomputable def s0 (k:Nat) (a1:Arg):(Int)->OO:=λdj=>D.L k [1,1,1,0,1,0,0] [1,26,27] [] (ah 0 (av (D.N k [1,1,1,1]) D.K0)) (T0 a1 dj)
noncomputable def r0 (k:Nat) (a1:Arg):(Int)->OO:=al (λw v=>b0 w (q0 a1) a1 v) k
theorem aq (k:Nat) (a1:Arg):s0 k a1=r0 k a1:=
 funext λdj=>ap _ _ _ (T0 a1) _ (λrec v=>by kernel_rfl) k dj
noncomputable def p (l0:(Int)->OO) (a1:Arg):OO:=(h_.ab (a1.1.1,(0:Int),(3:Int),())).bind λr2=>bif !r2.1 then (some ((3:Int),())) else (h_.ab (a1.1.2.1,(1:Int),(99:Int),())).bind λr3=>bif !r3.1 then (some ((3:Int),())) else (h_.ab (a1.1.2.2.1,(0:Int),(999:Int),())).bind λr4=>bif !r4.1 then (some ((3:Int),())) else bif decide ((8:Int) < (a1.1.2.2.2.1.length:Int)) then (some ((5:Int),())) else l0 (0:Int)
theorem ae (k:Nat) (a1:Arg):@Eq OO (D.W k a1) (p (r0 k a1) a1):=
 aQ (b:=p (s0 k a1) a1) (by kernel_rfl) (by rw[aq])
theorem ok:Ok prog 179 D.sig:=am func179 aw (by kernel_rfl) (fc h_.ok (aj _))
end ef
namespace j6
abbrev Arg:Type:=(List UInt8)×Unit
abbrev Out:Type:=sq×Unit
abbrev OO:=Option Out
noncomputable def D:FD:={ fn:=f172,tl:=bc,ps:=[(.ro,(.aa u8))],rs:=[(ru,(ak ru))],gl:=[(179,ef.D.sig)],od:=[(2,[0,1,2,3,4,5,6,7,8,9]),(5,[0,1,2,3,4,5,6,7,8,9,10,11,12,13,14,15,16,17,18,19,20,21,22,23]),(8,[0,1,2,3,4,5,6])] }
noncomputable def ab (a:Arg):OO:=@lift Out λk=>D.W k a
noncomputable def p (a1:Arg):OO:=let Xe:OO:=let j37:OO:=(a1.1[1]?).bind λx38=>(a1.1[2]?).bind λx39=>(a1.1[3]?).bind λx40=>(a1.1[4]?).bind λx41=>if 0<=(6:Int)/\(6:Int)<=(a1.1.length:Int) then (let y42:=af ((BitVec.ofInt 64 (af ((af (x40.toNat:Int))*2 ^ 8)) ||| BitVec.ofInt 64 (af (x41.toNat:Int))).toNat:Int);(ef.ab ((af (x38.toNat:Int),af (x39.toNat:Int),y42,(a1.1.take a1.1.length).drop 6,()),())).bind λr43=>bif !decide (r43.1=(0:Int)) then (some (((5:Int),(0:Int),(0:Int),(0:Int),((0:Int),(0:Int),(0:Int),([]:List UInt8),()),()),())) else (a1.1[0]?).bind λx44=>some (((0:Int),af (x44.toNat:Int),(0:Int),(0:Int),(af (x38.toNat:Int),af (x39.toNat:Int),y42,(a1.1.take a1.1.length).drop 6,()),()),())) else none;bif decide ((a1.1.length:Int) < (6:Int)) then (some (((5:Int),(0:Int),(0:Int),(0:Int),((0:Int),(0:Int),(0:Int),([]:List UInt8),()),()),())) else (a1.1[0]?).bind λZO=>bif !decide ((ZO.toNat:Int)=(0:Int)) then ((a1.1[0]?).bind λZP=>bif !decide ((ZP.toNat:Int)=(2:Int)) then (some (((5:Int),(0:Int),(0:Int),(0:Int),((0:Int),(0:Int),(0:Int),([]:List UInt8),()),()),())) else (a1.1[5]?).bind λx28=>bif !decide ((a1.1.length:Int)=af ((6:Int)+(af (x28.toNat:Int)))) then (some (((5:Int),(0:Int),(0:Int),(0:Int),((0:Int),(0:Int),(0:Int),([]:List UInt8),()),()),())) else j37) else (a1.1[5]?).bind λx29=>bif !decide ((a1.1.length:Int)=af ((6:Int)+(af (x29.toNat:Int)))) then (some (((5:Int),(0:Int),(0:Int),(0:Int),((0:Int),(0:Int),(0:Int),([]:List UInt8),()),()),())) else j37;bif decide ((a1.1.length:Int)=(3:Int)) then ((a1.1[0]?).bind λx2=>bif decide ((x2.toNat:Int)=(1:Int)) then ((a1.1[1]?).bind λx3=>bif decide ((x3.toNat:Int) < (12:Int)) then ((a1.1[2]?).bind λx4=>bif decide ((x4.toNat:Int) < (16:Int)) then ((a1.1[1]?).bind λx5=>(a1.1[2]?).bind λx6=>some (((0:Int),(1:Int),af (x5.toNat:Int),af (x6.toNat:Int),((0:Int),(0:Int),(0:Int),([]:List UInt8),()),()),())) else Xe) else Xe) else Xe) else Xe
theorem ae (k:Nat) (a1:Arg):@Eq OO (D.W k a1) (p a1):=by kernel_rfl
theorem ok:Ok prog 172 D.sig:=am func172 aw (by kernel_rfl) (fc ef.ok (aj _))
end j6
namespace lZ
abbrev Arg:Type:=(List UInt8)×Int×Unit
abbrev Out:Type:=(List UInt8)×Unit
noncomputable def D:FD:={ fn:=f173,tl:=bc,ps:=[(.ro,(.aa u8)),(.ro,i64)],rs:=[((.aa u8),(ak (.aa u8)))],gl:=[(253,lw.D.sig)] }
noncomputable def ab (a:Arg):Option Out:=@lift Out λk=>D.W k a
noncomputable def p (a1:Arg):Option Out:=(lw.ab (a1.1,a1.2.1,())).bind λr2=>if 0<=r2.1/\r2.1<=af (r2.1+r2.2.1)/\af (r2.1+r2.2.1)<=(a1.1.length:Int) then (some ((a1.1.take (af (r2.1+r2.2.1)).toNat).drop r2.1.toNat,())) else none
theorem ae (k:Nat) (a1:Arg):@Eq (Option Out) (D.W k a1) (p a1):=by kernel_rfl
theorem ok:Ok prog 173 D.sig:=am func173 aw (by kernel_rfl) (fc lw.ok (aj _))
end lZ
namespace il
abbrev Arg:Type:=Row×Row×Unit
abbrev Out:Type:=Bool×Unit
noncomputable def D:FD:={ fn:=f132,tl:=bc,ps:=[(.ro,bd),(.ro,bd)],rs:=[(.bool,(ak .bool))] }
noncomputable def ab (a:Arg):Option Out:=@lift Out λk=>D.W k a
noncomputable def p (a1:Arg):Option Out:=bif decide (a1.1.1 < a1.2.1.1) then (some (true,())) else bif decide (a1.1.1=a1.2.1.1) then (some (decide (a1.1.2.1 < a1.2.1.2.1),())) else some (false,())
theorem ae (k:Nat) (a1:Arg):@Eq (Option Out) (D.W k a1) (p a1):=by kernel_rfl
theorem ok:Ok prog 132 D.sig:=am func132 aw (by kernel_rfl) (aj _)
end il
namespace lE
abbrev Arg:Type:=Row×Row×Unit
abbrev Out:Type:=Int×Unit
noncomputable def D:FD:={ fn:=f186,tl:=bc,ps:=[(.ro,bd),(.ro,bd)],rs:=[(i64,(ak i64))],gl:=[(132,il.D.sig)] }
noncomputable def ab (a:Arg):Option Out:=@lift Out λk=>D.W k a
noncomputable def p (a1:Arg):Option Out:=(il.ab (a1.1,a1.2.1,())).bind λr2=>bif r2.1 then (some ((-1:Int),())) else (il.ab (a1.2.1,a1.1,())).bind λr3=>bif r3.1 then (some ((1:Int),())) else some ((0:Int),())
theorem ae (k:Nat) (a1:Arg):@Eq (Option Out) (D.W k a1) (p a1):=by kernel_rfl
theorem ok:Ok prog 186 D.sig:=am func186 aw (by kernel_rfl) (fc il.ok (aj _))
end lE
namespace oU
abbrev Arg:Type:=Seen×Seen×Unit
abbrev Out:Type:=Int×Unit
noncomputable def D:FD:={ fn:=f255,tl:=bc,ps:=[(.ro,gc),(.ro,gc)],rs:=[(i64,(ak i64))],gl:=[(186,lE.D.sig)] }
noncomputable def ab (a:Arg):Option Out:=@lift Out λk=>D.W k a
noncomputable def p (a1:Arg):Option Out:=(lE.ab (a1.1.1,a1.2.1.1,())).bind λr2=>some (r2.1,())
theorem ae (k:Nat) (a1:Arg):@Eq (Option Out) (D.W k a1) (p a1):=by kernel_rfl
theorem ok:Ok prog 255 D.sig:=am func255 aw (by kernel_rfl) (fc lE.ok (aj _))
end oU
namespace o5
open Go.Proofs
abbrev Arg:Type:=(List Seen)×(Nat×Int)×Unit
abbrev Out:Type:=(List Seen)×Unit
noncomputable def ab (a:Arg):Option Out:=(zn gc oU.ab a.1).map λr=>(r,())
noncomputable def sig:uL:={ ps:=[(.k8 (ai (.aa gc)),.aa gc),(.fix 255,.fn)],rs:=[],F:=ab }
def Oi:Go.Shelf.Ren:=⟨λ| 6=>254 | 15=>303 | 14=>302 | 28=>334 | 29=>335 | 20=>326 | 21=>327 | 22=>328 | 23=>329 | 24=>330 | 25=>331 | 26=>332 | 27=>333 | 46=>348 | 47=>349 | 48=>350 | 49=>351 | 50=>352 | 57=>361 | n=>n,λ| 22=>160 | 24=>249 | 25=>323 | 3=>3 | 39=>317 | 0=>0 | 53=>405 | 55=>407 | 4=>4 | 46=>399 | 45=>398 | 50=>256 | 5=>5 | 9=>9 | 66=>423 | 70=>427 | 76=>434 | 77=>314 | n=>n,λ| n=>n⟩
theorem X7:Go.Proofs.SlLaysF0.n6 Tryz.prog Oi:={
 mixed:=by kernel_rfl
 f6:=⟨Tryz.f254.name,by decide,Tryz.func254.trans (cP some (by kernel_rfl))⟩
 f14:=⟨Tryz.f302.name,by decide,Tryz.func302.trans (cP some (by kernel_rfl))⟩
 f15:=Tryz.func303.trans (cP some (by kernel_rfl))
 f20:=⟨Tryz.f326.name,by decide,Tryz.func326.trans (cP some (by kernel_rfl))⟩
 f21:=⟨Tryz.f327.name,by decide,Tryz.func327.trans (cP some (by kernel_rfl))⟩
 f22:=⟨Tryz.f328.name,by decide,Tryz.func328.trans (cP some (by kernel_rfl))⟩
 f23:=⟨Tryz.f329.name,by decide,Tryz.func329.trans (cP some (by kernel_rfl))⟩
 f24:=⟨Tryz.f330.name,by decide,Tryz.func330.trans (cP some (by kernel_rfl))⟩
 f25:=⟨Tryz.f331.name,by decide,Tryz.func331.trans (cP some (by kernel_rfl))⟩
 f26:=⟨Tryz.f332.name,by decide,Tryz.func332.trans (cP some (by kernel_rfl))⟩
 f27:=⟨Tryz.f333.name,by decide,Tryz.func333.trans (cP some (by kernel_rfl))⟩
 f28:=Tryz.func334.trans (cP some (by kernel_rfl))
 f29:=Tryz.func335.trans (cP some (by kernel_rfl))
 f46:=⟨Tryz.f348.name,by decide,Tryz.func348.trans (cP some (by kernel_rfl))⟩
 f47:=Tryz.func349.trans (cP some (by kernel_rfl))
 f48:=Tryz.func350.trans (cP some (by kernel_rfl))
 f49:=⟨Tryz.f351.name,by decide,Tryz.func351.trans (cP some (by kernel_rfl))⟩
 f50:=⟨Tryz.f352.name,by decide,Tryz.func352.trans (cP some (by kernel_rfl))⟩
 f57:=⟨Tryz.f361.name,by decide,Tryz.func361.trans (cP some (by kernel_rfl))⟩
 t0:=Tryz.underlying0
 a0:=Tryz.isAgg0
 z0:=Tryz.sizeOf0
 v0:=Tryz.zeroValue0
 t3:=Tryz.underlying3
 a3:=Tryz.isAgg3
 z3:=Tryz.sizeOf3
 v3:=Tryz.zeroValue3
 t4:=Tryz.underlying4
 a4:=Tryz.isAgg4
 z4:=Tryz.sizeOf4
 v4:=Tryz.zeroValue4
 t5:=Tryz.underlying5
 a5:=Tryz.isAgg5
 z5:=Tryz.sizeOf5
 v5:=Tryz.zeroValue5
 t9:=Tryz.underlying9
 a9:=Tryz.isAgg9
 z9:=Tryz.sizeOf9
 v9:=Tryz.zeroValue9
 t22:=Tryz.underlying160
 a22:=Tryz.isAgg160
 z22:=Tryz.sizeOf160
 v22:=Tryz.zeroValue160
 t25:=Tryz.underlying323
 a25:=Tryz.isAgg323
 z25:=Tryz.sizeOf323
 v25:=Tryz.zeroValue323
 t39:=Tryz.underlying317
 a39:=Tryz.isAgg317
 z39:=Tryz.sizeOf317
 v39:=Tryz.zeroValue317
 t45:=Tryz.underlying398
 a45:=Tryz.isAgg398
 z45:=Tryz.sizeOf398
 v45:=Tryz.zeroValue398
 t46:=Tryz.underlying399
 a46:=Tryz.isAgg399
 z46:=Tryz.sizeOf399
 v46:=Tryz.zeroValue399
 t50:=Tryz.underlying256
 a50:=Tryz.isAgg256
 z50:=Tryz.sizeOf256
 v50:=Tryz.zeroValue256
 t53:=Tryz.underlying405
 a53:=Tryz.isAgg405
 z53:=Tryz.sizeOf405
 v53:=Tryz.zeroValue405
 t55:=Tryz.underlying407
 a55:=Tryz.isAgg407
 z55:=Tryz.sizeOf407
 v55:=Tryz.zeroValue407
 t66:=Tryz.underlying423
 a66:=Tryz.isAgg423
 z66:=Tryz.sizeOf423
 v66:=Tryz.zeroValue423
 t70:=Tryz.underlying427
 a70:=Tryz.isAgg427
 z70:=Tryz.sizeOf427
 v70:=Tryz.zeroValue427
 t76:=Tryz.underlying434
 a76:=Tryz.isAgg434
 z76:=Tryz.sizeOf434
 v76:=Tryz.zeroValue434
 t77:=Tryz.underlying314
 a77:=Tryz.isAgg314
 z77:=Tryz.sizeOf314
 v77:=Tryz.zeroValue314 }
theorem ok:Ok prog 254 sig:=X6 (e:=gc) X7 rfl rfl (by kernel_rfl) (by decide) (g:=255) (cF:=oU.ab) oU.ok ⟨f254,func254,by kernel_rfl,by kernel_rfl,by kernel_rfl⟩
end o5
namespace bp
abbrev Arg:Type:=(List (List UInt8))×Unit
abbrev Out:Type:=(List Seen)×Int×Unit
abbrev OO:=Option Out
noncomputable def D:FD:={ fn:=f174,tl:=bc,ps:=[(.ro,(.aa (.aa u8)))],rs:=[((.aa gc),(ai (.aa gc))),(i64,(ak i64))],gl:=[(132,il.D.sig),(170,e8.D.sig),(171,ic.D.sig),(172,j6.D.sig),(173,lZ.D.sig),(254,o5.sig)],lv:=[(4,[4,5,6,21,22,23]),(7,[4,5,6,7,8,21,22,23,29,30]),(21,[4,5,6,81,82,83]),(29,[4,5,6,15,101,102,103]),(40,[4,19])],lx:=[(0,[4,5,6]),(2,[4,5,6,21,22,23]),(3,[4,5,6,7,8,21,22,23,29,30]),(5,[4,5,6]),(7,[4]),(9,[4])],od:=[(42,[0,1,2,3,4,5,6,7,8,9,10,11,12])] }
noncomputable def ab (a:Arg):OO:=@lift Out λk=>D.W k a
noncomputable def T0 (a1:Arg) (U:(List Seen)×(List Seen)×(List ((List Int)×Row))×(List (List UInt8))×Int×Int):St:={ n:=148,sl:=[(4,.own (.aa gc) (ai (.aa gc)) [] U.1),(5,.own (.aa gc) (ai (.aa gc)) [] U.2.1),(6,.own (.map (.arr 2 i64) bd) (ai (.map (.arr 2 i64) bd)) [] U.2.2.1),(21,.val (.aa (.aa u8)) U.2.2.2.1),(22,.val i64 U.2.2.2.2.1),(23,.val i64 U.2.2.2.2.2)],vr:=[],az:=[] }
noncomputable def S0 (rec:RT Out) (a1:Arg):((List Seen)×(List Seen)×(List ((List Int)×Row))×(List (List UInt8))×Int×Int)->OO:=λU=>rec (T0 a1 U)
noncomputable def cx (K:KT Out) (a1:Arg):((List Seen)×(List Seen)×(List ((List Int)×Row)))->OO:=λz=>K (.exit 0) ({ n:=148,sl:=[(4,.own (.aa gc) (ai (.aa gc)) [] z.1),(5,.own (.aa gc) (ai (.aa gc)) [] z.2.1),(6,.own (.map (.arr 2 i64) bd) (ai (.map (.arr 2 i64) bd)) [] z.2.2)],vr:=[],az:=[] })
noncomputable def T1 (a1:Arg) (ez:Int) (dy:List UInt8) (d0:List (List UInt8)) (cr:Int) (iy:Int) (co:(List Seen)×(List Seen)×(List ((List Int)×Row))×Int):St:={ n:=148,sl:=[(4,.own (.aa gc) (ai (.aa gc)) [] co.1),(5,.own (.aa gc) (ai (.aa gc)) [] co.2.1),(6,.own (.map (.arr 2 i64) bd) (ai (.map (.arr 2 i64) bd)) [] co.2.2.1),(7,.val i64 ez),(8,.val (.aa u8) dy),(21,.val (.aa (.aa u8)) d0),(22,.val i64 cr),(23,.val i64 ez),(29,.val i64 iy),(30,.val i64 co.2.2.2)],vr:=[],az:=[] }
noncomputable def b1 (self:((List Seen)×(List Seen)×(List ((List Int)×Row))×Int)->OO) (e2:((List Seen)×(List Seen)×(List ((List Int)×Row)))->OO) (a1:Arg) (ez:Int) (dy:List UInt8) (d0:List (List UInt8)) (cr:Int) (iy:Int) (co:(List Seen)×(List Seen)×(List ((List Int)×Row))×Int):OO:=bif decide (co.2.2.2 < iy) then ((ic.ab (dy,co.2.2.2,())).bind λIe=>bif !Ie.1 then (self (co.1,co.2.1,co.2.2.1,af (co.2.2.2+(1:Int)))) else (lZ.ab (dy,co.2.2.2,())).bind λLc=>(j6.ab (Lc.1,())).bind λsw=>bif !decide (sw.1.1=(0:Int)) then (some (([]:List Seen),(5:Int),())) else bif decide (sw.1.2.1=(0:Int)) then (if co.1.length+[(sw.1.2.2.2.2.1,ez,co.2.2.2,false,ez,co.2.2.2,())].length<=cg then (let aaQ:=co.1++[(sw.1.2.2.2.2.1,ez,co.2.2.2,false,ez,co.2.2.2,())];self (aaQ,co.2.1,co.2.2.1,af (co.2.2.2+(1:Int)))) else none) else bif decide (sw.1.2.1=(2:Int)) then (if 0 < (List.replicate 2 (0:Int)).length then (if 1 < ((List.replicate 2 (0:Int)).set 0 ez).length then (let aaR:=oV (.arr 2 i64) co.2.2.1 (((List.replicate 2 (0:Int)).set 0 ez).set 1 co.2.2.2) sw.1.2.2.2.2.1;self (co.1,co.2.1,aaR,af (co.2.2.2+(1:Int)))) else none) else none) else if co.2.1.length+[(((0:Int),(0:Int),(0:Int),([]:List UInt8),()),ez,co.2.2.2,true,sw.1.2.2.1,sw.1.2.2.2.1,())].length<=cg then (let aaS:=co.2.1++[(((0:Int),(0:Int),(0:Int),([]:List UInt8),()),ez,co.2.2.2,true,sw.1.2.2.1,sw.1.2.2.2.1,())];self (co.1,aaS,co.2.2.1,af (co.2.2.2+(1:Int)))) else none) else e2 (co.1,co.2.1,co.2.2.1)
noncomputable abbrev B1 (_:Nat):=b1
noncomputable def q0 (self:((List Seen)×(List Seen)×(List ((List Int)×Row))×(List (List UInt8))×Int×Int)->OO) (e0:((List Seen)×(List Seen)×(List ((List Int)×Row)))->OO) (a1:Arg) (ez:Int) (dy:List UInt8) (d0:List (List UInt8)) (cr:Int) (iy:Int) (Bq:((List Seen)×(List Seen)×(List ((List Int)×Row)))):OO:=self (Bq.1,Bq.2.1,Bq.2.2,d0,cr,af (ez+(1:Int)))
noncomputable abbrev Q0 (_:Nat):=q0
noncomputable def s1 (k:Nat) (rec:RT Out) (K:KT Out) (a1:Arg):Int->(List UInt8)->(List (List UInt8))->Int->Int->((List Seen)×(List Seen)×(List ((List Int)×Row))×Int)->OO:=λez dy d0 cr iy=>λco=>D.L k [1,1,1,0,1,0,0,1,1,0,0,1,1,0,0] [4,5,6,7,8,21,22,23,29,30] [] (ah 2 (ah 1 (av (D.N k [1,1,1,0,1,0,0,1,1,1]) (iV rec (fw [4,5,6,21,22,23] []) K)))) (T1 a1 ez dy d0 cr iy co)
noncomputable def r1 (k:Nat) (self:((List Seen)×(List Seen)×(List ((List Int)×Row))×(List (List UInt8))×Int×Int)->OO) (e0:((List Seen)×(List Seen)×(List ((List Int)×Row)))->OO) (a1:Arg):Int->(List UInt8)->(List (List UInt8))->Int->Int->((List Seen)×(List Seen)×(List ((List Int)×Row))×Int)->OO:=λez dy d0 cr iy=>al (λw v=>B1 k w (Q0 k self e0 a1 ez dy d0 cr iy) a1 ez dy d0 cr iy v) k
theorem lC (k:Nat) (rec:RT Out) (K:KT Out) (a1:Arg):s1 k rec K a1=r1 k (S0 rec a1) (cx K a1) a1:=
 funext λez=>funext λdy=>funext λd0=>funext λcr=>funext λiy=>funext λco=>ap _ _ _ (T1 a1 ez dy d0 cr iy) _ (λrec v=>by kernel_rfl) k co
noncomputable def b0 (self:((List Seen)×(List Seen)×(List ((List Int)×Row))×(List (List UInt8))×Int×Int)->OO) (e0:((List Seen)×(List Seen)×(List ((List Int)×Row)))->OO) (l1:Int->(List UInt8)->(List (List UInt8))->Int->Int->((List Seen)×(List Seen)×(List ((List Int)×Row))×Int)->OO) (a1:Arg) (U:(List Seen)×(List Seen)×(List ((List Int)×Row))×(List (List UInt8))×Int×Int):OO:=bif decide (U.2.2.2.2.2 < U.2.2.2.2.1) then (if 0<=U.2.2.2.2.2 then ((U.2.2.2.1[U.2.2.2.2.2.toNat]?).bind λa8=>(e8.ab (a8,())).bind λdg=>l1 U.2.2.2.2.2 a8 U.2.2.2.1 U.2.2.2.2.1 dg.1 (U.1,U.2.1,U.2.2.1,(0:Int))) else none) else e0 (U.1,U.2.1,U.2.2.1)
noncomputable def B0 (k:Nat) (self:((List Seen)×(List Seen)×(List ((List Int)×Row))×(List (List UInt8))×Int×Int)->OO) (e0:((List Seen)×(List Seen)×(List ((List Int)×Row)))->OO) (a1:Arg) (U:(List Seen)×(List Seen)×(List ((List Int)×Row))×(List (List UInt8))×Int×Int):OO:=b0 self e0 (r1 k self e0 a1) a1 U
theorem lB (k:Nat) (rec:RT Out) (K:KT Out) (a1:Arg) (U:(List Seen)×(List Seen)×(List ((List Int)×Row))×(List (List UInt8))×Int×Int):D.N k [1,1,1,0,1,0,0] (T0 a1 U) (iV rec (fw [4,5,6,21,22,23] []) K)=B0 k (S0 rec a1) (cx K a1) a1 U:=
 aQ (b:=b0 (S0 rec a1) (cx K a1) (s1 k rec K a1) a1 U) (by kernel_rfl) (by rw[lC];rfl)
noncomputable def T2 (a1:Arg) (jM:List Seen) (jo:List Seen) (jq:List ((List Int)×Row)) (j_:Int) (th:Int):St:={ n:=148,sl:=[(4,.own (.aa gc) (ai (.aa gc)) [] jM),(5,.own (.aa gc) (ai (.aa gc)) [] jo),(6,.own (.map (.arr 2 i64) bd) (ai (.map (.arr 2 i64) bd)) [] jq),(81,.ref 5 [] [0,0]),(82,.val i64 j_),(83,.val i64 th)],vr:=[],az:=[] }
noncomputable def S2 (rec:RT Out) (a1:Arg) (jM:List Seen) (jo:List Seen) (jq:List ((List Int)×Row)) (j_:Int):(Int)->OO:=λth=>rec (T2 a1 jM jo jq j_ th)
noncomputable def Ri (K:KT Out) (a1:Arg) (jM:List Seen) (jo:List Seen) (jq:List ((List Int)×Row)) (j_:Int):(Unit)->OO:=λz=>K (.exit 5) ({ n:=148,sl:=[(4,.own (.aa gc) (ai (.aa gc)) [] jM),(5,.own (.aa gc) (ai (.aa gc)) [] jo),(6,.own (.map (.arr 2 i64) bd) (ai (.map (.arr 2 i64) bd)) [] jq)],vr:=[],az:=[] })
noncomputable def b2 (self:Int->OO) (e5:(Unit)->OO) (a1:Arg) (jM:List Seen) (jo:List Seen) (jq:List ((List Int)×Row)) (j_:Int) (th:Int):OO:=bif decide (th < j_) then (if 0<=th/\th < (jo.length:Int) then ((jo[th.toNat]?).bind λIg=>if 0 < (List.replicate 2 (0:Int)).length then (if 1 < ((List.replicate 2 (0:Int)).set 0 Ig.2.2.2.2.1).length then (let acd:=A7 (jQ (.arr 2 i64) jq (((List.replicate 2 (0:Int)).set 0 Ig.2.2.2.2.1).set 1 Ig.2.2.2.2.2.1)) ((0:Int),(0:Int),(0:Int),([]:List UInt8),());bif !(jQ (.arr 2 i64) jq (((List.replicate 2 (0:Int)).set 0 Ig.2.2.2.2.1).set 1 Ig.2.2.2.2.2.1)).isSome then (some (([]:List Seen),(4:Int),())) else self (af (th+(1:Int)))) else none) else none) else none) else e5 ()
noncomputable abbrev B2 (_:Nat):=b2
theorem Rb (k:Nat) (rec:RT Out) (K:KT Out) (a1:Arg) (jM:List Seen) (jo:List Seen) (jq:List ((List Int)×Row)) (j_:Int) (th:Int):D.N k [1,1,1,1,0,1,0,0] (T2 a1 jM jo jq j_ th) (iV rec (fw [4,5,6,81,82,83] []) K)=b2 (S2 rec a1 jM jo jq j_) (Ri K a1 jM jo jq j_) a1 jM jo jq j_ th:=by kernel_rfl
noncomputable def T3 (a1:Arg) (jN:List Seen) (kd:List ((List Int)×Row)) (ke:Int) (o6:(List Seen)×(List ((List Int)×Bool))×Int):St:={ n:=148,sl:=[(4,.own (.aa gc) (ai (.aa gc)) [] o6.1),(5,.own (.aa gc) (ai (.aa gc)) [] jN),(6,.own (.map (.arr 2 i64) bd) (ai (.map (.arr 2 i64) bd)) [] kd),(15,.own (.map (.arr 2 i64) .bool) (ai (.map (.arr 2 i64) .bool)) [] o6.2.1),(101,.ref 5 [] [0,0]),(102,.val i64 ke),(103,.val i64 o6.2.2)],vr:=[],az:=[] }
noncomputable def S3 (rec:RT Out) (a1:Arg) (jN:List Seen) (kd:List ((List Int)×Row)) (ke:Int):((List Seen)×(List ((List Int)×Bool))×Int)->OO:=λo6=>rec (T3 a1 jN kd ke o6)
noncomputable def Rj (K:KT Out) (a1:Arg) (jN:List Seen) (kd:List ((List Int)×Row)) (ke:Int):(List Seen)->OO:=λz=>K (.exit 7) ({ n:=148,sl:=[(4,.own (.aa gc) (ai (.aa gc)) [] z)],vr:=[],az:=[] })
noncomputable def b3 (self:((List Seen)×(List ((List Int)×Bool))×Int)->OO) (e7:(List Seen)->OO) (a1:Arg) (jN:List Seen) (kd:List ((List Int)×Row)) (ke:Int) (o6:(List Seen)×(List ((List Int)×Bool))×Int):OO:=bif decide (o6.2.2 < ke) then (if 0<=o6.2.2/\o6.2.2 < (jN.length:Int) then ((jN[o6.2.2.toNat]?).bind λIh=>if 0 < (List.replicate 2 (0:Int)).length then (if 1 < ((List.replicate 2 (0:Int)).set 0 Ih.2.2.2.2.1).length then (let Rk:=((List.replicate 2 (0:Int)).set 0 Ih.2.2.2.2.1).set 1 Ih.2.2.2.2.2.1;bif A7 (jQ (.arr 2 i64) o6.2.1 Rk) false then (some (([]:List Seen),(6:Int),())) else let Xf:=A7 (jQ (.arr 2 i64) kd Rk) ((0:Int),(0:Int),(0:Int),([]:List UInt8),());if o6.1.length+[(Xf,Ih.2)].length<=cg then (self (o6.1++[(Xf,Ih.2)],oV (.arr 2 i64) o6.2.1 Rk true,af (o6.2.2+(1:Int)))) else none) else none) else none) else none) else e7 o6.1
noncomputable abbrev B3 (_:Nat):=b3
theorem aaT (k:Nat) (rec:RT Out) (K:KT Out) (a1:Arg) (jN:List Seen) (kd:List ((List Int)×Row)) (ke:Int) (o6:(List Seen)×(List ((List Int)×Bool))×Int):D.N k [1,1,1,1,1,1,0,1,0,0] (T3 a1 jN kd ke o6) (iV rec (fw [4,5,6,15,101,102,103] []) K)=b3 (S3 rec a1 jN kd ke) (Rj K a1 jN kd ke) a1 jN kd ke o6:=by kernel_rfl
noncomputable def T4 (a1:Arg) (tj:List Seen) (uI:Int):St:={ n:=148,sl:=[(4,.own (.aa gc) (ai (.aa gc)) [] tj),(19,.val i64 uI)],vr:=[],az:=[] }
noncomputable def b4 (self:Int->OO) (e9:(Unit)->OO) (a1:Arg) (tj:List Seen) (uI:Int):OO:=bif decide (uI < (tj.length:Int)) then (if 0<=af (uI - (1:Int))/\af (uI - (1:Int)) < (tj.length:Int) then ((tj[(af (uI - (1:Int))).toNat]?).bind λaaU=>if 0<=uI/\uI < (tj.length:Int) then ((tj[uI.toNat]?).bind λaaV=>(il.ab (aaU.1,aaV.1,())).bind λaaW=>bif !aaW.1 then (some (([]:List Seen),(8:Int),())) else self (af (uI+(1:Int)))) else none) else none) else e9 ()
noncomputable abbrev B4 (_:Nat):=b4
noncomputable def q4 (a1:Arg) (tj:List Seen) (ace:(Unit)):OO:=some (tj,(0:Int),())
noncomputable abbrev Q4 (_:Nat):=q4
noncomputable def s4 (k:Nat) (a1:Arg) (jN:List Seen) (kd:List ((List Int)×Row)) (ke:Int):(List Seen)->(Int)->OO:=λtj=>λuI=>D.L k [1,1,1,1,1,1,1,1,0,1,0,0] [4,19] [] (ah 9 (av (D.N k [1,1,1,1,1,1,1,1,1]) D.K0)) (T4 a1 tj uI)
noncomputable def r4 (k:Nat) (a1:Arg) (jN:List Seen) (kd:List ((List Int)×Row)) (ke:Int):(List Seen)->(Int)->OO:=λtj=>al (λw v=>B4 k w (Q4 k a1 tj) a1 tj v) k
theorem aaX (k:Nat) (a1:Arg) (jN:List Seen) (kd:List ((List Int)×Row)) (ke:Int):s4 k a1 jN kd ke=r4 k a1 jN kd ke:=
 funext λtj=>funext λuI=>ap _ _ _ (T4 a1 tj) _ (λrec v=>by kernel_rfl) k uI
noncomputable def q3 (l4:(List Seen)->(Int)->OO) (a1:Arg) (jN:List Seen) (kd:List ((List Int)×Row)) (ke:Int) (Dc:(List Seen)):OO:=(o5.ab (Dc,((255,0):Nat×Int),())).bind λaaY=>l4 aaY.1 (1:Int)
noncomputable def Q3 (k:Nat) (a1:Arg) (jN:List Seen) (kd:List ((List Int)×Row)) (ke:Int) (Dc:(List Seen)):OO:=q3 (r4 k a1 jN kd ke) a1 jN kd ke Dc
theorem Rc (k:Nat) (a1:Arg) (jN:List Seen) (kd:List ((List Int)×Row)) (ke:Int) (Dc:(List Seen)):Rj (ah 7 (av (D.N k [1,1,1,1,1,1,1]) D.K0)) a1 jN kd ke Dc=Q3 k a1 jN kd ke Dc:=
 aQ (b:=q3 (s4 k a1 jN kd ke) a1 jN kd ke Dc) (by kernel_rfl) (by rw[aaX];rfl)
noncomputable def s3 (k:Nat) (a1:Arg) (jM:List Seen) (jo:List Seen) (jq:List ((List Int)×Row)) (j_:Int):(List Seen)->(List ((List Int)×Row))->Int->((List Seen)×(List ((List Int)×Bool))×Int)->OO:=λjN kd ke=>λo6=>D.L k [1,1,1,1,1,1,0,1,0,0] [4,5,6,15,101,102,103] [] (ah 7 (av (D.N k [1,1,1,1,1,1,1]) D.K0)) (T3 a1 jN kd ke o6)
noncomputable def r3 (k:Nat) (a1:Arg) (jM:List Seen) (jo:List Seen) (jq:List ((List Int)×Row)) (j_:Int):(List Seen)->(List ((List Int)×Row))->Int->((List Seen)×(List ((List Int)×Bool))×Int)->OO:=λjN kd ke=>al (λw v=>B3 k w (Q3 k a1 jN kd ke) a1 jN kd ke v) k
theorem Ra (k:Nat) (a1:Arg) (jM:List Seen) (jo:List Seen) (jq:List ((List Int)×Row)) (j_:Int):s3 k a1 jM jo jq j_=r3 k a1 jM jo jq j_:=by
 funext jN;funext kd;funext ke;funext o6;have h7:Rj (ah 7 (av (D.N k [1,1,1,1,1,1,1]) D.K0)) a1 jN kd ke=Q3 k a1 jN kd ke:=funext λz=>Rc k a1 jN kd ke z;refine (ap _ _ _ (T3 a1 jN kd ke) (λself v=>B3 k self (Rj (ah 7 (av (D.N k [1,1,1,1,1,1,1]) D.K0)) a1 jN kd ke) a1 jN kd ke v) (λrec v=>aaT k rec (ah 7 (av (D.N k [1,1,1,1,1,1,1]) D.K0)) a1 jN kd ke v) k o6).trans ?_;rw[h7];rfl
noncomputable def q2 (l3:(List Seen)->(List ((List Int)×Row))->Int->((List Seen)×(List ((List Int)×Bool))×Int)->OO) (a1:Arg) (jM:List Seen) (jo:List Seen) (jq:List ((List Int)×Row)) (j_:Int) (FI:(Unit)):OO:=l3 jo jq (jo.length:Int) (jM,([]:List ((List Int)×Bool)),(0:Int))
noncomputable def Q2 (k:Nat) (a1:Arg) (jM:List Seen) (jo:List Seen) (jq:List ((List Int)×Row)) (j_:Int) (FI:(Unit)):OO:=q2 (r3 k a1 jM jo jq j_) a1 jM jo jq j_ FI
theorem vv (k:Nat) (a1:Arg) (jM:List Seen) (jo:List Seen) (jq:List ((List Int)×Row)) (j_:Int) (FI:(Unit)):Ri (ah 5 (av (D.N k [1,1,1,1,1]) D.K0)) a1 jM jo jq j_ FI=Q2 k a1 jM jo jq j_ FI:=
 aQ (b:=q2 (s3 k a1 jM jo jq j_) a1 jM jo jq j_ FI) (by kernel_rfl) (by rw[Ra];rfl)
noncomputable def s2 (k:Nat) (a1:Arg):(List Seen)->(List Seen)->(List ((List Int)×Row))->Int->(Int)->OO:=λjM jo jq j_=>λth=>D.L k [1,1,1,1,0,1,0,0] [4,5,6,81,82,83] [] (ah 5 (av (D.N k [1,1,1,1,1]) D.K0)) (T2 a1 jM jo jq j_ th)
noncomputable def r2 (k:Nat) (a1:Arg):(List Seen)->(List Seen)->(List ((List Int)×Row))->Int->(Int)->OO:=λjM jo jq j_=>al (λw v=>B2 k w (Q2 k a1 jM jo jq j_) a1 jM jo jq j_ v) k
theorem su (k:Nat) (a1:Arg):s2 k a1=r2 k a1:=by
 funext jM;funext jo;funext jq;funext j_;funext th;have h5:Ri (ah 5 (av (D.N k [1,1,1,1,1]) D.K0)) a1 jM jo jq j_=Q2 k a1 jM jo jq j_:=funext λz=>vv k a1 jM jo jq j_ z;refine (ap _ _ _ (T2 a1 jM jo jq j_) (λself v=>B2 k self (Ri (ah 5 (av (D.N k [1,1,1,1,1]) D.K0)) a1 jM jo jq j_) a1 jM jo jq j_ v) (λrec v=>Rb k rec (ah 5 (av (D.N k [1,1,1,1,1]) D.K0)) a1 jM jo jq j_ v) k th).trans ?_;rw[h5];rfl
noncomputable def q1 (l2:(List Seen)->(List Seen)->(List ((List Int)×Row))->Int->(Int)->OO) (a1:Arg) (yg:((List Seen)×(List Seen)×(List ((List Int)×Row)))):OO:=l2 yg.1 yg.2.1 yg.2.2 (yg.2.1.length:Int) (0:Int)
noncomputable def Q1 (k:Nat) (a1:Arg) (yg:((List Seen)×(List Seen)×(List ((List Int)×Row)))):OO:=q1 (r2 k a1) a1 yg
theorem qX (k:Nat) (a1:Arg) (yg:((List Seen)×(List Seen)×(List ((List Int)×Row)))):cx (ah 0 (av (D.N k [1,1,1,1]) D.K0)) a1 yg=Q1 k a1 yg:=
 aQ (b:=q1 (s2 k a1) a1 yg) (by kernel_rfl) (by rw[su];rfl)
noncomputable def s0 (k:Nat) (a1:Arg):((List Seen)×(List Seen)×(List ((List Int)×Row))×(List (List UInt8))×Int×Int)->OO:=λU=>D.L k [1,1,1,0,1,0,0] [4,5,6,21,22,23] [] (ah 0 (av (D.N k [1,1,1,1]) D.K0)) (T0 a1 U)
noncomputable def r0 (k:Nat) (a1:Arg):((List Seen)×(List Seen)×(List ((List Int)×Row))×(List (List UInt8))×Int×Int)->OO:=al (λw v=>B0 k w (Q1 k a1) a1 v) k
theorem aq (k:Nat) (a1:Arg):s0 k a1=r0 k a1:=by
 funext U;have h0:cx (ah 0 (av (D.N k [1,1,1,1]) D.K0)) a1=Q1 k a1:=funext λz=>qX k a1 z;refine (ap _ _ _ (T0 a1) (λself v=>B0 k self (cx (ah 0 (av (D.N k [1,1,1,1]) D.K0)) a1) a1 v) (λrec v=>lB k rec (ah 0 (av (D.N k [1,1,1,1]) D.K0)) a1 v) k U).trans ?_;rw[h0];rfl
noncomputable def p (l0:((List Seen)×(List Seen)×(List ((List Int)×Row))×(List (List UInt8))×Int×Int)->OO) (a1:Arg):OO:=l0 (([]:List Seen),([]:List Seen),([]:List ((List Int)×Row)),a1.1,(a1.1.length:Int),(0:Int))
theorem ae (k:Nat) (a1:Arg):@Eq OO (D.W k a1) (p (r0 k a1) a1):=
 aQ (b:=p (s0 k a1) a1) (by kernel_rfl) (by rw[aq])
theorem ok:Ok prog 174 D.sig:=am func174 aw (by kernel_rfl) (fc il.ok (fc e8.ok (fc ic.ok (fc j6.ok (fc lZ.ok (fc o5.ok (aj _)))))))
end bp
namespace fq
abbrev Arg:Type:=(List (List UInt8))×Unit
abbrev Out:Type:=(List Seen)×Int×Unit
abbrev OO:=Option Out
noncomputable def D:FD:={ fn:=f99,tl:=bc,ps:=[(.ro,(.aa (.aa u8)))],rs:=[((.aa gc),(ai (.aa gc))),(i64,(ak i64))],gl:=[(169,bh.D.sig),(170,e8.D.sig),(171,ic.D.sig),(172,j6.D.sig),(173,lZ.D.sig),(174,bp.D.sig)],lv:=[(4,[0,11,12,13]),(10,[0,5,11,12,13,23,24])],lx:=[(0,[0]),(2,[0,11,12,13])] }
noncomputable def ab (a:Arg):OO:=@lift Out λk=>D.W k a
noncomputable def T0 (a1:Arg) (U:(List (List UInt8))×(List (List UInt8))×Int×Int):St:={ n:=44,sl:=[(0,.val (.aa (.aa u8)) U.1),(11,.val (.aa (.aa u8)) U.2.1),(12,.val i64 U.2.2.1),(13,.val i64 U.2.2.2)],vr:=[],az:=[] }
noncomputable def S0 (rec:RT Out) (a1:Arg):((List (List UInt8))×(List (List UInt8))×Int×Int)->OO:=λU=>rec (T0 a1 U)
noncomputable def cx (K:KT Out) (a1:Arg):(List (List UInt8))->OO:=λz=>K (.exit 0) ({ n:=44,sl:=[(0,.val (.aa (.aa u8)) z)],vr:=[],az:=[] })
noncomputable def T1 (a1:Arg) (dy:List (List UInt8)) (d0:List UInt8) (cr:List (List UInt8)) (iy:Int) (kR:Int) (o7:Int) (fd:Int):St:={ n:=44,sl:=[(0,.val (.aa (.aa u8)) dy),(5,.val (.aa u8) d0),(11,.val (.aa (.aa u8)) cr),(12,.val i64 iy),(13,.val i64 kR),(23,.val i64 o7),(24,.val i64 fd)],vr:=[],az:=[] }
noncomputable def b1 (self:Int->OO) (e2:(Unit)->OO) (a1:Arg) (dy:List (List UInt8)) (d0:List UInt8) (cr:List (List UInt8)) (iy:Int) (kR:Int) (o7:Int) (fd:Int):OO:=bif decide (fd < o7) then ((ic.ab (d0,fd,())).bind λsw=>bif sw.1 then ((lZ.ab (d0,fd,())).bind λBo=>(j6.ab (Bo.1,())).bind λaaZ=>bif !decide (aaZ.1.1=(0:Int)) then (some (([]:List Seen),(5:Int),())) else self (af (fd+(1:Int)))) else self (af (fd+(1:Int)))) else e2 ()
noncomputable def q0 (self:((List (List UInt8))×(List (List UInt8))×Int×Int)->OO) (e0:(List (List UInt8))->OO) (a1:Arg) (dy:List (List UInt8)) (d0:List UInt8) (cr:List (List UInt8)) (iy:Int) (kR:Int) (o7:Int) (Lb:(Unit)):OO:=self (dy,cr,iy,af (kR+(1:Int)))
noncomputable def s1 (k:Nat) (rec:RT Out) (K:KT Out) (a1:Arg):(List (List UInt8))->(List UInt8)->(List (List UInt8))->Int->Int->Int->(Int)->OO:=λdy d0 cr iy kR o7=>λfd=>D.L k [1,1,0,1,0,0,1,1,0,0,1,1,1,0,0] [0,5,11,12,13,23,24] [] (ah 2 (ah 1 (av (D.N k [1,1,0,1,0,0,1,1,1]) (iV rec (fw [0,11,12,13] []) K)))) (T1 a1 dy d0 cr iy kR o7 fd)
noncomputable def r1 (k:Nat) (self:((List (List UInt8))×(List (List UInt8))×Int×Int)->OO) (e0:(List (List UInt8))->OO) (a1:Arg):(List (List UInt8))->(List UInt8)->(List (List UInt8))->Int->Int->Int->(Int)->OO:=λdy d0 cr iy kR o7=>al (λw v=>b1 w (q0 self e0 a1 dy d0 cr iy kR o7) a1 dy d0 cr iy kR o7 v) k
theorem lC (k:Nat) (rec:RT Out) (K:KT Out) (a1:Arg):s1 k rec K a1=r1 k (S0 rec a1) (cx K a1) a1:=
 funext λdy=>funext λd0=>funext λcr=>funext λiy=>funext λkR=>funext λo7=>funext λfd=>ap _ _ _ (T1 a1 dy d0 cr iy kR o7) _ (λrec v=>by kernel_rfl) k fd
noncomputable def b0 (self:((List (List UInt8))×(List (List UInt8))×Int×Int)->OO) (e0:(List (List UInt8))->OO) (l1:(List (List UInt8))->(List UInt8)->(List (List UInt8))->Int->Int->Int->(Int)->OO) (a1:Arg) (U:(List (List UInt8))×(List (List UInt8))×Int×Int):OO:=bif decide (U.2.2.2 < U.2.2.1) then (if 0<=U.2.2.2 then ((U.2.1[U.2.2.2.toNat]?).bind λa8=>(bh.ab (a8,())).bind λdg=>bif !decide (dg.1=(0:Int)) then (some (([]:List Seen),dg.1,())) else (e8.ab (a8,())).bind λls=>l1 U.1 a8 U.2.1 U.2.2.1 U.2.2.2 ls.1 (0:Int)) else none) else e0 U.1
noncomputable def B0 (k:Nat) (self:((List (List UInt8))×(List (List UInt8))×Int×Int)->OO) (e0:(List (List UInt8))->OO) (a1:Arg) (U:(List (List UInt8))×(List (List UInt8))×Int×Int):OO:=b0 self e0 (r1 k self e0 a1) a1 U
theorem lB (k:Nat) (rec:RT Out) (K:KT Out) (a1:Arg) (U:(List (List UInt8))×(List (List UInt8))×Int×Int):D.N k [1,1,0,1,0,0] (T0 a1 U) (iV rec (fw [0,11,12,13] []) K)=B0 k (S0 rec a1) (cx K a1) a1 U:=
 aQ (b:=b0 (S0 rec a1) (cx K a1) (s1 k rec K a1) a1 U) (by kernel_rfl) (by rw[lC];rfl)
noncomputable def q1 (a1:Arg) (Bq:(List (List UInt8))):OO:=(bp.ab (Bq,())).bind λXg=>some (Xg.1,Xg.2.1,())
theorem qX (k:Nat) (a1:Arg) (Bq:(List (List UInt8))):cx (ah 0 (av (D.N k [1,1,1]) D.K0)) a1 Bq=q1 a1 Bq:=by kernel_rfl
noncomputable def s0 (k:Nat) (a1:Arg):((List (List UInt8))×(List (List UInt8))×Int×Int)->OO:=λU=>D.L k [1,1,0,1,0,0] [0,11,12,13] [] (ah 0 (av (D.N k [1,1,1]) D.K0)) (T0 a1 U)
noncomputable def r0 (k:Nat) (a1:Arg):((List (List UInt8))×(List (List UInt8))×Int×Int)->OO:=al (λw v=>B0 k w (q1 a1) a1 v) k
theorem aq (k:Nat) (a1:Arg):s0 k a1=r0 k a1:=by
 funext U;have h0:cx (ah 0 (av (D.N k [1,1,1]) D.K0)) a1=q1 a1:=funext λz=>qX k a1 z;refine (ap _ _ _ (T0 a1) (λself v=>B0 k self (cx (ah 0 (av (D.N k [1,1,1]) D.K0)) a1) a1 v) (λrec v=>lB k rec (ah 0 (av (D.N k [1,1,1]) D.K0)) a1 v) k U).trans ?_;rw[h0];rfl
noncomputable def p (l0:((List (List UInt8))×(List (List UInt8))×Int×Int)->OO) (a1:Arg):OO:=bif decide ((12:Int) < (a1.1.length:Int)) then (some (([]:List Seen),(2:Int),())) else l0 (a1.1,a1.1,(a1.1.length:Int),(0:Int))
theorem ae (k:Nat) (a1:Arg):@Eq OO (D.W k a1) (p (r0 k a1) a1):=
 aQ (b:=p (s0 k a1) a1) (by kernel_rfl) (by rw[aq])
theorem ok:Ok prog 99 D.sig:=am func99 aw (by kernel_rfl) (fc bh.ok (fc e8.ok (fc ic.ok (fc j6.ok (fc lZ.ok (fc bp.ok (aj _)))))))
end fq
namespace f0
abbrev Arg:Type:=(List Row)×Unit
abbrev Out:Type:=Int×Unit
abbrev OO:=Option Out
noncomputable def D:FD:={ fn:=f103,tl:=bc,ps:=[(.ro,(.aa bd))],rs:=[(i64,(ak i64))],gl:=[(132,il.D.sig),(179,ef.D.sig)],lv:=[(4,[0,9,10,11])],lx:=[(0,[])],od:=[(9,[0,1,2,3,4,5,6,7,8,9,10,11])] }
noncomputable def ab (a:Arg):OO:=@lift Out λk=>D.W k a
noncomputable def T0 (a1:Arg) (U:Int):St:={ n:=34,sl:=[(0,.val (.aa bd) a1.1),(9,.val (.aa bd) a1.1),(10,.val i64 (a1.1.length:Int)),(11,.val i64 U)],vr:=[],az:=[] }
noncomputable def b0 (self:Int->OO) (e0:(Unit)->OO) (a1:Arg) (U:Int):OO:=bif decide (U < (a1.1.length:Int)) then (if 0<=U then ((a1.1[U.toNat]?).bind λa8=>(ef.ab (a8,())).bind λdg=>bif !decide (dg.1=(0:Int)) then (some (dg.1,())) else bif decide ((0:Int) < U) then (if 0<=af (U - (1:Int)) then ((a1.1[(af (U - (1:Int))).toNat]?).bind λdw=>(il.ab (dw,a8,())).bind λjy=>bif !jy.1 then (some ((1:Int),())) else self (af (U+(1:Int)))) else none) else self (af (U+(1:Int)))) else none) else e0 ()
noncomputable def q0 (a1:Arg) (lg:(Unit)):OO:=some ((0:Int),())
noncomputable def s0 (k:Nat) (a1:Arg):(Int)->OO:=λU=>D.L k [1,1,0,1,0,0] [0,9,10,11] [] (ah 0 (av (D.N k [1,1,1]) D.K0)) (T0 a1 U)
noncomputable def r0 (k:Nat) (a1:Arg):(Int)->OO:=al (λw v=>b0 w (q0 a1) a1 v) k
theorem aq (k:Nat) (a1:Arg):s0 k a1=r0 k a1:=
 funext λU=>ap _ _ _ (T0 a1) _ (λrec v=>by kernel_rfl) k U
noncomputable def p (l0:(Int)->OO) (a1:Arg):OO:=bif decide ((60:Int) < (a1.1.length:Int)) then (some ((2:Int),())) else l0 (0:Int)
theorem ae (k:Nat) (a1:Arg):@Eq OO (D.W k a1) (p (r0 k a1) a1):=
 aQ (b:=p (s0 k a1) a1) (by kernel_rfl) (by rw[aq])
theorem ok:Ok prog 103 D.sig:=am func103 aw (by kernel_rfl) (fc il.ok (fc ef.ok (aj _)))
end f0
namespace iF
abbrev Arg:Type:=Change×Unit
abbrev Out:Type:=Int×Unit
noncomputable def D:FD:={ fn:=f208,tl:=bc,ps:=[(.ro,an)],rs:=[(i64,(ak i64))],gl:=[(179,ef.D.sig),(186,lE.D.sig)] }
noncomputable def ab (a:Arg):Option Out:=@lift Out λk=>D.W k a
noncomputable def p (a1:Arg):Option Out:=let j7:Option Out:=bif a1.1.1 then ((ef.ab (a1.1.2.1,())).bind λr8=>bif !decide (r8.1=(0:Int)) then (some (r8.1,())) else bif a1.1.2.2.1 then ((ef.ab (a1.1.2.2.2.1,())).bind λuY=>some (uY.1,())) else some ((0:Int),())) else bif a1.1.2.2.1 then ((ef.ab (a1.1.2.2.2.1,())).bind λtA=>some (tA.1,())) else some ((0:Int),());bif !a1.1.1 then (bif !a1.1.2.2.1 then (some ((1:Int),())) else bif a1.1.1 then (bif a1.1.2.2.1 then ((lE.ab (a1.1.2.1,a1.1.2.2.2.1,())).bind λr2=>bif !decide (r2.1=(0:Int)) then (some ((1:Int),())) else j7) else j7) else j7) else bif a1.1.1 then (bif a1.1.2.2.1 then ((lE.ab (a1.1.2.1,a1.1.2.2.2.1,())).bind λr3=>bif !decide (r3.1=(0:Int)) then (some ((1:Int),())) else j7) else j7) else j7
theorem ae (k:Nat) (a1:Arg):@Eq (Option Out) (D.W k a1) (p a1):=by kernel_rfl
theorem ok:Ok prog 208 D.sig:=am func208 aw (by kernel_rfl) (fc ef.ok (fc lE.ok (aj _)))
end iF
namespace kh
abbrev Arg:Type:=Change×Unit
abbrev Out:Type:=Int×Unit
noncomputable def D:FD:={ fn:=f131,tl:=bc,ps:=[(.ro,an)],rs:=[(i64,(ak i64))],gl:=[(208,iF.D.sig)] }
noncomputable def ab (a:Arg):Option Out:=@lift Out λk=>D.W k a
noncomputable def p (a1:Arg):Option Out:=(iF.ab (a1.1,())).bind λr2=>bif !decide (r2.1=(0:Int)) then (some (r2.1,())) else bif a1.1.1 then (bif a1.1.2.2.1 then (bif (Ty.eq bd a1.1.2.1 a1.1.2.2.2.1) then (some ((1:Int),())) else some ((0:Int),())) else some ((0:Int),())) else some ((0:Int),())
theorem ae (k:Nat) (a1:Arg):@Eq (Option Out) (D.W k a1) (p a1):=by kernel_rfl
theorem ok:Ok prog 131 D.sig:=am func131 aw (by kernel_rfl) (fc iF.ok (aj _))
end kh
namespace du
abbrev Arg:Type:=Change×Unit
abbrev Out:Type:=Row×Unit
noncomputable def D:FD:={ fn:=f133,tl:=bc,ps:=[(.ro,an)],rs:=[(bd,(ak bd))] }
noncomputable def ab (a:Arg):Option Out:=@lift Out λk=>D.W k a
noncomputable def p (a1:Arg):Option Out:=bif a1.1.2.2.1 then (some (a1.1.2.2.2.1,())) else some (a1.1.2.1,())
theorem ae (k:Nat) (a1:Arg):@Eq (Option Out) (D.W k a1) (p a1):=by kernel_rfl
theorem ok:Ok prog 133 D.sig:=am func133 aw (by kernel_rfl) (aj _)
end du
namespace nl
abbrev Arg:Type:=Change×Unit
abbrev Out:Type:=Key×Unit
noncomputable def D:FD:={ fn:=f196,tl:=bc,ps:=[(.ro,an)],rs:=[(be,(ak be))],gl:=[(133,du.D.sig)],od:=[(1,[0,3,1,2,4,5,6,7])] }
noncomputable def ab (a:Arg):Option Out:=@lift Out λk=>D.W k a
noncomputable def p (a1:Arg):Option Out:=(du.ab (a1.1,())).bind λr2=>(du.ab (a1.1,())).bind λr3=>some ((r2.1.1,r3.1.2.1,()),())
theorem ae (k:Nat) (a1:Arg):@Eq (Option Out) (D.W k a1) (p a1):=by kernel_rfl
theorem ok:Ok prog 196 D.sig:=am func196 aw (by kernel_rfl) (fc du.ok (aj _))
end nl
namespace jC
abbrev Arg:Type:=(List Key)×Key×Unit
abbrev Out:Type:=Int×Unit
abbrev OO:=Option Out
noncomputable def D:FD:={ fn:=f305,tl:=bc,ps:=[(.ro,(.aa be)),(.ro,be)],rs:=[(i64,(ak i64))],lv:=[(2,[0,3,7,8])],lx:=[(0,[])],od:=[(4,[0,1,2,3,4,5])] }
noncomputable def ab (a:Arg):OO:=@lift Out λk=>D.W k a
noncomputable def T0 (a1:Arg) (U:Int):St:={ n:=19,sl:=[(0,.val (.aa be) a1.1),(3,.box be (ak be) [] a1.2.1),(7,.val i64 (a1.1.length:Int)),(8,.val i64 U)],vr:=[],az:=[] }
noncomputable def b0 (self:Int->OO) (e0:(Unit)->OO) (a1:Arg) (U:Int):OO:=bif decide (U < (a1.1.length:Int)) then (if 0<=U then ((a1.1[U.toNat]?).bind λa8=>bif (Ty.eq be a1.2.1 a8) then (some (U,())) else self (af (U+(1:Int)))) else none) else e0 ()
noncomputable def q0 (a1:Arg) (mM:(Unit)):OO:=some ((-1:Int),())
noncomputable def s0 (k:Nat) (a1:Arg):(Int)->OO:=λU=>D.L k [1,0,1,0,0] [0,3,7,8] [] (ah 0 (av (D.N k [1,1]) D.K0)) (T0 a1 U)
noncomputable def r0 (k:Nat) (a1:Arg):(Int)->OO:=al (λw v=>b0 w (q0 a1) a1 v) k
theorem aq (k:Nat) (a1:Arg):s0 k a1=r0 k a1:=
 funext λU=>ap _ _ _ (T0 a1) _ (λrec v=>by kernel_rfl) k U
noncomputable def p (l0:(Int)->OO) (a1:Arg):OO:=l0 (0:Int)
theorem ae (k:Nat) (a1:Arg):@Eq OO (D.W k a1) (p (r0 k a1) a1):=
 aQ (b:=p (s0 k a1) a1) (by kernel_rfl) (by rw[aq])
theorem ok:Ok prog 305 D.sig:=am func305 aw (by kernel_rfl) (aj _)
end jC
namespace kw
abbrev Arg:Type:=(List Key)×Key×Unit
abbrev Out:Type:=Bool×Unit
noncomputable def D:FD:={ fn:=f258,tl:=bc,ps:=[(.ro,(.aa be)),(.ro,be)],rs:=[(.bool,(ak .bool))],gl:=[(305,jC.D.sig)] }
noncomputable def ab (a:Arg):Option Out:=@lift Out λk=>D.W k a
noncomputable def p (a1:Arg):Option Out:=(jC.ab (a1.1,a1.2.1,())).bind λr2=>some (decide ((0:Int)<=r2.1),())
theorem ae (k:Nat) (a1:Arg):@Eq (Option Out) (D.W k a1) (p a1):=by kernel_rfl
theorem ok:Ok prog 258 D.sig:=am func258 aw (by kernel_rfl) (fc jC.ok (aj _))
end kw
namespace sB
abbrev Arg:Type:=Int×Int×Unit
abbrev Out:Type:=Bool×Unit
noncomputable def D:FD:={ fn:=f259,tl:=bc,ps:=[(.ro,i64),(.ro,i64)],rs:=[(.bool,(ak .bool))],gl:=[(98,h_.D.sig)] }
noncomputable def ab (a:Arg):Option Out:=@lift Out λk=>D.W k a
noncomputable def p (a1:Arg):Option Out:=(h_.ab (a1.1,(0:Int),(3:Int),())).bind λr2=>bif r2.1 then ((h_.ab (a1.2.1,(1:Int),(99:Int),())).bind λr3=>some (r3.1,())) else some (false,())
theorem ae (k:Nat) (a1:Arg):@Eq (Option Out) (D.W k a1) (p a1):=by kernel_rfl
theorem ok:Ok prog 259 D.sig:=am func259 aw (by kernel_rfl) (fc h_.ok (aj _))
end sB
namespace dh
abbrev Arg:Type:=Tx×Unit
abbrev Out:Type:=Int×Unit
abbrev OO:=Option Out
noncomputable def D:FD:={ fn:=f180,tl:=bc,ps:=[(.ro,ca)],rs:=[(i64,(ak i64))],gl:=[(98,h_.D.sig),(131,kh.D.sig),(196,nl.D.sig),(258,kw.D.sig),(259,sB.D.sig)],lv:=[(2,[1,12,13,14]),(14,[1,6,41,42,43]),(21,[1,57,58,59])],lx:=[(0,[1]),(2,[1]),(4,[])],od:=[(7,[0,1,2,3,4,5]),(25,[0,1,2,3,4,5])] }
noncomputable def ab (a:Arg):OO:=@lift Out λk=>D.W k a
noncomputable def T0 (a1:Arg) (U:Int):St:={ n:=77,sl:=[(1,.box ca (ak ca) [] a1.1),(12,.val (.aa an) a1.1.2.1),(13,.val i64 (a1.1.2.1.length:Int)),(14,.val i64 U)],vr:=[],az:=[] }
noncomputable def S0 (rec:RT Out) (a1:Arg):(Int)->OO:=λU=>rec (T0 a1 U)
noncomputable def cx (K:KT Out) (a1:Arg):(Unit)->OO:=λz=>K (.exit 0) ({ n:=77,sl:=[(1,.box ca (ak ca) [] a1.1)],vr:=[],az:=[] })
noncomputable def b0 (self:Int->OO) (e0:(Unit)->OO) (a1:Arg) (U:Int):OO:=bif decide (U < (a1.1.2.1.length:Int)) then (if 0<=U then ((a1.1.2.1[U.toNat]?).bind λa8=>(kh.ab (a8,())).bind λdg=>bif !decide (dg.1=(0:Int)) then (some (dg.1,())) else (nl.ab (a8,())).bind λls=>(kw.ab (a1.1.2.2.2.1,ls.1,())).bind λjy=>bif !jy.1 then (some ((8:Int),())) else self (af (U+(1:Int)))) else none) else e0 ()
theorem lB (k:Nat) (rec:RT Out) (K:KT Out) (a1:Arg) (U:Int):D.N k [1,0,1,0,0] (T0 a1 U) (iV rec (fw [1,12,13,14] []) K)=b0 (S0 rec a1) (cx K a1) a1 U:=by kernel_rfl
noncomputable def T1 (a1:Arg) (de:Int×Int):St:={ n:=77,sl:=[(1,.box ca (ak ca) [] a1.1),(6,.val i64 de.1),(41,.val (.aa i64) a1.1.2.2.1),(42,.val i64 (a1.1.2.2.1.length:Int)),(43,.val i64 de.2)],vr:=[],az:=[] }
noncomputable def S1 (rec:RT Out) (a1:Arg):(Int×Int)->OO:=λde=>rec (T1 a1 de)
noncomputable def jA (K:KT Out) (a1:Arg):(Unit)->OO:=λz=>K (.exit 2) ({ n:=77,sl:=[(1,.box ca (ak ca) [] a1.1)],vr:=[],az:=[] })
noncomputable def b1 (self:(Int×Int)->OO) (e2:(Unit)->OO) (a1:Arg) (de:Int×Int):OO:=bif decide (de.2 < (a1.1.2.2.1.length:Int)) then (if 0<=de.2 then ((a1.1.2.2.1[de.2.toNat]?).bind λFH=>(h_.ab (FH,de.1,(a1.1.2.1.length:Int),())).bind λzr=>bif !zr.1 then (some ((3:Int),())) else self (FH,af (de.2+(1:Int)))) else none) else e2 ()
theorem tT (k:Nat) (rec:RT Out) (K:KT Out) (a1:Arg) (de:Int×Int):D.N k [1,1,1,1,0,1,0,0] (T1 a1 de) (iV rec (fw [1,6,41,42,43] []) K)=b1 (S1 rec a1) (jA K a1) a1 de:=by kernel_rfl
noncomputable def T2 (a1:Arg) (mZ:Int):St:={ n:=77,sl:=[(1,.box ca (ak ca) [] a1.1),(57,.val (.aa be) a1.1.2.2.2.1),(58,.val i64 (a1.1.2.2.2.1.length:Int)),(59,.val i64 mZ)],vr:=[],az:=[] }
noncomputable def b2 (self:Int->OO) (e4:(Unit)->OO) (a1:Arg) (mZ:Int):OO:=bif decide (mZ < (a1.1.2.2.2.1.length:Int)) then (if 0<=mZ then ((a1.1.2.2.2.1[mZ.toNat]?).bind λC5=>(sB.ab (C5.1,C5.2.1,())).bind λQY=>bif !QY.1 then (some ((3:Int),())) else if 0<=mZ/\mZ<=(a1.1.2.2.2.1.length:Int) then ((kw.ab ((a1.1.2.2.2.1.take mZ.toNat).drop 0,C5,())).bind λaa0=>bif aa0.1 then (some ((6:Int),())) else self (af (mZ+(1:Int)))) else none) else none) else e4 ()
noncomputable def q2 (a1:Arg) (vu:(Unit)):OO:=some ((0:Int),())
noncomputable def s2 (k:Nat) (a1:Arg):(Int)->OO:=λmZ=>D.L k [1,1,1,1,1,0,1,0,0] [1,57,58,59] [] (ah 4 (av (D.N k [1,1,1,1,1,1]) D.K0)) (T2 a1 mZ)
noncomputable def r2 (k:Nat) (a1:Arg):(Int)->OO:=al (λw v=>b2 w (q2 a1) a1 v) k
theorem su (k:Nat) (a1:Arg):s2 k a1=r2 k a1:=
 funext λmZ=>ap _ _ _ (T2 a1) _ (λrec v=>by kernel_rfl) k mZ
noncomputable def q1 (l2:(Int)->OO) (a1:Arg) (C8:(Unit)):OO:=l2 (0:Int)
noncomputable def Q1 (k:Nat) (a1:Arg) (C8:(Unit)):OO:=q1 (r2 k a1) a1 C8
theorem qX (k:Nat) (a1:Arg) (C8:(Unit)):jA (ah 2 (av (D.N k [1,1,1,1,1]) D.K0)) a1 C8=Q1 k a1 C8:=
 aQ (b:=q1 (s2 k a1) a1 C8) (by kernel_rfl) (by rw[su];rfl)
noncomputable def s1 (k:Nat) (a1:Arg):(Int×Int)->OO:=λde=>D.L k [1,1,1,1,0,1,0,0] [1,6,41,42,43] [] (ah 2 (av (D.N k [1,1,1,1,1]) D.K0)) (T1 a1 de)
noncomputable def r1 (k:Nat) (a1:Arg):(Int×Int)->OO:=al (λw v=>b1 w (Q1 k a1) a1 v) k
theorem lC (k:Nat) (a1:Arg):s1 k a1=r1 k a1:=by
 funext de;have h2:jA (ah 2 (av (D.N k [1,1,1,1,1]) D.K0)) a1=Q1 k a1:=funext λz=>qX k a1 z;refine (ap _ _ _ (T1 a1) (λself v=>b1 self (jA (ah 2 (av (D.N k [1,1,1,1,1]) D.K0)) a1) a1 v) (λrec v=>tT k rec (ah 2 (av (D.N k [1,1,1,1,1]) D.K0)) a1 v) k de).trans ?_;rw[h2];rfl
noncomputable def q0 (l1:(Int×Int)->OO) (a1:Arg) (lg:(Unit)):OO:=bif decide ((8:Int) < (a1.1.2.2.1.length:Int)) then (some ((2:Int),())) else bif decide ((12:Int) < (a1.1.2.2.2.1.length:Int)) then (some ((2:Int),())) else l1 ((0:Int),(0:Int))
noncomputable def Q0 (k:Nat) (a1:Arg) (lg:(Unit)):OO:=q0 (r1 k a1) a1 lg
theorem sv (k:Nat) (a1:Arg) (lg:(Unit)):cx (ah 0 (av (D.N k [1,1]) D.K0)) a1 lg=Q0 k a1 lg:=
 aQ (b:=q0 (s1 k a1) a1 lg) (by kernel_rfl) (by rw[lC];rfl)
noncomputable def s0 (k:Nat) (a1:Arg):(Int)->OO:=λU=>D.L k [1,0,1,0,0] [1,12,13,14] [] (ah 0 (av (D.N k [1,1]) D.K0)) (T0 a1 U)
noncomputable def r0 (k:Nat) (a1:Arg):(Int)->OO:=al (λw v=>b0 w (Q0 k a1) a1 v) k
theorem aq (k:Nat) (a1:Arg):s0 k a1=r0 k a1:=by
 funext U;have h0:cx (ah 0 (av (D.N k [1,1]) D.K0)) a1=Q0 k a1:=funext λz=>sv k a1 z;refine (ap _ _ _ (T0 a1) (λself v=>b0 self (cx (ah 0 (av (D.N k [1,1]) D.K0)) a1) a1 v) (λrec v=>lB k rec (ah 0 (av (D.N k [1,1]) D.K0)) a1 v) k U).trans ?_;rw[h0];rfl
noncomputable def p (l0:(Int)->OO) (a1:Arg):OO:=l0 (0:Int)
theorem ae (k:Nat) (a1:Arg):@Eq OO (D.W k a1) (p (r0 k a1) a1):=
 aQ (b:=p (s0 k a1) a1) (by kernel_rfl) (by rw[aq])
theorem ok:Ok prog 180 D.sig:=am func180 aw (by kernel_rfl) (fc h_.ok (fc kh.ok (fc nl.ok (fc kw.ok (fc sB.ok (aj _))))))
end dh
namespace ny
abbrev Arg:Type:=(List Tx)×Unit
abbrev Out:Type:=Int×Unit
abbrev OO:=Option Out
noncomputable def D:FD:={ fn:=f181,tl:=bc,ps:=[(.ro,(.aa ca))],rs:=[(i64,(ak i64))],lv:=[(3,[3,6,7,8])],lx:=[(0,[3])] }
noncomputable def ab (a:Arg):OO:=@lift Out λk=>D.W k a
noncomputable def T0 (a1:Arg) (U:Int×Int):St:={ n:=19,sl:=[(3,.val i64 U.1),(6,.val (.aa ca) a1.1),(7,.val i64 (a1.1.length:Int)),(8,.val i64 U.2)],vr:=[],az:=[] }
noncomputable def b0 (self:(Int×Int)->OO) (e0:Int->OO) (a1:Arg) (U:Int×Int):OO:=bif decide (U.2 < (a1.1.length:Int)) then (if 0<=U.2 then ((a1.1[U.2.toNat]?).bind λa8=>self (af (U.1+(a8.2.1.length:Int)),af (U.2+(1:Int)))) else none) else e0 U.1
noncomputable def q0 (a1:Arg) (mM:Int):OO:=some (mM,())
noncomputable def s0 (k:Nat) (a1:Arg):(Int×Int)->OO:=λU=>D.L k [1,1,0,1,0,0] [3,6,7,8] [] (ah 0 (av (D.N k [1,1,1]) D.K0)) (T0 a1 U)
noncomputable def r0 (k:Nat) (a1:Arg):(Int×Int)->OO:=al (λw v=>b0 w (q0 a1) a1 v) k
theorem aq (k:Nat) (a1:Arg):s0 k a1=r0 k a1:=
 funext λU=>ap _ _ _ (T0 a1) _ (λrec v=>by kernel_rfl) k U
noncomputable def p (l0:(Int×Int)->OO) (a1:Arg):OO:=l0 ((0:Int),(0:Int))
theorem ae (k:Nat) (a1:Arg):@Eq OO (D.W k a1) (p (r0 k a1) a1):=
 aQ (b:=p (s0 k a1) a1) (by kernel_rfl) (by rw[aq])
theorem ok:Ok prog 181 D.sig:=am func181 aw (by kernel_rfl) (aj _)
end ny
end OT
